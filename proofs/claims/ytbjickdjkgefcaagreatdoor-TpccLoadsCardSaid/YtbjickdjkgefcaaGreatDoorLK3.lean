/- The document's side: All, begins, of. -/
import Derived.Test.YtbjickdjkgefcaaGreatDoorLN4
section
open Go Go.RowKit Go.Proofs.YtbjickdjkgefcaaGreatDoor.Vai
namespace Go.Proofs.YtbjickdjkgefcaaGreatDoor
set_option linter.unusedVariables false
set_option linter.unusedSimpArgs false
set_option maxRecDepth 20000
theorem begins_any (w : World) (v1 v2 : Value) (m n : Nat) (h1 : IntsAt w v1 m) (h2 : IntsAt w v2 n) (hnm : n ≤ m) (hm : m ≤ 100) :
    Calls Tryz.prog 114 #[v1, v2] w fun e w' => ∃ b, e = .returned (.bool b) ∧ Below w.heap.size w w' := by
  obtain ⟨p1, c1, rfl, h1⟩ := h1
  obtain ⟨p2, c2, rfl, h2⟩ := h2
  have H1 := Lib.hid h1
  have H2 := Lib.hid h2
  clear h1 h2
  go_enter Tryz.func114, Tryz.ntmps114
  go_wp2_with fail
  go_loopw [5] (fun i wr => ∃ k : Nat, i = .int .i64 k ∧ k ≤ n ∧ Below w.heap.size w wr) (fun i _ => n - (intOf i).toNat)
  case atStart => exact ⟨0, rfl, Nat.zero_le _, Below.refl _ _⟩
  case round =>
    obtain ⟨k, rfl, hk, hb⟩ := hrel
    by_cases hlt : k < n
    · obtain ⟨g1, x, rfl, a⟩ := H1.out k (by omega)
      obtain ⟨g2, y, rfl, b⟩ := H2.out k hlt
      have a0 := (hb.cell (p := ⟨g1, k, none⟩) (cell_lt a)).trans a
      have b0 := (hb.cell (p := ⟨g2, k, none⟩) (cell_lt b)).trans b
      have HB := Lib.hid hb
      have i1 : (k : Int) < (m : Int) := by omega
      clear a b hb
      go_wp2_with fail
      go_region_held3 (fun w' => w'.cell? ⟨g1, k, none⟩ = some (.int .i64 x) ∧ w'.cell? ⟨g2, k, none⟩ = some (.int .i64 y))
        (first
          | exact ⟨a0, b0⟩)
        (fail)
      have hbw : Below w.heap.size w wr.drew := HB.out.drew
      clear a0 b0
      by_cases hxy : x = y
      · subst hxy
        go_wp2_with fail
        exact ⟨⟨k + 1, by go_num, hlt, hbw⟩, by simp [intOf]; omega⟩
      · go_wp2_with fail
        go_ret
        exact ⟨_, rfl, hbw⟩
    · obtain rfl : k = n := by omega
      go_wp2_with fail
      go_ret
      exact ⟨_, rfl, hb⟩
/-- So many rows have been told whole. -/
structure Told (w2 wr : World) (R : List (List Int)) (k : Nat) (out : Value) : Prop where
  rows : ∃ (us : List Value), wr.ownsRow w2.heap.size 52 1 out k us ∧ ∀ (i : Nat) (u : Value) (l : List Int), us[i]? = some u → R[i]? = some l → NRow wr u l
  bel : Below w2.heap.size w2 wr
theorem told_add {w2 wr w4 : World} {R : List (List Int)} {k : Nat} {out v1 : Value} {us : List Value} {l : List Int} {g cap : Nat} {o : Obj} (h3 : wr.ownsRow w2.heap.size 52 1 out k us) (h4 : ∀ (i : Nat) (u : Value) (l : List Int), us[i]? = some u → R[i]? = some l → NRow wr u l) (hb : Below w2.heap.size w2 wr) (hv : NRow wr v1 l) (hl : R[k]? = some l)
    (hown4 : w4.ownsRow w2.heap.size 52 1 (.slice (some ⟨g, 0, none⟩) (k + 1) cap) (k + 1) (us ++ [v1])) (hgrow : (wr.alloc o).grownBy w4 out.ownBlock) : Told w2 w4 R (k + 1) (.slice (some ⟨g, 0, none⟩) (k + 1) cap) := by
  have kt : KT [3] wr w4 := (KT.alloc _ _ _).trans (KT.grown hgrow (h3.alloc _) (by decide))
  have hus : us.length = k := by have := h3.1; omega
  refine ⟨⟨us ++ [v1], hown4, fun i u x hu hx => ?_⟩, ?_⟩
  · by_cases hi : i < us.length
    · rw [List.getElem?_append_left hi] at hu
      exact (h4 i u x hu hx).keep kt (by simp)
    · rw [List.getElem?_append_right (by omega)] at hu
      have e : i - us.length = 0 := by have := (List.getElem?_eq_some_iff.1 hu).1; simp at this; omega
      rw [e] at hu
      obtain rfl : i = k := by omega
      rw [hl] at hx
      cases hu; cases hx
      exact hv.keep kt (by simp)
  · exact (hb.alloc hb.size _).grown hgrow (by have := hb.size; simp; omega) (fun q hq => (h3.lt q hq).1)
set_option maxHeartbeats 1000000 in
theorem all_any (w : World) (d : Nat) (nm : ByteArray) (R : List (List Int)) (hR : R.length ≤ 10000) (hl : ∀ l ∈ R, l.length ≤ 100)
    (K38 : Calls Tryz.prog 38 #[.pointer (some ⟨d, 0, none⟩), .string nm] w fun e w' => ∃ v, e = .returned (.tuple #[v, .int .i64 0]) ∧ VRows w' v R ∧ (R = [] → v = .slice none 0 0) ∧ Below w.heap.size w w') :
    Calls Tryz.prog 48 #[.pointer (some ⟨d, 0, none⟩), .string nm] w fun e w' => ∃ v, e = .returned v ∧ NRows w' v R ∧ Below w.heap.size w w' := by
  obtain ⟨i0, z0, hi0, hz0, hs0, hb0', hc0⟩ := info52
  obtain ⟨j0, y0, hj0, hy0, ht0, hd0, hf0⟩ := info3
  have HL := Lib.hid hl
  clear hl
  go_enter Tryz.func48, Tryz.ntmps48
  go_wp2_with (first
    | (go_at_call 38; refine K38.mono ?_; rintro e w2 ⟨v2, rfl, hv2, hn2, hb2⟩; obtain ⟨p2, n2, c2, rfl⟩ := VRows_slice hv2))
  clear K38
  by_cases h0 : R.length = 0
  · have hR0 : R = [] := List.eq_nil_of_length_eq_zero h0
    have := hn2 hR0
    cases this
    clear hv2 hn2
    go_wp2_with fail
    go_loopw [7, 8] (fun out i wr => out = .slice none 0 0 ∧ i = .int .i64 0 ∧ wr = w2) (fun _ _ _ => 1)
    case atStart => exact ⟨rfl, rfl, rfl⟩
    case round =>
      obtain ⟨rfl, rfl, rfl⟩ := hrel
      go_wp2_with fail
      go_ret
      exact ⟨_, rfl, ⟨[], by rw [h0]; exact World.ownsRow_nil _ _ _ _, fun i u l h => by simp at h⟩, hb2⟩
  · obtain ⟨g2, c2', e2, hg2, hr2⟩ := hv2.read (by omega)
    cases e2
    have HR2 := Lib.hid hr2
    have HB2 := Lib.hid hb2
    have hK0 : Told w2 w2 R 0 (.slice none 0 0) := ⟨⟨[], World.ownsRow_nil _ _ _ _, fun i u l h => by simp at h⟩, Below.refl _ _⟩
    clear hv2 hn2 hr2 hb2 h0
    go_wp2_with fail
    go_loopw [7, 8] (fun out i wr => ∃ k : Nat, i = .int .i64 k ∧ k ≤ R.length ∧ Told w2 wr R k out) (fun _ i _ => R.length - (intOf i).toNat)
    case atStart => exact ⟨0, rfl, Nat.zero_le _, hK0⟩
    case round =>
      obtain ⟨k, rfl, hkk, hK⟩ := hrel
      clear hK0
      obtain ⟨us, q3, q4⟩ := hK.rows
      have HKK := Lib.hid (And.intro q3 (And.intro q4 hK.bel))
      obtain ⟨po, no, co, rfl⟩ := ownsRow_slice q3
      by_cases hlt : k < R.length
      · obtain ⟨l, hx⟩ : ∃ l, R[k]? = some l := ⟨_, List.getElem?_eq_getElem hlt⟩
        have hm := List.mem_of_getElem? hx
        obtain ⟨u, cu, hu⟩ := HR2.out k l hx
        have hbw := hK.bel
        have a0 := (hbw.cell (p := ⟨g2, k, none⟩) (cell_lt cu)).trans cu
        have hur := hu.keep (KT.below hbw (Nat.le_refl _) : KT [121] _ _) (by simp)
        obtain ⟨gu, cuu, rfl, _, hlc, _, hc⟩ := hur.read
        have HC : Hid (∀ i n, l[i]? = some n → wr.cell? ⟨gu, i * 4 + 1, none⟩ = some (.int .i64 n)) := fun i n h => by
          obtain ⟨b0, b1, b2, b3⟩ := vcells_at l i n h
          exact hc _ _ b1
        have l2 := HL.out l hm
        have HX := Lib.hid hx
        have hs4 := hbw.size
        have HB0 := Lib.hid (Below.refl wr.heap.size wr)
        have hI0 : wr.ownsRow wr.heap.size 3 1 (.slice none 0 0) 0 (icells (l.take 0)) := World.ownsRow_nil _ _ _ _
        have la := cell_lt a0
        clear hx hm cu hu hur hbw hK hc q3 q4
        go_wp2_with fail
        obtain ⟨w5, rfl⟩ : ∃ x : World, x = wr := ⟨_, rfl⟩
        go_loopw [9, 10] (fun out i wr => ∃ j : Nat, i = .int .i64 j ∧ j ≤ l.length ∧ wr.ownsRow w5.heap.size 3 1 out j (icells (l.take j)) ∧ Below w5.heap.size w5 wr) (fun _ i _ => l.length - (intOf i).toNat)
        case atStart => exact ⟨0, rfl, Nat.zero_le _, hI0, HB0.out⟩
        case round =>
          obtain ⟨j, rfl, hj, hown, hbel⟩ := hrel
          clear hI0
          have a1 := (hbel.cell (p := ⟨g2, k, none⟩) la).trans a0
          by_cases hjl : j < l.length
          · obtain ⟨x, hx⟩ : ∃ x, l[j]? = some x := ⟨_, List.getElem?_eq_getElem hjl⟩
            have q1 := HC.out j x hx
            have b1 := (hbel.cell (p := ⟨gu, j * 4 + 1, none⟩) (cell_lt q1)).trans q1
            have HN := Lib.hid (icells_snoc l j x hjl hx)
            have hbs := hbel.size
            clear hx q1
            go_wp2_with (first
              | (at_builtin
                 refine wpList_append_lies _ rfl (.tmp 32) (.tmp 41) _ rfl w5.heap.size 3 j0 y0 1 8 Tryz.underlying52 hj0 hy0 ht0 hd0 hf0 (by omega) _ j (icells (l.take j)) (by rfl) (hown.alloc _) _ 1 1 [.int .i64 x] (by rfl) rfl (news_lit _ _ _ _ rfl) (by simp [Value.oneCell']) (by omega) (by simp only [maxLen]; omega) (by omega) (by simp; omega) (wr.heap.size + 1) (by simp) ?_
                 intro g4 cap4 w4 hown4 hgrow hat hlt4))
            refine ⟨⟨j + 1, by go_num, hjl, by rw [HN.out]; exact hown4, ?_⟩, by simp [intOf]; omega⟩
            exact (hbel.alloc (by omega) _).grown hgrow (by simp; omega) (fun q hq => (hown.lt q hq).1)
          · obtain rfl : j = l.length := by omega
            rw [List.take_length] at hown
            obtain ⟨pr, nr, cr, rfl⟩ := ownsRow_slice hown
            have HO := Lib.hid hown
            have HBL := Lib.hid hbel
            have hbs := hbel.size
            clear hown hbel
            go_wp2_with (first
              | (at_builtin
                 refine wpList_append_lies _ rfl (.tmp 43) (.tmp 45) _ rfl w2.heap.size 52 i0 z0 1 24 Tryz.underlying98 hi0 hz0 hs0 hb0' hc0 (by omega) _ k us (by rfl) ((ownsRow_keep HKK.out.1 (KT.below (T := [52]) HBL.out (Nat.le_refl _)) (by simp)).alloc _) _ 1 1 [.slice pr nr cr] (by rfl) rfl (news_lit _ _ _ _ rfl) (by simp [Value.oneCell']) (by omega) (by simp only [maxLen]; omega) (by omega) (by simp; omega) (wr.heap.size + 1) (by simp) ?_
                 intro g4 cap4 w4 hown4 hgrow hat hlt4))
            have kt : KT [3] w5 wr := KT.below HBL.out (Nat.le_refl _)
            have kt2 : KT [52] w5 wr := KT.below HBL.out (Nat.le_refl _)
            exact ⟨⟨k + 1, by go_num, hlt, told_add (ownsRow_keep HKK.out.1 kt2 (by simp)) (fun i u l hu hl => (HKK.out.2.1 i u l hu hl).keep kt (by simp)) (HKK.out.2.2.trans (HBL.out.mono hs4)) (ownsRow_base HO.out (Nat.zero_le _)) HX.out hown4 hgrow⟩, by simp [intOf]; omega⟩
      · obtain rfl : k = R.length := by omega
        clear hK q3 q4
        go_wp2_with fail
        go_ret
        exact ⟨_, rfl, ⟨us, ownsRow_base HKK.out.1 (Nat.zero_le _), HKK.out.2.1⟩, HB2.out.trans (HKK.out.2.2.mono HB2.out.size)⟩
end Go.Proofs.YtbjickdjkgefcaaGreatDoor
end
section
open Go Go.RowKit Go.Proofs.YtbjickdjkgefcaaGreatDoor.Vai
namespace Go.Proofs.YtbjickdjkgefcaaGreatDoor
set_option linter.unusedVariables false
set_option linter.unusedSimpArgs false
set_option maxRecDepth 20000
set_option maxHeartbeats 1000000 in
theorem rof_any (w : World) (d n : Nat) (nm : ByteArray) (vk : Value) (R : List (List Int)) (hk : IntsAt w vk n) (hR : R.length ≤ 10000) (hl : ∀ l ∈ R, n ≤ l.length ∧ l.length ≤ 100 ∧ l ≠ [])
    (K48 : Calls Tryz.prog 48 #[.pointer (some ⟨d, 0, none⟩), .string nm] w fun e w' => ∃ v, e = .returned v ∧ NRows w' v R ∧ Below w.heap.size w w') :
    Calls Tryz.prog 76 #[.pointer (some ⟨d, 0, none⟩), .string nm, vk] w fun e w' => ∃ v L, e = .returned v ∧ NRows w' v L ∧ (∀ l ∈ L, l ∈ R) ∧ L.length ≤ R.length ∧ Below w.heap.size w w' := by
  obtain ⟨i0, z0, hi0, hz0, hs0, hb0', hc0⟩ := info52
  obtain ⟨pk, ck, rfl⟩ := hk.slice
  have HK := Lib.hid hk
  have HL := Lib.hid hl
  clear hk hl
  go_enter Tryz.func76, Tryz.ntmps76
  go_wp2_with (first
    | (go_at_call 48; refine K48.mono ?_; rintro e w2 ⟨v2, rfl, hv2, hb2⟩; obtain ⟨p2, c2, rfl⟩ := hv2.slice))
  clear K48
  by_cases h0 : R.length = 0
  · rw [h0]
    clear hv2
    go_wp2_with fail
    go_loopw [8, 9] (fun out i wr => out = .slice none 0 0 ∧ i = .int .i64 0 ∧ wr = w2) (fun _ _ _ => 1)
    case atStart => exact ⟨rfl, rfl, rfl⟩
    case round =>
      obtain ⟨rfl, rfl, rfl⟩ := hrel
      go_wp2_with fail
      go_ret
      exact ⟨_, [], rfl, ⟨[], World.ownsRow_nil _ _ _ _, fun i u l h => by simp at h⟩, (fun l h => by cases h), Nat.zero_le _, hb2⟩
  · obtain ⟨g2, c2', e2, hg2, hr2⟩ := hv2.read (by omega)
    cases e2
    have HR2 := Lib.hid hr2
    have HB2 := Lib.hid hb2
    have hK0 := Kept2.start w2 R
    clear hv2 hr2 hb2 h0
    go_wp2_with fail
    go_loopw [8, 9] (fun out i wr => ∃ k : Nat, i = .int .i64 k ∧ k ≤ R.length ∧ Kept2 w2 wr R k out) (fun _ i _ => R.length - (intOf i).toNat)
    case atStart => exact ⟨0, rfl, Nat.zero_le _, hK0⟩
    case round =>
      obtain ⟨k, rfl, hkk, hK⟩ := hrel
      clear hK0
      by_cases hlt : k < R.length
      · obtain ⟨l, hx⟩ : ∃ l, R[k]? = some l := ⟨_, List.getElem?_eq_getElem hlt⟩
        have hm := List.mem_of_getElem? hx
        obtain ⟨u, cu, hu⟩ := HR2.out k l hx
        have hbw := hK.bel
        obtain ⟨l1, l2, hne⟩ := HL.out l hm
        have a0 := (hbw.cell (p := ⟨g2, k, none⟩) (cell_lt cu)).trans cu
        have hur := hu.below hbw
        obtain ⟨gu, cuu, rfl, _⟩ := hu.read hne
        have K114 := begins_any wr (.slice (some ⟨gu, 0, none⟩) l.length cuu) (.slice pk n ck) l.length n (hur.ints hne) ((HK.out.below HB2.out).below hbw) l1 l2
        have HU := Lib.hid hur
        have HM := Lib.hid hm
        obtain ⟨L, us, q1, q2, q3, q4⟩ := hK.rows
        have HQ := Lib.hid (And.intro q1 (And.intro q2 (And.intro q3 q4)))
        obtain ⟨po, no, co, rfl⟩ := ownsRow_slice q3
        have HKK := Lib.hid hK
        have hs4 := hbw.size
        have la := cell_lt a0
        clear hx cu hu hur hbw hK hm hne q2 q3 q4
        go_wp2_with (first
          | (go_at_call 114; refine K114.mono ?_; rintro e w4 ⟨b, rfl, hb4⟩; have HB4 := Lib.hid hb4; have s4 := hb4.size; have a4 := (hb4.cell (p := ⟨g2, k, none⟩) la).trans a0; clear hb4)
          | (at_builtin
             refine wpList_append_lies _ rfl (.tmp 25) (.tmp 30) _ rfl w2.heap.size 52 i0 z0 1 24 Tryz.underlying98 hi0 hz0 hs0 hb0' hc0 (by omega) _ L.length us (by rfl) ((ownsRow_keep HQ.out.2.2.1 (KT.below (T := [52]) HB4.out (Nat.le_refl _)) (by simp)).alloc _) _ 1 1 [.slice (some ⟨gu, 0, none⟩) l.length cuu] (by rfl) rfl (news_lit _ _ _ _ rfl) (by simp [Value.oneCell']) (by omega) (by simp only [maxLen]; omega) (by omega) (by simp; omega) (w4.heap.size + 1) (by simp) ?_
             intro g4 cap4 w5 hown5 hgrow hat hlt5))
        · have hKn := HKK.out.below HB4.out
          have kt : KT [3] wr w4 := KT.below HB4.out (Nat.le_refl _)
          have kt2 : KT [52] wr w4 := KT.below HB4.out (Nat.le_refl _)
          exact ⟨⟨k + 1, by go_num, hlt, kept_add HQ.out.1 HQ.out.2.1 (ownsRow_keep HQ.out.2.2.1 kt2 (by simp)) (fun i u l hu hl => (HQ.out.2.2.2 i u l hu hl).keep kt (by simp)) hKn.bel (HU.out.below HB4.out) HM.out hown5 hgrow⟩, by simp [intOf]; omega⟩
        · exact ⟨⟨k + 1, by go_num, hlt, (HKK.out.below HB4.out).more⟩, by simp [intOf]; omega⟩
      · obtain rfl : k = R.length := by omega
        obtain ⟨L, us, q1, q2, q3, q4⟩ := hK.rows
        have HQ := Lib.hid (And.intro q2 (And.intro q3 (And.intro q4 (And.intro q1 hK.bel))))
        obtain ⟨po, no, co, rfl⟩ := ownsRow_slice q3
        clear hK q2 q3 q4 q1
        go_wp2_with fail
        go_ret
        exact ⟨_, L, rfl, ⟨us, ownsRow_base HQ.out.2.1 (Nat.zero_le _), HQ.out.2.2.1⟩, HQ.out.1, HQ.out.2.2.2.1, HB2.out.trans (HQ.out.2.2.2.2.mono HB2.out.size)⟩
end Go.Proofs.YtbjickdjkgefcaaGreatDoor
end
section
open Go Go.RowKit Go.Proofs.YtbjickdjkgefcaaGreatDoor.Vai
namespace Go.Proofs.YtbjickdjkgefcaaGreatDoor
set_option linter.unusedVariables false
set_option linter.unusedSimpArgs false
set_option maxRecDepth 20000
/-- What 'All' tells: the rows of the table. -/
def AllK (vb : Value) (nm : ByteArray) (R : List (List Int)) (w : World) : Prop := ∀ wX, Below w.heap.size w wX → Calls Tryz.prog 48 #[vb, .string nm] wX fun e w' => ∃ p c, e = .returned (.slice p R.length c) ∧ NRows w' (.slice p R.length c) R ∧ Below wX.heap.size wX w'
theorem AllK.mono {vb : Value} {nm : ByteArray} {R : List (List Int)} {w w' : World} (h : AllK vb nm R w) (hb : Below w.heap.size w w') : AllK vb nm R w' := fun wX hX => h wX (hb.trans (hX.mono hb.size))
set_option maxHeartbeats 4000000 in
theorem rdistricts_any (w : World) (vb : Value) (bb : Nat) (hvb : vb = .pointer (some ⟨bb, 0, none⟩)) (R : Nat → List (List Int)) (hL : Laid R) (A0 : AllK vb ⟨#[104,111,117,115,101]⟩ (R 0) w) (A1 : AllK vb ⟨#[100,105,115,116,114,105,99,116]⟩ (R 1) w) (K1 : OfK 76 vb ⟨#[100,105,115,116,114,105,99,116]⟩ (R 1) 1 w) (K2 : OfK 76 vb ⟨#[99,117,115,116,111,109,101,114]⟩ (R 2) 2 w) (K5 : OfK 76 vb ⟨#[111,114,100,101,114,115]⟩ (R 5) 2 w) :
    Calls Tryz.prog 46 #[vb] w fun e w' => e = .returned (.bool true) ∧ Below w.heap.size w w' := by
  subst hvb
  have HL := Lib.hid hL
  have HA0 := Lib.hid A0
  have HK1 := Lib.hid K1
  have HK2 := Lib.hid K2
  have HK5 := Lib.hid K5
  have KD0 := A1 w (Below.refl _ _)
  clear hL A0 A1 K1 K2 K5
  have hLs := HL.out.small 1
  obtain ⟨L, hLe⟩ : ∃ x, x = R 1 := ⟨_, rfl⟩
  rw [← hLe] at KD0 hLs
  have HLE := Lib.hid hLe
  clear hLe
  have w01 : IntKind.i64.wrap 1 = 1 := by decide
  go_enter Tryz.func46, Tryz.ntmps46
  go_wp2_with (first
    | (go_at_call 48; refine KD0.mono ?_; rintro e w2 ⟨p2, c2, rfl, hv2, hb2⟩))
  clear KD0
  have HV2 := Lib.hid hv2
  clear hv2
  go_loopw [4] (fun i wr => ∃ k : Nat, i = .int .i64 k ∧ k ≤ L.length ∧ Below w2.heap.size w2 wr) (fun i _ => L.length - (intOf i).toNat)
  case atStart => exact ⟨0, rfl, Nat.zero_le _, Below.refl _ _⟩
  case round =>
    obtain ⟨k, rfl, hk, hb⟩ := hrel
    by_cases hlt : k < L.length
    · obtain ⟨l, hx⟩ : ∃ l, L[k]? = some l := ⟨_, List.getElem?_eq_getElem hlt⟩
      obtain ⟨g, cg, e2, _, hr⟩ := HV2.out.read (by omega)
      cases e2
      obtain ⟨u, cu, hu⟩ := hr k l hx
      have hm : l ∈ R 1 := by rw [← HLE.out]; exact List.mem_of_getElem? hx
      have hlen : l.length = 5 := HL.out.len 1 l hm
      obtain ⟨d3, d4⟩ := HL.out.dist l hm
      have hne : l ≠ [] := fun e => by rw [e] at hlen; cases hlen
      obtain ⟨gu, cuu, rfl, _, hlc, hru⟩ := hu.read hne
      rw [hlen] at cu hlc
      have c0 := (hb.cell (p := ⟨g, k, none⟩) (cell_lt cu)).trans cu
      have cells : ∀ j n, l[j]? = some n → wr.cell? ⟨gu, j, none⟩ = some (.int .i64 n) := fun j n h => (hb.cell (p := ⟨gu, j, none⟩) (cell_lt (hru j n h))).trans (hru j n h)
      obtain ⟨x0, hx0⟩ : ∃ x, l[0]? = some x := ⟨_, List.getElem?_eq_getElem (by omega)⟩
      obtain ⟨x1, hx1⟩ : ∃ x, l[1]? = some x := ⟨_, List.getElem?_eq_getElem (by omega)⟩
      have a0 := cells 0 x0 hx0
      have a1 := cells 1 x1 hx1
      have a3 := cells 3 0 d3
      have a4 := cells 4 1 d4
      have la := cell_lt a0
      have lc := cell_lt c0
      have hbw : Below w.heap.size w wr := hb2.trans (hb.mono hb2.size)
      clear hx cu hu hru hm d3 d4 hne cells hx0 hx1 hr
      have kb : Hid (∀ w', Below wr.heap.size wr w' → w'.cell? ⟨g, k, none⟩ = some (.slice (some ⟨gu, 0, none⟩) 5 cuu) ∧ w'.cell? ⟨gu, 0, none⟩ = some (.int .i64 x0) ∧ w'.cell? ⟨gu, 1, none⟩ = some (.int .i64 x1) ∧ w'.cell? ⟨gu, 3, none⟩ = some (.int .i64 0) ∧ w'.cell? ⟨gu, 4, none⟩ = some (.int .i64 1)) := fun w' h => ⟨(h.cell (p := ⟨g, k, none⟩) lc).trans c0, (h.cell (p := ⟨gu, 0, none⟩) la).trans a0, (h.cell (p := ⟨gu, 1, none⟩) la).trans a1, (h.cell (p := ⟨gu, 3, none⟩) la).trans a3, (h.cell (p := ⟨gu, 4, none⟩) la).trans a4⟩
      have KO := HK5.out.mono hbw
      have BR : Hid (∀ wX w2, Below wr.heap.size wr wX → Below wX.heap.size wX w2 → Below wr.heap.size wr w2) := fun _ _ a b => a.trans (b.mono a.size)
      have HBW := Lib.hid hbw
      clear hbw
      go_wp2_with fail
      go_region_held3 (fun w' => w'.cell? ⟨g, k, none⟩ = some (.slice (some ⟨gu, 0, none⟩) 5 cuu) ∧ w'.cell? ⟨gu, 0, none⟩ = some (.int .i64 x0) ∧ w'.cell? ⟨gu, 1, none⟩ = some (.int .i64 x1) ∧ w'.cell? ⟨gu, 3, none⟩ = some (.int .i64 0) ∧ w'.cell? ⟨gu, 4, none⟩ = some (.int .i64 1))
        (first
          | with_reducible exact ⟨c0, a0, a1, a3, a4⟩
          | (refine kb.out _ ?_; (repeat' first | with_reducible exact Below.refl _ _ | with_reducible assumption | with_reducible refine Below.drew ?_ | with_reducible refine Below.alloc ?_ ?_ _ | with_reducible refine Below.setCell ?_ ?_ _ | (simp; done) | (simp; omega)); done))
        ((go_at_call 76; refine (KO _ _ _ ?hbel (Nat.le_refl _) ?hin).mono ?_; ((case hbel => (repeat' first | with_reducible exact Below.refl _ _ | with_reducible assumption | with_reducible refine Below.drew ?_ | with_reducible refine Below.alloc ?_ ?_ _ | with_reducible refine Below.setCell ?_ ?_ _ | (simp; done) | (simp; omega)))); ((case hin => exact lit_two2 rfl)); rintro e w5 ⟨p5, c5, L5, rfl, hv5, hm5, hl5, hb5⟩
          have hl0 : L5.length = 0 := by rw [HL.out.none5] at hl5; exact Nat.le_zero.1 hl5
          rw [hl0]
          have hb5r := BR.out _ _ (by (repeat' first | with_reducible exact Below.refl _ _ | with_reducible assumption | with_reducible refine Below.drew ?_ | with_reducible refine Below.alloc ?_ ?_ _ | with_reducible refine Below.setCell ?_ ?_ _ | (simp; done) | (simp; omega))) hb5))
      clear a0 a1 a3 a4 c0 hlen hlc
      have hb5w : Below w.heap.size w w5 := HBW.out.trans (hb5r.mono HBW.out.size)
      obtain ⟨c0, a0, a1, a3, a4⟩ := kb.out w5 hb5r
      have kb5 : Hid (∀ w', Below w5.heap.size w5 w' → w'.cell? ⟨g, k, none⟩ = some (.slice (some ⟨gu, 0, none⟩) 5 cuu) ∧ w'.cell? ⟨gu, 0, none⟩ = some (.int .i64 x0) ∧ w'.cell? ⟨gu, 1, none⟩ = some (.int .i64 x1) ∧ w'.cell? ⟨gu, 3, none⟩ = some (.int .i64 0) ∧ w'.cell? ⟨gu, 4, none⟩ = some (.int .i64 1)) := fun w' h => kb.out w' (BR.out _ _ hb5r h)
      have BR5 : Hid (∀ wX w2, Below w5.heap.size w5 wX → Below wX.heap.size wX w2 → Below w5.heap.size w5 w2) := fun _ _ a b => a.trans (b.mono a.size)
      have KC := HK2.out.mono hb5w
      have HB25 := Lib.hid (hb.trans (hb5r.mono hb.size))
      have K77 := fun wX v Lc (hv : NRows wX v Lc) (hm : ∀ l ∈ Lc, l ∈ R 2) (hl : Lc.length ≤ (R 2).length) => totals_any wX v Lc 5 hv (fun l h => (HL.out.cust l (hm l h)).2) (by have := HL.out.small 2; omega) (by omega)
      clear KO hv5 hm5 hl5 hb5 hl0 hb5w hb5r BR la lc kb hb
      go_wp2_with fail
      go_region_held3 (fun w' => w'.cell? ⟨g, k, none⟩ = some (.slice (some ⟨gu, 0, none⟩) 5 cuu) ∧ w'.cell? ⟨gu, 0, none⟩ = some (.int .i64 x0) ∧ w'.cell? ⟨gu, 1, none⟩ = some (.int .i64 x1) ∧ w'.cell? ⟨gu, 3, none⟩ = some (.int .i64 0) ∧ w'.cell? ⟨gu, 4, none⟩ = some (.int .i64 1))
        (first
          | with_reducible exact ⟨c0, a0, a1, a3, a4⟩
          | (refine kb5.out _ ?_; (repeat' first | with_reducible exact Below.refl _ _ | with_reducible assumption | with_reducible refine Below.drew ?_ | with_reducible refine Below.alloc ?_ ?_ _ | with_reducible refine Below.setCell ?_ ?_ _ | (simp; done) | (simp; omega)); done))
        ((first
          | (go_at_call 76; refine (KC _ _ _ ?hbel (Nat.le_refl _) ?hin).mono ?_; ((case hbel => (repeat' first | with_reducible exact Below.refl _ _ | with_reducible assumption | with_reducible refine Below.drew ?_ | with_reducible refine Below.alloc ?_ ?_ _ | with_reducible refine Below.setCell ?_ ?_ _ | (simp; done) | (simp; omega)))); ((case hin => exact lit_two2 rfl)); rintro e w6 ⟨p6, c6, L6, rfl, hv6, hm6, hl6, hb6⟩
             have hb6r := BR5.out _ _ (by (repeat' first | with_reducible exact Below.refl _ _ | with_reducible assumption | with_reducible refine Below.drew ?_ | with_reducible refine Below.alloc ?_ ?_ _ | with_reducible refine Below.setCell ?_ ?_ _ | (simp; done) | (simp; omega))) hb6)
          | (go_at_call 77; refine (K77 _ _ _ hv6 hm6 hl6).mono ?_; rintro e w7 ⟨rfl, rfl⟩)))
      go_wp2_with fail
      exact ⟨⟨k + 1, by go_num, hlt, HB25.out.trans (hb6r.mono HB25.out.size)⟩, by simp [intOf]; omega⟩
    · obtain rfl : k = L.length := by omega
      have hbw : Below w.heap.size w wr := hb2.trans (hb.mono hb2.size)
      have KH := HA0.out wr hbw
      have hLs0 := HL.out.small 0
      obtain ⟨L3, hLe3⟩ : ∃ x, x = R 0 := ⟨_, rfl⟩
      rw [← hLe3] at KH hLs0
      have HLE3 := Lib.hid hLe3
      clear hb hlt hk hLe3
      go_wp2_with (first
        | (go_at_call 48; refine KH.mono ?_; rintro e w3 ⟨p3, c3, rfl, hv3, hb3⟩))
      clear KH
      have hb3w : Below w.heap.size w w3 := hbw.trans (hb3.mono hbw.size)
      have HV3 := Lib.hid hv3
      clear hv3 hb3 hbw
      go_loopw [8] (fun i wl => ∃ k : Nat, i = .int .i64 k ∧ k ≤ L3.length ∧ Below w3.heap.size w3 wl) (fun i _ => L3.length - (intOf i).toNat)
      case atStart => exact ⟨0, rfl, Nat.zero_le _, Below.refl _ _⟩
      case round =>
        obtain ⟨k, rfl, hk, hb⟩ := hrel
        by_cases hlt : k < L3.length
        · obtain ⟨l, hx⟩ : ∃ l, L3[k]? = some l := ⟨_, List.getElem?_eq_getElem hlt⟩
          obtain ⟨g, cg, e2, _, hr⟩ := HV3.out.read (by omega)
          cases e2
          obtain ⟨u, cu, hu⟩ := hr k l hx
          have hm : l ∈ R 0 := by rw [← HLE3.out]; exact List.mem_of_getElem? hx
          have hlen : l.length = 3 := HL.out.len 0 l hm
          have d2 := HL.out.house l hm
          have hne : l ≠ [] := fun e => by rw [e] at hlen; cases hlen
          obtain ⟨gu, cuu, rfl, _, hlc, hru⟩ := hu.read hne
          rw [hlen] at cu hlc
          have c0 := (hb.cell (p := ⟨g, k, none⟩) (cell_lt cu)).trans cu
          have cells : ∀ j n, l[j]? = some n → wr.cell? ⟨gu, j, none⟩ = some (.int .i64 n) := fun j n h => (hb.cell (p := ⟨gu, j, none⟩) (cell_lt (hru j n h))).trans (hru j n h)
          obtain ⟨x0, hx0⟩ : ∃ x, l[0]? = some x := ⟨_, List.getElem?_eq_getElem (by omega)⟩
          have a0 := cells 0 x0 hx0
          have a2 := cells 2 0 d2
          have la := cell_lt a0
          have lc := cell_lt c0
          have hbw : Below w.heap.size w wr := hb3w.trans (hb.mono hb3w.size)
          have KO := HK1.out.mono hbw
          have BR : Hid (∀ wX w2, Below wr.heap.size wr wX → Below wX.heap.size wX w2 → Below wr.heap.size wr w2) := fun _ _ a b => a.trans (b.mono a.size)
          have kb : Hid (∀ w', Below wr.heap.size wr w' → w'.cell? ⟨g, k, none⟩ = some (.slice (some ⟨gu, 0, none⟩) 3 cuu) ∧ w'.cell? ⟨gu, 0, none⟩ = some (.int .i64 x0) ∧ w'.cell? ⟨gu, 2, none⟩ = some (.int .i64 0)) := fun w' h => ⟨(h.cell (p := ⟨g, k, none⟩) lc).trans c0, (h.cell (p := ⟨gu, 0, none⟩) la).trans a0, (h.cell (p := ⟨gu, 2, none⟩) la).trans a2⟩
          have K77 := fun wX v Lc (hv : NRows wX v Lc) (hm : ∀ l ∈ Lc, l ∈ R 1) (hl : Lc.length ≤ (R 1).length) => totals_any wX v Lc 3 hv (fun l h => (HL.out.dist l (hm l h)).1) (by have := HL.out.small 1; omega) (by omega)
          have HBo := Lib.hid hb
          clear hx cu hu hru hm d2 hne cells hx0 hr hb hlen hbw
          go_wp2_with fail
          go_region_held3 (fun w' => w'.cell? ⟨g, k, none⟩ = some (.slice (some ⟨gu, 0, none⟩) 3 cuu) ∧ w'.cell? ⟨gu, 0, none⟩ = some (.int .i64 x0) ∧ w'.cell? ⟨gu, 2, none⟩ = some (.int .i64 0))
            (first
              | with_reducible exact ⟨c0, a0, a2⟩
              | (refine kb.out _ ?_; (repeat' first | with_reducible exact Below.refl _ _ | with_reducible assumption | with_reducible refine Below.drew ?_ | with_reducible refine Below.alloc ?_ ?_ _ | with_reducible refine Below.setCell ?_ ?_ _ | (simp; done) | (simp; omega)); done))
            ((first
              | (go_at_call 76; refine (KO _ _ _ ?hbel (Nat.le_refl _) ?hin).mono ?_; ((case hbel => (repeat' first | with_reducible exact Below.refl _ _ | with_reducible assumption | with_reducible refine Below.drew ?_ | with_reducible refine Below.alloc ?_ ?_ _ | with_reducible refine Below.setCell ?_ ?_ _ | (simp; done) | (simp; omega)))); ((case hin => exact lit_one2 rfl)); rintro e w6 ⟨p6, c6, L6, rfl, hv6, hm6, hl6, hb6⟩
                 have hb6r := BR.out _ _ (by (repeat' first | with_reducible exact Below.refl _ _ | with_reducible assumption | with_reducible refine Below.drew ?_ | with_reducible refine Below.alloc ?_ ?_ _ | with_reducible refine Below.setCell ?_ ?_ _ | (simp; done) | (simp; omega))) hb6)
              | (go_at_call 77; refine (K77 _ _ _ hv6 hm6 hl6).mono ?_; rintro e w7 ⟨rfl, rfl⟩)))
          go_wp2_with fail
          exact ⟨⟨k + 1, by go_num, hlt, HBo.out.trans (hb6r.mono HBo.out.size)⟩, by simp [intOf]; omega⟩
        · obtain rfl : k = L3.length := by omega
          have hbw : Below w.heap.size w wr := hb3w.trans (hb.mono hb3w.size)
          clear hb
          go_wp2_with fail
          go_ret
          exact ⟨rfl, hbw⟩
end Go.Proofs.YtbjickdjkgefcaaGreatDoor
end
section
open Go Go.RowKit Go.Proofs.YtbjickdjkgefcaaGreatDoor.Vai
namespace Go.Proofs.YtbjickdjkgefcaaGreatDoor
set_option linter.unusedVariables false
set_option linter.unusedSimpArgs false
set_option maxRecDepth 20000
set_option maxHeartbeats 1000000 in
theorem rorders_any (w : World) (vb : Value) (bb : Nat) (hvb : vb = .pointer (some ⟨bb, 0, none⟩)) (A6 : AllK vb ⟨#[102,114,101,115,104]⟩ [] w) (A5 : AllK vb ⟨#[111,114,100,101,114,115]⟩ [] w) :
    Calls Tryz.prog 47 #[vb] w fun e w' => e = .returned (.bool true) ∧ Below w.heap.size w w' := by
  subst hvb
  have KA := A6 w (Below.refl _ _)
  have KB := fun wX hb => A5 wX hb
  clear A6 A5
  go_enter Tryz.func47, Tryz.ntmps47
  go_wp2_with (first
    | (go_at_call 48; with_reducible refine KA.mono ?_; rintro e w2 ⟨p2, c2, rfl, hv2, hb2⟩))
  clear KA hv2
  go_loopw [4] (fun i wl => i = .int .i64 0 ∧ wl = w2) (fun _ _ => 1)
  case atStart => exact ⟨rfl, rfl⟩
  case round =>
    obtain ⟨rfl, rfl⟩ := hrel
    have KB2 := KB _ hb2
    have HB2 := Lib.hid hb2
    clear KB hb2
    go_wp2_with (first
      | (go_at_call 48; with_reducible refine KB2.mono ?_; rintro e w3 ⟨p3, c3, rfl, hv3, hb3⟩))
    have hbw := HB2.out.trans (hb3.mono HB2.out.size)
    clear KB2 hv3 hb3
    go_loopw [7] (fun i wl => i = .int .i64 0 ∧ wl = w3) (fun _ _ => 1)
    case atStart => exact ⟨rfl, rfl⟩
    case round =>
      obtain ⟨rfl, rfl⟩ := hrel
      go_wp2_with fail
      go_ret
      exact ⟨rfl, hbw⟩
set_option maxHeartbeats 1000000 in
theorem paid_any (w : World) (vb : Value) (bb : Nat) (hvb : vb = .pointer (some ⟨bb, 0, none⟩)) (gu cuu : Nat) (x0 x1 : Int) (a0 : w.cell? ⟨gu, 0, none⟩ = some (.int .i64 x0)) (a1 : w.cell? ⟨gu, 1, none⟩ = some (.int .i64 x1)) (K5 : OfK 76 vb ⟨#[111,114,100,101,114,115]⟩ [] 2 w) :
    Calls Tryz.prog 49 #[vb, .slice (some ⟨gu, 0, none⟩) 7 cuu] w fun e w' => e = .returned (.int .i64 0) ∧ Below w.heap.size w w' := by
  subst hvb
  have la := cell_lt a0
  have kb : Hid (∀ w', Below w.heap.size w w' → w'.cell? ⟨gu, 0, none⟩ = some (.int .i64 x0) ∧ w'.cell? ⟨gu, 1, none⟩ = some (.int .i64 x1)) := fun w' h => ⟨(h.cell (p := ⟨gu, 0, none⟩) la).trans a0, (h.cell (p := ⟨gu, 1, none⟩) la).trans a1⟩
  have BR : Hid (∀ wX w2, Below w.heap.size w wX → Below wX.heap.size wX w2 → Below w.heap.size w w2) := fun _ _ a b => a.trans (b.mono a.size)
  go_enter Tryz.func49, Tryz.ntmps49
  go_wp2_with fail
  go_region_held3 (fun w' => w'.cell? ⟨gu, 0, none⟩ = some (.int .i64 x0) ∧ w'.cell? ⟨gu, 1, none⟩ = some (.int .i64 x1))
    (first
      | with_reducible exact ⟨a0, a1⟩
      | (refine kb.out _ ?_; (repeat' first | with_reducible exact Below.refl _ _ | with_reducible assumption | with_reducible refine Below.drew ?_ | with_reducible refine Below.alloc ?_ ?_ _ | with_reducible refine Below.setCell ?_ ?_ _ | (simp; done) | (simp; omega)); done))
    ((go_at_call 76; refine (K5 _ _ _ ?hbel (Nat.le_refl _) ?hin).mono ?_; ((case hbel => (repeat' first | with_reducible exact Below.refl _ _ | with_reducible assumption | with_reducible refine Below.drew ?_ | with_reducible refine Below.alloc ?_ ?_ _ | with_reducible refine Below.setCell ?_ ?_ _ | (simp; done) | (simp; omega)))); ((case hin => exact lit_two2 rfl)); rintro e w5 ⟨p5, c5, L5, rfl, hv5, hm5, hl5, hb5⟩
      obtain rfl := List.eq_nil_of_length_eq_zero (Nat.le_zero.1 hl5)
      have hb5r := BR.out _ _ (by (repeat' first | with_reducible exact Below.refl _ _ | with_reducible assumption | with_reducible refine Below.drew ?_ | with_reducible refine Below.alloc ?_ ?_ _ | with_reducible refine Below.setCell ?_ ?_ _ | (simp; done) | (simp; omega))) hb5))
  clear a0 a1 kb BR K5 hv5 hm5 hl5 hb5
  go_wp2_with fail
  go_loopw [5, 7] (fun a i wl => a = .int .i64 0 ∧ i = .int .i64 0 ∧ wl = w5) (fun _ _ _ => 1)
  case atStart => exact ⟨rfl, rfl, rfl⟩
  case round =>
    obtain ⟨rfl, rfl, rfl⟩ := hrel
    go_wp2_with fail
    go_ret
    exact ⟨rfl, hb5r⟩
end Go.Proofs.YtbjickdjkgefcaaGreatDoor
end
