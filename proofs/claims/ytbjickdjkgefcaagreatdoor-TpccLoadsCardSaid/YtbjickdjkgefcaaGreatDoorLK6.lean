/- The program's orders, customers, stocks: sound. -/
import Derived.Test.YtbjickdjkgefcaaGreatDoorLN4
import Derived.Test.YtbjickdjkgefcaaGreatDoorLH3
import Derived.Test.YtbjickdjkgefcaaGreatDoorLLI
import Derived.MapKept
section
open Go Go.RowKit Go.Proofs.YtbjickdjkgefcaaGreatDoor.Vai
namespace Go.Proofs.YtbjickdjkgefcaaGreatDoor
set_option linter.unusedVariables false
set_option linter.unusedSimpArgs false
set_option maxRecDepth 20000
set_option maxHeartbeats 1000000 in
theorem orders_any (w : World) (vb : Value) (bb : Nat) (hvb : vb = .pointer (some ⟨bb, 0, none⟩)) (R : Nat → List (List Int)) (hL : Laid R) (K6 : OfK 74 vb ⟨#[102,114,101,115,104]⟩ (R 6) 0 w) (K5 : OfK 74 vb ⟨#[111,114,100,101,114,115]⟩ (R 5) 2 w) :
    Calls Tryz.prog 42 #[vb] w fun e w' => e = .returned (.bool true) ∧ Below w.heap.size w w' := by
  subst hvb
  have e6 := hL.none6
  have e5 := hL.none5
  rw [e6] at K6
  rw [e5] at K5
  have KA := K6 w (.slice none 0 0) 0 (Below.refl _ _) (by omega) (IntsAt.nil w)
  have KB := fun wX hb => K5 wX (.slice none 0 0) 0 hb (by omega) (IntsAt.nil wX)
  clear hL e6 e5 K6 K5
  go_enter Tryz.func42, Tryz.ntmps42
  go_wp2_with (first
    | (go_at_call 74; refine KA.mono ?_; rintro e w2 ⟨p2, c2, L, rfl, hv2, hm2, hl2, hb2⟩; obtain rfl := List.eq_nil_of_length_eq_zero (Nat.le_zero.1 hl2)))
  clear KA hv2 hm2 hl2
  go_loopw [14] (fun i wl => i = .int .i64 0 ∧ wl = w2) (fun _ _ => 1)
  case atStart => exact ⟨rfl, rfl⟩
  case round =>
    obtain ⟨rfl, rfl⟩ := hrel
    have KB2 := KB _ hb2
    have HB2 := Lib.hid hb2
    clear KB hb2
    go_wp2_with (first
      | (go_at_call 74; refine KB2.mono ?_; rintro e w3 ⟨p3, c3, L3, rfl, hv3, hm3, hl3, hb3⟩; obtain rfl := List.eq_nil_of_length_eq_zero (Nat.le_zero.1 hl3)))
    have hbw := HB2.out.trans (hb3.mono HB2.out.size)
    clear KB2 hv3 hm3 hl3 hb3
    go_loopw [36] (fun i wl => i = .int .i64 0 ∧ wl = w3) (fun _ _ => 1)
    case atStart => exact ⟨rfl, rfl⟩
    case round =>
      obtain ⟨rfl, rfl⟩ := hrel
      go_wp2_with fail
      go_ret
      exact ⟨rfl, hbw⟩
set_option maxHeartbeats 4000000 in
theorem customers_any (w : World) (vb : Value) (bb : Nat) (hvb : vb = .pointer (some ⟨bb, 0, none⟩)) (R : Nat → List (List Int)) (hL : Laid R) (K2 : OfK 74 vb ⟨#[99,117,115,116,111,109,101,114]⟩ (R 2) 2 w) (K5 : OfK 74 vb ⟨#[111,114,100,101,114,115]⟩ (R 5) 2 w) :
    Calls Tryz.prog 43 #[vb] w fun e w' => e = .returned (.bool true) ∧ Below w.heap.size w w' := by
  subst hvb
  have HL := Lib.hid hL
  have HK5 := Lib.hid K5
  have KD0 := K2 w (.slice none 0 0) 0 (Below.refl _ _) (by omega) (IntsAt.nil w)
  have w00 : IntKind.i64.wrap 0 = 0 := by decide
  clear hL K2 K5
  go_enter Tryz.func43, Tryz.ntmps43
  go_wp2_with (first
    | (go_at_call 74; refine KD0.mono ?_; rintro e w2 ⟨p2, c2, L, rfl, hv2, hm2, hl2, hb2⟩))
  clear KD0
  have hLs := HL.out.small 2
  have HV2 := Lib.hid hv2
  have HM2 := Lib.hid hm2
  clear hv2 hm2
  go_loopw [11] (fun i wr => ∃ k : Nat, i = .int .i64 k ∧ k ≤ L.length ∧ Below w2.heap.size w2 wr) (fun i _ => L.length - (intOf i).toNat)
  case atStart => exact ⟨0, rfl, Nat.zero_le _, Below.refl _ _⟩
  case round =>
    obtain ⟨k, rfl, hk, hb⟩ := hrel
    by_cases hlt : k < L.length
    · obtain ⟨l, hx⟩ : ∃ l, L[k]? = some l := ⟨_, List.getElem?_eq_getElem hlt⟩
      obtain ⟨g, cg, e2, _, hr⟩ := HV2.out.read (by omega)
      cases e2
      obtain ⟨u, cu, hu⟩ := hr k l hx
      have hm := HM2.out l (List.mem_of_getElem? hx)
      have hlen : l.length = 7 := HL.out.len 2 l hm
      obtain ⟨d4, d5⟩ := HL.out.cust l hm
      have hne : l ≠ [] := fun e => by rw [e] at hlen; cases hlen
      obtain ⟨gu, cuu, rfl, _, hlc, hru⟩ := hu.read hne
      rw [hlen] at cu hlc
      have c0 := (hb.cell (p := ⟨g, k, none⟩) (cell_lt cu)).trans cu
      have cells : ∀ j n, l[j]? = some n → wr.cell? ⟨gu, j, none⟩ = some (.int .i64 n) := fun j n h => (hb.cell (p := ⟨gu, j, none⟩) (cell_lt (hru j n h))).trans (hru j n h)
      obtain ⟨x0, hx0⟩ : ∃ x, l[0]? = some x := ⟨_, List.getElem?_eq_getElem (by omega)⟩
      obtain ⟨x1, hx1⟩ : ∃ x, l[1]? = some x := ⟨_, List.getElem?_eq_getElem (by omega)⟩
      have a0 := cells 0 x0 hx0
      have a1 := cells 1 x1 hx1
      have a4 := cells 4 0 d4
      have a5 := cells 5 0 d5
      have la := cell_lt a0
      have hbw : Below w.heap.size w wr := hb2.trans (hb.mono hb2.size)
      clear hx cu hu hru hm d4 d5 hne cells hx0 hx1 hr
      have kb : Hid (∀ w', Below wr.heap.size wr w' → w'.cell? ⟨gu, 0, none⟩ = some (.int .i64 x0) ∧ w'.cell? ⟨gu, 1, none⟩ = some (.int .i64 x1) ∧ w'.cell? ⟨gu, 4, none⟩ = some (.int .i64 0) ∧ w'.cell? ⟨gu, 5, none⟩ = some (.int .i64 0)) := fun w' h => ⟨(h.cell (p := ⟨gu, 0, none⟩) la).trans a0, (h.cell (p := ⟨gu, 1, none⟩) la).trans a1, (h.cell (p := ⟨gu, 4, none⟩) la).trans a4, (h.cell (p := ⟨gu, 5, none⟩) la).trans a5⟩
      have KO := HK5.out.mono hbw
      have BR : Hid (∀ wX w2, Below wr.heap.size wr wX → Below wX.heap.size wX w2 → Below wr.heap.size wr w2) := fun _ _ a b => a.trans (b.mono a.size)
      go_wp2_with fail
      go_region_held3 (fun w' => w'.cell? ⟨gu, 0, none⟩ = some (.int .i64 x0) ∧ w'.cell? ⟨gu, 1, none⟩ = some (.int .i64 x1) ∧ w'.cell? ⟨gu, 4, none⟩ = some (.int .i64 0) ∧ w'.cell? ⟨gu, 5, none⟩ = some (.int .i64 0))
        (first
          | with_reducible exact ⟨a0, a1, a4, a5⟩
          | (refine kb.out _ ?_; (repeat' first | with_reducible exact Below.refl _ _ | with_reducible assumption | with_reducible refine Below.drew ?_ | with_reducible refine Below.alloc ?_ ?_ _ | with_reducible refine Below.setCell ?_ ?_ _ | (simp; done) | (simp; omega)); done))
        ((go_at_call 74; refine (KO _ _ _ ?hbel (Nat.le_refl _) ?hin).mono ?_; ((case hbel => (repeat' first | with_reducible exact Below.refl _ _ | with_reducible assumption | with_reducible refine Below.drew ?_ | with_reducible refine Below.alloc ?_ ?_ _ | with_reducible refine Below.setCell ?_ ?_ _ | (simp; done) | (simp; omega)))); ((case hin => exact lit_two2 rfl)); rintro e w5 ⟨p5, c5, L5, rfl, hv5, hm5, hl5, hb5⟩
          have hl0 : L5.length = 0 := by rw [HL.out.none5] at hl5; exact Nat.le_zero.1 hl5
          rw [hl0]
          have hb5r := BR.out _ _ (by (repeat' first | with_reducible exact Below.refl _ _ | with_reducible assumption | with_reducible refine Below.drew ?_ | with_reducible refine Below.alloc ?_ ?_ _ | with_reducible refine Below.setCell ?_ ?_ _ | (simp; done) | (simp; omega))) hb5))
      clear a0 a1 a4 a5 c0 hlen hlc
      obtain ⟨a0, a1, a4, a5⟩ := kb.out w5 hb5r
      have HB25 := Lib.hid (hb.trans (hb5r.mono hb.size))
      clear kb KO hv5 hm5 hl5 hb5 hl0 hbw hb5r BR la
      go_wp2_with fail
      go_loopw [5, 25] (fun last i wl => last = .int .i64 0 ∧ i = .int .i64 0 ∧ wl = w5) (fun _ _ _ => 1)
      case atStart => exact ⟨rfl, rfl, rfl⟩
      case round =>
        obtain ⟨rfl, rfl, rfl⟩ := hrel
        go_wp2_with fail
        go_region_held3 (fun w' => w'.cell? ⟨gu, 4, none⟩ = some (.int .i64 0) ∧ w'.cell? ⟨gu, 5, none⟩ = some (.int .i64 0))
          (first
            | with_reducible exact ⟨a4, a5⟩
            | exact ⟨a4, a5⟩)
          (fail)
        go_wp2_with fail
        exact ⟨⟨k + 1, by go_num, hlt, HB25.out.drew⟩, by simp [intOf]; omega⟩
    · obtain rfl : k = L.length := by omega
      have hbw : Below w.heap.size w wr := hb2.trans (hb.mono hb2.size)
      clear hb hlt hk
      go_wp2_with fail
      go_ret
      exact ⟨rfl, hbw⟩
set_option maxHeartbeats 4000000 in
theorem stocks_any (w : World) (vb : Value) (bb : Nat) (hvb : vb = .pointer (some ⟨bb, 0, none⟩)) (R : Nat → List (List Int)) (hL : Laid R) (K4 : OfK 74 vb ⟨#[115,116,111,99,107]⟩ (R 4) 0 w) (K7 : OfK 74 vb ⟨#[108,105,110,101]⟩ (R 7) 0 w) :
    Calls Tryz.prog 44 #[vb] w fun e w' => e = .returned (.bool true) ∧ Below w.heap.size w w' := by
  subst hvb
  have HL := Lib.hid hL
  have e7 := hL.none7
  rw [e7] at K7
  have KA := K7 w (.slice none 0 0) 0 (Below.refl _ _) (by omega) (IntsAt.nil w)
  have KB := fun wX hb => K4 wX (.slice none 0 0) 0 hb (by omega) (IntsAt.nil wX)
  clear hL K4 K7 e7
  go_enter Tryz.func44, Tryz.ntmps44
  go_wp2_with (first
    | (go_at_call 74; with_reducible refine KA.mono ?_; rintro e w1 ⟨p1, c1, L1, rfl, hv1, hm1, hl1, hb1⟩; obtain rfl := List.eq_nil_of_length_eq_zero (Nat.le_zero.1 hl1))
    | (go_at_call 74; with_reducible refine (KB _ hb1).mono ?_; rintro e w2 ⟨p2, c2, L, rfl, hv2, hm2, hl2, hb2⟩))
  clear KA KB hv1 hm1 hl1
  have hLs := HL.out.small 4
  have HV2 := Lib.hid hv2
  have HM2 := Lib.hid hm2
  have hb2w := hb1.trans (hb2.mono hb1.size)
  clear hv2 hm2 hb1 hb2
  go_loopw [15] (fun i wr => ∃ k : Nat, i = .int .i64 k ∧ k ≤ L.length ∧ wr = w2) (fun i _ => L.length - (intOf i).toNat)
  case atStart => exact ⟨0, rfl, Nat.zero_le _, rfl⟩
  case round =>
    obtain ⟨k, rfl, hk, rfl⟩ := hrel
    by_cases hlt : k < L.length
    · obtain ⟨l, hx⟩ : ∃ l, L[k]? = some l := ⟨_, List.getElem?_eq_getElem hlt⟩
      obtain ⟨g, cg, e2, _, hr⟩ := HV2.out.read (by omega)
      cases e2
      obtain ⟨u, cu, hu⟩ := hr k l hx
      have hm := HM2.out l (List.mem_of_getElem? hx)
      have hlen : l.length = 5 := HL.out.len 4 l hm
      obtain ⟨d3, d4⟩ := HL.out.stock l hm
      have hne : l ≠ [] := fun e => by rw [e] at hlen; cases hlen
      obtain ⟨gu, cuu, rfl, _, hlc, hru⟩ := hu.read hne
      rw [hlen] at cu hlc
      have a3 := hru 3 0 d3
      have a4 := hru 4 0 d4
      have HBW := Lib.hid hb2w
      clear hx hu hru hm d3 d4 hne hr hb2w
      go_wp2_with fail
      obtain ⟨w5, rfl⟩ : ∃ x : World, x = wr := ⟨_, rfl⟩
      go_loopw [6, 7, 21] (fun a b i wl => a = .int .i64 0 ∧ b = .int .i64 0 ∧ i = .int .i64 0 ∧ wl = w5) (fun _ _ _ _ => 1)
      case atStart => exact ⟨rfl, rfl, rfl, rfl⟩
      case round =>
        obtain ⟨rfl, rfl, rfl, rfl⟩ := hrel
        go_wp2_with fail
        exact ⟨⟨k + 1, by go_num, hlt, trivial⟩, by simp [intOf]; omega⟩
    · obtain rfl : k = L.length := by omega
      go_wp2_with fail
      go_ret
      exact ⟨rfl, hb2w⟩
end Go.Proofs.YtbjickdjkgefcaaGreatDoor
end
section
open Go Go.RowKit Go.Proofs.YtbjickdjkgefcaaGreatDoor.Vai
noncomputable section
namespace Go.Proofs.YtbjickdjkgefcaaGreatDoor
set_option linter.unusedVariables false
set_option linter.unusedSimpArgs false
set_option maxRecDepth 100000
def offOf (pre : Bool) : Nat := bif pre then 1 else 0
theorem entsT_ahead : (entsT (tabsP true 8) 5 0)[0]? = some ⟨atomT, tabA 8 5, 0⟩ := rfl
theorem entsT_at (pre : Bool) (j : Nat) (hj : j < 8) : (entsT (tabsP pre 8) 5 0)[offOf pre + j]? = some ⟨.string (tname j), tabA j (5 + 2 * (offOf pre + j)), offOf pre + j⟩ ∧ (specP (tabsP pre 8))[5 + 2 * (offOf pre + j)]? = some (colB j) := by
  match pre, j, hj with
  | false, 0, _ => exact ⟨rfl, rfl⟩
  | false, 1, _ => exact ⟨rfl, rfl⟩
  | false, 2, _ => exact ⟨rfl, rfl⟩
  | false, 3, _ => exact ⟨rfl, rfl⟩
  | false, 4, _ => exact ⟨rfl, rfl⟩
  | false, 5, _ => exact ⟨rfl, rfl⟩
  | false, 6, _ => exact ⟨rfl, rfl⟩
  | false, 7, _ => exact ⟨rfl, rfl⟩
  | true, 0, _ => exact ⟨rfl, rfl⟩
  | true, 1, _ => exact ⟨rfl, rfl⟩
  | true, 2, _ => exact ⟨rfl, rfl⟩
  | true, 3, _ => exact ⟨rfl, rfl⟩
  | true, 4, _ => exact ⟨rfl, rfl⟩
  | true, 5, _ => exact ⟨rfl, rfl⟩
  | true, 6, _ => exact ⟨rfl, rfl⟩
  | true, 7, _ => exact ⟨rfl, rfl⟩
theorem entsT_len (pre : Bool) : (entsT (tabsP pre 8) 5 0).length = offOf pre + 8 := by cases pre <;> rfl
/-- A table's value. -/
theorem tabA_vr {φ : Emb} {j b : Nat} {cv : Value} {nm : ByteArray} (hn : ∀ v, VR φ (nameV j) v → v = .string nm) (h : VR φ (tabA j b) cv) : ∃ (t : Tgt) (c : Nat), φ b = some t ∧ 0 + c * t.es = t.n ∧ cv = tabV nm (some ⟨t.blk, 0, none⟩) (lenOf j) c (keyOf j) (.slice none 0 0) := by
  cases h with
  | agg l cs hs h =>
    have hsz : cs.size = 5 := hs.symm
    have g : ∀ i (hi : i < 5), ∃ y, cs[i]? = some y := fun i hi => ⟨cs[i]'(by omega), Array.getElem?_eq_getElem _⟩
    obtain ⟨y0, e0⟩ := g 0 (by omega)
    obtain ⟨y1, e1⟩ := g 1 (by omega)
    obtain ⟨y2, e2⟩ := g 2 (by omega)
    obtain ⟨y3, e3⟩ := g 3 (by omega)
    obtain ⟨y4, e4⟩ := g 4 (by omega)
    have v0 := h 0 _ y0 rfl e0
    have v1 := h 1 _ y1 rfl e1
    have v2 := h 2 _ y2 rfl e2
    have v3 := h 3 _ y3 rfl e3
    have v4 := h 4 _ y4 rfl e4
    have r0 := hn _ v0
    cases v2; cases v3; cases v4
    cases v1 with
    | slice v o t l c c' h' g1 g2 =>
      refine ⟨t, c', h', g2 rfl, ?_⟩
      have : cs = #[y0, .slice (some ⟨t.blk, 0, none⟩) (lenOf j) c', .int .i64 (Int.ofNat (keyOf j)), .slice none 0 0, .slice none 0 0] := by
        apply Array.ext_getElem?
        intro i
        match i with
        | 0 => exact e0
        | 1 => exact e1
        | 2 => exact e2
        | 3 => exact e3
        | 4 => exact e4
        | i + 5 => rw [Array.getElem?_eq_none (by omega)]; rfl
      rw [this, r0]
      rfl
theorem name_vr {φ : Emb} {j : Nat} (hj : j < 8) : ∀ v, VR φ (nameV j) v → v = .string (tname j) := by
  intro v h
  rw [nameV_of hj] at h
  cases h; rfl
theorem ahead_vr {φ : Emb} : ∀ v, VR φ (nameV 8) v → v = .string (φ.sig.str 0) := by
  intro v h
  exact strOf_sound (i := 0) rfl h
/-- The catalogue, as it stays. -/
def specS (l : List Nat) : List BSpec := .cells 60 2 [.pointer (some ⟨1, 0, none⟩), topV] true :: .cells 117 1 [.map (some 2)] true :: .obj (.map (entsS l 3 0) l.length) :: colBs l
def idsS (l : List Nat) : List Nat := [0, 1, 3] ++ upTo (Nat.mul 2 l.length) 4
theorem subS_f : subOk (specP (tabsP false 8)) (specS (tabsP false 8)) (idsS (tabsP false 8)) = true := by kernel_rfl
theorem subS_t : subOk (specP (tabsP true 8)) (specS (tabsP true 8)) (idsS (tabsP true 8)) = true := by kernel_rfl
theorem subS (pre : Bool) : subOk (specP (tabsP pre 8)) (specS (tabsP pre 8)) (idsS (tabsP pre 8)) = true := by
  cases pre with
  | false => exact subS_f
  | true => exact subS_t
def CatW (pre : Bool) (a : ByteArray) (q : Four) (w : World) : Prop := ∃ us t0 t1 t2, Lies w (specS (tabsP pre 8)) us (sg a) ∧ us[0]? = some t0 ∧ t0.blk = q.d ∧ us[1]? = some t1 ∧ t1.blk = q.c ∧ us[2]? = some t2 ∧ t2.blk = q.s ∧ q.m ∉ us.map (·.blk)
/-- What stands ahead of the eight in the map of tables. -/
def Ahead (pre : Bool) (a : ByteArray) (pm : List MapEntry) : Prop := (pre = false ∧ pm = []) ∨ (pre = true ∧ ∃ p n c, pm = [⟨.string a, tabV a p n c 1 (.slice none 0 0), 0⟩])
/-- The program's data with rows, and all that is known of it. -/
structure PInv (pre : Bool) (a : ByteArray) (q : Four) (w0 : World) (pm : List MapEntry) (C : Nat → Cols) (clk : Nat) (L : List (Nat × List Int)) (w : World) : Prop where
  pd : PD w q.d q.m pm C (offOf pre) clk L
  ahead : Ahead pre a pm
  cols : JC C w
  cat : CatW pre a q w
  keep : KeepL q.own w0 w
  tabs : Tabs w
theorem Ahead.apart {pre : Bool} {a : ByteArray} {pm : List MapEntry} (h : Ahead pre a pm) (ha : Other a) : Apart pm := by
  intro e he
  rcases h with ⟨_, rfl⟩ | ⟨_, p, n, c, rfl⟩
  · cases he
  · simp only [List.mem_cons, List.mem_nil_iff, or_false] at he
    subst he
    refine ⟨a, rfl, fun j hj => ?_⟩
    cases hb : (tname j == a) with
    | false => rfl
    | true => exact absurd ((Go.MapKept.bytes_beq _ _).1 hb).symm (ha j hj)
theorem Ahead.len {pre : Bool} {a : ByteArray} {pm : List MapEntry} (h : Ahead pre a pm) : pm.length = offOf pre := by
  rcases h with ⟨rfl, rfl⟩ | ⟨rfl, p, n, c, rfl⟩ <;> rfl
theorem entry_eq {e : MapEntry} {k v : Value} {b : Nat} (h1 : e.key = k) (h2 : e.val = v) (h3 : e.born = b) : e = ⟨k, v, b⟩ := by cases e; simp at *; exact ⟨h1, h2, h3⟩
theorem str_vr {φ : Emb} {s : ByteArray} {v : Value} (h : VR φ (.string s) v) : v = .string s := by cases h; rfl
theorem pinv_of {pre : Bool} {a : ByteArray} {q : Four} {w0 w : World} {ts : List Tgt} (h : CSP pre a q w0 8 w ts) (ha : Other a) : ∃ pm C clk, PInv pre a q w0 pm C clk [] w := by
  obtain ⟨⟨t0, e0, b0⟩, ⟨t1, e1, b1⟩, ⟨t2, e2, b2⟩, ⟨t3, e3, b3⟩⟩ := h.at_
  obtain ⟨_, o, ho, hR⟩ := h.lies.ok 2 t2 _ e2 rfl
  obtain ⟨cm, acm, bcm⟩ := spec_cell (o := 1) h.lies e0 rfl rfl
  have ecm : cm = .map (some t2.blk) := by
    cases bcm with
    | map r t ht => have ht : ts[2]? = some t := ht; rw [e2] at ht; cases ht; rfl
  subst ecm
  cases hR with
  | map es cs clk hE =>
    have hlen : cs.toList.length = offOf pre + 8 := by rw [← EntsR.length hE, entsT_len]
    have hj : ∀ j, ∃ c : Cols, j < 8 → cs.toList[offOf pre + j]? = some (tent (fun _ => c) (fun _ => .slice none 0 0) (offOf pre) j) ∧ ColAt w c j := by
      intro j
      by_cases hj : j < 8
      · obtain ⟨x1, x2⟩ := entsT_at pre j hj
        obtain ⟨e, y1, y2, y3, y4⟩ := EntsR.at_ hE _ _ x1
        obtain ⟨t, c, z1, z2, z3⟩ := tabA_vr (name_vr hj) y3
        have z1 : ts[5 + 2 * (offOf pre + j)]? = some t := z1
        have ok := h.lies.ok _ t _ z1 x2
        refine ⟨⟨some ⟨t.blk, 0, none⟩, lenOf j, c⟩, fun _ => ⟨?_, t, rfl, rfl, z2, fun φ => cells_any ok (colCells_plain _) φ⟩⟩
        rw [y1]
        have yk : e.key = .string (tname j) := str_vr y2
        rw [keyOf_eq hj] at z3
        exact congrArg some (entry_eq yk z3 y4.symm)
      · exact ⟨⟨none, 0, 0⟩, fun h => absurd h hj⟩
    obtain ⟨C, hC⟩ := Classical.axiomOfChoice hj
    have hpm : ∃ pm, Ahead pre a pm ∧ pm = cs.toList.take (offOf pre) := by
      cases pre with
      | false => exact ⟨[], .inl ⟨rfl, rfl⟩, rfl⟩
      | true =>
        obtain ⟨e, y1, y2, y3, y4⟩ := EntsR.at_ hE 0 _ entsT_ahead
        obtain ⟨t, c, z1, z2, z3⟩ := tabA_vr ahead_vr y3
        refine ⟨[e], .inr ⟨rfl, some ⟨t.blk, 0, none⟩, lenOf 8, c, ?_⟩, ?_⟩
        · rw [entry_eq (ahead_vr _ y2) z3 y4.symm]; rfl
        · generalize cs.toList = l at y1
          match l, y1 with
          | x :: l, y1 => simp at y1; subst y1; simp [offOf]
          | [], y1 => simp at y1
    obtain ⟨pm, hA, hpm⟩ := hpm
    have hl := hA.len
    have hcs : cs = ⟨pm ++ (List.range 8).map (tent C (fun _ => .slice none 0 0) (offOf pre))⟩ := by
      apply Array.toList_inj.1
      apply List.ext_getElem?
      intro i
      by_cases h1 : i < offOf pre
      · rw [List.getElem?_append_left (by omega), hpm, List.getElem?_take, if_pos h1]
      · rw [List.getElem?_append_right (by omega), hl]
        by_cases h2 : i - offOf pre < 8
        · have := (hC (i - offOf pre) h2).1
          rw [show offOf pre + (i - offOf pre) = i by omega] at this
          rw [this, List.getElem?_map, List.getElem?_range h2]
          rfl
        · rw [List.getElem?_eq_none (by omega), List.getElem?_eq_none (by simp; omega)]
    have hM : MapIs w q.m pm C (fun _ => .slice none 0 0) (offOf pre) (tabsP pre 8).length := by
      show w.heap[q.m]? = _
      rw [← b2, ho, hcs]
    have hP : w.cell? ⟨q.d, 1, none⟩ = some (.map (some q.m)) := by rw [← b0, ← b2]; exact acm
    have hD : PD w q.d q.m pm C (offOf pre) (tabsP pre 8).length [] := ⟨hP, fun _ => .slice none 0 0, hM, fun j _ => ⟨[], rfl, World.ownsRow_nil _ _ _ _, fun i u l h => by simp at h⟩⟩
    refine ⟨pm, C, (tabsP pre 8).length, hD, hA, fun j hj => (hC j (by omega)).2, ?_, h.keep, h.tabs⟩
    · obtain ⟨us, hU, hu⟩ := h.lies.sub (subS pre)
      refine ⟨us, t0, t1, t3, hU, (hu 0 0 rfl).trans e0, b0, (hu 1 1 rfl).trans e1, b1, (hu 2 3 rfl).trans e3, b3, fun hm => ?_⟩
      obtain ⟨t, ht, hq⟩ := List.mem_map.1 hm
      obtain ⟨k, hk⟩ := List.getElem?_of_mem ht
      have hk2 : k < (idsS (tabsP pre 8)).length := by
        have := (List.getElem?_eq_some_iff.1 hk).1
        have hl := hU.len
        have e : (specS (tabsP pre 8)).length = (idsS (tabsP pre 8)).length := by cases pre <;> rfl
        omega
      have h5 := hu k _ (List.getElem?_eq_getElem hk2)
      rw [hk] at h5
      have hid : (idsS (tabsP pre 8))[k] ≠ 2 := fun e => by
        have hmem := List.getElem_mem (l := idsS (tabsP pre 8)) hk2
        rw [e] at hmem
        revert hmem
        cases pre <;> decide
      have hne : (idsS (tabsP pre 8))[k] = 2 := by
        have l1 := (List.getElem?_eq_some_iff.1 h5.symm).1
        refine (List.getElem?_inj (l := ts.map (·.blk)) (by rw [List.length_map]; exact l1) h.lies.nodup).1 ?_
        rw [List.getElem?_map, List.getElem?_map, ← h5, e2]
        simp [hq, b2]
      exact hid hne
end Go.Proofs.YtbjickdjkgefcaaGreatDoor
end
end
section
open Go Go.RowKit Go.Proofs.YtbjickdjkgefcaaGreatDoor.Vai
namespace Go.Proofs.YtbjickdjkgefcaaGreatDoor
set_option linter.unusedVariables false
set_option linter.unusedSimpArgs false
set_option maxRecDepth 20000
theorem KeepL.of_grown {l : List Nat} {m : Nat} {w w' : World} (h : w.grownBy w' (some m)) (hm : m ∈ l) : KeepL l w w' :=
  ⟨h.os, h.tape, h.output, h.size, fun q hq hn => h.block q hq (fun e => by cases e; exact hn hm)⟩
theorem PInv.own0 {pre : Bool} {a : ByteArray} {q : Four} {w0 : World} {pm : List MapEntry} {C : Nat → Cols} {clk : Nat} {L : List (Nat × List Int)} {w : World} (h : PInv pre a q w0 pm C clk L w) : 0 ∉ q.own := by
  obtain ⟨cs, hz⟩ := tabs_zero h.tabs
  intro hm
  simp only [Four.own, List.mem_cons, List.mem_nil_iff, or_false] at hm
  rcases hm with e | e
  · obtain ⟨E, hM, _⟩ := h.pd.tabs
    have hM : w.heap[q.m]? = _ := hM
    rw [← e, hz] at hM
    cases hM
  · obtain ⟨us, t0, t1, t2, hU, _, _, _, _, e2, b2, _⟩ := h.cat
    obtain ⟨_, o, ho, hR⟩ := hU.ok 2 t2 _ e2 rfl
    rw [b2, ← e, hz] at ho
    cases ho; cases hR
theorem PInv.applied {pre : Bool} {a : ByteArray} {q : Four} {w0 : World} {pm : List MapEntry} {C : Nat → Cols} {clk : Nat} {L : List (Nat × List Int)} {w w' : World} (h : PInv pre a q w0 pm C clk [] w) (hp : PD w' q.d q.m pm C (offOf pre) clk L) (hg : w.grownBy w' (some q.m)) : PInv pre a q w0 pm C clk L w' := by
  obtain ⟨E, hM, _⟩ := h.pd.tabs
  have hk : KeepL q.own w w' := KeepL.of_grown hg (by simp [Four.own])
  refine ⟨hp, h.ahead, h.cols.keep (KT.grownMap hg hM), ?_, h.keep.trans hk, h.tabs.keepL hk h.own0⟩
  obtain ⟨us, t0, t1, t2, hU, e0, b0, e1, b1, e2, b2, hm⟩ := h.cat
  refine ⟨us, t0, t1, t2, hU.keep hg.size (fun k t ht => hg.block _ (hU.lt k t ht) (fun e => ?_)), e0, b0, e1, b1, e2, b2, hm⟩
  exact hm (List.mem_map.2 ⟨t, List.mem_of_getElem? ht, Option.some.inj e⟩)
theorem pload_in (pre : Bool) (a : ByteArray) (ha : Other a) (q : Four) (w0 w : World) (W D K I : Nat) (hW : 1 ≤ W ∧ W ≤ 5) (hD : 1 ≤ D ∧ D ≤ 5) (hK : 1 ≤ K ∧ K ≤ 50) (hI : 1 ≤ I ∧ I ≤ 50) (h : CSw pre a q w0 0 w) :
    Calls Tryz.prog 9 #[.pointer (some ⟨q.d, 0, none⟩), .int .i64 W, .int .i64 D, .int .i64 K, .int .i64 I] w fun e w' => e = .returned (.int .i64 0) ∧ ∃ pm C clk, PInv pre a q w0 pm C clk (puts W D K I) w' := by
  refine load_walk q.d (CSw pre a q w0) (NVw pre a) (TVw pre a q w0) (load_head pre a ha q w0) W D K I w hW hD hK hI h (fun w' => ∃ pm C clk, PInv pre a q w0 pm C clk (puts W D K I) w') ?_
  intro w8 w' p cap ⟨ts, h8⟩ hb hO
  obtain ⟨pm, C, clk, hP⟩ := pinv_of (h8.below hb) ha
  refine (apply_any (JC C) (fun w w' hJ hk => hJ.keep hk) w' q.d q.m pm C (offOf pre) clk (puts W D K I) p cap hP.pd (hP.ahead.apart ha) hP.cols (good_puts hW.2 hD.2 hK.2 hI.2) (by have := puts_len hW.2 hD.2 hK.2 hI.2; omega) hO).mono ?_
  rintro e w2 ⟨res, rfl, h1, h2⟩
  exact ⟨res, rfl, pm, C, clk, hP.applied h1 h2⟩
end Go.Proofs.YtbjickdjkgefcaaGreatDoor
end
