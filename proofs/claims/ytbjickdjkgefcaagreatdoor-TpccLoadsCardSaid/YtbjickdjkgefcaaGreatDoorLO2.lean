/- The law's walk: its own code, all its calls by what they tell. -/
import Derived.Test.YtbjickdjkgefcaaGreatDoorLI1
import Derived.Test.YtbjickdjkgefcaaGreatDoorLK9
import Derived.Test.YtbjickdjkgefcaaGreatDoorVB2
import Derived.Test.YtbjickdjkgefcaaGreatDoorLJ3
import Derived.Test.YtbjickdjkgefcaaGreatDoorLN1
section
open Go Go.RowKit Go.Proofs.YtbjickdjkgefcaaGreatDoor.Vai
namespace Go.Proofs.YtbjickdjkgefcaaGreatDoor
set_option linter.unusedVariables false
set_option linter.unusedSimpArgs false
set_option maxRecDepth 20000
theorem bothNew (a : ByteArray) (w : World) (h : Tabs w) : Calls Tryz.prog 7 #[] w fun e w1 => ∃ q : Four, e = .returned (.pointer (some ⟨q.d, 0, none⟩)) ∧ Below w.heap.size w w1 ∧
    ∀ w2, Below w1.heap.size w1 w2 → Calls Tryz.prog 8 #[] w2 fun e w3 => ∃ r : Two, e = .returned (.pointer (some ⟨r.d, 0, none⟩)) ∧ Below w2.heap.size w2 w3 ∧ Joint false a q r w3 ∧ ∀ x ∈ q.own ++ r.l, w.heap.size ≤ x ∧ x < w3.heap.size := by
  refine (new_p a w).mono ?_
  rintro e w1 ⟨q, ts, rfl, hL, h4, hN, hb⟩
  refine ⟨q, rfl, hb, fun w2 hb2 => ?_⟩
  refine (new_r a w2).mono ?_
  rintro e w3 ⟨r, us, rfl, hU, h2, hM, hb3⟩
  have hT3 : Tabs w3 := ((h.under hb).under hb2).under hb3
  have hL3 := (hL.below hb2).below hb3
  have hs1 := hb.size
  have hs2 := hb2.size
  have hC : CSP false a q w3 0 w3 ts := ⟨hL3, h4, KeepL.refl _ _, hT3⟩
  refine ⟨r, rfl, hb3, ⟨ts, us, hC, hU, h2, fun x hx hm => ?_⟩, fun x hx => ?_⟩
  · have e1 := hM x hx
    have e2 := (hL.below hb2).ltm x hm
    omega
  · rcases List.mem_append.1 hx with hx | hx
    · have hm := hC.mem x hx
      exact ⟨hN x hm, hL3.ltm x hm⟩
    · have hm := rmem h2 x hx
      have := hM x hm
      exact ⟨by omega, hU.ltm x hm⟩
theorem four_keep {w : World} {b : Nat} {v0 v1 v2 v3 : Value} (h0 : w.cell? ⟨b, 0, none⟩ = some v0) (h1 : w.cell? ⟨b, 1, none⟩ = some v1) (h2 : w.cell? ⟨b, 2, none⟩ = some v2) (h3 : w.cell? ⟨b, 3, none⟩ = some v3) {l : List Nat} (hn : b ∉ l) {w' : World} (hk : KeepL l w w') :
    w'.cell? ⟨b, 0, none⟩ = some v0 ∧ w'.cell? ⟨b, 1, none⟩ = some v1 ∧ w'.cell? ⟨b, 2, none⟩ = some v2 ∧ w'.cell? ⟨b, 3, none⟩ = some v3 := by
  have e := hk.block b (cell_lt h0) hn
  have hc : ∀ o, w'.cell? ⟨b, o, none⟩ = w.cell? ⟨b, o, none⟩ := fun o => by unfold World.cell?; simp only [e]
  exact ⟨(hc 0).trans h0, (hc 1).trans h1, (hc 2).trans h2, (hc 3).trans h3⟩
set_option maxHeartbeats 4000000 in
theorem tpcc_walk (W D C I : Int) (a : ByteArray) (K16 : ∀ w, Tabs w → Calls Tryz.prog 16 #[] w fun e w' => e = .returned (.bool true) ∧ Below w.heap.size w w') (w : World) (h : Tabs w) :
    Calls Tryz.prog 3 #[.agg #[.int .i64 W, .int .i64 D, .int .i64 C, .int .i64 I], .string a] w fun e w' => e = .returned (.bool true) ∧ Below w.heap.size w w' := by
  have HT := Lib.hid h
  have H16 := Lib.hid K16
  clear h K16
  go_enter Tryz.func3, Tryz.ntmps3
  go_wp2_with (first
    | (go_at_call 4; refine (bothTabs _ ?ht).mono ?_; ((case ht => exact HT.out.under (by (repeat' first | with_reducible exact Below.refl _ _ | with_reducible assumption | with_reducible refine Below.drew ?_ | with_reducible refine Below.alloc ?_ ?_ _ | with_reducible refine Below.setCell ?_ ?_ _ | (simp; done) | (simp; omega))))); rintro e w1 ⟨tb, cap, rfl, ht1, hb1, K5⟩)
    | (go_at_call 5; refine (K5 _ ?hb).mono ?_; ((case hb => (repeat' first | with_reducible exact Below.refl _ _ | with_reducible assumption | with_reducible refine Below.drew ?_ | with_reducible refine Below.alloc ?_ ?_ _ | with_reducible refine Below.setCell ?_ ?_ _ | (simp; done) | (simp; omega)))); rintro e w3 ⟨ub, cap', rfl, hb3, hTT⟩))
  have x : (w.alloc (.cells #[.int .i64 W, .int .i64 D, .int .i64 C, .int .i64 I] 23)).heap[w.heap.size]? = some (.cells #[.int .i64 W, .int .i64 D, .int .i64 C, .int .i64 I] 23 (0, 0)) := heap_alloc_at
  have hT3 : Tabs w3 := ht1.under hb3
  have B0 : Below w.heap.size w (w.alloc (.cells #[.int .i64 W, .int .i64 D, .int .i64 C, .int .i64 I] 23)) := (Below.refl _ _).alloc (Nat.le_refl _) _
  obtain ⟨wb, hwb⟩ : ∃ y, y = w.alloc (.cells #[.int .i64 W, .int .i64 D, .int .i64 C, .int .i64 I] 23) := ⟨_, rfl⟩
  rw [← hwb] at x hb1 B0
  have hb3w := hb1.trans (hb3.mono hb1.size)
  have B03 := Lib.hid (B0.trans (hb3w.mono B0.size))
  obtain ⟨b2, hb2⟩ : ∃ y, y = w.heap.size := ⟨_, rfl⟩
  rw [← hb2] at x ⊢
  have x3 : w3.heap[b2]? = some (.cells #[.int .i64 W, .int .i64 D, .int .i64 C, .int .i64 I] 23 (0, 0)) := (hb3w.block _ (lt_of_heap x)).trans x
  have X3 := Lib.hid (And.intro hT3 x3)
  clear x x3 hT3 hb1 hb3 hb3w B0 K5 ht1 HT hwb hb2 wb w1
  go_loopw [7] (fun i wr => ∃ k : Nat, i = .int .i64 k ∧ k ≤ 8 ∧ TwoTabs wr tb ub ∧ Below w3.heap.size w3 wr) (fun i _ => 8 - (intOf i).toNat)
  case atStart => exact ⟨0, rfl, Nat.zero_le _, hTT, Below.refl _ _⟩
  case round =>
    obtain ⟨k, rfl, hk, hT, hb⟩ := hrel
    clear hTT
    by_cases hlt : k < 8
    · obtain ⟨c, c', p1, p2, p3⟩ := hT k hlt
      have K6 := fun wX (hX : Below wr.heap.size wr wX) => sameTab_any hlt wX (p1.below hX).at_ (p2.below hX).at_ p3
      have KH := Lib.hid (fun wX (hX : Below wr.heap.size wr wX) => And.intro (hT.below hX) (hb.trans (hX.mono hb.size)))
      unfold tabW at K6
      obtain ⟨a0, a1, a2, a3, _⟩ := p1
      obtain ⟨d0, d1, d2, d3, _⟩ := p2
      obtain ⟨nm, hnm⟩ : ∃ n, n = tname k := ⟨_, rfl⟩
      rw [← hnm] at a0 d0 K6
      obtain ⟨kn, hkn⟩ : ∃ n, n = tkey k := ⟨_, rfl⟩
      rw [← hkn] at a2 d2 K6
      have kb : Hid (∀ w', Below wr.heap.size wr w' → w'.cell? ⟨tb, k * 4, none⟩ = some (.string nm) ∧ w'.cell? ⟨tb, k * 4 + 1, none⟩ = some (.slice c.p c.n c.c) ∧ w'.cell? ⟨tb, k * 4 + 2, none⟩ = some (.int .i64 kn) ∧ w'.cell? ⟨tb, k * 4 + 3, none⟩ = some (.slice none 0 0) ∧ w'.cell? ⟨ub, k * 4, none⟩ = some (.string nm) ∧ w'.cell? ⟨ub, k * 4 + 1, none⟩ = some (.slice c'.p c'.n c'.c) ∧ w'.cell? ⟨ub, k * 4 + 2, none⟩ = some (.int .i64 kn) ∧ w'.cell? ⟨ub, k * 4 + 3, none⟩ = some (.slice none 0 0)) := fun w' h => ⟨(h.cell (p := ⟨tb, k * 4, none⟩) (cell_lt a0)).trans a0, (h.cell (p := ⟨tb, k * 4 + 1, none⟩) (cell_lt a1)).trans a1, (h.cell (p := ⟨tb, k * 4 + 2, none⟩) (cell_lt a2)).trans a2, (h.cell (p := ⟨tb, k * 4 + 3, none⟩) (cell_lt a3)).trans a3, (h.cell (p := ⟨ub, k * 4, none⟩) (cell_lt d0)).trans d0, (h.cell (p := ⟨ub, k * 4 + 1, none⟩) (cell_lt d1)).trans d1, (h.cell (p := ⟨ub, k * 4 + 2, none⟩) (cell_lt d2)).trans d2, (h.cell (p := ⟨ub, k * 4 + 3, none⟩) (cell_lt d3)).trans d3⟩
      have BT : Hid (∀ wX w2, Below wr.heap.size wr wX → Below wX.heap.size wX w2 → Below wr.heap.size wr w2) := fun _ _ a b => a.trans (b.mono a.size)
      clear hnm hkn hT hb p3
      go_wp2_with fail
      go_region_held3 (fun w' => w'.cell? ⟨tb, k * 4, none⟩ = some (.string nm) ∧ w'.cell? ⟨tb, k * 4 + 1, none⟩ = some (.slice c.p c.n c.c) ∧ w'.cell? ⟨tb, k * 4 + 2, none⟩ = some (.int .i64 kn) ∧ w'.cell? ⟨tb, k * 4 + 3, none⟩ = some (.slice none 0 0) ∧ w'.cell? ⟨ub, k * 4, none⟩ = some (.string nm) ∧ w'.cell? ⟨ub, k * 4 + 1, none⟩ = some (.slice c'.p c'.n c'.c) ∧ w'.cell? ⟨ub, k * 4 + 2, none⟩ = some (.int .i64 kn) ∧ w'.cell? ⟨ub, k * 4 + 3, none⟩ = some (.slice none 0 0))
        (first
          | with_reducible exact ⟨a0, a1, a2, a3, d0, d1, d2, d3⟩
          | (refine kb.out _ ?_; (repeat' first | with_reducible exact Below.refl _ _ | with_reducible assumption | with_reducible refine Below.drew ?_ | with_reducible refine Below.alloc ?_ ?_ _ | with_reducible refine Below.setCell ?_ ?_ _ | (simp; done) | (simp; omega)); done))
        ((go_at_call 6; with_reducible refine (K6 _ ?hbel).mono ?_; ((case hbel => (repeat' first | with_reducible exact Below.refl _ _ | with_reducible assumption | with_reducible refine Below.drew ?_ | with_reducible refine Below.alloc ?_ ?_ _ | with_reducible refine Below.setCell ?_ ?_ _ | (simp; done) | (simp; omega)))); rintro e w4 ⟨rfl, hb4'⟩; have hb4 := BT.out _ _ (by (repeat' first | with_reducible exact Below.refl _ _ | with_reducible assumption | with_reducible refine Below.drew ?_ | with_reducible refine Below.alloc ?_ ?_ _ | with_reducible refine Below.setCell ?_ ?_ _ | (simp; done) | (simp; omega))) hb4'; clear hb4'))
      go_wp2_with fail
      exact ⟨⟨k + 1, by go_num, hlt, (KH.out _ hb4).1, (KH.out _ hb4).2⟩, by simp [intOf]; omega⟩
    · obtain rfl : k = 8 := by omega
      clear hk hlt hT
      have HB := Lib.hid hb
      clear hb
      have T3 := Lib.hid (X3.out.1.under HB.out)
      go_wp2_with (first
        | (go_at_call 7; refine (bothNew a _ T3.out).mono ?_; rintro e w5 ⟨q, rfl, hb5, K8⟩)
        | (go_at_call 8; refine (K8 _ ?hb).mono ?_; ((case hb => (repeat' first | with_reducible exact Below.refl _ _ | with_reducible assumption | with_reducible refine Below.drew ?_ | with_reducible refine Below.alloc ?_ ?_ _ | with_reducible refine Below.setCell ?_ ?_ _ | (simp; done) | (simp; omega)))); rintro e w6 ⟨r, rfl, hb6, hJ, hO⟩)
        | (go_at_call 9; refine (nil_five _).mono ?_; rintro e w7 ⟨rfl, hb7⟩))
      have zs : (w7.alloc (.cells #[.string ⟨#[119]⟩, .int .i64 2] 38)).heap.size = w7.heap.size + 1 := by simp
      have zc : (w7.alloc (.cells #[.string ⟨#[119]⟩, .int .i64 2] 38)).heap[w7.heap.size]? = some (.cells #[.string ⟨#[119]⟩, .int .i64 2] 38 (0, 0)) := heap_alloc_at
      have bA : Below w7.heap.size w7 (w7.alloc (.cells #[.string ⟨#[119]⟩, .int .i64 2] 38)) := (Below.refl _ _).alloc (Nat.le_refl _) _
      obtain ⟨wA, hwA⟩ : ∃ y, y = w7.alloc (.cells #[.string ⟨#[119]⟩, .int .i64 2] 38) := ⟨_, rfl⟩
      rw [← hwA] at zs zc bA ⊢
      obtain ⟨cb, hcb⟩ : ∃ y, y = w7.heap.size := ⟨_, rfl⟩
      rw [← hcb] at zs zc ⊢
      obtain ⟨b10, hb10⟩ : ∃ y, y = cb + 1 := ⟨_, rfl⟩
      rw [← hb10] at zs ⊢
      have zt : (wA.alloc (.cells #[.string a, .slice (some ⟨cb, 0, none⟩) 1 1, .int .i64 1, .slice none 0 0] 30)).heap[b10]? = some (.cells #[.string a, .slice (some ⟨cb, 0, none⟩) 1 1, .int .i64 1, .slice none 0 0] 30 (0, 0)) := by rw [← zs]; exact heap_alloc_at
      have b8 : Below wA.heap.size wA (wA.alloc (.cells #[.string a, .slice (some ⟨cb, 0, none⟩) 1 1, .int .i64 1, .slice none 0 0] 30)) := (Below.refl _ _).alloc (Nat.le_refl _) _
      obtain ⟨w8, hw8⟩ : ∃ y, y = wA.alloc (.cells #[.string a, .slice (some ⟨cb, 0, none⟩) 1 1, .int .i64 1, .slice none 0 0] 30) := ⟨_, rfl⟩
      rw [← hw8] at zt b8 ⊢
      have b68 : Below w6.heap.size w6 w8 := hb7.trans ((bA.trans (b8.mono bA.size)).mono hb7.size)
      have s7 := hb7.size
      have hcbn : cb ∉ q.own ++ r.l := fun h => by have := (hO _ h).2; omega
      have hb10n : b10 ∉ q.own ++ r.l := fun h => by have := (hO _ h).2; omega
      have hJ8 : Joint false a q r w8 := hJ.below b68
      have hC8 : ColW w8 cb := (b8.block _ (by omega)).trans zc
      have br3 : Below wr.heap.size wr w8 := hb5.trans ((hb6.trans (b68.mono hb6.size)).mono hb5.size)
      have x8 : w8.heap[b2]? = some (.cells #[.int .i64 W, .int .i64 D, .int .i64 C, .int .i64 I] 23 (0, 0)) := ((HB.out.trans (br3.mono HB.out.size)).block _ (lt_of_heap X3.out.2)).trans X3.out.2
      have hb2n : b2 ∉ q.own ++ r.l := fun h => by
        have e1 := (hO _ h).1
        have e2 := lt_of_heap X3.out.2
        have e3 := HB.out.size
        omega
      have BF : Hid (∀ w', KeepL (q.own ++ r.l) w8 w' → Below w.heap.size w w') := fun w' h => h.to_below (B03.out.trans ((HB.out.trans (br3.mono HB.out.size)).mono B03.out.size)) (fun x hx => by
        have e1 := (hO _ hx).1
        have e2 := HB.out.size
        have e3 := B03.out.size
        omega)
      obtain ⟨P, n, m, kk, HR, h0⟩ := roads a q r cb W D C I hcbn
      have HR := Lib.hid HR
      have p0 := h0 w8 hJ8 hC8
      have kb : Hid (∀ w', KeepL (q.own ++ r.l) w8 w' → w'.cell? ⟨b2, 0, none⟩ = some (.int .i64 W) ∧ w'.cell? ⟨b2, 1, none⟩ = some (.int .i64 D) ∧ w'.cell? ⟨b2, 2, none⟩ = some (.int .i64 C) ∧ w'.cell? ⟨b2, 3, none⟩ = some (.int .i64 I) ∧ w'.cell? ⟨b10, 0, none⟩ = some (.string a) ∧ w'.cell? ⟨b10, 1, none⟩ = some (.slice (some ⟨cb, 0, none⟩) 1 1) ∧ w'.cell? ⟨b10, 2, none⟩ = some (.int .i64 1) ∧ w'.cell? ⟨b10, 3, none⟩ = some (.slice none 0 0)) := fun w' h => by
        obtain ⟨e0, e1, e2, e3⟩ := four_keep (cell_of_heap x8 0 _ rfl) (cell_of_heap x8 1 _ rfl) (cell_of_heap x8 2 _ rfl) (cell_of_heap x8 3 _ rfl) hb2n h
        obtain ⟨g0, g1, g2, g3⟩ := four_keep (cell_of_heap zt 0 _ rfl) (cell_of_heap zt 1 _ rfl) (cell_of_heap zt 2 _ rfl) (cell_of_heap zt 3 _ rfl) hb10n h
        exact ⟨e0, e1, e2, e3, g0, g1, g2, g3⟩
      obtain ⟨own, how⟩ : ∃ y, y = q.own ++ r.l := ⟨_, rfl⟩
      rw [← how] at kb HR BF
      clear how hwA hcb hb10 zs zc zt bA b8 hw8 b68 s7 hcbn hb10n hJ8 hC8 br3 x8 hb2n h0 hJ hO K8 hb5 hb6 hb7 T3 HB X3
      obtain ⟨a0, a1, a2, a3, a4, a5, a6, a7⟩ := kb.out w8 (KeepL.refl _ _)
      obtain ⟨qd, hqd⟩ : ∃ y, y = q.d := ⟨_, rfl⟩
      obtain ⟨rd, hrd⟩ : ∃ y, y = r.d := ⟨_, rfl⟩
      rw [← hqd, ← hrd] at HR
      rw [← hqd, ← hrd]
      clear hqd hrd
      have kb8 : Hid (∀ w', Below w8.heap.size w8 w' → w'.cell? ⟨b2, 0, none⟩ = some (.int .i64 W) ∧ w'.cell? ⟨b2, 1, none⟩ = some (.int .i64 D) ∧ w'.cell? ⟨b2, 2, none⟩ = some (.int .i64 C) ∧ w'.cell? ⟨b2, 3, none⟩ = some (.int .i64 I) ∧ w'.cell? ⟨b10, 0, none⟩ = some (.string a) ∧ w'.cell? ⟨b10, 1, none⟩ = some (.slice (some ⟨cb, 0, none⟩) 1 1) ∧ w'.cell? ⟨b10, 2, none⟩ = some (.int .i64 1) ∧ w'.cell? ⟨b10, 3, none⟩ = some (.slice none 0 0)) := fun w' h => kb.out w' (KeepL.of_below h)
      go_region_held3 (fun w' => w'.cell? ⟨b2, 0, none⟩ = some (.int .i64 W) ∧ w'.cell? ⟨b2, 1, none⟩ = some (.int .i64 D) ∧ w'.cell? ⟨b2, 2, none⟩ = some (.int .i64 C) ∧ w'.cell? ⟨b2, 3, none⟩ = some (.int .i64 I) ∧ w'.cell? ⟨b10, 0, none⟩ = some (.string a) ∧ w'.cell? ⟨b10, 1, none⟩ = some (.slice (some ⟨cb, 0, none⟩) 1 1) ∧ w'.cell? ⟨b10, 2, none⟩ = some (.int .i64 1) ∧ w'.cell? ⟨b10, 3, none⟩ = some (.slice none 0 0))
        (first
          | with_reducible exact ⟨a0, a1, a2, a3, a4, a5, a6, a7⟩
          | (refine kb8.out _ ?_; (repeat' first | with_reducible exact Below.refl _ _ | with_reducible assumption | with_reducible refine Below.drew ?_ | with_reducible refine Below.alloc ?_ ?_ _ | with_reducible refine Below.setCell ?_ ?_ _ | (simp; done) | (simp; omega)); done)
          | (refine kb10.out _ ?_; (repeat' first | with_reducible exact Below.refl _ _ | with_reducible assumption | with_reducible refine Below.drew ?_ | with_reducible refine Below.alloc ?_ ?_ _ | with_reducible refine Below.setCell ?_ ?_ _ | (simp; done) | (simp; omega)); done)
          | (refine kb11.out _ ?_; (repeat' first | with_reducible exact Below.refl _ _ | with_reducible assumption | with_reducible refine Below.drew ?_ | with_reducible refine Below.alloc ?_ ?_ _ | with_reducible refine Below.setCell ?_ ?_ _ | (simp; done) | (simp; omega)); done)
          | (refine kb9.out _ ?_; (repeat' first | with_reducible exact Below.refl _ _ | with_reducible assumption | with_reducible refine Below.drew ?_ | with_reducible refine Below.alloc ?_ ?_ _ | with_reducible refine Below.setCell ?_ ?_ _ | (simp; done) | (simp; omega)); done)
          | (refine kb12.out _ ?_; (repeat' first | with_reducible exact Below.refl _ _ | with_reducible assumption | with_reducible refine Below.drew ?_ | with_reducible refine Below.alloc ?_ ?_ _ | with_reducible refine Below.setCell ?_ ?_ _ | (simp; done) | (simp; omega)); done))
        ((first
          | (go_at_call 10; refine (HR.out.c10 _ (HR.out.below 0 _ _ p0 ?hbel)).mono ?_; ((case hbel => (repeat' first | with_reducible exact Below.refl _ _ | with_reducible assumption | with_reducible refine Below.drew ?_ | with_reducible refine Below.alloc ?_ ?_ _ | with_reducible refine Below.setCell ?_ ?_ _ | (simp; done) | (simp; omega)))); rintro e w10 ⟨rfl, p1, hk10'⟩
             have hk10 : KeepL own w8 w10 := (KeepL.of_below (by (repeat' first | with_reducible exact Below.refl _ _ | with_reducible assumption | with_reducible refine Below.drew ?_ | with_reducible refine Below.alloc ?_ ?_ _ | with_reducible refine Below.setCell ?_ ?_ _ | (simp; done) | (simp; omega)))).trans hk10'
             have kb10 : Hid (∀ w', Below w10.heap.size w10 w' → w'.cell? ⟨b2, 0, none⟩ = some (.int .i64 W) ∧ w'.cell? ⟨b2, 1, none⟩ = some (.int .i64 D) ∧ w'.cell? ⟨b2, 2, none⟩ = some (.int .i64 C) ∧ w'.cell? ⟨b2, 3, none⟩ = some (.int .i64 I) ∧ w'.cell? ⟨b10, 0, none⟩ = some (.string a) ∧ w'.cell? ⟨b10, 1, none⟩ = some (.slice (some ⟨cb, 0, none⟩) 1 1) ∧ w'.cell? ⟨b10, 2, none⟩ = some (.int .i64 1) ∧ w'.cell? ⟨b10, 3, none⟩ = some (.slice none 0 0)) := fun w' h => kb.out w' (hk10.trans (KeepL.of_below h)))
          | (go_at_call 11; refine (HR.out.c11 _ (HR.out.below 1 _ _ p1 ?hbel)).mono ?_; ((case hbel => (repeat' first | with_reducible exact Below.refl _ _ | with_reducible assumption | with_reducible refine Below.drew ?_ | with_reducible refine Below.alloc ?_ ?_ _ | with_reducible refine Below.setCell ?_ ?_ _ | (simp; done) | (simp; omega)))); rintro e w11 ⟨rfl, p2, hk11'⟩
             have hk11 : KeepL own w8 w11 := hk10.trans ((KeepL.of_below (by (repeat' first | with_reducible exact Below.refl _ _ | with_reducible assumption | with_reducible refine Below.drew ?_ | with_reducible refine Below.alloc ?_ ?_ _ | with_reducible refine Below.setCell ?_ ?_ _ | (simp; done) | (simp; omega)))).trans hk11')
             have kb11 : Hid (∀ w', Below w11.heap.size w11 w' → w'.cell? ⟨b2, 0, none⟩ = some (.int .i64 W) ∧ w'.cell? ⟨b2, 1, none⟩ = some (.int .i64 D) ∧ w'.cell? ⟨b2, 2, none⟩ = some (.int .i64 C) ∧ w'.cell? ⟨b2, 3, none⟩ = some (.int .i64 I) ∧ w'.cell? ⟨b10, 0, none⟩ = some (.string a) ∧ w'.cell? ⟨b10, 1, none⟩ = some (.slice (some ⟨cb, 0, none⟩) 1 1) ∧ w'.cell? ⟨b10, 2, none⟩ = some (.int .i64 1) ∧ w'.cell? ⟨b10, 3, none⟩ = some (.slice none 0 0)) := fun w' h => kb.out w' (hk11.trans (KeepL.of_below h)))
          | (go_at_call 9; refine (HR.out.leg.c9 _ (HR.out.leg.below 0 _ _ p2 ?hbel)).mono ?_; ((case hbel => (repeat' first | with_reducible exact Below.refl _ _ | with_reducible assumption | with_reducible refine Below.drew ?_ | with_reducible refine Below.alloc ?_ ?_ _ | with_reducible refine Below.setCell ?_ ?_ _ | (simp; done) | (simp; omega)))); rintro e w9 ⟨rfl, p3, hk9'⟩
             have hk9 : KeepL own w8 w9 := hk11.trans ((KeepL.of_below (by (repeat' first | with_reducible exact Below.refl _ _ | with_reducible assumption | with_reducible refine Below.drew ?_ | with_reducible refine Below.alloc ?_ ?_ _ | with_reducible refine Below.setCell ?_ ?_ _ | (simp; done) | (simp; omega)))).trans hk9')
             have kb9 : Hid (∀ w', Below w9.heap.size w9 w' → w'.cell? ⟨b2, 0, none⟩ = some (.int .i64 W) ∧ w'.cell? ⟨b2, 1, none⟩ = some (.int .i64 D) ∧ w'.cell? ⟨b2, 2, none⟩ = some (.int .i64 C) ∧ w'.cell? ⟨b2, 3, none⟩ = some (.int .i64 I) ∧ w'.cell? ⟨b10, 0, none⟩ = some (.string a) ∧ w'.cell? ⟨b10, 1, none⟩ = some (.slice (some ⟨cb, 0, none⟩) 1 1) ∧ w'.cell? ⟨b10, 2, none⟩ = some (.int .i64 1) ∧ w'.cell? ⟨b10, 3, none⟩ = some (.slice none 0 0)) := fun w' h => kb.out w' (hk9.trans (KeepL.of_below h)))
          | (go_at_call 12; refine (HR.out.leg.c12 _ (HR.out.leg.below 1 _ _ p3 ?hbel)).mono ?_; ((case hbel => (repeat' first | with_reducible exact Below.refl _ _ | with_reducible assumption | with_reducible refine Below.drew ?_ | with_reducible refine Below.alloc ?_ ?_ _ | with_reducible refine Below.setCell ?_ ?_ _ | (simp; done) | (simp; omega)))); rintro e w12 ⟨rfl, p4, hk12'⟩
             have hk12 : KeepL own w8 w12 := hk9.trans ((KeepL.of_below (by (repeat' first | with_reducible exact Below.refl _ _ | with_reducible assumption | with_reducible refine Below.drew ?_ | with_reducible refine Below.alloc ?_ ?_ _ | with_reducible refine Below.setCell ?_ ?_ _ | (simp; done) | (simp; omega)))).trans hk12')
             have kb12 : Hid (∀ w', Below w12.heap.size w12 w' → w'.cell? ⟨b2, 0, none⟩ = some (.int .i64 W) ∧ w'.cell? ⟨b2, 1, none⟩ = some (.int .i64 D) ∧ w'.cell? ⟨b2, 2, none⟩ = some (.int .i64 C) ∧ w'.cell? ⟨b2, 3, none⟩ = some (.int .i64 I) ∧ w'.cell? ⟨b10, 0, none⟩ = some (.string a) ∧ w'.cell? ⟨b10, 1, none⟩ = some (.slice (some ⟨cb, 0, none⟩) 1 1) ∧ w'.cell? ⟨b10, 2, none⟩ = some (.int .i64 1) ∧ w'.cell? ⟨b10, 3, none⟩ = some (.slice none 0 0)) := fun w' h => kb.out w' (hk12.trans (KeepL.of_below h)))))
      have HK12 := Lib.hid hk12
      clear a0 a1 a2 a3 a4 a5 a6 a7 kb kb8 kb10 kb11 kb9 kb12 hk10' hk11' hk9' hk12' hk10 hk11 hk9 hk12 p0 p1 p2 p3
      go_wp2_with (first
        | (go_at_call 13; refine (HR.out.leg.c13 _ (HR.out.leg.below 2 _ _ p4 ?hbel)).mono ?_; ((case hbel => (repeat' first | with_reducible exact Below.refl _ _ | with_reducible assumption | with_reducible refine Below.drew ?_ | with_reducible refine Below.alloc ?_ ?_ _ | with_reducible refine Below.setCell ?_ ?_ _ | (simp; done) | (simp; omega)))); rintro e w13 ⟨rfl, p5, hk13⟩
           have HK13 : Hid (KeepL own w8 w13) := HK12.out.trans ((KeepL.of_below (by (repeat' first | with_reducible exact Below.refl _ _ | with_reducible assumption | with_reducible refine Below.drew ?_ | with_reducible refine Below.alloc ?_ ?_ _ | with_reducible refine Below.setCell ?_ ?_ _ | (simp; done) | (simp; omega)))).trans hk13)
           clear hk13)
        | (go_at_call 14; refine (HR.out.leg.c14 _ (HR.out.leg.below 3 _ _ p5 ?hbel)).mono ?_; ((case hbel => (repeat' first | with_reducible exact Below.refl _ _ | with_reducible assumption | with_reducible refine Below.drew ?_ | with_reducible refine Below.alloc ?_ ?_ _ | with_reducible refine Below.setCell ?_ ?_ _ | (simp; done) | (simp; omega)))); rintro e w14 ⟨rfl, p6, hk14⟩
           have HK14 : Hid (KeepL own w8 w14) := HK13.out.trans ((KeepL.of_below (by (repeat' first | with_reducible exact Below.refl _ _ | with_reducible assumption | with_reducible refine Below.drew ?_ | with_reducible refine Below.alloc ?_ ?_ _ | with_reducible refine Below.setCell ?_ ?_ _ | (simp; done) | (simp; omega)))).trans hk14)
           clear hk14)
        | (go_at_call 15; refine (HR.out.leg.c15 _ (HR.out.leg.below 4 _ _ p6 ?hbel)).mono ?_; ((case hbel => (repeat' first | with_reducible exact Below.refl _ _ | with_reducible assumption | with_reducible refine Below.drew ?_ | with_reducible refine Below.alloc ?_ ?_ _ | with_reducible refine Below.setCell ?_ ?_ _ | (simp; done) | (simp; omega)))); rintro e w15 ⟨rfl, p7, hk15⟩
           have HK15 : Hid (KeepL own w8 w15) := HK14.out.trans ((KeepL.of_below (by (repeat' first | with_reducible exact Below.refl _ _ | with_reducible assumption | with_reducible refine Below.drew ?_ | with_reducible refine Below.alloc ?_ ?_ _ | with_reducible refine Below.setCell ?_ ?_ _ | (simp; done) | (simp; omega)))).trans hk15)
           clear hk15)
        | (go_at_call 16; refine (H16.out _ (Tabs.under (HR.out.leg.tabs _ p7) ?hbel)).mono ?_; ((case hbel => (repeat' first | with_reducible exact Below.refl _ _ | with_reducible assumption | with_reducible refine Below.drew ?_ | with_reducible refine Below.alloc ?_ ?_ _ | with_reducible refine Below.setCell ?_ ?_ _ | (simp; done) | (simp; omega)))); rintro e w16 ⟨rfl, hb16⟩))
      go_ret
      exact ⟨rfl, BF.out _ (HK15.out.trans ((KeepL.of_below (by (repeat' first | with_reducible exact Below.refl _ _ | with_reducible assumption | with_reducible refine Below.drew ?_ | with_reducible refine Below.alloc ?_ ?_ _ | with_reducible refine Below.setCell ?_ ?_ _ | (simp; done) | (simp; omega)))).trans ((KeepL.of_below hb16).trans (KeepL.of_below (by (repeat' first | with_reducible exact Below.refl _ _ | with_reducible assumption | with_reducible refine Below.drew ?_ | with_reducible refine Below.alloc ?_ ?_ _ | with_reducible refine Below.setCell ?_ ?_ _ | (simp; done) | (simp; omega)))))))⟩
end Go.Proofs.YtbjickdjkgefcaaGreatDoor
end
section
open Go Go.RowKit
noncomputable section
namespace Go.Proofs.YtbjickdjkgefcaaGreatDoor.Vai
set_option linter.unusedVariables false
set_option linter.unusedSimpArgs false
/-- A block that is made: its type, its step, what lies in it. -/
structure MB where
  elem : TypeId
  es : Nat
  l : List Value
def MB.spec (m : MB) : BSpec := .cells m.elem m.es m.l true
def pushB (s : St) (m : MB) : St :=
  { ng := s.ng, orc := s.orc, next := s.next + 1, views := s.views.set s.next { root := s.next, ext := m.l.length, exact := false },
    roots := s.roots.set s.next { elem := m.elem, es := m.es, cells := cellsOf m.l, cur := s.next, flo := 0, fhi := 0, ro := false, sish := false }, objs := s.objs }
def pushL : List MB → St → St
  | [], s => s
  | m :: l, s => pushL l (pushB s m)
theorem Rel.pushB {w0 : Base} {φ : Emb} {s : St} {w : World} (r : Rel w0 φ s w) {m : MB} {t : Tgt} (hok : m.spec.ok (Base.free w) φ w t) (hnew : ∀ v t', φ v = some t' → t'.blk ≠ t.blk) (hK : ¬ w0.K t.blk) :
    Rel w0 (φ.with s.next t) (pushB s m) w := by
  have hle := r.with_le t
  obtain ⟨_, o2, c, fr, o3, f1, f2, o4, o5, o6⟩ := hok
  have cases_ : ∀ v t', (φ.with s.next t) v = some t' → (v = s.next ∧ t' = t) ∨ (v ≠ s.next ∧ φ v = some t') := by
    intro v t' h
    by_cases e : v = s.next
    · subst e; rw [Emb.with_same] at h; exact .inl ⟨rfl, (Option.some.inj h).symm⟩
    · rw [Emb.with_other _ _ e] at h; exact .inr ⟨e, h⟩
  refine ⟨r.bel, ?_, ?_, ?_, ?_, ?_, ?_, ?_, ?_, by have := r.ngle; show s.ng ≤ s.next + 1; omega, r.orc⟩
  · intro v t' h
    show v < s.next + 1
    rcases cases_ v t' h with ⟨rfl, _⟩ | ⟨_, h⟩
    · omega
    · have := r.fresh v t' h; omega
  · intro v t' h
    rcases cases_ v t' h with ⟨rfl, _⟩ | ⟨e, h⟩
    · exact .inl ⟨_, T.get_set_same _ _ _⟩
    · rcases r.known v t' h with ⟨V, hV⟩ | h2
      · exact .inl ⟨V, by rw [Vai.pushB]; simp only; rw [T.get_set_other _ _ e]; exact hV⟩
      · exact .inr h2
  · intro v t' V h hV
    rcases cases_ v t' h with ⟨rfl, rfl⟩ | ⟨e, h⟩
    · simp only [Vai.pushB, T.get_set_same, Option.some.injEq] at hV
      subst hV
      refine ⟨_, T.get_set_same _ _ _, o2.symm, Nat.le_refl _, (fun _ => hK), o5, (fun h => by cases h), ?_, c, fr, o3, o4, ⟨by rw [f1]; exact Nat.le_refl _, fun o _ a b => by rw [f1] at a b; exact absurd b (Nat.not_lt_zero _), fun _ _ => f1, fun _ => f2⟩, ?_⟩
      · intro o st val ho
        simp only [cellsOf, T.get_ofList, List.getElem?_map] at ho
        cases hl : m.l[o]? with
        | none => rw [hl] at ho; cases ho
        | some x =>
          rw [hl] at ho
          simp only [Option.map_some, Option.some.injEq, Prod.mk.injEq] at ho
          show st ≤ s.next
          omega
      intro o st val ho hs hx
      simp only [cellsOf, T.get_ofList, List.getElem?_map] at ho
      cases hl : m.l[o]? with
      | none => rw [hl] at ho; cases ho
      | some x =>
        rw [hl] at ho
        simp only [Option.map_some, Option.some.injEq, Prod.mk.injEq] at ho
        obtain ⟨rfl, rfl⟩ := ho
        obtain ⟨y, hy, hr⟩ := o6 o x hl
        exact ⟨y, hy, hr.mono hle⟩
    · simp only [Vai.pushB] at hV
      rw [T.get_set_other _ _ e] at hV
      obtain ⟨R, hR, b⟩ := r.view v t' V h hV
      have hr : V.root ≠ s.next := fun x => by have := (r.vroot v V hV).1; omega
      exact ⟨R, by simp only [Vai.pushB]; rw [T.get_set_other _ _ hr]; exact hR, b.mono hle⟩
  · intro v t' o h ho
    rcases cases_ v t' h with ⟨rfl, rfl⟩ | ⟨e, h⟩
    · exact absurd (r.olt _ _ ho) (Nat.lt_irrefl _)
    · obtain ⟨k1, c, k2, k3⟩ := r.obj v t' o h ho
      exact ⟨k1, c, k2, k3.mono hle⟩
  · intro v1 v2 t1 t2 h1 h2 hb
    rcases cases_ v1 t1 h1 with ⟨x1, y1⟩ | ⟨e1, k1⟩ <;> rcases cases_ v2 t2 h2 with ⟨x2, y2⟩ | ⟨e2, k2⟩
    · exact .inl (x1.trans x2.symm)
    · exact absurd (hb.symm.trans (congrArg Tgt.blk y1)) (hnew _ _ k2)
    · exact absurd (hb.trans (congrArg Tgt.blk y2)) (hnew _ _ k1)
    · rcases r.inj v1 v2 t1 t2 k1 k2 hb with h | ⟨V1, V2, g1, g2, g3⟩
      · exact .inl h
      · exact .inr ⟨V1, V2, by simp only [Vai.pushB]; rw [T.get_set_other _ _ e1]; exact g1, by simp only [Vai.pushB]; rw [T.get_set_other _ _ e2]; exact g2, g3⟩
  · intro v V hV
    show V.root < s.next + 1 ∧ v < s.next + 1
    by_cases e : v = s.next
    · subst e
      simp only [Vai.pushB, T.get_set_same, Option.some.injEq] at hV
      subst hV; exact ⟨by simp, by omega⟩
    · simp only [Vai.pushB] at hV
      rw [T.get_set_other _ _ e] at hV
      have := r.vroot v V hV; omega
  · intro v o ho
    show v < s.next + 1
    have := r.olt v o ho; omega
  · intro g V hg hV
    have hg' : g < s.ng := hg
    have hn := r.ngle
    have e : g ≠ s.next := by omega
    simp only [Vai.pushB] at hV
    rw [T.get_set_other _ _ e] at hV
    obtain ⟨t', h1, h2⟩ := r.glob g V hg' hV
    exact ⟨t', hle _ _ h1, h2⟩
/-- Blocks one behind the other, each by those ahead of it. -/
theorem Rel.pushL {w0 : Base} {w : World} : ∀ (l : List MB) (ts : List Tgt) (φ : Emb) (s : St), Rel w0 φ s w → ts.length = l.length → (ts.map (·.blk)).Nodup → (∀ t ∈ ts, (∀ v t', φ v = some t' → t'.blk ≠ t.blk) ∧ ¬ w0.K t.blk) →
    (∀ (k : Nat) (t : Tgt) (m : MB), ts[k]? = some t → l[k]? = some m → ∀ ψ : Emb, Ext s φ ψ → (∀ i, i < k → ψ (s.next + i) = ts[i]?) → m.spec.ok (Base.free w) ψ w t) →
    ∃ ψ, Ext s φ ψ ∧ (Vai.pushL l s).next = s.next + l.length ∧ Rel w0 ψ (Vai.pushL l s) w ∧ ∀ i, i < ts.length → ψ (s.next + i) = ts[i]? := by
  intro l
  induction l with
  | nil =>
    intro ts φ s r hl _ _ _
    have : ts = [] := by cases ts with | nil => rfl | cons => simp at hl
    subst this
    exact ⟨φ, Ext.refl _ _, rfl, r, fun i hi => absurd hi (Nat.not_lt_zero _)⟩
  | cons m l ih =>
    intro ts φ s r hl hnd hnew hok
    match ts, hl with
    | t :: ts, hl =>
      rw [List.map_cons, List.nodup_cons] at hnd
      have r1 := r.pushB (hok 0 t m rfl rfl φ (Ext.refl _ _) (fun i hi => absurd hi (Nat.not_lt_zero _))) (hnew t (List.mem_cons_self ..)).1 (hnew t (List.mem_cons_self ..)).2
      have hnew' : ∀ t2 ∈ ts, (∀ v t', (φ.with s.next t) v = some t' → t'.blk ≠ t2.blk) ∧ ¬ w0.K t2.blk := by
        intro t2 ht2
        refine ⟨fun v t' h => ?_, (hnew t2 (List.mem_cons_of_mem _ ht2)).2⟩
        by_cases e : v = s.next
        · subst e
          rw [Emb.with_same] at h
          cases h
          exact fun e => hnd.1 (e ▸ List.mem_map.2 ⟨t2, ht2, rfl⟩)
        · rw [Emb.with_other _ _ e] at h
          exact (hnew t2 (List.mem_cons_of_mem _ ht2)).1 v t' h
      obtain ⟨ψ, h1, h2, h3, h4⟩ := ih ts (φ.with s.next t) (Vai.pushB s m) r1 (by simpa using hl) hnd.2 hnew' (fun k t2 m2 ht2 hm2 χ hχ hi => hok (k + 1) t2 m2 ht2 hm2 χ ((Ext.with (w0 := w0) t).trans (Nat.le_succ _) hχ) (fun i hik => match i with
        | 0 => by rw [Nat.add_zero, hχ.to s.next (Nat.lt_succ_self _), Emb.with_same]; rfl
        | i + 1 => by
          have := hi i (by omega)
          rw [show s.next + (i + 1) = (Vai.pushB s m).next + i from by show _ = s.next + 1 + i; omega, this]; rfl))
      refine ⟨ψ, (Ext.with (w0 := w0) t).trans (Nat.le_succ _) h1, ?_, h3, ?_⟩
      · show (Vai.pushL l (Vai.pushB s m)).next = _
        rw [h2]; show s.next + 1 + l.length = s.next + (l.length + 1); omega
      · intro i hi
        match i with
        | 0 =>
          rw [Nat.add_zero, h1.to s.next (Nat.lt_succ_self _), Emb.with_same]; rfl
        | i + 1 =>
          have := h4 i (by simpa using hi)
          rw [show s.next + (i + 1) = (Vai.pushB s m).next + i from by show _ = s.next + 1 + i; omega, this]; rfl
/-- What a call without arguments makes: the blocks and what it answers, by the number of the first. -/
abbrev Maker := FuncId → Nat → Option (List MB × Value)
structure MakeOk (P : Program) (w0 : Base) (mk : Maker) : Prop where
  ok : ∀ f n l v, mk f n = some (l, v) → ∀ (w : World), Kept w0 w → Calls P f #[] w fun e w' => ∃ (ts : List Tgt) (c : Value), e = .returned c ∧ Below w.heap.size w w' ∧ ts.length = l.length ∧ (ts.map (·.blk)).Nodup ∧ (∀ t ∈ ts, w.heap.size ≤ t.blk) ∧
    (∀ (k : Nat) (t : Tgt) (m : MB), ts[k]? = some t → l[k]? = some m → ∀ ψ : Emb, (∀ i, i < k → ψ (n + i) = ts[i]?) → m.spec.ok (Base.free w') ψ w' t) ∧ ∀ ψ : Emb, (∀ i, i < ts.length → ψ (n + i) = ts[i]?) → VR ψ v c
def aFunT (P : Program) (tb : Tb) (mk : Maker) (L : Nat) : Nat → ACall
  | 0, _, _, _ => none
  | d + 1, fn, args, s => match fn with
    | .func f => match args, mk f s.next, tb.fns.get f with
      | [], some (l, v), some g => match g.body with
        | some _ => some (v, pushL l s)
        | none => none
      | _, _, _ => aBody P tb L (aFunT P tb mk L d) f args s
    | .yield l => aRound P tb L (aFunT P tb mk L d) l args s
    | _ => none
theorem make_sound {P : Program} {tb : Tb} {w0 : Base} {mk : Maker} (hP : TbOk P tb) (hK : MakeOk P w0 mk) {f : FuncId} {s : St} {l : List MB} {v : Value} {g : Func} {c : Code}
    (h1 : mk f s.next = some (l, v)) (h3 : tb.fns.get f = some g) (h4 : g.body = some c) {φ : Emb} {w : World} {cargs : List Value} (r : Rel w0 φ s w) (hargs : VRL φ [] cargs) :
    (callFunc f cargs.toArray).run P w = .ok (.enter f cargs.toArray) w ∧ Calls P f cargs.toArray w (Post w0 φ s (pushL l s) v) := by
  obtain ⟨p1, p2⟩ := hP.fns _ _ h3
  refine ⟨callFunc_body p1 p2 h4 _ _, ?_⟩
  cases hargs
  refine (hK.ok f s.next l v h1 w r.bel).mono ?_
  rintro e w' ⟨ts, c, rfl, hb, hlen, hnd, hnew, hok, hv⟩
  have r' := r.below hb
  obtain ⟨ψ, q1, q2, q3, q4⟩ := r'.pushL l ts φ s hlen hnd (fun t ht => ⟨fun v t' hvt e => by have := r.lt hvt; have := hnew t ht; omega, fun hK => by have := w0.lt _ hK; have := r.bel.size; have := hnew t ht; omega⟩) (fun k t m ht hm ψ _ hi => hok k t m ht hm ψ hi)
  exact ⟨ψ, c, rfl, q1, by rw [q2]; omega, q3, hv ψ q4⟩
theorem fun_soundT {P : Program} {tb : Tb} {w0 : Base} {mk : Maker} (hP : TbOk P tb) (hmix : P.follows .mixedOrders = true) (hK : MakeOk P w0 mk) (L : Nat) : ∀ d, CallOk P w0 (aFunT P tb mk L d) := by
  intro d
  induction d with
  | zero =>
    refine CallOk.mk ?_ ?_
    · intro f args s v s' h; cases h
    · intro f args s v s' h; cases h
  | succ d ih =>
    refine CallOk.mk ?_ ?_
    · intro f args s v s' h φ w cargs r hargs
      simp only [aFunT] at h
      split at h
      · rename_i l u g h2 h3
        split at h
        · rename_i c h4
          cases h
          exact make_sound hP hK h2 h3 h4 r hargs
        · cases h
      · exact body_sound hP hmix ih h r hargs
    · intro l args s v s' h φ w cargs t r ht hargs
      exact round_sound hP hmix ih h r ht hargs
/-- A call by evaluation, whatever evaluator it is. -/
theorem run_specsC {P : Program} {b : Base} {call : ACall} (hcall : CallOk P b call) {L L' : List BSpec} {orc : List Fact} {ng : Nat} {f : FuncId} {args cargs : List Value} {ts : List Tgt} {sig sig' : Sig}
    (r : Rel b (bEmb ts sig) (bSt L orc ng) b.w) (hts : ts.length = L.length) (ha : VRL (bEmb ts sig) args cargs) {chk : Value → Bool} {ids : List Nat} {τ : Nat → Option Nat} {links : List (Nat × Nat × Bool)}
    (hc : runCheck (call (.func f) args (bSt L orc ng)) L.length chk L' ids τ links = true) (hsig : ∀ i j, τ i = some j → sig' i = sig j) (hstr : sig'.str = sig.str) :
    Calls P f cargs.toArray b.w fun e w' => ∃ (ψ : Emb) (u c : Value) (ts' : List Tgt), e = .returned c ∧ chk u = true ∧ VR ψ u c ∧ Ran b L L' ids ts ts' sig' ψ w' ∧ ψ.sig = sig := by
  unfold runCheck at hc
  split at hc
  · rename_i u s' hrun
    rw [Bool.and_eq_true, Bool.and_eq_true] at hc
    obtain ⟨⟨c1, c2⟩, c3⟩ := hc
    refine (hcall.fn f _ _ _ _ hrun _ b.w cargs r ha).2.mono ?_
    rintro e w' ⟨ψ, c, rfl, hext, hn, r', hvr⟩
    have hold : ∀ i, i < L.length → ψ i = ts[i]? := fun i hi => hext i hi
    have h0 : ∀ x, x < L.length → ∃ t, ψ x = some t := fun x hx => ⟨ts[x]'(by omega), by rw [hold x hx]; exact List.getElem?_eq_getElem _⟩
    have hb := r'.bnd h0 links (idsOfV u) (fun x hx => hvr.bound x hx)
    have hids : ∀ x ∈ ids, (x < L.length ∨ Vai.newOk s' x = true) ∧ ∃ t, ψ x = some t := by
      intro x hx
      have := List.all_eq_true.1 c3 x hx
      rw [Bool.or_eq_true, Bool.and_eq_true] at this
      rcases this with h | ⟨h1, h2⟩
      · exact ⟨.inl (blt_iff.1 h), h0 x (blt_iff.1 h)⟩
      · exact ⟨.inr h2, hb x (memB_spec h1)⟩
    obtain ⟨ts', e1, e2⟩ := tgts_of ids fun x hx => (hids x hx).2
    rw [Bool.and_eq_true] at c2
    have hlen : ts'.length = L'.length := by rw [e1, (specOk_at _ _ c2.1).1]
    obtain ⟨q1, q2⟩ := r'.respec (ts := ts') (sig := sig') (by rw [Bool.and_eq_true]; exact c2) hlen e2 (fun i j hij => by rw [hext.sig]; exact hsig i j hij) (by rw [hext.sig]; exact hstr)
    refine ⟨ψ, u, c, ts', rfl, c1, hvr, ⟨r'.bel, hlen, q1, q2, ?_, ?_⟩, hext.sig⟩
    · intro k t ht
      have hk := (List.getElem?_eq_some_iff.1 ht).1
      exact r'.lt (e2 k (ids[k]'(by omega)) t (List.getElem?_eq_getElem _) ht)
    · intro k id t hid ht
      have hψ := e2 k id t hid ht
      refine ⟨hψ, ?_⟩
      by_cases hlt : id < L.length
      · exact .inl ⟨hlt, by rw [← hold id hlt]; exact hψ⟩
      · refine .inr ⟨by omega, ?_⟩
        rcases (hids id (List.mem_of_getElem? hid)).1 with h | h
        · exact absurd h hlt
        · exact r'.newOk hψ h
  · cases hc
end Go.Proofs.YtbjickdjkgefcaaGreatDoor.Vai
end
end
section
open Go Go.RowKit Go.Proofs.YtbjickdjkgefcaaGreatDoor.Vai
noncomputable section
namespace Go.Proofs.YtbjickdjkgefcaaGreatDoor
set_option linter.unusedVariables false
set_option linter.unusedSimpArgs false
set_option maxRecDepth 100000
def mbCols : List (ByteArray × List ByteArray × Nat) → List MB
  | [] => []
  | (_, c, _) :: l => ⟨38, 2, colCells c⟩ :: mbCols l
def mkT : Maker := fun f n => bif Nat.beq f 4 then some (mbCols schemas ++ [⟨30, 4, tabCells n schemas⟩], .slice (some ⟨Nat.add n 8, 0, none⟩) 8 INF) else none
theorem tpos : ∀ i : Fin 10, 1 ≤ i.val → 1 ≤ ([0, 126, 11, 27, 47, 57, 73, 91, 102, 124] : List Nat)[i.val]'(by have := i.isLt; simp) := by decide
theorem ptab_full (sig : Sig) (w : World) (h : Tabs w) : Calls Tryz.prog 4 #[] w fun e w' => ∃ cap tT t1, e = .returned (.slice (some ⟨t1.blk, 0, none⟩) 8 cap) ∧ Lies w' specTables tT sig ∧ tT[1]? = some t1 ∧ 0 + cap * t1.es = t1.n ∧ (∀ i t, 1 ≤ i → tT[i]? = some t → w.heap.size ≤ t.blk) ∧ Below w.heap.size w w' := by
  refine (run_own kn0_ok [] (spG_lies h sig) (facts := []) (fun g h => by cases h) (fun k t sp ht hsp ho => ?_) (ng := 1) (Nat.le_refl _) (fun g t hg ht => ?_) (args := []) (cargs := []) .nil tables_ok).mono ?_
  · match k with
    | 0 => cases hsp; cases ho
    | k + 1 => simp at hsp
  · obtain rfl : g = 0 := by omega
    cases ht; rfl
  · rintro e w' ⟨ψ, u, c, ts', rfl, hu, hvr, hr, hs, hk⟩
    have hl : ts'.length = 10 := hr.len
    obtain rfl := veq_sound _ _ hu
    cases hvr with
    | slice v o t l c c' h' h1 h2 =>
      obtain ⟨q1, _⟩ := hr.at_own (k := 1) (id := 126) rfl (List.getElem?_eq_getElem (by omega))
      rw [h'] at q1
      cases q1
      refine ⟨_, ts', _, rfl, hr.lies, List.getElem?_eq_getElem (by omega), h2 rfl, fun i t hi1 hi => ?_, hk.below⟩
      have hil := (List.getElem?_eq_some_iff.1 hi).1
      obtain ⟨_, h3⟩ := hr.at_own (k := i) (id := [0, 126, 11, 27, 47, 57, 73, 91, 102, 124][i]'(by simp; omega)) (List.getElem?_eq_getElem _) hi
      rcases h3 with ⟨h3, h4⟩ | ⟨_, h3 | h3⟩
      · exfalso
        have hp := tpos ⟨i, by omega⟩ hi1
        have h3 : [0, 126, 11, 27, 47, 57, 73, 91, 102, 124][i]'(by simp; omega) < 1 := h3
        have hp : 1 ≤ [0, 126, 11, 27, 47, 57, 73, 91, 102, 124][i]'(by simp; omega) := hp
        omega
      · exact h3
      · cases h3
theorem tabCells_at : ∀ (L : List (ByteArray × List ByteArray × Nat)) (b c o : Nat) (val : Value), (tabCells b L)[o]? = some val →
    ∃ v2, (tabCells c L)[o]? = some v2 ∧ ((val = v2 ∧ (plain v2 = true ∨ v2 = .slice none 0 0)) ∨ ∃ k l, k < L.length ∧ val = .slice (some ⟨b + k, 0, none⟩) l INF ∧ v2 = .slice (some ⟨c + k, 0, none⟩) l INF) := by
  intro L
  induction L with
  | nil => intro b c o val h; simp [tabCells] at h
  | cons x L ih =>
    intro b c o val h
    obtain ⟨n, cs, k⟩ := x
    match o with
    | 0 => cases h; exact ⟨_, rfl, .inl ⟨rfl, .inl rfl⟩⟩
    | 1 => cases h; exact ⟨_, rfl, .inr ⟨0, _, by simp, rfl, rfl⟩⟩
    | 2 => cases h; exact ⟨_, rfl, .inl ⟨rfl, .inl rfl⟩⟩
    | 3 => cases h; exact ⟨_, rfl, .inl ⟨rfl, .inr rfl⟩⟩
    | o + 4 =>
      simp only [tabCells, List.getElem?_cons_succ] at h ⊢
      obtain ⟨v2, h1, h2⟩ := ih (b + 1) (c + 1) o val h
      refine ⟨v2, h1, h2.imp (fun x => x) ?_⟩
      rintro ⟨k, l, h3, h4, h5⟩
      exact ⟨k + 1, l, by simp; omega, by rw [h4, Nat.add_assoc, Nat.add_comm 1 k], by rw [h5, Nat.add_assoc, Nat.add_comm 1 k]⟩
theorem mbCols_at (k : Nat) (hk : k < 8) : (mbCols schemas)[k]? = some ⟨38, 2, colCells (colsOf k)⟩ := by
  match k, hk with
  | 0, _ => rfl
  | 1, _ => rfl
  | 2, _ => rfl
  | 3, _ => rfl
  | 4, _ => rfl
  | 5, _ => rfl
  | 6, _ => rfl
  | 7, _ => rfl
theorem mkT_ok {b : Base} (ht : Tabs b.w) (h0 : b.K 0) : MakeOk Tryz.prog b mkT where
  ok := by
    intro f n l v h w hk
    unfold mkT at h
    cases hf : Nat.beq f 4 with
    | false => rw [hf] at h; cases h
    | true =>
      rw [hf] at h
      obtain rfl := Nat.eq_of_beq_eq_true hf
      simp only [cond_true, Option.some.injEq, Prod.mk.injEq] at h
      obtain ⟨rfl, rfl⟩ := h
      have hw : Tabs w := fun x hx => by
        have := ht x hx
        have e : x.g = 0 := by simp only [globs, List.mem_cons, List.mem_nil_iff, or_false] at hx; subst hx; rfl
        rw [hk.block x.g (by rw [e]; exact h0)]; exact this
      refine (ptab_full (sg ⟨#[]⟩) w hw).mono ?_
      rintro e w' ⟨cap, tT, t1, rfl, hL, e1, hcap, hnew, hb⟩
      have hlen : tT.length = 10 := hL.len
      have hd : ∀ k, (tT.drop 2)[k]? = tT[2 + k]? := fun k => List.getElem?_drop
      have hdl : (tT.drop 2).length = 8 := by rw [List.length_drop, hlen]
      have hat : ∀ k, k < 8 → (tT.drop 2 ++ [t1])[k]? = tT[2 + k]? := fun k hk => by rw [List.getElem?_append_left (by omega), hd]
      have h8 : (tT.drop 2 ++ [t1])[8]? = some t1 := by rw [List.getElem?_append_right (by omega), hdl]; rfl
      refine ⟨tT.drop 2 ++ [t1], _, rfl, hb, by rw [List.length_append, hdl]; rfl, ?_, ?_, ?_, ?_⟩
      · have hn := hL.nodup
        match tT, hlen, e1, hn with
        | z :: t :: r, _, e1, hn =>
          cases e1
          simp only [List.drop_succ_cons, List.drop_zero, List.map_append, List.map_cons, List.map_nil, List.nodup_cons] at hn ⊢
          rw [List.nodup_append]
          refine ⟨hn.2.2, by simp, fun x hx y hy => ?_⟩
          simp only [List.mem_cons, List.mem_nil_iff, or_false] at hy
          rintro rfl
          exact hn.2.1 (hy ▸ hx)
      · intro t ht2
        rcases List.mem_append.1 ht2 with h | h
        · obtain ⟨i, hi⟩ := List.getElem?_of_mem h
          rw [hd] at hi
          exact hnew _ t (by omega) hi
        · simp at h; subst h; exact hnew 1 _ (Nat.le_refl _) e1
      · intro k t m htk hm ψ hi
        by_cases hk8 : k < 8
        · rw [hat k hk8] at htk
          rw [List.getElem?_append_left (by show k < 8; exact hk8), mbCols_at k hk8] at hm
          cases hm
          exact cells_any (hL.ok _ _ _ htk (specT_col k hk8).2) (colCells_plain _) ψ
        · have hkl : k < 9 := by
            have := (List.getElem?_eq_some_iff.1 htk).1
            rw [List.length_append, hdl] at this; exact this
          obtain rfl : k = 8 := by omega
          rw [h8] at htk
          cases htk
          have hm : some (⟨30, 4, tabCells n schemas⟩ : MB) = some m := hm
          cases hm
          obtain ⟨_, q2, cs, fr, q3, q4, q5, q6, q7, q8⟩ := hL.ok 1 _ _ e1 rfl
          refine ⟨(fun e => by cases e), q2, cs, fr, q3, q4, q5, q6, q7, fun o val hov => ?_⟩
          obtain ⟨v2, r1, r2⟩ := tabCells_at schemas n 2 o val hov
          obtain ⟨cv, s1, s2⟩ := q8 o v2 r1
          refine ⟨cv, s1, ?_⟩
          rcases r2 with ⟨rfl, r3 | r3⟩ | ⟨k, l, r3, rfl, rfl⟩
          · rw [s2.eq_of_plain r3]; exact VR.of_plain ψ _ r3
          · subst r3; rw [snil_vr s2]; exact .snil _ _
          · cases s2 with
            | slice v o t l c c' g' g1 g2 =>
              have hk8 : k < 8 := r3
              refine .slice _ _ t _ _ _ ?_ g1 g2
              rw [hi k hk8, hat k hk8]
              exact g'
      · intro ψ hi
        refine .slice _ _ t1 _ _ _ ?_ (fun h => absurd rfl h) (fun _ => hcap)
        have := hi 8 (by rw [List.length_append, hdl]; show 8 < 8 + 1; omega)
        rw [h8] at this
        exact this
end Go.Proofs.YtbjickdjkgefcaaGreatDoor
end
end
section
open Go Go.RowKit Go.Proofs.YtbjickdjkgefcaaGreatDoor.Vai
noncomputable section
namespace Go.Proofs.YtbjickdjkgefcaaGreatDoor
set_option maxRecDepth 100000
/- value: .int .i64 0 -/
def spW1 : List BSpec := [
  spG,
  .cells 60 2 [.pointer (some ⟨2, 0, none⟩), .map (some 12)] true,
  .cells 117 1 [.map (some 3)] true,
  .obj (.map [⟨.string ⟨#[104,111,117,115,101]⟩, .agg #[.string ⟨#[104,111,117,115,101]⟩, .slice (some ⟨4, 0, none⟩) 3 INF, .int .i64 1, .slice none 0 0], 0⟩, ⟨.string ⟨#[100,105,115,116,114,105,99,116]⟩, .agg #[.string ⟨#[100,105,115,116,114,105,99,116]⟩, .slice (some ⟨5, 0, none⟩) 5 INF, .int .i64 2, .slice none 0 0], 1⟩, ⟨.string ⟨#[99,117,115,116,111,109,101,114]⟩, .agg #[.string ⟨#[99,117,115,116,111,109,101,114]⟩, .slice (some ⟨6, 0, none⟩) 7 INF, .int .i64 3, .slice none 0 0], 2⟩, ⟨.string ⟨#[105,116,101,109]⟩, .agg #[.string ⟨#[105,116,101,109]⟩, .slice (some ⟨7, 0, none⟩) 2 INF, .int .i64 1, .slice none 0 0], 3⟩, ⟨.string ⟨#[115,116,111,99,107]⟩, .agg #[.string ⟨#[115,116,111,99,107]⟩, .slice (some ⟨8, 0, none⟩) 5 INF, .int .i64 2, .slice none 0 0], 4⟩, ⟨.string ⟨#[111,114,100,101,114,115]⟩, .agg #[.string ⟨#[111,114,100,101,114,115]⟩, .slice (some ⟨9, 0, none⟩) 6 INF, .int .i64 3, .slice none 0 0], 5⟩, ⟨.string ⟨#[102,114,101,115,104]⟩, .agg #[.string ⟨#[102,114,101,115,104]⟩, .slice (some ⟨10, 0, none⟩) 3 INF, .int .i64 3, .slice none 0 0], 6⟩, ⟨.string ⟨#[108,105,110,101]⟩, .agg #[.string ⟨#[108,105,110,101]⟩, .slice (some ⟨11, 0, none⟩) 8 INF, .int .i64 4, .slice none 0 0], 7⟩] 8),
  .cells 38 2 [.string ⟨#[119]⟩, .int .i64 2, .string ⟨#[116,97,120]⟩, .int .i64 2, .string ⟨#[121,116,100]⟩, .int .i64 2] true,
  .cells 38 2 [.string ⟨#[119]⟩, .int .i64 2, .string ⟨#[100]⟩, .int .i64 2, .string ⟨#[116,97,120]⟩, .int .i64 2, .string ⟨#[121,116,100]⟩, .int .i64 2, .string ⟨#[110,101,120,116]⟩, .int .i64 2] true,
  .cells 38 2 [.string ⟨#[119]⟩, .int .i64 2, .string ⟨#[100]⟩, .int .i64 2, .string ⟨#[99]⟩, .int .i64 2, .string ⟨#[111,102,102]⟩, .int .i64 2, .string ⟨#[98,97,108,97,110,99,101]⟩, .int .i64 2, .string ⟨#[112,97,105,100]⟩, .int .i64 2, .string ⟨#[116,105,109,101,115]⟩, .int .i64 2] true,
  .cells 38 2 [.string ⟨#[105]⟩, .int .i64 2, .string ⟨#[112,114,105,99,101]⟩, .int .i64 2] true,
  .cells 38 2 [.string ⟨#[119]⟩, .int .i64 2, .string ⟨#[105]⟩, .int .i64 2, .string ⟨#[108,101,102,116]⟩, .int .i64 2, .string ⟨#[115,111,108,100]⟩, .int .i64 2, .string ⟨#[111,114,100,101,114,115]⟩, .int .i64 2] true,
  .cells 38 2 [.string ⟨#[119]⟩, .int .i64 2, .string ⟨#[100]⟩, .int .i64 2, .string ⟨#[111]⟩, .int .i64 2, .string ⟨#[99]⟩, .int .i64 2, .string ⟨#[108,105,110,101,115]⟩, .int .i64 2, .string ⟨#[99,97,114,114,105,101,114]⟩, .int .i64 2] true,
  .cells 38 2 [.string ⟨#[119]⟩, .int .i64 2, .string ⟨#[100]⟩, .int .i64 2, .string ⟨#[111]⟩, .int .i64 2] true,
  .cells 38 2 [.string ⟨#[119]⟩, .int .i64 2, .string ⟨#[100]⟩, .int .i64 2, .string ⟨#[111]⟩, .int .i64 2, .string ⟨#[110]⟩, .int .i64 2, .string ⟨#[105]⟩, .int .i64 2, .string ⟨#[102,114,111,109]⟩, .int .i64 2, .string ⟨#[109,97,110,121]⟩, .int .i64 2, .string ⟨#[97,109,111,117,110,116]⟩, .int .i64 2] true,
  .obj (.map [⟨.string ⟨#[104,111,117,115,101]⟩, .agg #[.string ⟨#[104,111,117,115,101]⟩, .slice (some ⟨13, 0, none⟩) 3 INF, .int .i64 1, .slice none 0 0, .slice (some ⟨14, 0, none⟩) 1 INF], 0⟩, ⟨.string ⟨#[100,105,115,116,114,105,99,116]⟩, .agg #[.string ⟨#[100,105,115,116,114,105,99,116]⟩, .slice (some ⟨16, 0, none⟩) 5 INF, .int .i64 2, .slice none 0 0, .slice (some ⟨17, 0, none⟩) 1 INF], 1⟩, ⟨.string ⟨#[99,117,115,116,111,109,101,114]⟩, .agg #[.string ⟨#[99,117,115,116,111,109,101,114]⟩, .slice (some ⟨19, 0, none⟩) 7 INF, .int .i64 3, .slice none 0 0, .slice (some ⟨20, 0, none⟩) 1 INF], 2⟩, ⟨.string ⟨#[105,116,101,109]⟩, .agg #[.string ⟨#[105,116,101,109]⟩, .slice (some ⟨22, 0, none⟩) 2 INF, .int .i64 1, .slice none 0 0, .slice (some ⟨23, 0, none⟩) 2 INF], 3⟩, ⟨.string ⟨#[115,116,111,99,107]⟩, .agg #[.string ⟨#[115,116,111,99,107]⟩, .slice (some ⟨26, 0, none⟩) 5 INF, .int .i64 2, .slice none 0 0, .slice (some ⟨27, 0, none⟩) 2 INF], 4⟩, ⟨.string ⟨#[111,114,100,101,114,115]⟩, .agg #[.string ⟨#[111,114,100,101,114,115]⟩, .slice (some ⟨30, 0, none⟩) 6 INF, .int .i64 3, .slice none 0 0, .slice none 0 0], 5⟩, ⟨.string ⟨#[102,114,101,115,104]⟩, .agg #[.string ⟨#[102,114,101,115,104]⟩, .slice (some ⟨31, 0, none⟩) 3 INF, .int .i64 3, .slice none 0 0, .slice none 0 0], 6⟩, ⟨.string ⟨#[108,105,110,101]⟩, .agg #[.string ⟨#[108,105,110,101]⟩, .slice (some ⟨32, 0, none⟩) 8 INF, .int .i64 4, .slice none 0 0, .slice none 0 0], 7⟩] 8),
  .cells 38 2 [.string ⟨#[119]⟩, .int .i64 2, .string ⟨#[116,97,120]⟩, .int .i64 2, .string ⟨#[121,116,100]⟩, .int .i64 2] true,
  .cells 183 2 [.string ⟨#[3,128,0,0,0,0,0,0,1]⟩, .slice (some ⟨15, 0, none⟩) 3 INF] true,
  .cells 121 4 [.int .i64 2, .int .i64 1, .complex .f64 0 0, .string ⟨#[]⟩, .int .i64 2, .int .i64 100, .complex .f64 0 0, .string ⟨#[]⟩, .int .i64 2, .int .i64 0, .complex .f64 0 0, .string ⟨#[]⟩] true,
  .cells 38 2 [.string ⟨#[119]⟩, .int .i64 2, .string ⟨#[100]⟩, .int .i64 2, .string ⟨#[116,97,120]⟩, .int .i64 2, .string ⟨#[121,116,100]⟩, .int .i64 2, .string ⟨#[110,101,120,116]⟩, .int .i64 2] true,
  .cells 183 2 [.string ⟨#[3,128,0,0,0,0,0,0,1,3,128,0,0,0,0,0,0,1]⟩, .slice (some ⟨18, 0, none⟩) 5 INF] true,
  .cells 121 4 [.int .i64 2, .int .i64 1, .complex .f64 0 0, .string ⟨#[]⟩, .int .i64 2, .int .i64 1, .complex .f64 0 0, .string ⟨#[]⟩, .int .i64 2, .int .i64 50, .complex .f64 0 0, .string ⟨#[]⟩, .int .i64 2, .int .i64 0, .complex .f64 0 0, .string ⟨#[]⟩, .int .i64 2, .int .i64 1, .complex .f64 0 0, .string ⟨#[]⟩] true,
  .cells 38 2 [.string ⟨#[119]⟩, .int .i64 2, .string ⟨#[100]⟩, .int .i64 2, .string ⟨#[99]⟩, .int .i64 2, .string ⟨#[111,102,102]⟩, .int .i64 2, .string ⟨#[98,97,108,97,110,99,101]⟩, .int .i64 2, .string ⟨#[112,97,105,100]⟩, .int .i64 2, .string ⟨#[116,105,109,101,115]⟩, .int .i64 2] true,
  .cells 183 2 [.string ⟨#[3,128,0,0,0,0,0,0,1,3,128,0,0,0,0,0,0,1,3,128,0,0,0,0,0,0,1]⟩, .slice (some ⟨21, 0, none⟩) 7 INF] true,
  .cells 121 4 [.int .i64 2, .int .i64 1, .complex .f64 0 0, .string ⟨#[]⟩, .int .i64 2, .int .i64 1, .complex .f64 0 0, .string ⟨#[]⟩, .int .i64 2, .int .i64 1, .complex .f64 0 0, .string ⟨#[]⟩, .int .i64 2, .int .i64 100, .complex .f64 0 0, .string ⟨#[]⟩, .int .i64 2, .int .i64 0, .complex .f64 0 0, .string ⟨#[]⟩, .int .i64 2, .int .i64 0, .complex .f64 0 0, .string ⟨#[]⟩, .int .i64 2, .int .i64 0, .complex .f64 0 0, .string ⟨#[]⟩] true,
  .cells 38 2 [.string ⟨#[105]⟩, .int .i64 2, .string ⟨#[112,114,105,99,101]⟩, .int .i64 2] true,
  .cells 183 2 [.string ⟨#[3,128,0,0,0,0,0,0,1]⟩, .slice (some ⟨24, 0, none⟩) 2 INF, .string ⟨#[3,128,0,0,0,0,0,0,2]⟩, .slice (some ⟨25, 0, none⟩) 2 INF] true,
  .cells 121 4 [.int .i64 2, .int .i64 1, .complex .f64 0 0, .string ⟨#[]⟩, .int .i64 2, .int .i64 101, .complex .f64 0 0, .string ⟨#[]⟩] true,
  .cells 121 4 [.int .i64 2, .int .i64 2, .complex .f64 0 0, .string ⟨#[]⟩, .int .i64 2, .int .i64 201, .complex .f64 0 0, .string ⟨#[]⟩] true,
  .cells 38 2 [.string ⟨#[119]⟩, .int .i64 2, .string ⟨#[105]⟩, .int .i64 2, .string ⟨#[108,101,102,116]⟩, .int .i64 2, .string ⟨#[115,111,108,100]⟩, .int .i64 2, .string ⟨#[111,114,100,101,114,115]⟩, .int .i64 2] true,
  .cells 183 2 [.string ⟨#[3,128,0,0,0,0,0,0,1,3,128,0,0,0,0,0,0,1]⟩, .slice (some ⟨28, 0, none⟩) 5 INF, .string ⟨#[3,128,0,0,0,0,0,0,1,3,128,0,0,0,0,0,0,2]⟩, .slice (some ⟨29, 0, none⟩) 5 INF] true,
  .cells 121 4 [.int .i64 2, .int .i64 1, .complex .f64 0 0, .string ⟨#[]⟩, .int .i64 2, .int .i64 1, .complex .f64 0 0, .string ⟨#[]⟩, .int .i64 2, .int .i64 50, .complex .f64 0 0, .string ⟨#[]⟩, .int .i64 2, .int .i64 0, .complex .f64 0 0, .string ⟨#[]⟩, .int .i64 2, .int .i64 0, .complex .f64 0 0, .string ⟨#[]⟩] true,
  .cells 121 4 [.int .i64 2, .int .i64 1, .complex .f64 0 0, .string ⟨#[]⟩, .int .i64 2, .int .i64 2, .complex .f64 0 0, .string ⟨#[]⟩, .int .i64 2, .int .i64 50, .complex .f64 0 0, .string ⟨#[]⟩, .int .i64 2, .int .i64 0, .complex .f64 0 0, .string ⟨#[]⟩, .int .i64 2, .int .i64 0, .complex .f64 0 0, .string ⟨#[]⟩] true,
  .cells 38 2 [.string ⟨#[119]⟩, .int .i64 2, .string ⟨#[100]⟩, .int .i64 2, .string ⟨#[111]⟩, .int .i64 2, .string ⟨#[99]⟩, .int .i64 2, .string ⟨#[108,105,110,101,115]⟩, .int .i64 2, .string ⟨#[99,97,114,114,105,101,114]⟩, .int .i64 2] true,
  .cells 38 2 [.string ⟨#[119]⟩, .int .i64 2, .string ⟨#[100]⟩, .int .i64 2, .string ⟨#[111]⟩, .int .i64 2] true,
  .cells 38 2 [.string ⟨#[119]⟩, .int .i64 2, .string ⟨#[100]⟩, .int .i64 2, .string ⟨#[111]⟩, .int .i64 2, .string ⟨#[110]⟩, .int .i64 2, .string ⟨#[105]⟩, .int .i64 2, .string ⟨#[102,114,111,109]⟩, .int .i64 2, .string ⟨#[109,97,110,121]⟩, .int .i64 2, .string ⟨#[97,109,111,117,110,116]⟩, .int .i64 2] true]
def spW1ids : List Nat := [0, 1, 2, 4, 59, 98, 145, 172, 211, 254, 285, 336, 3, 66, 493, 490, 105, 604, 601, 152, 752, 749, 179, 1116, 1042, 1111, 218, 978, 860, 973, 261, 292, 343]
def spW1links : List (Nat × Nat × Bool) := [(1, 0, false), (1, 1, false), (2, 0, false), (4, 0, true), (4, 1, true), (4, 2, true), (4, 3, true), (4, 4, true), (4, 5, true), (4, 6, true), (4, 7, true), (3, 0, true), (3, 1, true), (3, 2, true), (3, 3, true), (3, 4, true), (3, 5, true), (3, 6, true), (3, 7, true), (493, 1, false), (604, 1, false), (752, 1, false), (1116, 1, false), (1116, 3, false), (978, 1, false), (978, 3, false)]
/-- A row of whole numbers. -/
def rowN (l : List Int) : BSpec := .cells 121 4 (vcells l) true
def wLoad : Option (Value × St) := aFunT Tryz.prog tb0 mkT 1000 100 (.func 9) [.pointer (some ⟨1, 0, none⟩), .int .i64 1, .int .i64 1, .int .i64 1, .int .i64 2] (bSt (specP1 []) [] 1)
def wCall1 : Option (Value × St) := aFunT Tryz.prog tb0 mkT 1000 100 (.func 50) [.pointer (some ⟨1, 0, none⟩), .string ⟨#[110, 101, 119]⟩, .slice (some ⟨33, 0, none⟩) 6 INF] (bSt (spW1 ++ [rowN [1, 1, 1, 2, 1, 3]]) [] 1)
end Go.Proofs.YtbjickdjkgefcaaGreatDoor
end
end
