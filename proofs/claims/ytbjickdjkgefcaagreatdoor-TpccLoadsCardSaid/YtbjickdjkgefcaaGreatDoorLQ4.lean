/- works(): walked. -/
import Derived.Test.YtbjickdjkgefcaaGreatDoorLQ1
import Derived.Test.YtbjickdjkgefcaaGreatDoorLO2
open Go Go.RowKit Go.Proofs.YtbjickdjkgefcaaGreatDoor.Vai
namespace Go.Proofs.YtbjickdjkgefcaaGreatDoor
set_option linter.unusedVariables false
set_option linter.unusedSimpArgs false
set_option maxRecDepth 20000
theorem nums_at {n : Nat} {l : List Int} (hl : numsOk l = true) (hn : n = l.length) {b : Nat} {w : World} {o : Array Value} (ho : o = (l.map (Value.int .i64)).toArray) (hb : b = w.heap.size) :
    Calls Tryz.prog 51 #[.slice (some ⟨b, 0, none⟩) n n] (w.alloc (.cells o 2)) fun e w' => ∃ v t, e = .returned v ∧ RowIs w' l v t ∧ (w.alloc (.cells o 2)).heap.size ≤ t.blk ∧ Below (w.alloc (.cells o 2)).heap.size (w.alloc (.cells o 2)) w' := by
  subst hn; subst ho; subst hb; exact nums_run hl _ _ heap_alloc_at
theorem RowIs.below {w w' : World} {l : List Int} {v : Value} {t : Tgt} (h : RowIs w l v t) (hb : Below w.heap.size w w') : RowIs w' l v t := h.keepL (own := []) (fun x hx => by cases hx) (KeepL.of_below hb)
theorem blk_ne {w w' : World} {l : List Int} {v : Value} {t t' : Tgt} (h : RowIs w l v t) (hb : w.heap.size ≤ w'.heap.size) (hn : w'.heap.size ≤ t'.blk) : t.blk ≠ t'.blk := fun e => by
  have := h.2.1
  omega
theorem four_own {w : World} {ts : List Tgt} {q : Four} (h4 : (ts.map (·.blk)).take 4 = q.l) (hN : ∀ x ∈ ts.map (·.blk), w.heap.size ≤ x) : ∀ x ∈ [q.s, q.m], w.heap.size ≤ x := by
  intro x hx
  refine hN x (List.mem_of_mem_take (i := 4) ?_)
  rw [h4]
  simp only [List.mem_cons, List.mem_nil_iff, or_false] at hx
  rcases hx with rfl | rfl <;> simp [Four.l]
theorem cell_maps {own : List Nat} {w : World} (M : Maps own w) {b o : Nat} {v : Value} (h : w.cell? ⟨b, o, none⟩ = some v) : b ∉ own := fun hx => by
  obtain ⟨es, k, e⟩ := M _ hx
  simp [World.cell?, e] at h
theorem heap_drew {w : World} {b : Nat} {x : Option Obj} (h : w.heap[b]? = x) : w.drew.heap[b]? = x := h
theorem below_to {a b c : World} (hab : Below a.heap.size a b) (hbc : Below b.heap.size b c) : Below a.heap.size a c := hab.trans (hbc.mono hab.size)
set_option maxHeartbeats 16000000 in
theorem works_any (w : World) (h : Tabs w) : Calls Tryz.prog 16 #[] w fun e w' => e = .returned (.bool true) ∧ Below w.heap.size w w' := by
  have HT := Lib.hid h
  clear h
  go_enter Tryz.func16, Tryz.ntmps16
  go_upto_region 5 with (first
    | (go_at_call 7; refine (new_p ⟨#[]⟩ _).mono ?_; rintro e w1 ⟨q, ts, rfl, hL1, h41, hN1, hb1⟩)
    | (go_at_call 9; refine (wload_run (HT.out.under (by (repeat' first | with_reducible exact Below.refl _ _ | with_reducible assumption | with_reducible refine Below.drew ?_ | with_reducible refine Below.alloc ?_ ?_ _ | with_reducible refine Below.setCell ?_ ?_ _ | (simp; done) | (simp; omega)))) hL1 h41).mono ?_; rintro e w2 ⟨rfl, hD2, hk2⟩)
    | (go_at_call 51; refine (nums_at nums1 rfl rfl (by simp)).mono ?_; rintro e w3 ⟨v3, t3, rfl, hr3, hn3, hb3⟩)
    | (go_at_call 50; refine (wcall1_run hD2 (below_to (by (repeat' first | with_reducible exact Below.refl _ _ | with_reducible assumption | with_reducible refine Below.drew ?_ | with_reducible refine Below.alloc ?_ ?_ _ | with_reducible refine Below.setCell ?_ ?_ _ | (simp; done) | (simp; omega))) hb3) hr3 (by simp at hn3; omega)).mono ?_; rintro e w4 ⟨rb4, cap4, u4, s4, rfl, hc4, hi4, ho4, hD4, hk4⟩))
  have k24 : KeepL [q.s, q.m] w1 w4 := hk2.trans ((KeepL.of_below (below_to (by (repeat' first | with_reducible exact Below.refl _ _ | with_reducible assumption | with_reducible refine Below.drew ?_ | with_reducible refine Below.alloc ?_ ?_ _ | with_reducible refine Below.setCell ?_ ?_ _ | (simp; done) | (simp; omega))) hb3)).trans hk4)
  have HB : Hid (∀ w', KeepL [q.s, q.m] w4 w' → Below w.heap.size w w') := fun w' h => (k24.trans h).to_below hb1 (four_own h41 hN1)
  clear hn3 hb3 hr3 hD2 hL1 h41 hN1 hb1 HT hk2 k24
  go_upto_region 6 with (first
    | (go_at_call 51; refine (nums_at nums2 rfl rfl (by simp)).mono ?_; rintro e w5 ⟨v5, t5, rfl, hr5, hn5, hb5⟩)
    | (go_at_call 50; refine (wcall2_run hD4 (below_to (by (repeat' first | with_reducible exact Below.refl _ _ | with_reducible assumption | with_reducible refine Below.drew ?_ | with_reducible refine Below.alloc ?_ ?_ _ | with_reducible refine Below.setCell ?_ ?_ _ | (simp; done) | (simp; omega))) hb5) hr5 (by simp at hn5; omega)).mono ?_; rintro e w6 ⟨rb6, cap6, rfl, hD6, hk6⟩))
  go_upto_region 7 with (first
    | (go_at_call 51; refine (nums_at nums3 rfl rfl (by simp)).mono ?_; rintro e w7 ⟨v7, t7, rfl, hr7, hn7, hb7⟩)
    | (go_at_call 50; refine (wcall3_run hD6 (below_to (by (repeat' first | with_reducible exact Below.refl _ _ | with_reducible assumption | with_reducible refine Below.drew ?_ | with_reducible refine Below.alloc ?_ ?_ _ | with_reducible refine Below.setCell ?_ ?_ _ | (simp; done) | (simp; omega))) hb7) hr7 (by simp at hn7; omega)).mono ?_; rintro e w8 ⟨rb8, cap8, u8, s8, u9, s9, rfl, hc8, hi8, hc9, hi9, ho8, hD8, hk8⟩))
  have M4 := hD4.maps g2
  have x2 : (w4.alloc (.cells #[.int .i64 0, .slice (some ⟨rb4, 0, none⟩) 1 cap4] 106)).cell? ⟨w4.heap.size, 1, none⟩ = some (.slice (some ⟨rb4, 0, none⟩) 1 cap4) := cell_of_heap (@heap_alloc_at w4 _) 1 _ rfl
  have x4 : (w6.alloc (.cells #[.int .i64 0, .slice (some ⟨rb6, 0, none⟩) 1 cap6] 106)).cell? ⟨w6.heap.size, 1, none⟩ = some (.slice (some ⟨rb6, 0, none⟩) 1 cap6) := cell_of_heap (@heap_alloc_at w6 _) 1 _ rfl
  have x6 : (w8.alloc (.cells #[.int .i64 0, .slice (some ⟨rb8, 0, none⟩) 3 cap8] 106)).cell? ⟨w8.heap.size, 1, none⟩ = some (.slice (some ⟨rb8, 0, none⟩) 3 cap8) := cell_of_heap (@heap_alloc_at w8 _) 1 _ rfl
  have M8 := hD8.maps g3
  have M6 := hD6.maps g3
  have k45 : KeepL [q.s, q.m] (w4.alloc (.cells #[.int .i64 0, .slice (some ⟨rb4, 0, none⟩) 1 cap4] 106)) w6 := (KeepL.of_below (below_to (by (repeat' first | with_reducible exact Below.refl _ _ | with_reducible assumption | with_reducible refine Below.drew ?_ | with_reducible refine Below.alloc ?_ ?_ _ | with_reducible refine Below.setCell ?_ ?_ _ | (simp; done) | (simp; omega))) hb5)).trans hk6
  have k67 : KeepL [q.s, q.m] (w6.alloc (.cells #[.int .i64 0, .slice (some ⟨rb6, 0, none⟩) 1 cap6] 106)) w8 := (KeepL.of_below (below_to (by (repeat' first | with_reducible exact Below.refl _ _ | with_reducible assumption | with_reducible refine Below.drew ?_ | with_reducible refine Below.alloc ?_ ?_ _ | with_reducible refine Below.setCell ?_ ?_ _ | (simp; done) | (simp; omega))) hb7)).trans hk8
  have a4 : KeepL [q.s, q.m] w4 (w4.alloc (.cells #[.int .i64 0, .slice (some ⟨rb4, 0, none⟩) 1 cap4] 106)) := KeepL.of_below (by (repeat' first | with_reducible exact Below.refl _ _ | with_reducible assumption | with_reducible refine Below.drew ?_ | with_reducible refine Below.alloc ?_ ?_ _ | with_reducible refine Below.setCell ?_ ?_ _ | (simp; done) | (simp; omega)))
  have a6 : KeepL [q.s, q.m] w6 (w6.alloc (.cells #[.int .i64 0, .slice (some ⟨rb6, 0, none⟩) 1 cap6] 106)) := KeepL.of_below (by (repeat' first | with_reducible exact Below.refl _ _ | with_reducible assumption | with_reducible refine Below.drew ?_ | with_reducible refine Below.alloc ?_ ?_ _ | with_reducible refine Below.setCell ?_ ?_ _ | (simp; done) | (simp; omega)))
  have k8 : KeepL [q.s, q.m] w8 (w8.alloc (.cells #[.int .i64 0, .slice (some ⟨rb8, 0, none⟩) 3 cap8] 106)) := KeepL.of_below (by (repeat' first | with_reducible exact Below.refl _ _ | with_reducible assumption | with_reducible refine Below.drew ?_ | with_reducible refine Below.alloc ?_ ?_ _ | with_reducible refine Below.setCell ?_ ?_ _ | (simp; done) | (simp; omega)))
  have hi4R := hi4.keepL M4 ((a4.trans k45).trans ((a6.trans k67).trans k8))
  have hi8R := hi8.keepL M8 k8
  have hi9R := hi9.keepL M8 k8
  have kall := (a4.trans k45).trans ((a6.trans k67).trans k8)
  have new_ : ∀ {wx : World}, Maps [q.s, q.m] wx → wx.heap.size ∉ [q.s, q.m] := fun {wx} M hx => by
    obtain ⟨es, k, e⟩ := M _ hx
    exact absurd (lt_of_heap e) (Nat.lt_irrefl _)
  have y2 := cell_keepL (k45.trans ((a6.trans k67).trans k8)) (new_ M4) x2
  have y4 := cell_keepL (k67.trans k8) (new_ M6) x4
  have z4 := cell_keepL ((a4.trans k45).trans ((a6.trans k67).trans k8)) ho4 hc4
  have z8 := cell_keepL k8 ho8 hc8
  have z9 := cell_keepL k8 ho8 hc9
  have hDR := hD8.below (show Below w8.heap.size w8 (w8.alloc (.cells #[.int .i64 0, .slice (some ⟨rb8, 0, none⟩) 3 cap8] 106)) by (repeat' first | with_reducible exact Below.refl _ _ | with_reducible assumption | with_reducible refine Below.drew ?_ | with_reducible refine Below.alloc ?_ ?_ _ | with_reducible refine Below.setCell ?_ ?_ _ | (simp; done) | (simp; omega)))
  obtain ⟨wR, hwR⟩ : ∃ y, y = w8.alloc (.cells #[.int .i64 0, .slice (some ⟨rb8, 0, none⟩) 3 cap8] 106) := ⟨_, rfl⟩
  rw [← hwR] at x6 y2 y4 z4 z8 z9 hDR hi4R hi8R hi9R kall ⊢
  have HK : Hid (∀ w', KeepL [q.s, q.m] wR w' → Below w.heap.size w w') := fun w' h => HB.out _ (kall.trans h)
  clear kall HB
  obtain ⟨b2, e2⟩ : ∃ y, y = w4.heap.size := ⟨_, rfl⟩
  obtain ⟨b4, e4⟩ : ∃ y, y = w6.heap.size := ⟨_, rfl⟩
  obtain ⟨b6, e6⟩ : ∃ y, y = w8.heap.size := ⟨_, rfl⟩
  rw [← e2] at y2 ⊢
  rw [← e4] at y4 ⊢
  rw [← e6] at x6 ⊢
  clear hwR e2 e4 e6 new_ x2 x4 hi4 hi8 hi9 k45 k67 k8 a4 a6 M4 M6 M8 hn5 hb5 hr5 hn7 hb7 hr7 hD4 hD6 hD8 hk4 hk6 hk8 ho4 ho8 hc4 hc8 hc9
  have kb : Hid (∀ w', Below wR.heap.size wR w' → w'.cell? ⟨b2, 1, none⟩ = some (.slice (some ⟨rb4, 0, none⟩) 1 cap4) ∧ w'.cell? ⟨b4, 1, none⟩ = some (.slice (some ⟨rb6, 0, none⟩) 1 cap6) ∧ w'.cell? ⟨b6, 1, none⟩ = some (.slice (some ⟨rb8, 0, none⟩) 3 cap8) ∧ w'.cell? ⟨rb4, 0, none⟩ = some u4 ∧ w'.cell? ⟨rb8, 0, none⟩ = some u8 ∧ w'.cell? ⟨rb8, 2, none⟩ = some u9) := fun w' h => ⟨(h.cell (p := ⟨b2, 1, none⟩) (cell_lt y2)).trans y2, (h.cell (p := ⟨b4, 1, none⟩) (cell_lt y4)).trans y4, (h.cell (p := ⟨b6, 1, none⟩) (cell_lt x6)).trans x6, (h.cell (p := ⟨rb4, 0, none⟩) (cell_lt z4)).trans z4, (h.cell (p := ⟨rb8, 0, none⟩) (cell_lt z8)).trans z8, (h.cell (p := ⟨rb8, 2, none⟩) (cell_lt z9)).trans z9⟩
  have MR := hDR.maps g3
  have KK : Hid (∀ w', KeepL [q.s, q.m] wR w' → w'.cell? ⟨b2, 1, none⟩ = some (.slice (some ⟨rb4, 0, none⟩) 1 cap4) ∧ w'.cell? ⟨b4, 1, none⟩ = some (.slice (some ⟨rb6, 0, none⟩) 1 cap6) ∧ w'.cell? ⟨b6, 1, none⟩ = some (.slice (some ⟨rb8, 0, none⟩) 3 cap8) ∧ w'.cell? ⟨rb4, 0, none⟩ = some u4 ∧ w'.cell? ⟨rb8, 0, none⟩ = some u8 ∧ w'.cell? ⟨rb8, 2, none⟩ = some u9) := fun w' h => ⟨cell_keepL h (cell_maps MR y2) y2, cell_keepL h (cell_maps MR y4) y4, cell_keepL h (cell_maps MR x6) x6, cell_keepL h (cell_maps MR z4) z4, cell_keepL h (cell_maps MR z8) z8, cell_keepL h (cell_maps MR z9) z9⟩
  clear MR
  have RW : Hid (∀ w' l v t, RowIs wR l v t → Below wR.heap.size wR w' → RowIs w' l v t) := fun w' l v t h hb => h.keepL (own := []) (fun x hx => by cases hx) (KeepL.of_below hb)
  have K51A : ∀ (b : Nat) (w1 : World), w1.heap[b]? = some (.cells #[.int .i64 1, .int .i64 606] 2 (0, 0)) → Calls Tryz.prog 51 #[.slice (some ⟨b, 0, none⟩) 2 2] w1 fun e w' => ∃ v t, e = .returned v ∧ RowIs w' [1, 606] v t ∧ w1.heap.size ≤ t.blk ∧ Below w1.heap.size w1 w' := fun b w1 h => nums_run nums4 b w1 h
  have K51C : ∀ (b : Nat) (w1 : World), w1.heap[b]? = some (.cells #[.int .i64 603] 2 (0, 0)) → Calls Tryz.prog 51 #[.slice (some ⟨b, 0, none⟩) 1 1] w1 fun e w' => ∃ v t, e = .returned v ∧ RowIs w' [603] v t ∧ w1.heap.size ≤ t.blk ∧ Below w1.heap.size w1 w' := fun b w1 h => nums_run nums5 b w1 h
  have K51E : ∀ (b : Nat) (w1 : World), w1.heap[b]? = some (.cells #[.int .i64 2, .int .i64 1, .int .i64 3, .int .i64 603] 2 (0, 0)) → Calls Tryz.prog 51 #[.slice (some ⟨b, 0, none⟩) 4 4] w1 fun e w' => ∃ v t, e = .returned v ∧ RowIs w' [2, 1, 3, 603] v t ∧ w1.heap.size ≤ t.blk ∧ Below w1.heap.size w1 w' := fun b w1 h => nums_run nums6 b w1 h
  go_region_held3 (fun w' => w'.cell? ⟨b2, 1, none⟩ = some (.slice (some ⟨rb4, 0, none⟩) 1 cap4) ∧ w'.cell? ⟨b4, 1, none⟩ = some (.slice (some ⟨rb6, 0, none⟩) 1 cap6) ∧ w'.cell? ⟨b6, 1, none⟩ = some (.slice (some ⟨rb8, 0, none⟩) 3 cap8) ∧ w'.cell? ⟨rb4, 0, none⟩ = some u4 ∧ w'.cell? ⟨rb8, 0, none⟩ = some u8 ∧ w'.cell? ⟨rb8, 2, none⟩ = some u9)
    (first
      | with_reducible exact ⟨y2, y4, x6, z4, z8, z9⟩
      | (refine KK.out _ ?_; with_reducible assumption; done)
      | (refine kb.out _ ?_; (repeat' first | with_reducible exact Below.refl _ _ | with_reducible assumption | with_reducible refine Below.drew ?_ | with_reducible refine Below.alloc ?_ ?_ _ | with_reducible refine Below.setCell ?_ ?_ _ | (simp; done) | (simp; omega)); done))
    ((first
      | (go_at_call 51; with_reducible refine (K51A _ _ ?hwx).mono ?_; ((case hwx => repeat (first | with_reducible exact heap_alloc_at | with_reducible refine heap_drew ?_))); rintro e wA ⟨vA, tA, rfl, hrA, hnA, hbA'⟩
         have hbA := below_to (show Below wR.heap.size wR _ by (repeat' first | with_reducible exact Below.refl _ _ | with_reducible assumption | with_reducible refine Below.drew ?_ | with_reducible refine Below.alloc ?_ ?_ _ | with_reducible refine Below.setCell ?_ ?_ _ | (simp; done) | (simp; omega))) hbA'
         have hmA : wR.heap.size ≤ tA.blk := Nat.le_trans (show Below wR.heap.size wR _ by (repeat' first | with_reducible exact Below.refl _ _ | with_reducible assumption | with_reducible refine Below.drew ?_ | with_reducible refine Below.alloc ?_ ?_ _ | with_reducible refine Below.setCell ?_ ?_ _ | (simp; done) | (simp; omega))).size hnA
         have hsA := hbA.size
         clear hbA' hnA)
      | (go_at_call 52; with_reducible refine (same_rows sameN4 (RW.out _ _ _ _ hi4R ?c1) (hrA.below ?c2) (blk_ne hi4R (Nat.le_refl _) hmA)).mono ?_; ((case c1 => (repeat' first | with_reducible exact Below.refl _ _ | with_reducible assumption | with_reducible refine Below.drew ?_ | with_reducible refine Below.alloc ?_ ?_ _ | with_reducible refine Below.setCell ?_ ?_ _ | (simp; done) | (simp; omega)))); ((case c2 => (repeat' first | with_reducible exact Below.refl _ _ | with_reducible assumption | with_reducible refine Below.drew ?_ | with_reducible refine Below.alloc ?_ ?_ _ | with_reducible refine Below.setCell ?_ ?_ _ | (simp; done) | (simp; omega)))); rintro e wB ⟨rfl, hbB'⟩
         have hbB := below_to (show Below wR.heap.size wR _ by (repeat' first | with_reducible exact Below.refl _ _ | with_reducible assumption | with_reducible refine Below.drew ?_ | with_reducible refine Below.alloc ?_ ?_ _ | with_reducible refine Below.setCell ?_ ?_ _ | (simp; done) | (simp; omega))) hbB'
         have hsB := hbB.size
         clear hbB')
      | (go_at_call 51; with_reducible refine (K51C _ _ ?hwx).mono ?_; ((case hwx => repeat (first | with_reducible exact heap_alloc_at | with_reducible refine heap_drew ?_))); rintro e wC ⟨vC, tC, rfl, hrC, hnC, hbC'⟩
         have hbC := below_to (show Below wR.heap.size wR _ by (repeat' first | with_reducible exact Below.refl _ _ | with_reducible assumption | with_reducible refine Below.drew ?_ | with_reducible refine Below.alloc ?_ ?_ _ | with_reducible refine Below.setCell ?_ ?_ _ | (simp; done) | (simp; omega))) hbC'
         have hmC : wR.heap.size ≤ tC.blk := Nat.le_trans (show Below wR.heap.size wR _ by (repeat' first | with_reducible exact Below.refl _ _ | with_reducible assumption | with_reducible refine Below.drew ?_ | with_reducible refine Below.alloc ?_ ?_ _ | with_reducible refine Below.setCell ?_ ?_ _ | (simp; done) | (simp; omega))).size hnC
         have hsC := hbC.size
         clear hbC' hnC)
      | (go_at_call 52; with_reducible refine (same_rows sameN5 (RW.out _ _ _ _ hi8R ?c1) (hrC.below ?c2) (blk_ne hi8R (Nat.le_refl _) hmC)).mono ?_; ((case c1 => (repeat' first | with_reducible exact Below.refl _ _ | with_reducible assumption | with_reducible refine Below.drew ?_ | with_reducible refine Below.alloc ?_ ?_ _ | with_reducible refine Below.setCell ?_ ?_ _ | (simp; done) | (simp; omega)))); ((case c2 => (repeat' first | with_reducible exact Below.refl _ _ | with_reducible assumption | with_reducible refine Below.drew ?_ | with_reducible refine Below.alloc ?_ ?_ _ | with_reducible refine Below.setCell ?_ ?_ _ | (simp; done) | (simp; omega)))); rintro e wD ⟨rfl, hbD'⟩
         have hbD := below_to (show Below wR.heap.size wR _ by (repeat' first | with_reducible exact Below.refl _ _ | with_reducible assumption | with_reducible refine Below.drew ?_ | with_reducible refine Below.alloc ?_ ?_ _ | with_reducible refine Below.setCell ?_ ?_ _ | (simp; done) | (simp; omega))) hbD'
         have hsD := hbD.size
         clear hbD')
      | (go_at_call 51; with_reducible refine (K51E _ _ ?hwx).mono ?_; ((case hwx => repeat (first | with_reducible exact heap_alloc_at | with_reducible refine heap_drew ?_))); rintro e wE ⟨vE, tE, rfl, hrE, hnE, hbE'⟩
         have hbE := below_to (show Below wR.heap.size wR _ by (repeat' first | with_reducible exact Below.refl _ _ | with_reducible assumption | with_reducible refine Below.drew ?_ | with_reducible refine Below.alloc ?_ ?_ _ | with_reducible refine Below.setCell ?_ ?_ _ | (simp; done) | (simp; omega))) hbE'
         have hmE : wR.heap.size ≤ tE.blk := Nat.le_trans (show Below wR.heap.size wR _ by (repeat' first | with_reducible exact Below.refl _ _ | with_reducible assumption | with_reducible refine Below.drew ?_ | with_reducible refine Below.alloc ?_ ?_ _ | with_reducible refine Below.setCell ?_ ?_ _ | (simp; done) | (simp; omega))).size hnE
         have hsE := hbE.size
         clear hbE' hnE)
      | (go_at_call 52; with_reducible refine (same_rows sameN6 (RW.out _ _ _ _ hi9R ?c1) (hrE.below ?c2) (blk_ne hi9R (Nat.le_refl _) hmE)).mono ?_; ((case c1 => (repeat' first | with_reducible exact Below.refl _ _ | with_reducible assumption | with_reducible refine Below.drew ?_ | with_reducible refine Below.alloc ?_ ?_ _ | with_reducible refine Below.setCell ?_ ?_ _ | (simp; done) | (simp; omega)))); ((case c2 => (repeat' first | with_reducible exact Below.refl _ _ | with_reducible assumption | with_reducible refine Below.drew ?_ | with_reducible refine Below.alloc ?_ ?_ _ | with_reducible refine Below.setCell ?_ ?_ _ | (simp; done) | (simp; omega)))); rintro e wF ⟨rfl, hbF'⟩
         have hbF := below_to (show Below wR.heap.size wR _ by (repeat' first | with_reducible exact Below.refl _ _ | with_reducible assumption | with_reducible refine Below.drew ?_ | with_reducible refine Below.alloc ?_ ?_ _ | with_reducible refine Below.setCell ?_ ?_ _ | (simp; done) | (simp; omega))) hbF'
         have hsF := hbF.size
         clear hbF')
      | (go_at_call 14; with_reducible refine (wsound_run (hDR.below ?hbel)).mono ?_; ((case hbel => (repeat' first | with_reducible exact Below.refl _ _ | with_reducible assumption | with_reducible refine Below.drew ?_ | with_reducible refine Below.alloc ?_ ?_ _ | with_reducible refine Below.setCell ?_ ?_ _ | (simp; done) | (simp; omega)))); rintro e wZ ⟨rfl, hkZ'⟩
         have hkZ : KeepL [q.s, q.m] wR wZ := (KeepL.of_below (by (repeat' first | with_reducible exact Below.refl _ _ | with_reducible assumption | with_reducible refine Below.drew ?_ | with_reducible refine Below.alloc ?_ ?_ _ | with_reducible refine Below.setCell ?_ ?_ _ | (simp; done) | (simp; omega)))).trans hkZ')))
  all_goals (
    go_wp2_with fail
    go_ret
    exact ⟨rfl, HK.out _ (hkZ.trans (KeepL.of_below (by (repeat' first | with_reducible exact Below.refl _ _ | with_reducible assumption | with_reducible refine Below.drew ?_ | with_reducible refine Below.alloc ?_ ?_ _ | with_reducible refine Below.setCell ?_ ?_ _ | (simp; done) | (simp; omega)))))⟩)
end Go.Proofs.YtbjickdjkgefcaaGreatDoor
