/- The walk of the document's Share, and of SpoilInts. -/
import Derived.Test.YtpbgaoodokapeaaDoorSE
import Derived.Test.YtpbgaoodokapeaaDoorRE
import Derived.Deep.QuietTactic
import Derived.BigQuiet
open Go Go.RowKit
namespace Go.Proofs.YtpbgaoodokapeaaDoor
set_option linter.unusedVariables false
set_option linter.unusedSimpArgs false
set_option maxRecDepth 4000
theorem Row.any {vals : List Int} {cap g : Nat} {w : World} (h : Row vals cap g w) {i : Nat} (hi : i < cap) : ∃ v, w.cell? ⟨g, i, none⟩ = some v := by
  obtain ⟨cur, h1, h2, _⟩ := h
  rw [cell_of_row _ _ _ _ _ _ h1]
  exact ⟨cur[i], by simp [h2, hi]⟩
theorem Row.clear {vals : List Int} {cap g : Nat} {w : World} (h : Row vals cap g w) : Row [] cap g w := by
  obtain ⟨cur, h1, h2, h3, _⟩ := h; exact ⟨cur, h1, h2, Nat.zero_le _, rfl⟩
theorem Row.of_own {vals : List Int} {base n : Nat} {v : Value} {w : World} (h : w.ownsRow base 3 1 v n (vals.map (Value.int .i64))) (hn : 0 < n) : ∃ g cap, v = .slice (some ⟨g, 0, none⟩) n cap ∧ base ≤ g ∧ cap ≤ maxLen ∧ Row vals cap g w := by
  have hl : vals.length = n := by have := h.1; simpa using this
  rcases h.2 with ⟨_, h0⟩ | ⟨g, cap, cur, hv, hb, hh, h1, h2, h3, ht⟩
  · omega
  · refine ⟨g, cap, hv, hb, h2, cur, hh, by simpa using h3, by omega, ?_⟩
    rw [hl]; simpa using ht
theorem truncp (x S z : Int) (h0 : 0 ≤ x) (h1 : x ≤ 1000000000000000) (hS : 0 < S) (hS1 : S ≤ 1000000000) (z0 : 0 ≤ z) (z1 : z ≤ 1000000) (hz : z ≤ S) :
    ∃ A B C : Int, x.tdiv S = A ∧ wrap64 (A * z) = A * z ∧ x.tmod S = B ∧ wrap64 (B * z) = C ∧ A * z + C.tdiv S = qv x S z * 1 ∧ wrap64 A = A ∧ wrap64 B = B ∧ wrap64 (C.tdiv S) = C.tdiv S := by
  have hA0 : 0 ≤ x / S := Int.ediv_nonneg h0 (Int.le_of_lt hS)
  have hA1 : x / S ≤ x := Int.ediv_le_self _ h0
  have hB0 : 0 ≤ x % S := Int.emod_nonneg _ (by omega)
  have hB1 : x % S < S := Int.emod_lt_of_pos _ hS
  have hAz0 : 0 ≤ x / S * z := Int.mul_nonneg hA0 z0
  have hAz1 : x / S * z ≤ x := by
    have h5 : x / S * z ≤ x / S * S := Int.mul_le_mul_of_nonneg_left hz hA0
    have h6 := Int.ediv_mul_le x (show S ≠ 0 by omega)
    omega
  have hBz0 : 0 ≤ x % S * z := Int.mul_nonneg hB0 z0
  have hBz1 : x % S * z ≤ 1000000000 * 1000000 := Int.mul_le_mul (by omega) z1 z0 (by decide)
  have hc0 : 0 ≤ x % S * z / S := Int.ediv_nonneg hBz0 (Int.le_of_lt hS)
  have hc1 : x % S * z / S ≤ x % S * z := Int.ediv_le_self _ hBz0
  have hq : x / S * z + x % S * z / S = qv x S z := by
    unfold qv
    have e : x * z = x % S * z + x / S * z * S := by
      have := Int.mul_ediv_add_emod x S
      conv => lhs; rw [← this]
      rw [Int.add_mul, Int.mul_comm S, Int.mul_right_comm]; omega
    rw [e, Int.add_mul_ediv_right _ _ (by omega)]; omega
  refine ⟨x / S, x % S, x % S * z, Int.tdiv_eq_ediv_of_nonneg h0, wrap_ok _ (by omega) (by omega), Int.tmod_eq_emod_of_nonneg h0, wrap_ok _ (by omega) (by omega), ?_, wrap_ok _ (by omega) (by omega), wrap_ok _ (by omega) (by omega), ?_⟩
  · rw [Int.tdiv_eq_ediv_of_nonneg hBz0, hq]; omega
  · rw [Int.tdiv_eq_ediv_of_nonneg hBz0]; exact wrap_ok _ (by omega) (by omega)
theorem truncn (x S z : Int) (h0 : 0 ≤ x) (h1 : x ≤ 1000000000000000) (hS : 0 < S) (hS1 : S ≤ 1000000000) (z0 : 0 ≤ z) (z1 : z ≤ 1000000) (hz : z ≤ S) :
    ∃ A B C : Int, (-x).tdiv S = A ∧ wrap64 (A * z) = A * z ∧ (-x).tmod S = B ∧ wrap64 (B * z) = C ∧ A * z + C.tdiv S = qv x S z * (-1) ∧ wrap64 A = A ∧ wrap64 B = B ∧ wrap64 (C.tdiv S) = C.tdiv S := by
  obtain ⟨A, B, C, d1, d2, d3, d4, d5, w1, w2, w3⟩ := truncp x S z h0 h1 hS hS1 z0 z1 hz
  have neg : ∀ y : Int, wrap64 y = y → (y = -9223372036854775808 ∨ wrap64 (-y) = -y) := by intro y h; unfold wrap64 at h ⊢; omega
  have hA0 : 0 ≤ A := by rw [← d1, Int.tdiv_eq_ediv_of_nonneg h0]; exact Int.ediv_nonneg h0 (Int.le_of_lt hS)
  have hB0 : 0 ≤ B := by rw [← d3, Int.tmod_eq_emod_of_nonneg h0]; exact Int.emod_nonneg _ (by omega)
  have hAz0 : 0 ≤ A * z := Int.mul_nonneg hA0 z0
  have hB1 : B < S := by rw [← d3, Int.tmod_eq_emod_of_nonneg h0]; exact Int.emod_lt_of_pos _ hS
  have hBz0 : 0 ≤ B * z := Int.mul_nonneg hB0 z0
  have hBz1 : B * z ≤ 1000000000 * 1000000 := Int.mul_le_mul (by omega) z1 z0 (by decide)
  have hC : B * z = C := by rw [← d4]; exact (wrap_ok _ (by omega) (by omega)).symm
  have hc0 : 0 ≤ C.tdiv S := by rw [Int.tdiv_eq_ediv_of_nonneg (by omega)]; exact Int.ediv_nonneg (by omega) (Int.le_of_lt hS)
  refine ⟨-A, -B, -C, by rw [Int.neg_tdiv, d1], ?_, by rw [Int.neg_tmod, d3], ?_, ?_, ?_, ?_, ?_⟩
  · rw [Int.neg_mul]; rcases neg _ d2 with h | h
    · omega
    · exact h
  · rw [Int.neg_mul, hC]; exact wrap_ok _ (by omega) (by omega)
  · rw [Int.neg_tdiv, Int.neg_mul]; omega
  · rcases neg _ w1 with h | h
    · omega
    · exact h
  · exact wrap_ok _ (by omega) (by omega)
  · rw [Int.neg_tdiv]; rcases neg _ w3 with h | h
    · omega
    · exact h
theorem spoil_any (g n cap : Nat) (vals : List Int) (w : World) (h : Row vals cap g w) (hcap : cap ≤ maxLen) (hn : n ≤ cap) (m : Int) :
    Calls Tryd.prog 14 #[.slice (some ⟨g, 0, none⟩) n cap, .int .i64 m] w fun e w' => ∃ v, e = .returned v ∧ Below g w w' := by
  have hr := h.clear
  simp only [maxLen] at hcap
  clear h
  go_enter Tryd.func14, Tryd.ntmps14
  go_wp2
  go_loopw [4] (fun i w' => ∃ k : Nat, k ≤ cap ∧ i = .int .i64 k ∧ Row [] cap g w' ∧ Below g w w') (fun i w' => cap - (intOf i).toNat)
  case atStart => exact ⟨0, Nat.zero_le _, rfl, hr, Below.refl _ _⟩
  case round =>
    obtain ⟨k, hk, rfl, hr, hb⟩ := hrel
    by_cases hlt : k < cap
    · obtain ⟨u, hu⟩ := hr.any hlt
      have hf := hr.frozen k
      go_wp2
      exact ⟨⟨k + 1, hlt, by go_num, hr.set k m, hb.setCell (Nat.le_refl _) _⟩, by simp [intOf]; omega⟩
    · have hk' : k = cap := by omega
      subst hk'
      go_wp2
      all_goals (first | go_end0 | (refine bodyPost_ret (results_none rfl _ _ _) rfl ?_) | (refine ⟨rfl, _, results_none rfl _ _ _, ?_⟩))
      all_goals exact ⟨_, rfl, hb⟩
theorem spoil_nil (w : World) (m : Int) : Calls Tryd.prog 14 #[.slice none 0 0, .int .i64 m] w fun e w' => ∃ v, e = .returned v ∧ w' = w := by
  go_enter Tryd.func14, Tryd.ntmps14
  go_wp2_with (refine wp_loop_rounds 1 ?_; rw [rounds_succ])
  all_goals (first | go_end0 | (refine bodyPost_ret (results_none rfl _ _ _) rfl ?_) | (refine ⟨rfl, _, results_none rfl _ _ _, ?_⟩))
  all_goals exact ⟨_, rfl, rfl⟩
theorem refShare_bad1 (a : Int) (v : Value) (w : World) (K : Calls Tryd.prog 31 #[.int .i64 a] w fun e w' => e = .returned (.bool false) ∧ w' = w) :
    Calls Tryd.prog 12 #[.int .i64 a, v] w fun e w' => e = .returned (.tuple #[.slice none 0 0, .int .i64 220]) ∧ w' = w := by
  go_enter Tryd.func12, Tryd.ntmps12
  go_wp2_with (go_at_call 31; with_reducible refine K.mono ?_; rintro e w1 ⟨rfl, rfl⟩)
  all_goals go_ret2
  all_goals exact ⟨rfl, rfl⟩
theorem refShare_bad2 (a : Int) (p : Option Addr) (n c : Nat) (w : World) (h : (n : Int) < 1 ∨ (¬ (n : Int) < 1 ∧ (1000 : Int) < n)) (K : Calls Tryd.prog 31 #[.int .i64 a] w fun e w' => e = .returned (.bool true) ∧ w' = w) :
    Calls Tryd.prog 12 #[.int .i64 a, .slice p n c] w fun e w' => e = .returned (.tuple #[.slice none 0 0, .int .i64 1]) ∧ w' = w := by
  rcases h with h | ⟨h0, h⟩
  all_goals go_enter Tryd.func12, Tryd.ntmps12
  all_goals go_wp2_with (go_at_call 31; with_reducible refine K.mono ?_; rintro e w1 ⟨rfl, rfl⟩)
  all_goals go_ret2
  all_goals exact ⟨rfl, rfl⟩
theorem refShare_bad3 (a : Int) (b off cap : Nat) (zs : List Int) (w : World)
    (hc : ∀ i, i < zs.length → w.cell? ⟨b, off + i, none⟩ = some (.int .i64 (zs.getD i 0))) (h1 : ¬ (zs.length : Int) < 1) (h2 : ¬ (1000 : Int) < zs.length)
    (K : Calls Tryd.prog 31 #[.int .i64 a] w fun e w' => e = .returned (.bool true) ∧ w' = w) (hbad : ¬ ((∀ z ∈ zs, InR z) ∧ ¬ sumI zs = 0)) :
    Calls Tryd.prog 12 #[.int .i64 a, .slice (some ⟨b, off, none⟩) zs.length cap] w fun e w' => e = .returned (.tuple #[.slice none 0 0, .int .i64 1]) ∧ w' = w := by
  go_enter Tryd.func12, Tryd.ntmps12
  go_wp2_with (go_at_call 31; with_reducible refine K.mono ?_; rintro e w1 ⟨rfl, rfl⟩)
  go_loop [6, 7] (fun s i => ∃ k : Nat, k ≤ zs.length ∧ i = .int .i64 k ∧ s = .int .i64 (sumI (zs.take k)) ∧ (zs.take k).all (fun z => decide (InR z)) = true) (fun _ i => zs.length - (intOf i).toNat)
  case atStart => exact ⟨0, Nat.zero_le _, rfl, rfl, rfl⟩
  case round =>
    obtain ⟨k, hk, rfl, rfl, hall⟩ := hrel
    have hRk : ∀ z ∈ zs.take k, InR z := fun z hz => of_decide_eq_true (List.all_eq_true.1 hall z hz)
    by_cases hlt : k < zs.length
    · have hcell : w1.cell? ⟨b, off + k, none⟩ = some (.int .i64 zs[k]) := by rw [hc k hlt]; simp [hlt]
      by_cases hI : InR zs[k]
      · have KR := rate_eq zs[k] true (decide_eq_true hI) w1
        have hn : (zs.take (k + 1)).all (fun z => decide (InR z)) = true := by
          rw [List.take_succ_eq_append_getElem hlt, List.all_append, hall]; simp [hI]
        have hs := sumI_succ hlt
        have hb0 := (sumI_mem (zs.take k) (fun z hz => (hRk z hz).1)).1
        have hb1 := sumR_bound (zs.take k) hRk
        have hlk : ((zs.take k).length : Int) ≤ 1000 := by rw [List.length_take]; omega
        obtain ⟨z, hzz⟩ : ∃ z, z = zs[k] := ⟨_, rfl⟩
        rw [← hzz] at hcell hI hs KR
        obtain ⟨s0, hs0⟩ : ∃ s0, s0 = sumI (zs.take k) := ⟨_, rfl⟩
        rw [← hs0] at hs hb0 hb1 ⊢
        obtain ⟨z0, z1⟩ := hI
        have ws : wrap64 (s0 + z) = s0 + z := wrap_ok _ (by omega) (by omega)
        clear hc hb0 hb1 hlk z0 z1 hzz hs0 hRk hall
        go_wp2_with (go_at_call 32; with_reducible refine KR.mono ?_; rintro e w2 ⟨rfl, rfl⟩)
        exact ⟨⟨k + 1, hlt, by go_num, by first | (rw [hs]; done) | (rw [hs, ws]), hn⟩, by simp [intOf]; omega⟩
      · have KR := rate_eq zs[k] false (decide_eq_false hI) w1
        clear hc hall hRk
        go_wp2_with (go_at_call 32; with_reducible refine KR.mono ?_; rintro e w2 ⟨rfl, rfl⟩)
        all_goals go_ret2
        all_goals exact ⟨rfl, rfl⟩
    · have hk' : k = zs.length := by omega
      subst hk'
      rw [List.take_length] at hall hRk ⊢
      have h0 : sumI zs = 0 := Decidable.byContradiction fun h => hbad ⟨hRk, h⟩
      rw [h0]
      clear hc hall hRk hbad
      go_wp2
      all_goals go_ret2
      all_goals exact ⟨rfl, rfl⟩
set_option maxHeartbeats 2000000 in
theorem refShare_gon (a : Int) (b off cap : Nat) (zs : List Int) (w : World)
    (hc : ∀ i, i < zs.length → w.cell? ⟨b, off + i, none⟩ = some (.int .i64 (zs.getD i 0))) (h1 : ¬ (zs.length : Int) < 1) (h2 : ¬ (1000 : Int) < zs.length)
    (K : Calls Tryd.prog 31 #[.int .i64 a] w fun e w' => e = .returned (.bool true) ∧ w' = w) (S x : Int) (hneg : a < 0) (hx : -a = x) (hR : ∀ z ∈ zs, InR z) (hS : sumI zs = S) (hS0 : ¬ S = 0) (hx0 : 0 ≤ x) (hx1 : x ≤ 1000000000000000) :
    Calls Tryd.prog 12 #[.int .i64 a, .slice (some ⟨b, off, none⟩) zs.length cap] w fun e w' => ∃ g c2, e = .returned (.tuple #[.slice (some ⟨g, 0, none⟩) zs.length c2, .int .i64 0]) ∧ w.heap.size ≤ g ∧ Below w.heap.size w w' ∧ Row (give x S (-1) (x - sumQ x S zs) zs) c2 g w' := by
  obtain ⟨i0, hi0, hz0, hz1, hz2⟩ := info_parts int_info
  have hmem := sumI_mem zs (fun z hz => (hR z hz).1)
  have hSb := sumR_bound zs hR
  rw [hS] at hmem hSb
  have hSp : 0 < S := by have := hmem.1; omega
  go_enter Tryd.func12, Tryd.ntmps12
  go_wp2_with (go_at_call 31; with_reducible refine K.mono ?_; rintro e w1 ⟨rfl, rfl⟩)
  go_loop [6, 7] (fun s i => ∃ k : Nat, k ≤ zs.length ∧ i = .int .i64 k ∧ s = .int .i64 (sumI (zs.take k)) ∧ (zs.take k).all (fun z => decide (InR z)) = true) (fun _ i => zs.length - (intOf i).toNat)
  case atStart => exact ⟨0, Nat.zero_le _, rfl, rfl, rfl⟩
  case round =>
    obtain ⟨k, hk, rfl, rfl, hall⟩ := hrel
    have hRk : ∀ z ∈ zs.take k, InR z := fun z hz => of_decide_eq_true (List.all_eq_true.1 hall z hz)
    by_cases hlt : k < zs.length
    · have hcell : w1.cell? ⟨b, off + k, none⟩ = some (.int .i64 zs[k]) := by rw [hc k hlt]; simp [hlt]
      by_cases hI : InR zs[k]
      · have KR := rate_eq zs[k] true (decide_eq_true hI) w1
        have hn : (zs.take (k + 1)).all (fun z => decide (InR z)) = true := by
          rw [List.take_succ_eq_append_getElem hlt, List.all_append, hall]; simp [hI]
        have hs := sumI_succ hlt
        have hb0 := (sumI_mem (zs.take k) (fun z hz => (hRk z hz).1)).1
        have hb1 := sumR_bound (zs.take k) hRk
        have hlk : ((zs.take k).length : Int) ≤ 1000 := by rw [List.length_take]; omega
        obtain ⟨z, hzz⟩ : ∃ z, z = zs[k] := ⟨_, rfl⟩
        rw [← hzz] at hcell hI hs KR
        obtain ⟨s0, hs0⟩ : ∃ s0, s0 = sumI (zs.take k) := ⟨_, rfl⟩
        rw [← hs0] at hs hb0 hb1 ⊢
        obtain ⟨z0, z1⟩ := hI
        have ws : wrap64 (s0 + z) = s0 + z := wrap_ok _ (by omega) (by omega)
        clear hc hb0 hb1 hlk z0 z1 hzz hs0 hRk hall
        go_wp2_with (go_at_call 32; with_reducible refine KR.mono ?_; rintro e w2 ⟨rfl, rfl⟩)
        exact ⟨⟨k + 1, hlt, by go_num, by first | (rw [hs]; done) | (rw [hs, ws]), hn⟩, by simp [intOf]; omega⟩
      · exact absurd (hR _ (List.getElem_mem hlt)) hI
    · have hk' : k = zs.length := by omega
      subst hk'
      rw [List.take_length] at hall hRk ⊢
      rw [hS]
      clear hall hRk
      obtain rfl : a = -x := by omega
      go_wp2
      go_loopw [8, 9, 10] (fun Lv v i w' => ∃ k : Nat, k ≤ zs.length ∧ i = .int .i64 k ∧ Lv = .int .i64 (-(x - sumQ x S (zs.take k))) ∧ x - 1000000000000000 * (k : Int) ≤ x - sumQ x S (zs.take k) ∧ x - sumQ x S (zs.take k) ≤ x ∧ w'.ownsRow w1.heap.size 3 1 v k (((zs.map fun w => qv x S w * (-1)).take k).map (Value.int .i64)) ∧ Below w1.heap.size w1 w') (fun Lv v i w' => zs.length - (intOf i).toNat)
      case atStart => exact ⟨0, Nat.zero_le _, rfl, by simp [sumQ], by simp [sumQ], by simp [sumQ], World.ownsRow_nil _ _ _ _, Below.refl _ _⟩
      case round =>
        obtain ⟨k, hk, rfl, rfl, hL0, hL1, hown, hb⟩ := hrel
        obtain ⟨L, hL⟩ : ∃ L, L = x - sumQ x S (zs.take k) := ⟨_, rfl⟩
        rw [← hL] at hL0 hL1 ⊢
        by_cases hlt : k < zs.length
        · have hcell : wr.cell? ⟨b, off + k, none⟩ = some (.int .i64 zs[k]) := by
            have h0 := hc k hlt
            rw [hb.cell (cell_lt h0), h0]; simp [hlt]
          have hz := hR _ (List.getElem_mem hlt)
          have hzS := hmem.2 _ (List.getElem_mem hlt)
          have hq := sumQ_succ x S hlt
          have hnext : ((zs.map fun w => qv x S w * (-1)).take (k + 1)).map (Value.int .i64) = ((zs.map fun w => qv x S w * (-1)).take k).map (Value.int .i64) ++ [.int .i64 (qv x S zs[k] * (-1))] := by
            rw [List.take_succ_eq_append_getElem (by simpa using hlt), List.map_append]; simp
          obtain ⟨z, hzz⟩ : ∃ z, z = zs[k] := ⟨_, rfl⟩
          rw [← hzz] at hcell hz hzS hq hnext
          obtain ⟨A, B, C, d1, d2, d3, d4, d5, wA, wB, wC⟩ := truncn x S z hx0 hx1 hSp (by omega) hz.1 hz.2 hzS
          obtain ⟨q, hqq⟩ : ∃ q, q = qv x S z := ⟨_, rfl⟩
          have hqb := qv_bound x S z hx0 hx1 hSp hz.1 hzS
          rw [← hqq] at hq hnext hqb d5
          have eq : q * (-1) = -q := by omega
          rw [eq] at hnext d5
          have wq : wrap64 (-q) = -q := wrap_ok _ (by omega) (by omega)
          have wL : wrap64 (-L + q) = (-(L - q)) := by
            rw [show -L + q = (-(L - q)) by omega]; exact wrap_ok _ (by omega) (by omega)
          have hL' : x - sumQ x S (zs.take (k + 1)) = L - q := by rw [hq]; omega
          obtain ⟨hq0, hq1⟩ := hqb
          have hb1 : x - 1000000000000000 * ((k + 1 : Nat) : Int) ≤ L - q := by omega
          have hb2 : L - q ≤ x := by omega
          clear hc hzS hmem hz hq hzz hL hS hSp hx0 hx1 hqq hL0 hL1 hq0 hq1 eq
          go_wp2
          go_quiet (fail)
          go_wp2_with (first
            | (at_builtin
               refine wpList_append_lies _ rfl (.tmp 70) (.tmp 72) _ rfl w1.heap.size 3 i0 _ 1 8 Tryd.underlying22 hi0 hz0 hz1 hz2 rfl (by omega) _ k _ (by rfl) (World.ownsRow.alloc (w := wr.drewN nq) hown _) _ 1 1 [.int .i64 (-q)] (by rfl) rfl (World.news_of_block (heap_alloc_new _ _)) (by simp [Value.oneCell']) (by omega) (by simp only [maxLen]; omega) (by omega) (by have := hb.size; simp; omega) (wr.heap.size + 1) (by simp) ?_
               intro g2 cap2 w4 hown2 hgrow hat hlt2))
          go_roundw
          case rel => exact ⟨k + 1, hlt, by go_num, by rw [hL']; first | (rw [wL]; done) | rfl | (congr 1; omega), by rw [hL']; exact hb1, by rw [hL']; exact hb2, by rw [hnext]; exact hown2, ((drewN_B hb nq).alloc (by have := hb.size; simp; omega) _).grown hgrow (by have := hb.size; simp; omega) (fun j hj => (hown.lt j hj).1)⟩
          case measure => simp [intOf]; omega
        · have hk' : k = zs.length := by omega
          subst hk'
          rw [List.take_length] at hL
          have hlo := left_ok x S zs hSp hS (fun z hz => (hR z hz).1)
          rw [← hL] at hlo
          have htk : (zs.map fun w => qv x S w * (-1)).take zs.length = zs.map fun w => qv x S w * (-1) := List.take_of_length_le (by simp)
          rw [htk] at hown
          have hqb : ∀ z ∈ zs, 0 ≤ qv x S z ∧ qv x S z ≤ 1000000000000000 := fun z hz => qv_bound x S z hx0 hx1 hSp (hR z hz).1 (hmem.2 z hz)
          have hLx : L ≤ 1000000000000000 := by omega
          obtain ⟨hlo0, hlo1⟩ := hlo
          obtain ⟨g, cap2, rfl, hg, hcm, hrow⟩ := Row.of_own hown (by omega)
          clear hL0 hL1 hmem hown
          obtain ⟨fin, hfi⟩ : ∃ fin, fin = give x S (-1) L zs := ⟨_, rfl⟩
          rcases Int.lt_or_le 0 L with hLp | hLn
          · have hLne : ¬ (-(L)) = 0 := by omega
            change Hid _ at hfi hlo1 hL hS
            go_wp2
            refine wp_loop_rounds 2 ?_
            rw [rounds_succ]
            go_wp2
            change _ = _ at hfi hL hS
            change _ ≤ _ at hlo1
            go_loopw [8, 12] (fun Lv i w' => ∃ (k : Nat) (L : Int) (done : List Int), k ≤ zs.length ∧ i = .int .i64 (k : Int) ∧ Lv = .int .i64 (-(L)) ∧ 0 ≤ L ∧ L ≤ posc (zs.drop k) ∧ L ≤ 1000000000000000 ∧ done.length = k ∧ Row (done ++ (zs.drop k).map fun w => qv x S w * (-1)) cap2 g w' ∧ done ++ give x S (-1) L (zs.drop k) = fin ∧ Below w1.heap.size w1 w') (fun Lv i w' => zs.length - (intOf i).toNat)
            case atStart => exact ⟨0, L, [], Nat.zero_le _, rfl, rfl, hlo0, by simpa using hlo1, hLx, rfl, by simpa using hrow, by simp [hfi], hb⟩
            case round =>
              obtain ⟨k, L, done, hk, rfl, rfl, hL0, hL1, hLx, hdl, hrow, hfin2, hb⟩ := hrel
              by_cases hpos : 0 < L
              · have hlt : k < zs.length := by
                  rcases Nat.lt_or_ge k zs.length with h | h
                  · exact h
                  · rw [List.drop_eq_nil_of_le h] at hL1; simp only [posc] at hL1; omega
                have hcell : wr.cell? ⟨b, off + k, none⟩ = some (.int .i64 zs[k]) := by
                  have h0 := hc k hlt
                  rw [hb.cell (cell_lt h0), h0]; simp [hlt]
                have hqk := hqb _ (List.getElem_mem hlt)
                rw [List.drop_eq_getElem_cons hlt] at hL1 hrow hfin2
                obtain ⟨z, hzz⟩ : ∃ z, z = zs[k] := ⟨_, rfl⟩
                rw [← hzz] at hcell hqk hL1 hrow hfin2
                simp only [posc] at hL1
                rw [List.map_cons] at hrow
                obtain ⟨F, hF⟩ : ∃ F, F = qv x S z * (-1) := ⟨_, rfl⟩
                obtain ⟨rest, hrest⟩ : ∃ rest, rest = (zs.drop (k + 1)).map fun w => qv x S w * (-1) := ⟨_, rfl⟩
                rw [← hF, ← hrest] at hrow
                have hFc := hrow.cell (i := k) (z := F) (by rw [List.getElem?_append_right (by omega), hdl, Nat.sub_self]; rfl)
                have hFf := hrow.frozen k
                have hFb : -1000000000000000 ≤ F ∧ F ≤ 1000000000000000 := by omega
                have hset : (done ++ F :: rest).set k (F + (-1)) = (done ++ [F + (-1)]) ++ rest := by
                  rw [List.set_append_right _ _ (by omega), hdl, Nat.sub_self]; simp
                have hLne : ¬ (-(L)) = 0 := by omega
                have hLs : -L < 0 := by omega
                by_cases hz : 0 < z
                · rw [if_pos hz] at hL1
                  have wL : wrap64 (-L + 1) = (-(L - 1)) := by rw [show -L + 1 = (-(L - 1)) by omega]; exact wrap_ok _ (by omega) (by omega)
                  have wF : wrap64 (F - 1) = F + (-1) := by rw [show F - 1 = F + (-1) by omega]; exact wrap_ok _ (by omega) (by omega)
                  have hL2 : L - 1 ≤ posc (zs.drop (k + 1)) := by omega
                  have hL3 : 0 ≤ L - 1 := by omega
                  have hL4 : L - 1 ≤ 1000000000000000 := by omega
                  have hfin3 : done ++ [F + (-1)] ++ give x S (-1) (L - 1) (zs.drop (k + 1)) = fin := by
                    rw [← hfin2]; conv => rhs; unfold give
                    rw [if_pos ⟨hz, hpos⟩, ← hF, List.append_assoc]; rfl
                  have hdl2 : (done ++ [F + (-1)]).length = k + 1 := by simp [hdl]
                  clear hc hqk hF hFb hzz hL1 hqb hfin2 hR hSp hx0 hx1 hS hL hfi hlo0 hlo1
                  change Hid _ at hL2 hdl2 hfin3 hset hdl hrest
                  go_wp2
                  change _ ≤ _ at hL2
                  change _ = _ at hdl2 hfin3 hset hdl hrest
                  go_roundw
                  case rel => exact ⟨k + 1, L - 1, done ++ [F + (-1)], hlt, by go_num, by first | (rw [wL]; done) | (congr 1; omega) | rfl, hL3, hL2, hL4, hdl2, by rw [← hrest, ← hset]; first | (rw [wF]; exact hrow.set k (F + (-1))) | exact hrow.set k (F + (-1)), hfin3, hb.setCell hg _⟩
                  case measure => simp [intOf]; omega
                · rw [if_neg hz, Int.zero_add] at hL1
                  have hfin3 : done ++ [F] ++ give x S (-1) L (zs.drop (k + 1)) = fin := by
                    rw [← hfin2]; conv => rhs; unfold give
                    rw [if_neg (fun h => hz h.1), ← hF, List.append_assoc]; rfl
                  have hdl2 : (done ++ [F]).length = k + 1 := by simp [hdl]
                  clear hc hqk hF hFb hzz hqb hfin2 hR hSp hx0 hx1 hS hL hfi hlo0 hlo1
                  change Hid _ at hL1 hdl2 hfin3 hset hdl hrest
                  go_wp2
                  change _ ≤ _ at hL1
                  change _ = _ at hdl2 hfin3 hset hdl hrest
                  go_roundw
                  case rel => exact ⟨k + 1, L, done ++ [F], hlt, by go_num, rfl, hL0, hL1, hLx, hdl2, by rw [← hrest, List.append_assoc]; exact hrow, hfin3, hb⟩
                  case measure => simp [intOf]; omega
              · have hLz : L = 0 := by omega
                rw [give_zero _ _ _ _ _ (by omega)] at hfin2
                rw [hfin2] at hrow
                have hrow2 : Row (give x S (-1) (x - sumQ x S zs) zs) cap2 g wr := by rw [← hL, ← hfi]; exact hrow
                subst hLz
                clear hc hqb hfin2 hR hSp hx0 hx1 hS hL hfi hlo0 hlo1 hL1
                by_cases hlt : k < zs.length
                · go_wp2
                  rw [rounds_succ]
                  go_wp2
                  all_goals go_ret2
                  all_goals exact ⟨g, cap2, rfl, hg, hb, hrow2⟩
                · go_wp2
                  rw [rounds_succ]
                  go_wp2
                  all_goals go_ret2
                  all_goals exact ⟨g, cap2, rfl, hg, hb, hrow2⟩
          · have hLz : L = 0 := by omega
            have hrow2 : Row (give x S (-1) (x - sumQ x S zs) zs) cap2 g wr := by rw [← hL, give_zero _ _ _ _ _ hLn]; exact hrow
            subst hLz
            clear hc hqb hR hSp hx0 hx1 hS hL hfi hlo0 hlo1
            go_wp2_with (refine wp_loop_rounds 1 ?_; rw [rounds_succ])
            all_goals go_ret2
            all_goals exact ⟨g, cap2, rfl, hg, hb, hrow2⟩
set_option maxHeartbeats 2000000 in
theorem refShare_gop (a : Int) (b off cap : Nat) (zs : List Int) (w : World)
    (hc : ∀ i, i < zs.length → w.cell? ⟨b, off + i, none⟩ = some (.int .i64 (zs.getD i 0))) (h1 : ¬ (zs.length : Int) < 1) (h2 : ¬ (1000 : Int) < zs.length)
    (K : Calls Tryd.prog 31 #[.int .i64 a] w fun e w' => e = .returned (.bool true) ∧ w' = w) (S x : Int) (hneg : ¬ a < 0) (hR : ∀ z ∈ zs, InR z) (hS : sumI zs = S) (hS0 : ¬ S = 0) (hx0 : 0 ≤ a) (hx1 : a ≤ 1000000000000000) :
    Calls Tryd.prog 12 #[.int .i64 a, .slice (some ⟨b, off, none⟩) zs.length cap] w fun e w' => ∃ g c2, e = .returned (.tuple #[.slice (some ⟨g, 0, none⟩) zs.length c2, .int .i64 0]) ∧ w.heap.size ≤ g ∧ Below w.heap.size w w' ∧ Row (give a S 1 (a - sumQ a S zs) zs) c2 g w' := by
  obtain ⟨i0, hi0, hz0, hz1, hz2⟩ := info_parts int_info
  have hmem := sumI_mem zs (fun z hz => (hR z hz).1)
  have hSb := sumR_bound zs hR
  rw [hS] at hmem hSb
  have hSp : 0 < S := by have := hmem.1; omega
  go_enter Tryd.func12, Tryd.ntmps12
  go_wp2_with (go_at_call 31; with_reducible refine K.mono ?_; rintro e w1 ⟨rfl, rfl⟩)
  go_loop [6, 7] (fun s i => ∃ k : Nat, k ≤ zs.length ∧ i = .int .i64 k ∧ s = .int .i64 (sumI (zs.take k)) ∧ (zs.take k).all (fun z => decide (InR z)) = true) (fun _ i => zs.length - (intOf i).toNat)
  case atStart => exact ⟨0, Nat.zero_le _, rfl, rfl, rfl⟩
  case round =>
    obtain ⟨k, hk, rfl, rfl, hall⟩ := hrel
    have hRk : ∀ z ∈ zs.take k, InR z := fun z hz => of_decide_eq_true (List.all_eq_true.1 hall z hz)
    by_cases hlt : k < zs.length
    · have hcell : w1.cell? ⟨b, off + k, none⟩ = some (.int .i64 zs[k]) := by rw [hc k hlt]; simp [hlt]
      by_cases hI : InR zs[k]
      · have KR := rate_eq zs[k] true (decide_eq_true hI) w1
        have hn : (zs.take (k + 1)).all (fun z => decide (InR z)) = true := by
          rw [List.take_succ_eq_append_getElem hlt, List.all_append, hall]; simp [hI]
        have hs := sumI_succ hlt
        have hb0 := (sumI_mem (zs.take k) (fun z hz => (hRk z hz).1)).1
        have hb1 := sumR_bound (zs.take k) hRk
        have hlk : ((zs.take k).length : Int) ≤ 1000 := by rw [List.length_take]; omega
        obtain ⟨z, hzz⟩ : ∃ z, z = zs[k] := ⟨_, rfl⟩
        rw [← hzz] at hcell hI hs KR
        obtain ⟨s0, hs0⟩ : ∃ s0, s0 = sumI (zs.take k) := ⟨_, rfl⟩
        rw [← hs0] at hs hb0 hb1 ⊢
        obtain ⟨z0, z1⟩ := hI
        have ws : wrap64 (s0 + z) = s0 + z := wrap_ok _ (by omega) (by omega)
        clear hc hb0 hb1 hlk z0 z1 hzz hs0 hRk hall
        go_wp2_with (go_at_call 32; with_reducible refine KR.mono ?_; rintro e w2 ⟨rfl, rfl⟩)
        exact ⟨⟨k + 1, hlt, by go_num, by first | (rw [hs]; done) | (rw [hs, ws]), hn⟩, by simp [intOf]; omega⟩
      · exact absurd (hR _ (List.getElem_mem hlt)) hI
    · have hk' : k = zs.length := by omega
      subst hk'
      rw [List.take_length] at hall hRk ⊢
      rw [hS]
      clear hall hRk
      go_wp2
      go_loopw [8, 9, 10] (fun Lv v i w' => ∃ k : Nat, k ≤ zs.length ∧ i = .int .i64 k ∧ Lv = .int .i64 (a - sumQ a S (zs.take k)) ∧ a - 1000000000000000 * (k : Int) ≤ a - sumQ a S (zs.take k) ∧ a - sumQ a S (zs.take k) ≤ a ∧ w'.ownsRow w1.heap.size 3 1 v k (((zs.map fun w => qv a S w * 1).take k).map (Value.int .i64)) ∧ Below w1.heap.size w1 w') (fun Lv v i w' => zs.length - (intOf i).toNat)
      case atStart => exact ⟨0, Nat.zero_le _, rfl, by simp [sumQ], by simp [sumQ], by simp [sumQ], World.ownsRow_nil _ _ _ _, Below.refl _ _⟩
      case round =>
        obtain ⟨k, hk, rfl, rfl, hL0, hL1, hown, hb⟩ := hrel
        obtain ⟨L, hL⟩ : ∃ L, L = a - sumQ a S (zs.take k) := ⟨_, rfl⟩
        rw [← hL] at hL0 hL1 ⊢
        by_cases hlt : k < zs.length
        · have hcell : wr.cell? ⟨b, off + k, none⟩ = some (.int .i64 zs[k]) := by
            have h0 := hc k hlt
            rw [hb.cell (cell_lt h0), h0]; simp [hlt]
          have hz := hR _ (List.getElem_mem hlt)
          have hzS := hmem.2 _ (List.getElem_mem hlt)
          have hq := sumQ_succ a S hlt
          have hnext : ((zs.map fun w => qv a S w * 1).take (k + 1)).map (Value.int .i64) = ((zs.map fun w => qv a S w * 1).take k).map (Value.int .i64) ++ [.int .i64 (qv a S zs[k] * 1)] := by
            rw [List.take_succ_eq_append_getElem (by simpa using hlt), List.map_append]; simp
          obtain ⟨z, hzz⟩ : ∃ z, z = zs[k] := ⟨_, rfl⟩
          rw [← hzz] at hcell hz hzS hq hnext
          obtain ⟨A, B, C, d1, d2, d3, d4, d5, wA, wB, wC⟩ := truncp a S z hx0 hx1 hSp (by omega) hz.1 hz.2 hzS
          obtain ⟨q, hqq⟩ : ∃ q, q = qv a S z := ⟨_, rfl⟩
          have hqb := qv_bound a S z hx0 hx1 hSp hz.1 hzS
          rw [← hqq] at hq hnext hqb d5
          have eq : q * 1 = q := by omega
          rw [eq] at hnext d5
          have wq : wrap64 (q) = q := wrap_ok _ (by omega) (by omega)
          have wL : wrap64 (L - q) = (L - q) := by
            rw [show L - q = (L - q) by omega]; exact wrap_ok _ (by omega) (by omega)
          have hL' : a - sumQ a S (zs.take (k + 1)) = L - q := by rw [hq]; omega
          obtain ⟨hq0, hq1⟩ := hqb
          have hb1 : a - 1000000000000000 * ((k + 1 : Nat) : Int) ≤ L - q := by omega
          have hb2 : L - q ≤ a := by omega
          clear hc hzS hmem hz hq hzz hL hS hSp hx0 hx1 hqq hL0 hL1 hq0 hq1 eq
          go_wp2
          go_quiet (fail)
          go_wp2_with (first
            | (at_builtin
               refine wpList_append_lies _ rfl (.tmp 70) (.tmp 72) _ rfl w1.heap.size 3 i0 _ 1 8 Tryd.underlying22 hi0 hz0 hz1 hz2 rfl (by omega) _ k _ (by rfl) (World.ownsRow.alloc (w := wr.drewN nq) hown _) _ 1 1 [.int .i64 (q)] (by rfl) rfl (World.news_of_block (heap_alloc_new _ _)) (by simp [Value.oneCell']) (by omega) (by simp only [maxLen]; omega) (by omega) (by have := hb.size; simp; omega) (wr.heap.size + 1) (by simp) ?_
               intro g2 cap2 w4 hown2 hgrow hat hlt2))
          go_roundw
          case rel => exact ⟨k + 1, hlt, by go_num, by rw [hL']; first | (rw [wL]; done) | rfl | (congr 1; omega), by rw [hL']; exact hb1, by rw [hL']; exact hb2, by rw [hnext]; exact hown2, ((drewN_B hb nq).alloc (by have := hb.size; simp; omega) _).grown hgrow (by have := hb.size; simp; omega) (fun j hj => (hown.lt j hj).1)⟩
          case measure => simp [intOf]; omega
        · have hk' : k = zs.length := by omega
          subst hk'
          rw [List.take_length] at hL
          have hlo := left_ok a S zs hSp hS (fun z hz => (hR z hz).1)
          rw [← hL] at hlo
          have htk : (zs.map fun w => qv a S w * 1).take zs.length = zs.map fun w => qv a S w * 1 := List.take_of_length_le (by simp)
          rw [htk] at hown
          have hqb : ∀ z ∈ zs, 0 ≤ qv a S z ∧ qv a S z ≤ 1000000000000000 := fun z hz => qv_bound a S z hx0 hx1 hSp (hR z hz).1 (hmem.2 z hz)
          have hLx : L ≤ 1000000000000000 := by omega
          obtain ⟨hlo0, hlo1⟩ := hlo
          obtain ⟨g, cap2, rfl, hg, hcm, hrow⟩ := Row.of_own hown (by omega)
          clear hL0 hL1 hmem hown
          obtain ⟨fin, hfi⟩ : ∃ fin, fin = give a S 1 L zs := ⟨_, rfl⟩
          rcases Int.lt_or_le 0 L with hLp | hLn
          · have hLne : ¬ (L) = 0 := by omega
            change Hid _ at hfi hlo1 hL hS
            go_wp2
            refine wp_loop_rounds 2 ?_
            rw [rounds_succ]
            go_wp2
            change _ = _ at hfi hL hS
            change _ ≤ _ at hlo1
            go_loopw [8, 12] (fun Lv i w' => ∃ (k : Nat) (L : Int) (done : List Int), k ≤ zs.length ∧ i = .int .i64 (k : Int) ∧ Lv = .int .i64 (L) ∧ 0 ≤ L ∧ L ≤ posc (zs.drop k) ∧ L ≤ 1000000000000000 ∧ done.length = k ∧ Row (done ++ (zs.drop k).map fun w => qv a S w * 1) cap2 g w' ∧ done ++ give a S 1 L (zs.drop k) = fin ∧ Below w1.heap.size w1 w') (fun Lv i w' => zs.length - (intOf i).toNat)
            case atStart => exact ⟨0, L, [], Nat.zero_le _, rfl, rfl, hlo0, by simpa using hlo1, hLx, rfl, by simpa using hrow, by simp [hfi], hb⟩
            case round =>
              obtain ⟨k, L, done, hk, rfl, rfl, hL0, hL1, hLx, hdl, hrow, hfin2, hb⟩ := hrel
              by_cases hpos : 0 < L
              · have hlt : k < zs.length := by
                  rcases Nat.lt_or_ge k zs.length with h | h
                  · exact h
                  · rw [List.drop_eq_nil_of_le h] at hL1; simp only [posc] at hL1; omega
                have hcell : wr.cell? ⟨b, off + k, none⟩ = some (.int .i64 zs[k]) := by
                  have h0 := hc k hlt
                  rw [hb.cell (cell_lt h0), h0]; simp [hlt]
                have hqk := hqb _ (List.getElem_mem hlt)
                rw [List.drop_eq_getElem_cons hlt] at hL1 hrow hfin2
                obtain ⟨z, hzz⟩ : ∃ z, z = zs[k] := ⟨_, rfl⟩
                rw [← hzz] at hcell hqk hL1 hrow hfin2
                simp only [posc] at hL1
                rw [List.map_cons] at hrow
                obtain ⟨F, hF⟩ : ∃ F, F = qv a S z * 1 := ⟨_, rfl⟩
                obtain ⟨rest, hrest⟩ : ∃ rest, rest = (zs.drop (k + 1)).map fun w => qv a S w * 1 := ⟨_, rfl⟩
                rw [← hF, ← hrest] at hrow
                have hFc := hrow.cell (i := k) (z := F) (by rw [List.getElem?_append_right (by omega), hdl, Nat.sub_self]; rfl)
                have hFf := hrow.frozen k
                have hFb : -1000000000000000 ≤ F ∧ F ≤ 1000000000000000 := by omega
                have hset : (done ++ F :: rest).set k (F + 1) = (done ++ [F + 1]) ++ rest := by
                  rw [List.set_append_right _ _ (by omega), hdl, Nat.sub_self]; simp
                have hLne : ¬ (L) = 0 := by omega
                have hLs : 0 < L := by omega
                by_cases hz : 0 < z
                · rw [if_pos hz] at hL1
                  have wL : wrap64 (L - 1) = (L - 1) := by rw [show L - 1 = (L - 1) by omega]; exact wrap_ok _ (by omega) (by omega)
                  have wF : wrap64 (F + 1) = F + 1 := by rw [show F + 1 = F + 1 by omega]; exact wrap_ok _ (by omega) (by omega)
                  have hL2 : L - 1 ≤ posc (zs.drop (k + 1)) := by omega
                  have hL3 : 0 ≤ L - 1 := by omega
                  have hL4 : L - 1 ≤ 1000000000000000 := by omega
                  have hfin3 : done ++ [F + 1] ++ give a S 1 (L - 1) (zs.drop (k + 1)) = fin := by
                    rw [← hfin2]; conv => rhs; unfold give
                    rw [if_pos ⟨hz, hpos⟩, ← hF, List.append_assoc]; rfl
                  have hdl2 : (done ++ [F + 1]).length = k + 1 := by simp [hdl]
                  clear hc hqk hF hFb hzz hL1 hqb hfin2 hR hSp hx0 hx1 hS hL hfi hlo0 hlo1
                  change Hid _ at hL2 hdl2 hfin3 hset hdl hrest
                  go_wp2
                  change _ ≤ _ at hL2
                  change _ = _ at hdl2 hfin3 hset hdl hrest
                  go_roundw
                  case rel => exact ⟨k + 1, L - 1, done ++ [F + 1], hlt, by go_num, by first | (rw [wL]; done) | (congr 1; omega) | rfl, hL3, hL2, hL4, hdl2, by rw [← hrest, ← hset]; first | (rw [wF]; exact hrow.set k (F + 1)) | exact hrow.set k (F + 1), hfin3, hb.setCell hg _⟩
                  case measure => simp [intOf]; omega
                · rw [if_neg hz, Int.zero_add] at hL1
                  have hfin3 : done ++ [F] ++ give a S 1 L (zs.drop (k + 1)) = fin := by
                    rw [← hfin2]; conv => rhs; unfold give
                    rw [if_neg (fun h => hz h.1), ← hF, List.append_assoc]; rfl
                  have hdl2 : (done ++ [F]).length = k + 1 := by simp [hdl]
                  clear hc hqk hF hFb hzz hqb hfin2 hR hSp hx0 hx1 hS hL hfi hlo0 hlo1
                  change Hid _ at hL1 hdl2 hfin3 hset hdl hrest
                  go_wp2
                  change _ ≤ _ at hL1
                  change _ = _ at hdl2 hfin3 hset hdl hrest
                  go_roundw
                  case rel => exact ⟨k + 1, L, done ++ [F], hlt, by go_num, rfl, hL0, hL1, hLx, hdl2, by rw [← hrest, List.append_assoc]; exact hrow, hfin3, hb⟩
                  case measure => simp [intOf]; omega
              · have hLz : L = 0 := by omega
                rw [give_zero _ _ _ _ _ (by omega)] at hfin2
                rw [hfin2] at hrow
                have hrow2 : Row (give a S 1 (a - sumQ a S zs) zs) cap2 g wr := by rw [← hL, ← hfi]; exact hrow
                subst hLz
                clear hc hqb hfin2 hR hSp hx0 hx1 hS hL hfi hlo0 hlo1 hL1
                by_cases hlt : k < zs.length
                · go_wp2
                  rw [rounds_succ]
                  go_wp2
                  all_goals go_ret2
                  all_goals exact ⟨g, cap2, rfl, hg, hb, hrow2⟩
                · go_wp2
                  rw [rounds_succ]
                  go_wp2
                  all_goals go_ret2
                  all_goals exact ⟨g, cap2, rfl, hg, hb, hrow2⟩
          · have hLz : L = 0 := by omega
            have hrow2 : Row (give a S 1 (a - sumQ a S zs) zs) cap2 g wr := by rw [← hL, give_zero _ _ _ _ _ hLn]; exact hrow
            subst hLz
            clear hc hqb hR hSp hx0 hx1 hS hL hfi hlo0 hlo1
            go_wp2_with (refine wp_loop_rounds 1 ?_; rw [rounds_succ])
            all_goals go_ret2
            all_goals exact ⟨g, cap2, rfl, hg, hb, hrow2⟩
end Go.Proofs.YtpbgaoodokapeaaDoor
