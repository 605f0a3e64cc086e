import Derived.Test.YtpbgaoodokapeaaDoorQD
open Go Go.RowKit
namespace Go.Proofs.YtpbgaoodokapeaaDoor
set_option linter.unusedVariables false
set_option linter.unusedSimpArgs false
theorem may_eq (a : Int) (t : Bool) (h : decide (InM a) = t) (w : World) : Calls Tryd.prog 31 #[.int .i64 a] w fun e w' => e = .returned (.bool t) ∧ w' = w := by
  subst h
  by_cases h1 : -1000000000000000 ≤ a
  · by_cases h2 : a ≤ 1000000000000000
    · go_enter Tryd.func31, Tryd.ntmps31
      go_wp2
      all_goals go_ret
      all_goals exact ⟨by rw [decide_eq_true (show InM a from ⟨h1, h2⟩)]; rfl, rfl⟩
    · go_enter Tryd.func31, Tryd.ntmps31
      go_wp2
      all_goals go_ret
      all_goals exact ⟨by rw [decide_eq_false (show ¬ InM a by unfold InM; omega)]; rfl, rfl⟩
  · go_enter Tryd.func31, Tryd.ntmps31
    go_wp2
    all_goals go_ret
    all_goals exact ⟨by rw [decide_eq_false (show ¬ InM a by unfold InM; omega)]; rfl, rfl⟩
theorem rate_eq (a : Int) (t : Bool) (h : decide (InR a) = t) (w : World) : Calls Tryd.prog 32 #[.int .i64 a] w fun e w' => e = .returned (.bool t) ∧ w' = w := by
  subst h
  by_cases h1 : 0 ≤ a
  · by_cases h2 : a ≤ 1000000
    · go_enter Tryd.func32, Tryd.ntmps32
      go_wp2
      all_goals go_ret
      all_goals exact ⟨by rw [decide_eq_true (show InR a from ⟨h1, h2⟩)]; rfl, rfl⟩
    · go_enter Tryd.func32, Tryd.ntmps32
      go_wp2
      all_goals go_ret
      all_goals exact ⟨by rw [decide_eq_false (show ¬ InR a by unfold InR; omega)]; rfl, rfl⟩
  · go_enter Tryd.func32, Tryd.ntmps32
    go_wp2
    all_goals go_ret
    all_goals exact ⟨by rw [decide_eq_false (show ¬ InR a by unfold InR; omega)]; rfl, rfl⟩
theorem rounded_eq (S R : Int) (w : World) (h0 : 0 ≤ S) (h1 : S ≤ 10000000000) (hR : R = (2 * S + 10000) / 20000) :
    Calls Tryd.prog 41 #[.int .i64 S, .int .i64 10000] w fun e w' => e = .returned (.int .i64 R) ∧ w' = w := by
  have e1 : wrap64 (2 * S) = 2 * S := wrap_ok _ (by omega) (by omega)
  have e2 : wrap64 (2 * S + 10000) = 2 * S + 10000 := wrap_ok _ (by omega) (by omega)
  have e3 : (2 * S + 10000).tdiv 20000 = R := by rw [Int.tdiv_eq_ediv_of_nonneg (by omega)]; exact hR.symm
  have e4 : wrap64 R = R := wrap_ok _ (by omega) (by omega)
  clear h0 h1 hR
  go_enter Tryd.func41, Tryd.ntmps41
  go_wp2
  all_goals go_ret
  all_goals exact ⟨congrArg (fun x => Ending.returned (Value.int .i64 x)) e4, rfl⟩
theorem rpart_walk (a r q s Q S R : Int) (w : World) (e1 : a.tdiv 10000 = q) (e2 : a.tmod 10000 = s) (e3 : wrap64 (q * r) = Q) (e4 : wrap64 (s * r) = S) (e5 : wrap64 (Q + R) = Q + R)
    (hR : ∀ w, Calls Tryd.prog 41 #[.int .i64 S, .int .i64 10000] w fun e w' => e = .returned (.int .i64 R) ∧ w' = w) (e6 : wrap64 q = q) (e7 : wrap64 s = s) :
    Calls Tryd.prog 34 #[.int .i64 a, .int .i64 r] w fun e w' => e = .returned (.int .i64 (Q + R)) ∧ w' = w := by
  go_enter Tryd.func34, Tryd.ntmps34
  go_wp2_with (go_at_call 41; with_reducible refine (hR _).mono ?_; rintro e w1 ⟨rfl, rfl⟩)
  all_goals go_ret
  all_goals exact ⟨congrArg (fun x => Ending.returned (Value.int .i64 x)) e5, rfl⟩
theorem part_plain (a r : Int) (ha : 0 ≤ a) (hr : 0 ≤ r) : a / 10000 * r + (2 * (a % 10000 * r) + 10000) / 20000 = partAbs a r := by
  have h : a * r = 10000 * (a / 10000 * r) + a % 10000 * r := by
    have : a = 10000 * (a / 10000) + a % 10000 := by omega
    conv => lhs; rw [this]
    rw [Int.add_mul, Int.mul_assoc]
  unfold partAbs
  rw [h]
  generalize a / 10000 * r = Q
  generalize a % 10000 * r = S
  split <;> omega
theorem rpart_eq (a r : Int) (w : World) (h0 : 0 ≤ a) (h1 : a ≤ 1000000000000000) (hR : InR r) :
    Calls Tryd.prog 34 #[.int .i64 a, .int .i64 r] w fun e w' => e = .returned (.int .i64 (partAbs a r)) ∧ w' = w := by
  obtain ⟨r0, r1⟩ := hR
  have b1 : 0 ≤ a / 10000 * r := Int.mul_nonneg (by omega) r0
  have b2 : a / 10000 * r ≤ 100000000000 * 1000000 := Int.mul_le_mul (by omega) r1 r0 (by decide)
  have b3 : 0 ≤ a % 10000 * r := Int.mul_nonneg (by omega) r0
  have b4 : a % 10000 * r ≤ 10000 * 1000000 := Int.mul_le_mul (by omega) r1 r0 (by decide)
  rw [← part_plain a r h0 r0]
  obtain ⟨Q, hQ⟩ : ∃ Q, Q = a / 10000 * r := ⟨_, rfl⟩
  obtain ⟨S, hS⟩ : ∃ S, S = a % 10000 * r := ⟨_, rfl⟩
  rw [← hQ] at b1 b2 ⊢
  rw [← hS] at b3 b4 ⊢
  exact rpart_walk a r (a / 10000) (a % 10000) Q S _ w (Int.tdiv_eq_ediv_of_nonneg h0) (Int.tmod_eq_emod_of_nonneg h0) (by rw [← hQ]; exact wrap_ok _ (by omega) (by omega)) (by rw [← hS]; exact wrap_ok _ (by omega) (by omega))
    (wrap_ok _ (by omega) (by omega)) (fun w => rounded_eq S _ w b3 b4 rfl) (wrap_ok _ (by omega) (by omega)) (wrap_ok _ (by omega) (by omega))
theorem refPart_bad1 (a r : Int) (w : World) (K : ∀ w, Calls Tryd.prog 31 #[.int .i64 a] w fun e w' => e = .returned (.bool false) ∧ w' = w) :
    Calls Tryd.prog 20 #[.int .i64 a, .int .i64 r] w fun e w' => e = .returned (.tuple #[.int .i64 0, .int .i64 220]) ∧ w' = w := by
  go_enter Tryd.func20, Tryd.ntmps20
  go_wp2_with (go_at_call 31; with_reducible refine (K _).mono ?_; rintro e w1 ⟨rfl, rfl⟩)
  all_goals go_ret2
  all_goals exact ⟨rfl, rfl⟩
theorem refPart_bad2 (a r : Int) (w : World) (K : ∀ w, Calls Tryd.prog 31 #[.int .i64 a] w fun e w' => e = .returned (.bool true) ∧ w' = w)
    (K2 : ∀ w, Calls Tryd.prog 32 #[.int .i64 r] w fun e w' => e = .returned (.bool false) ∧ w' = w) :
    Calls Tryd.prog 20 #[.int .i64 a, .int .i64 r] w fun e w' => e = .returned (.tuple #[.int .i64 0, .int .i64 1]) ∧ w' = w := by
  go_enter Tryd.func20, Tryd.ntmps20
  go_wp2_with (first
    | (go_at_call 31; with_reducible refine (K _).mono ?_; rintro e w1 ⟨rfl, rfl⟩)
    | (go_at_call 32; with_reducible refine (K2 _).mono ?_; rintro e w1 ⟨rfl, rfl⟩))
  all_goals go_ret2
  all_goals exact ⟨rfl, rfl⟩
theorem refPart_pos (a r p : Int) (w : World) (ha : ¬ a < 0) (t : Bool) (V E : Int) (ht : t = true → V = p ∧ E = 0) (hf : t = false → V = 0 ∧ E = 1)
    (K : ∀ w, Calls Tryd.prog 31 #[.int .i64 a] w fun e w' => e = .returned (.bool true) ∧ w' = w)
    (K2 : ∀ w, Calls Tryd.prog 32 #[.int .i64 r] w fun e w' => e = .returned (.bool true) ∧ w' = w)
    (K3 : ∀ w, Calls Tryd.prog 34 #[.int .i64 a, .int .i64 r] w fun e w' => e = .returned (.int .i64 p) ∧ w' = w)
    (K4 : ∀ w, Calls Tryd.prog 31 #[.int .i64 p] w fun e w' => e = .returned (.bool t) ∧ w' = w) :
    Calls Tryd.prog 20 #[.int .i64 a, .int .i64 r] w fun e w' => e = .returned (.tuple #[.int .i64 V, .int .i64 E]) ∧ w' = w := by
  cases t
  · obtain ⟨rfl, rfl⟩ := hf rfl
    clear ht hf
    go_enter Tryd.func20, Tryd.ntmps20
    go_wp2_with (first
      | (go_at_call 31; with_reducible refine (K _).mono ?_; rintro e w1 ⟨rfl, rfl⟩)
      | (go_at_call 32; with_reducible refine (K2 _).mono ?_; rintro e w1 ⟨rfl, rfl⟩)
      | (go_at_call 34; with_reducible refine (K3 _).mono ?_; rintro e w1 ⟨rfl, rfl⟩)
      | (go_at_call 31; with_reducible refine (K4 _).mono ?_; rintro e w1 ⟨rfl, rfl⟩))
    all_goals go_ret2
    all_goals exact ⟨rfl, rfl⟩
  · obtain ⟨rfl, rfl⟩ := ht rfl
    clear ht hf
    go_enter Tryd.func20, Tryd.ntmps20
    go_wp2_with (first
      | (go_at_call 31; with_reducible refine (K _).mono ?_; rintro e w1 ⟨rfl, rfl⟩)
      | (go_at_call 32; with_reducible refine (K2 _).mono ?_; rintro e w1 ⟨rfl, rfl⟩)
      | (go_at_call 34; with_reducible refine (K3 _).mono ?_; rintro e w1 ⟨rfl, rfl⟩)
      | (go_at_call 31; with_reducible refine (K4 _).mono ?_; rintro e w1 ⟨rfl, rfl⟩))
    all_goals go_ret2
    all_goals exact ⟨rfl, rfl⟩
theorem refPart_neg (a b r p q : Int) (w : World) (ha : a < 0) (hb : wrap64 (-a) = b) (hq : wrap64 (-p) = q) (t : Bool) (V E : Int) (ht : t = true → V = q ∧ E = 0) (hf : t = false → V = 0 ∧ E = 1)
    (K : ∀ w, Calls Tryd.prog 31 #[.int .i64 a] w fun e w' => e = .returned (.bool true) ∧ w' = w)
    (K2 : ∀ w, Calls Tryd.prog 32 #[.int .i64 r] w fun e w' => e = .returned (.bool true) ∧ w' = w)
    (K3 : ∀ w, Calls Tryd.prog 34 #[.int .i64 b, .int .i64 r] w fun e w' => e = .returned (.int .i64 p) ∧ w' = w)
    (K4 : ∀ w, Calls Tryd.prog 31 #[.int .i64 q] w fun e w' => e = .returned (.bool t) ∧ w' = w) :
    Calls Tryd.prog 20 #[.int .i64 a, .int .i64 r] w fun e w' => e = .returned (.tuple #[.int .i64 V, .int .i64 E]) ∧ w' = w := by
  cases t
  · obtain ⟨rfl, rfl⟩ := hf rfl
    clear ht hf
    go_enter Tryd.func20, Tryd.ntmps20
    go_wp2_with (first
      | (go_at_call 31; with_reducible refine (K _).mono ?_; rintro e w1 ⟨rfl, rfl⟩)
      | (go_at_call 32; with_reducible refine (K2 _).mono ?_; rintro e w1 ⟨rfl, rfl⟩)
      | (go_at_call 34; with_reducible refine (K3 _).mono ?_; rintro e w1 ⟨rfl, rfl⟩)
      | (go_at_call 31; with_reducible refine (K4 _).mono ?_; rintro e w1 ⟨rfl, rfl⟩))
    all_goals go_ret2
    all_goals exact ⟨rfl, rfl⟩
  · obtain ⟨rfl, rfl⟩ := ht rfl
    clear ht hf
    go_enter Tryd.func20, Tryd.ntmps20
    go_wp2_with (first
      | (go_at_call 31; with_reducible refine (K _).mono ?_; rintro e w1 ⟨rfl, rfl⟩)
      | (go_at_call 32; with_reducible refine (K2 _).mono ?_; rintro e w1 ⟨rfl, rfl⟩)
      | (go_at_call 34; with_reducible refine (K3 _).mono ?_; rintro e w1 ⟨rfl, rfl⟩)
      | (go_at_call 31; with_reducible refine (K4 _).mono ?_; rintro e w1 ⟨rfl, rfl⟩))
    all_goals go_ret2
    all_goals exact ⟨rfl, rfl⟩
theorem partAbs_bound (a r : Int) (h0 : 0 ≤ a) (h1 : a ≤ 1000000000000000) (hR : InR r) : 0 ≤ partAbs a r ∧ partAbs a r ≤ 200000000000000000 := by
  have b1 : 0 ≤ a * r := Int.mul_nonneg h0 hR.1
  have b2 : a * r ≤ 1000000000000000 * 1000000 := Int.mul_le_mul h1 hR.2 hR.1 (by decide)
  unfold partAbs
  generalize a * r = P at *
  split <;> omega
theorem refPart_any (a r : Int) (w : World) : Calls Tryd.prog 20 #[.int .i64 a, .int .i64 r] w fun e w' => e = .returned (.tuple #[.int .i64 (partV a r), .int .i64 (partE a r)]) ∧ w' = w := by
  by_cases hA : InM a
  · by_cases hR : InR r
    · have K := fun w => may_eq a true (decide_eq_true hA) w
      have K2 := fun w => rate_eq r true (decide_eq_true hR) w
      have L1 : decide (InM (partS a r)) = true → partV a r = partS a r ∧ partE a r = 0 := fun h => by
        have h := of_decide_eq_true h
        exact ⟨if_pos ⟨hA, hR, h⟩, by unfold partE; rw [if_pos hA, if_pos ⟨hR, h⟩]⟩
      have L2 : decide (InM (partS a r)) = false → partV a r = 0 ∧ partE a r = 1 := fun h => by
        have h := of_decide_eq_false h
        exact ⟨if_neg (fun hh => h hh.2.2), by unfold partE; rw [if_pos hA, if_neg (fun hh => h hh.2)]⟩
      have K4 := fun w => may_eq (partS a r) _ rfl w
      obtain ⟨a1, a2⟩ := hA
      by_cases ha : a < 0
      · have hs : partS a r = -(partAbs (-a) r) := by unfold partS; rw [if_pos ha]
        obtain ⟨p1, p2⟩ := partAbs_bound (-a) r (by omega) (by omega) hR
        rw [hs] at L1 L2 K4
        exact refPart_neg a (-a) r (partAbs (-a) r) (-(partAbs (-a) r)) w ha (wrap_ok _ (by omega) (by omega)) (wrap_ok _ (by omega) (by omega)) _ _ _ L1 L2 K K2 (fun w => rpart_eq (-a) r w (by omega) (by omega) hR) K4
      · have hs : partS a r = partAbs a r := by unfold partS; rw [if_neg ha]
        rw [hs] at L1 L2 K4
        exact refPart_pos a r (partAbs a r) w ha _ _ _ L1 L2 K K2 (fun w => rpart_eq a r w (by omega) (by omega) hR) K4
    · have e1 : partV a r = 0 := by unfold partV; rw [if_neg (fun h => hR h.2.1)]
      have e2 : partE a r = 1 := by unfold partE; rw [if_pos hA, if_neg (fun h => hR h.1)]
      rw [e1, e2]
      exact refPart_bad2 a r w (fun w => may_eq a true (decide_eq_true hA) w) (fun w => rate_eq r false (decide_eq_false hR) w)
  · have e1 : partV a r = 0 := by unfold partV; rw [if_neg (fun h => hA h.1)]
    have e2 : partE a r = 220 := by unfold partE; rw [if_neg hA]
    rw [e1, e2]
    exact refPart_bad1 a r w (fun w => may_eq a false (decide_eq_false hA) w)
end Go.Proofs.YtpbgaoodokapeaaDoor

open Go Go.RowKit
namespace Go.Proofs.YtpbgaoodokapeaaDoor
set_option linter.unusedVariables false
set_option linter.unusedSimpArgs false
theorem td_most (x : Int) : ∃ q r, x.tdiv 1000000000000000 = q ∧ x.tmod 1000000000000000 = r ∧ q * 1000000000000000 + r = x ∧ -1000000000000000 < r ∧ r < 1000000000000000 := by
  refine ⟨_, _, rfl, rfl, ?_⟩
  by_cases h : 0 ≤ x
  · rw [Int.tdiv_eq_ediv_of_nonneg h, Int.tmod_eq_emod_of_nonneg h]; omega
  · obtain ⟨y, rfl⟩ : ∃ y, x = -y := ⟨-x, by omega⟩
    rw [Int.neg_tdiv, Int.neg_tmod, Int.tdiv_eq_ediv_of_nonneg (by omega), Int.tmod_eq_emod_of_nonneg (by omega)]; omega
set_option maxRecDepth 4000 in
set_option maxHeartbeats 1000000 in
theorem refSum_walk (b off cap : Nat) (zs : List Int) (w : World) (hlen : zs.length ≤ 5000) (hc : ∀ i, i < zs.length → w.cell? ⟨b, off + i, none⟩ = some (.int .i64 (zs.getD i 0))) :
    Calls Tryd.prog 19 #[.slice (some ⟨b, off, none⟩) zs.length cap] w fun e' w' => e' = .returned (.tuple #[.int .i64 (sumV zs), .int .i64 (sumE zs)]) ∧ w' = w := by
  obtain ⟨V, hV⟩ : ∃ V, V = sumV zs := ⟨_, rfl⟩
  obtain ⟨E, hE⟩ : ∃ E, E = sumE zs := ⟨_, rfl⟩
  rw [← hV, ← hE]
  go_enter Tryd.func19, Tryd.ntmps19
  go_wp2
  go_loop [4] (fun i => ∃ k : Nat, k ≤ zs.length ∧ i = .int .i64 k ∧ (zs.take k).all (fun z => decide (InM z)) = true) (fun i => zs.length - (intOf i).toNat)
  case atStart => exact ⟨0, Nat.zero_le _, rfl, rfl⟩
  case round =>
    obtain ⟨k, hk, rfl, hall⟩ := hrel
    by_cases hlt : k < zs.length
    · have hcell : w.cell? ⟨b, off + k, none⟩ = some (.int .i64 (zs[k])) := by rw [hc k hlt]; simp [hlt]
      by_cases hI : InM zs[k]
      · have K := may_eq zs[k] true (decide_eq_true hI) w
        have hn : (zs.take (k + 1)).all (fun z => decide (InM z)) = true := by
          rw [List.take_succ_eq_append_getElem hlt, List.all_append, hall]; simp [hI]
        clear hc hV hE
        go_wp2_with (go_at_call 31; with_reducible refine K.mono ?_; rintro e w1 ⟨rfl, rfl⟩)
        exact ⟨⟨k + 1, hlt, by go_num, hn⟩, by simp [intOf]; omega⟩
      · have K := may_eq zs[k] false (decide_eq_false hI) w
        have hna : ¬ zs.all (fun z => decide (InM z)) = true := fun h => hI (of_decide_eq_true (List.all_eq_true.1 h _ (List.getElem_mem hlt)))
        have e1 : sumV zs = 0 := if_neg (fun h => hna h.1)
        have e2 : sumE zs = 220 := if_neg hna
        rw [e1] at hV
        rw [e2] at hE
        subst hV hE
        clear hc
        go_wp2_with (go_at_call 31; with_reducible refine K.mono ?_; rintro e w1 ⟨rfl, rfl⟩)
        all_goals go_ret2
        all_goals exact ⟨rfl, rfl⟩
    · have hk' : k = zs.length := by omega
      subst hk'
      rw [List.take_length] at hall
      have hM : ∀ z ∈ zs, InM z := fun z hz => of_decide_eq_true (List.all_eq_true.1 hall z hz)
      go_wp2
      go_loop [5, 6, 7] (fun hi lo i => ∃ (k : Nat) (H L : Int), k ≤ zs.length ∧ i = .int .i64 k ∧ hi = .int .i64 H ∧ lo = .int .i64 L ∧ H * 1000000000000000 + L = sumI (zs.take k) ∧ -1000000000000000 < L ∧ L < 1000000000000000) (fun _ _ i => zs.length - (intOf i).toNat)
      case atStart => exact ⟨0, 0, 0, Nat.zero_le _, rfl, rfl, rfl, rfl, by decide, by decide⟩
      case round =>
        obtain ⟨k, H, L, hk, rfl, rfl, rfl, hS, hL1, hL2⟩ := hrel
        have hb := sumI_bound (zs.take k) (all_take hM)
        have hlk : ((zs.take k).length : Int) ≤ 5000 := by rw [List.length_take]; omega
        by_cases hlt2 : k < zs.length
        · have hcell : w.cell? ⟨b, off + k, none⟩ = some (.int .i64 (zs[k])) := by rw [hc k hlt2]; simp [hlt2]
          have hS2 := sumI_succ hlt2
          obtain ⟨z, hz⟩ : ∃ z, z = zs[k] := ⟨_, rfl⟩
          have hzM : InM z := by rw [hz]; exact hM _ (List.getElem_mem hlt2)
          rw [← hz] at hcell hS2
          obtain ⟨z1, z2⟩ := hzM
          obtain ⟨q, r, hq, hr, hqr, hr1, hr2⟩ := td_most (L + z)
          have w1 : wrap64 (L + z) = L + z := wrap_ok _ (by omega) (by omega)
          have w2 : wrap64 q = q := wrap_ok _ (by omega) (by omega)
          have w3 : wrap64 (H + q) = H + q := wrap_ok _ (by omega) (by omega)
          have w4 : wrap64 r = r := wrap_ok _ (by omega) (by omega)
          have hn : (H + q) * 1000000000000000 + r = sumI (zs.take (k + 1)) := by omega
          clear hc hV hE hb hlk hS hL1 hL2 hS2 hqr z1 z2 hz
          go_wp2
          exact ⟨⟨k + 1, _, _, hlt2, by go_num, rfl, rfl, by first | exact hn | (rw [w3]; exact hn), hr1, hr2⟩, by simp [intOf]; omega⟩
        · have hk' : k = zs.length := by omega
          subst hk'
          rw [List.take_length] at hS hb
          have eV : sumV zs = if InM (sumI zs) then sumI zs else 0 := by unfold sumV; by_cases h : InM (sumI zs) <;> simp [h, hall]
          have eE : sumE zs = if InM (sumI zs) then 0 else 1 := by unfold sumE; rw [if_pos hall]
          rw [eV, ← hS] at hV
          rw [eE, ← hS] at hE
          by_cases h1 : 1 < H
          · have hI : ¬ InM (H * 1000000000000000 + L) := by unfold InM; omega
            rw [if_neg hI] at hV hE
            clear hc hb hS hL1 hL2 hlk hI eV eE
            go_wp2
            all_goals go_ret2
            all_goals exact ⟨by first | rfl | (rw [hV, hE]; rfl), rfl⟩
          · by_cases h2 : H < -1
            · have hI : ¬ InM (H * 1000000000000000 + L) := by unfold InM; omega
              rw [if_neg hI] at hV hE
              clear hc hb hS hL1 hL2 hlk hI eV eE
              go_wp2
              all_goals go_ret2
              all_goals exact ⟨by first | rfl | (rw [hV, hE]; rfl), rfl⟩
            · have w1 : wrap64 (H * 1000000000000000) = H * 1000000000000000 := wrap_ok _ (by omega) (by omega)
              obtain ⟨S, hSS⟩ : ∃ S, S = H * 1000000000000000 + L := ⟨_, rfl⟩
              have w2 : wrap64 (H * 1000000000000000 + L) = S := by rw [hSS]; exact wrap_ok _ (by omega) (by omega)
              rw [← hSS] at hV hE
              by_cases hI : InM S
              · rw [if_pos hI] at hV hE
                have K := may_eq S true (decide_eq_true hI) w
                clear hc hb hS hL1 hL2 hlk hI eV eE hSS
                go_wp2_with (go_at_call 31; with_reducible refine K.mono ?_; rintro e w1 ⟨rfl, rfl⟩)
                all_goals go_ret2
                all_goals exact ⟨by first | rfl | (rw [hV, hE]; rfl) | (rw [hV, hE, ← w2]; rfl) | (rw [← w2]; rfl), rfl⟩
              · rw [if_neg hI] at hV hE
                have K := may_eq S false (decide_eq_false hI) w
                clear hc hb hS hL1 hL2 hlk hI eV eE hSS
                go_wp2_with (go_at_call 31; with_reducible refine K.mono ?_; rintro e w1 ⟨rfl, rfl⟩)
                all_goals go_ret2
                all_goals exact ⟨by first | rfl | (rw [hV, hE]; rfl), rfl⟩
theorem refSum_nil (p : Option Addr) (c : Nat) (w : World) : Calls Tryd.prog 19 #[.slice p 0 c] w fun e' w' => e' = .returned (.tuple #[.int .i64 0, .int .i64 0]) ∧ w' = w := by
  have K := may_eq 0 true (by decide) w
  go_enter Tryd.func19, Tryd.ntmps19
  go_wp2_with (first
    | (refine wp_loop_rounds 1 ?_; rw [rounds_succ])
    | (go_at_call 31; with_reducible refine K.mono ?_; rintro e w1 ⟨rfl, rfl⟩))
  all_goals go_ret2
  all_goals exact ⟨rfl, rfl⟩
theorem refSum_any {zs : List Int} {v : Value} {w : World} (h : Sl zs v w) (hlen : zs.length ≤ 5000) : Calls Tryd.prog 19 #[v] w fun e' w' => e' = .returned (.tuple #[.int .i64 (sumV zs), .int .i64 (sumE zs)]) ∧ w' = w := by
  rcases h with ⟨b, off, cap, rfl, hc⟩ | ⟨rfl, p, c, rfl, _⟩
  · exact refSum_walk b off cap zs w hlen hc
  · exact refSum_nil p c w
end Go.Proofs.YtpbgaoodokapeaaDoor

open Go Go.RowKit
namespace Go.Proofs.YtpbgaoodokapeaaDoor
set_option linter.unusedVariables false
set_option linter.unusedSimpArgs false
set_option maxRecDepth 4000
theorem refPrice_bad1 (a m : Int) (v : Value) (w : World) (K : Calls Tryd.prog 31 #[.int .i64 a] w fun e w' => e = .returned (.bool false) ∧ w' = w) :
    Calls Tryd.prog 22 #[.int .i64 a, .int .i64 m, v] w fun e' w' => e' = .returned (.tuple #[.int .i64 0, .int .i64 220]) ∧ w' = w := by
  go_enter Tryd.func22, Tryd.ntmps22
  go_wp2_with (go_at_call 31; with_reducible refine K.mono ?_; rintro e w1 ⟨rfl, rfl⟩)
  all_goals go_ret2
  all_goals exact ⟨rfl, rfl⟩
theorem refPrice_bad2 (a m : Int) (v : Value) (w : World) (hm : m < 0 ∨ (0 ≤ m ∧ 1000000 < m)) (K : Calls Tryd.prog 31 #[.int .i64 a] w fun e w' => e = .returned (.bool true) ∧ w' = w) :
    Calls Tryd.prog 22 #[.int .i64 a, .int .i64 m, v] w fun e' w' => e' = .returned (.tuple #[.int .i64 0, .int .i64 1]) ∧ w' = w := by
  rcases hm with h1 | ⟨h0, h1⟩
  all_goals go_enter Tryd.func22, Tryd.ntmps22
  all_goals go_wp2_with (go_at_call 31; with_reducible refine K.mono ?_; rintro e w1 ⟨rfl, rfl⟩)
  all_goals go_ret2
  all_goals exact ⟨rfl, rfl⟩
theorem refPrice_walk (a m q nq : Int) (b off cap : Nat) (zs : List Int) (w : World) (hlen : zs.length ≤ 5000) (hc : ∀ i, i < zs.length → w.cell? ⟨b, off + i, none⟩ = some (.int .i64 (zs.getD i 0)))
    (hA : InM a) (hR : InR m) (h0 : ¬ m < 0) (h1 : ¬ 1000000 < m)
    (hq : ¬ m = 0 → (1000000000000000 : Int).tdiv m = q) (hq1 : wrap64 q = q) (hq2 : wrap64 (-q) = nq)
    (hOK : (m = 0 ∧ InM (a * m)) ∨ (0 < m ∧ ¬ m = 0 ∧ q < a ∧ ¬ InM (a * m)) ∨ (0 < m ∧ ¬ m = 0 ∧ ¬ q < a ∧ a < nq ∧ ¬ InM (a * m)) ∨ (0 < m ∧ ¬ m = 0 ∧ ¬ q < a ∧ ¬ a < nq ∧ InM (a * m)))
    (K : Calls Tryd.prog 31 #[.int .i64 a] w fun e w' => e = .returned (.bool true) ∧ w' = w) (V E : Int) (hVE : priceR a m zs = (V, E)) :
    Calls Tryd.prog 22 #[.int .i64 a, .int .i64 m, .slice (some ⟨b, off, none⟩) zs.length cap] w fun e' w' => e' = .returned (.tuple #[.int .i64 V, .int .i64 E]) ∧ w' = w := by
  go_enter Tryd.func22, Tryd.ntmps22
  go_wp2_with (go_at_call 31; with_reducible refine K.mono ?_; rintro e w1 ⟨rfl, rfl⟩)
  go_loop [8] (fun i => ∃ k : Nat, k ≤ zs.length ∧ i = .int .i64 k ∧ (zs.take k).all (fun z => decide (InR z)) = true) (fun i => zs.length - (intOf i).toNat)
  case atStart => exact ⟨0, Nat.zero_le _, rfl, rfl⟩
  case round =>
    obtain ⟨k, hk, rfl, hall⟩ := hrel
    by_cases hlt : k < zs.length
    · have hcell : w1.cell? ⟨b, off + k, none⟩ = some (.int .i64 (zs[k])) := by rw [hc k hlt]; simp [hlt]
      by_cases hI : InR zs[k]
      · have K := rate_eq zs[k] true (decide_eq_true hI) w1
        have hn : (zs.take (k + 1)).all (fun z => decide (InR z)) = true := by
          rw [List.take_succ_eq_append_getElem hlt, List.all_append, hall]; simp [hI]
        clear hc hVE hOK hq hq1 hq2 hA hR
        go_wp2_with (go_at_call 32; with_reducible refine K.mono ?_; rintro e w1 ⟨rfl, rfl⟩)
        exact ⟨⟨k + 1, hlt, by go_num, hn⟩, by simp [intOf]; omega⟩
      · have K := rate_eq zs[k] false (decide_eq_false hI) w1
        have hna : ¬ zs.all (fun z => decide (InR z)) = true := fun h => hI (of_decide_eq_true (List.all_eq_true.1 h _ (List.getElem_mem hlt)))
        have e1 : priceR a m zs = (0, 1) := by unfold priceR; rw [if_pos hA, if_neg (fun h => hna h.1)]
        obtain ⟨rfl, rfl⟩ := Prod.mk.inj (hVE.symm.trans e1)
        clear hc hVE hOK hq hq1 hq2 hA hR e1
        go_wp2_with (go_at_call 32; with_reducible refine K.mono ?_; rintro e w1 ⟨rfl, rfl⟩)
        all_goals go_ret2
        all_goals exact ⟨rfl, rfl⟩
    · have hk' : k = zs.length := by omega
      subst hk'
      rw [List.take_length] at hall
      have hbad : ¬ InM (a * m) → V = 0 ∧ E = 1 := fun hI => by
        have e1 : priceR a m zs = (0, 1) := by unfold priceR; rw [if_pos hA, if_neg (fun h => hI h.2.2)]
        exact Prod.mk.inj (hVE.symm.trans e1)
      have hgood : InM (a * m) → priceL (a * m) zs = (V, E) := fun hI => by
        rw [← hVE]; unfold priceR; rw [if_pos hA, if_pos ⟨hall, hR, hI⟩]
      have wP : InM (a * m) → wrap64 (a * m) = a * m := fun h => by unfold InM at h; apply wrap_ok <;> omega
      obtain ⟨P, hP⟩ : ∃ P, P = a * m := ⟨_, rfl⟩
      rw [← hP] at hbad hgood wP hOK
      clear hall hVE hA hR
      rcases hOK with ⟨g1, gI⟩ | ⟨g1, g2, g3, gI⟩ | ⟨g1, g2, g3, g4, gI⟩ | ⟨g1, g2, g3, g4, gI⟩
      case inr.inl =>
        obtain ⟨rfl, rfl⟩ := hbad gI
        have hq' := hq g2
        clear hc hbad hgood wP hq hP gI
        go_wp2
        all_goals go_ret2
        all_goals exact ⟨rfl, rfl⟩
      case inr.inr.inl =>
        obtain ⟨rfl, rfl⟩ := hbad gI
        have hq' := hq g2
        clear hc hbad hgood wP hq hP gI
        go_wp2
        all_goals go_ret2
        all_goals exact ⟨rfl, rfl⟩
      case inr.inr.inr =>
        have hq' := hq g2
        have hV0 := hgood gI
        have hP' : wrap64 (a * m) = P := by rw [← hP]; exact wP gI
        clear hbad hgood wP hq hP
        go_wp2
        go_loop [9, 10] (fun n i => ∃ (k : Nat) (N : Int), k ≤ zs.length ∧ i = .int .i64 k ∧ n = .int .i64 N ∧ InM N ∧ priceL N (zs.drop k) = (V, E)) (fun n i => zs.length - (intOf i).toNat)
        case atStart => exact ⟨0, P, Nat.zero_le _, rfl, by first | rfl | (rw [hP']; done) | (have h5 := hP'; rw [Int.mul_zero, wrap_ok 0 (by decide) (by decide)] at h5; rw [← h5]), gI, hV0⟩
        case round =>
          obtain ⟨k, N, hk, rfl, rfl, hN, hV⟩ := hrel
          by_cases hlt2 : k < zs.length
          · have hcell : w1.cell? ⟨b, off + k, none⟩ = some (.int .i64 (zs[k])) := by rw [hc k hlt2]; simp [hlt2]
            rw [List.drop_eq_getElem_cons hlt2] at hV
            obtain ⟨r, hr⟩ : ∃ r, r = zs[k] := ⟨_, rfl⟩
            rw [← hr] at hcell hV
            have K1 := refPart_any N r w1
            have hpM : InM (partV N r) := partV_in N r
            have wN : wrap64 (N + partV N r) = N + partV N r := by
              obtain ⟨u1, u2⟩ := hN; obtain ⟨u3, u4⟩ := hpM; apply wrap_ok <;> omega
            obtain ⟨x1, hx1⟩ : ∃ x1, x1 = partV N r := ⟨_, rfl⟩
            obtain ⟨e1, he1⟩ : ∃ e1, e1 = partE N r := ⟨_, rfl⟩
            unfold priceL at hV
            rw [← hx1, ← he1] at hV
            rw [← hx1] at wN
            rw [← hx1, ← he1] at K1
            by_cases hE : e1 = 0
            · rw [if_pos hE] at hV
              subst hE
              by_cases hI : InM (N + x1)
              · rw [if_pos hI] at hV
                have K2 : Calls Tryd.prog 31 #[.int .i64 (N + x1)] w1 fun e w' => e = .returned (.bool true) ∧ w' = w1 := may_eq _ true (decide_eq_true hI) w1
                clear hc hN hpM hx1 he1 hr hV0 hP' gI h0 h1
                go_wp2_with (first
                  | (go_at_call 20; with_reducible refine K1.mono ?_; rintro e w3 ⟨rfl, rfl⟩)
                  | (go_at_call 31; with_reducible refine K2.mono ?_; rintro e w4 ⟨rfl, rfl⟩))
                exact ⟨⟨k + 1, N + x1, hlt2, by go_num, rfl, hI, hV⟩, by simp [intOf]; omega⟩
              · rw [if_neg hI] at hV
                have K2 : Calls Tryd.prog 31 #[.int .i64 (N + x1)] w1 fun e w' => e = .returned (.bool false) ∧ w' = w1 := may_eq _ false (decide_eq_false hI) w1
                obtain ⟨rfl, rfl⟩ := Prod.mk.inj hV
                clear hc hN hpM hx1 he1 hr hV0 hP' gI h0 h1
                go_wp2_with (first
                  | (go_at_call 20; with_reducible refine K1.mono ?_; rintro e w3 ⟨rfl, rfl⟩)
                  | (go_at_call 31; with_reducible refine K2.mono ?_; rintro e w4 ⟨rfl, rfl⟩))
                all_goals go_ret2
                all_goals exact ⟨rfl, rfl⟩
            · rw [if_neg hE] at hV
              obtain ⟨rfl, rfl⟩ := Prod.mk.inj hV
              clear hc hN hpM hx1 he1 hr hV0 hP' gI h0 h1
              go_wp2_with (first
                | (go_at_call 20; with_reducible refine K1.mono ?_; rintro e w3 ⟨rfl, rfl⟩))
              all_goals go_ret2
              all_goals exact ⟨rfl, rfl⟩
          · have hk' : k = zs.length := by omega
            subst hk'
            rw [List.drop_length] at hV
            obtain ⟨rfl, rfl⟩ := Prod.mk.inj hV
            clear hc hN hV0 hP' gI h0 h1
            go_wp2
            all_goals go_ret2
            all_goals exact ⟨rfl, rfl⟩
      case inl =>
        have hV0 := hgood gI
        have hP' : wrap64 (a * m) = P := by rw [← hP]; exact wP gI
        clear hbad hgood wP hq hP
        subst g1
        go_wp2
        go_loop [9, 10] (fun n i => ∃ (k : Nat) (N : Int), k ≤ zs.length ∧ i = .int .i64 k ∧ n = .int .i64 N ∧ InM N ∧ priceL N (zs.drop k) = (V, E)) (fun n i => zs.length - (intOf i).toNat)
        case atStart => exact ⟨0, P, Nat.zero_le _, rfl, by first | rfl | (rw [hP']; done) | (have h5 := hP'; rw [Int.mul_zero, wrap_ok 0 (by decide) (by decide)] at h5; rw [← h5]), gI, hV0⟩
        case round =>
          obtain ⟨k, N, hk, rfl, rfl, hN, hV⟩ := hrel
          by_cases hlt2 : k < zs.length
          · have hcell : w1.cell? ⟨b, off + k, none⟩ = some (.int .i64 (zs[k])) := by rw [hc k hlt2]; simp [hlt2]
            rw [List.drop_eq_getElem_cons hlt2] at hV
            obtain ⟨r, hr⟩ : ∃ r, r = zs[k] := ⟨_, rfl⟩
            rw [← hr] at hcell hV
            have K1 := refPart_any N r w1
            have hpM : InM (partV N r) := partV_in N r
            have wN : wrap64 (N + partV N r) = N + partV N r := by
              obtain ⟨u1, u2⟩ := hN; obtain ⟨u3, u4⟩ := hpM; apply wrap_ok <;> omega
            obtain ⟨x1, hx1⟩ : ∃ x1, x1 = partV N r := ⟨_, rfl⟩
            obtain ⟨e1, he1⟩ : ∃ e1, e1 = partE N r := ⟨_, rfl⟩
            unfold priceL at hV
            rw [← hx1, ← he1] at hV
            rw [← hx1] at wN
            rw [← hx1, ← he1] at K1
            by_cases hE : e1 = 0
            · rw [if_pos hE] at hV
              subst hE
              by_cases hI : InM (N + x1)
              · rw [if_pos hI] at hV
                have K2 : Calls Tryd.prog 31 #[.int .i64 (N + x1)] w1 fun e w' => e = .returned (.bool true) ∧ w' = w1 := may_eq _ true (decide_eq_true hI) w1
                clear hc hN hpM hx1 he1 hr hV0 hP' gI h0 h1
                go_wp2_with (first
                  | (go_at_call 20; with_reducible refine K1.mono ?_; rintro e w3 ⟨rfl, rfl⟩)
                  | (go_at_call 31; with_reducible refine K2.mono ?_; rintro e w4 ⟨rfl, rfl⟩))
                exact ⟨⟨k + 1, N + x1, hlt2, by go_num, rfl, hI, hV⟩, by simp [intOf]; omega⟩
              · rw [if_neg hI] at hV
                have K2 : Calls Tryd.prog 31 #[.int .i64 (N + x1)] w1 fun e w' => e = .returned (.bool false) ∧ w' = w1 := may_eq _ false (decide_eq_false hI) w1
                obtain ⟨rfl, rfl⟩ := Prod.mk.inj hV
                clear hc hN hpM hx1 he1 hr hV0 hP' gI h0 h1
                go_wp2_with (first
                  | (go_at_call 20; with_reducible refine K1.mono ?_; rintro e w3 ⟨rfl, rfl⟩)
                  | (go_at_call 31; with_reducible refine K2.mono ?_; rintro e w4 ⟨rfl, rfl⟩))
                all_goals go_ret2
                all_goals exact ⟨rfl, rfl⟩
            · rw [if_neg hE] at hV
              obtain ⟨rfl, rfl⟩ := Prod.mk.inj hV
              clear hc hN hpM hx1 he1 hr hV0 hP' gI h0 h1
              go_wp2_with (first
                | (go_at_call 20; with_reducible refine K1.mono ?_; rintro e w3 ⟨rfl, rfl⟩))
              all_goals go_ret2
              all_goals exact ⟨rfl, rfl⟩
          · have hk' : k = zs.length := by omega
            subst hk'
            rw [List.drop_length] at hV
            obtain ⟨rfl, rfl⟩ := Prod.mk.inj hV
            clear hc hN hV0 hP' gI h0 h1
            go_wp2
            all_goals go_ret2
            all_goals exact ⟨rfl, rfl⟩
theorem refPrice_nil (a m q nq : Int) (p : Option Addr) (c : Nat) (w : World)
    (hA : InM a) (hR : InR m) (h0 : ¬ m < 0) (h1 : ¬ 1000000 < m)
    (hq : ¬ m = 0 → (1000000000000000 : Int).tdiv m = q) (hq1 : wrap64 q = q) (hq2 : wrap64 (-q) = nq)
    (hOK : (m = 0 ∧ InM (a * m)) ∨ (0 < m ∧ ¬ m = 0 ∧ q < a ∧ ¬ InM (a * m)) ∨ (0 < m ∧ ¬ m = 0 ∧ ¬ q < a ∧ a < nq ∧ ¬ InM (a * m)) ∨ (0 < m ∧ ¬ m = 0 ∧ ¬ q < a ∧ ¬ a < nq ∧ InM (a * m)))
    (K : Calls Tryd.prog 31 #[.int .i64 a] w fun e w' => e = .returned (.bool true) ∧ w' = w) (V E : Int) (hVE : priceR a m [] = (V, E)) :
    Calls Tryd.prog 22 #[.int .i64 a, .int .i64 m, .slice p 0 c] w fun e' w' => e' = .returned (.tuple #[.int .i64 V, .int .i64 E]) ∧ w' = w := by
  have hbad : ¬ InM (a * m) → V = 0 ∧ E = 1 := fun hI => by
    have e1 : priceR a m [] = (0, 1) := by unfold priceR; rw [if_pos hA, if_neg (fun h => hI h.2.2)]
    exact Prod.mk.inj (hVE.symm.trans e1)
  have hgood : InM (a * m) → V = a * m ∧ E = 0 := fun hI => by
    have e1 : priceR a m [] = (a * m, 0) := by unfold priceR; rw [if_pos hA, if_pos ⟨rfl, hR, hI⟩]; rfl
    exact Prod.mk.inj (hVE.symm.trans e1)
  have wP : InM (a * m) → wrap64 (a * m) = a * m := fun h => by unfold InM at h; apply wrap_ok <;> omega
  clear hVE hA hR
  rcases hOK with ⟨rfl, gI⟩ | ⟨g1, g2, g3, gI⟩ | ⟨g1, g2, g3, g4, gI⟩ | ⟨g1, g2, g3, g4, gI⟩
  case inl =>
    obtain ⟨h5, h6⟩ := hgood gI
    rw [Int.mul_zero] at h5
    subst h5 h6
    clear hbad hgood wP gI
    go_enter Tryd.func22, Tryd.ntmps22
    go_wp2_with (first
      | (go_at_call 31; with_reducible refine K.mono ?_; rintro e w1 ⟨rfl, rfl⟩)
      | (refine wp_loop_rounds 1 ?_; rw [rounds_succ]))
    all_goals go_ret2
    all_goals exact ⟨by first | rfl | (simp; done), rfl⟩
  case inr.inl =>
    obtain ⟨rfl, rfl⟩ := hbad gI
    have hq' := hq g2
    clear hbad hgood wP gI hq
    go_enter Tryd.func22, Tryd.ntmps22
    go_wp2_with (first
      | (go_at_call 31; with_reducible refine K.mono ?_; rintro e w1 ⟨rfl, rfl⟩)
      | (refine wp_loop_rounds 1 ?_; rw [rounds_succ]))
    all_goals go_ret2
    all_goals exact ⟨rfl, rfl⟩
  case inr.inr.inl =>
    obtain ⟨rfl, rfl⟩ := hbad gI
    have hq' := hq g2
    clear hbad hgood wP gI hq
    go_enter Tryd.func22, Tryd.ntmps22
    go_wp2_with (first
      | (go_at_call 31; with_reducible refine K.mono ?_; rintro e w1 ⟨rfl, rfl⟩)
      | (refine wp_loop_rounds 1 ?_; rw [rounds_succ]))
    all_goals go_ret2
    all_goals exact ⟨rfl, rfl⟩
  case inr.inr.inr =>
    obtain ⟨h5, rfl⟩ := hgood gI
    have hq' := hq g2
    have wP' : wrap64 (a * m) = V := by rw [h5]; exact wP gI
    clear hbad hgood wP gI hq h5
    go_enter Tryd.func22, Tryd.ntmps22
    go_wp2_with (first
      | (go_at_call 31; with_reducible refine K.mono ?_; rintro e w1 ⟨rfl, rfl⟩)
      | (refine wp_loop_rounds 1 ?_; rw [rounds_succ]))
    all_goals go_ret2
    all_goals exact ⟨by first | rfl | (rw [← wP']; rfl), rfl⟩
theorem refPrice_any {zs : List Int} {v : Value} {w : World} (a m : Int) (h : Sl zs v w) (hlen : zs.length ≤ 5000) :
    Calls Tryd.prog 22 #[.int .i64 a, .int .i64 m, v] w fun e' w' => e' = .returned (.tuple #[.int .i64 (priceR a m zs).1, .int .i64 (priceR a m zs).2]) ∧ w' = w := by
  by_cases hA : InM a
  · have K := may_eq a true (decide_eq_true hA) w
    by_cases hR : InR m
    · obtain ⟨r1, r2⟩ := hR
      have hq : ¬ m = 0 → (1000000000000000 : Int).tdiv m = 1000000000000000 / m := fun _ => Int.tdiv_eq_ediv_of_nonneg (by decide)
      have hb : 0 ≤ 1000000000000000 / m ∧ 1000000000000000 / m ≤ 1000000000000000 := ⟨Int.ediv_nonneg (by decide) r1, Int.ediv_le_self _ (by decide)⟩
      have hOK : (m = 0 ∧ InM (a * m)) ∨ (0 < m ∧ ¬ m = 0 ∧ 1000000000000000 / m < a ∧ ¬ InM (a * m)) ∨ (0 < m ∧ ¬ m = 0 ∧ ¬ 1000000000000000 / m < a ∧ a < -(1000000000000000 / m) ∧ ¬ InM (a * m)) ∨ (0 < m ∧ ¬ m = 0 ∧ ¬ 1000000000000000 / m < a ∧ ¬ a < -(1000000000000000 / m) ∧ InM (a * m)) := by
        by_cases h0 : m = 0
        · exact .inl ⟨h0, by rw [h0, Int.mul_zero]; decide⟩
        · have hm : 0 < m := by omega
          have k1 : a ≤ 1000000000000000 / m ↔ a * m ≤ 1000000000000000 := Int.le_ediv_iff_mul_le hm
          have k2 : -a ≤ 1000000000000000 / m ↔ -a * m ≤ 1000000000000000 := Int.le_ediv_iff_mul_le hm
          rw [Int.neg_mul] at k2
          unfold InM
          by_cases h1 : 1000000000000000 / m < a
          · exact .inr (.inl ⟨hm, h0, h1, by omega⟩)
          · by_cases h2 : a < -(1000000000000000 / m)
            · exact .inr (.inr (.inl ⟨hm, h0, h1, h2, by omega⟩))
            · exact .inr (.inr (.inr ⟨hm, h0, h1, h2, by omega⟩))
      rcases h with ⟨b, off, cap, rfl, hc⟩ | ⟨rfl, p, c, rfl, _⟩
      · exact refPrice_walk a m _ _ b off cap zs w hlen hc hA ⟨r1, r2⟩ (by omega) (by omega) hq (wrap_ok _ (by omega) (by omega)) (wrap_ok _ (by omega) (by omega)) hOK K _ _ rfl
      · exact refPrice_nil a m _ _ p c w hA ⟨r1, r2⟩ (by omega) (by omega) hq (wrap_ok _ (by omega) (by omega)) (wrap_ok _ (by omega) (by omega)) hOK K _ _ rfl
    · have e0 : priceR a m zs = (0, 1) := by unfold priceR; rw [if_pos hA, if_neg (fun hh => hR hh.2.1)]
      rw [e0]
      exact refPrice_bad2 a m v w (by unfold InR at hR; omega) K
  · have e0 : priceR a m zs = (0, 220) := by unfold priceR; rw [if_neg hA]
    rw [e0]
    exact refPrice_bad1 a m v w (may_eq a false (decide_eq_false hA) w)
end Go.Proofs.YtpbgaoodokapeaaDoor
