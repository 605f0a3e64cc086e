import Derived.Test.YtpbgaoodokapeaaDoorQE
open Go Go.RowKit
namespace Go.Proofs.YtpbgaoodokapeaaDoor
set_option linter.unusedVariables false
set_option linter.unusedSimpArgs false
theorem may_eq (a : Int) (t : Bool) (h : decide (InM a) = t) (w : World) : Calls Tryd.prog 31 #[.int .i64 a] w fun e w' => e = .returned (.bool t) ∧ w' = w := by
  subst h
  by_cases h1 : -1000000000000000 ≤ a
  · by_cases h2 : a ≤ 1000000000000000
    · go_enter Tryd.func31, Tryd.ntmps31
      go_wp2
      all_goals go_ret
      all_goals exact ⟨by rw [decide_eq_true (show InM a from ⟨h1, h2⟩)]; rfl, rfl⟩
    · go_enter Tryd.func31, Tryd.ntmps31
      go_wp2
      all_goals go_ret
      all_goals exact ⟨by rw [decide_eq_false (show ¬ InM a by unfold InM; omega)]; rfl, rfl⟩
  · go_enter Tryd.func31, Tryd.ntmps31
    go_wp2
    all_goals go_ret
    all_goals exact ⟨by rw [decide_eq_false (show ¬ InM a by unfold InM; omega)]; rfl, rfl⟩
theorem rate_eq (a : Int) (t : Bool) (h : decide (InR a) = t) (w : World) : Calls Tryd.prog 32 #[.int .i64 a] w fun e w' => e = .returned (.bool t) ∧ w' = w := by
  subst h
  by_cases h1 : 0 ≤ a
  · by_cases h2 : a ≤ 1000000
    · go_enter Tryd.func32, Tryd.ntmps32
      go_wp2
      all_goals go_ret
      all_goals exact ⟨by rw [decide_eq_true (show InR a from ⟨h1, h2⟩)]; rfl, rfl⟩
    · go_enter Tryd.func32, Tryd.ntmps32
      go_wp2
      all_goals go_ret
      all_goals exact ⟨by rw [decide_eq_false (show ¬ InR a by unfold InR; omega)]; rfl, rfl⟩
  · go_enter Tryd.func32, Tryd.ntmps32
    go_wp2
    all_goals go_ret
    all_goals exact ⟨by rw [decide_eq_false (show ¬ InR a by unfold InR; omega)]; rfl, rfl⟩
theorem rounded_eq (S R : Int) (w : World) (h0 : 0 ≤ S) (h1 : S ≤ 10000000000) (hR : R = (2 * S + 10000) / 20000) :
    Calls Tryd.prog 41 #[.int .i64 S, .int .i64 10000] w fun e w' => e = .returned (.int .i64 R) ∧ w' = w := by
  have e1 : wrap64 (2 * S) = 2 * S := wrap_ok _ (by omega) (by omega)
  have e2 : wrap64 (2 * S + 10000) = 2 * S + 10000 := wrap_ok _ (by omega) (by omega)
  have e3 : (2 * S + 10000).tdiv 20000 = R := by rw [Int.tdiv_eq_ediv_of_nonneg (by omega)]; exact hR.symm
  have e4 : wrap64 R = R := wrap_ok _ (by omega) (by omega)
  clear h0 h1 hR
  go_enter Tryd.func41, Tryd.ntmps41
  go_wp2
  all_goals go_ret
  all_goals exact ⟨congrArg (fun x => Ending.returned (Value.int .i64 x)) e4, rfl⟩
theorem rpart_walk (a r q s Q S R : Int) (w : World) (e1 : a.tdiv 10000 = q) (e2 : a.tmod 10000 = s) (e3 : wrap64 (q * r) = Q) (e4 : wrap64 (s * r) = S) (e5 : wrap64 (Q + R) = Q + R)
    (hR : ∀ w, Calls Tryd.prog 41 #[.int .i64 S, .int .i64 10000] w fun e w' => e = .returned (.int .i64 R) ∧ w' = w) (e6 : wrap64 q = q) (e7 : wrap64 s = s) :
    Calls Tryd.prog 34 #[.int .i64 a, .int .i64 r] w fun e w' => e = .returned (.int .i64 (Q + R)) ∧ w' = w := by
  go_enter Tryd.func34, Tryd.ntmps34
  go_wp2_with (go_at_call 41; with_reducible refine (hR _).mono ?_; rintro e w1 ⟨rfl, rfl⟩)
  all_goals go_ret
  all_goals exact ⟨congrArg (fun x => Ending.returned (Value.int .i64 x)) e5, rfl⟩
theorem part_plain (a r : Int) (ha : 0 ≤ a) (hr : 0 ≤ r) : a / 10000 * r + (2 * (a % 10000 * r) + 10000) / 20000 = partAbs a r := by
  have h : a * r = 10000 * (a / 10000 * r) + a % 10000 * r := by
    have : a = 10000 * (a / 10000) + a % 10000 := by omega
    conv => lhs; rw [this]
    rw [Int.add_mul, Int.mul_assoc]
  unfold partAbs
  rw [h]
  generalize a / 10000 * r = Q
  generalize a % 10000 * r = S
  split <;> omega
theorem rpart_eq (a r : Int) (w : World) (h0 : 0 ≤ a) (h1 : a ≤ 1000000000000000) (hR : InR r) :
    Calls Tryd.prog 34 #[.int .i64 a, .int .i64 r] w fun e w' => e = .returned (.int .i64 (partAbs a r)) ∧ w' = w := by
  obtain ⟨r0, r1⟩ := hR
  have b1 : 0 ≤ a / 10000 * r := Int.mul_nonneg (by omega) r0
  have b2 : a / 10000 * r ≤ 100000000000 * 1000000 := Int.mul_le_mul (by omega) r1 r0 (by decide)
  have b3 : 0 ≤ a % 10000 * r := Int.mul_nonneg (by omega) r0
  have b4 : a % 10000 * r ≤ 10000 * 1000000 := Int.mul_le_mul (by omega) r1 r0 (by decide)
  rw [← part_plain a r h0 r0]
  obtain ⟨Q, hQ⟩ : ∃ Q, Q = a / 10000 * r := ⟨_, rfl⟩
  obtain ⟨S, hS⟩ : ∃ S, S = a % 10000 * r := ⟨_, rfl⟩
  rw [← hQ] at b1 b2 ⊢
  rw [← hS] at b3 b4 ⊢
  exact rpart_walk a r (a / 10000) (a % 10000) Q S _ w (Int.tdiv_eq_ediv_of_nonneg h0) (Int.tmod_eq_emod_of_nonneg h0) (by rw [← hQ]; exact wrap_ok _ (by omega) (by omega)) (by rw [← hS]; exact wrap_ok _ (by omega) (by omega))
    (wrap_ok _ (by omega) (by omega)) (fun w => rounded_eq S _ w b3 b4 rfl) (wrap_ok _ (by omega) (by omega)) (wrap_ok _ (by omega) (by omega))
theorem refPart_bad1 (a r : Int) (w : World) (K : ∀ w, Calls Tryd.prog 31 #[.int .i64 a] w fun e w' => e = .returned (.bool false) ∧ w' = w) :
    Calls Tryd.prog 20 #[.int .i64 a, .int .i64 r] w fun e w' => e = .returned (.tuple #[.int .i64 0, .int .i64 220]) ∧ w' = w := by
  go_enter Tryd.func20, Tryd.ntmps20
  go_wp2_with (go_at_call 31; with_reducible refine (K _).mono ?_; rintro e w1 ⟨rfl, rfl⟩)
  all_goals go_ret2
  all_goals exact ⟨rfl, rfl⟩
theorem refPart_bad2 (a r : Int) (w : World) (K : ∀ w, Calls Tryd.prog 31 #[.int .i64 a] w fun e w' => e = .returned (.bool true) ∧ w' = w)
    (K2 : ∀ w, Calls Tryd.prog 32 #[.int .i64 r] w fun e w' => e = .returned (.bool false) ∧ w' = w) :
    Calls Tryd.prog 20 #[.int .i64 a, .int .i64 r] w fun e w' => e = .returned (.tuple #[.int .i64 0, .int .i64 1]) ∧ w' = w := by
  go_enter Tryd.func20, Tryd.ntmps20
  go_wp2_with (first
    | (go_at_call 31; with_reducible refine (K _).mono ?_; rintro e w1 ⟨rfl, rfl⟩)
    | (go_at_call 32; with_reducible refine (K2 _).mono ?_; rintro e w1 ⟨rfl, rfl⟩))
  all_goals go_ret2
  all_goals exact ⟨rfl, rfl⟩
theorem refPart_pos (a r p : Int) (w : World) (ha : ¬ a < 0) (t : Bool) (V E : Int) (ht : t = true → V = p ∧ E = 0) (hf : t = false → V = 0 ∧ E = 1)
    (K : ∀ w, Calls Tryd.prog 31 #[.int .i64 a] w fun e w' => e = .returned (.bool true) ∧ w' = w)
    (K2 : ∀ w, Calls Tryd.prog 32 #[.int .i64 r] w fun e w' => e = .returned (.bool true) ∧ w' = w)
    (K3 : ∀ w, Calls Tryd.prog 34 #[.int .i64 a, .int .i64 r] w fun e w' => e = .returned (.int .i64 p) ∧ w' = w)
    (K4 : ∀ w, Calls Tryd.prog 31 #[.int .i64 p] w fun e w' => e = .returned (.bool t) ∧ w' = w) :
    Calls Tryd.prog 20 #[.int .i64 a, .int .i64 r] w fun e w' => e = .returned (.tuple #[.int .i64 V, .int .i64 E]) ∧ w' = w := by
  cases t
  · obtain ⟨rfl, rfl⟩ := hf rfl
    clear ht hf
    go_enter Tryd.func20, Tryd.ntmps20
    go_wp2_with (first
      | (go_at_call 31; with_reducible refine (K _).mono ?_; rintro e w1 ⟨rfl, rfl⟩)
      | (go_at_call 32; with_reducible refine (K2 _).mono ?_; rintro e w1 ⟨rfl, rfl⟩)
      | (go_at_call 34; with_reducible refine (K3 _).mono ?_; rintro e w1 ⟨rfl, rfl⟩)
      | (go_at_call 31; with_reducible refine (K4 _).mono ?_; rintro e w1 ⟨rfl, rfl⟩))
    all_goals go_ret2
    all_goals exact ⟨rfl, rfl⟩
  · obtain ⟨rfl, rfl⟩ := ht rfl
    clear ht hf
    go_enter Tryd.func20, Tryd.ntmps20
    go_wp2_with (first
      | (go_at_call 31; with_reducible refine (K _).mono ?_; rintro e w1 ⟨rfl, rfl⟩)
      | (go_at_call 32; with_reducible refine (K2 _).mono ?_; rintro e w1 ⟨rfl, rfl⟩)
      | (go_at_call 34; with_reducible refine (K3 _).mono ?_; rintro e w1 ⟨rfl, rfl⟩)
      | (go_at_call 31; with_reducible refine (K4 _).mono ?_; rintro e w1 ⟨rfl, rfl⟩))
    all_goals go_ret2
    all_goals exact ⟨rfl, rfl⟩
theorem refPart_neg (a b r p q : Int) (w : World) (ha : a < 0) (hb : wrap64 (-a) = b) (hq : wrap64 (-p) = q) (t : Bool) (V E : Int) (ht : t = true → V = q ∧ E = 0) (hf : t = false → V = 0 ∧ E = 1)
    (K : ∀ w, Calls Tryd.prog 31 #[.int .i64 a] w fun e w' => e = .returned (.bool true) ∧ w' = w)
    (K2 : ∀ w, Calls Tryd.prog 32 #[.int .i64 r] w fun e w' => e = .returned (.bool true) ∧ w' = w)
    (K3 : ∀ w, Calls Tryd.prog 34 #[.int .i64 b, .int .i64 r] w fun e w' => e = .returned (.int .i64 p) ∧ w' = w)
    (K4 : ∀ w, Calls Tryd.prog 31 #[.int .i64 q] w fun e w' => e = .returned (.bool t) ∧ w' = w) :
    Calls Tryd.prog 20 #[.int .i64 a, .int .i64 r] w fun e w' => e = .returned (.tuple #[.int .i64 V, .int .i64 E]) ∧ w' = w := by
  cases t
  · obtain ⟨rfl, rfl⟩ := hf rfl
    clear ht hf
    go_enter Tryd.func20, Tryd.ntmps20
    go_wp2_with (first
      | (go_at_call 31; with_reducible refine (K _).mono ?_; rintro e w1 ⟨rfl, rfl⟩)
      | (go_at_call 32; with_reducible refine (K2 _).mono ?_; rintro e w1 ⟨rfl, rfl⟩)
      | (go_at_call 34; with_reducible refine (K3 _).mono ?_; rintro e w1 ⟨rfl, rfl⟩)
      | (go_at_call 31; with_reducible refine (K4 _).mono ?_; rintro e w1 ⟨rfl, rfl⟩))
    all_goals go_ret2
    all_goals exact ⟨rfl, rfl⟩
  · obtain ⟨rfl, rfl⟩ := ht rfl
    clear ht hf
    go_enter Tryd.func20, Tryd.ntmps20
    go_wp2_with (first
      | (go_at_call 31; with_reducible refine (K _).mono ?_; rintro e w1 ⟨rfl, rfl⟩)
      | (go_at_call 32; with_reducible refine (K2 _).mono ?_; rintro e w1 ⟨rfl, rfl⟩)
      | (go_at_call 34; with_reducible refine (K3 _).mono ?_; rintro e w1 ⟨rfl, rfl⟩)
      | (go_at_call 31; with_reducible refine (K4 _).mono ?_; rintro e w1 ⟨rfl, rfl⟩))
    all_goals go_ret2
    all_goals exact ⟨rfl, rfl⟩
theorem partAbs_bound (a r : Int) (h0 : 0 ≤ a) (h1 : a ≤ 1000000000000000) (hR : InR r) : 0 ≤ partAbs a r ∧ partAbs a r ≤ 200000000000000000 := by
  have b1 : 0 ≤ a * r := Int.mul_nonneg h0 hR.1
  have b2 : a * r ≤ 1000000000000000 * 1000000 := Int.mul_le_mul h1 hR.2 hR.1 (by decide)
  unfold partAbs
  generalize a * r = P at *
  split <;> omega
theorem refPart_any (a r : Int) (w : World) : Calls Tryd.prog 20 #[.int .i64 a, .int .i64 r] w fun e w' => e = .returned (.tuple #[.int .i64 (partV a r), .int .i64 (partE a r)]) ∧ w' = w := by
  by_cases hA : InM a
  · by_cases hR : InR r
    · have K := fun w => may_eq a true (decide_eq_true hA) w
      have K2 := fun w => rate_eq r true (decide_eq_true hR) w
      have L1 : decide (InM (partS a r)) = true → partV a r = partS a r ∧ partE a r = 0 := fun h => by
        have h := of_decide_eq_true h
        exact ⟨if_pos ⟨hA, hR, h⟩, by unfold partE; rw [if_pos hA, if_pos ⟨hR, h⟩]⟩
      have L2 : decide (InM (partS a r)) = false → partV a r = 0 ∧ partE a r = 1 := fun h => by
        have h := of_decide_eq_false h
        exact ⟨if_neg (fun hh => h hh.2.2), by unfold partE; rw [if_pos hA, if_neg (fun hh => h hh.2)]⟩
      have K4 := fun w => may_eq (partS a r) _ rfl w
      obtain ⟨a1, a2⟩ := hA
      by_cases ha : a < 0
      · have hs : partS a r = -(partAbs (-a) r) := by unfold partS; rw [if_pos ha]
        obtain ⟨p1, p2⟩ := partAbs_bound (-a) r (by omega) (by omega) hR
        rw [hs] at L1 L2 K4
        exact refPart_neg a (-a) r (partAbs (-a) r) (-(partAbs (-a) r)) w ha (wrap_ok _ (by omega) (by omega)) (wrap_ok _ (by omega) (by omega)) _ _ _ L1 L2 K K2 (fun w => rpart_eq (-a) r w (by omega) (by omega) hR) K4
      · have hs : partS a r = partAbs a r := by unfold partS; rw [if_neg ha]
        rw [hs] at L1 L2 K4
        exact refPart_pos a r (partAbs a r) w ha _ _ _ L1 L2 K K2 (fun w => rpart_eq a r w (by omega) (by omega) hR) K4
    · have e1 : partV a r = 0 := by unfold partV; rw [if_neg (fun h => hR h.2.1)]
      have e2 : partE a r = 1 := by unfold partE; rw [if_pos hA, if_neg (fun h => hR h.1)]
      rw [e1, e2]
      exact refPart_bad2 a r w (fun w => may_eq a true (decide_eq_true hA) w) (fun w => rate_eq r false (decide_eq_false hR) w)
  · have e1 : partV a r = 0 := by unfold partV; rw [if_neg (fun h => hA h.1)]
    have e2 : partE a r = 220 := by unfold partE; rw [if_neg hA]
    rw [e1, e2]
    exact refPart_bad1 a r w (fun w => may_eq a false (decide_eq_false hA) w)
end Go.Proofs.YtpbgaoodokapeaaDoor
