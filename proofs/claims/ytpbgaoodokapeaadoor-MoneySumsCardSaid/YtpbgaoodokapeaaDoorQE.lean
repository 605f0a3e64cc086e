import Derived.Test.YtpbgaoodokapeaaDoorQD
open Go Go.RowKit
namespace Go.Proofs.YtpbgaoodokapeaaDoor
set_option linter.unusedVariables false
set_option linter.unusedSimpArgs false
theorem price_niln (a x m : Int) (p : Option Addr) (c : Nat) (w : World) (hx : wrap64 (-a) = x) (hlt : a < x) (wx : IntKind.u64.wrap x = x) (wm : IntKind.u64.wrap m = m)
    (K27 : Calls Tryd.prog 27 #[.int .i64 a] w fun e w' => e = .returned (.bool true) ∧ w' = w)
    (KA : Calls Tryd.prog 28 #[.func (.func 29) #[] #[], .slice p 0 c] w fun e w' => e = .returned (.bool true) ∧ w' = w)
    (KR : Calls Tryd.prog 29 #[.int .i64 m] w fun e w' => e = .returned (.bool true) ∧ w' = w)
    (hi lo : Int) (KM : Calls Tryd.prog 35 #[.int .u64 x, .int .u64 m] w fun e w' => e = .returned (.tuple #[.int .u64 hi, .int .u64 lo]) ∧ Below w.heap.size w w')
    (h1 : ¬ 0 < hi) (h2 : lo ≤ 1000000000000000) (P : Int) (hP : wrap64 (a * m) = P) :
    Calls Tryd.prog 21 #[.int .i64 a, .int .i64 m, .slice p 0 c] w fun e' w' => e' = .returned (.tuple #[.int .i64 P, .int .i64 0]) ∧ Below w.heap.size w w' := by
  go_enter Tryd.func21, Tryd.ntmps21
  go_wp2_with (first
    | (go_at_call 27; with_reducible refine K27.mono ?_; rintro e w1 ⟨rfl, rfl⟩)
    | (go_at_call 28; with_reducible refine KA.mono ?_; rintro e w1 ⟨rfl, rfl⟩)
    | (go_at_call 29; with_reducible refine KR.mono ?_; rintro e w1 ⟨rfl, rfl⟩)
    | (go_at_call 35; with_reducible refine KM.mono ?_; rintro e w1 ⟨rfl, hbl⟩)
    | (refine wp_loop_rounds 1 ?_; rw [rounds_succ]))
  all_goals go_ret2
  all_goals exact ⟨by first | rfl | (rw [← hP]; rfl), hbl⟩
theorem price_nilp (a x m : Int) (p : Option Addr) (c : Nat) (w : World) (hlt : wrap64 (-a) ≤ a) (wx : IntKind.u64.wrap a = a) (wm : IntKind.u64.wrap m = m)
    (K27 : Calls Tryd.prog 27 #[.int .i64 a] w fun e w' => e = .returned (.bool true) ∧ w' = w)
    (KA : Calls Tryd.prog 28 #[.func (.func 29) #[] #[], .slice p 0 c] w fun e w' => e = .returned (.bool true) ∧ w' = w)
    (KR : Calls Tryd.prog 29 #[.int .i64 m] w fun e w' => e = .returned (.bool true) ∧ w' = w)
    (hi lo : Int) (KM : Calls Tryd.prog 35 #[.int .u64 a, .int .u64 m] w fun e w' => e = .returned (.tuple #[.int .u64 hi, .int .u64 lo]) ∧ Below w.heap.size w w')
    (h1 : ¬ 0 < hi) (h2 : lo ≤ 1000000000000000) (P : Int) (hP : wrap64 (a * m) = P) :
    Calls Tryd.prog 21 #[.int .i64 a, .int .i64 m, .slice p 0 c] w fun e' w' => e' = .returned (.tuple #[.int .i64 P, .int .i64 0]) ∧ Below w.heap.size w w' := by
  go_enter Tryd.func21, Tryd.ntmps21
  go_wp2_with (first
    | (go_at_call 27; with_reducible refine K27.mono ?_; rintro e w1 ⟨rfl, rfl⟩)
    | (go_at_call 28; with_reducible refine KA.mono ?_; rintro e w1 ⟨rfl, rfl⟩)
    | (go_at_call 29; with_reducible refine KR.mono ?_; rintro e w1 ⟨rfl, rfl⟩)
    | (go_at_call 35; with_reducible refine KM.mono ?_; rintro e w1 ⟨rfl, hbl⟩)
    | (refine wp_loop_rounds 1 ?_; rw [rounds_succ]))
  all_goals go_ret2
  all_goals exact ⟨by first | rfl | (rw [← hP]; rfl), hbl⟩
theorem price_any {zs : List Int} {v : Value} {w : World} (a m : Int) (h : Sl zs v w) (hlen : zs.length ≤ 140737488355328) :
    Calls Tryd.prog 21 #[.int .i64 a, .int .i64 m, v] w fun e' w' => e' = .returned (.tuple #[.int .i64 (priceR a m zs).1, .int .i64 (priceR a m zs).2]) ∧ Below w.heap.size w w' := by
  by_cases hA : InM a
  · have K27 := is_eq a true (decide_eq_true hA) w
    have KA := all_rate_any h hlen
    by_cases hz : zs.all (fun z => decide (InR z)) = true
    · rw [hz] at KA
      by_cases hR : InR m
      · have KR := isRate_eq m true (decide_eq_true hR) w
        obtain ⟨a1, a2⟩ := hA
        obtain ⟨r1, r2⟩ := hR
        have wm : IntKind.u64.wrap m = m := by rw [IntKind.wrap_u64]; omega
        by_cases ha : a < 0
        · have hx : wrap64 (-a) = -a := wrap_ok _ (by omega) (by omega)
          have hlt : a < -a := by omega
          have wx : IntKind.u64.wrap (-a) = -a := by rw [IntKind.wrap_u64]; omega
          have KM := mul_any (-a) m (by omega) (by omega) r1 (by omega) w
          have hP0 : 0 ≤ -a * m := Int.mul_nonneg (by omega) r1
          have hP1 : -a * m ≤ 1000000000000000 * 1000000 := Int.mul_le_mul (by omega) r2 r1 (by decide)
          have hneg : a * m = -(-a * m) := by rw [Int.neg_mul]; omega
          obtain ⟨P, hP⟩ : ∃ P, P = -a * m := ⟨_, rfl⟩
          rw [← hP] at KM hP0 hP1 hneg
          by_cases h1 : 0 < P / 18446744073709551616
          · have e0 : priceR a m zs = (0, 1) := by unfold priceR; rw [if_pos ⟨a1, a2⟩, if_neg (by intro hh; have := hh.2.2; unfold InM at this; omega)]
            rw [e0]
            exact price_bad4n a (-a) m v w hx hlt wx wm K27 KA KR _ _ KM h1
          · by_cases h2 : 1000000000000000 < P % 18446744073709551616
            · have e0 : priceR a m zs = (0, 1) := by unfold priceR; rw [if_pos ⟨a1, a2⟩, if_neg (by intro hh; have := hh.2.2; unfold InM at this; omega)]
              rw [e0]
              exact price_bad5n a (-a) m v w hx hlt wx wm K27 KA KR _ _ KM h1 h2
            · have hI : InM (a * m) := by unfold InM; omega
              have e0 : priceR a m zs = priceL (a * m) zs := by unfold priceR; rw [if_pos ⟨a1, a2⟩, if_pos ⟨hz, ⟨r1, r2⟩, hI⟩]
              rw [e0]
              have hw : wrap64 (a * m) = a * m := by unfold InM at hI; apply wrap_ok <;> omega
              rcases h with ⟨b, off, cap, rfl, hc⟩ | ⟨rfl, p, c, rfl, _⟩
              · exact price_gon a (-a) m b off cap zs w hlen hc hx hlt wx wm K27 KA KR _ _ KM h1 (by omega) _ hw hI _ _ rfl
              · exact price_niln a (-a) m p c w hx hlt wx wm K27 KA KR _ _ KM h1 (by omega) _ hw
        · have hlt : wrap64 (-a) ≤ a := by rw [wrap_ok _ (by omega) (by omega)]; omega
          have wx : IntKind.u64.wrap a = a := by rw [IntKind.wrap_u64]; omega
          have KM := mul_any a m (by omega) (by omega) r1 (by omega) w
          have hP0 : 0 ≤ a * m := Int.mul_nonneg (by omega) r1
          have hP1 : a * m ≤ 1000000000000000 * 1000000 := Int.mul_le_mul (by omega) r2 r1 (by decide)
          by_cases h1 : 0 < a * m / 18446744073709551616
          · have e0 : priceR a m zs = (0, 1) := by unfold priceR; rw [if_pos ⟨a1, a2⟩, if_neg (by intro hh; have := hh.2.2; unfold InM at this; omega)]
            rw [e0]
            exact price_bad4p a a m v w hlt wx wm K27 KA KR _ _ KM h1
          · by_cases h2 : 1000000000000000 < a * m % 18446744073709551616
            · have e0 : priceR a m zs = (0, 1) := by unfold priceR; rw [if_pos ⟨a1, a2⟩, if_neg (by intro hh; have := hh.2.2; unfold InM at this; omega)]
              rw [e0]
              exact price_bad5p a a m v w hlt wx wm K27 KA KR _ _ KM h1 h2
            · have hI : InM (a * m) := by unfold InM; omega
              have e0 : priceR a m zs = priceL (a * m) zs := by unfold priceR; rw [if_pos ⟨a1, a2⟩, if_pos ⟨hz, ⟨r1, r2⟩, hI⟩]
              rw [e0]
              have hw : wrap64 (a * m) = a * m := by unfold InM at hI; apply wrap_ok <;> omega
              rcases h with ⟨b, off, cap, rfl, hc⟩ | ⟨rfl, p, c, rfl, _⟩
              · exact price_gop a a m b off cap zs w hlen hc hlt wx wm K27 KA KR _ _ KM h1 (by omega) _ hw hI _ _ rfl
              · exact price_nilp a a m p c w hlt wx wm K27 KA KR _ _ KM h1 (by omega) _ hw
      · have e0 : priceR a m zs = (0, 1) := by unfold priceR; rw [if_pos hA, if_neg (fun hh => hR hh.2.1)]
        rw [e0]
        exact (price_bad3 a m v w K27 KA (isRate_eq m false (decide_eq_false hR) w)).mono (by rintro e w1 ⟨rfl, rfl⟩; exact ⟨rfl, Below.refl _ _⟩)
    · rw [Bool.eq_false_iff.2 hz] at KA
      have e0 : priceR a m zs = (0, 1) := by unfold priceR; rw [if_pos hA, if_neg (fun hh => hz hh.1)]
      rw [e0]
      exact (price_bad2 a m v w K27 KA).mono (by rintro e w1 ⟨rfl, rfl⟩; exact ⟨rfl, Below.refl _ _⟩)
  · have e0 : priceR a m zs = (0, 220) := by unfold priceR; rw [if_neg hA]
    rw [e0]
    exact (price_bad1 a m v w (is_eq a false (decide_eq_false hA) w)).mono (by rintro e w1 ⟨rfl, rfl⟩; exact ⟨rfl, Below.refl _ _⟩)
end Go.Proofs.YtpbgaoodokapeaaDoor
