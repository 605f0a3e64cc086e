import Derived.Test.YtpbgaoodokapeaaDoorRD
open Go Go.RowKit
namespace Go.Proofs.YtpbgaoodokapeaaDoor
set_option linter.unusedVariables false
set_option linter.unusedSimpArgs false
set_option maxRecDepth 4000
set_option maxHeartbeats 2000000 in
theorem div_gen (hi lo y s p G Y y1 A U B u1 q1 qy r1 R X C D E T q0 qz r0 R2 X2 Q1 Q T1 T2 T3 V : Int) (w : World) (hy0 : ¬ y = 0) (hy1 : ¬ y ≤ hi) (h4 : ¬ hi = 0)
    (lz : ∀ w : World, Calls Tryd.prog 51 #[.int .u64 y] w fun e w' => e = .returned (.int .i64 s) ∧ w' = w)
    (hs : 34 ≤ s) (hs1 : s ≤ 63)
    (hp : (2 : Int) ^ s.toNat = p) (hG : (2 : Int) ^ (64 - s).toNat = G)
    (e1 : IntKind.u64.wrap (y * p) = Y) (e2 : Y / 4294967296 = y1) (e3 : bits .and .u64 Y 4294967295 = 0)
    (e4 : IntKind.u64.wrap (hi * p) = A) (e5 : bits .or .u64 A (lo / G) = U)
    (e6 : IntKind.u64.wrap (lo * p) = B) (e7 : B / 4294967296 = u1) (e8 : bits .and .u64 B 4294967295 = 0)
    (hy10 : ¬ y1 = 0) (e9 : U.tdiv y1 = q1) (e10 : IntKind.u64.wrap (q1 * y1) = qy) (e11 : IntKind.u64.wrap (U - qy) = r1)
    (c1 : ¬ 4294967296 ≤ q1) (e12 : IntKind.u64.wrap (4294967296 * r1) = R) (e13 : IntKind.u64.wrap (R + u1) = X) (c2 : ¬ X < 0)
    (e14 : IntKind.u64.wrap (U * 4294967296) = C) (e15 : IntKind.u64.wrap (C + u1) = D) (e16 : IntKind.u64.wrap (q1 * Y) = E) (e17 : IntKind.u64.wrap (D - E) = T)
    (e18 : T.tdiv y1 = q0) (e19 : IntKind.u64.wrap (q0 * y1) = qz) (e20 : IntKind.u64.wrap (T - qz) = r0)
    (c3 : ¬ 4294967296 ≤ q0) (e21 : IntKind.u64.wrap (4294967296 * r0) = R2) (e22 : IntKind.u64.wrap R2 = X2) (c4 : ¬ X2 < 0)
    (e23 : IntKind.u64.wrap (q1 * 4294967296) = Q1) (e24 : IntKind.u64.wrap (Q1 + q0) = Q)
    (e25 : IntKind.u64.wrap (T * 4294967296) = T1) (e26 : IntKind.u64.wrap T1 = T1) (e27 : IntKind.u64.wrap (q0 * Y) = T2) (e28 : IntKind.u64.wrap (T1 - T2) = T3) (e29 : T3 / p = V)
    (w0 : IntKind.u64.wrap 0 = 0) (wq1 : IntKind.u64.wrap q1 = q1) (wq0 : IntKind.u64.wrap q0 = q0) :
    Calls Tryd.prog 40 #[.int .u64 hi, .int .u64 lo, .int .u64 y] w fun e w' => e = .returned (.tuple #[.int .u64 Q, .int .u64 V]) ∧ w' = w := by
  go_enter Tryd.func40, Tryd.ntmps40
  go_wp2_with (first
    | (go_at_call 51; with_reducible refine (lz _).mono ?_; rintro e w1 ⟨rfl, rfl⟩)
    | (refine wp_loop_rounds 1 ?_; rw [rounds_succ]))
  all_goals go_ret2
  all_goals exact ⟨rfl, rfl⟩
theorem mod_mul (a b : Int) (h : 0 ≤ b) (hb : b < 18446744073709551616) : (a * 18446744073709551616 + b) % 18446744073709551616 = b := by omega
theorem div_full (hi lo y s D G : Int) (w : World) (g0 : 0 ≤ hi) (g1 : hi < y) (l0 : 0 ≤ lo) (l1 : lo < 18446744073709551616) (h4 : ¬ hi = 0) (k : Nat) (hD : D = ((2 ^ k : Nat) : Int)) (hG0 : 0 < G) (hDG : D * G = 4294967296) (hyG : y < G)
    (lz : ∀ w : World, Calls Tryd.prog 51 #[.int .u64 y] w fun e w' => e = .returned (.int .i64 s) ∧ w' = w)
    (hs : 34 ≤ s) (hs1 : s ≤ 63) (hp : (2 : Int) ^ s.toNat = D * 4294967296) (hG : (2 : Int) ^ (64 - s).toNat = G) :
    Calls Tryd.prog 40 #[.int .u64 hi, .int .u64 lo, .int .u64 y] w fun e w' => e = .returned (.tuple #[.int .u64 ((hi * 18446744073709551616 + lo) / y), .int .u64 ((hi * 18446744073709551616 + lo) % y)]) ∧ w' = w := by
  have hD0 : 0 < D := by rw [hD]; exact_mod_cast Nat.two_pow_pos k
  have hDp : D * 4294967296 = ((2 ^ (k + 32) : Nat) : Int) := by rw [Nat.pow_add, Int.natCast_mul, ← hD, show ((2 ^ 32 : Nat) : Int) = 4294967296 by decide]
  obtain ⟨y1, hy1⟩ : ∃ y1, y1 = y * D := ⟨_, rfl⟩
  have y1a : D ≤ y1 := by rw [hy1]; have := Int.mul_le_mul_of_nonneg_right (show (1 : Int) ≤ y by omega) (Int.le_of_lt hD0); omega
  have y1b : y1 + D ≤ 4294967296 := by
    have := Int.mul_le_mul_of_nonneg_right (show y + 1 ≤ G by omega) (Int.le_of_lt hD0)
    rw [Int.add_mul, Int.mul_comm G D, hDG, ← hy1] at this; omega
  obtain ⟨hd, hhd⟩ : ∃ hd, hd = hi * D := ⟨_, rfl⟩
  have hd0 : 0 ≤ hd := by rw [hhd]; exact Int.mul_nonneg g0 (Int.le_of_lt hD0)
  have hd1 : hd + D ≤ y1 := by
    have := Int.mul_le_mul_of_nonneg_right (show hi + 1 ≤ y by omega) (Int.le_of_lt hD0)
    rw [Int.add_mul, ← hhd, ← hy1] at this; omega
  obtain ⟨m1, hm1⟩ : ∃ m1, m1 = lo / G := ⟨_, rfl⟩
  obtain ⟨m0, hm0⟩ : ∃ m0, m0 = lo % G := ⟨_, rfl⟩
  have hlo : G * m1 + m0 = lo := by rw [hm1, hm0]; exact Int.mul_ediv_add_emod lo G
  have m0a : 0 ≤ m0 := by rw [hm0]; exact Int.emod_nonneg _ (by omega)
  have m0b : m0 < G := by rw [hm0]; exact Int.emod_lt_of_pos _ hG0
  have m1a : 0 ≤ m1 := by rw [hm1]; exact Int.ediv_nonneg l0 (Int.le_of_lt hG0)
  have m1b : m1 < D * 4294967296 := by
    rw [hm1]; apply Int.ediv_lt_of_lt_mul hG0
    have : D * 4294967296 * G = 4294967296 * 4294967296 := by rw [Int.mul_assoc, Int.mul_comm 4294967296 G, ← Int.mul_assoc, hDG]
    omega
  obtain ⟨u1, hu1⟩ : ∃ u1, u1 = m0 * D := ⟨_, rfl⟩
  have u1a : 0 ≤ u1 := by rw [hu1]; exact Int.mul_nonneg m0a (Int.le_of_lt hD0)
  have u1b : u1 < 4294967296 := by
    have := Int.mul_lt_mul_of_pos_right m0b hD0
    rw [← hu1, Int.mul_comm G D, hDG] at this; exact this
  have hloD : lo * D = m1 * 4294967296 + u1 := by
    rw [← hlo, Int.add_mul, ← hu1, Int.mul_comm G m1, Int.mul_assoc, Int.mul_comm G D, hDG]
  obtain ⟨U, hU⟩ : ∃ U, U = hd * 4294967296 + m1 := ⟨_, rfl⟩
  obtain ⟨q1, hq1⟩ : ∃ q1, q1 = U / y1 := ⟨_, rfl⟩
  obtain ⟨r1, hr1⟩ : ∃ r1, r1 = U % y1 := ⟨_, rfl⟩
  have hy1p : 0 < y1 := by omega
  have hqr1 : y1 * q1 + r1 = U := by rw [hq1, hr1]; exact Int.mul_ediv_add_emod U y1
  have r1a : 0 ≤ r1 := by rw [hr1]; exact Int.emod_nonneg _ (by omega)
  have r1b : r1 < y1 := by rw [hr1]; exact Int.emod_lt_of_pos _ hy1p
  have q1a : 0 ≤ q1 := by rw [hq1]; exact Int.ediv_nonneg (by omega) (Int.le_of_lt hy1p)
  have q1b : q1 < 4294967296 := by rw [hq1]; apply Int.ediv_lt_of_lt_mul hy1p; omega
  obtain ⟨T, hT⟩ : ∃ T, T = r1 * 4294967296 + u1 := ⟨_, rfl⟩
  obtain ⟨q0, hq0⟩ : ∃ q0, q0 = T / y1 := ⟨_, rfl⟩
  obtain ⟨r0, hr0⟩ : ∃ r0, r0 = T % y1 := ⟨_, rfl⟩
  have hqr0 : y1 * q0 + r0 = T := by rw [hq0, hr0]; exact Int.mul_ediv_add_emod T y1
  have r0a : 0 ≤ r0 := by rw [hr0]; exact Int.emod_nonneg _ (by omega)
  have r0b : r0 < y1 := by rw [hr0]; exact Int.emod_lt_of_pos _ hy1p
  have q0a : 0 ≤ q0 := by rw [hq0]; exact Int.ediv_nonneg (by omega) (Int.le_of_lt hy1p)
  have q0b : q0 < 4294967296 := by rw [hq0]; apply Int.ediv_lt_of_lt_mul hy1p; omega
  obtain ⟨Q, hQ⟩ : ∃ Q, Q = q1 * 4294967296 + q0 := ⟨_, rfl⟩
  obtain ⟨N, hN⟩ : ∃ N, N = hi * 18446744073709551616 + lo := ⟨_, rfl⟩
  have hND : N * D = Q * y1 + r0 := by
    have a1 : N * D = hd * 18446744073709551616 + (m1 * 4294967296 + u1) := by
      rw [hN, Int.add_mul, hloD, hhd, Int.mul_right_comm]
    have a2 : Q * y1 = y1 * q1 * 4294967296 + y1 * q0 := by
      rw [hQ, Int.add_mul, Int.mul_right_comm, Int.mul_comm q1 y1, Int.mul_comm q0 y1]
    generalize y1 * q1 = z1 at *
    generalize y1 * q0 = z0 at *
    omega
  have hr0D : r0 = (N - Q * y) * D := by
    have : Q * y1 = Q * y * D := by rw [hy1, Int.mul_assoc]
    rw [Int.sub_mul, ← this]; omega
  have hV : r0 / D = N - Q * y := by rw [hr0D]; exact Int.mul_ediv_cancel _ (by omega)
  have hVa : 0 ≤ N - Q * y := by rw [← hV]; exact Int.ediv_nonneg r0a (Int.le_of_lt hD0)
  have hVb : N - Q * y < y := by rw [← hV]; apply Int.ediv_lt_of_lt_mul hD0; rw [← hy1]; exact r0b
  have hNq : N / y = Q := by
    have : N = (N - Q * y) + Q * y := by omega
    rw [this, Int.add_mul_ediv_right _ _ (by omega), Int.ediv_eq_zero_of_lt hVa hVb]; omega
  have hNr : N % y = N - Q * y := by
    have := Int.mul_ediv_add_emod N y
    rw [hNq, Int.mul_comm] at this; omega
  rw [← hN, hNq, hNr]
  have yp : y * (D * 4294967296) = y1 * 4294967296 := by rw [← Int.mul_assoc, ← hy1]
  have hip : hi * (D * 4294967296) = hd * 4294967296 := by rw [← Int.mul_assoc, ← hhd]
  have lop : lo * (D * 4294967296) = m1 * 18446744073709551616 + u1 * 4294967296 := by rw [← Int.mul_assoc, hloD, Int.add_mul, Int.mul_assoc]; omega
  have hor : bits .or .u64 (hd * 4294967296) m1 = U := by
    have h := or_add hi m1 (D * 4294967296) (k + 32) hDp g0 m1a m1b (by rw [hip]; omega)
    rw [hip] at h; rw [h, hU]
  have b1 : y1 * q1 ≤ U := by omega
  have b1' : 0 ≤ y1 * q1 := Int.mul_nonneg (Int.le_of_lt hy1p) q1a
  have b0 : 0 ≤ y1 * q0 := Int.mul_nonneg (Int.le_of_lt hy1p) q0a
  have eY1 : q1 * (y1 * 4294967296) = y1 * q1 * 4294967296 := by rw [← Int.mul_assoc, Int.mul_comm q1 y1]
  have eY0 : q0 * (y1 * 4294967296) = y1 * q0 * 4294967296 := by rw [← Int.mul_assoc, Int.mul_comm q0 y1]
  have hfin : r0 * 4294967296 / (D * 4294967296) = N - Q * y := by rw [Int.mul_ediv_mul_of_pos_left _ _ (by decide), hV]
  have hb1 : Int.emod 0 4294967296 = 0 := rfl
  refine div_gen hi lo y s (D * 4294967296) G (y1 * 4294967296) y1 (hd * 4294967296) U (u1 * 4294967296) u1 q1 (y1 * q1) r1 (r1 * 4294967296) T
    (IntKind.u64.wrap (U * 4294967296)) (IntKind.u64.wrap (IntKind.u64.wrap (U * 4294967296) + u1)) (IntKind.u64.wrap (q1 * (y1 * 4294967296))) T q0 (y1 * q0) r0 (r0 * 4294967296) (r0 * 4294967296) (q1 * 4294967296) Q
    (IntKind.u64.wrap (T * 4294967296)) (IntKind.u64.wrap (q0 * (y1 * 4294967296))) (r0 * 4294967296) (N - Q * y) w (by omega) (by omega) h4 lz hs hs1 hp hG ?_ ?_ ?_ ?_ ?_ ?_ ?_ ?_ ?_ ?_ ?_ ?_ ?_ ?_ ?_ ?_ rfl rfl rfl ?_ ?_ ?_ ?_ ?_ ?_ ?_ ?_ ?_ ?_ rfl ?_ rfl ?_ hfin ?_ ?_ ?_
  · rw [yp, IntKind.wrap_u64]; omega
  · omega
  · rw [and_mask _ (by omega) (by omega)]; omega
  · rw [hip, IntKind.wrap_u64]; omega
  · rw [← hm1]; exact hor
  · rw [lop, IntKind.wrap_u64]; omega
  · omega
  · rw [and_mask _ (by omega) (by omega)]; omega
  · omega
  · rw [Int.tdiv_eq_ediv_of_nonneg (by omega)]; exact hq1.symm
  · rw [Int.mul_comm q1 y1, IntKind.wrap_u64]; omega
  · rw [IntKind.wrap_u64]; omega
  · omega
  · rw [IntKind.wrap_u64]; omega
  · rw [IntKind.wrap_u64]; omega
  · omega
  · rw [eY1]; simp only [IntKind.wrap_u64]; generalize y1 * q1 = z1 at *; omega
  · rw [Int.tdiv_eq_ediv_of_nonneg (by omega)]; exact hq0.symm
  · rw [Int.mul_comm q0 y1, IntKind.wrap_u64]; omega
  · rw [IntKind.wrap_u64]; omega
  · omega
  · rw [IntKind.wrap_u64]; omega
  · rw [IntKind.wrap_u64]; omega
  · omega
  · rw [IntKind.wrap_u64]; omega
  · rw [IntKind.wrap_u64]; omega
  · simp only [IntKind.wrap_u64]; omega
  · rw [eY0]; simp only [IntKind.wrap_u64]; generalize y1 * q0 = z0 at *; omega
  · decide
  · rw [IntKind.wrap_u64]; omega
  · rw [IntKind.wrap_u64]; omega
end Go.Proofs.YtpbgaoodokapeaaDoor
