/- What bits.Div64 does by any divisor below 2^30, and money's 'over'. -/
import Derived.Test.YtpbgaoodokapeaaDoorSA
import Derived.Test.YtpbgaoodokapeaaDoorLZ
import Derived.Lib.ItoaNum
open Go Go.RowKit
namespace Go.Proofs.YtpbgaoodokapeaaDoor
set_option linter.unusedVariables false
set_option linter.unusedSimpArgs false
set_option maxRecDepth 4000
theorem div_zero (lo y : Int) (w : World) (h2 : 0 ≤ lo) (hy : 0 < y) (q r : Int) (d1 : lo.tdiv y = q) (d2 : lo.tmod y = r) (wq : IntKind.u64.wrap q = q) : Calls Tryd.prog 40 #[.int .u64 0, .int .u64 lo, .int .u64 y] w fun e w' => e = .returned (.tuple #[.int .u64 q, .int .u64 r]) ∧ Below w.heap.size w w' := by
  have hy0 : ¬ y = 0 := by omega
  have hy1 : ¬ y ≤ 0 := by omega
  go_enter Tryd.func40, Tryd.ntmps40
  go_wp2
  go_region
  all_goals (try go_wp2)
  all_goals go_ret2
  all_goals exact ⟨rfl, by repeat (first | exact Below.refl _ _ | apply Below.drew)⟩
theorem pow_split (L : Nat) (h1 : L ≤ 30) : ((2 ^ (32 - L) : Nat) : Int) * ((2 ^ L : Nat) : Int) = 4294967296 := by
  rw [← Int.natCast_mul, ← Nat.pow_add, Nat.sub_add_cancel (by omega)]; rfl
theorem div_any2 (hi lo y : Int) (w : World) (g0 : 0 ≤ hi) (g1 : hi < y) (l0 : 0 ≤ lo) (l1 : lo < 18446744073709551616) (hy : y < 1073741824) :
    Calls Tryd.prog 40 #[.int .u64 hi, .int .u64 lo, .int .u64 y] w fun e w' => e = .returned (.tuple #[.int .u64 ((hi * 18446744073709551616 + lo) / y), .int .u64 ((hi * 18446744073709551616 + lo) % y)]) ∧ Below w.heap.size w w' := by
  by_cases h4 : hi = 0
  · subst h4
    rw [Int.zero_mul, Int.zero_add]
    have hb : 0 ≤ lo / y := Int.ediv_nonneg l0 (by omega)
    have hb2 : lo / y ≤ lo := Int.ediv_le_self _ l0
    exact div_zero lo y w l0 (by omega) _ _ (Int.tdiv_eq_ediv_of_nonneg l0) (Int.tmod_eq_emod_of_nonneg l0) (by rw [IntKind.wrap_u64]; omega)
  · obtain ⟨b1, b2, b3⟩ := Lib.bitLenAux_bounds 64 y.toNat (by omega) (by omega)
    have b4 : Lib.bitLenAux 64 y.toNat ≤ 30 := Lib.bitLenAux_le 64 y.toNat 30 (by omega)
    have lz := fun w => Tryd.bits_LeadingZeros64 y w (by omega) (by omega)
    unfold Lib.bitLen at lz
    obtain ⟨L, hL⟩ : ∃ L, L = Lib.bitLenAux 64 y.toNat := ⟨_, rfl⟩
    rw [← hL] at b1 b2 b3 b4 lz
    have e1 : (64 - (L : Int)).toNat = (32 - L) + 32 := by omega
    have e2 : (64 - (64 - (L : Int))).toNat = L := by omega
    have hyL : y < ((2 ^ L : Nat) : Int) := by
      have h : (y.toNat : Int) < ((2 ^ L : Nat) : Int) := by exact_mod_cast b3
      omega
    refine (div_full hi lo y (64 - (L : Int)) ((2 ^ (32 - L) : Nat) : Int) ((2 ^ L : Nat) : Int) w g0 g1 l0 l1 h4 (32 - L) rfl (by exact_mod_cast Nat.two_pow_pos L) (pow_split L b4) hyL lz (by omega) (by omega) ?_ ?_).mono ?_
    · rw [e1, Int.pow_add]; rw [Int.natCast_pow]; rfl
    · rw [e2, Int.natCast_pow]; rfl
    · rintro e w' ⟨rfl, rfl⟩; exact ⟨rfl, Below.refl _ _⟩
theorem over_walk (x b c h l q r : Int) (w : World) (wx : IntKind.u64.wrap x = x) (wb : IntKind.u64.wrap b = b) (wc : IntKind.u64.wrap c = c)
    (KM : ∀ w, Calls Tryd.prog 35 #[.int .u64 x, .int .u64 b] w fun e w' => e = .returned (.tuple #[.int .u64 h, .int .u64 l]) ∧ Below w.heap.size w w')
    (KD : ∀ w, Calls Tryd.prog 40 #[.int .u64 h, .int .u64 l, .int .u64 c] w fun e w' => e = .returned (.tuple #[.int .u64 q, .int .u64 r]) ∧ Below w.heap.size w w')
    (wq : wrap64 q = q) (wr : wrap64 r = r) :
    Calls Tryd.prog 30 #[.int .i64 x, .int .i64 b, .int .i64 c] w fun e w' => e = .returned (.tuple #[.int .i64 q, .int .i64 r]) ∧ Below w.heap.size w w' := by
  go_enter Tryd.func30, Tryd.ntmps30
  go_wp2_with (first
    | (go_at_call 35; with_reducible refine (KM _).mono ?_; rintro e w1 ⟨rfl, hb⟩)
    | (go_at_call 40; with_reducible refine (KD _).mono ?_; rintro e w2 ⟨rfl, hb2⟩))
  all_goals go_ret2
  all_goals exact ⟨by first | rfl | (rw [wq, wr]; rfl), Below.thenB hb hb2⟩
theorem over_any (x b c : Int) (w : World) (h0 : 0 ≤ x) (h1 : x ≤ 1000000000000000) (b0 : 0 ≤ b) (b1 : b ≤ 1000000) (c0 : 0 < c) (bc : b ≤ c) (c1 : c < 1073741824) :
    Calls Tryd.prog 30 #[.int .i64 x, .int .i64 b, .int .i64 c] w fun e w' => e = .returned (.tuple #[.int .i64 (x * b / c), .int .i64 (x * b % c)]) ∧ Below w.heap.size w w' := by
  have p0 : 0 ≤ x * b := Int.mul_nonneg h0 b0
  have p1 : x * b ≤ 1000000000000000 * c := Int.mul_le_mul h1 bc b0 (by decide)
  have p2 : x * b ≤ 1000000000000000 * 1000000 := Int.mul_le_mul h1 b1 b0 (by decide)
  have q1 : x * b / c ≤ 1000000000000000 := Int.ediv_le_of_le_mul c0 p1
  have q0 : 0 ≤ x * b / c := Int.ediv_nonneg p0 (Int.le_of_lt c0)
  have r0 : 0 ≤ x * b % c := Int.emod_nonneg _ (by omega)
  have r1 : x * b % c < c := Int.emod_lt_of_pos _ c0
  have KD := fun w => div_any2 (x * b / 18446744073709551616) (x * b % 18446744073709551616) c w (by omega) (by omega) (by omega) (by omega) c1
  rw [show x * b / 18446744073709551616 * 18446744073709551616 + x * b % 18446744073709551616 = x * b by omega] at KD
  exact over_walk x b c _ _ _ _ w (by rw [IntKind.wrap_u64]; omega) (by rw [IntKind.wrap_u64]; omega) (by rw [IntKind.wrap_u64]; omega) (fun w => mul_any x b h0 (by omega) b0 (by omega) w) KD (wrap_ok _ (by omega) (by omega)) (wrap_ok _ (by omega) (by omega))
end Go.Proofs.YtpbgaoodokapeaaDoor
