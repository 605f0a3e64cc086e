/- Walks of bits.Mul64, bits.Div64 (by 10000), and of money's over, is, isRate and Part, their tests decided. -/
import Derived.Test.YtpbgaoodokapeaaDoorPA
import Derived.Test.YtpbgaoodokapeaaDoorCards
import Derived.Test.YtpbgaoodokapeaaDoorTie
import Derived.WalkKit
import Derived.WalkSmall
import Derived.ProofKit
open Go Go.RowKit Go.Proofs.YtpbgaoodokapeaaDoor.Vai
namespace Go.Proofs.YtpbgaoodokapeaaDoor
set_option linter.unusedVariables false
set_option linter.unusedSimpArgs false
theorem and_mask (E : Int) (h0 : 0 ≤ E) (h1 : E < 18446744073709551616) : bits .and .u64 E 4294967295 = E % 4294967296 := by
  have h := bits_and_u64_nat E.toNat 4294967295 (by omega) (by omega)
  rw [show (4294967295 : Nat) = 2 ^ 32 - 1 by decide, Nat.and_two_pow_sub_one_eq_mod, Int.toNat_of_nonneg h0] at h
  have h2 : ((E.toNat % 2 ^ 32 : Nat) : Int) = E % 4294967296 := by omega
  exact h.trans h2
set_option maxRecDepth 100000 in
theorem lz10000 (w : World) : Calls Tryd.prog 51 #[.int .u64 10000] w fun e w' => e = .returned (.int .i64 50) ∧ Below w.heap.size w w' :=
  calls_of_run tb0_ok mixed (rel0 w) (L := 1000) (d := 100) (args := [.int .u64 10000]) (cargs := [.int .u64 10000]) (vrl_plain _ _ rfl) rfl (by kernel_rfl)
theorem or_nat (a b : Nat) (k : Nat) (hb : b < 2 ^ k) (h1 : a * 2 ^ k + b < 18446744073709551616) : bits .or .u64 ((a * 2 ^ k : Nat) : Int) (b : Int) = ((a * 2 ^ k + b : Nat) : Int) := by
  have h := bits_or_u64_nat (a * 2 ^ k) b (by omega) (by omega)
  rw [h]
  congr 1
  rw [← Nat.shiftLeft_eq, Nat.shiftLeft_add_eq_or_of_lt hb]
theorem or_add (a b p : Int) (k : Nat) (hp : p = ((2 ^ k : Nat) : Int)) (ha : 0 ≤ a) (hb0 : 0 ≤ b) (hb : b < p) (h1 : a * p + b < 18446744073709551616) : bits .or .u64 (a * p) b = a * p + b := by
  obtain ⟨a, rfl⟩ := Int.eq_ofNat_of_zero_le ha
  obtain ⟨b, rfl⟩ := Int.eq_ofNat_of_zero_le hb0
  subst hp
  have e1 : ((a : Int) * ((2 ^ k : Nat) : Int)) = ((a * 2 ^ k : Nat) : Int) := (Int.natCast_mul _ _).symm
  rw [e1] at h1 ⊢
  rw [or_nat a b k (Int.ofNat_lt.1 hb) (by omega)]
  exact Int.natCast_add _ _
theorem div_plain (hi lo U L N : Int) (h0 : 0 ≤ hi) (h1 : hi < 10000) (h2 : 0 ≤ lo) (h3 : lo < 18446744073709551616) (hU : U = hi * 1125899906842624 + lo / 16384) (hL : L = lo * 1125899906842624 % 18446744073709551616)
    (hN : N = U % 2621440000 * 4294967296 + L / 4294967296) :
    U / 2621440000 * 4294967296 + N / 2621440000 = (hi * 18446744073709551616 + lo) / 10000 ∧ (N % 2621440000 * 4294967296 + L % 4294967296) / 1125899906842624 = (hi * 18446744073709551616 + lo) % 10000 := by
  have e1 : L = lo % 16384 * 1125899906842624 := by omega
  have e2 : U * 18446744073709551616 + L = (hi * 18446744073709551616 + lo) * 1125899906842624 := by omega
  constructor <;> omega
set_option maxHeartbeats 2000000 in
theorem div_walk (hi lo : Int) (w : World) (h0 : 0 ≤ hi) (h1 : hi < 10000) (h2 : 0 ≤ lo) (h3 : lo < 18446744073709551616) (h4 : ¬ hi = 0) : Calls Tryd.prog 40 #[.int .u64 hi, .int .u64 lo, .int .u64 10000] w fun e w' => e = .returned (.tuple #[.int .u64 ((hi * 18446744073709551616 + lo) / 10000), .int .u64 ((hi * 18446744073709551616 + lo) % 10000)]) ∧ Below w.heap.size w w' := by
  have lz : ∀ w : World, Calls Tryd.prog 51 #[.int .u64 10000] w fun e w' => e = .returned (.int .i64 50) ∧ Below w.heap.size w w' := lz10000
  obtain ⟨U, hUd⟩ : ∃ U, U = hi * 1125899906842624 + lo / 16384 := ⟨_, rfl⟩
  obtain ⟨L, hLd⟩ : ∃ L, L = lo * 1125899906842624 % 18446744073709551616 := ⟨_, rfl⟩
  obtain ⟨N, hNd⟩ : ∃ N, N = U % 2621440000 * 4294967296 + L / 4294967296 := ⟨_, rfl⟩
  have hU : bits .or .u64 (hi * 1125899906842624) (lo / 16384) = U := by
    rw [hUd]
    exact or_add hi (lo / 16384) 1125899906842624 50 (by decide) h0 (by omega) (by omega) (by omega)
  have hz : bits .and .u64 11258999068426240000 4294967295 = 0 := by rw [and_mask _ (by decide) (by decide)]; rfl
  have hL : IntKind.u64.wrap (lo * 1125899906842624) = L := by rw [hLd, IntKind.wrap_u64]
  have hm : bits .and .u64 L 4294967295 = L % 4294967296 := and_mask L (by omega) (by omega)
  have hd : U.tdiv 2621440000 = U / 2621440000 := Int.tdiv_eq_ediv_of_nonneg (by omega)
  have hN : IntKind.u64.wrap (IntKind.u64.wrap (IntKind.u64.wrap (U * 4294967296) + L / 4294967296) - IntKind.u64.wrap (U / 2621440000 * 11258999068426240000)) = N := by
    simp only [IntKind.wrap_u64]; omega
  have hNt : N.tdiv 2621440000 = N / 2621440000 := Int.tdiv_eq_ediv_of_nonneg (by omega)
  have hR : IntKind.u64.wrap (IntKind.u64.wrap (IntKind.u64.wrap (N * 4294967296) + L % 4294967296) - IntKind.u64.wrap (N / 2621440000 * 11258999068426240000)) = N % 2621440000 * 4294967296 + L % 4294967296 := by
    simp only [IntKind.wrap_u64]; omega
  obtain ⟨p1, p2⟩ := div_plain hi lo U L N h0 h1 h2 h3 hUd hLd hNd
  have b1 : 0 ≤ U ∧ U < 11258999068426240000 := by omega
  have b2 : 0 ≤ L ∧ L < 18446744073709551616 := by omega
  have b3 : 0 ≤ N ∧ N < 11258999068426240000 := by omega
  obtain ⟨b10, b11⟩ := b1
  obtain ⟨b20, b21⟩ := b2
  obtain ⟨b30, b31⟩ := b3
  clear hUd hLd hNd
  go_enter Tryd.func40, Tryd.ntmps40
  go_wp2_with (first
    | (go_at_call 51; refine (lz _).mono ?_; rintro e w1 ⟨rfl, hb⟩)
    | (refine wp_loop_rounds 1 ?_; rw [rounds_succ]))
  all_goals go_ret2
  all_goals exact ⟨rfl, hb⟩
theorem div_any (hi lo : Int) (w : World) (h0 : 0 ≤ hi) (h1 : hi < 10000) (h2 : 0 ≤ lo) (h3 : lo < 18446744073709551616) : Calls Tryd.prog 40 #[.int .u64 hi, .int .u64 lo, .int .u64 10000] w fun e w' => e = .returned (.tuple #[.int .u64 ((hi * 18446744073709551616 + lo) / 10000), .int .u64 ((hi * 18446744073709551616 + lo) % 10000)]) ∧ Below w.heap.size w w' := by
  by_cases h4 : hi = 0
  · subst h4
    have d1 : lo.tdiv 10000 = lo / 10000 := Int.tdiv_eq_ediv_of_nonneg h2
    have d2 : lo.tmod 10000 = lo % 10000 := Int.tmod_eq_emod_of_nonneg h2
    go_enter Tryd.func40, Tryd.ntmps40
    go_wp2
    go_region
    all_goals (try go_wp2)
    all_goals go_ret2
    all_goals exact ⟨by rw [show (0 : Int) * 18446744073709551616 + lo = lo by omega]; rfl, by repeat (first | exact Below.refl _ _ | apply Below.drew)⟩
  · exact div_walk hi lo w h0 h1 h2 h3 h4
set_option maxHeartbeats 2000000 in
theorem mul_any (x y : Int) (h0 : 0 ≤ x) (h1 : x < 1125899906842624) (h2 : 0 ≤ y) (h3 : y < 1048576) (w : World) :
    Calls Tryd.prog 35 #[.int .u64 x, .int .u64 y] w fun e w' => e = .returned (.tuple #[.int .u64 (x * y / 18446744073709551616), .int .u64 (x * y % 18446744073709551616)]) ∧ Below w.heap.size w w' := by
  obtain ⟨X1, hX1⟩ : ∃ X1, X1 = x / 4294967296 := ⟨_, rfl⟩
  obtain ⟨X0, hX0⟩ : ∃ X0, X0 = x % 4294967296 := ⟨_, rfl⟩
  have a0 : 0 ≤ X0 ∧ X0 < 4294967296 := by omega
  have a1 : 0 ≤ X1 ∧ X1 < 262144 := by omega
  obtain ⟨A, hA⟩ : ∃ A, A = X0 * y := ⟨_, rfl⟩
  obtain ⟨B, hB⟩ : ∃ B, B = X1 * y := ⟨_, rfl⟩
  have hA0 : 0 ≤ A := by rw [hA]; exact Int.mul_nonneg a0.1 h2
  have hB0 : 0 ≤ B := by rw [hB]; exact Int.mul_nonneg a1.1 h2
  have hA1 : A ≤ 4294967296 * 1048576 := by rw [hA]; exact Int.mul_le_mul (by omega) (by omega) h2 (by decide)
  have hB1 : B ≤ 262144 * 1048576 := by rw [hB]; exact Int.mul_le_mul (by omega) (by omega) h2 (by decide)
  have hxy : x * y = B * 4294967296 + A := by
    have : x = X1 * 4294967296 + X0 := by omega
    rw [this, Int.add_mul, hA, hB, Int.mul_assoc, Int.mul_assoc, Int.mul_comm 4294967296 y]
  have hq1 : x / 4294967296 = X1 := hX1.symm
  have hq2 : y / 4294967296 = 0 := by omega
  have hm1 : bits .and .u64 x 4294967295 = X0 := by rw [and_mask x h0 (by omega), hX0]
  have hm2 : bits .and .u64 y 4294967295 = y := by rw [and_mask y h2 (by omega)]; omega
  have hA' : X0 * y = A := hA.symm
  have hB' : X1 * y = B := hB.symm
  have hT : bits .and .u64 (B + A / 4294967296) 4294967295 = (B + A / 4294967296) % 4294967296 := and_mask _ (by omega) (by omega)
  rw [hxy]
  clear hX1 hX0 hA hB
  go_enter Tryd.func35, Tryd.ntmps35
  go_wp2
  all_goals go_ret2
  have q1 : (B + A / 4294967296) / 4294967296 + (B + A / 4294967296) % 4294967296 / 4294967296 = (B * 4294967296 + A) / 18446744073709551616 := by omega
  have q2 : IntKind.u64.wrap (B * 4294967296 + A) = (B * 4294967296 + A) % 18446744073709551616 := IntKind.wrap_u64 _
  refine ⟨?_, by first | exact Below.refl _ _ | (repeat (first | exact Below.refl _ _ | apply Below.drew))⟩
  rw [← q1, ← q2]
  rfl
theorem over_part (x y : Int) (h0 : 0 ≤ x) (h1 : x < 1125899906842624) (h2 : 0 ≤ y) (h3 : y < 1048576) (w : World)
    (hdiv : ∀ hi lo w, 0 ≤ hi → hi < 10000 → 0 ≤ lo → lo < 18446744073709551616 → Calls Tryd.prog 40 #[.int .u64 hi, .int .u64 lo, .int .u64 10000] w fun e w' => e = .returned (.tuple #[.int .u64 ((hi * 18446744073709551616 + lo) / 10000), .int .u64 ((hi * 18446744073709551616 + lo) % 10000)]) ∧ Below w.heap.size w w') :
    Calls Tryd.prog 30 #[.int .i64 x, .int .i64 y, .int .i64 10000] w fun e w' => e = .returned (.tuple #[.int .i64 (x * y / 10000), .int .i64 (x * y % 10000)]) ∧ Below w.heap.size w w' := by
  have hx : IntKind.u64.wrap x = x := by simp only [IntKind.wrap_u64]; omega
  have hy : IntKind.u64.wrap y = y := by simp only [IntKind.wrap_u64]; omega
  have p0 : 0 ≤ x * y := Int.mul_nonneg h0 h2
  have p1 : x * y ≤ 1125899906842624 * 1048576 := Int.mul_le_mul (by omega) (by omega) h2 (by decide)
  go_enter Tryd.func30, Tryd.ntmps30
  go_wp2_with (first
    | (go_at_call 35; refine (mul_any x y h0 h1 h2 h3 _).mono ?_; rintro e w1 ⟨rfl, hb⟩)
    | (go_at_call 40; refine (hdiv _ _ _ (by omega) (by omega) (by omega) (by omega)).mono ?_; rintro e w2 ⟨rfl, hb2⟩))
  all_goals go_ret2
  have e1 : x * y / 18446744073709551616 * 18446744073709551616 + x * y % 18446744073709551616 = x * y := by omega
  refine ⟨?_, (hb.trans (hb2.mono hb.size))⟩
  simp only [e1]
  rfl
theorem is_any (a : Int) (t : Bool) (h : decide (-1000000000000000 ≤ a ∧ a ≤ 1000000000000000) = t) (w : World) : Calls Tryd.prog 27 #[.int .i64 a] w fun e w' => e = .returned (.bool t) ∧ Below w.heap.size w w' := by
  subst h
  by_cases h1 : -1000000000000000 ≤ a
  · by_cases h2 : a ≤ 1000000000000000
    · go_enter Tryd.func27, Tryd.ntmps27
      go_wp2
      all_goals go_ret
      all_goals exact ⟨by simp [h1, h2], Below.refl _ _⟩
    · go_enter Tryd.func27, Tryd.ntmps27
      go_wp2
      all_goals go_ret
      all_goals exact ⟨by simp [h1]; omega, Below.refl _ _⟩
  · go_enter Tryd.func27, Tryd.ntmps27
    go_wp2
    all_goals go_ret
    all_goals exact ⟨by simp; omega, Below.refl _ _⟩
theorem isRate_any (a : Int) (t : Bool) (h : decide (0 ≤ a ∧ a ≤ 1000000) = t) (w : World) : Calls Tryd.prog 29 #[.int .i64 a] w fun e w' => e = .returned (.bool t) ∧ Below w.heap.size w w' := by
  subst h
  by_cases h1 : 0 ≤ a
  · by_cases h2 : a ≤ 1000000
    · go_enter Tryd.func29, Tryd.ntmps29
      go_wp2
      all_goals go_ret
      all_goals exact ⟨by simp [h1, h2], Below.refl _ _⟩
    · go_enter Tryd.func29, Tryd.ntmps29
      go_wp2
      all_goals go_ret
      all_goals exact ⟨by simp [h1]; omega, Below.refl _ _⟩
  · go_enter Tryd.func29, Tryd.ntmps29
    go_wp2
    all_goals go_ret
    all_goals exact ⟨by simp; omega, Below.refl _ _⟩
theorem is_yes (a : Int) (h0 : -1000000000000000 ≤ a) (h1 : a ≤ 1000000000000000) (w : World) : Calls Tryd.prog 27 #[.int .i64 a] w fun e w' => e = .returned (.bool true) ∧ Below w.heap.size w w' := is_any a true (decide_eq_true ⟨h0, h1⟩) w
theorem is_no (a : Int) (h : ¬ (-1000000000000000 ≤ a ∧ a ≤ 1000000000000000)) (w : World) : Calls Tryd.prog 27 #[.int .i64 a] w fun e w' => e = .returned (.bool false) ∧ Below w.heap.size w w' := is_any a false (decide_eq_false h) w
theorem isRate_yes (a : Int) (h0 : 0 ≤ a) (h1 : a ≤ 1000000) (w : World) : Calls Tryd.prog 29 #[.int .i64 a] w fun e w' => e = .returned (.bool true) ∧ Below w.heap.size w w' := isRate_any a true (decide_eq_true ⟨h0, h1⟩) w
theorem isRate_no (a : Int) (h : ¬ (0 ≤ a ∧ a ≤ 1000000)) (w : World) : Calls Tryd.prog 29 #[.int .i64 a] w fun e w' => e = .returned (.bool false) ∧ Below w.heap.size w w' := isRate_any a false (decide_eq_false h) w
theorem Below.thenB {a b c : World} (h : Below a.heap.size a b) (k : Below b.heap.size b c) : Below a.heap.size a c := h.trans (k.mono h.size)
theorem part_000 (a r x q m s : Int) (w : World) (ha : 0 ≤ a) (hn : wrap64 (-a) ≤ a) (K27 : ∀ w, Calls Tryd.prog 27 #[.int .i64 a] w fun e w' => e = .returned (.bool true) ∧ Below w.heap.size w w') (K29 : ∀ w, Calls Tryd.prog 29 #[.int .i64 r] w fun e w' => e = .returned (.bool true) ∧ Below w.heap.size w w') (K30 : ∀ w, Calls Tryd.prog 30 #[.int .i64 a, .int .i64 r, .int .i64 10000] w fun e w' => e = .returned (.tuple #[.int .i64 q, .int .i64 m]) ∧ Below w.heap.size w w') (m2 : wrap64 (2 * m) = 2 * m) (hm : 2 * m < 10000) (Kn : ∀ w, Calls Tryd.prog 27 #[.int .i64 q] w fun e w' => e = .returned (.bool false) ∧ Below w.heap.size w w') :
    Calls Tryd.prog 17 #[.int .i64 a, .int .i64 r] w fun e w' => e = .returned (.tuple #[.int .i64 0, .int .i64 1]) ∧ Below w.heap.size w w' := by
  go_enter Tryd.func17, Tryd.ntmps17
  go_wp2_with (first
    | (go_at_call 27; with_reducible refine (K27 _).mono ?_; rintro e w1 ⟨rfl, hb1⟩)
    | (go_at_call 29; with_reducible refine (K29 _).mono ?_; rintro e w2 ⟨rfl, hb2⟩)
    | (go_at_call 30; with_reducible refine (K30 _).mono ?_; rintro e w3 ⟨rfl, hb3⟩)
    | (go_at_call 27; with_reducible refine (Kn _).mono ?_; rintro e w4 ⟨rfl, hb4⟩))
  all_goals go_ret2
  all_goals exact ⟨rfl, Below.thenB (Below.thenB (Below.thenB hb1 hb2) hb3) hb4⟩
theorem part_001 (a r x q m s : Int) (w : World) (ha : 0 ≤ a) (hn : wrap64 (-a) ≤ a) (K27 : ∀ w, Calls Tryd.prog 27 #[.int .i64 a] w fun e w' => e = .returned (.bool true) ∧ Below w.heap.size w w') (K29 : ∀ w, Calls Tryd.prog 29 #[.int .i64 r] w fun e w' => e = .returned (.bool true) ∧ Below w.heap.size w w') (K30 : ∀ w, Calls Tryd.prog 30 #[.int .i64 a, .int .i64 r, .int .i64 10000] w fun e w' => e = .returned (.tuple #[.int .i64 q, .int .i64 m]) ∧ Below w.heap.size w w') (m2 : wrap64 (2 * m) = 2 * m) (hm : 2 * m < 10000) (Kn : ∀ w, Calls Tryd.prog 27 #[.int .i64 q] w fun e w' => e = .returned (.bool true) ∧ Below w.heap.size w w') :
    Calls Tryd.prog 17 #[.int .i64 a, .int .i64 r] w fun e w' => e = .returned (.tuple #[.int .i64 q, .int .i64 0]) ∧ Below w.heap.size w w' := by
  go_enter Tryd.func17, Tryd.ntmps17
  go_wp2_with (first
    | (go_at_call 27; with_reducible refine (K27 _).mono ?_; rintro e w1 ⟨rfl, hb1⟩)
    | (go_at_call 29; with_reducible refine (K29 _).mono ?_; rintro e w2 ⟨rfl, hb2⟩)
    | (go_at_call 30; with_reducible refine (K30 _).mono ?_; rintro e w3 ⟨rfl, hb3⟩)
    | (go_at_call 27; with_reducible refine (Kn _).mono ?_; rintro e w4 ⟨rfl, hb4⟩))
  all_goals go_ret2
  all_goals exact ⟨rfl, Below.thenB (Below.thenB (Below.thenB hb1 hb2) hb3) hb4⟩
theorem part_010 (a r x q m s : Int) (w : World) (ha : 0 ≤ a) (hn : wrap64 (-a) ≤ a) (K27 : ∀ w, Calls Tryd.prog 27 #[.int .i64 a] w fun e w' => e = .returned (.bool true) ∧ Below w.heap.size w w') (K29 : ∀ w, Calls Tryd.prog 29 #[.int .i64 r] w fun e w' => e = .returned (.bool true) ∧ Below w.heap.size w w') (K30 : ∀ w, Calls Tryd.prog 30 #[.int .i64 a, .int .i64 r, .int .i64 10000] w fun e w' => e = .returned (.tuple #[.int .i64 q, .int .i64 m]) ∧ Below w.heap.size w w') (m2 : wrap64 (2 * m) = 2 * m) (hm : 10000 ≤ 2 * m) (q1 : wrap64 (q + 1) = q + 1) (Kn : ∀ w, Calls Tryd.prog 27 #[.int .i64 (q + 1)] w fun e w' => e = .returned (.bool false) ∧ Below w.heap.size w w') :
    Calls Tryd.prog 17 #[.int .i64 a, .int .i64 r] w fun e w' => e = .returned (.tuple #[.int .i64 0, .int .i64 1]) ∧ Below w.heap.size w w' := by
  go_enter Tryd.func17, Tryd.ntmps17
  go_wp2_with (first
    | (go_at_call 27; with_reducible refine (K27 _).mono ?_; rintro e w1 ⟨rfl, hb1⟩)
    | (go_at_call 29; with_reducible refine (K29 _).mono ?_; rintro e w2 ⟨rfl, hb2⟩)
    | (go_at_call 30; with_reducible refine (K30 _).mono ?_; rintro e w3 ⟨rfl, hb3⟩)
    | (go_at_call 27; with_reducible refine (Kn _).mono ?_; rintro e w4 ⟨rfl, hb4⟩))
  all_goals go_ret2
  all_goals exact ⟨rfl, Below.thenB (Below.thenB (Below.thenB hb1 hb2) hb3) hb4⟩
theorem part_011 (a r x q m s : Int) (w : World) (ha : 0 ≤ a) (hn : wrap64 (-a) ≤ a) (K27 : ∀ w, Calls Tryd.prog 27 #[.int .i64 a] w fun e w' => e = .returned (.bool true) ∧ Below w.heap.size w w') (K29 : ∀ w, Calls Tryd.prog 29 #[.int .i64 r] w fun e w' => e = .returned (.bool true) ∧ Below w.heap.size w w') (K30 : ∀ w, Calls Tryd.prog 30 #[.int .i64 a, .int .i64 r, .int .i64 10000] w fun e w' => e = .returned (.tuple #[.int .i64 q, .int .i64 m]) ∧ Below w.heap.size w w') (m2 : wrap64 (2 * m) = 2 * m) (hm : 10000 ≤ 2 * m) (q1 : wrap64 (q + 1) = q + 1) (Kn : ∀ w, Calls Tryd.prog 27 #[.int .i64 (q + 1)] w fun e w' => e = .returned (.bool true) ∧ Below w.heap.size w w') :
    Calls Tryd.prog 17 #[.int .i64 a, .int .i64 r] w fun e w' => e = .returned (.tuple #[.int .i64 (q + 1), .int .i64 0]) ∧ Below w.heap.size w w' := by
  go_enter Tryd.func17, Tryd.ntmps17
  go_wp2_with (first
    | (go_at_call 27; with_reducible refine (K27 _).mono ?_; rintro e w1 ⟨rfl, hb1⟩)
    | (go_at_call 29; with_reducible refine (K29 _).mono ?_; rintro e w2 ⟨rfl, hb2⟩)
    | (go_at_call 30; with_reducible refine (K30 _).mono ?_; rintro e w3 ⟨rfl, hb3⟩)
    | (go_at_call 27; with_reducible refine (Kn _).mono ?_; rintro e w4 ⟨rfl, hb4⟩))
  all_goals go_ret2
  all_goals exact ⟨rfl, Below.thenB (Below.thenB (Below.thenB hb1 hb2) hb3) hb4⟩
theorem part_100 (a r x q m s : Int) (w : World) (ha : a < 0) (hx : wrap64 (-a) = x) (hn : a < x) (K27 : ∀ w, Calls Tryd.prog 27 #[.int .i64 a] w fun e w' => e = .returned (.bool true) ∧ Below w.heap.size w w') (K29 : ∀ w, Calls Tryd.prog 29 #[.int .i64 r] w fun e w' => e = .returned (.bool true) ∧ Below w.heap.size w w') (K30 : ∀ w, Calls Tryd.prog 30 #[.int .i64 x, .int .i64 r, .int .i64 10000] w fun e w' => e = .returned (.tuple #[.int .i64 q, .int .i64 m]) ∧ Below w.heap.size w w') (m2 : wrap64 (2 * m) = 2 * m) (hm : 2 * m < 10000) (hs : wrap64 (-q) = s) (Kn : ∀ w, Calls Tryd.prog 27 #[.int .i64 s] w fun e w' => e = .returned (.bool false) ∧ Below w.heap.size w w') :
    Calls Tryd.prog 17 #[.int .i64 a, .int .i64 r] w fun e w' => e = .returned (.tuple #[.int .i64 0, .int .i64 1]) ∧ Below w.heap.size w w' := by
  go_enter Tryd.func17, Tryd.ntmps17
  go_wp2_with (first
    | (go_at_call 27; with_reducible refine (K27 _).mono ?_; rintro e w1 ⟨rfl, hb1⟩)
    | (go_at_call 29; with_reducible refine (K29 _).mono ?_; rintro e w2 ⟨rfl, hb2⟩)
    | (go_at_call 30; with_reducible refine (K30 _).mono ?_; rintro e w3 ⟨rfl, hb3⟩)
    | (go_at_call 27; with_reducible refine (Kn _).mono ?_; rintro e w4 ⟨rfl, hb4⟩))
  all_goals go_ret2
  all_goals exact ⟨rfl, Below.thenB (Below.thenB (Below.thenB hb1 hb2) hb3) hb4⟩
theorem part_101 (a r x q m s : Int) (w : World) (ha : a < 0) (hx : wrap64 (-a) = x) (hn : a < x) (K27 : ∀ w, Calls Tryd.prog 27 #[.int .i64 a] w fun e w' => e = .returned (.bool true) ∧ Below w.heap.size w w') (K29 : ∀ w, Calls Tryd.prog 29 #[.int .i64 r] w fun e w' => e = .returned (.bool true) ∧ Below w.heap.size w w') (K30 : ∀ w, Calls Tryd.prog 30 #[.int .i64 x, .int .i64 r, .int .i64 10000] w fun e w' => e = .returned (.tuple #[.int .i64 q, .int .i64 m]) ∧ Below w.heap.size w w') (m2 : wrap64 (2 * m) = 2 * m) (hm : 2 * m < 10000) (hs : wrap64 (-q) = s) (Kn : ∀ w, Calls Tryd.prog 27 #[.int .i64 s] w fun e w' => e = .returned (.bool true) ∧ Below w.heap.size w w') :
    Calls Tryd.prog 17 #[.int .i64 a, .int .i64 r] w fun e w' => e = .returned (.tuple #[.int .i64 s, .int .i64 0]) ∧ Below w.heap.size w w' := by
  go_enter Tryd.func17, Tryd.ntmps17
  go_wp2_with (first
    | (go_at_call 27; with_reducible refine (K27 _).mono ?_; rintro e w1 ⟨rfl, hb1⟩)
    | (go_at_call 29; with_reducible refine (K29 _).mono ?_; rintro e w2 ⟨rfl, hb2⟩)
    | (go_at_call 30; with_reducible refine (K30 _).mono ?_; rintro e w3 ⟨rfl, hb3⟩)
    | (go_at_call 27; with_reducible refine (Kn _).mono ?_; rintro e w4 ⟨rfl, hb4⟩))
  all_goals go_ret2
  all_goals exact ⟨rfl, Below.thenB (Below.thenB (Below.thenB hb1 hb2) hb3) hb4⟩
theorem part_110 (a r x q m s : Int) (w : World) (ha : a < 0) (hx : wrap64 (-a) = x) (hn : a < x) (K27 : ∀ w, Calls Tryd.prog 27 #[.int .i64 a] w fun e w' => e = .returned (.bool true) ∧ Below w.heap.size w w') (K29 : ∀ w, Calls Tryd.prog 29 #[.int .i64 r] w fun e w' => e = .returned (.bool true) ∧ Below w.heap.size w w') (K30 : ∀ w, Calls Tryd.prog 30 #[.int .i64 x, .int .i64 r, .int .i64 10000] w fun e w' => e = .returned (.tuple #[.int .i64 q, .int .i64 m]) ∧ Below w.heap.size w w') (m2 : wrap64 (2 * m) = 2 * m) (hm : 10000 ≤ 2 * m) (q1 : wrap64 (q + 1) = q + 1) (hs : wrap64 (-(q + 1)) = s) (Kn : ∀ w, Calls Tryd.prog 27 #[.int .i64 s] w fun e w' => e = .returned (.bool false) ∧ Below w.heap.size w w') :
    Calls Tryd.prog 17 #[.int .i64 a, .int .i64 r] w fun e w' => e = .returned (.tuple #[.int .i64 0, .int .i64 1]) ∧ Below w.heap.size w w' := by
  go_enter Tryd.func17, Tryd.ntmps17
  go_wp2_with (first
    | (go_at_call 27; with_reducible refine (K27 _).mono ?_; rintro e w1 ⟨rfl, hb1⟩)
    | (go_at_call 29; with_reducible refine (K29 _).mono ?_; rintro e w2 ⟨rfl, hb2⟩)
    | (go_at_call 30; with_reducible refine (K30 _).mono ?_; rintro e w3 ⟨rfl, hb3⟩)
    | (go_at_call 27; with_reducible refine (Kn _).mono ?_; rintro e w4 ⟨rfl, hb4⟩))
  all_goals go_ret2
  all_goals exact ⟨rfl, Below.thenB (Below.thenB (Below.thenB hb1 hb2) hb3) hb4⟩
theorem part_111 (a r x q m s : Int) (w : World) (ha : a < 0) (hx : wrap64 (-a) = x) (hn : a < x) (K27 : ∀ w, Calls Tryd.prog 27 #[.int .i64 a] w fun e w' => e = .returned (.bool true) ∧ Below w.heap.size w w') (K29 : ∀ w, Calls Tryd.prog 29 #[.int .i64 r] w fun e w' => e = .returned (.bool true) ∧ Below w.heap.size w w') (K30 : ∀ w, Calls Tryd.prog 30 #[.int .i64 x, .int .i64 r, .int .i64 10000] w fun e w' => e = .returned (.tuple #[.int .i64 q, .int .i64 m]) ∧ Below w.heap.size w w') (m2 : wrap64 (2 * m) = 2 * m) (hm : 10000 ≤ 2 * m) (q1 : wrap64 (q + 1) = q + 1) (hs : wrap64 (-(q + 1)) = s) (Kn : ∀ w, Calls Tryd.prog 27 #[.int .i64 s] w fun e w' => e = .returned (.bool true) ∧ Below w.heap.size w w') :
    Calls Tryd.prog 17 #[.int .i64 a, .int .i64 r] w fun e w' => e = .returned (.tuple #[.int .i64 s, .int .i64 0]) ∧ Below w.heap.size w w' := by
  go_enter Tryd.func17, Tryd.ntmps17
  go_wp2_with (first
    | (go_at_call 27; with_reducible refine (K27 _).mono ?_; rintro e w1 ⟨rfl, hb1⟩)
    | (go_at_call 29; with_reducible refine (K29 _).mono ?_; rintro e w2 ⟨rfl, hb2⟩)
    | (go_at_call 30; with_reducible refine (K30 _).mono ?_; rintro e w3 ⟨rfl, hb3⟩)
    | (go_at_call 27; with_reducible refine (Kn _).mono ?_; rintro e w4 ⟨rfl, hb4⟩))
  all_goals go_ret2
  all_goals exact ⟨rfl, Below.thenB (Below.thenB (Below.thenB hb1 hb2) hb3) hb4⟩
theorem part_bad1 (a r : Int) (w : World)
    (K27 : ∀ w, Calls Tryd.prog 27 #[.int .i64 a] w fun e w' => e = .returned (.bool false) ∧ Below w.heap.size w w') :
    Calls Tryd.prog 17 #[.int .i64 a, .int .i64 r] w fun e w' => e = .returned (.tuple #[.int .i64 0, .int .i64 220]) ∧ Below w.heap.size w w' := by
  go_enter Tryd.func17, Tryd.ntmps17
  go_wp2_with (go_at_call 27; with_reducible refine (K27 _).mono ?_; rintro e w1 ⟨rfl, hb1⟩)
  all_goals go_ret2
  all_goals exact ⟨rfl, hb1⟩
theorem part_bad2 (a r : Int) (w : World)
    (K27 : ∀ w, Calls Tryd.prog 27 #[.int .i64 a] w fun e w' => e = .returned (.bool true) ∧ Below w.heap.size w w')
    (K29 : ∀ w, Calls Tryd.prog 29 #[.int .i64 r] w fun e w' => e = .returned (.bool false) ∧ Below w.heap.size w w') :
    Calls Tryd.prog 17 #[.int .i64 a, .int .i64 r] w fun e w' => e = .returned (.tuple #[.int .i64 0, .int .i64 1]) ∧ Below w.heap.size w w' := by
  go_enter Tryd.func17, Tryd.ntmps17
  go_wp2_with (first
    | (go_at_call 27; with_reducible refine (K27 _).mono ?_; rintro e w1 ⟨rfl, hb1⟩)
    | (go_at_call 29; with_reducible refine (K29 _).mono ?_; rintro e w2 ⟨rfl, hb2⟩))
  all_goals go_ret2
  all_goals exact ⟨rfl, Below.thenB hb1 hb2⟩
end Go.Proofs.YtpbgaoodokapeaaDoor
