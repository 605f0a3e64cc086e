import Derived.Test.YtpbgaoodokapeaaDoorQA
open Go Go.RowKit Go.Proofs.YtpbgaoodokapeaaDoor.Vai
namespace Go.Proofs.YtpbgaoodokapeaaDoor
set_option linter.unusedVariables false
set_option linter.unusedSimpArgs false
noncomputable def addK : Array Value → Sem Value := match Extern.MathBitsCarry.rows with
  | x :: _ => x.2
  | [] => fun _ => stuck ""
set_option maxRecDepth 100000 in
theorem e33 : ExtOk Tryd.prog 33 (.pure addK) := ⟨⟨Tryd.f33, by kernel_rfl, by kernel_rfl, by kernel_rfl, by kernel_rfl, by kernel_rfl⟩⟩
theorem add64_0 (x y : Int) (hx : 0 ≤ x) (hy : 0 ≤ y) (w : World) : (callFunc 33 #[.int .u64 x, .int .u64 y, .int .u64 0]).run Tryd.prog w =
    .ok (.value (.tuple #[.int .u64 ((x + y) % 18446744073709551616), .int .u64 ((x + y) / 18446744073709551616)])) w := by
  obtain ⟨a, rfl⟩ := Int.eq_ofNat_of_zero_le hx
  obtain ⟨b, rfl⟩ := Int.eq_ofNat_of_zero_le hy
  rw [callFunc_ext e33]
  have h : (addK #[.int .u64 (a : Int), .int .u64 (b : Int), .int .u64 0]).run Tryd.prog w = .ok (Extern.MathBitsCarry.pair ((a + b + 0) % 18446744073709551616) ((a + b + 0) / 18446744073709551616)) w := rfl
  simp only [ExtK.impl, Sem.run_bind, h, Result.andThen_ok, Sem.run_pure]
  have e1 : (((a + b + 0) % 18446744073709551616 : Nat) : Int) = ((a : Int) + b) % 18446744073709551616 := by omega
  have e2 : (((a + b + 0) / 18446744073709551616 : Nat) : Int) = ((a : Int) + b) / 18446744073709551616 := by omega
  rw [← e1, ← e2]
  rfl
end Go.Proofs.YtpbgaoodokapeaaDoor
