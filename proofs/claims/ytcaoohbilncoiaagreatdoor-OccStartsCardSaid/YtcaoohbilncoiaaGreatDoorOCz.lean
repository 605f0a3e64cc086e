/- The ways through hopperlaw16.OccStarts, by the sizes of its arguments. -/
import Derived.Test.YtcaoohbilncoiaaGreatDoorOA
import Derived.Test.YtcaoohbilncoiaaGreatDoorVaiX
open Go Go.RowKit Go.Proofs.YtcaoohbilncoiaaGreatDoor.Vai
set_option linter.unusedVariables false
namespace Go.Proofs.YtcaoohbilncoiaaGreatDoor
set_option maxRecDepth 100000
noncomputable def sm0 : Sums := T.nil.set 5 [([], .bool true)]
noncomputable def occRun (a b c : Value) : Bool := match aFunS Tryz.prog tb0 sm0 1000 100 (.func 3) [a, b, c] sNil with | some (u, _) => veq u (.bool true) | none => false
def rg (lo hi : Int) : Value := .chan (some (rc lo hi))
abbrev lowI : Int := -9223372036854775808
abbrev topI : Int := 9223372036854775807
def allR : Value := rg lowI topI
def int_ (n : Nat) : Value := .int .i64 (Int.ofNat n)
theorem runA : occRun (rg lowI 0) allR allR = true := by kernel_rfl
theorem runB : occRun (rg 17 topI) allR allR = true := by kernel_rfl
/-- Nobody is the worker. -/
noncomputable def outside (k : Nat) : Bool := [rg lowI (-1), rg (Int.ofNat k) topI].all fun w => [rg lowI (-1), rg 0 1, rg 2 topI].all fun e => occRun (int_ k) w e
noncomputable def inside (k : Nat) : Bool := (List.range k).all fun w => [rg lowI (-1), rg 0 0, rg 1 topI].all fun e => occRun (int_ k) (int_ w) e
theorem runOut1 : outside 1 = true := by kernel_rfl
theorem runOut2 : outside 2 = true := by kernel_rfl
theorem runOut3 : outside 3 = true := by kernel_rfl
theorem runOut4 : outside 4 = true := by kernel_rfl
theorem runOut5 : outside 5 = true := by kernel_rfl
theorem runOut6 : outside 6 = true := by kernel_rfl
theorem runOut7 : outside 7 = true := by kernel_rfl
theorem runOut8 : outside 8 = true := by kernel_rfl
theorem runOut9 : outside 9 = true := by kernel_rfl
theorem runOut10 : outside 10 = true := by kernel_rfl
theorem runOut11 : outside 11 = true := by kernel_rfl
theorem runOut12 : outside 12 = true := by kernel_rfl
theorem runOut13 : outside 13 = true := by kernel_rfl
theorem runOut14 : outside 14 = true := by kernel_rfl
theorem runOut15 : outside 15 = true := by kernel_rfl
theorem runOut16 : outside 16 = true := by kernel_rfl
end Go.Proofs.YtcaoohbilncoiaaGreatDoor
