/- The document's Has, by evaluation: all tables are there. -/
import Derived.Test.YtbjickdjkgefcaaGreatDoorLJ3
open Go Go.RowKit Go.Proofs.YtbjickdjkgefcaaGreatDoor.Vai
noncomputable section
namespace Go.Proofs.YtbjickdjkgefcaaGreatDoor
set_option linter.unusedVariables false
set_option linter.unusedSimpArgs false
set_option maxRecDepth 100000
def datB : BSpec := .cells 66 2 [.pointer (some ⟨0, 0, none⟩), topV] true
def specH (p : Nat) (pre : Bool) : List BSpec := specC p (tabsP pre 8) ++ [datB]
def hasRun (p : Nat) (pre : Bool) : Option (Value × St) := aFunK Tryz.prog tb0 kn0 1000 100 (.func 45) [.pointer (some ⟨(specC p (tabsP pre 8)).length, 0, none⟩)] (bSt (specH p pre) (factsR p))
def hasOk (p : Nat) (pre : Bool) : Bool := runCheck (hasRun p pre) (specH p pre).length isTrue [] [] noTau []
theorem has_f : hasOk 0 false = true := by kernel_rfl
theorem has_t0 : hasOk 0 true = true := by kernel_rfl
theorem has_t1 : hasOk 1 true = true := by kernel_rfl
theorem has_t2 : hasOk 2 true = true := by kernel_rfl
theorem has_t3 : hasOk 3 true = true := by kernel_rfl
theorem has_t4 : hasOk 4 true = true := by kernel_rfl
theorem has_t5 : hasOk 5 true = true := by kernel_rfl
theorem has_t6 : hasOk 6 true = true := by kernel_rfl
theorem has_t7 : hasOk 7 true = true := by kernel_rfl
theorem has_t8 : hasOk 8 true = true := by kernel_rfl
end Go.Proofs.YtbjickdjkgefcaaGreatDoor
