/- The table ahead is one of the eight: the program's Load by evaluation. -/
import Derived.Test.YtbjickdjkgefcaaGreatDoorLN1
open Go Go.RowKit Go.Proofs.YtbjickdjkgefcaaGreatDoor.Vai
noncomputable section
namespace Go.Proofs.YtbjickdjkgefcaaGreatDoor
set_option maxRecDepth 100000
def loadRun (j : Nat) : Option (Value × St) := aFunK Tryz.prog tb0 kn0 1000 100 (.func 9) [.pointer (some ⟨1, 0, none⟩), w5V, w5V, w50V, w50V] (bSt (specP1 [8]) (factsE j) 1)
def loadOk (j : Nat) : Bool := runCheck (loadRun j) (specP1 [8]).length is6 (specP [8]) (idsP1 [8]) noTau []
theorem load_e0 : loadOk 0 = true := by kernel_rfl
theorem load_e1 : loadOk 1 = true := by kernel_rfl
theorem load_e2 : loadOk 2 = true := by kernel_rfl
theorem load_e3 : loadOk 3 = true := by kernel_rfl
theorem load_e4 : loadOk 4 = true := by kernel_rfl
theorem load_e5 : loadOk 5 = true := by kernel_rfl
theorem load_e6 : loadOk 6 = true := by kernel_rfl
theorem load_e7 : loadOk 7 = true := by kernel_rfl
end Go.Proofs.YtbjickdjkgefcaaGreatDoor
