/- A part of the proof of TpccLoads. -/
import Derived.Test.YtbjickdjkgefcaaGreatDoorLLA
import Derived.Test.YtbjickdjkgefcaaGreatDoorVB2
open Go Go.RowKit Go.Proofs.YtbjickdjkgefcaaGreatDoor.Vai
noncomputable section
namespace Go.Proofs.YtbjickdjkgefcaaGreatDoor
set_option linter.unusedVariables false
def kn0 : Known := fun _ _ _ => none
/-- The table of spaces, as block 0 and package variable 0. -/
def spG : BSpec := .cells 112 1 (zsp.map (Value.int .u8)) true
def tablesRun : Option (Value × St) := aFunK Tryz.prog tb0 kn0 1000 100 (.func 4) [] (bSt [spG] [] 1)
def rtablesRun : Option (Value × St) := aFunK Tryz.prog tb0 kn0 1000 100 (.func 5) [] (bSt [spG] [] 1)
end Go.Proofs.YtbjickdjkgefcaaGreatDoor
