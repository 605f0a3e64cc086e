/- works(): the data are sound at the end, by evaluation. -/
import Derived.Test.YtbjickdjkgefcaaGreatDoorLP4
open Go Go.RowKit Go.Proofs.YtbjickdjkgefcaaGreatDoor.Vai
noncomputable section
namespace Go.Proofs.YtbjickdjkgefcaaGreatDoor
set_option maxRecDepth 100000
theorem wsound_ok : runCheck wSound 38 isZero [] [] noTau [] = true := by kernel_rfl
end Go.Proofs.YtbjickdjkgefcaaGreatDoor
