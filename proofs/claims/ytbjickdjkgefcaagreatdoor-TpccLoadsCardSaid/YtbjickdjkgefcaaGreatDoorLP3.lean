/- works(): Load(1, 1, 1, 2), by evaluation. -/
import Derived.Test.YtbjickdjkgefcaaGreatDoorLO2
open Go Go.RowKit Go.Proofs.YtbjickdjkgefcaaGreatDoor.Vai
noncomputable section
namespace Go.Proofs.YtbjickdjkgefcaaGreatDoor
set_option maxRecDepth 100000
theorem wload_ok : runCheck wLoad 5 isZero spW1 spW1ids noTau spW1links = true := by kernel_rfl
end Go.Proofs.YtbjickdjkgefcaaGreatDoor
