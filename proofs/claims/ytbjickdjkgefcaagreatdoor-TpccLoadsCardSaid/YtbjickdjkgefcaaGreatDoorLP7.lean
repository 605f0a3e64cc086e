/- works(): the carrier, by evaluation. -/
import Derived.Test.YtbjickdjkgefcaaGreatDoorLP4
import Derived.Test.YtbjickdjkgefcaaGreatDoorLP5
open Go Go.RowKit Go.Proofs.YtbjickdjkgefcaaGreatDoor.Vai
noncomputable section
namespace Go.Proofs.YtbjickdjkgefcaaGreatDoor
set_option maxRecDepth 100000
theorem wcall2_ok : runCheck wCall2 40 (isCall 1211 1) spW3 spW3ids noTau spW3links = true := by kernel_rfl
end Go.Proofs.YtbjickdjkgefcaaGreatDoor
