/- The ways through hopperlaw16.OccStarts, somebody being the worker: of 15 to 16 workers. -/
import Derived.Test.YtcaoohbilncoiaaGreatDoorOCz
open Go Go.RowKit Go.Proofs.YtcaoohbilncoiaaGreatDoor.Vai
set_option linter.unusedVariables false
namespace Go.Proofs.YtcaoohbilncoiaaGreatDoor
set_option maxRecDepth 100000
theorem runIn15 : inside 15 = true := by kernel_rfl
theorem runIn16 : inside 16 = true := by kernel_rfl
end Go.Proofs.YtcaoohbilncoiaaGreatDoor
