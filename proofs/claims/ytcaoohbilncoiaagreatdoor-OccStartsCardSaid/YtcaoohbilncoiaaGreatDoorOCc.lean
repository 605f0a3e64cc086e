/- The ways through hopperlaw16.OccStarts, somebody being the worker: of 13 to 14 workers. -/
import Derived.Test.YtcaoohbilncoiaaGreatDoorOCz
open Go Go.RowKit Go.Proofs.YtcaoohbilncoiaaGreatDoor.Vai
set_option linter.unusedVariables false
namespace Go.Proofs.YtcaoohbilncoiaaGreatDoor
set_option maxRecDepth 100000
theorem runIn13 : inside 13 = true := by kernel_rfl
theorem runIn14 : inside 14 = true := by kernel_rfl
end Go.Proofs.YtcaoohbilncoiaaGreatDoor
