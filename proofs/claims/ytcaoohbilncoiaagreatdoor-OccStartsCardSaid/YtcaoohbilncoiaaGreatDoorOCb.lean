/- The ways through hopperlaw16.OccStarts, somebody being the worker: of 10 to 12 workers. -/
import Derived.Test.YtcaoohbilncoiaaGreatDoorOCz
open Go Go.RowKit Go.Proofs.YtcaoohbilncoiaaGreatDoor.Vai
set_option linter.unusedVariables false
namespace Go.Proofs.YtcaoohbilncoiaaGreatDoor
set_option maxRecDepth 100000
theorem runIn10 : inside 10 = true := by kernel_rfl
theorem runIn11 : inside 11 = true := by kernel_rfl
theorem runIn12 : inside 12 = true := by kernel_rfl
end Go.Proofs.YtcaoohbilncoiaaGreatDoor
