/- The ways through hopperlaw16.OccStarts, somebody being the worker: of 1 to 9 workers. -/
import Derived.Test.YtcaoohbilncoiaaGreatDoorOCz
open Go Go.RowKit Go.Proofs.YtcaoohbilncoiaaGreatDoor.Vai
set_option linter.unusedVariables false
namespace Go.Proofs.YtcaoohbilncoiaaGreatDoor
set_option maxRecDepth 100000
theorem runIn1 : inside 1 = true := by kernel_rfl
theorem runIn2 : inside 2 = true := by kernel_rfl
theorem runIn3 : inside 3 = true := by kernel_rfl
theorem runIn4 : inside 4 = true := by kernel_rfl
theorem runIn5 : inside 5 = true := by kernel_rfl
theorem runIn6 : inside 6 = true := by kernel_rfl
theorem runIn7 : inside 7 = true := by kernel_rfl
theorem runIn8 : inside 8 = true := by kernel_rfl
theorem runIn9 : inside 9 = true := by kernel_rfl
end Go.Proofs.YtcaoohbilncoiaaGreatDoor
