/- works(): the order, by evaluation. -/
import Derived.Test.YtbjickdjkgefcaaGreatDoorLP4
open Go Go.RowKit Go.Proofs.YtbjickdjkgefcaaGreatDoor.Vai
noncomputable section
namespace Go.Proofs.YtbjickdjkgefcaaGreatDoor
set_option maxRecDepth 100000
def isCall (b n : Nat) (u : Value) : Bool := veq u (.tuple #[.agg #[.int .i64 0, .slice (some ⟨b, 0, none⟩) n INF], .bool true])
theorem wcall1_ok : runCheck wCall1 34 (isCall 1694 1) spW2 spW2ids noTau spW2links = true := by kernel_rfl
end Go.Proofs.YtbjickdjkgefcaaGreatDoor
