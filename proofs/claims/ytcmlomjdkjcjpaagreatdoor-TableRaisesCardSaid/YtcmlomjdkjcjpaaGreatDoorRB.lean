/- What 'works' of hopperlaw15 does, from every world: it returns true and turns nothing that was there. -/
import Derived.Test.YtcmlomjdkjcjpaaGreatDoorRA
open Go Go.RowKit Go.Proofs.YtcmlomjdkjcjpaaGreatDoor.Vai
set_option linter.unusedVariables false
namespace Go.Proofs.YtcmlomjdkjcjpaaGreatDoor
set_option maxRecDepth 100000
theorem works_any (w : World) : Calls Tryz.prog 4 #[] w fun e w' => e = .returned (.bool true) ∧ Below w.heap.size w w' :=
  calls_of_run tb0_ok mixed (rel0 w (fun _ => 0)) (L := 1000) (d := 100) (args := []) (cargs := []) .nil rfl (by kernel_rfl)
#print axioms works_any
end Go.Proofs.YtcmlomjdkjcjpaaGreatDoor
