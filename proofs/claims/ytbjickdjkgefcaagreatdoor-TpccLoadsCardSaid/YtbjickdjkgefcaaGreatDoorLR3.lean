/- The closed facts of the row, by the kernel. -/
import Derived.Test.YtbjickdjkgefcaaGreatDoorLLA
import Derived.SevenTiedAt
import Derived.Deep.DeepHandedRow
open Go Go.RowKit
namespace Go.Proofs.YtbjickdjkgefcaaGreatDoor
set_option maxRecDepth 100000
theorem j_inPlace : (Rows.tpccLoadsRow.inPlace == Tryz.pinned.checked.prog.inPlace 3) = true := by kernel_rfl
theorem j_unf : (Rows.tpccLoadsRow.unfollowed == Tryz.pinned.checked.prog.unfollowed 3) = true := by kernel_rfl
theorem j_rec : (Rows.tpccLoadsRow.recurses == Tryz.pinned.checked.prog.recurses 3) = true := by kernel_rfl
theorem j_named : (Rows.tpccLoadsRow.named == Tryz.pinned.checked.prog.varsNamed 3) = true := by kernel_rfl
theorem closed : joinedFacts Tryz.pinned.checked.prog 3 Tryz.f3 (OpenSpec.ofChange Rows.tpccLoadsSpec).bare Rows.tpccLoadsRow = true := by
  unfold joinedFacts
  rw [j_inPlace, j_unf, j_rec, j_named]
  kernel_rfl
end Go.Proofs.YtbjickdjkgefcaaGreatDoor
