/- Create of each table, on the document's side, by evaluation: a table ahead of places [6, 7, 8]. -/
import Derived.Test.YtbjickdjkgefcaaGreatDoorLE0
open Go Go.RowKit Go.Proofs.YtbjickdjkgefcaaGreatDoor.Vai
namespace Go.Proofs.YtbjickdjkgefcaaGreatDoor
set_option maxRecDepth 100000
theorem creR_t60 : creOkR 6 true 0 = true := by kernel_rfl
theorem creR_t61 : creOkR 6 true 1 = true := by kernel_rfl
theorem creR_t62 : creOkR 6 true 2 = true := by kernel_rfl
theorem creR_t63 : creOkR 6 true 3 = true := by kernel_rfl
theorem creR_t64 : creOkR 6 true 4 = true := by kernel_rfl
theorem creR_t65 : creOkR 6 true 5 = true := by kernel_rfl
theorem creR_t66 : creOkR 6 true 6 = true := by kernel_rfl
theorem creR_t67 : creOkR 6 true 7 = true := by kernel_rfl
theorem creR_t6 : ∀ k, k < 8 → creOkR 6 true k = true := by
  intro k hk
  match k, hk with
  | 0, _ => exact creR_t60
  | 1, _ => exact creR_t61
  | 2, _ => exact creR_t62
  | 3, _ => exact creR_t63
  | 4, _ => exact creR_t64
  | 5, _ => exact creR_t65
  | 6, _ => exact creR_t66
  | 7, _ => exact creR_t67
theorem creR_t70 : creOkR 7 true 0 = true := by kernel_rfl
theorem creR_t71 : creOkR 7 true 1 = true := by kernel_rfl
theorem creR_t72 : creOkR 7 true 2 = true := by kernel_rfl
theorem creR_t73 : creOkR 7 true 3 = true := by kernel_rfl
theorem creR_t74 : creOkR 7 true 4 = true := by kernel_rfl
theorem creR_t75 : creOkR 7 true 5 = true := by kernel_rfl
theorem creR_t76 : creOkR 7 true 6 = true := by kernel_rfl
theorem creR_t77 : creOkR 7 true 7 = true := by kernel_rfl
theorem creR_t7 : ∀ k, k < 8 → creOkR 7 true k = true := by
  intro k hk
  match k, hk with
  | 0, _ => exact creR_t70
  | 1, _ => exact creR_t71
  | 2, _ => exact creR_t72
  | 3, _ => exact creR_t73
  | 4, _ => exact creR_t74
  | 5, _ => exact creR_t75
  | 6, _ => exact creR_t76
  | 7, _ => exact creR_t77
theorem creR_t80 : creOkR 8 true 0 = true := by kernel_rfl
theorem creR_t81 : creOkR 8 true 1 = true := by kernel_rfl
theorem creR_t82 : creOkR 8 true 2 = true := by kernel_rfl
theorem creR_t83 : creOkR 8 true 3 = true := by kernel_rfl
theorem creR_t84 : creOkR 8 true 4 = true := by kernel_rfl
theorem creR_t85 : creOkR 8 true 5 = true := by kernel_rfl
theorem creR_t86 : creOkR 8 true 6 = true := by kernel_rfl
theorem creR_t87 : creOkR 8 true 7 = true := by kernel_rfl
theorem creR_t8 : ∀ k, k < 8 → creOkR 8 true k = true := by
  intro k hk
  match k, hk with
  | 0, _ => exact creR_t80
  | 1, _ => exact creR_t81
  | 2, _ => exact creR_t82
  | 3, _ => exact creR_t83
  | 4, _ => exact creR_t84
  | 5, _ => exact creR_t85
  | 6, _ => exact creR_t86
  | 7, _ => exact creR_t87
end Go.Proofs.YtbjickdjkgefcaaGreatDoor
