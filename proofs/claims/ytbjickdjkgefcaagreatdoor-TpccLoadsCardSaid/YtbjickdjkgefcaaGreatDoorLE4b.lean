/- Create of each table, on the document's side, by evaluation: a table ahead of places [3, 4, 5]. -/
import Derived.Test.YtbjickdjkgefcaaGreatDoorLE0
open Go Go.RowKit Go.Proofs.YtbjickdjkgefcaaGreatDoor.Vai
namespace Go.Proofs.YtbjickdjkgefcaaGreatDoor
set_option maxRecDepth 100000
theorem creR_t30 : creOkR 3 true 0 = true := by kernel_rfl
theorem creR_t31 : creOkR 3 true 1 = true := by kernel_rfl
theorem creR_t32 : creOkR 3 true 2 = true := by kernel_rfl
theorem creR_t33 : creOkR 3 true 3 = true := by kernel_rfl
theorem creR_t34 : creOkR 3 true 4 = true := by kernel_rfl
theorem creR_t35 : creOkR 3 true 5 = true := by kernel_rfl
theorem creR_t36 : creOkR 3 true 6 = true := by kernel_rfl
theorem creR_t37 : creOkR 3 true 7 = true := by kernel_rfl
theorem creR_t3 : ∀ k, k < 8 → creOkR 3 true k = true := by
  intro k hk
  match k, hk with
  | 0, _ => exact creR_t30
  | 1, _ => exact creR_t31
  | 2, _ => exact creR_t32
  | 3, _ => exact creR_t33
  | 4, _ => exact creR_t34
  | 5, _ => exact creR_t35
  | 6, _ => exact creR_t36
  | 7, _ => exact creR_t37
theorem creR_t40 : creOkR 4 true 0 = true := by kernel_rfl
theorem creR_t41 : creOkR 4 true 1 = true := by kernel_rfl
theorem creR_t42 : creOkR 4 true 2 = true := by kernel_rfl
theorem creR_t43 : creOkR 4 true 3 = true := by kernel_rfl
theorem creR_t44 : creOkR 4 true 4 = true := by kernel_rfl
theorem creR_t45 : creOkR 4 true 5 = true := by kernel_rfl
theorem creR_t46 : creOkR 4 true 6 = true := by kernel_rfl
theorem creR_t47 : creOkR 4 true 7 = true := by kernel_rfl
theorem creR_t4 : ∀ k, k < 8 → creOkR 4 true k = true := by
  intro k hk
  match k, hk with
  | 0, _ => exact creR_t40
  | 1, _ => exact creR_t41
  | 2, _ => exact creR_t42
  | 3, _ => exact creR_t43
  | 4, _ => exact creR_t44
  | 5, _ => exact creR_t45
  | 6, _ => exact creR_t46
  | 7, _ => exact creR_t47
theorem creR_t50 : creOkR 5 true 0 = true := by kernel_rfl
theorem creR_t51 : creOkR 5 true 1 = true := by kernel_rfl
theorem creR_t52 : creOkR 5 true 2 = true := by kernel_rfl
theorem creR_t53 : creOkR 5 true 3 = true := by kernel_rfl
theorem creR_t54 : creOkR 5 true 4 = true := by kernel_rfl
theorem creR_t55 : creOkR 5 true 5 = true := by kernel_rfl
theorem creR_t56 : creOkR 5 true 6 = true := by kernel_rfl
theorem creR_t57 : creOkR 5 true 7 = true := by kernel_rfl
theorem creR_t5 : ∀ k, k < 8 → creOkR 5 true k = true := by
  intro k hk
  match k, hk with
  | 0, _ => exact creR_t50
  | 1, _ => exact creR_t51
  | 2, _ => exact creR_t52
  | 3, _ => exact creR_t53
  | 4, _ => exact creR_t54
  | 5, _ => exact creR_t55
  | 6, _ => exact creR_t56
  | 7, _ => exact creR_t57
end Go.Proofs.YtbjickdjkgefcaaGreatDoor
