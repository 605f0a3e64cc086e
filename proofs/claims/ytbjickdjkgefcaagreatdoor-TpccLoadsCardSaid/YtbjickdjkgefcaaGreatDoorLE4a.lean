/- Create of each table, on the document's side, by evaluation: a table ahead of places [0, 1, 2]. -/
import Derived.Test.YtbjickdjkgefcaaGreatDoorLE0
open Go Go.RowKit Go.Proofs.YtbjickdjkgefcaaGreatDoor.Vai
namespace Go.Proofs.YtbjickdjkgefcaaGreatDoor
set_option maxRecDepth 100000
theorem creR_t00 : creOkR 0 true 0 = true := by kernel_rfl
theorem creR_t01 : creOkR 0 true 1 = true := by kernel_rfl
theorem creR_t02 : creOkR 0 true 2 = true := by kernel_rfl
theorem creR_t03 : creOkR 0 true 3 = true := by kernel_rfl
theorem creR_t04 : creOkR 0 true 4 = true := by kernel_rfl
theorem creR_t05 : creOkR 0 true 5 = true := by kernel_rfl
theorem creR_t06 : creOkR 0 true 6 = true := by kernel_rfl
theorem creR_t07 : creOkR 0 true 7 = true := by kernel_rfl
theorem creR_t0 : ∀ k, k < 8 → creOkR 0 true k = true := by
  intro k hk
  match k, hk with
  | 0, _ => exact creR_t00
  | 1, _ => exact creR_t01
  | 2, _ => exact creR_t02
  | 3, _ => exact creR_t03
  | 4, _ => exact creR_t04
  | 5, _ => exact creR_t05
  | 6, _ => exact creR_t06
  | 7, _ => exact creR_t07
theorem creR_t10 : creOkR 1 true 0 = true := by kernel_rfl
theorem creR_t11 : creOkR 1 true 1 = true := by kernel_rfl
theorem creR_t12 : creOkR 1 true 2 = true := by kernel_rfl
theorem creR_t13 : creOkR 1 true 3 = true := by kernel_rfl
theorem creR_t14 : creOkR 1 true 4 = true := by kernel_rfl
theorem creR_t15 : creOkR 1 true 5 = true := by kernel_rfl
theorem creR_t16 : creOkR 1 true 6 = true := by kernel_rfl
theorem creR_t17 : creOkR 1 true 7 = true := by kernel_rfl
theorem creR_t1 : ∀ k, k < 8 → creOkR 1 true k = true := by
  intro k hk
  match k, hk with
  | 0, _ => exact creR_t10
  | 1, _ => exact creR_t11
  | 2, _ => exact creR_t12
  | 3, _ => exact creR_t13
  | 4, _ => exact creR_t14
  | 5, _ => exact creR_t15
  | 6, _ => exact creR_t16
  | 7, _ => exact creR_t17
theorem creR_t20 : creOkR 2 true 0 = true := by kernel_rfl
theorem creR_t21 : creOkR 2 true 1 = true := by kernel_rfl
theorem creR_t22 : creOkR 2 true 2 = true := by kernel_rfl
theorem creR_t23 : creOkR 2 true 3 = true := by kernel_rfl
theorem creR_t24 : creOkR 2 true 4 = true := by kernel_rfl
theorem creR_t25 : creOkR 2 true 5 = true := by kernel_rfl
theorem creR_t26 : creOkR 2 true 6 = true := by kernel_rfl
theorem creR_t27 : creOkR 2 true 7 = true := by kernel_rfl
theorem creR_t2 : ∀ k, k < 8 → creOkR 2 true k = true := by
  intro k hk
  match k, hk with
  | 0, _ => exact creR_t20
  | 1, _ => exact creR_t21
  | 2, _ => exact creR_t22
  | 3, _ => exact creR_t23
  | 4, _ => exact creR_t24
  | 5, _ => exact creR_t25
  | 6, _ => exact creR_t26
  | 7, _ => exact creR_t27
end Go.Proofs.YtbjickdjkgefcaaGreatDoor
