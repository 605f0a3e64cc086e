/- Facts on the program's form for the statements on money: the functions without a body, their meanings in the model. -/
import Derived.Test.YtpbgaoodokapeaaDoorVaiW3
import Derived.Test.YtpbgaoodokapeaaDoorCards
import Derived.Test.YtpbgaoodokapeaaDoorTie
import Derived.WalkKit
import Derived.WalkSmall
import Derived.ProofKit
open Go Go.RowKit Go.Proofs.YtpbgaoodokapeaaDoor.Vai
namespace Go.Proofs.YtpbgaoodokapeaaDoor
set_option linter.unusedVariables false
set_option linter.unusedSimpArgs false
def sNil : St := { ng := 0, next := 0, views := .nil, roots := .nil, objs := .nil }
theorem rel0 (w : World) : Rel w (fun _ => none) sNil w :=
  ⟨Below.refl _ _, fun _ _ h => (by cases h), fun _ _ h => (by cases h), fun _ _ _ h => (by cases h), fun _ _ _ h => (by cases h), fun _ _ _ _ h => (by cases h), fun _ _ h => (by cases h), fun _ _ h => (by cases h), fun _ _ h _ => absurd h (Nat.not_lt_zero _), Nat.le_refl _⟩
noncomputable def ext0 : T ExtK := ((((T.nil.set 59 (.pure Extern.BytealgCount.count)).set 72 .same).set 73 (.makeNoZero #[3] #[57])).set 84 (.pure Extern.BytealgIndexByte.indexByte))
noncomputable def tb0 : Tb := tables Tryd.prog ext0
set_option maxRecDepth 100000
theorem names_ok : (Tryd.prog.funcs.toList.all fun fn => !(fn.name == "runtime.NumGoroutine")) = true := by kernel_rfl
theorem mixed : Tryd.prog.follows .mixedOrders = true := by kernel_rfl
theorem own : ownKnob Tryd.prog.godebug = none := by kernel_rfl
theorem e59 : ExtOk Tryd.prog 59 (.pure Extern.BytealgCount.count) := ⟨⟨Tryd.f59, by kernel_rfl, by kernel_rfl, by kernel_rfl, by kernel_rfl, by kernel_rfl⟩⟩
theorem e72 : ExtOk Tryd.prog 72 .same := ⟨⟨Tryd.f72, by kernel_rfl, by kernel_rfl, by kernel_rfl, by kernel_rfl, by kernel_rfl⟩⟩
theorem e73 : ExtOk Tryd.prog 73 (.makeNoZero #[3] #[57]) := ⟨⟨Tryd.f73, by kernel_rfl, by kernel_rfl, by kernel_rfl, by kernel_rfl, by kernel_rfl⟩⟩
theorem e84 : ExtOk Tryd.prog 84 (.pure Extern.BytealgIndexByte.indexByte) := ⟨⟨Tryd.f84, by kernel_rfl, by kernel_rfl, by kernel_rfl, by kernel_rfl, by kernel_rfl⟩⟩
theorem tb0_ok : TbOk Tryd.prog tb0 := tables_ok names_ok fun f k h => by
  have step : ∀ {t : T ExtK} {n : Nat} {x : ExtK}, ExtOk Tryd.prog n x → (∀ f k, t.get f = some k → ExtOk Tryd.prog f k) → ∀ f k, (t.set n x).get f = some k → ExtOk Tryd.prog f k := by
    intro t n x hx ht f k h
    by_cases e : f = n
    · subst e; rw [T.get_set_same] at h; cases h; exact hx
    · rw [T.get_set_other _ _ e] at h; exact ht f k h
  exact step e84 (step e73 (step e72 (step e59 (fun f k h => (by cases h))))) f k h
end Go.Proofs.YtpbgaoodokapeaaDoor
