/- Facts on the program's form for the statement on OccStarts: the functions without a body, their meanings in the model. -/
import Derived.Test.YtcaoohbilncoiaaGreatDoorVaiW3
import Derived.Test.YtcaoohbilncoiaaGreatDoorCards
import Derived.Test.YtcaoohbilncoiaaGreatDoorTie
import Derived.WalkKit
import Derived.WalkSmall
import Derived.ProofKit
open Go Go.RowKit Go.Proofs.YtcaoohbilncoiaaGreatDoor.Vai
namespace Go.Proofs.YtcaoohbilncoiaaGreatDoor
set_option linter.unusedVariables false
set_option linter.unusedSimpArgs false
def sNil : St := { ng := 0, next := 0, views := .nil, roots := .nil, objs := .nil }
theorem rel0 (w : World) : Rel w (fun _ => none) sNil w :=
  ⟨Below.refl _ _, fun _ _ h => (by cases h), fun _ _ h => (by cases h), fun _ _ _ h => (by cases h), fun _ _ _ h => (by cases h), fun _ _ _ _ h => (by cases h), fun _ _ h => (by cases h), fun _ _ h => (by cases h), fun _ _ h _ => absurd h (Nat.not_lt_zero _), Nat.le_refl _⟩
noncomputable def ext0 : T ExtK := (((((((T.nil.set 72 .mapsClone).set 173 (.pure Extern.BytealgCompare.compare)).set 182 (.pure Extern.MathFloatBits.float64bits)).set 211 .same).set 223 (.pure Extern.BytealgCount.count)).set 228 (.makeNoZero #[3] #[188])).set 234 (.pure Extern.BytealgIndexByte.indexByte))
noncomputable def tb0 : Tb := tables Tryz.prog ext0
set_option maxRecDepth 100000
theorem names_ok : (Tryz.prog.funcs.toList.all fun fn => !(fn.name == "runtime.NumGoroutine")) = true := by kernel_rfl
theorem mixed : Tryz.prog.follows .mixedOrders = true := by kernel_rfl
theorem own : ownKnob Tryz.prog.godebug = none := by kernel_rfl
theorem e72 : ExtOk Tryz.prog 72 .mapsClone := ⟨⟨Tryz.f72, by kernel_rfl, by kernel_rfl, by kernel_rfl, by kernel_rfl, by kernel_rfl⟩⟩
theorem e173 : ExtOk Tryz.prog 173 (.pure Extern.BytealgCompare.compare) := ⟨⟨Tryz.f173, by kernel_rfl, by kernel_rfl, by kernel_rfl, by kernel_rfl, by kernel_rfl⟩⟩
theorem e182 : ExtOk Tryz.prog 182 (.pure Extern.MathFloatBits.float64bits) := ⟨⟨Tryz.f182, by kernel_rfl, by kernel_rfl, by kernel_rfl, by kernel_rfl, by kernel_rfl⟩⟩
theorem e211 : ExtOk Tryz.prog 211 .same := ⟨⟨Tryz.f211, by kernel_rfl, by kernel_rfl, by kernel_rfl, by kernel_rfl, by kernel_rfl⟩⟩
theorem e223 : ExtOk Tryz.prog 223 (.pure Extern.BytealgCount.count) := ⟨⟨Tryz.f223, by kernel_rfl, by kernel_rfl, by kernel_rfl, by kernel_rfl, by kernel_rfl⟩⟩
theorem e228 : ExtOk Tryz.prog 228 (.makeNoZero #[3] #[188]) := ⟨⟨Tryz.f228, by kernel_rfl, by kernel_rfl, by kernel_rfl, by kernel_rfl, by kernel_rfl⟩⟩
theorem e234 : ExtOk Tryz.prog 234 (.pure Extern.BytealgIndexByte.indexByte) := ⟨⟨Tryz.f234, by kernel_rfl, by kernel_rfl, by kernel_rfl, by kernel_rfl, by kernel_rfl⟩⟩
theorem tb0_ok : TbOk Tryz.prog tb0 := tables_ok names_ok fun f k h => by
  have step : ∀ {t : T ExtK} {n : Nat} {x : ExtK}, ExtOk Tryz.prog n x → (∀ f k, t.get f = some k → ExtOk Tryz.prog f k) → ∀ f k, (t.set n x).get f = some k → ExtOk Tryz.prog f k := by
    intro t n x hx ht f k h
    by_cases e : f = n
    · subst e; rw [T.get_set_same] at h; cases h; exact hx
    · rw [T.get_set_other _ _ e] at h; exact ht f k h
  exact step e234 (step e228 (step e223 (step e211 (step e182 (step e173 (step e72 (fun f k h => (by cases h)))))))) f k h
end Go.Proofs.YtcaoohbilncoiaaGreatDoor
