/- Facts on the program's form for the statement on TableRaises: the functions without a body, their meanings in the model. -/
import Derived.Test.YtcmlomjdkjcjpaaGreatDoorVaiH2
import Derived.Test.YtcmlomjdkjcjpaaGreatDoorCards
import Derived.Test.YtcmlomjdkjcjpaaGreatDoorTie
import Derived.WalkKit
import Derived.WalkSmall
import Derived.ProofKit
open Go Go.RowKit Go.Proofs.YtcmlomjdkjcjpaaGreatDoor.Vai
namespace Go.Proofs.YtcmlomjdkjcjpaaGreatDoor
set_option linter.unusedVariables false
set_option linter.unusedSimpArgs false
def sNil : St := { ng := 0, next := 0, views := .nil, roots := .nil, objs := .nil }
theorem rel0 (w : World) (sig : Nat → Int) : Rel (Base.all w) ⟨fun _ => none, sig⟩ sNil w :=
  ⟨Kept.refl (Base.all w), fun _ _ h => (by cases h), fun _ _ h => (by cases h), fun _ _ _ h => (by cases h), fun _ _ _ h => (by cases h), fun _ _ _ _ h => (by cases h), fun _ _ h => (by cases h), fun _ _ h => (by cases h), fun _ _ h _ => absurd h (Nat.not_lt_zero _), Nat.le_refl _, fun _ h => (by cases h)⟩
noncomputable def ext0 : T ExtK := (((((((T.nil.set 21 .mapsClone).set 41 (.pure Extern.MathFloatBits.float64bits)).set 87 (.pure Extern.BytealgCompare.compare)).set 89 .same).set 98 (.pure Extern.BytealgCount.count)).set 102 (.makeNoZero #[3] #[101])).set 107 (.pure Extern.BytealgIndexByte.indexByte))
noncomputable def tb0 : Tb := tables Tryz.prog ext0
set_option maxRecDepth 100000
theorem names_ok : (Tryz.prog.funcs.toList.all fun fn => !(fn.name == "runtime.NumGoroutine")) = true := by kernel_rfl
theorem mixed : Tryz.prog.follows .mixedOrders = true := by kernel_rfl
theorem own : ownKnob Tryz.prog.godebug = none := by kernel_rfl
theorem e21 : ExtOk Tryz.prog 21 .mapsClone := ⟨⟨Tryz.f21, by kernel_rfl, by kernel_rfl, by kernel_rfl, by kernel_rfl, by kernel_rfl⟩⟩
theorem e41 : ExtOk Tryz.prog 41 (.pure Extern.MathFloatBits.float64bits) := ⟨⟨Tryz.f41, by kernel_rfl, by kernel_rfl, by kernel_rfl, by kernel_rfl, by kernel_rfl⟩⟩
theorem e87 : ExtOk Tryz.prog 87 (.pure Extern.BytealgCompare.compare) := ⟨⟨Tryz.f87, by kernel_rfl, by kernel_rfl, by kernel_rfl, by kernel_rfl, by kernel_rfl⟩⟩
theorem e89 : ExtOk Tryz.prog 89 .same := ⟨⟨Tryz.f89, by kernel_rfl, by kernel_rfl, by kernel_rfl, by kernel_rfl, by kernel_rfl⟩⟩
theorem e98 : ExtOk Tryz.prog 98 (.pure Extern.BytealgCount.count) := ⟨⟨Tryz.f98, by kernel_rfl, by kernel_rfl, by kernel_rfl, by kernel_rfl, by kernel_rfl⟩⟩
theorem e102 : ExtOk Tryz.prog 102 (.makeNoZero #[3] #[101]) := ⟨⟨Tryz.f102, by kernel_rfl, by kernel_rfl, by kernel_rfl, by kernel_rfl, by kernel_rfl⟩⟩
theorem e107 : ExtOk Tryz.prog 107 (.pure Extern.BytealgIndexByte.indexByte) := ⟨⟨Tryz.f107, by kernel_rfl, by kernel_rfl, by kernel_rfl, by kernel_rfl, by kernel_rfl⟩⟩
theorem tb0_ok : TbOk Tryz.prog tb0 := tables_ok names_ok fun f k h => by
  have step : ∀ {t : T ExtK} {n : Nat} {x : ExtK}, ExtOk Tryz.prog n x → (∀ f k, t.get f = some k → ExtOk Tryz.prog f k) → ∀ f k, (t.set n x).get f = some k → ExtOk Tryz.prog f k := by
    intro t n x hx ht f k h
    by_cases e : f = n
    · subst e; rw [T.get_set_same] at h; cases h; exact hx
    · rw [T.get_set_other _ _ e] at h; exact ht f k h
  exact (step e107 (step e102 (step e98 (step e89 (step e87 (step e41 (step e21 (fun f k h => (by cases h))))))))) f k h
end Go.Proofs.YtcmlomjdkjcjpaaGreatDoor
