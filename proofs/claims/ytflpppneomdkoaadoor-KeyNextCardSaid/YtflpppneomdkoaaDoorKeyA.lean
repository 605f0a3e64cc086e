/- Facts on the program's form for the statement on KeyNext: the functions without a body, their meanings in the model. -/
import Derived.Test.YtflpppneomdkoaaDoorVaiV3
import Derived.Test.YtflpppneomdkoaaDoorVaiW
import Derived.Test.YtflpppneomdkoaaDoorCards
import Derived.Test.YtflpppneomdkoaaDoorTie
import Derived.WalkKit
import Derived.ProofKit
import Derived.OpenShut
import Derived.Deep.DeepHandedRow
open Go Go.RowKit Go.Proofs.YtflpppneomdkoaaDoor.Vai
set_option linter.unusedVariables false
namespace Go.Proofs.YtflpppneomdkoaaDoor

def s0 : St := { ng := 0, next := 0, views := .nil, roots := .nil, objs := .nil }
theorem rel0 (w : World) : Rel w (fun _ => none) s0 w :=
  ⟨Below.refl _ _, fun _ _ h => (by cases h), fun _ _ h => (by cases h), fun _ _ _ h => (by cases h), fun _ _ _ h => (by cases h), fun _ _ _ _ h => (by cases h), fun _ _ h => (by cases h), fun _ _ h => (by cases h), fun _ _ h _ => absurd h (Nat.not_lt_zero _), Nat.le_refl _⟩

noncomputable def ext0 : T ExtK := (((((T.nil.set 17 (.pure Extern.MathFloatBits.float64bits)).set 21 .same).set 27 (.pure Extern.BytealgCount.count)).set 31 (.makeNoZero #[3] #[35])).set 36 (.pure Extern.BytealgIndexByte.indexByte))
set_option maxRecDepth 100000
theorem names_ok : (Tryd.prog.funcs.toList.all fun fn => !(fn.name == "runtime.NumGoroutine")) = true := by kernel_rfl
theorem mixed : Tryd.prog.follows .mixedOrders = true := by kernel_rfl
theorem own : ownKnob Tryd.prog.godebug = none := by kernel_rfl
theorem e17 : ExtOk Tryd.prog 17 (.pure Extern.MathFloatBits.float64bits) := ⟨⟨Tryd.f17, by kernel_rfl, by kernel_rfl, by kernel_rfl, by kernel_rfl, by kernel_rfl⟩⟩
theorem e21 : ExtOk Tryd.prog 21 .same := ⟨⟨Tryd.f21, by kernel_rfl, by kernel_rfl, by kernel_rfl, by kernel_rfl, by kernel_rfl⟩⟩
theorem e27 : ExtOk Tryd.prog 27 (.pure Extern.BytealgCount.count) := ⟨⟨Tryd.f27, by kernel_rfl, by kernel_rfl, by kernel_rfl, by kernel_rfl, by kernel_rfl⟩⟩
theorem e31 : ExtOk Tryd.prog 31 (.makeNoZero #[3] #[35]) := ⟨⟨Tryd.f31, by kernel_rfl, by kernel_rfl, by kernel_rfl, by kernel_rfl, by kernel_rfl⟩⟩
theorem e36 : ExtOk Tryd.prog 36 (.pure Extern.BytealgIndexByte.indexByte) := ⟨⟨Tryd.f36, by kernel_rfl, by kernel_rfl, by kernel_rfl, by kernel_rfl, by kernel_rfl⟩⟩
end Go.Proofs.YtflpppneomdkoaaDoor
