/- What 'works' of hopperlaw05 does, from every world: it returns true and turns nothing that was there. -/
import Derived.Test.YtflpppneomdkoaaDoorKeyA
import Derived.Test.YtflpppneomdkoaaDoorVaiW2
open Go Go.RowKit Go.Proofs.YtflpppneomdkoaaDoor.Vai
set_option linter.unusedVariables false
namespace Go.Proofs.YtflpppneomdkoaaDoor
set_option maxRecDepth 100000
noncomputable def tb0 : Tb := tables Tryd.prog ext0
theorem tb0_ok : TbOk Tryd.prog tb0 := tables_ok names_ok fun f k h => by
  have step : ∀ {t : T ExtK} {n : Nat} {x : ExtK}, ExtOk Tryd.prog n x → (∀ f k, t.get f = some k → ExtOk Tryd.prog f k) → ∀ f k, (t.set n x).get f = some k → ExtOk Tryd.prog f k := by
    intro t n x hx ht f k h
    by_cases e : f = n
    · subst e; rw [T.get_set_same] at h; cases h; exact hx
    · rw [T.get_set_other _ _ e] at h; exact ht f k h
  exact step e36 (step e31 (step e27 (step e21 (step e17 (fun f k h => (by cases h)))))) f k h
theorem works_any (w : World) : Calls Tryd.prog 4 #[] w fun e w' => e = .returned (.bool true) ∧ Below w.heap.size w w' :=
  calls_of_run tb0_ok mixed (rel0 w) (L := 1000) (d := 100) (args := []) (cargs := []) .nil rfl (by kernel_rfl)
#print axioms works_any
end Go.Proofs.YtflpppneomdkoaaDoor
