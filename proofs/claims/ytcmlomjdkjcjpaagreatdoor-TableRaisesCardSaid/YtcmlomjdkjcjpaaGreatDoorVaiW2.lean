/- A part of an evaluator of the model's code whose answers are proved sound: no statement on the program stands here. -/
import Derived.Test.YtcmlomjdkjcjpaaGreatDoorVaiV3
import Derived.Test.YtcmlomjdkjcjpaaGreatDoorVaiW
open Go Go.RowKit
namespace Go.Proofs.YtcmlomjdkjcjpaaGreatDoor.Vai
set_option linter.unusedVariables false
set_option linter.unusedSimpArgs false

/-- A run of the evaluator that yields a plain value: what the call does. -/
theorem calls_of_run {P : Program} {tb : Tb} (hP : TbOk P tb) (hmix : P.follows .mixedOrders = true) {w : World} {φ : Emb} {s : St} (r : Rel (Base.all w) φ s w) {L d : Nat} {f : FuncId} {args cargs : List Value} (ha : VRL φ args cargs) {v : Value} (hv : plain v = true)
    (h : (match aFun P tb L d (.func f) args s with | some (u, _) => veq u v | none => false) = true) : Calls P f cargs.toArray w fun e w' => e = .returned v ∧ Below w.heap.size w w' := by
  split at h
  · rename_i u s' hu
    have e := veq_sound _ _ h
    subst e
    refine ((fun_sound hP hmix L d).fn f args s u s' hu φ w cargs r ha).2.mono ?_
    intro e w' hpost
    obtain ⟨ψ, c, rfl, _, _, h4, h5⟩ := hpost
    exact ⟨by rw [h5.eq_of_plain hv], h4.bel.all⟩
  · cases h
theorem vrl_plain (φ : Emb) : ∀ l : List Value, plainL l = true → VRL φ l l := by
  intro l
  induction l with
  | nil => intro _; exact .nil
  | cons a l ih =>
    intro h
    simp only [plainL, Bool.and_eq_true] at h
    exact .cons _ _ _ _ (VR.of_plain φ a h.1) (ih h.2)
end Go.Proofs.YtcmlomjdkjcjpaaGreatDoor.Vai
