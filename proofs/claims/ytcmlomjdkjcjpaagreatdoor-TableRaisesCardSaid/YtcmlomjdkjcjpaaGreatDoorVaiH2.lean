/- A part of an evaluator of the model's code whose answers are proved sound: no statement on the program stands here. -/
import Derived.Test.YtcmlomjdkjcjpaaGreatDoorVaiX
open Go Go.RowKit
namespace Go.Proofs.YtcmlomjdkjcjpaaGreatDoor.Vai
set_option linter.unusedVariables false
set_option linter.unusedSimpArgs false

/-! ### calls of which the result is known, by what is known of the atoms -/
abbrev Known := FuncId → List Value → List Fact → Option Value

structure KnOk (P : Program) (w0 : Base) (kn : Known) : Prop where
  ok : ∀ f args orc v, kn f args orc = some v → ∀ (φ : Emb) (w : World) (cargs : List Value), (∀ g ∈ orc, g.ok φ.sig) → Kept w0 w → VRL φ args cargs →
    Calls P f cargs.toArray w fun e w' => ∃ c, e = .returned c ∧ VR φ v c ∧ Below w.heap.size w w'

def aFunK (P : Program) (tb : Tb) (kn : Known) (L : Nat) : Nat → ACall
  | 0, _, _, _ => none
  | d + 1, fn, args, s => match fn with
    | .func f => match kn f args s.orc, tb.fns.get f with
      | some v, some g => match g.body with
        | some _ => some (v, s)
        | none => none
      | _, _ => aBody P tb L (aFunK P tb kn L d) f args s
    | .yield l => aRound P tb L (aFunK P tb kn L d) l args s
    | _ => none

theorem kn_sound {P : Program} {tb : Tb} {w0 : Base} {kn : Known} (hP : TbOk P tb) (hK : KnOk P w0 kn) {f : FuncId} {args : List Value} {s : St} {v : Value} {g : Func} {c : Code}
    (h1 : kn f args s.orc = some v) (h3 : tb.fns.get f = some g) (h4 : g.body = some c) {φ : Emb} {w : World} {cargs : List Value} (r : Rel w0 φ s w) (hargs : VRL φ args cargs) :
    (callFunc f cargs.toArray).run P w = .ok (.enter f cargs.toArray) w ∧ Calls P f cargs.toArray w (Post w0 φ s s v) := by
  obtain ⟨p1, p2⟩ := hP.fns _ _ h3
  refine ⟨callFunc_body p1 p2 h4 _ _, ?_⟩
  refine (hK.ok f args s.orc v h1 φ w cargs r.orc r.bel hargs).mono ?_
  rintro e w' ⟨c, rfl, hc, hb⟩
  exact ⟨φ, c, rfl, Ext.refl _ _, Nat.le_refl _, r.below hb, hc⟩

theorem fun_soundK {P : Program} {tb : Tb} {w0 : Base} {kn : Known} (hP : TbOk P tb) (hmix : P.follows .mixedOrders = true) (hK : KnOk P w0 kn) (L : Nat) : ∀ d, CallOk P w0 (aFunK P tb kn L d) := by
  intro d
  induction d with
  | zero =>
    refine CallOk.mk ?_ ?_
    · intro f args s v s' h; cases h
    · intro f args s v s' h; cases h
  | succ d ih =>
    refine CallOk.mk ?_ ?_
    · intro f args s v s' h φ w cargs r hargs
      simp only [aFunK] at h
      split at h
      · rename_i u g h2 h3
        split at h
        · rename_i c h4
          cases h
          exact kn_sound hP hK h2 h3 h4 r hargs
        · cases h
      · exact body_sound hP hmix ih h r hargs
    · intro l args s v s' h φ w cargs t r ht hargs
      exact round_sound hP hmix ih h r ht hargs

end Go.Proofs.YtcmlomjdkjcjpaaGreatDoor.Vai
