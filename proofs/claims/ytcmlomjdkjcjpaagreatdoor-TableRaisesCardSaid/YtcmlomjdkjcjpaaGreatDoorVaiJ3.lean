/- A part of an evaluator of the model's code whose answers are proved sound: no statement on the program stands here. -/
import Derived.Test.YtcmlomjdkjcjpaaGreatDoorVaiJ2
open Go Go.RowKit
namespace Go.Proofs.YtcmlomjdkjcjpaaGreatDoor.Vai
set_option linter.unusedVariables false
set_option linter.unusedSimpArgs false

/-- The entry that an iterator over a map stands on. -/
def aentry (s : St) (it : Value) : Option Value :=
  match it with
  | .pointer (some ⟨r, 0, none⟩) => match s.objs.get r with
    | some (.miter (some m) _ seen stepped) => match seen.getLast?, s.objs.get m with
      | some stamp, some (.map es clock) => bif Nat.beq clock stepped then
          match es.find? (fun e => Nat.beq e.born stamp) with
          | some e => some (.tuple #[e.key, e.val])
          | none => none
        else none
      | _, _ => none
    | _ => none
  | _ => none

def isIface : TypeDesc → Bool
  | .interface _ => true
  | _ => false

/-- What is behind an interface, of just this type. -/
def aassert (tb : Tb) (x : Value) (asserted : TypeId) (commaOk : Bool) : Option Value :=
  match tb.und.get asserted with
  | none => none
  | some d => bif isIface d then none else match x with
    | .iface t v => bif Nat.beq t asserted then some (bif commaOk then .tuple #[v, .bool true] else v) else none
    | _ => none

section
variable {P : Program} {tb : Tb} {w0 : Base} {φ : Emb} {s : St} {w : World}

theorem EntsR.find {es : List AEnt} {cs : List MapEntry} (h : EntsR φ es cs) (p : Nat → Bool) (e : AEnt) (hf : es.find? (fun e => p e.born) = some e) :
    ∃ c, cs.find? (fun e => p e.born) = some c ∧ VR φ e.key c.key ∧ VR φ e.val c.val := by
  induction h with
  | nil => cases hf
  | cons a c l m h1 h2 h3 ht ih =>
    simp only [List.find?_cons, ← h3] at hf ⊢
    split at hf
    · cases hf; exact ⟨c, rfl, h1, h2⟩
    · exact ih hf

theorem VR.two {a b c d : Value} (h : VR φ a c) (k : VR φ b d) : VR φ (.tuple #[a, b]) (.tuple #[c, d]) := by
  refine .tuple _ _ rfl (fun i x y hx hy => ?_)
  match i with
  | 0 => simp at hx hy; subst hx; subst hy; exact h
  | 1 => simp at hx hy; subst hx; subst hy; exact k
  | n + 2 => simp at hx

theorem aentry_sound (r : Rel w0 φ s w) {it c out : Value} (h : aentry s it = some out) (hx : VR φ it c) : ∃ c', (Instr.entry c).run P w = .ok c' w ∧ VR φ out c' := by
  unfold aentry at h
  split at h
  · rename_i rr
    cases hx with
    | ptr _ _ tt ht =>
    split at h
    · rename_i m since seen stepped ho
      split at h
      · rename_i stamp es clock hs hom
        obtain ⟨ob, g1, g2⟩ := r.getObj ht ho
        cases g2 with
        | miter _ tm hm =>
        obtain ⟨om, m1, m2⟩ := r.getObj hm hom
        cases m2 with
        | map _ cs _ he =>
        cases hb : Nat.beq clock stepped with
        | false => rw [hb] at h; cases h
        | true =>
          rw [hb] at h
          simp only [cond_true] at h
          have hbe := beq_iff.1 hb
          split at h
          · rename_i e hfe
            cases h
            obtain ⟨ce, q1, q2, q3⟩ := he.find (fun n => Nat.beq n stamp) e hfe
            have q1' : cs.find? (fun e => e.born == stamp) = some ce := by
              rw [← Array.find?_toList, ← q1]; congr 1; funext e; rw [Bool.eq_iff_iff, beq_iff]; simp
            refine ⟨_, ?_, q2.two q3⟩
            have hback : seen.toArray.back? = some stamp := by simp [hs]
            simp only [Instr.entry, Sem.run_bind, getObj, Sem.run, g1, m1, Result.andThen_ok, hback, q1', hbe, bne_self_eq_false, Bool.false_eq_true, if_false, Sem.run_pure]
          · cases h
      · cases h
    · cases h
  · cases h

theorem aassert_sound (hP : TbOk P tb) {x c out : Value} {xt asserted : TypeId} {k : Bool} (h : aassert tb x asserted k = some out) (hx : VR φ x c) :
    ∃ c', (Instr.typeAssert c xt asserted k).run P w = .ok c' w ∧ VR φ out c' := by
  unfold aassert at h
  split at h
  · cases h
  · rename_i d hd
    cases hi : isIface d with
    | true => rw [hi] at h; cases h
    | false =>
      rw [hi] at h
      simp only [cond_false] at h
      split at h
      · rename_i t v
        cases hb : Nat.beq t asserted with
        | false => rw [hb] at h; cases h
        | true =>
          rw [hb] at h
          cases h
          have hte := beq_iff.1 hb
          cases hx with
          | iface _ _ cv hv =>
          refine ⟨if k then .tuple #[cv, .bool true] else cv, ?_, ?_⟩
          · simp only [Instr.typeAssert, Sem.run_bind, run_und (hP.und _ _ hd), Result.andThen_ok]
            cases d <;> first | (cases hi; done) | (simp [hte])
          · cases k with
            | true => exact hv.pair true
            | false => exact hv
      · cases h
end
end Go.Proofs.YtcmlomjdkjcjpaaGreatDoor.Vai
