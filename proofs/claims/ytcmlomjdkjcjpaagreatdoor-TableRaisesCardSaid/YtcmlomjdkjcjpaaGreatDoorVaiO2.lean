/- A part of an evaluator of the model's code whose answers are proved sound: no statement on the program stands here. -/
import Derived.Test.YtcmlomjdkjcjpaaGreatDoorVaiO
open Go Go.RowKit
namespace Go.Proofs.YtcmlomjdkjcjpaaGreatDoor.Vai
set_option linter.unusedVariables false
set_option linter.unusedSimpArgs false

/-! ### maps that change -/
def amodify : List AEnt → Nat → Value → Value → List AEnt
  | [], _, _, _ => []
  | e :: l, 0, k, v => ⟨k, v, e.born⟩ :: l
  | e :: l, i + 1, k, v => e :: amodify l i k v

def aerase : List AEnt → Nat → List AEnt
  | [], _ => []
  | _ :: l, 0 => l
  | e :: l, i + 1 => e :: aerase l i

def aupdate (P : Program) (tb : Tb) (s : St) (t : TypeId) (m k v : Value) : Option St :=
  match tb.und.get t with
  | some (.map key _) => match m with
    | .map (some r) => match s.objs.get r with
      | some (.map es clock) => bif acheckKey P tb false key k then
          match afindKey P tb s key k es with
          | none => none
          | some (some (i, _)) => match es[i]? with
            | none => none
            | some e => bif asameBits e.key k then some (asetObj s r (.map (amodify es i k v) clock)) else none
          | some none => some (asetObj s r (.map (es ++ [⟨k, v, clock⟩]) (clock + 1)))
        else none
      | _ => none
    | _ => none
  | _ => none

def adelete (P : Program) (tb : Tb) (s : St) (t : TypeId) (m k : Value) : Option St :=
  match tb.und.get t with
  | some (.map key _) => match m with
    | .map none => bif acheckKey P tb true key k then some s else none
    | .map (some r) => match s.objs.get r with
      | some (.map es clock) => bif acheckKey P tb es.isEmpty key k then
          match afindKey P tb s key k es with
          | none => none
          | some (some (i, _)) => some (asetObj s r (.map (aerase es i) clock))
          | some none => some (asetObj s r (.map es clock))
        else none
      | _ => none
    | _ => none
  | _ => none

section
variable {P : Program} {tb : Tb} {w0 : Base} {φ : Emb} {s s' : St} {w : World}

theorem EntsR.at_ {es : List AEnt} {cs : List MapEntry} (h : EntsR φ es cs) : ∀ (i : Nat) (e : AEnt), es[i]? = some e → ∃ c, cs[i]? = some c ∧ VR φ e.key c.key ∧ VR φ e.val c.val ∧ e.born = c.born := by
  induction h with
  | nil => intro i e h; simp at h
  | cons a c l m h1 h2 h3 _ ih =>
    intro i e h
    cases i with
    | zero => simp at h; subst h; exact ⟨c, rfl, h1, h2, h3⟩
    | succ i => exact ih i e (by simpa using h)

theorem EntsR.modify {es : List AEnt} {cs : List MapEntry} (h : EntsR φ es cs) {k v kc vc : Value} (hk : VR φ k kc) (hv : VR φ v vc) : ∀ i : Nat, EntsR φ (amodify es i k v) (cs.modify i fun e => { e with key := kc, val := vc }) := by
  induction h with
  | nil => intro i; cases i <;> exact .nil
  | cons a c l m h1 h2 h3 ht ih =>
    intro i
    cases i with
    | zero => exact .cons _ _ _ _ hk hv h3 ht
    | succ i => exact .cons _ _ _ _ h1 h2 h3 (ih i)

theorem EntsR.erase {es : List AEnt} {cs : List MapEntry} (h : EntsR φ es cs) : ∀ i : Nat, EntsR φ (aerase es i) (cs.eraseIdx i) := by
  induction h with
  | nil => intro i; cases i <;> exact .nil
  | cons a c l m h1 h2 h3 ht ih =>
    intro i
    cases i with
    | zero => exact ht
    | succ i => exact .cons _ _ _ _ h1 h2 h3 (ih i)

theorem EntsR.push {es : List AEnt} {cs : List MapEntry} (h : EntsR φ es cs) {e : AEnt} {c : MapEntry} (hk : VR φ e.key c.key) (hv : VR φ e.val c.val) (hb : e.born = c.born) : EntsR φ (es ++ [e]) (cs ++ [c]) := by
  induction h with
  | nil => exact .cons _ _ _ _ hk hv hb .nil
  | cons a c l m h1 h2 h3 ht ih => exact .cons _ _ _ _ h1 h2 h3 ih

theorem run_setObj_of {b : Nat} {c : Obj} (h : w.heap[b]? = some c) (o : Obj) (hn : ∀ x e f, c ≠ .cells x e f := by intro _ _ _ h; cases h) : (setObj b o).run P w = .ok () { w with heap := w.heap.setIfInBounds b o } := by
  simp only [setObj, Sem.run, h]

theorem run_getObj_of {b : Nat} {c : Obj} (h : w.heap[b]? = some c) (hn : ∀ x e f, c ≠ .cells x e f := by intro _ _ _ h; cases h) : (getObj b).run P w = .ok c w := by
  simp only [getObj, Sem.run, h]

theorem aupdate_sound (hP : TbOk P tb) (r : Rel w0 φ s w) {t : TypeId} {m k v mc kc vc : Value} (h : aupdate P tb s t m k v = some s') (hm : VR φ m mc) (hk : VR φ k kc) (hv : VR φ v vc) :
    ∃ w', (Instr.mapUpdate t mc kc vc).run P w = .ok () w' ∧ Rel w0 φ s' w' ∧ s'.next = s.next := by
  unfold aupdate at h
  split at h
  · rename_i key el hu
    split at h
    · rename_i rr
      split at h
      · rename_i es clock ho
        cases hm with
        | map _ tt ht =>
        obtain ⟨ob, g1, g2⟩ := r.getObj ht ho
        cases g2 with
        | map _ cs _ he =>
        cases hck : acheckKey P tb false key k with
        | false => rw [hck] at h; cases h
        | true =>
          rw [hck] at h
          simp only [cond_true] at h
          have h1 := acheckKey_sound hP hck hk w
          split at h
          · cases h
          · rename_i i v0 hf
            obtain ⟨r', e1, e2⟩ := afindKey_sound hP r hk he hf
            cases e2 with
            | some _ _ cv _ =>
            split at h
            · cases h
            · rename_i e hei
              cases hs : asameBits e.key k with
              | false => rw [hs] at h; cases h
              | true =>
                rw [hs] at h
                cases h
                obtain ⟨c, q1, q2, q3, q4⟩ := he.at_ i e hei
                have hc : cs[i]? = some c := by rw [← Array.getElem?_toList]; exact q1
                have hsb := asameBits_sound hs q2 hk
                refine ⟨_, ?_, r.setObj ht ho (.map _ (cs.modify i fun e => { e with key := kc, val := vc }) clock ?_), rfl⟩
                · simp only [Instr.mapUpdate, Sem.run_bind, run_und (hP.und _ _ hu), Result.andThen_ok, run_getObj_of g1, h1, e1, Instr.keyThatStays, hc, Option.map_some, Option.getD_some, hsb, if_true, Sem.run_pure, run_setObj_of g1]
                · rw [Array.toList_modify]; exact he.modify hk hv i
          · rename_i hf
            obtain ⟨r', e1, e2⟩ := afindKey_sound hP r hk he hf
            cases e2
            cases h
            refine ⟨_, ?_, r.setObj ht ho (.map _ (cs.push ⟨kc, vc, clock⟩) (clock + 1) ?_), rfl⟩
            · simp only [Instr.mapUpdate, Sem.run_bind, run_und (hP.und _ _ hu), Result.andThen_ok, run_getObj_of g1, h1, e1, run_setObj_of g1]
            · rw [Array.toList_push]; exact he.push hk hv rfl
      · cases h
    · cases h
  · cases h

theorem adelete_sound (hP : TbOk P tb) (r : Rel w0 φ s w) {t : TypeId} {m k mc kc : Value} (h : adelete P tb s t m k = some s') (hm : VR φ m mc) (hk : VR φ k kc)
    {ts : Array TypeId} (ht0 : ts[0]? = some t) {as : Array Value} (ha : as[0]? = some mc) (hb : as[1]? = some kc) (t' : TypeId) :
    ∃ w', (Builtin.delete_ ts t' as).run P w = .ok (.tuple #[]) w' ∧ Rel w0 φ s' w' ∧ s'.next = s.next := by
  unfold adelete at h
  split at h
  · rename_i key el hu
    split at h
    · cases hm
      cases hck : acheckKey P tb true key k with
      | false => rw [hck] at h; cases h
      | true =>
        rw [hck] at h
        cases h
        have h1 := acheckKey_sound hP hck hk w
        exact ⟨w, by simp only [Builtin.delete_, ht0, ha, hb, Sem.run_bind, run_und (hP.und _ _ hu), Result.andThen_ok, h1, Sem.run_pure], r, rfl⟩
    · rename_i rr
      split at h
      · rename_i es clock ho
        cases hm with
        | map _ tt ht =>
        obtain ⟨ob, g1, g2⟩ := r.getObj ht ho
        cases g2 with
        | map _ cs _ he =>
        cases hck : acheckKey P tb es.isEmpty key k with
        | false => rw [hck] at h; cases h
        | true =>
          rw [hck] at h
          simp only [cond_true] at h
          have hemp : cs.isEmpty = es.isEmpty := by rw [← he.isEmpty]; simp
          have h1 := acheckKey_sound hP hck hk w
          rw [← hemp] at h1
          split at h
          · cases h
          · rename_i i v0 hf
            obtain ⟨r', e1, e2⟩ := afindKey_sound hP r hk he hf
            cases e2 with
            | some _ _ cv _ =>
            cases h
            refine ⟨_, ?_, r.setObj ht ho (.map _ (cs.eraseIdxIfInBounds i) clock ?_), rfl⟩
            · simp only [Builtin.delete_, ht0, ha, hb, Sem.run_bind, run_und (hP.und _ _ hu), Result.andThen_ok, run_getObj_of g1, h1, e1, run_setObj_of g1, Sem.run_pure]
            · rw [Array.toList_eraseIdxIfInBounds]; exact he.erase i
          · rename_i hf
            obtain ⟨r', e1, e2⟩ := afindKey_sound hP r hk he hf
            cases e2
            cases h
            refine ⟨_, ?_, r.setObj ht ho (.map _ cs clock he), rfl⟩
            · simp only [Builtin.delete_, ht0, ha, hb, Sem.run_bind, run_und (hP.und _ _ hu), Result.andThen_ok, run_getObj_of g1, h1, e1, run_setObj_of g1, Sem.run_pure]
      · cases h
    · cases h
  · cases h
end
end Go.Proofs.YtcmlomjdkjcjpaaGreatDoor.Vai
