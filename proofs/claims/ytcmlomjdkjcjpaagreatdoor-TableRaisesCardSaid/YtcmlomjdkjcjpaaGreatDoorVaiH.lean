/- A part of an evaluator of the model's code whose answers are proved sound: no statement on the program stands here. -/
import Derived.Test.YtcmlomjdkjcjpaaGreatDoorVaiG
open Go Go.RowKit
namespace Go.Proofs.YtcmlomjdkjcjpaaGreatDoor.Vai
set_option linter.unusedVariables false
set_option linter.unusedSimpArgs false

section
variable {P : Program} {tb : Tb} {w0 : Base} {φ : Emb} {s : St} {w : World}

/-! ### addresses -/
def afieldAddr (tb : Tb) (t : TypeId) (x : Value) (f : Nat) : Option Value :=
  match x with
  | .pointer (some ⟨v, o, none⟩) => match tb.und.get t with
    | some (.struct fields) => match fields.toList[f]? with
      | some fld => match tb.info.get fld.type with
        | some i => bif Nat.beq i.size 0 then none else some (.pointer (some ⟨v, o + fld.offset, none⟩))
        | none => none
      | none => none
    | _ => none
  | _ => none

theorem afieldAddr_sound (hP : TbOk P tb) {t : TypeId} {x c out : Value} {f : Nat} (h : afieldAddr tb t x f = some out) (hx : VR φ x c) :
    ∃ c', (Instr.fieldAt t c f).run P w = .ok c' w ∧ VR φ out c' := by
  unfold afieldAddr at h
  split at h
  · rename_i v o
    split at h
    · rename_i fields hu
      split at h
      · rename_i fld hf
        split at h
        · rename_i i hi
          cases hz : Nat.beq i.size 0 with
          | true => rw [hz] at h; cases h
          | false =>
            rw [hz] at h
            cases h
            cases hx with
            | ptr _ _ t' hv =>
              have hne : i.size ≠ 0 := fun e => by rw [beq_iff.2 e] at hz; cases hz
              have hf' : fields[f]? = some fld := by simpa using hf
              refine ⟨_, ?_, .ptr _ _ _ hv⟩
              simp [Instr.fieldAt, run_und (hP.und _ _ hu), hf', Instr.sureAddr, fieldPlace, run_size (hP.info _ _ hi), hne, add_mk]
        · cases h
      · cases h
    · cases h
  · cases h

def aindexOf (i : Value) (n : Nat) : Option Nat :=
  match i with
  | .int _ z => match z with
    | .ofNat k => bif Nat.blt k n then some k else none
    | .negSucc _ => none
  | _ => none

theorem aindexOf_spec {i c : Value} {n k : Nat} (h : aindexOf i n = some k) (hi : VR φ i c) : ∃ kd, c = .int kd (k : Int) ∧ k < n := by
  unfold aindexOf at h
  split at h
  · rename_i kd z
    split at h
    · rename_i m
      cases hb : Nat.blt m n with
      | false => rw [hb] at h; cases h
      | true => rw [hb] at h; cases h; cases hi; exact ⟨kd, rfl, blt_iff.1 hb⟩
    · cases h
  · cases h

def aindexAddr (tb : Tb) (t : TypeId) (x ix : Value) : Option Value :=
  match tb.und.get t with
  | some (.slice elem) => match x with
    | .slice (some ⟨v, o, none⟩) len _ => match tb.info.get elem with
      | some i => match aindexOf ix len with
        | some k => some (.pointer (some ⟨v, o + k * i.size, none⟩))
        | none => none
      | none => none
    | _ => none
  | some (.array len elem) => match x with
    | .pointer (some ⟨v, o, none⟩) => match tb.info.get elem with
      | some i => match aindexOf ix len with
        | some k => some (.pointer (some ⟨v, o + k * i.size, none⟩))
        | none => none
      | none => none
    | _ => none
  | _ => none

theorem aindexAddr_sound (hP : TbOk P tb) {t : TypeId} {x c ix ci out : Value} (h : aindexAddr tb t x ix = some out) (hx : VR φ x c) (hi : VR φ ix ci) :
    ∃ c', (Instr.indexAt t c ci).run P w = .ok c' w ∧ VR φ out c' := by
  unfold aindexAddr at h
  split at h
  · rename_i elem hu
    split at h
    · rename_i v o len cap
      split at h
      · rename_i i hinf
        split at h
        · rename_i k hk
          cases h
          obtain ⟨kd, rfl, hlt⟩ := aindexOf_spec hk hi
          cases hx with
          | slice _ _ t' _ _ c' hv g1 g2 =>
            refine ⟨_, ?_, .ptr _ _ _ hv⟩
            have h2 : (0 : Int) ≤ (k : Int) ∧ (k : Int) < (len : Int) := by omega
            simp [Instr.indexAt, asIntOf, run_und (hP.und _ _ hu), h2, hlt, run_size (hP.info _ _ hinf), add_mk]
        · cases h
      · cases h
    · cases h
  · rename_i len elem hu
    split at h
    · rename_i v o
      split at h
      · rename_i i hinf
        split at h
        · rename_i k hk
          cases h
          obtain ⟨kd, rfl, hlt⟩ := aindexOf_spec hk hi
          cases hx with
          | ptr _ _ t' hv =>
            refine ⟨_, ?_, .ptr _ _ _ hv⟩
            have h2 : (0 : Int) ≤ (k : Int) ∧ (k : Int) < (len : Int) := by omega
            by_cases hl : len ≤ 1
            · simp [Instr.indexAt, asIntOf, run_und (hP.und _ _ hu), h2, hlt, run_size (hP.info _ _ hinf), add_mk, Instr.sureAddr, hl]
            · simp [Instr.indexAt, asIntOf, run_und (hP.und _ _ hu), h2, hlt, run_size (hP.info _ _ hinf), add_mk, Instr.sureAddr, hl]
        · cases h
      · cases h
    · cases h
  · cases h

/-! ### parts of aggregates -/
def afield (tb : Tb) (t : TypeId) (x : Value) (f : Nat) : Option Value :=
  match x with
  | .agg cs => match tb.und.get t with
    | some (.struct fields) => match fields.toList[f]? with
      | some fld => apart_ tb fld.type cs fld.offset
      | none => none
    | _ => none
  | _ => none

theorem afield_sound (hP : TbOk P tb) {t : TypeId} {x c out : Value} {f : Nat} (h : afield tb t x f = some out) (hx : VR φ x c) :
    ∃ c', (Instr.field t c f).run P w = .ok c' w ∧ VR φ out c' := by
  unfold afield at h
  split at h
  · rename_i cs
    obtain ⟨cs', rfl, ha⟩ := hx.agg_inv
    split at h
    · rename_i fields hu
      split at h
      · rename_i fld hf
        obtain ⟨c', h1, h2⟩ := run_part (P := P) (w := w) hP ha h
        have hf' : fields[f]? = some fld := by simpa using hf
        exact ⟨c', by simp [Instr.field, run_und (hP.und _ _ hu), hf', asAgg, h1], h2⟩
      · cases h
    · cases h
  · cases h

def aindexA (tb : Tb) (t : TypeId) (x ix : Value) : Option Value :=
  match x with
  | .agg cs => match tb.und.get t with
    | some (.array len elem) => match tb.info.get elem with
      | some i => match aindexOf ix len with
        | some k => apart_ tb elem cs (k * i.size)
        | none => none
      | none => none
    | _ => none
  | _ => none

theorem aindexA_sound (hP : TbOk P tb) {t : TypeId} {x c ix ci out : Value} (h : aindexA tb t x ix = some out) (hx : VR φ x c) (hi : VR φ ix ci) :
    ∃ c', (Instr.index t c ci).run P w = .ok c' w ∧ VR φ out c' := by
  unfold aindexA at h
  split at h
  · rename_i cs
    obtain ⟨cs', rfl, ha⟩ := hx.agg_inv
    split at h
    · rename_i len elem hu
      split at h
      · rename_i i hinf
        split at h
        · rename_i k hk
          obtain ⟨kd, rfl, hlt⟩ := aindexOf_spec hk hi
          obtain ⟨c', h1, h2⟩ := run_part (P := P) (w := w) hP ha h
          have h3 : (0 : Int) ≤ (k : Int) ∧ (k : Int) < (len : Int) := by omega
          exact ⟨c', by simp [Instr.index, asIntOf, run_und (hP.und _ _ hu), h3, hlt, run_size (hP.info _ _ hinf), h1], h2⟩
        · cases h
      · cases h
    · cases h
  · cases h

def aextract (x : Value) (k : Nat) : Option Value :=
  match x with
  | .tuple vs => vs.toList[k]?
  | _ => none
theorem aextract_sound {x c out : Value} {k : Nat} (h : aextract x k = some out) (hx : VR φ x c) : ∃ c', (Instr.extract c k).run P w = .ok c' w ∧ VR φ out c' := by
  unfold aextract at h
  split at h
  · obtain ⟨cs', rfl, ha⟩ := hx.tuple_inv
    obtain ⟨c', h1, h2⟩ := ha.get (by simpa using h)
    exact ⟨c', by simp [Instr.extract, h1], h2⟩
  · cases h

def amakeIface (tb : Tb) (t : TypeId) (x : Value) : Option Value :=
  match tb.und.get t with
  | some (.interface _) => none
  | some _ => some (.iface t x)
  | none => none
theorem amakeIface_sound (hP : TbOk P tb) {t : TypeId} {x c out : Value} (h : amakeIface tb t x = some out) (hx : VR φ x c) : ∃ c', (Instr.makeInterface t c).run P w = .ok c' w ∧ VR φ out c' := by
  unfold amakeIface at h
  split at h
  · cases h
  · rename_i d hd hu
    cases h
    refine ⟨_, ?_, .iface t _ _ hx⟩
    simp only [Instr.makeInterface, Sem.run_bind, run_und (hP.und _ _ hu), Result.andThen_ok]
    cases d <;> first | rfl | exact absurd rfl (hd _)
  · cases h

/-! ### new values -/
def aplaces (tb : Tb) : List Field → Option (List (Nat × Nat))
  | [] => some []
  | f :: l => match tb.info.get f.type with
    | none => none
    | some i => match aplaces tb l with
      | none => none
      | some r => some ((f.offset, i.size) :: r)
theorem aplaces_sound (hP : TbOk P tb) : ∀ (l : List Field) (r : List (Nat × Nat)), aplaces tb l = some r →
    (l.mapM fun f => do pure (f.offset, ← sizeOf f.type) : Sem (List (Nat × Nat))).run P w = .ok r w := by
  intro l
  induction l with
  | nil => intro r h; simp only [aplaces, Option.some.injEq] at h; subst h; simp
  | cons f l ih =>
    intro r h
    simp only [aplaces] at h
    split at h
    · cases h
    · rename_i i hi
      split at h
      · cases h
      · rename_i r' hr
        cases h
        simp only [List.mapM_cons, Sem.run_bind, run_size (hP.info _ _ hi), Result.andThen_ok, Sem.run_pure, ih r' hr]
theorem run_mapM_array {α β : Type} (f : α → Sem β) (a : Array α) {r : List β} {w' : World} (h : (a.toList.mapM f).run P w = .ok r w') : (a.mapM f).run P w = .ok r.toArray w' := by
  have : a.mapM f = List.toArray <$> a.toList.mapM f := by rw [Array.mapM_eq_mapM_toList]
  rw [this, Sem.run_map, h]; rfl

def abuild (tb : Tb) (t : TypeId) (parts : List (Nat × Value)) : Option Value :=
  match tb.info.get t with
  | none => none
  | some i => match i.zero with
    | none => none
    | some z => bif plainA z.cells then
        match tb.und.get t with
        | some (.struct fields) => match aplaces tb fields.toList with
          | none => none
          | some pl => match Instr.fill (fun k => pl[k]?) z.cells parts with
            | some cells => some (.agg cells)
            | none => none
        | some (.array _ elem) => match tb.info.get elem with
          | none => none
          | some ie => match Instr.fill (fun k => some (k * ie.size, ie.size)) z.cells parts with
            | some cells => some (.agg cells)
            | none => none
        | _ => none
      else none

theorem VRA.plain (φ : Emb) (a : Array Value) (h : plainA a = true) : VRA φ a a := by
  obtain ⟨l⟩ := a
  exact (VRL.plain l (by simpa [plainA] using h)).array

theorem abuild_sound (hP : TbOk P tb) {t : TypeId} {ps : List (Nat × Value)} {qs : Array (Nat × Value)} {out : Value} (h : abuild tb t ps = some out) (hx : PartsR φ ps qs.toList) :
    ∃ c', (Instr.build t qs).run P w = .ok c' w ∧ VR φ out c' := by
  unfold abuild at h
  split at h
  · cases h
  · rename_i i hi
    split at h
    · cases h
    · rename_i z hz
      cases hp : plainA z.cells with
      | false => rw [hp] at h; cases h
      | true =>
        rw [hp] at h
        simp only [cond_true] at h
        have hzr := VRA.plain φ z.cells hp
        have hrz := run_zero (w := w) (hP.info _ _ hi) hz
        split at h
        · rename_i fields hu
          split at h
          · cases h
          · rename_i pl hpl
            have hm := run_mapM_array (w := w) (fun f : Field => (do pure (f.offset, ← sizeOf f.type) : Sem (Nat × Nat))) fields (aplaces_sound hP _ _ hpl)
            split at h
            · rename_i cells hf
              cases h
              obtain ⟨out', h1, h2⟩ := fill_rel _ _ _ _ _ _ hx hzr hf
              refine ⟨.agg out', ?_, h2.agg⟩
              have h1' : Instr.fill (fun x => pl.toArray[x]?) z.cells qs.toList = some out' := by
                have : (fun x : Nat => pl.toArray[x]?) = (fun k : Nat => pl[k]?) := by funext k; simp
                rw [this]; exact h1
              simp only [Instr.build, Sem.run_bind, hrz, Result.andThen_ok, run_und (hP.und _ _ hu), hm, h1', Sem.run_pure]
            · cases h
        · rename_i n elem hu
          split at h
          · cases h
          · rename_i ie hie
            split at h
            · rename_i cells hf
              cases h
              obtain ⟨out', h1, h2⟩ := fill_rel _ _ _ _ _ _ hx hzr hf
              refine ⟨.agg out', ?_, h2.agg⟩
              simp [Instr.build, hrz, run_und (hP.und _ _ hu), run_size (hP.info _ _ hie), h1]
            · cases h
        · cases h
end
end Go.Proofs.YtcmlomjdkjcjpaaGreatDoor.Vai
