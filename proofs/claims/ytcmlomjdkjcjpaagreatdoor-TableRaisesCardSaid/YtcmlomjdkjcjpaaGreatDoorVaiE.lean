/- A part of an evaluator of the model's code whose answers are proved sound: no statement on the program stands here. -/
import Derived.Test.YtcmlomjdkjcjpaaGreatDoorVaiD
import Derived.ChangeKeysEq
open Go Go.RowKit
namespace Go.Proofs.YtcmlomjdkjcjpaaGreatDoor.Vai
set_option linter.unusedVariables false
set_option linter.unusedSimpArgs false

/-- Functions without a Go body that the evaluator knows. -/
inductive ExtK where
  | pure (g : Array Value → Sem Value)
  | same
  | makeNoZero (params results : Array TypeId)
  | mapsClone

def ExtK.impl : ExtK → Array Value → Sem Value
  | .pure g => g
  | .same => Extern.AbiNoEscape.same
  | .makeNoZero ps rs => Extern.BytealgMakeNoZero.makeNoZero ps rs
  | .mapsClone => Extern.MapsClone.clone

structure Tb where
  und : T TypeDesc
  info : T TypeInfo
  fns : T Func
  ext : T ExtK

structure ExtOk (P : Program) (f : FuncId) (k : ExtK) : Prop where
  ok : ∃ fn, P.funcs[f]? = some fn ∧ (fn.name == "runtime.NumGoroutine") = false ∧ fn.body = none ∧ Extern.findNext fn = none ∧ Extern.find fn = some k.impl

structure TbOk (P : Program) (tb : Tb) : Prop where
  und : ∀ t d, tb.und.get t = some d → P.underlying t = some d
  info : ∀ t i, tb.info.get t = some i → P.info? t = some i
  fns : ∀ f fn, tb.fns.get f = some fn → P.funcs[f]? = some fn ∧ (fn.name == "runtime.NumGoroutine") = false
  ext : ∀ f k, tb.ext.get f = some k → ExtOk P f k

/-! ### what needs no world -/
def pureRun {α : Type} (P : Program) : Sem α → Option α
  | .pure a => some a
  | .program k => pureRun P (k P)
  | .mark _ k => pureRun P k
  | _ => none

theorem pureRun_run {α : Type} {P : Program} (m : Sem α) {a : α} (h : pureRun P m = some a) (w : World) : m.run P w = .ok a w := by
  induction m with
  | pure b => simp only [pureRun, Option.some.injEq] at h; rw [h]; rfl
  | program k ih => simp only [pureRun] at h; simp only [Sem.run]; exact ih P h
  | mark m k ih => simp only [pureRun] at h; simp only [Sem.run]; exact ih h
  | _ => simp [pureRun] at h

section
variable {P : Program} {w : World}
theorem run_und {t : TypeId} {d : TypeDesc} (h : P.underlying t = some d) : (underlying t).run P w = .ok d w := run_underlying h w
theorem run_info {t : TypeId} {i : TypeInfo} (h : P.info? t = some i) : (typeInfo t).run P w = .ok i w := by
  simp [typeInfo, h]
theorem run_size {t : TypeId} {i : TypeInfo} (h : P.info? t = some i) : (sizeOf t).run P w = .ok i.size w := by
  simp [sizeOf, run_info h]
theorem run_zero {t : TypeId} {i : TypeInfo} {v : Value} (h : P.info? t = some i) (hz : i.zero = some v) : (zeroValue t).run P w = .ok v w := by
  simp [zeroValue, run_info h, hz]
def aggDesc : TypeDesc → Bool
  | .struct _ => true
  | .array _ _ => true
  | _ => false
theorem run_agg {t : TypeId} {d : TypeDesc} (h : P.underlying t = some d) : (isAgg t).run P w = .ok (aggDesc d) w := by
  simp only [isAgg, Sem.run_bind, run_und h, Result.andThen_ok]
  cases d <;> rfl
end

theorem add_mk (b o j : Nat) : (⟨b, o, none⟩ : Addr).add j = ⟨b, o + j, none⟩ := by
  unfold Addr.add
  split
  · rename_i h; subst h; simp
  · rfl

/-! ### loads -/
def aloadN (s : St) (v : Nat) : Nat → Nat → Option (List Value)
  | _, 0 => some []
  | o, n + 1 => match aload s v o with
    | none => none
    | some x => match aloadN s v (o + 1) n with
      | none => none
      | some l => some (x :: l)

theorem Rel.loadN {w0 : Base} {φ : Emb} {s : St} {w : World} (r : Rel w0 φ s w) {v : Nat} {t : Tgt} (hv : φ v = some t) :
    ∀ (n o : Nat) (l : List Value), aloadN s v o n = some l → ∃ cs, VRL φ l cs ∧ cs.length = n ∧ ∀ j c, cs[j]? = some c → w.cell? ((⟨t.blk, o, none⟩ : Addr).add j) = some c := by
  intro n
  induction n with
  | zero => intro o l h; simp only [aloadN, Option.some.injEq] at h; subst h; exact ⟨[], .nil, rfl, fun j c h => by simp at h⟩
  | succ n ih =>
    intro o l h
    simp only [aloadN] at h
    split at h
    · cases h
    · rename_i x hx
      split at h
      · cases h
      · rename_i l' hl
        cases h
        obtain ⟨c, hc, hr⟩ := r.load hv hx
        obtain ⟨cs, h1, h2, h3⟩ := ih (o + 1) l' hl
        refine ⟨c :: cs, .cons _ _ _ _ hr h1, by simp [h2], ?_⟩
        intro j c' hj
        rw [add_mk]
        cases j with
        | zero => simp at hj; subst hj; exact hc
        | succ j =>
          have := h3 j c' (by simpa using hj)
          rw [add_mk] at this
          rw [show o + (j + 1) = o + 1 + j by omega]; exact this

theorem Rel.run_loadN {P : Program} {w0 : Base} {φ : Emb} {s : St} {w : World} (r : Rel w0 φ s w) {v : Nat} {t : Tgt} (hv : φ v = some t) {n o : Nat} {l : List Value} (h : aloadN s v o n = some l) :
    ∃ cs, VRL φ l cs ∧ cs.length = n ∧ (loadCells ⟨t.blk, o, none⟩ n).run P w = .ok cs.toArray w := by
  obtain ⟨cs, h1, h2, h3⟩ := r.loadN hv n o l h
  refine ⟨cs, h1, h2, ?_⟩
  have := run_loadCells_list (P := P) w ⟨t.blk, o, none⟩ cs h3
  rwa [h2] at this

def aloadVar (tb : Tb) (s : St) (t : TypeId) (v o : Nat) : Option Value :=
  match tb.und.get t with
  | none => none
  | some d => bif aggDesc d then
      match tb.info.get t with
      | none => none
      | some i => match aloadN s v o i.size with
        | none => none
        | some l => some (.agg l.toArray)
    else aload s v o

theorem Rel.run_loadVar {P : Program} {tb : Tb} (hP : TbOk P tb) {w0 : Base} {φ : Emb} {s : St} {w : World} (r : Rel w0 φ s w) {ty v o : Nat} {t : Tgt} {x : Value} (hv : φ v = some t) (h : aloadVar tb s ty v o = some x) :
    ∃ c, (loadVar ty ⟨t.blk, o, none⟩).run P w = .ok c w ∧ VR φ x c := by
  unfold aloadVar at h
  split at h
  · cases h
  · rename_i d hd
    have hu := hP.und _ _ hd
    cases ha : aggDesc d with
    | true =>
      rw [ha] at h
      simp only [cond_true] at h
      split at h
      · cases h
      · rename_i i hi
        split at h
        · cases h
        · rename_i l hl
          cases h
          obtain ⟨cs, h1, h2, h3⟩ := r.run_loadN (P := P) hv hl
          refine ⟨.agg cs.toArray, ?_, ?_⟩
          · simp [loadVar, run_agg hu, ha, run_size (hP.info _ _ hi), h3]
          · exact .agg _ _ h1.array.size h1.array.at_
    | false =>
      rw [ha] at h
      simp only [cond_false] at h
      obtain ⟨c, h1, h2⟩ := r.load hv h
      exact ⟨c, by simp [loadVar, run_agg hu, ha, h1], h2⟩

/-! ### aggregates -/
theorem VRA.extract {φ : Emb} {as cs : Array Value} (h : VRA φ as cs) (i j : Nat) : VRA φ (as.extract i j) (cs.extract i j) := by
  refine ⟨by simp [h.size], ?_⟩
  intro k x y hx hy
  rw [Array.getElem?_extract] at hx hy
  split at hx
  · split at hy
    · exact h.at_ _ _ _ hx hy
    · cases hy
  · cases hx
theorem VRA.get {φ : Emb} {as cs : Array Value} (h : VRA φ as cs) {i : Nat} {x : Value} (hx : as[i]? = some x) : ∃ y, cs[i]? = some y ∧ VR φ x y := by
  have hi : i < cs.size := by rw [← h.size]; exact (Array.getElem?_eq_some_iff.1 hx).1
  exact ⟨cs[i], Array.getElem?_eq_getElem hi, h.at_ i x _ hx (Array.getElem?_eq_getElem hi)⟩
theorem VRA.agg {φ : Emb} {as cs : Array Value} (h : VRA φ as cs) : VR φ (.agg as) (.agg cs) := .agg _ _ h.size h.at_
theorem VR.agg_inv {φ : Emb} {as : Array Value} {c : Value} (h : VR φ (.agg as) c) : ∃ cs, c = .agg cs ∧ VRA φ as cs := by
  cases h with
  | agg _ cs hs ha => exact ⟨cs, rfl, hs, ha⟩
theorem VR.tuple_inv {φ : Emb} {as : Array Value} {c : Value} (h : VR φ (.tuple as) c) : ∃ cs, c = .tuple cs ∧ VRA φ as cs := by
  cases h with
  | tuple _ cs hs ha => exact ⟨cs, rfl, hs, ha⟩
theorem VRA.one {φ : Emb} {a c : Value} (h : VR φ a c) : VRA φ #[a] #[c] := by
  refine ⟨rfl, fun i x y hx hy => ?_⟩
  cases i with
  | zero => simp at hx hy; subst hx; subst hy; exact h
  | succ i => simp at hx
theorem VR.cells {φ : Emb} {a c : Value} (h : VR φ a c) : VRA φ a.cells c.cells := by
  cases h with
  | agg as cs hs ha => exact ⟨hs, ha⟩
  | sy c k n h => exact VRA.one (.sy c k n h)
  | top n _ e e1 => cases c <;> first | exact VRA.one (.top _ _ e e1) | cases e1
  | bool b => exact VRA.one (.bool b)
  | int k n => exact VRA.one (.int k n)
  | float k n => exact VRA.one (.float k n)
  | complex k a b => exact VRA.one (.complex k a b)
  | string s => exact VRA.one (.string s)
  | nilFunc => exact VRA.one .nilFunc
  | nilIface => exact VRA.one .nilIface
  | pnil => exact VRA.one .pnil
  | ptr v o t h => exact VRA.one (.ptr v o t h)
  | snil l c => exact VRA.one (.snil l c)
  | slice v o t l c c' h h1 h2 => exact VRA.one (.slice v o t l c c' h h1 h2)
  | mnil => exact VRA.one .mnil
  | map r t h => exact VRA.one (.map r t h)
  | cnil => exact VRA.one .cnil
  | func fn fn' f1 f2 c1 c2 hf s1 s2 h1 h2 => exact VRA.one (.func fn fn' f1 f2 c1 c2 hf s1 s2 h1 h2)
  | iface t a c h => exact VRA.one (.iface t a c h)
  | tuple as cs hs h => exact VRA.one (.tuple as cs hs h)

def apart_ (tb : Tb) (t : TypeId) (cs : Array Value) (off : Nat) : Option Value :=
  match tb.und.get t with
  | none => none
  | some d => bif aggDesc d then
      match tb.info.get t with
      | none => none
      | some i => some (.agg (cs.extract off (off + i.size)))
    else cs[off]?

theorem run_part {P : Program} {tb : Tb} (hP : TbOk P tb) {φ : Emb} {w : World} {t : TypeId} {as cs : Array Value} {off : Nat} {x : Value} (hc : VRA φ as cs) (h : apart_ tb t as off = some x) :
    ∃ c, (part t cs off).run P w = .ok c w ∧ VR φ x c := by
  unfold apart_ at h
  split at h
  · cases h
  · rename_i d hd
    have hu := hP.und _ _ hd
    cases ha : aggDesc d with
    | true =>
      rw [ha] at h
      simp only [cond_true] at h
      split at h
      · cases h
      · rename_i i hi
        cases h
        exact ⟨.agg (cs.extract off (off + i.size)), by simp [part, run_agg hu, ha, run_size (hP.info _ _ hi)], (hc.extract _ _).agg⟩
    | false =>
      rw [ha] at h
      simp only [cond_false] at h
      obtain ⟨c, h1, h2⟩ := hc.get h
      exact ⟨c, by simp [part, run_agg hu, ha, h1], h2⟩

/-- Parts side by side: the same places. -/
inductive PartsR (φ : Emb) : List (Nat × Value) → List (Nat × Value) → Prop where
  | nil : PartsR φ [] []
  | cons (i : Nat) (a c : Value) (l m : List (Nat × Value)) (h : VR φ a c) (t : PartsR φ l m) : PartsR φ ((i, a) :: l) ((i, c) :: m)

theorem VRA.set {φ : Emb} {as cs : Array Value} (h : VRA φ as cs) (i : Nat) {a c : Value} (hv : VR φ a c) : VRA φ (as.setIfInBounds i a) (cs.setIfInBounds i c) := by
  refine ⟨by simp [h.size], ?_⟩
  intro k x y hx hy
  by_cases e : k = i
  · subst e
    by_cases hk : k < as.size
    · rw [Array.getElem?_setIfInBounds_self_of_lt hk] at hx
      rw [Array.getElem?_setIfInBounds_self_of_lt (by rw [← h.size]; exact hk)] at hy
      cases hx; cases hy; exact hv
    · have := (Array.getElem?_eq_some_iff.1 hx).1
      simp at this; omega
  · rw [Array.getElem?_setIfInBounds_ne (fun x => e x.symm)] at hx hy
    exact h.at_ _ _ _ hx hy

theorem fill_fold {φ : Emb} (off : Nat) : ∀ (l m : List Value) (k : Nat) (as cs : Array Value), VRL φ l m → VRA φ as cs →
    VRA φ ((l.zipIdx k).foldl (fun cs (x : Value × Nat) => cs.setIfInBounds (off + x.2) x.1) as) ((m.zipIdx k).foldl (fun cs (x : Value × Nat) => cs.setIfInBounds (off + x.2) x.1) cs) := by
  intro l
  induction l with
  | nil => intro m k as cs h hc; cases h; exact hc
  | cons a l ih =>
    intro m k as cs h hc
    cases h with
    | cons _ c _ m h t =>
      simp only [List.zipIdx_cons, List.foldl_cons]
      exact ih m (k + 1) _ _ t (hc.set _ h)

theorem fill_rel {φ : Emb} (place : Nat → Option (Nat × Nat)) : ∀ (ps qs : List (Nat × Value)) (as cs out : Array Value), PartsR φ ps qs → VRA φ as cs → Instr.fill place as ps = some out →
    ∃ out', Instr.fill place cs qs = some out' ∧ VRA φ out out' := by
  intro ps
  induction ps with
  | nil => intro qs as cs out h hc hf; cases h; simp only [Instr.fill, Option.some.injEq] at hf; subst hf; exact ⟨cs, rfl, hc⟩
  | cons p ps ih =>
    intro qs as cs out h hc hf
    cases h with
    | cons i a c _ qs h t =>
      have hz := h.cells
      simp only [Instr.fill] at hf ⊢
      cases hp : place i with
      | none => rw [hp] at hf; cases hf
      | some x =>
        obtain ⟨off, size⟩ := x
        rw [hp] at hf
        simp only at hf ⊢
        by_cases hb : (decide (a.cells.size ≠ size) || decide (off + a.cells.size > as.size)) = true
        · rw [if_pos hb] at hf; cases hf
        · rw [if_neg hb] at hf
          rw [if_neg (by rw [← hz.size, ← hc.size]; exact hb)]
          refine ih qs _ _ out t ?_ hf
          have := fill_fold off a.cells.toList c.cells.toList 0 as cs hz.list hc
          rw [← Array.foldl_toList, ← Array.foldl_toList, Array.toList_zipIdx, Array.toList_zipIdx]
          exact this
end Go.Proofs.YtcmlomjdkjcjpaaGreatDoor.Vai
