/- A part of an evaluator of the model's code whose answers are proved sound: no statement on the program stands here. -/
import Derived.Test.YtcmlomjdkjcjpaaGreatDoorVaiR
open Go Go.RowKit
namespace Go.Proofs.YtcmlomjdkjcjpaaGreatDoor.Vai
set_option linter.unusedVariables false
set_option linter.unusedSimpArgs false

/-! ### quiet growth of the state -/
structure Qext (s s' : St) : Prop where
  ng : s'.ng = s.ng
  orc : s'.orc = s.orc
  next : s.next ≤ s'.next
  views : ∀ v, v < s.next → s'.views.get v = s.views.get v
  roots : ∀ v, v < s.next → s'.roots.get v = s.roots.get v
  objs : ∀ v, v < s.next → s'.objs.get v = s.objs.get v
  newV : ∀ v V, s'.views.get v = some V → s.next ≤ v → V.root = v ∧ v < s'.next
  newO : ∀ v o, s'.objs.get v = some o → s.next ≤ v → v < s'.next

/-- The numbers that a state bears lie below its next one. -/
structure Wf (s : St) : Prop where
  views : ∀ v V, s.views.get v = some V → V.root < s.next ∧ v < s.next
  objs : ∀ v o, s.objs.get v = some o → v < s.next

theorem Rel.wf {w0 : Base} {φ : Emb} {s : St} {w : World} (r : Rel w0 φ s w) : Wf s := ⟨r.vroot, r.olt⟩

theorem Qext.refl {s : St} (h : Wf s) : Qext s s :=
  ⟨rfl, rfl, Nat.le_refl _, fun _ _ => rfl, fun _ _ => rfl, fun _ _ => rfl, fun v V h1 h2 => by have := (h.views v V h1).2; omega, fun v o h1 h2 => by have := h.objs v o h1; omega⟩
theorem Qext.trans {a b c : St} (h : Qext a b) (k : Qext b c) : Qext a c := by
  have hn := h.next
  refine ⟨k.ng.trans h.ng, k.orc.trans h.orc, Nat.le_trans h.next k.next, fun v hv => (k.views v (by omega)).trans (h.views v hv), fun v hv => (k.roots v (by omega)).trans (h.roots v hv), fun v hv => (k.objs v (by omega)).trans (h.objs v hv), ?_, ?_⟩
  · intro v V hV hle
    by_cases e : v < b.next
    · rw [k.views v e] at hV
      have := h.newV v V hV hle
      exact ⟨this.1, by have := k.next; omega⟩
    · exact k.newV v V hV (by omega)
  · intro v o ho hle
    by_cases e : v < b.next
    · have := k.next; omega
    · exact k.newO v o ho (by omega)
theorem Qext.wf {s s' : St} (h : Qext s s') (w : Wf s) : Wf s' := by
  have hn := h.next
  refine ⟨fun v V hV => ?_, fun v o ho => ?_⟩
  · by_cases e : v < s.next
    · rw [h.views v e] at hV; have := w.views v V hV; omega
    · have := h.newV v V hV (by omega); omega
  · by_cases e : v < s.next
    · rw [h.objs v e] at ho; have := w.objs v o ho; omega
    · exact h.newO v o ho (by omega)

theorem Qext.alloc {s : St} (h : Wf s) (elem : TypeId) (es : Nat) (cells : List Value) : Qext s (aalloc s elem es cells) := by
  refine ⟨rfl, rfl, Nat.le_succ _, fun v hv => ?_, fun v hv => ?_, fun v hv => rfl, ?_, ?_⟩
  · simp only [aallocX]; rw [T.get_set_other _ _ (by omega)]
  · simp only [aallocX]; rw [T.get_set_other _ _ (by omega)]
  · intro v V hV hle
    by_cases e : v = s.next
    · subst e
      simp only [aallocX, T.get_set_same, Option.some.injEq] at hV
      subst hV; exact ⟨rfl, Nat.lt_succ_self _⟩
    · simp only [aallocX] at hV
      rw [T.get_set_other _ _ e] at hV
      have := (h.views v V hV).2; omega
  · intro v o ho hle
    have : v < s.next := h.objs v o ho
    omega
theorem Qext.obj {s : St} (h : Wf s) (o : AObj) : Qext s (aobj s o) := by
  refine ⟨rfl, rfl, Nat.le_succ _, fun v hv => rfl, fun v hv => rfl, fun v hv => ?_, ?_, ?_⟩
  · simp only [aobj]; rw [T.get_set_other _ _ (by omega)]
  · intro v V hV hle
    have := (h.views v V hV).2; omega
  · intro v o' ho hle
    show v < s.next + 1
    by_cases e : v = s.next
    · omega
    · simp only [aobj] at ho
      rw [T.get_set_other _ _ e] at ho
      have := h.objs v o' ho; omega

theorem Rel.qext {w0 : Base} {φ : Emb} {s s' : St} {w : World} (r : Rel w0 φ s w) (h : Qext s s') : Rel w0 φ s' w := by
  have hn := h.next
  have wf := h.wf r.wf
  refine ⟨r.bel, fun v t e => by have := r.fresh v t e; omega, ?_, ?_, ?_, ?_, wf.views, wf.objs, ?_, by rw [h.ng]; have := r.ngle; omega, by rw [h.orc]; exact r.orc⟩
  · intro v t e
    have hv := r.fresh v t e
    rw [h.views v hv, h.objs v hv]
    exact r.known v t e
  · intro v t V e hV
    have hv := r.fresh v t e
    rw [h.views v hv] at hV
    obtain ⟨R, hR, b⟩ := r.view v t V e hV
    exact ⟨R, by rw [h.roots _ (r.vroot v V hV).1]; exact hR, b⟩
  · intro v t o e ho
    rw [h.objs v (r.fresh v t e)] at ho
    exact r.obj v t o e ho
  · intro v1 v2 t1 t2 e1 e2 hb
    rw [h.views v1 (r.fresh v1 t1 e1), h.views v2 (r.fresh v2 t2 e2)]
    exact r.inj v1 v2 t1 t2 e1 e2 hb
  · intro g V hg hV
    rw [h.ng] at hg
    have := r.ngle
    rw [h.views g (by omega)] at hV
    exact r.glob g V hg hV

/-- A block that the state has already, and the world has now. -/
theorem Rel.bindNew {w0 : Base} {φ : Emb} {s : St} {w : World} (r : Rel w0 φ s w) {id : Nat} {elem : TypeId} {es : Nat} {cells cs : List Value} (hid : φ id = none) (hlt : id < s.next)
    (hV : s.views.get id = some { root := id, ext := cells.length, exact := true })
    (hR : s.roots.get id = some { elem := elem, es := es, cells := cellsOf cells, cur := id, flo := 0, fhi := 0, ro := false, sish := false })
    (hobj : s.objs.get id = none) (hc : VRL φ cells cs) :
    Rel w0 (φ.with id ⟨w.heap.size, cs.length, es⟩) s (w.alloc (.cells cs.toArray elem)) := by
  have hle : φ.le (φ.with id ⟨w.heap.size, cs.length, es⟩) := by
    refine ⟨?_, rfl⟩
    intro v t e
    rw [Emb.with_other _ _ ?_]; exact e
    intro x; subst x; rw [hid] at e; cases e
  have cases_ : ∀ v t, (φ.with id ⟨w.heap.size, cs.length, es⟩) v = some t → (v = id ∧ t = ⟨w.heap.size, cs.length, es⟩) ∨ (v ≠ id ∧ φ v = some t) := by
    intro v t h
    by_cases e : v = id
    · subst e; rw [Emb.with_same] at h; exact .inl ⟨rfl, (Option.some.inj h).symm⟩
    · rw [Emb.with_other _ _ e] at h; exact .inr ⟨e, h⟩
  refine ⟨r.bel.alloc _, ?_, ?_, ?_, ?_, ?_, r.vroot, r.olt, ?_, r.ngle, r.orc⟩
  · intro v t h
    rcases cases_ v t h with ⟨rfl, _⟩ | ⟨_, h⟩
    · exact hlt
    · exact r.fresh v t h
  · intro v t h
    rcases cases_ v t h with ⟨rfl, _⟩ | ⟨_, h⟩
    · exact .inl ⟨_, hV⟩
    · exact r.known v t h
  · intro v t V h hV'
    rcases cases_ v t h with ⟨rfl, rfl⟩ | ⟨e, h⟩
    · rw [hV] at hV'; cases hV'
      refine ⟨_, hR, rfl, Nat.le_refl _, fun _ => r.bel.new, by show cells.length ≤ cs.length; rw [hc.length]; exact Nat.le_refl _, (fun _ => by show cs.length = cells.length; rw [hc.length]), ?_, cs.toArray, (0, 0), heap_alloc_at, by simp, ⟨Nat.le_refl _, fun o _ a b => by omega, fun _ _ => Nat.le_refl _, fun _ => Nat.zero_le _⟩, ?_⟩
      · intro o st val ho
        simp only [cellsOf, T.get_ofList, List.getElem?_map] at ho
        cases hl : cells[o]? with
        | none => rw [hl] at ho; cases ho
        | some x =>
          rw [hl] at ho
          simp only [Option.map_some, Option.some.injEq, Prod.mk.injEq] at ho
          show st ≤ v
          omega
      · intro o st val ho hs hx
        simp only [cellsOf, T.get_ofList, List.getElem?_map] at ho
        cases hl : cells[o]? with
        | none => rw [hl] at ho; cases ho
        | some x =>
          rw [hl] at ho
          simp only [Option.map_some, Option.some.injEq, Prod.mk.injEq] at ho
          obtain ⟨rfl, rfl⟩ := ho
          obtain ⟨y, hy, hr⟩ := hc.get hl
          exact ⟨y, by simpa using hy, hr.mono hle⟩
    · obtain ⟨R, hR', b⟩ := r.view v t V h hV'
      refine ⟨R, hR', ?_⟩
      have b' := b.mono hle
      obtain ⟨c, fr, h1, h2, h3, h4⟩ := b'.blk
      exact ⟨b'.es, b'.cur, b'.own, b'.ext, b'.exact, b'.stamps, c, fr, heap_alloc_old h1, h2, h3, h4⟩
  · intro v t o h ho
    rcases cases_ v t h with ⟨rfl, rfl⟩ | ⟨e, h⟩
    · rw [hobj] at ho; cases ho
    · obtain ⟨k1, c, k2, k3⟩ := r.obj v t o h ho
      exact ⟨k1, c, heap_alloc_old k2, k3.mono hle⟩
  · intro v1 v2 t1 t2 h1 h2 hb
    rcases cases_ v1 t1 h1 with ⟨rfl, rfl⟩ | ⟨e1, k1⟩ <;> rcases cases_ v2 t2 h2 with ⟨rfl, rfl⟩ | ⟨e2, k2⟩
    · exact .inl rfl
    · have := r.lt k2; simp at hb; omega
    · have := r.lt k1; simp at hb; omega
    · exact r.inj v1 v2 t1 t2 k1 k2 hb
  · intro g V hg hV'
    obtain ⟨t, h1, h2⟩ := r.glob g V hg hV'
    exact ⟨t, hle _ _ h1, h2⟩

theorem Rel.bindObj {w0 : Base} {φ : Emb} {s : St} {w : World} (r : Rel w0 φ s w) {id : Nat} {o : AObj} {c : Obj} (hid : φ id = none) (hlt : id < s.next) (hV : s.views.get id = none) (hobj : s.objs.get id = some o) (hc : ObjR φ o c) :
    Rel w0 (φ.with id ⟨w.heap.size, 0, 0⟩) s (w.alloc c) := by
  have hle : φ.le (φ.with id ⟨w.heap.size, 0, 0⟩) := by
    refine ⟨?_, rfl⟩
    intro v t e
    rw [Emb.with_other _ _ ?_]; exact e
    intro x; subst x; rw [hid] at e; cases e
  have cases_ : ∀ v t, (φ.with id ⟨w.heap.size, 0, 0⟩) v = some t → (v = id ∧ t = ⟨w.heap.size, 0, 0⟩) ∨ (v ≠ id ∧ φ v = some t) := by
    intro v t h
    by_cases e : v = id
    · subst e; rw [Emb.with_same] at h; exact .inl ⟨rfl, (Option.some.inj h).symm⟩
    · rw [Emb.with_other _ _ e] at h; exact .inr ⟨e, h⟩
  refine ⟨r.bel.alloc _, ?_, ?_, ?_, ?_, ?_, r.vroot, r.olt, ?_, r.ngle, r.orc⟩
  · intro v t h
    rcases cases_ v t h with ⟨rfl, _⟩ | ⟨_, h⟩
    · exact hlt
    · exact r.fresh v t h
  · intro v t h
    rcases cases_ v t h with ⟨rfl, _⟩ | ⟨_, h⟩
    · exact .inr ⟨_, hobj⟩
    · exact r.known v t h
  · intro v t V h hV'
    rcases cases_ v t h with ⟨rfl, rfl⟩ | ⟨e, h⟩
    · rw [hV] at hV'; cases hV'
    · obtain ⟨R, hR', b⟩ := r.view v t V h hV'
      refine ⟨R, hR', ?_⟩
      have b' := b.mono hle
      obtain ⟨c, fr, h1, h2, h3, h4⟩ := b'.blk
      exact ⟨b'.es, b'.cur, b'.own, b'.ext, b'.exact, b'.stamps, c, fr, heap_alloc_old h1, h2, h3, h4⟩
  · intro v t o' h ho
    rcases cases_ v t h with ⟨rfl, rfl⟩ | ⟨e, h⟩
    · rw [hobj] at ho; cases ho
      exact ⟨r.bel.new, c, heap_alloc_at, hc.mono hle⟩
    · obtain ⟨k1, c', k2, k3⟩ := r.obj v t o' h ho
      exact ⟨k1, c', heap_alloc_old k2, k3.mono hle⟩
  · intro v1 v2 t1 t2 h1 h2 hb
    rcases cases_ v1 t1 h1 with ⟨rfl, rfl⟩ | ⟨e1, k1⟩ <;> rcases cases_ v2 t2 h2 with ⟨rfl, rfl⟩ | ⟨e2, k2⟩
    · exact .inl rfl
    · have := r.lt k2; simp at hb; omega
    · have := r.lt k1; simp at hb; omega
    · exact r.inj v1 v2 t1 t2 k1 k2 hb
  · intro g V hg hV'
    obtain ⟨t, h1, h2⟩ := r.glob g V hg hV'
    exact ⟨t, hle _ _ h1, h2⟩

/-! ### the same value -/
mutual
def veq : Value → Value → Bool
  | .bool a, .bool b => a == b
  | .int k a, .int l b => k == l && a == b
  | .float k a, .float l b => k == l && a == b
  | .complex k a b, .complex l c d => k == l && a == c && b == d
  | .string a, .string b => a.data == b.data
  | .pointer a, .pointer b => a == b
  | .slice a l c, .slice b m d => a == b && l == m && c == d
  | .map a, .map b => a == b
  | .chan a, .chan b => a == b
  | .nilFunc, .nilFunc => true
  | .nilIface, .nilIface => true
  | .iface t a, .iface u b => t == u && veq a b
  | .agg a, .agg b => veqA a b
  | .tuple a, .tuple b => veqA a b
  | .func f a b, .func g c d => f == g && veqA a c && veqA b d
  | _, _ => false
def veqA : Array Value → Array Value → Bool
  | ⟨a⟩, ⟨b⟩ => veqL a b
def veqL : List Value → List Value → Bool
  | [], [] => true
  | a :: l, b :: m => veq a b && veqL l m
  | _, _ => false
end
end Go.Proofs.YtcmlomjdkjcjpaaGreatDoor.Vai
