/- A part of an evaluator of the model's code whose answers are proved sound: no statement on the program stands here. -/
import Derived.Test.YtcmlomjdkjcjpaaGreatDoorVaiH2
open Go Go.RowKit
namespace Go.Proofs.YtcmlomjdkjcjpaaGreatDoor.Vai
set_option linter.unusedVariables false
set_option linter.unusedSimpArgs false
/-! ### from blocks that are known to a relation -/
inductive BSpec where
  | cells (elem : TypeId) (es : Nat) (l : List Value) (ro : Bool)
  | obj (o : AObj)
def BSpec.view (i : Nat) : BSpec → Option View
  | .cells _ _ l _ => some { root := i, ext := l.length, exact := false }
  | .obj _ => none
def BSpec.root (i : Nat) : BSpec → Option Root
  | .cells elem es l ro => some { elem := elem, es := es, cells := cellsOf l, cur := i, flo := 0, fhi := 0, ro := ro, sish := false }
  | .obj _ => none
def BSpec.aobj : BSpec → Option AObj
  | .cells .. => none
  | .obj o => some o
def optsOf {α β : Type} (f : Nat → α → Option β) : List α → Nat → T β → T β
  | [], _, t => t
  | a :: l, i, t => optsOf f l (i + 1) (t.put i (f i a))
theorem get_optsOf {α β : Type} (f : Nat → α → Option β) : ∀ (l : List α) (i : Nat) (t : T β) (k : Nat), (optsOf f l i t).get k = if k < i then t.get k else match l[k - i]? with | some a => f k a | none => t.get k := by
  intro l
  induction l with
  | nil => intro i t k; simp [optsOf]
  | cons a l ih =>
    intro i t k
    simp only [optsOf, ih]
    by_cases h1 : k < i
    · rw [if_pos (by omega), if_pos h1, T.get_put_other _ _ (by omega)]
    · rw [if_neg h1]
      by_cases h2 : k = i
      · subst h2
        rw [if_pos (by omega), T.get_put_same]; simp
      · rw [if_neg (by omega)]
        have e : k - i = (k - (i + 1)) + 1 := by omega
        rw [T.get_put_other _ _ h2, e]; simp
def bSt (L : List BSpec) (orc : List Fact) : St :=
  { ng := 0, next := L.length, views := optsOf BSpec.view L 0 .nil, roots := optsOf BSpec.root L 0 .nil, objs := optsOf (fun _ => BSpec.aobj) L 0 .nil, orc := orc }
theorem bSt_views (L : List BSpec) (orc : List Fact) (k : Nat) : (bSt L orc).views.get k = match L[k]? with | some a => a.view k | none => none := by
  simp only [bSt, get_optsOf, Nat.not_lt_zero, if_false, Nat.sub_zero]; cases L[k]? <;> rfl
theorem bSt_roots (L : List BSpec) (orc : List Fact) (k : Nat) : (bSt L orc).roots.get k = match L[k]? with | some a => a.root k | none => none := by
  simp only [bSt, get_optsOf, Nat.not_lt_zero, if_false, Nat.sub_zero]; cases L[k]? <;> rfl
theorem bSt_objs (L : List BSpec) (orc : List Fact) (k : Nat) : (bSt L orc).objs.get k = match L[k]? with | some a => a.aobj | none => none := by
  simp only [bSt, get_optsOf, Nat.not_lt_zero, if_false, Nat.sub_zero]; cases L[k]? <;> rfl
def bEmb (ts : List Tgt) (sig : Nat → Int) : Emb := ⟨fun k => ts[k]?, sig⟩
/-- What is asked of a block. -/
def BSpec.ok (b : Base) (φ : Emb) (w : World) (t : Tgt) : BSpec → Prop
  | .cells elem es l ro => (ro = false → ¬ b.K t.blk) ∧ t.es = es ∧ ∃ (c : Array Value) (fr : Nat × Nat), w.heap[t.blk]? = some (.cells c elem fr) ∧ fr.1 = fr.2 ∧ fr.2 ≤ t.n ∧ c.size = t.n ∧ l.length ≤ t.n ∧ ∀ (o : Nat) (val : Value), l[o]? = some val → ∃ cv : Value, c[o]? = some cv ∧ VR φ val cv
  | .obj o => ¬ b.K t.blk ∧ ∃ c, w.heap[t.blk]? = some c ∧ ObjR φ o c
theorem Rel.ofBlocks {b : Base} {w : World} (L : List BSpec) (ts : List Tgt) (sig : Nat → Int) (orc : List Fact) (hlen : ts.length = L.length) (hk : Kept b w) (ho : ∀ f ∈ orc, f.ok sig)
    (hinj : (ts.map (·.blk)).Nodup) (h : ∀ (k : Nat) (t : Tgt) (s : BSpec), ts[k]? = some t → L[k]? = some s → s.ok b (bEmb ts sig) w t) : Rel b (bEmb ts sig) (bSt L orc) w := by
  have lt : ∀ {v t}, (bEmb ts sig) v = some t → v < L.length := fun {v t} e => by
    have : ts[v]? = some t := e
    rw [← hlen]; exact (List.getElem?_eq_some_iff.1 this).1
  have at_ : ∀ {v t}, (bEmb ts sig) v = some t → ∃ s, L[v]? = some s := fun {v t} e => ⟨_, List.getElem?_eq_getElem (lt e)⟩
  refine ⟨hk, fun v t e => lt e, ?_, ?_, ?_, ?_, ?_, ?_, ?_, Nat.zero_le _, ho⟩
  · intro v t e
    obtain ⟨s, hs⟩ := at_ e
    rw [bSt_views, bSt_objs, hs]
    cases s with
    | cells => exact .inl ⟨_, rfl⟩
    | obj o => exact .inr ⟨_, rfl⟩
  · intro v t V e hV
    obtain ⟨s, hs⟩ := at_ e
    rw [bSt_views, hs] at hV
    have hb := h v t s e hs
    cases s with
    | obj o => cases hV
    | cells elem es l ro =>
      cases hV
      obtain ⟨h1, h2, c, fr, h3, f1, f2, h4, h5, h6⟩ := hb
      refine ⟨_, by rw [bSt_roots, hs]; rfl, h2.symm, Nat.le_refl _, h1, h5, (fun hx => (by cases hx)), ?_, c, fr, h3, h4, ⟨Nat.le_of_eq f1, fun o _ a b => by omega, fun _ _ => Nat.le_of_eq f1.symm, fun _ => f2⟩, ?_⟩
      · intro o st val ho
        simp only [cellsOf, T.get_ofList, List.getElem?_map] at ho
        cases hl : l[o]? with
        | none => rw [hl] at ho; cases ho
        | some y =>
          rw [hl] at ho
          simp only [Option.map_some, Option.some.injEq, Prod.mk.injEq] at ho
          show st ≤ v
          omega
      · intro o st val ho hs2 hx
        simp only [cellsOf, T.get_ofList, List.getElem?_map] at ho
        cases hl : l[o]? with
        | none => rw [hl] at ho; cases ho
        | some y =>
          rw [hl] at ho
          simp only [Option.map_some, Option.some.injEq, Prod.mk.injEq] at ho
          obtain ⟨rfl, rfl⟩ := ho
          exact h6 o y hl
  · intro v t o e ho2
    obtain ⟨s, hs⟩ := at_ e
    rw [bSt_objs, hs] at ho2
    have hb := h v t s e hs
    cases s with
    | cells => cases ho2
    | obj o' => cases ho2; exact hb
  · intro v1 v2 t1 t2 e1 e2 hb
    have e1' : ts[v1]? = some t1 := e1
    have e2' : ts[v2]? = some t2 := e2
    have l1 := (List.getElem?_eq_some_iff.1 e1').1
    have l2 := (List.getElem?_eq_some_iff.1 e2').1
    refine .inl ((List.getElem?_inj (l := ts.map (·.blk)) (by simpa using l1) hinj).1 ?_)
    rw [List.getElem?_map, List.getElem?_map, e1', e2']
    simp [hb]
  · intro v V hV
    rw [bSt_views] at hV
    cases hs : L[v]? with
    | none => rw [hs] at hV; cases hV
    | some s =>
      rw [hs] at hV
      have hl := (List.getElem?_eq_some_iff.1 hs).1
      cases s with
      | obj => cases hV
      | cells => cases hV; exact ⟨hl, hl⟩
  · intro v o ho2
    rw [bSt_objs] at ho2
    cases hs : L[v]? with
    | none => rw [hs] at ho2; cases ho2
    | some s => exact (List.getElem?_eq_some_iff.1 hs).1
  · intro g V hg _
    exact absurd hg (Nat.not_lt_zero _)
end Go.Proofs.YtcmlomjdkjcjpaaGreatDoor.Vai
