/- A part of an evaluator of the model's code whose answers are proved sound: no statement on the program stands here. -/
import Derived.Test.YtbjickdjkgefcaaGreatDoorVX
section
open Go Go.RowKit
noncomputable section
namespace Go.Proofs.YtbjickdjkgefcaaGreatDoor.Vai
set_option linter.unusedVariables false
set_option linter.unusedSimpArgs false
/-! ### from blocks that are known to a relation -/
inductive BSpec where
  | cells (elem : TypeId) (es : Nat) (l : List Value) (ro : Bool)
  | obj (o : AObj)
def BSpec.view (i : Nat) : BSpec → Option View
  | .cells _ _ l _ => some { root := i, ext := l.length, exact := false }
  | .obj _ => none
def BSpec.root (i : Nat) : BSpec → Option Root
  | .cells elem es l ro => some { elem := elem, es := es, cells := cellsOf l, cur := i, flo := 0, fhi := 0, ro := ro, sish := false }
  | .obj _ => none
def BSpec.aobj : BSpec → Option AObj
  | .cells .. => none
  | .obj o => some o
def optsOf {α β : Type} (f : Nat → α → Option β) : List α → Nat → T β → T β
  | [], _, t => t
  | a :: l, i, t => optsOf f l (i + 1) (t.put i (f i a))
theorem get_optsOf {α β : Type} (f : Nat → α → Option β) : ∀ (l : List α) (i : Nat) (t : T β) (k : Nat), (optsOf f l i t).get k = if k < i then t.get k else match l[k - i]? with | some a => f k a | none => t.get k := by
  intro l
  induction l with
  | nil => intro i t k; simp [optsOf]
  | cons a l ih =>
    intro i t k
    simp only [optsOf, ih]
    by_cases h1 : k < i
    · rw [if_pos (by omega), if_pos h1, T.get_put_other _ _ (by omega)]
    · rw [if_neg h1]
      by_cases h2 : k = i
      · subst h2
        rw [if_pos (by omega), T.get_put_same]; simp
      · rw [if_neg (by omega)]
        have e : k - i = (k - (i + 1)) + 1 := by omega
        rw [T.get_put_other _ _ h2, e]; simp
def bSt (L : List BSpec) (orc : List Fact) (ng : Nat := 0) : St :=
  { ng := ng, next := L.length, views := optsOf BSpec.view L 0 .nil, roots := optsOf BSpec.root L 0 .nil, objs := optsOf (fun _ => BSpec.aobj) L 0 .nil, orc := orc }
theorem bSt_views (L : List BSpec) (orc : List Fact) (k : Nat) : (bSt L orc).views.get k = match L[k]? with | some a => a.view k | none => none := by
  simp only [bSt, get_optsOf, Nat.not_lt_zero, if_false, Nat.sub_zero]; cases L[k]? <;> rfl
theorem bSt_roots (L : List BSpec) (orc : List Fact) (k : Nat) : (bSt L orc).roots.get k = match L[k]? with | some a => a.root k | none => none := by
  simp only [bSt, get_optsOf, Nat.not_lt_zero, if_false, Nat.sub_zero]; cases L[k]? <;> rfl
theorem bSt_objs (L : List BSpec) (orc : List Fact) (k : Nat) : (bSt L orc).objs.get k = match L[k]? with | some a => a.aobj | none => none := by
  simp only [bSt, get_optsOf, Nat.not_lt_zero, if_false, Nat.sub_zero]; cases L[k]? <;> rfl
def bEmb (ts : List Tgt) (sig : Sig) : Emb := ⟨fun k => ts[k]?, sig⟩
/-- What is asked of a block. -/
def BSpec.ok (b : Base) (φ : Emb) (w : World) (t : Tgt) : BSpec → Prop
  | .cells elem es l ro => (ro = false → ¬ b.K t.blk) ∧ t.es = es ∧ ∃ (c : Array Value) (fr : Nat × Nat), w.heap[t.blk]? = some (.cells c elem fr) ∧ fr = (0, 0) ∧ fr.2 ≤ t.n ∧ c.size = t.n ∧ l.length ≤ t.n ∧ ∀ (o : Nat) (val : Value), l[o]? = some val → ∃ cv : Value, c[o]? = some cv ∧ VR φ val cv
  | .obj o => ¬ b.K t.blk ∧ ∃ c, w.heap[t.blk]? = some c ∧ ObjR φ o c
theorem Rel.ofBlocks {b : Base} {w : World} (L : List BSpec) (ts : List Tgt) (sig : Sig) (orc : List Fact) (hlen : ts.length = L.length) (hk : Kept b w) (ho : ∀ f ∈ orc, f.ok sig)
    (hinj : (ts.map (·.blk)).Nodup) (h : ∀ (k : Nat) (t : Tgt) (s : BSpec), ts[k]? = some t → L[k]? = some s → s.ok b (bEmb ts sig) w t) : Rel b (bEmb ts sig) (bSt L orc) w := by
  have lt : ∀ {v t}, (bEmb ts sig) v = some t → v < L.length := fun {v t} e => by
    have : ts[v]? = some t := e
    rw [← hlen]; exact (List.getElem?_eq_some_iff.1 this).1
  have at_ : ∀ {v t}, (bEmb ts sig) v = some t → ∃ s, L[v]? = some s := fun {v t} e => ⟨_, List.getElem?_eq_getElem (lt e)⟩
  refine ⟨hk, fun v t e => lt e, ?_, ?_, ?_, ?_, ?_, ?_, ?_, Nat.zero_le _, ho⟩
  · intro v t e
    obtain ⟨s, hs⟩ := at_ e
    rw [bSt_views, bSt_objs, hs]
    cases s with
    | cells => exact .inl ⟨_, rfl⟩
    | obj o => exact .inr ⟨_, rfl⟩
  · intro v t V e hV
    obtain ⟨s, hs⟩ := at_ e
    rw [bSt_views, hs] at hV
    have hb := h v t s e hs
    cases s with
    | obj o => cases hV
    | cells elem es l ro =>
      cases hV
      obtain ⟨h1, h2, c, fr, h3, f1, f2, h4, h5, h6⟩ := hb
      refine ⟨_, by rw [bSt_roots, hs]; rfl, h2.symm, Nat.le_refl _, h1, h5, (fun hx => (by cases hx)), ?_, c, fr, h3, h4, ⟨by rw [f1]; exact Nat.le_refl _, fun o _ a b => by rw [f1] at a b; exact absurd b (Nat.not_lt_zero _), fun _ _ => f1, fun _ => f2⟩, ?_⟩
      · intro o st val ho
        simp only [cellsOf, T.get_ofList, List.getElem?_map] at ho
        cases hl : l[o]? with
        | none => rw [hl] at ho; cases ho
        | some y =>
          rw [hl] at ho
          simp only [Option.map_some, Option.some.injEq, Prod.mk.injEq] at ho
          show st ≤ v
          omega
      · intro o st val ho hs2 hx
        simp only [cellsOf, T.get_ofList, List.getElem?_map] at ho
        cases hl : l[o]? with
        | none => rw [hl] at ho; cases ho
        | some y =>
          rw [hl] at ho
          simp only [Option.map_some, Option.some.injEq, Prod.mk.injEq] at ho
          obtain ⟨rfl, rfl⟩ := ho
          exact h6 o y hl
  · intro v t o e ho2
    obtain ⟨s, hs⟩ := at_ e
    rw [bSt_objs, hs] at ho2
    have hb := h v t s e hs
    cases s with
    | cells => cases ho2
    | obj o' => cases ho2; exact hb
  · intro v1 v2 t1 t2 e1 e2 hb
    have e1' : ts[v1]? = some t1 := e1
    have e2' : ts[v2]? = some t2 := e2
    have l1 := (List.getElem?_eq_some_iff.1 e1').1
    have l2 := (List.getElem?_eq_some_iff.1 e2').1
    refine .inl ((List.getElem?_inj (l := ts.map (·.blk)) (by simpa using l1) hinj).1 ?_)
    rw [List.getElem?_map, List.getElem?_map, e1', e2']
    simp [hb]
  · intro v V hV
    rw [bSt_views] at hV
    cases hs : L[v]? with
    | none => rw [hs] at hV; cases hV
    | some s =>
      rw [hs] at hV
      have hl := (List.getElem?_eq_some_iff.1 hs).1
      cases s with
      | obj => cases hV
      | cells => cases hV; exact ⟨hl, hl⟩
  · intro v o ho2
    rw [bSt_objs] at ho2
    cases hs : L[v]? with
    | none => rw [hs] at ho2; cases ho2
    | some s => exact (List.getElem?_eq_some_iff.1 hs).1
  · intro g V hg _
    exact absurd hg (Nat.not_lt_zero _)
/-- The first blocks are package variables, each in its place. -/
theorem Rel.withNg {b : Base} {w : World} {L : List BSpec} {ts : List Tgt} {sig : Sig} {orc : List Fact} (hlen : ts.length = L.length) (r : Rel b (bEmb ts sig) (bSt L orc) w) {ng : Nat} (hn : ng ≤ L.length)
    (h : ∀ (g : Nat) (t : Tgt), g < ng → ts[g]? = some t → t.blk = g) : Rel b (bEmb ts sig) (bSt L orc ng) w :=
  ⟨r.bel, r.fresh, r.known, r.view, r.obj, r.inj, r.vroot, r.olt, fun g V hg _ =>
    have hg' : g < ts.length := by have : g < ng := hg; omega
    ⟨ts[g], List.getElem?_eq_getElem hg', h g _ hg (List.getElem?_eq_getElem hg')⟩, hn, r.orc⟩
end Go.Proofs.YtbjickdjkgefcaaGreatDoor.Vai
end
end
section
open Go Go.RowKit
noncomputable section
namespace Go.Proofs.YtbjickdjkgefcaaGreatDoor.Vai
set_option linter.unusedVariables false
set_option linter.unusedSimpArgs false
/-! ### back from a relation to blocks that are known -/
abbrev Ren := List (Nat × Nat)
def rlook : Ren → Nat → Option Nat
  | [], _ => none
  | (a, b) :: l, x => bif Nat.beq a x then some b else rlook l x
mutual
/-- Is the value (left) what is told, with other numbers, by another one (right)? -/
def vmatch (ρ : Ren) (τ : Nat → Option Nat) : Value → Value → Bool
  | .pointer (some ⟨a, o, none⟩), .pointer (some ⟨b, o', none⟩) => Nat.beq o o' && (match rlook ρ a with | some b' => Nat.beq b' b | none => false)
  | .slice (some ⟨a, o, none⟩) l c, .slice (some ⟨b, o', none⟩) l' c' => Nat.beq o o' && Nat.beq l l' && Nat.beq c c' && (match rlook ρ a with | some b' => Nat.beq b' b | none => false)
  | .map (some a), .map (some b) => match rlook ρ a with | some b' => Nat.beq b' b | none => false
  | .chan (some c), v => match decSy c with
    | .top => oneCell v
    | .empty => false
    | .str i => (match v with
      | .chan (some d) => (match decSy d with
        | .str j => Nat.beq i j
        | _ => false)
      | _ => false)
    | .atom i => (match v with
      | .chan (some d) => (match decSy d with
        | .atom j => (match τ i with | some j' => Nat.beq j' j | none => false)
        | _ => false)
      | _ => false)
    | _ => (match v with
      | .chan (some d) => (match decSy d with
        | .atom _ => false
        | .str _ => false
        | .top => false
        | _ => Nat.beq c d)
      | _ => false)
  | .agg a, .agg b => vmatchA ρ τ a b
  | .tuple a, .tuple b => vmatchA ρ τ a b
  | u, v => plain u && veq u v
def vmatchA (ρ : Ren) (τ : Nat → Option Nat) : Array Value → Array Value → Bool
  | ⟨a⟩, ⟨b⟩ => vmatchL ρ τ a b
def vmatchL (ρ : Ren) (τ : Nat → Option Nat) : List Value → List Value → Bool
  | [], [] => true
  | a :: l, b :: m => vmatch ρ τ a b && vmatchL ρ τ l m
  | _, _ => false
end

structure RenOk (ρ : Ren) (τ : Nat → Option Nat) (φ ψ : Emb) : Prop where
  to : ∀ a b t, rlook ρ a = some b → φ b = some t → ψ a = some t
  sig : ∀ i j, τ i = some j → ψ.sig i = φ.sig j
  str : ψ.sig.str = φ.sig.str

theorem vm_plain {φ ψ : Emb} {u v c : Value} (h : (plain u && veq u v) = true) (r : VR φ v c) : VR ψ u c := by
  rw [Bool.and_eq_true] at h
  obtain ⟨h1, h2⟩ := h
  obtain rfl := veq_sound _ _ h2
  rw [r.eq_of_plain h1]
  exact VR.of_plain ψ _ h1

theorem rl_some {ρ : Ren} {a b : Nat} (h : (match rlook ρ a with | some b' => Nat.beq b' b | none => false) = true) : rlook ρ a = some b := by
  split at h
  · rename_i b' hb; rw [hb, Nat.eq_of_beq_eq_true h]
  · cases h

theorem VR.vmatch {ρ : Ren} {τ : Nat → Option Nat} {φ ψ : Emb} (R : RenOk ρ τ φ ψ) : ∀ (u v c : Value), vmatch ρ τ u v = true → VR φ v c → VR ψ u c := by
  intro u
  have addr : ∀ (a o : Nat) (m : Option Nat) (h : m ≠ none), True := fun _ _ _ _ => trivial
  refine Value.rec (motive_1 := fun u => ∀ v c, Vai.vmatch ρ τ u v = true → VR φ v c → VR ψ u c)
    (motive_2 := fun u => ∀ v cs, vmatchA ρ τ u v = true → VRA φ v cs → VRA ψ u cs)
    (motive_3 := fun u => ∀ v cs, vmatchL ρ τ u v = true → VRL φ v cs → VRL ψ u cs) ?_ ?_ ?_ ?_ ?_ ?_ ?_ ?_ ?_ ?_ ?_ ?_ ?_ ?_ ?_ ?_ ?_ ?_ u
  · intro b v c h r; exact vm_plain (by cases v <;> simpa [Vai.vmatch] using h) r
  · intro k n v c h r; exact vm_plain (by cases v <;> simpa [Vai.vmatch] using h) r
  · intro k n v c h r; exact vm_plain (by cases v <;> simpa [Vai.vmatch] using h) r
  · intro k a b v c h r; exact vm_plain (by cases v <;> simpa [Vai.vmatch] using h) r
  · intro s v c h r; exact vm_plain (by cases v <;> simpa [Vai.vmatch] using h) r
  · intro a v c h r
    unfold Vai.vmatch at h
    split at h
    · rename_i x1 x2 a1 o1 b1 o2 e1 
      cases e1
      rw [Bool.and_eq_true] at h
      cases r with
      | ptr _ _ t ht =>
        rw [← Nat.eq_of_beq_eq_true h.1]
        exact .ptr _ _ t (R.to _ _ _ (rl_some h.2) ht)
    all_goals first | exact vm_plain h r | simp_all
  · intro a l c0 v c h r
    unfold Vai.vmatch at h
    split at h
    · simp_all
    · rename_i x1 x2 a1 o1 l1 c1 b1 o2 l2 c2 e1
      cases e1
      rw [Bool.and_eq_true, Bool.and_eq_true, Bool.and_eq_true] at h
      obtain ⟨⟨⟨q1, q2⟩, q3⟩, q4⟩ := h
      obtain rfl := Nat.eq_of_beq_eq_true q1
      obtain rfl := Nat.eq_of_beq_eq_true q2
      obtain rfl := Nat.eq_of_beq_eq_true q3
      cases r with
      | slice _ _ t _ _ c' ht g1 g2 => exact .slice _ _ t _ _ _ (R.to _ _ _ (rl_some q4) ht) g1 g2
    all_goals first | exact vm_plain h r | simp_all
  · intro a v c h r
    unfold Vai.vmatch at h
    split at h
    · simp_all
    · simp_all
    · rename_i x1 x2 a1 b1 e1
      cases e1
      cases r with
      | map _ t ht => exact .map _ t (R.to _ _ _ (rl_some h) ht)
    all_goals first | exact vm_plain h r | simp_all
  · intro a v c h r
    cases a with
    | none => exact vm_plain (by cases v <;> simpa [Vai.vmatch] using h) r
    | some cc =>
      unfold Vai.vmatch at h
      split at h
      · rename_i ht
        exact .top _ _ ht (by
          cases r <;> first | rfl | assumption | cases h)
      · cases h
      · rename_i i hi
        split at h
        · rename_i d
          split at h
          · rename_i j hj
            obtain rfl := Nat.eq_of_beq_eq_true h
            cases r with
            | top _ _ ht _ => rw [hj] at ht; cases ht
            | sy _ k n hn => rw [hj] at hn; exact hn.elim
            | str _ i' ht =>
              rw [hj] at ht; cases ht
              rw [← R.str]; exact .str _ _ hi
            | empty _ _ _ ht => rw [hj] at ht; cases ht
          · cases h
        · cases h
      · rename_i i hi
        split at h
        · rename_i d
          split at h
          · rename_i j hj
            obtain hτ : τ i = some j := by
              split at h
              · rename_i j' hj'; rw [hj', Nat.eq_of_beq_eq_true h]
              · cases h
            cases r with
            | top _ _ ht _ => rw [hj] at ht; cases ht
            | str _ _ ht => rw [hj] at ht; cases ht
            | empty _ _ _ ht => rw [hj] at ht; cases ht
            | sy _ k n hn =>
              rw [hj] at hn
              refine .sy _ _ _ ?_
              rw [hi]
              exact ⟨hn.1, by rw [hn.2, R.sig _ _ hτ]⟩
          · cases h
        · cases h
      · rename_i hn1 hn0 hns hn2
        split at h
        · rename_i d
          split at h
          · cases h
          · cases h
          · cases h
          · rename_i m1 m2 m3
            obtain rfl := Nat.eq_of_beq_eq_true h
            cases r with
            | top _ _ ht _ => exact absurd ht hn1
            | str _ i ht => exact absurd ht (hns i)
            | empty _ _ _ ht => exact absurd ht hn0
            | sy _ k n hn =>
              refine .sy _ _ _ ?_
              revert hn
              cases hd : decSy cc with
              | range => exact fun hn => hn
              | modu => exact fun hn => hn
              | atom i => exact absurd hd (hn2 i)
              | top => exact absurd hd hn1
              | str i => exact absurd hd (hns i)
              | empty => exact absurd hd hn0
        · cases h
  · intro f a b i1 i2 v c h r; exact vm_plain (by cases v <;> simpa [Vai.vmatch] using h) r
  · intro v c h r; exact vm_plain (by cases v <;> simpa [Vai.vmatch] using h) r
  · intro t x ih v c h r; exact vm_plain (by cases v <;> simpa [Vai.vmatch] using h) r
  · intro v c h r; exact vm_plain (by cases v <;> simpa [Vai.vmatch] using h) r
  · intro x ih v c h r
    cases v with
    | agg y =>
      have h : vmatchA ρ τ x y = true := by simpa [Vai.vmatch] using h
      obtain ⟨cs, rfl, hc⟩ := r.agg_inv
      exact (ih _ _ h hc).agg
    | _ => exact vm_plain (by simpa [Vai.vmatch] using h) r
  · intro x ih v c h r
    cases v with
    | tuple y =>
      have h : vmatchA ρ τ x y = true := by simpa [Vai.vmatch] using h
      obtain ⟨cs, rfl, hc⟩ := r.tuple_inv
      have := ih _ _ h hc
      exact .tuple _ _ this.size this.at_
    | _ => exact vm_plain (by simpa [Vai.vmatch] using h) r
  · intro l ih v cs h r
    obtain ⟨m⟩ := v
    obtain ⟨c⟩ := cs
    have h : vmatchL ρ τ l m = true := by simpa [vmatchA] using h
    have r2 : VRL φ m c := r.list
    have := ih m c h r2
    exact ⟨by simpa using this.length, fun i x y hx hy => by
      obtain ⟨y', e1, e2⟩ := this.get (by simpa using hx)
      have : c[i]? = some y := by simpa using hy
      rw [this] at e1; cases e1; exact e2⟩
  · intro v cs h r
    cases v with
    | nil => cases r; exact .nil
    | cons => simp [vmatchL] at h
  · intro a l i1 i2 v cs h r
    cases v with
    | nil => simp [vmatchL] at h
    | cons b m =>
      simp only [vmatchL, Bool.and_eq_true] at h
      cases r with
      | cons _ c _ m2 r1 r2 => exact .cons _ _ _ _ (i1 _ _ h.1 r1) (i2 _ _ h.2 r2)

def cellsMatch (ρ : Ren) (τ : Nat → Option Nat) (R : Root) (id : Nat) : List Value → Nat → Bool
  | [], _ => true
  | u :: l, o => (match R.cells.get o with | some (st, v) => Nat.ble st id && vmatch ρ τ u v | none => false) && cellsMatch ρ τ R id l (o + 1)
def entsMatch (ρ : Ren) (τ : Nat → Option Nat) : List AEnt → List AEnt → Bool
  | [], [] => true
  | a :: l, b :: m => vmatch ρ τ a.key b.key && vmatch ρ τ a.val b.val && Nat.beq a.born b.born && entsMatch ρ τ l m
  | _, _ => false
def specAt (ρ : Ren) (τ : Nat → Option Nat) (s : St) (id : Nat) : BSpec → Bool
  | .cells elem es l _ => match s.views.get id with
    | some V => (match s.roots.get V.root with
      | some R => Nat.beq R.elem elem && Nat.beq R.es es && Nat.ble l.length V.ext && Nat.beq R.flo R.fhi && !R.sish && cellsMatch ρ τ R id l 0
      | none => false)
    | none => false
  | .obj (.map es clock) => (match s.views.get id with | some _ => false | none => true) && (match s.objs.get id with
    | some (.map es' clock') => Nat.beq clock clock' && entsMatch ρ τ es es'
    | _ => false)
  | .obj _ => false
def renOf : List Nat → Nat → Ren
  | [], _ => []
  | a :: l, i => (i, a) :: renOf l (i + 1)
def specOk (ρ : Ren) (τ : Nat → Option Nat) (s : St) : List BSpec → List Nat → Bool
  | [], [] => true
  | b :: l, id :: m => specAt ρ τ s id b && specOk ρ τ s l m
  | _, _ => false
/-- The root of a view; a thing that is no view is its own. -/
def rootOf (s : St) (id : Nat) : Nat := match s.views.get id with
  | some V => V.root
  | none => id
def nodupB : List Nat → Bool
  | [] => true
  | a :: l => !(l.any fun b => Nat.beq a b) && nodupB l

theorem nodupB_spec : ∀ l : List Nat, nodupB l = true → l.Nodup := by
  intro l
  induction l with
  | nil => intro _; exact List.nodup_nil
  | cons a l ih =>
    intro h
    simp only [nodupB, Bool.and_eq_true, Bool.not_eq_true', List.any_eq_false] at h
    refine List.nodup_cons.2 ⟨fun hm => ?_, ih h.2⟩
    have := h.1 a hm
    simp at this
theorem rlook_renOf : ∀ (l : List Nat) (i a b : Nat), rlook (renOf l i) a = some b → ∃ k, a = i + k ∧ l[k]? = some b := by
  intro l
  induction l with
  | nil => intro i a b h; cases h
  | cons x l ih =>
    intro i a b h
    simp only [renOf, rlook] at h
    cases hb : Nat.beq i a with
    | true =>
      rw [hb] at h
      cases h
      exact ⟨0, (Nat.eq_of_beq_eq_true hb).symm, rfl⟩
    | false =>
      rw [hb] at h
      obtain ⟨k, e, hk⟩ := ih _ _ _ h
      exact ⟨k + 1, by omega, by simpa using hk⟩
theorem specOk_at {ρ : Ren} {τ : Nat → Option Nat} {s : St} : ∀ (L : List BSpec) (ids : List Nat), specOk ρ τ s L ids = true → L.length = ids.length ∧ ∀ (k : Nat) (b : BSpec) (id : Nat), L[k]? = some b → ids[k]? = some id → specAt ρ τ s id b = true := by
  intro L
  induction L with
  | nil =>
    intro ids h
    cases ids with
    | nil => exact ⟨rfl, fun k b id h => by simp at h⟩
    | cons => cases h
  | cons x L ih =>
    intro ids h
    cases ids with
    | nil => cases h
    | cons y ids =>
      simp only [specOk, Bool.and_eq_true] at h
      obtain ⟨h1, h2⟩ := ih ids h.2
      refine ⟨by simp [h1], fun k b id hb hid => ?_⟩
      cases k with
      | zero => simp at hb hid; rw [← hb, ← hid]; exact h.1
      | succ k => exact h2 k b id (by simpa using hb) (by simpa using hid)
theorem cellsMatch_at {ρ : Ren} {τ : Nat → Option Nat} {R : Root} {id : Nat} : ∀ (l : List Value) (o : Nat), cellsMatch ρ τ R id l o = true → ∀ (k : Nat) (u : Value), l[k]? = some u → ∃ st v, R.cells.get (o + k) = some (st, v) ∧ st ≤ id ∧ vmatch ρ τ u v = true := by
  intro l
  induction l with
  | nil => intro o _ k u h; simp at h
  | cons a l ih =>
    intro o h k u hk
    simp only [cellsMatch, Bool.and_eq_true] at h
    cases k with
    | zero =>
      simp at hk
      subst hk
      have h1 := h.1
      split at h1
      · rename_i st v hv
        rw [Bool.and_eq_true] at h1
        exact ⟨st, v, hv, Nat.le_of_ble_eq_true h1.1, h1.2⟩
      · cases h1
    | succ k =>
      obtain ⟨st, v, e1, e2, e3⟩ := ih (o + 1) h.2 k u (by simpa using hk)
      exact ⟨st, v, by rw [show o + (k + 1) = o + 1 + k by omega]; exact e1, e2, e3⟩
theorem entsMatch_rel {ρ : Ren} {τ : Nat → Option Nat} {φ ψ : Emb} (R : RenOk ρ τ φ ψ) : ∀ (a b : List AEnt) (c : List MapEntry), entsMatch ρ τ a b = true → EntsR φ b c → EntsR ψ a c := by
  intro a
  induction a with
  | nil =>
    intro b c h r
    cases b with
    | nil => cases r; exact .nil
    | cons => cases h
  | cons x a ih =>
    intro b c h r
    cases b with
    | nil => cases h
    | cons y b =>
      simp only [entsMatch, Bool.and_eq_true] at h
      obtain ⟨⟨⟨h1, h2⟩, h3⟩, h4⟩ := h
      cases r with
      | cons _ e _ m k1 k2 k3 k4 => exact .cons _ _ _ _ (VR.vmatch R _ _ _ h1 k1) (VR.vmatch R _ _ _ h2 k2) ((Nat.eq_of_beq_eq_true h3).trans k3) (ih _ _ h4 k4)
def Base.free (w : World) : Base := ⟨w, fun _ => False, fun _ h => h.elim⟩

theorem Rel.respec {b : Base} {φ : Emb} {s : St} {w : World} (r : Rel b φ s w) {L : List BSpec} {ids : List Nat} {τ : Nat → Option Nat} (h : (specOk (renOf ids 0) τ s L ids && nodupB (ids.map (rootOf s))) = true)
    {ts : List Tgt} (hlen : ts.length = L.length) (hφ : ∀ (k : Nat) id t, ids[k]? = some id → ts[k]? = some t → φ id = some t) {sig : Sig} (hsig : ∀ i j, τ i = some j → sig i = φ.sig j) (hstr : sig.str = φ.sig.str) :
    (ts.map (·.blk)).Nodup ∧ ∀ (k : Nat) (t : Tgt) (sp : BSpec), ts[k]? = some t → L[k]? = some sp → sp.ok (Base.free w) (bEmb ts sig) w t := by
  rw [Bool.and_eq_true] at h
  obtain ⟨h, hnd⟩ := h
  obtain ⟨hl, hat⟩ := specOk_at L ids h
  have hnd := nodupB_spec _ hnd
  have R : RenOk (renOf ids 0) τ φ (bEmb ts sig) := by
    refine ⟨fun a b' t e ht => ?_, hsig, hstr⟩
    obtain ⟨k, e1, e2⟩ := rlook_renOf _ _ _ _ e
    rw [Nat.zero_add] at e1
    subst e1
    have hk : a < ts.length := by rw [hlen, hl]; exact (List.getElem?_eq_some_iff.1 e2).1
    have h1 := hφ a b' ts[a] e2 (List.getElem?_eq_getElem hk)
    rw [ht] at h1
    cases h1
    exact List.getElem?_eq_getElem hk
  have spec : ∀ (k : Nat) (t : Tgt), ts[k]? = some t → ∃ (id : Nat) (sp : BSpec), ids[k]? = some id ∧ L[k]? = some sp ∧ φ id = some t ∧ specAt (renOf ids 0) τ s id sp = true := by
    intro k t ht
    have hk := (List.getElem?_eq_some_iff.1 ht).1
    have hid : ids[k]? = some (ids[k]'(by omega)) := List.getElem?_eq_getElem (by omega)
    have hsp : L[k]? = some (L[k]'(by omega)) := List.getElem?_eq_getElem (by omega)
    exact ⟨_, _, hid, hsp, hφ k _ t hid ht, hat k _ _ hsp hid⟩
  refine ⟨?_, ?_⟩
  · refine List.pairwise_iff_getElem.2 ?_
    intro i j hi hj hlt hij
    simp only [List.length_map] at hi hj
    simp only [List.getElem_map] at hij
    obtain ⟨a, sa, a1, a2, a3, a4⟩ := spec i ts[i] (List.getElem?_eq_getElem hi)
    obtain ⟨c, sc, c1, c2, c3, c4⟩ := spec j ts[j] (List.getElem?_eq_getElem hj)
    have hac : rootOf s a = rootOf s c := by
      rcases r.inj _ _ _ _ a3 c3 hij with e | ⟨V1, V2, v1, v2, v3⟩
      · rw [e]
      · simp only [rootOf, v1, v2, v3]
    have h1 : (ids.map (rootOf s))[i]? = some (rootOf s a) := by rw [List.getElem?_map, a1]; rfl
    have h2 : (ids.map (rootOf s))[j]? = some (rootOf s a) := by rw [List.getElem?_map, c1, hac]; rfl
    have := (List.getElem?_inj (l := ids.map (rootOf s)) ((List.getElem?_eq_some_iff.1 h1).1) hnd).1 (h1.trans h2.symm)
    omega
  · intro k t sp ht hsp
    obtain ⟨id, sp', e1, e2, e3, e4⟩ := spec k t ht
    rw [hsp] at e2
    cases e2
    cases sp with
    | cells elem es l ro =>
      simp only [specAt] at e4
      split at e4
      · rename_i V hV
        split at e4
        · rename_i R0 hR
          simp only [Bool.and_eq_true, Bool.not_eq_true'] at e4
          obtain ⟨⟨⟨⟨⟨q2, q3⟩, q4⟩, q5⟩, q6⟩, q7⟩ := e4
          obtain ⟨R1, hR1, bk⟩ := r.view id t V e3 hV
          rw [hR] at hR1; cases hR1
          obtain ⟨c, fr, g1, g2, g3, g4⟩ := bk.blk
          have f1 := g3.none q6 (Nat.eq_of_beq_eq_true q5)
          have f2 := g3.le
          refine ⟨fun _ hK => hK, by rw [← bk.es]; exact Nat.eq_of_beq_eq_true q3, c, fr, by rw [← Nat.eq_of_beq_eq_true q2]; exact g1, f1, g3.top q6, g2, Nat.le_trans (Nat.le_of_ble_eq_true q4) bk.ext, ?_⟩
          intro o val ho
          obtain ⟨st, v, m1, m2, m3⟩ := cellsMatch_at l 0 q7 o val ho
          rw [Nat.zero_add] at m1
          have hlt : o < V.ext := Nat.lt_of_lt_of_le (List.getElem?_eq_some_iff.1 ho).1 (Nat.le_of_ble_eq_true q4)
          obtain ⟨cv, n1, n2⟩ := g4 o st v m1 m2 hlt
          exact ⟨cv, n1, VR.vmatch R _ _ _ m3 n2⟩
        · cases e4
      · cases e4
    | obj o =>
      cases o with
      | map es clock =>
        simp only [specAt, Bool.and_eq_true] at e4
        have e5 := e4.2
        split at e5
        · rename_i es' clock' ho
          rw [Bool.and_eq_true] at e5
          obtain ⟨hK, c, g1, g2⟩ := r.obj id t _ e3 ho
          refine ⟨fun h => h, c, g1, ?_⟩
          cases g2 with
          | map _ cs _ hE =>
            rw [← Nat.eq_of_beq_eq_true e5.1]
            exact .map _ _ _ (entsMatch_rel R _ _ _ e5.2 hE)
        · cases e5
      | _ => simp [specAt] at e4
end Go.Proofs.YtbjickdjkgefcaaGreatDoor.Vai
end
section
open Go Go.RowKit
noncomputable section
namespace Go.Proofs.YtbjickdjkgefcaaGreatDoor.Vai
set_option linter.unusedVariables false
set_option linter.unusedSimpArgs false
/-! ### blocks told anew; which numbers the relation binds; which blocks are new -/
def spMatch (ρ : Ren) (τ : Nat → Option Nat) : BSpec → BSpec → Bool
  | .cells elem es l _, .cells elem' es' l' _ => Nat.beq elem elem' && Nat.beq es es' && vmatchL ρ τ l l'
  | .obj (.map es clock), .obj (.map es' clock') => Nat.beq clock clock' && entsMatch ρ τ es es'
  | _, _ => false
def BSpec.owned : BSpec → Bool
  | .cells _ _ _ ro => !ro
  | .obj _ => true
theorem vmatchL_at {ρ : Ren} {τ : Nat → Option Nat} : ∀ (l m : List Value), vmatchL ρ τ l m = true → l.length = m.length ∧ ∀ (k : Nat) (u : Value), l[k]? = some u → ∃ v, m[k]? = some v ∧ vmatch ρ τ u v = true := by
  intro l
  induction l with
  | nil => intro m h; cases m with
    | nil => exact ⟨rfl, fun k u h => by simp at h⟩
    | cons => simp [vmatchL] at h
  | cons a l ih =>
    intro m h
    cases m with
    | nil => simp [vmatchL] at h
    | cons b m =>
      simp only [vmatchL, Bool.and_eq_true] at h
      obtain ⟨h1, h2⟩ := ih m h.2
      refine ⟨by simp [h1], fun k u hu => ?_⟩
      cases k with
      | zero => simp at hu; exact ⟨b, rfl, by rw [← hu]; exact h.1⟩
      | succ k => exact h2 k u (by simpa using hu)
theorem BSpec.ok.conv {b b' : Base} {φ ψ : Emb} {w w' : World} {t : Tgt} {ρ : Ren} {τ : Nat → Option Nat} (R : RenOk ρ τ φ ψ) {sp sp' : BSpec} (hm : spMatch ρ τ sp' sp = true) (hw : w'.heap[t.blk]? = w.heap[t.blk]?) (hK : sp'.owned = true → ¬ b'.K t.blk)
    (h : sp.ok b φ w t) : sp'.ok b' ψ w' t := by
  cases sp' with
  | cells elem es l ro =>
    cases sp with
    | obj o => cases o <;> cases hm
    | cells elem' es' l' ro' =>
      simp only [spMatch, Bool.and_eq_true] at hm
      obtain ⟨⟨h1, h2⟩, h3⟩ := hm
      obtain ⟨k1, k2, c, fr, g1, g2, g3, g4, g5, g6⟩ := h
      obtain ⟨e1, e2⟩ := vmatchL_at _ _ h3
      refine ⟨fun hro => hK (by simp [BSpec.owned, hro]), k2.trans (Nat.eq_of_beq_eq_true h2).symm, c, fr, ?_, g2, g3, g4, by omega, ?_⟩
      · rw [hw, g1, Nat.eq_of_beq_eq_true h1]
      · intro o val ho
        obtain ⟨v, m1, m2⟩ := e2 o val ho
        obtain ⟨cv, n1, n2⟩ := g6 o v m1
        exact ⟨cv, n1, VR.vmatch R _ _ _ m2 n2⟩
  | obj o' =>
    cases sp with
    | cells => cases o' <;> cases hm
    | obj o =>
      cases o' with
      | map es' clock' =>
        cases o with
        | map es clock =>
          simp only [spMatch, Bool.and_eq_true] at hm
          obtain ⟨k1, c, g1, g2⟩ := h
          refine ⟨hK rfl, c, by rw [hw]; exact g1, ?_⟩
          cases g2 with
          | map _ cs _ hE => rw [← Nat.eq_of_beq_eq_true hm.1]; exact .map _ _ _ (entsMatch_rel R _ _ _ hm.2 hE)
        | _ => cases hm
      | _ => cases o <;> cases hm
/-- All blocks told anew, one by one. -/
def spAll (ρ : Ren) (τ : Nat → Option Nat) : List BSpec → List BSpec → Bool
  | [], [] => true
  | a :: l, b :: m => spMatch ρ τ a b && spAll ρ τ l m
  | _, _ => false
theorem spAll_at {ρ : Ren} {τ : Nat → Option Nat} : ∀ (L M : List BSpec), spAll ρ τ L M = true → ∀ (k : Nat) (a : BSpec), L[k]? = some a → ∃ b, M[k]? = some b ∧ spMatch ρ τ a b = true := by
  intro L
  induction L with
  | nil => intro M _ k a h; simp at h
  | cons x L ih =>
    intro M h k a ha
    cases M with
    | nil => cases h
    | cons y M =>
      simp only [spAll, Bool.and_eq_true] at h
      cases k with
      | zero => simp at ha; exact ⟨y, rfl, by rw [← ha]; exact h.1⟩
      | succ k => exact ih M h.2 k a (by simpa using ha)

mutual
def idsOfV : Value → List Nat
  | .pointer (some ⟨a, _, none⟩) => [a]
  | .slice (some ⟨a, _, none⟩) _ _ => [a]
  | .map (some r) => [r]
  | .iface _ v => idsOfV v
  | .agg l => idsOfA l
  | .tuple l => idsOfA l
  | _ => []
def idsOfA : Array Value → List Nat
  | ⟨l⟩ => idsOfL l
def idsOfL : List Value → List Nat
  | [] => []
  | v :: l => idsOfV v ++ idsOfL l
end
theorem idsOfL_mem : ∀ (l : List Value) (x : Nat), x ∈ idsOfL l → ∃ (k : Nat) (v : Value), l[k]? = some v ∧ x ∈ idsOfV v := by
  intro l
  induction l with
  | nil => intro x h; simp [idsOfL] at h
  | cons a l ih =>
    intro x h
    simp only [idsOfL, List.mem_append] at h
    rcases h with h | h
    · exact ⟨0, a, rfl, h⟩
    · obtain ⟨k, v, h1, h2⟩ := ih x h
      exact ⟨k + 1, v, by simpa using h1, h2⟩
theorem VR.bound {φ : Emb} {v c : Value} (r : VR φ v c) : ∀ x ∈ idsOfV v, ∃ t, φ x = some t := by
  have arr : ∀ (as cs : Array Value), as.size = cs.size → (∀ (i : Nat) x y, as[i]? = some x → cs[i]? = some y → ∀ z ∈ idsOfV x, ∃ t, φ z = some t) → ∀ z ∈ idsOfA as, ∃ t, φ z = some t := by
    intro as cs hs h z hz
    obtain ⟨l⟩ := as
    simp only [idsOfA] at hz
    obtain ⟨k, v, h1, h2⟩ := idsOfL_mem l z hz
    have hk := (List.getElem?_eq_some_iff.1 h1).1
    have hk2 : k < cs.size := by rw [← hs]; simpa using hk
    exact h k v cs[k] (by simpa using h1) (Array.getElem?_eq_getElem hk2) z h2
  induction r with
  | ptr v o t h => intro x hx; simp [idsOfV] at hx; subst hx; exact ⟨_, h⟩
  | slice v o t l c c' h h1 h2 => intro x hx; simp [idsOfV] at hx; subst hx; exact ⟨_, h⟩
  | map r t h => intro x hx; simp [idsOfV] at hx; subst hx; exact ⟨_, h⟩
  | iface t a c _ ih => intro x hx; exact ih x (by simpa [idsOfV] using hx)
  | agg as cs hs _ ih => intro x hx; exact arr as cs hs ih x (by simpa [idsOfV] using hx)
  | tuple as cs hs _ ih => intro x hx; exact arr as cs hs ih x (by simpa [idsOfV] using hx)
  | _ => intro x hx; simp [idsOfV] at hx

def memB (x : Nat) : List Nat → Bool
  | [] => false
  | a :: l => Nat.beq x a || memB x l
theorem memB_spec {x : Nat} : ∀ {l : List Nat}, memB x l = true → x ∈ l := by
  intro l
  induction l with
  | nil => intro h; cases h
  | cons a l ih =>
    intro h
    simp only [memB, Bool.or_eq_true] at h
    rcases h with h | h
    · rw [Nat.eq_of_beq_eq_true h]; exact List.mem_cons_self ..
    · exact List.mem_cons_of_mem _ (ih h)
/-- Cell 'o' of the block 'a' leads to 'b'. -/
def linkCell (s : St) (a o b : Nat) : Bool := match aload s a o with
  | some v => memB b (idsOfV v)
  | none => false
theorem Rel.linkCell {w0 : Base} {φ : Emb} {s : St} {w : World} (r : Rel w0 φ s w) {a o b : Nat} {t : Tgt} (ha : φ a = some t) (h : linkCell s a o b = true) : ∃ t', φ b = some t' := by
  unfold Vai.linkCell at h
  split at h
  · rename_i v hv
    obtain ⟨cv, _, h2⟩ := r.load ha hv
    exact h2.bound b (memB_spec h)
  · cases h
/-- Entry 'o' of the map 'a' leads to 'b'. -/
def linkEnt (s : St) (a o b : Nat) : Bool := match s.objs.get a with
  | some (.map es _) => (match es[o]? with
    | some e => memB b (idsOfV e.val)
    | none => false)
  | _ => false
theorem EntsR.get {φ : Emb} {es : List AEnt} {cs : List MapEntry} (r : EntsR φ es cs) : ∀ {o : Nat} {e : AEnt}, es[o]? = some e → ∃ c, cs[o]? = some c ∧ VR φ e.key c.key ∧ VR φ e.val c.val := by
  induction r with
  | nil => intro o e h; simp at h
  | cons a e l m hk hv hb _ ih =>
    intro o x h
    cases o with
    | zero => simp at h; subst h; exact ⟨e, rfl, hk, hv⟩
    | succ o => exact ih (by simpa using h)
theorem Rel.linkEnt {w0 : Base} {φ : Emb} {s : St} {w : World} (r : Rel w0 φ s w) {a o b : Nat} {t : Tgt} (ha : φ a = some t) (h : linkEnt s a o b = true) : ∃ t', φ b = some t' := by
  unfold Vai.linkEnt at h
  split at h
  · rename_i es clock ho
    split at h
    · rename_i e he
      obtain ⟨_, c, _, h2⟩ := r.obj a t _ ha ho
      cases h2 with
      | map _ cs _ hE =>
        obtain ⟨_, _, _, h3⟩ := hE.get he
        exact h3.bound b (memB_spec h)
    · cases h
  · cases h
/-- A block that the run may write, so none that stays. -/
def ownedAt (s : St) (a : Nat) : Bool := match s.views.get a with
  | some V => (match s.roots.get V.root with
    | some R => !R.ro
    | none => false)
  | none => false
theorem Rel.ownedAt {w0 : Base} {φ : Emb} {s : St} {w : World} (r : Rel w0 φ s w) {a : Nat} {t : Tgt} (ha : φ a = some t) (h : ownedAt s a = true) : ¬ w0.K t.blk := by
  unfold Vai.ownedAt at h
  split at h
  · rename_i V hV
    split at h
    · rename_i R hR
      obtain ⟨R', hR', bk⟩ := r.view a t V ha hV
      rw [hR] at hR'; cases hR'
      exact bk.own (by simpa using h)
    · cases h
  · cases h
end Go.Proofs.YtbjickdjkgefcaaGreatDoor.Vai
end
section
open Go Go.RowKit
noncomputable section
namespace Go.Proofs.YtbjickdjkgefcaaGreatDoor.Vai
set_option linter.unusedVariables false
set_option linter.unusedSimpArgs false
/-! ### a run from blocks that are known to blocks that are known -/
def idsLink (s : St) (a o : Nat) (ent : Bool) : List Nat :=
  bif ent then (match s.objs.get a with
    | some (.map es _) => (match es[o]? with
      | some e => idsOfV e.val
      | none => [])
    | _ => [])
  else (match aload s a o with
    | some v => idsOfV v
    | none => [])
def bnd (s : St) (n0 : Nat) : List (Nat × Nat × Bool) → List Nat → List Nat
  | [], kn => kn
  | (a, o, e) :: l, kn => bif Nat.blt a n0 || memB a kn then bnd s n0 l (idsLink s a o e ++ kn) else bnd s n0 l kn
def newOk (s : St) (id : Nat) : Bool := ownedAt s id || (match s.objs.get id with
  | some _ => true
  | none => false)
def runCheck (res : Option (Value × St)) (n0 : Nat) (chk : Value → Bool) (L' : List BSpec) (ids : List Nat) (τ : Nat → Option Nat) (links : List (Nat × Nat × Bool)) : Bool :=
  match res with
  | some (u, s') => chk u && (specOk (renOf ids 0) τ s' L' ids && nodupB (ids.map (rootOf s'))) && ids.all fun id => Nat.blt id n0 || (memB id (bnd s' n0 links (idsOfV u)) && newOk s' id)
  | none => false
theorem Rel.idsLink {w0 : Base} {φ : Emb} {s : St} {w : World} (r : Rel w0 φ s w) {a o : Nat} {e : Bool} {t : Tgt} (ha : φ a = some t) : ∀ x ∈ idsLink s a o e, ∃ t', φ x = some t' := by
  intro x hx
  unfold Vai.idsLink at hx
  cases e with
  | true =>
    simp only [cond_true] at hx
    split at hx
    · rename_i es clock ho
      split at hx
      · rename_i en he
        obtain ⟨_, c, _, h2⟩ := r.obj a t _ ha ho
        cases h2 with
        | map _ cs _ hE =>
          obtain ⟨_, _, _, h3⟩ := hE.get he
          exact h3.bound x hx
      · cases hx
    · cases hx
  | false =>
    simp only [cond_false] at hx
    split at hx
    · rename_i v hv
      obtain ⟨cv, _, h2⟩ := r.load ha hv
      exact h2.bound x hx
    · cases hx
theorem Rel.bnd {w0 : Base} {φ : Emb} {s : St} {w : World} (r : Rel w0 φ s w) {n0 : Nat} (h0 : ∀ x, x < n0 → ∃ t, φ x = some t) : ∀ (l : List (Nat × Nat × Bool)) (kn : List Nat), (∀ x ∈ kn, ∃ t, φ x = some t) → ∀ x ∈ bnd s n0 l kn, ∃ t, φ x = some t := by
  intro l
  induction l with
  | nil => intro kn h x hx; exact h x hx
  | cons p l ih =>
    obtain ⟨a, o, e⟩ := p
    intro kn h x hx
    simp only [Vai.bnd] at hx
    cases hb : (Nat.blt a n0 || memB a kn) with
    | false => rw [hb] at hx; exact ih kn h x hx
    | true =>
      rw [hb] at hx
      rw [Bool.or_eq_true] at hb
      obtain ⟨t, ht⟩ : ∃ t, φ a = some t := by
        rcases hb with hb | hb
        · exact h0 a (blt_iff.1 hb)
        · exact h a (memB_spec hb)
      refine ih _ (fun y hy => ?_) x hx
      rcases List.mem_append.1 hy with hy | hy
      · exact r.idsLink ht y hy
      · exact h y hy
theorem Rel.newOk {w0 : Base} {φ : Emb} {s : St} {w : World} (r : Rel w0 φ s w) {a : Nat} {t : Tgt} (ha : φ a = some t) (h : newOk s a = true) : ¬ w0.K t.blk := by
  unfold Vai.newOk at h
  rw [Bool.or_eq_true] at h
  rcases h with h | h
  · exact r.ownedAt ha h
  · split at h
    · rename_i o ho
      exact (r.obj a t o ha ho).1
    · cases h
theorem tgts_of {φ : Emb} : ∀ (ids : List Nat), (∀ x ∈ ids, ∃ t, φ x = some t) → ∃ ts : List Tgt, ts.length = ids.length ∧ ∀ (k : Nat) (id : Nat) (t : Tgt), ids[k]? = some id → ts[k]? = some t → φ id = some t := by
  intro ids
  induction ids with
  | nil => intro _; exact ⟨[], rfl, fun k id t h => by simp at h⟩
  | cons a l ih =>
    intro h
    obtain ⟨t, ht⟩ := h a (List.mem_cons_self ..)
    obtain ⟨ts, h1, h2⟩ := ih fun x hx => h x (List.mem_cons_of_mem _ hx)
    refine ⟨t :: ts, by simp [h1], fun k id u hi hu => ?_⟩
    cases k with
    | zero => simp at hi hu; subst hi; subst hu; exact ht
    | succ k => exact h2 k id u (by simpa using hi) (by simpa using hu)

/-- What a run from known blocks leaves. -/
structure Ran (b : Base) (L L' : List BSpec) (ids : List Nat) (ts ts' : List Tgt) (sig' : Sig) (ψ : Emb) (w' : World) : Prop where
  kept : Kept b w'
  len : ts'.length = L'.length
  nodup : (ts'.map (·.blk)).Nodup
  ok : ∀ (k : Nat) (t : Tgt) (sp : BSpec), ts'[k]? = some t → L'[k]? = some sp → sp.ok (Base.free w') (bEmb ts' sig') w' t
  lt : ∀ (k : Nat) (t : Tgt), ts'[k]? = some t → t.blk < w'.heap.size
  at_ : ∀ (k : Nat) (id : Nat) (t : Tgt), ids[k]? = some id → ts'[k]? = some t → ψ id = some t ∧ ((id < L.length ∧ ts[id]? = some t) ∨ (L.length ≤ id ∧ ¬ b.K t.blk))

theorem run_specs {P : Program} {tb : Tb} {kn : Known} (hP : TbOk P tb) (hmix : P.follows .mixedOrders = true) {b : Base} (hkn : KnOk P b kn) {L L' : List BSpec} {orc : List Fact} {ng : Nat} {f : FuncId} {args cargs : List Value} {ts : List Tgt} {sig sig' : Sig}
    (r : Rel b (bEmb ts sig) (bSt L orc ng) b.w) (hts : ts.length = L.length) (ha : VRL (bEmb ts sig) args cargs) {chk : Value → Bool} {ids : List Nat} {τ : Nat → Option Nat} {links : List (Nat × Nat × Bool)} {M d : Nat}
    (hc : runCheck (aFunK P tb kn M d (.func f) args (bSt L orc ng)) L.length chk L' ids τ links = true) (hsig : ∀ i j, τ i = some j → sig' i = sig j) (hstr : sig'.str = sig.str) :
    Calls P f cargs.toArray b.w fun e w' => ∃ (ψ : Emb) (u c : Value) (ts' : List Tgt), e = .returned c ∧ chk u = true ∧ VR ψ u c ∧ Ran b L L' ids ts ts' sig' ψ w' ∧ ψ.sig = sig := by
  unfold runCheck at hc
  split at hc
  · rename_i u s' hrun
    rw [Bool.and_eq_true, Bool.and_eq_true] at hc
    obtain ⟨⟨c1, c2⟩, c3⟩ := hc
    refine ((fun_soundK hP hmix hkn M d).fn f _ _ _ _ hrun _ b.w cargs r ha).2.mono ?_
    rintro e w' ⟨ψ, c, rfl, hext, hn, r', hvr⟩
    have hold : ∀ i, i < L.length → ψ i = ts[i]? := fun i hi => hext i hi
    have h0 : ∀ x, x < L.length → ∃ t, ψ x = some t := fun x hx => ⟨ts[x]'(by omega), by rw [hold x hx]; exact List.getElem?_eq_getElem _⟩
    have hb := r'.bnd h0 links (idsOfV u) (fun x hx => hvr.bound x hx)
    have hids : ∀ x ∈ ids, (x < L.length ∨ Vai.newOk s' x = true) ∧ ∃ t, ψ x = some t := by
      intro x hx
      have := List.all_eq_true.1 c3 x hx
      rw [Bool.or_eq_true, Bool.and_eq_true] at this
      rcases this with h | ⟨h1, h2⟩
      · exact ⟨.inl (blt_iff.1 h), h0 x (blt_iff.1 h)⟩
      · exact ⟨.inr h2, hb x (memB_spec h1)⟩
    obtain ⟨ts', e1, e2⟩ := tgts_of ids fun x hx => (hids x hx).2
    rw [Bool.and_eq_true] at c2
    have hlen : ts'.length = L'.length := by rw [e1, (specOk_at _ _ c2.1).1]
    obtain ⟨q1, q2⟩ := r'.respec (ts := ts') (sig := sig') (by rw [Bool.and_eq_true]; exact c2) hlen e2 (fun i j hij => by rw [hext.sig]; exact hsig i j hij) (by rw [hext.sig]; exact hstr)
    refine ⟨ψ, u, c, ts', rfl, c1, hvr, ⟨r'.bel, hlen, q1, q2, ?_, ?_⟩, hext.sig⟩
    · intro k t ht
      have hk := (List.getElem?_eq_some_iff.1 ht).1
      exact r'.lt (e2 k (ids[k]'(by omega)) t (List.getElem?_eq_getElem _) ht)
    · intro k id t hid ht
      have hψ := e2 k id t hid ht
      refine ⟨hψ, ?_⟩
      by_cases hlt : id < L.length
      · exact .inl ⟨hlt, by rw [← hold id hlt]; exact hψ⟩
      · refine .inr ⟨by omega, ?_⟩
        rcases (hids id (List.mem_of_getElem? hid)).1 with h | h
        · exact absurd h hlt
        · exact r'.newOk hψ h
  · cases hc
end Go.Proofs.YtbjickdjkgefcaaGreatDoor.Vai
end
end
section
open Go Go.RowKit
noncomputable section
namespace Go.Proofs.YtbjickdjkgefcaaGreatDoor.Vai
set_option linter.unusedVariables false
set_option linter.unusedSimpArgs false
/-- Blocks that are known lie in memory. -/
structure Lies (w : World) (L : List BSpec) (ts : List Tgt) (sig : Sig) : Prop where
  len : ts.length = L.length
  nodup : (ts.map (·.blk)).Nodup
  ok : ∀ (k : Nat) (t : Tgt) (sp : BSpec), ts[k]? = some t → L[k]? = some sp → sp.ok (Base.free w) (bEmb ts sig) w t
  lt : ∀ (k : Nat) (t : Tgt), ts[k]? = some t → t.blk < w.heap.size
theorem ok_base {b b' : Base} {φ : Emb} {w : World} {t : Tgt} {sp : BSpec} (h : sp.ok b φ w t) (hK : sp.owned = true → ¬ b'.K t.blk) : sp.ok b' φ w t := by
  cases sp with
  | cells elem es l ro => exact ⟨fun e => hK (by simp [BSpec.owned, e]), h.2⟩
  | obj o => exact ⟨hK rfl, h.2⟩
theorem ok_mono {b : Base} {φ ψ : Emb} {w : World} {t : Tgt} {sp : BSpec} (hle : φ.le ψ) (h : sp.ok b φ w t) : sp.ok b ψ w t := by
  cases sp with
  | cells elem es l ro =>
    obtain ⟨h1, h2, c, fr, h3, h4, h5, h6, h7, h8⟩ := h
    exact ⟨h1, h2, c, fr, h3, h4, h5, h6, h7, fun o val ho => let ⟨cv, a, b⟩ := h8 o val ho; ⟨cv, a, b.mono hle⟩⟩
  | obj o =>
    obtain ⟨h1, c, h2, h3⟩ := h
    exact ⟨h1, c, h2, h3.mono hle⟩
theorem ok_world {w w' : World} {φ : Emb} {t : Tgt} {sp : BSpec} (hw : w'.heap[t.blk]? = w.heap[t.blk]?) (h : sp.ok (Base.free w) φ w t) : sp.ok (Base.free w') φ w' t := by
  cases sp with
  | cells elem es l ro =>
    obtain ⟨h1, h2, c, fr, h3, h4⟩ := h
    exact ⟨h1, h2, c, fr, by rw [hw]; exact h3, h4⟩
  | obj o =>
    obtain ⟨h1, c, h2, h3⟩ := h
    exact ⟨h1, c, by rw [hw]; exact h2, h3⟩
theorem Lies.rel {b : Base} {L : List BSpec} {ts : List Tgt} {sig : Sig} (h : Lies b.w L ts sig) {orc : List Fact} (ho : ∀ f ∈ orc, f.ok sig) (hK : ∀ (k : Nat) (t : Tgt) (sp : BSpec), ts[k]? = some t → L[k]? = some sp → sp.owned = true → ¬ b.K t.blk) : Rel b (bEmb ts sig) (bSt L orc) b.w :=
  Rel.ofBlocks L ts sig orc h.len (Kept.refl b) ho h.nodup fun k t sp ht hsp => ok_base (h.ok k t sp ht hsp) (hK k t sp ht hsp)
theorem Lies.keep {w w' : World} {L : List BSpec} {ts : List Tgt} {sig : Sig} (h : Lies w L ts sig) (hs : w.heap.size ≤ w'.heap.size) (hw : ∀ (k : Nat) (t : Tgt), ts[k]? = some t → w'.heap[t.blk]? = w.heap[t.blk]?) : Lies w' L ts sig :=
  ⟨h.len, h.nodup, fun k t sp ht hsp => ok_world (hw k t ht) (h.ok k t sp ht hsp), fun k t ht => Nat.lt_of_lt_of_le (h.lt k t ht) hs⟩
theorem bEmb_le {ts : List Tgt} {t : Tgt} {sig : Sig} : (bEmb ts sig).le (bEmb (ts ++ [t]) sig) :=
  ⟨fun v u h => by
    have h : ts[v]? = some u := h
    show (ts ++ [t])[v]? = some u
    rw [List.getElem?_append_left (List.getElem?_eq_some_iff.1 h).1]; exact h, rfl⟩
theorem Lies.snoc {w : World} {L : List BSpec} {ts : List Tgt} {sig : Sig} (h : Lies w L ts sig) {sp : BSpec} {t : Tgt} (hok : sp.ok (Base.free w) (bEmb (ts ++ [t]) sig) w t) (hn : t.blk ∉ ts.map (·.blk)) (hlt : t.blk < w.heap.size) : Lies w (L ++ [sp]) (ts ++ [t]) sig := by
  have hl := h.len
  refine ⟨by simp [hl], ?_, ?_, ?_⟩
  · rw [List.map_append]
    refine List.nodup_append.2 ⟨h.nodup, by simp, ?_⟩
    intro a ha b hb hab
    simp at hb
    subst hb
    subst hab
    exact hn ha
  · intro k u s hu hs
    by_cases e : k < ts.length
    · rw [List.getElem?_append_left e] at hu
      rw [List.getElem?_append_left (by omega)] at hs
      exact ok_mono bEmb_le (h.ok k u s hu hs)
    · rw [List.getElem?_append_right (by omega)] at hu
      rw [List.getElem?_append_right (by omega)] at hs
      have : k - ts.length = 0 := by
        have := (List.getElem?_eq_some_iff.1 hu).1; simp at this; omega
      rw [this] at hu
      rw [show k - L.length = 0 by omega] at hs
      cases hu; cases hs
      exact hok
  · intro k u hu
    by_cases e : k < ts.length
    · rw [List.getElem?_append_left e] at hu
      exact h.lt k u hu
    · rw [List.getElem?_append_right (by omega)] at hu
      have : k - ts.length = 0 := by
        have := (List.getElem?_eq_some_iff.1 hu).1; simp at this; omega
      rw [this] at hu
      cases hu
      exact hlt
theorem Lies.sig {w : World} {L : List BSpec} {ts : List Tgt} {sig sig' : Sig} (h : Lies w L ts sig) {ρ : Ren} {τ : Nat → Option Nat} (hρ : ∀ a b, rlook ρ a = some b → b = a) (hτ : ∀ i j, τ i = some j → sig' i = sig j) (hstr : sig'.str = sig.str) (hm : spAll ρ τ L L = true) : Lies w L ts sig' := by
  refine ⟨h.len, h.nodup, fun k t sp ht hsp => ?_, h.lt⟩
  obtain ⟨sp', e1, e2⟩ := spAll_at _ _ hm k sp hsp
  rw [hsp] at e1
  cases e1
  exact (h.ok k t sp ht hsp).conv ⟨fun a b u e hu => by rw [hρ a b e] at hu; exact hu, hτ, hstr⟩ e2 rfl (fun _ hK => hK)
theorem Ran.lies {b : Base} {L L' : List BSpec} {ids : List Nat} {ts ts' : List Tgt} {sig' : Sig} {ψ : Emb} {w' : World} (h : Ran b L L' ids ts ts' sig' ψ w') : Lies w' L' ts' sig' := ⟨h.len, h.nodup, h.ok, h.lt⟩
/-- Nothing but some blocks has turned. -/
structure KeepL (l : List Nat) (w w' : World) : Prop where
  os : w'.os = w.os
  tape : w'.tape = w.tape
  output : w'.output = w.output
  size : w.heap.size ≤ w'.heap.size
  block : ∀ k, k < w.heap.size → k ∉ l → w'.heap[k]? = w.heap[k]?
def butL (w : World) (l : List Nat) : Base := ⟨w, fun q => q < w.heap.size ∧ q ∉ l, fun _ h => h.1⟩
theorem butL_keep {w w' : World} {l : List Nat} (h : Kept (butL w l) w') : KeepL l w w' := ⟨h.os, h.tape, h.output, h.size, fun k hk hm => h.block k ⟨hk, hm⟩⟩
theorem butL_rel {w : World} {L : List BSpec} {ts : List Tgt} {sig : Sig} (h : Lies w L ts sig) : Rel (butL w (ts.map (·.blk))) (bEmb ts sig) (bSt L []) w :=
  h.rel (b := butL w (ts.map (·.blk))) (fun f hf => by cases hf) fun k t sp ht _ _ hK => hK.2 (List.mem_map.2 ⟨t, List.mem_of_getElem? ht, rfl⟩)
/-- Of what came out each block was there, or is new. -/
theorem Ran.from_ {w w' : World} {L L' : List BSpec} {ids : List Nat} {ts ts' : List Tgt} {sig' : Sig} {ψ : Emb} (h : Ran (butL w (ts.map (·.blk))) L L' ids ts ts' sig' ψ w') (hids : ids.length = L'.length) : ∀ x ∈ ts'.map (·.blk), x ∈ ts.map (·.blk) ∨ w.heap.size ≤ x := by
  intro x hx
  obtain ⟨t, ht, rfl⟩ := List.mem_map.1 hx
  obtain ⟨k, hk⟩ := List.getElem?_of_mem ht
  have hlt := (List.getElem?_eq_some_iff.1 hk).1
  rw [h.len, ← hids] at hlt
  obtain ⟨_, h2⟩ := h.at_ k _ t (List.getElem?_eq_getElem hlt) hk
  rcases h2 with ⟨_, h2⟩ | ⟨_, h2⟩
  · exact .inl (List.mem_map.2 ⟨t, List.mem_of_getElem? h2, rfl⟩)
  · by_cases e : t.blk < w.heap.size
    · by_cases m : t.blk ∈ ts.map (·.blk)
      · exact .inl m
      · exact absurd ⟨e, m⟩ h2
    · exact .inr (by omega)

theorem KeepL.below {w w' : World} (h : KeepL [] w w') : Below w.heap.size w w' := ⟨h.os, h.tape, h.output, h.size, fun k hk => h.block k hk (by simp)⟩
theorem head_of {ts : List Tgt} {d : Nat} (h : ts.head?.map (·.blk) = some d) : ∃ t, ts[0]? = some t ∧ t.blk = d := by
  cases ts with
  | nil => cases h
  | cons t l => simp at h; exact ⟨t, rfl, h⟩
theorem Lies.below {w w' : World} {L : List BSpec} {ts : List Tgt} {sig : Sig} (h : Lies w L ts sig) (hb : Below w.heap.size w w') : Lies w' L ts sig :=
  h.keep hb.size fun k t ht => hb.block _ (h.lt k t ht)
theorem Lies.keepL {w w' : World} {L : List BSpec} {ts : List Tgt} {sig : Sig} {l : List Nat} (h : Lies w L ts sig) (hb : KeepL l w w') (hd : ∀ x ∈ ts.map (·.blk), x ∉ l) : Lies w' L ts sig :=
  h.keep hb.size fun k t ht => hb.block _ (h.lt k t ht) (hd _ (List.mem_map.2 ⟨t, List.mem_of_getElem? ht, rfl⟩))
theorem Lies.ltm {w : World} {L : List BSpec} {ts : List Tgt} {sig : Sig} (h : Lies w L ts sig) : ∀ x ∈ ts.map (·.blk), x < w.heap.size := by
  intro x hx
  obtain ⟨t, ht, rfl⟩ := List.mem_map.1 hx
  obtain ⟨k, hk⟩ := List.getElem?_of_mem ht
  exact h.lt k t hk
theorem KeepL.to_below {w0 w w' : World} {l : List Nat} (h : KeepL l w w') (h0 : Below w0.heap.size w0 w) (hl : ∀ x ∈ l, w0.heap.size ≤ x) : Below w0.heap.size w0 w' :=
  h0.trans ⟨h.os, h.tape, h.output, h.size, fun k hk => h.block k (by have := h0.size; omega) (fun hm => by have := hl k hm; omega)⟩
end Go.Proofs.YtbjickdjkgefcaaGreatDoor.Vai
end
end
section
open Go Go.RowKit
noncomputable section
namespace Go.Proofs.YtbjickdjkgefcaaGreatDoor.Vai
set_option linter.unusedVariables false
set_option linter.unusedSimpArgs false
/-! ### a piece of code by evaluation, within a walk -/
section
variable {P : Program} {tb : Tb} {call : ACall} {w0 : Base} {Q : Exit → Act → World → Prop}
theorem DR.nil_inv {φ : Emb} {m : List Deferred} (h : DR φ [] m) : m = [] := by cases h; rfl
/-- A piece that comes to its end. -/
theorem wp_frag (hP : TbOk P tb) (hmix : P.follows .mixedOrders = true) (hC : CallOk P w0 call) {n : Nat} {c : Code} {fr fr' : Fr} {s s' : St} (h : aExec P tb call false n c fr [] s = some (.norm, fr', [], s'))
    {φ : Emb} {a : Act} {w : World} (r : Rel w0 φ s w) (f : FR φ fr a) (hd : a.defers = [])
    (hQ : ∀ ψ a' w', Ext s φ ψ → s.next ≤ s'.next → Rel w0 ψ s' w' → FR ψ fr' a' → a'.defers = [] → Q .normal a' w') : c.wp P Q a w := by
  intro b k cs
  obtain ⟨ψ, a', w', td', e1, e2, e3, e4, e5, e6, e7⟩ := exec_sound hP hmix hC false n c fr fr' [] [] s s' .norm h φ a w r f (by rw [hd]; exact .nil) { b with roundOf := none } k cs (.code c :: k) (fun _ => rfl) (.code c k)
  cases e2
  exact ⟨.normal, a', w', hQ ψ a' w' e3 e4 e5 e6 e7.nil_inv, e1⟩
/-- A piece that leaves the function. -/
theorem wp_frag_ret (hP : TbOk P tb) (hmix : P.follows .mixedOrders = true) (hC : CallOk P w0 call) {n : Nat} {c : Code} {fr fr' : Fr} {s s' : St} (h : aExec P tb call false n c fr [] s = some (.ret, fr', [], s'))
    {φ : Emb} {a : Act} {w : World} (r : Rel w0 φ s w) (f : FR φ fr a) (hd : a.defers = [])
    (hQ : ∀ ψ a' w', Ext s φ ψ → s.next ≤ s'.next → Rel w0 ψ s' w' → FR ψ fr' a' → a'.defers = [] → Q .ret a' w') : c.wp P Q a w := by
  intro b k cs
  obtain ⟨ψ, a', w', td', e1, e2, e3, e4, e5, e6, e7⟩ := exec_sound hP hmix hC false n c fr fr' [] [] s s' .ret h φ a w r f (by rw [hd]; exact .nil) { b with roundOf := none } k cs (.code c :: k) (fun _ => rfl) (.code c k)
  obtain ⟨m, rfl⟩ := e2
  exact ⟨.ret, a', w', hQ ψ a' w' e3 e4 e5 e6 e7.nil_inv, _, e1.trans (.one step_ret)⟩
/-- A piece that goes out of a block. -/
theorem wp_frag_exit (hP : TbOk P tb) (hmix : P.follows .mixedOrders = true) (hC : CallOk P w0 call) {n id : Nat} {c : Code} {fr fr' : Fr} {s s' : St} (h : aExec P tb call false n c fr [] s = some (.exit id, fr', [], s'))
    {φ : Emb} {a : Act} {w : World} (r : Rel w0 φ s w) (f : FR φ fr a) (hd : a.defers = [])
    (hQ : ∀ ψ a' w', Ext s φ ψ → s.next ≤ s'.next → Rel w0 ψ s' w' → FR ψ fr' a' → a'.defers = [] → Q (.exit id) a' w') : c.wp P Q a w := by
  intro b k cs
  obtain ⟨ψ, a', w', td', e1, e2, e3, e4, e5, e6, e7⟩ := exec_sound hP hmix hC false n c fr fr' [] [] s s' (.exit id) h φ a w r f (by rw [hd]; exact .nil) { b with roundOf := none } k cs (.code c :: k) (fun _ => rfl) (.code c k)
  obtain ⟨m, rfl, hm⟩ := e2
  exact ⟨.exit id, a', w', hQ ψ a' w' e3 e4 e5 e6 e7.nil_inv, fun k' hk => e1.trans (.one (step_exit (by rw [hm]; exact hk)))⟩
/-- The head of a row of pieces, by evaluation. -/
theorem aExec_seq {n : Nat} {x y : Code} {fr fr' : Fr} {s s' : St} (h : aExec P tb call false (n + 1) (.seq x y) fr [] s = some (.norm, fr', [], s')) :
    ∃ fr1 ds1 s1, aExec P tb call false n x fr [] s = some (.norm, fr1, ds1, s1) ∧ aExec P tb call false n y fr1 ds1 s1 = some (.norm, fr', [], s') := by
  simp only [aExec] at h
  split at h
  · rename_i fr1 ds1 s1 h1
    exact ⟨fr1, ds1, s1, h1, h⟩
  · rename_i h1
    exact absurd h (h1 _ _ _)
end
end Go.Proofs.YtbjickdjkgefcaaGreatDoor.Vai
end
end
