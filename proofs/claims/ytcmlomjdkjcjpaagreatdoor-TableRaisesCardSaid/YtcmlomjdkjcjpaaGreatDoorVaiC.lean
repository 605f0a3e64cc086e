/- A part of an evaluator of the model's code whose answers are proved sound: no statement on the program stands here. -/
import Derived.Test.YtcmlomjdkjcjpaaGreatDoorVaiB
open Go Go.RowKit
namespace Go.Proofs.YtcmlomjdkjcjpaaGreatDoor.Vai
set_option linter.unusedVariables false

structure Root where
  elem : TypeId
  es : Nat
  cells : T (Nat × Value)
  cur : Nat
  flo : Nat
  fhi : Nat
  ro : Bool
  sish : Bool

structure View where
  root : Nat
  ext : Nat
  exact : Bool

structure AEnt where
  key : Value
  val : Value
  born : Nat

inductive AObj where
  | map (es : List AEnt) (clock : Nat)
  | siter (s : ByteArray) (pos : Nat)
  | loop (st : LoopState) (pending : Option Code) (tm : T Value) (n : Nat) (params : List Tmp) (assign body : Code) (d : Nat)
  | defs
  | defsDone
  | miter (m : Option Nat) (since : Nat) (seen : List Nat) (last : Nat)
  | other (o : Obj)

/-- What is known of the atoms. -/
inductive Fact where
  | add (i j k : Nat)
  | ovf (i j : Nat)
  | neg (i k : Nat)
  | eq (i : Nat) (c : Int) (b : Bool)
  | lt (i : Nat) (c : Int) (b : Bool)
def Fact.ok (sig : Nat → Int) : Fact → Prop
  | .add i j k => sig k = sig i + sig j ∧ -9223372036854775808 ≤ sig k ∧ sig k ≤ 9223372036854775807
  | .ovf i j => ¬ (-9223372036854775808 ≤ sig i + sig j ∧ sig i + sig j ≤ 9223372036854775807)
  | .neg i k => sig k = -sig i ∧ -9223372036854775808 ≤ sig k ∧ sig k ≤ 9223372036854775807
  | .eq i c b => decide (sig i = c) = b
  | .lt i c b => decide (sig i < c) = b

structure St where
  ng : Nat
  next : Nat
  views : T View
  roots : T Root
  objs : T AObj
  orc : List Fact := []

inductive EntsR (φ : Emb) : List AEnt → List MapEntry → Prop where
  | nil : EntsR φ [] []
  | cons (a : AEnt) (e : MapEntry) (l : List AEnt) (m : List MapEntry) (hk : VR φ a.key e.key) (hv : VR φ a.val e.val) (hb : a.born = e.born) (h : EntsR φ l m) : EntsR φ (a :: l) (e :: m)

inductive ObjR (φ : Emb) : AObj → Obj → Prop where
  | map (es : List AEnt) (cs : Array MapEntry) (clock : Nat) (h : EntsR φ es cs.toList) : ObjR φ (.map es clock) (.map cs clock)
  | miterNil (since : Nat) (seen : List Nat) (last : Nat) : ObjR φ (.miter none since seen last) (.mapIter none since seen.toArray last)
  | miter (r : Nat) (t : Tgt) (h : φ r = some t) (since : Nat) (seen : List Nat) (last : Nat) : ObjR φ (.miter (some r) since seen last) (.mapIter (some t.blk) since seen.toArray last)
  | siter (s : ByteArray) (pos : Nat) : ObjR φ (.siter s pos) (.stringIter s pos)
  | loop (st : LoopState) (pending : Option Code) (tm : T Value) (n : Nat) (params : List Tmp) (assign body : Code) (d : Nat) (t : Tgt) (fn : FuncId) (tmps : Array Value) (ps : Array Tmp)
      (hd : φ d = some t) (hs : tmps.size = n) (hps : ps = ⟨params⟩) (h : ∀ i v, tm.get i = some v → ∃ c, tmps[i]? = some c ∧ VR φ v c) :
      ObjR φ (.loop st pending tm n params assign body d) (.loop { state := st, pending := pending, fn := fn, tmps := tmps, params := ps, assign := assign, body := body, defers := t.blk })
  | defs : ObjR φ .defs (.deferred (some []))
  | defsDone : ObjR φ .defsDone (.deferred none)

theorem EntsR.mono {φ ψ : Emb} (h : φ.le ψ) {a : List AEnt} {c : List MapEntry} (r : EntsR φ a c) : EntsR ψ a c := by
  induction r with
  | nil => exact .nil
  | cons a e l m hk hv hb _ ih => exact .cons _ _ _ _ (hk.mono h) (hv.mono h) hb ih
theorem ObjR.mono {φ ψ : Emb} (h : φ.le ψ) {a : AObj} {c : Obj} (r : ObjR φ a c) : ObjR ψ a c := by
  cases r with
  | map es cs k e => exact .map _ _ _ (e.mono h)
  | miterNil => exact .miterNil _ _ _
  | miter r t e => exact .miter _ _ (h _ _ e) _ _ _
  | siter => exact .siter _ _
  | loop st pending tm n params assign body d t fn tmps ps hd hs hps e => exact .loop _ _ _ _ _ _ _ _ t _ _ _ (h _ _ hd) hs hps (fun i v hv => let ⟨c, h1, h2⟩ := e i v hv; ⟨c, h1, h2.mono h⟩)
  | defs => exact .defs
  | defsDone => exact .defsDone
theorem ObjR.notCells {φ : Emb} {a : AObj} {c : Array Value} {e : TypeId} {f : Nat × Nat} (r : ObjR φ a (.cells c e f)) : False := by cases r

/-- The world at the beginning, and which of its blocks stay as they are. -/
structure Base where
  w : World
  K : Nat → Prop
  lt : ∀ k, K k → k < w.heap.size
/-- Blocks that stay as they are. -/
structure Kept (b : Base) (w : World) : Prop where
  os : w.os = b.w.os
  tape : w.tape = b.w.tape
  output : w.output = b.w.output
  size : b.w.heap.size ≤ w.heap.size
  block : ∀ k, b.K k → w.heap[k]? = b.w.heap[k]?
theorem Kept.new {b : Base} {w : World} (h : Kept b w) : ¬ b.K w.heap.size := fun k => by have := b.lt _ k; have := h.size; omega
theorem Kept.step {b : Base} {w w' : World} (h : Kept b w) (os : w'.os = w.os) (tape : w'.tape = w.tape) (output : w'.output = w.output) (size : w.heap.size ≤ w'.heap.size) (block : ∀ k, b.K k → w'.heap[k]? = w.heap[k]?) : Kept b w' :=
  ⟨os.trans h.os, tape.trans h.tape, output.trans h.output, Nat.le_trans h.size size, fun k hk => (block k hk).trans (h.block k hk)⟩
theorem Kept.below {b : Base} {w w' : World} (h : Kept b w) (k : Below w.heap.size w w') : Kept b w' :=
  h.step k.os k.tape k.output k.size fun i hi => k.block i (by have := b.lt i hi; have := h.size; omega)
theorem Kept.drew {b : Base} {w : World} (h : Kept b w) : Kept b w.drew := ⟨h.os, h.tape, h.output, h.size, h.block⟩
theorem Kept.alloc {b : Base} {w : World} (h : Kept b w) (o : Obj) : Kept b (w.alloc o) :=
  h.step rfl rfl rfl (by simp) fun k hk => Below.heap_alloc _ _ _ (by have := b.lt k hk; have := h.size; omega)
theorem Kept.setCell {b : Base} {w : World} (h : Kept b w) {p : Addr} (hp : ¬ b.K p.block) (u : Value) : Kept b (w.setCell p u) :=
  h.step rfl rfl rfl (by simp [World.setCell]) fun k hk => Below.heap_setCell _ _ _ _ (fun e => hp (e ▸ hk))
/-- All blocks that are there stay. -/
def Base.all (w : World) : Base := ⟨w, fun k => k < w.heap.size, fun _ h => h⟩
theorem Kept.all {w w' : World} (h : Kept (Base.all w) w') : Below w.heap.size w w' := ⟨h.os, h.tape, h.output, h.size, h.block⟩
theorem Kept.refl (b : Base) : Kept b b.w := ⟨rfl, rfl, rfl, Nat.le_refl _, fun _ _ => rfl⟩

/-- Which cells may be frozen: none outside the root's own range; none at all where the range is empty. -/
structure FrOk (n flo fhi : Nat) (sish : Bool) (fr : Nat × Nat) : Prop where
  le : fr.1 ≤ fr.2
  sub : ∀ o, o < n → fr.1 ≤ o → o < fr.2 → flo ≤ o ∧ o < fhi
  none : sish = false → flo = fhi → fr.2 ≤ fr.1
  top : sish = false → fr.2 ≤ n

/-- A block of cells as the view 'v' sees it. -/
structure BlockOk (φ : Emb) (K : Nat → Prop) (w : World) (v : Nat) (t : Tgt) (V : View) (R : Root) : Prop where
  es : R.es = t.es
  cur : v ≤ R.cur
  own : R.ro = false → ¬ K t.blk
  ext : V.ext ≤ t.n
  exact : V.exact = true → t.n = V.ext
  stamps : ∀ o st val, R.cells.get o = some (st, val) → st ≤ R.cur
  blk : ∃ c fr, w.heap[t.blk]? = some (.cells c R.elem fr) ∧ c.size = t.n ∧ FrOk t.n R.flo R.fhi R.sish fr ∧
    ∀ o st val, R.cells.get o = some (st, val) → st ≤ v → o < V.ext → ∃ cv, c[o]? = some cv ∧ VR φ val cv

structure Rel (w0 : Base) (φ : Emb) (s : St) (w : World) : Prop where
  bel : Kept w0 w
  fresh : ∀ v t, φ v = some t → v < s.next
  known : ∀ v t, φ v = some t → (∃ V, s.views.get v = some V) ∨ (∃ o, s.objs.get v = some o)
  view : ∀ v t V, φ v = some t → s.views.get v = some V → ∃ R, s.roots.get V.root = some R ∧ BlockOk φ w0.K w v t V R
  obj : ∀ v t o, φ v = some t → s.objs.get v = some o → ¬ w0.K t.blk ∧ ∃ c, w.heap[t.blk]? = some c ∧ ObjR φ o c
  inj : ∀ v1 v2 t1 t2, φ v1 = some t1 → φ v2 = some t2 → t1.blk = t2.blk → v1 = v2 ∨ ∃ V1 V2, s.views.get v1 = some V1 ∧ s.views.get v2 = some V2 ∧ V1.root = V2.root
  vroot : ∀ v V, s.views.get v = some V → V.root < s.next ∧ v < s.next
  olt : ∀ v o, s.objs.get v = some o → v < s.next
  glob : ∀ g V, g < s.ng → s.views.get g = some V → ∃ t, φ g = some t ∧ t.blk = g
  ngle : s.ng ≤ s.next
  orc : ∀ f ∈ s.orc, f.ok φ.sig

theorem BlockOk.mono {φ ψ : Emb} (h : φ.le ψ) {K : Nat → Prop} {w : World} {v : Nat} {t : Tgt} {V : View} {R : Root} (b : BlockOk φ K w v t V R) : BlockOk ψ K w v t V R := by
  obtain ⟨c, fr, h1, h2, h3, h4⟩ := b.blk
  exact ⟨b.es, b.cur, b.own, b.ext, b.exact, b.stamps, c, fr, h1, h2, h3, fun o st val g hs ho => let ⟨cv, e1, e2⟩ := h4 o st val g hs ho; ⟨cv, e1, e2.mono h⟩⟩

theorem Rel.lt {w0 : Base} {φ : Emb} {s : St} {w : World} (r : Rel w0 φ s w) {v : Nat} {t : Tgt} (h : φ v = some t) : t.blk < w.heap.size := by
  rcases r.known v t h with ⟨V, hV⟩ | ⟨o, ho⟩
  · obtain ⟨R, _, b⟩ := r.view v t V h hV
    obtain ⟨c, fr, h1, _⟩ := b.blk
    exact (Array.getElem?_eq_some_iff.1 h1).1
  · obtain ⟨_, c, h1, _⟩ := r.obj v t o h ho
    exact (Array.getElem?_eq_some_iff.1 h1).1

/-! ### reading -/
def aload (s : St) (v o : Nat) : Option Value :=
  match s.views.get v with
  | none => none
  | some V => bif Nat.blt o V.ext then
      match s.roots.get V.root with
      | none => none
      | some R => match R.cells.get o with
        | none => none
        | some (st, val) => bif Nat.ble st v then some val else none
    else none

theorem blt_iff {a b : Nat} : Nat.blt a b = true ↔ a < b := by
  unfold Nat.blt; rw [Nat.ble_eq]; exact Iff.rfl

theorem aload_spec {s : St} {v o : Nat} {val : Value} (h : aload s v o = some val) :
    ∃ V R st, s.views.get v = some V ∧ o < V.ext ∧ s.roots.get V.root = some R ∧ R.cells.get o = some (st, val) ∧ st ≤ v := by
  unfold aload at h
  split at h
  · cases h
  · rename_i V hV
    cases hb : Nat.blt o V.ext with
    | false => rw [hb] at h; cases h
    | true =>
      rw [hb] at h
      simp only [cond_true] at h
      split at h
      · cases h
      · rename_i R hR
        split at h
        · cases h
        · rename_i st val' hc
          cases hs : Nat.ble st v with
          | false => rw [hs] at h; cases h
          | true =>
            rw [hs] at h
            simp only [cond_true, Option.some.injEq] at h
            subst h
            exact ⟨V, R, st, hV, blt_iff.1 hb, hR, hc, Nat.le_of_ble_eq_true hs⟩

theorem Rel.load {w0 : Base} {φ : Emb} {s : St} {w : World} (r : Rel w0 φ s w) {v o : Nat} {t : Tgt} {val : Value} (hv : φ v = some t) (h : aload s v o = some val) :
    ∃ cv, w.cell? ⟨t.blk, o, none⟩ = some cv ∧ VR φ val cv := by
  obtain ⟨V, R, st, hV, ho, hR, hc, hs⟩ := aload_spec h
  obtain ⟨R', hR', b⟩ := r.view v t V hv hV
  rw [hR] at hR'; cases hR'
  obtain ⟨c, fr, h1, _, _, h4⟩ := b.blk
  obtain ⟨cv, e1, e2⟩ := h4 o st val hc hs ho
  exact ⟨cv, by simp [World.cell?, h1, e1], e2⟩

/-! ### writing -/
def astore (s : St) (v o : Nat) (val : Value) : Option St :=
  match s.views.get v with
  | none => none
  | some V => bif Nat.blt o V.ext && oneCell val then
      match s.roots.get V.root with
      | none => none
      | some R => bif Nat.beq R.cur v && !R.ro && !(Nat.ble R.flo o && Nat.blt o R.fhi) then
          some { s with roots := s.roots.set V.root { R with cells := R.cells.set o (v, val) } }
        else none
    else none

theorem astore_spec {s s' : St} {v o : Nat} {val : Value} (h : astore s v o val = some s') :
    ∃ V R, s.views.get v = some V ∧ o < V.ext ∧ oneCell val = true ∧ s.roots.get V.root = some R ∧ R.cur = v ∧ R.ro = false ∧ ¬ (R.flo ≤ o ∧ o < R.fhi) ∧
      s' = { s with roots := s.roots.set V.root { R with cells := R.cells.set o (v, val) } } := by
  unfold astore at h
  split at h
  · cases h
  · rename_i V hV
    cases hb : (Nat.blt o V.ext && oneCell val) with
    | false => rw [hb] at h; cases h
    | true =>
      rw [hb] at h
      simp only [cond_true] at h
      rw [Bool.and_eq_true] at hb
      split at h
      · cases h
      · rename_i R hR
        cases hc : (Nat.beq R.cur v && !R.ro && !(Nat.ble R.flo o && Nat.blt o R.fhi)) with
        | false => rw [hc] at h; cases h
        | true =>
          rw [hc] at h
          simp only [cond_true, Option.some.injEq] at h
          rw [Bool.and_eq_true, Bool.and_eq_true] at hc
          obtain ⟨⟨c1, c2⟩, c3⟩ := hc
          refine ⟨V, R, hV, blt_iff.1 hb.1, hb.2, hR, Nat.eq_of_beq_eq_true c1, by simpa using c2, ?_, h.symm⟩
          rintro ⟨x, y⟩
          rw [Nat.ble_eq_true_of_le x, blt_iff.2 y] at c3
          cases c3

theorem T.get_set_same {α : Type} (t : T α) (n : Nat) (v : α) : (t.set n v).get n = some v := T.get_put_same _ _ _
theorem T.get_set_other {α : Type} (t : T α) {n k : Nat} (v : α) (h : k ≠ n) : (t.set n v).get k = t.get k := T.get_put_other _ _ h

theorem frozen_not {w : World} {b o : Nat} {c : Array Value} {e : TypeId} {fr : Nat × Nat} (h : w.heap[b]? = some (.cells c e fr)) (hn : ¬ (fr.1 ≤ o ∧ o < fr.2)) : w.frozen? ⟨b, o, none⟩ = false := by
  obtain ⟨lo, hi⟩ := fr
  simp only [World.frozen?, h]
  by_cases h1 : lo ≤ o
  · have : ¬ o < hi := fun h2 => hn ⟨h1, h2⟩
    simp [h1, this]
  · simp [h1]

theorem heap_setCell_at {w : World} {b o : Nat} {v : Value} {c : Array Value} {e : TypeId} {fr : Nat × Nat} (h : w.heap[b]? = some (.cells c e fr)) :
    (w.setCell ⟨b, o, none⟩ v).heap[b]? = some (.cells (c.setIfInBounds o v) e fr) := by
  simp [World.setCell, Array.getElem?_modify, h]
theorem heap_setCell_ne {w : World} {b o k : Nat} {v : Value} (h : k ≠ b) : (w.setCell ⟨b, o, none⟩ v).heap[k]? = w.heap[k]? := Below.heap_setCell _ _ _ _ h

theorem Rel.store {w0 : Base} {φ : Emb} {s s' : St} {w : World} (r : Rel w0 φ s w) {v o : Nat} {t : Tgt} {val cv : Value} (hv : φ v = some t) (h : astore s v o val = some s') (hx : VR φ val cv) :
    (∃ old, w.cell? ⟨t.blk, o, none⟩ = some old) ∧ w.frozen? ⟨t.blk, o, none⟩ = false ∧ Rel w0 φ s' (w.setCell ⟨t.blk, o, none⟩ cv) := by
  obtain ⟨V, R, hV, ho, _, hR, hcur, hro, hfr, rfl⟩ := astore_spec h
  obtain ⟨R', hR', b⟩ := r.view v t V hv hV
  rw [hR] at hR'; cases hR'
  obtain ⟨c, fr, h1, h2, h3, h4⟩ := b.blk
  have hin : o < c.size := by have := b.ext; omega
  have hown := b.own hro
  refine ⟨⟨c[o], by simp [World.cell?, h1, hin]⟩, frozen_not h1 (fun ⟨a, b⟩ => hfr (h3.sub o (by omega) a b)), ?_⟩
  refine ⟨r.bel.setCell hown _, r.fresh, r.known, ?_, ?_, r.inj, r.vroot, r.olt, r.glob, r.ngle, r.orc⟩
  · intro v' t' V' hv' hV'
    obtain ⟨R1, hR1, b1⟩ := r.view v' t' V' hv' hV'
    obtain ⟨c1, fr1, g1, g2, g3, g4⟩ := b1.blk
    by_cases hroot : V'.root = V.root
    · rw [hroot, hR] at hR1; cases hR1
      refine ⟨{ R with cells := R.cells.set o (v, val) }, by simp only [hroot]; exact T.get_set_same _ _ _, ?_⟩
      refine ⟨b1.es, b1.cur, b1.own, b1.ext, b1.exact, ?_, ?_⟩
      · intro o' st' val' hc'
        by_cases e : o' = o
        · subst e
          simp only [T.get_set_same, Option.some.injEq, Prod.mk.injEq] at hc'
          obtain ⟨rfl, rfl⟩ := hc'
          show v ≤ R.cur
          omega
        · simp only [T.get_set_other _ _ e] at hc'
          exact b1.stamps o' st' val' hc'
      by_cases hb : t'.blk = t.blk
      · rw [hb, h1] at g1
        cases g1
        refine ⟨c.setIfInBounds o cv, fr, by rw [hb]; exact heap_setCell_at h1, by simp; exact g2, ⟨h3.le, fun o ho a b => h3.sub o (by omega) a b, h3.none, fun h => by have := h3.top h; omega⟩, ?_⟩
        intro o' st' val' hc' hs' ho'
        by_cases e : o' = o
        · subst e
          simp only [T.get_set_same, Option.some.injEq, Prod.mk.injEq] at hc'
          obtain ⟨rfl, rfl⟩ := hc'
          exact ⟨cv, by simp [hin], hx⟩
        · simp only [T.get_set_other _ _ e] at hc'
          obtain ⟨cv', e1, e2⟩ := g4 o' st' val' hc' hs' ho'
          exact ⟨cv', by rw [Array.getElem?_setIfInBounds_ne (fun x => e x.symm)]; exact e1, e2⟩
      · refine ⟨c1, fr1, by rw [heap_setCell_ne hb]; exact g1, g2, g3, ?_⟩
        intro o' st' val' hc' hs' ho'
        by_cases e : o' = o
        · subst e
          simp only [T.get_set_same, Option.some.injEq, Prod.mk.injEq] at hc'
          obtain ⟨rfl, rfl⟩ := hc'
          have : v' ≤ R.cur := b1.cur
          have hvv : v' = v := by omega
          subst hvv
          rw [hv] at hv'; cases hv'
          exact absurd rfl hb
        · simp only [T.get_set_other _ _ e] at hc'
          exact g4 o' st' val' hc' hs' ho'
    · have hb : t'.blk ≠ t.blk := by
        intro e
        rcases r.inj v' v t' t hv' hv e with rfl | ⟨V1, V2, e1, e2, e3⟩
        · rw [hV] at hV'; cases hV'; exact hroot rfl
        · rw [hV'] at e1; rw [hV] at e2; cases e1; cases e2; exact hroot e3
      refine ⟨R1, by simp only; rw [T.get_set_other _ _ hroot]; exact hR1, b1.es, b1.cur, b1.own, b1.ext, b1.exact, b1.stamps, c1, fr1, by rw [heap_setCell_ne hb]; exact g1, g2, g3, g4⟩
  · intro v' t' o' hv' ho'
    obtain ⟨k1, c1, k2, k3⟩ := r.obj v' t' o' hv' ho'
    refine ⟨k1, c1, ?_, k3⟩
    rw [heap_setCell_ne ?_]; exact k2
    intro e
    rw [e, h1] at k2; cases k2
    exact k3.notCells
end Go.Proofs.YtcmlomjdkjcjpaaGreatDoor.Vai
