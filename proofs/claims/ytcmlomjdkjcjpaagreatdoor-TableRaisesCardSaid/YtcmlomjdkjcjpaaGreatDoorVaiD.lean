/- A part of an evaluator of the model's code whose answers are proved sound: no statement on the program stands here. -/
import Derived.Test.YtcmlomjdkjcjpaaGreatDoorVaiC
open Go Go.RowKit
namespace Go.Proofs.YtcmlomjdkjcjpaaGreatDoor.Vai
set_option linter.unusedVariables false

/-- Lists of values side by side. -/
inductive VRL (φ : Emb) : List Value → List Value → Prop where
  | nil : VRL φ [] []
  | cons (a c : Value) (l m : List Value) (h : VR φ a c) (t : VRL φ l m) : VRL φ (a :: l) (c :: m)

theorem VRL.mono {φ ψ : Emb} (h : φ.le ψ) {a c : List Value} (r : VRL φ a c) : VRL ψ a c := by
  induction r with
  | nil => exact .nil
  | cons a c l m hv _ ih => exact .cons _ _ _ _ (hv.mono h) ih
theorem VRL.length {φ : Emb} {a c : List Value} (r : VRL φ a c) : a.length = c.length := by
  induction r with
  | nil => rfl
  | cons a c l m _ _ ih => simp [ih]
theorem VRL.at_ {φ : Emb} {a c : List Value} (r : VRL φ a c) : ∀ (i : Nat) x y, a[i]? = some x → c[i]? = some y → VR φ x y := by
  induction r with
  | nil => intro i x y h; simp at h
  | cons a c l m hv _ ih =>
    intro i x y hx hy
    cases i with
    | zero => simp at hx hy; subst hx; subst hy; exact hv
    | succ i => exact ih i x y (by simpa using hx) (by simpa using hy)
theorem VRL.append {φ : Emb} {a c b d : List Value} (r : VRL φ a c) (q : VRL φ b d) : VRL φ (a ++ b) (c ++ d) := by
  induction r with
  | nil => exact q
  | cons a c l m hv _ ih => exact .cons _ _ _ _ hv ih
theorem VRL.of_at {φ : Emb} : ∀ (a c : List Value), a.length = c.length → (∀ (i : Nat) x y, a[i]? = some x → c[i]? = some y → VR φ x y) → VRL φ a c := by
  intro a
  induction a with
  | nil => intro c h _; cases c with
    | nil => exact .nil
    | cons => simp at h
  | cons a l ih => intro c h H; cases c with
    | nil => simp at h
    | cons c m => exact .cons _ _ _ _ (H 0 a c (by simp) (by simp)) (ih m (by simpa using h) (fun i x y hx hy => H (i + 1) x y (by simpa using hx) (by simpa using hy)))
theorem VRL.array {φ : Emb} {a c : List Value} (r : VRL φ a c) : VRA φ a.toArray c.toArray := ⟨by simp [r.length], fun i x y hx hy => r.at_ i x y (by simpa using hx) (by simpa using hy)⟩
theorem VRA.list {φ : Emb} {a c : Array Value} (r : VRA φ a c) : VRL φ a.toList c.toList :=
  VRL.of_at _ _ (by simp [r.size]) (fun i x y hx hy => r.at_ i x y (by simpa using hx) (by simpa using hy))
theorem VRL.take {φ : Emb} {a c : List Value} (r : VRL φ a c) (n : Nat) : VRL φ (a.take n) (c.take n) := by
  induction r generalizing n with
  | nil => simp; exact .nil
  | cons a c l m hv _ ih => cases n with
    | zero => simp; exact .nil
    | succ n => simp; exact .cons _ _ _ _ hv (ih n)
theorem VRL.drop {φ : Emb} {a c : List Value} (r : VRL φ a c) (n : Nat) : VRL φ (a.drop n) (c.drop n) := by
  induction r generalizing n with
  | nil => simp; exact .nil
  | cons a c l m hv ht ih => cases n with
    | zero => simp; exact .cons _ _ _ _ hv ht
    | succ n => simp; exact ih n
theorem VRL.get {φ : Emb} {a c : List Value} (r : VRL φ a c) {i : Nat} {x : Value} (h : a[i]? = some x) : ∃ y, c[i]? = some y ∧ VR φ x y := by
  have hi : i < c.length := by rw [← r.length]; exact (List.getElem?_eq_some_iff.1 h).1
  exact ⟨c[i], List.getElem?_eq_getElem hi, r.at_ i x _ h (List.getElem?_eq_getElem hi)⟩
theorem VRL.plain {φ : Emb} : ∀ (l : List Value), plainL l = true → VRL φ l l := by
  intro l
  induction l with
  | nil => intro _; exact .nil
  | cons a l ih => intro h; simp only [plainL, Bool.and_eq_true] at h; exact .cons _ _ _ _ (VR.of_plain φ a h.1) (ih h.2)
theorem VRL.ints {φ : Emb} (k : IntKind) (l : List Int) : VRL φ (l.map (.int k)) (l.map (.int k)) := by
  induction l with
  | nil => exact .nil
  | cons a l ih => exact .cons _ _ _ _ (.int k a) ih

/-! ### a new block -/
def cellsOf (l : List Value) : T (Nat × Value) := T.ofList (l.map fun v => (0, v))

def aallocX (s : St) (elem : TypeId) (es : Nat) (cells : List Value) (ext : Nat) (ex sish : Bool) : St :=
  { ng := s.ng, orc := s.orc, next := s.next + 1, views := s.views.set s.next { root := s.next, ext := ext, exact := ex },
    roots := s.roots.set s.next { elem, es, cells := cellsOf cells, cur := s.next, flo := 0, fhi := 0, ro := false, sish := sish }, objs := s.objs }

abbrev aalloc (s : St) (elem : TypeId) (es : Nat) (cells : List Value) : St := aallocX s elem es cells cells.length true false

def Emb.with (φ : Emb) (v : Nat) (t : Tgt) : Emb := ⟨fun k => if k = v then some t else φ k, φ.sig⟩
theorem Emb.with_same (φ : Emb) (v : Nat) (t : Tgt) : (φ.with v t) v = some t := by simp [Emb.with]
theorem Emb.with_other (φ : Emb) {v k : Nat} (t : Tgt) (h : k ≠ v) : (φ.with v t) k = φ k := by simp [Emb.with, h]

theorem Rel.free {w0 : Base} {φ : Emb} {s : St} {w : World} (r : Rel w0 φ s w) : φ s.next = none := by
  cases h : φ s.next with
  | none => rfl
  | some t => exact absurd (r.fresh _ _ h) (Nat.lt_irrefl _)
theorem Rel.with_le {w0 : Base} {φ : Emb} {s : St} {w : World} (r : Rel w0 φ s w) (t : Tgt) : φ.le (φ.with s.next t) := by
  refine ⟨?_, rfl⟩
  intro v t' h
  rw [Emb.with_other _ _ ?_]; exact h
  intro e; subst e; rw [r.free] at h; cases h

theorem heap_alloc_old {w : World} {o : Obj} {k : Nat} {x : Obj} (h : w.heap[k]? = some x) : (w.alloc o).heap[k]? = some x :=
  (Below.heap_alloc w o k (Array.getElem?_eq_some_iff.1 h).1).trans h
theorem heap_alloc_at {w : World} {o : Obj} : (w.alloc o).heap[w.heap.size]? = some o := by
  show (w.heap.push o)[w.heap.size]? = _
  simp

theorem Rel.allocX {w0 : Base} {φ : Emb} {s : St} {w : World} (r : Rel w0 φ s w) (elem : TypeId) (es : Nat) {cells cs : List Value} (rest : List Value) (fr : Nat × Nat) (ext : Nat) (ex sish : Bool) (hext : ext ≤ cs.length + rest.length) (hex : ex = true → cs.length + rest.length = ext) (hfr : FrOk (cs.length + rest.length) 0 0 sish fr) (hc : VRL φ cells cs) :
    Rel w0 (φ.with s.next ⟨w.heap.size, cs.length + rest.length, es⟩) (aallocX s elem es cells ext ex sish) (w.alloc (.cells (cs ++ rest).toArray elem fr)) := by
  have hle := r.with_le ⟨w.heap.size, cs.length + rest.length, es⟩
  have cases_ : ∀ v t, (φ.with s.next ⟨w.heap.size, cs.length + rest.length, es⟩) v = some t → (v = s.next ∧ t = ⟨w.heap.size, cs.length + rest.length, es⟩) ∨ (v ≠ s.next ∧ φ v = some t) := by
    intro v t h
    by_cases e : v = s.next
    · subst e; rw [Emb.with_same] at h; exact .inl ⟨rfl, (Option.some.inj h).symm⟩
    · rw [Emb.with_other _ _ e] at h; exact .inr ⟨e, h⟩
  refine ⟨r.bel.alloc _, ?_, ?_, ?_, ?_, ?_, ?_, ?_, ?_, by have := r.ngle; show s.ng ≤ s.next + 1; omega, r.orc⟩
  · intro v t h
    show v < s.next + 1
    rcases cases_ v t h with ⟨rfl, _⟩ | ⟨_, h⟩
    · omega
    · have := r.fresh v t h; omega
  · intro v t h
    rcases cases_ v t h with ⟨rfl, _⟩ | ⟨e, h⟩
    · exact .inl ⟨_, T.get_set_same _ _ _⟩
    · rcases r.known v t h with ⟨V, hV⟩ | h2
      · exact .inl ⟨V, by rw [aallocX]; simp only; rw [T.get_set_other _ _ e]; exact hV⟩
      · exact .inr h2
  · intro v t V h hV
    rcases cases_ v t h with ⟨rfl, rfl⟩ | ⟨e, h⟩
    · simp only [aallocX, T.get_set_same, Option.some.injEq] at hV
      subst hV
      refine ⟨_, T.get_set_same _ _ _, rfl, Nat.le_refl _, fun _ => r.bel.new, hext, hex, ?_, (cs ++ rest).toArray, fr, heap_alloc_at, by simp, hfr, ?_⟩
      · intro o st val ho
        simp only [cellsOf, T.get_ofList, List.getElem?_map] at ho
        cases hl : cells[o]? with
        | none => rw [hl] at ho; cases ho
        | some x =>
          rw [hl] at ho
          simp only [Option.map_some, Option.some.injEq, Prod.mk.injEq] at ho
          show st ≤ s.next
          omega
      intro o st val ho hs hx
      simp only [cellsOf, T.get_ofList, List.getElem?_map] at ho
      cases hl : cells[o]? with
      | none => rw [hl] at ho; cases ho
      | some x =>
        rw [hl] at ho
        simp only [Option.map_some, Option.some.injEq, Prod.mk.injEq] at ho
        obtain ⟨rfl, rfl⟩ := ho
        obtain ⟨y, hy, hr⟩ := hc.get hl
        exact ⟨y, by rw [List.getElem?_toArray, List.getElem?_append_left (List.getElem?_eq_some_iff.1 hy).1]; exact hy, hr.mono hle⟩
    · simp only [aallocX] at hV
      rw [T.get_set_other _ _ e] at hV
      obtain ⟨R, hR, b⟩ := r.view v t V h hV
      have hr : V.root ≠ s.next := fun x => by have := (r.vroot v V hV).1; omega
      refine ⟨R, by simp only [aallocX]; rw [T.get_set_other _ _ hr]; exact hR, ?_⟩
      have b' := b.mono hle
      obtain ⟨c, fr, h1, h2, h3, h4⟩ := b'.blk
      exact ⟨b'.es, b'.cur, b'.own, b'.ext, b'.exact, b'.stamps, c, fr, heap_alloc_old h1, h2, h3, h4⟩
  · intro v t o h ho
    rcases cases_ v t h with ⟨rfl, rfl⟩ | ⟨e, h⟩
    · exact absurd (r.olt _ _ ho) (Nat.lt_irrefl _)
    · obtain ⟨k1, c, k2, k3⟩ := r.obj v t o h ho
      exact ⟨k1, c, heap_alloc_old k2, k3.mono hle⟩
  · intro v1 v2 t1 t2 h1 h2 hb
    rcases cases_ v1 t1 h1 with ⟨rfl, rfl⟩ | ⟨e1, h1⟩ <;> rcases cases_ v2 t2 h2 with ⟨rfl, rfl⟩ | ⟨e2, h2⟩
    · exact .inl rfl
    · have := r.lt h2; simp at hb; omega
    · have := r.lt h1; simp at hb; omega
    · rcases r.inj v1 v2 t1 t2 h1 h2 hb with h | ⟨V1, V2, g1, g2, g3⟩
      · exact .inl h
      · exact .inr ⟨V1, V2, by simp only [aallocX]; rw [T.get_set_other _ _ e1]; exact g1, by simp only [aallocX]; rw [T.get_set_other _ _ e2]; exact g2, g3⟩
  · intro v V hV
    show V.root < s.next + 1 ∧ v < s.next + 1
    by_cases e : v = s.next
    · subst e
      simp only [aallocX, T.get_set_same, Option.some.injEq] at hV
      subst hV; exact ⟨by simp, by omega⟩
    · simp only [aallocX] at hV
      rw [T.get_set_other _ _ e] at hV
      have := r.vroot v V hV; omega
  · intro v o ho
    show v < s.next + 1
    have := r.olt v o ho; omega
  · intro g V hg hV
    have hg' : g < s.ng := hg
    have hn := r.ngle
    have e : g ≠ s.next := by omega
    simp only [aallocX] at hV
    rw [T.get_set_other _ _ e] at hV
    obtain ⟨t, h1, h2⟩ := r.glob g V hg' hV
    exact ⟨t, hle _ _ h1, h2⟩

theorem Rel.alloc {w0 : Base} {φ : Emb} {s : St} {w : World} (r : Rel w0 φ s w) (elem : TypeId) (es : Nat) {cells cs : List Value} (hc : VRL φ cells cs) :
    Rel w0 (φ.with s.next ⟨w.heap.size, cs.length, es⟩) (aalloc s elem es cells) (w.alloc (.cells cs.toArray elem)) := by
  have := r.allocX elem es [] (0, 0) cells.length true false (by rw [hc.length]; simp) (fun _ => by rw [hc.length]; simp) ⟨Nat.le_refl _, fun o _ a b => by omega, fun _ _ => Nat.le_refl _, fun _ => Nat.zero_le _⟩ hc
  simpa using this

def aobj (s : St) (o : AObj) : St := { s with next := s.next + 1, objs := s.objs.set s.next o }

theorem Rel.newObj {w0 : Base} {φ : Emb} {s : St} {w : World} (r : Rel w0 φ s w) {o : AObj} {c : Obj} (hc : ObjR φ o c) :
    Rel w0 (φ.with s.next ⟨w.heap.size, 0, 0⟩) (aobj s o) (w.alloc c) := by
  have hle := r.with_le ⟨w.heap.size, 0, 0⟩
  have cases_ : ∀ v t, (φ.with s.next ⟨w.heap.size, 0, 0⟩) v = some t → (v = s.next ∧ t = ⟨w.heap.size, 0, 0⟩) ∨ (v ≠ s.next ∧ φ v = some t) := by
    intro v t h
    by_cases e : v = s.next
    · subst e; rw [Emb.with_same] at h; exact .inl ⟨rfl, (Option.some.inj h).symm⟩
    · rw [Emb.with_other _ _ e] at h; exact .inr ⟨e, h⟩
  refine ⟨r.bel.alloc _, ?_, ?_, ?_, ?_, ?_, ?_, ?_, ?_, by have := r.ngle; show s.ng ≤ s.next + 1; omega, r.orc⟩
  · intro v t h
    show v < s.next + 1
    rcases cases_ v t h with ⟨rfl, _⟩ | ⟨_, h⟩
    · omega
    · have := r.fresh v t h; omega
  · intro v t h
    rcases cases_ v t h with ⟨rfl, _⟩ | ⟨e, h⟩
    · exact .inr ⟨_, T.get_set_same _ _ _⟩
    · rcases r.known v t h with h2 | ⟨V, hV⟩
      · exact .inl h2
      · exact .inr ⟨V, by rw [aobj]; simp only; rw [T.get_set_other _ _ e]; exact hV⟩
  · intro v t V h hV
    rcases cases_ v t h with ⟨rfl, rfl⟩ | ⟨e, h⟩
    · have := (r.vroot _ V hV).2; omega
    · obtain ⟨R, hR, b⟩ := r.view v t V h hV
      refine ⟨R, hR, ?_⟩
      have b' := b.mono hle
      obtain ⟨c, fr, h1, h2, h3, h4⟩ := b'.blk
      exact ⟨b'.es, b'.cur, b'.own, b'.ext, b'.exact, b'.stamps, c, fr, heap_alloc_old h1, h2, h3, h4⟩
  · intro v t o' h ho
    rcases cases_ v t h with ⟨rfl, rfl⟩ | ⟨e, h⟩
    · simp only [aobj, T.get_set_same, Option.some.injEq] at ho
      subst ho
      exact ⟨r.bel.new, c, heap_alloc_at, hc.mono hle⟩
    · simp only [aobj] at ho
      rw [T.get_set_other _ _ e] at ho
      obtain ⟨k1, c, k2, k3⟩ := r.obj v t o' h ho
      exact ⟨k1, c, heap_alloc_old k2, k3.mono hle⟩
  · intro v1 v2 t1 t2 h1 h2 hb
    rcases cases_ v1 t1 h1 with ⟨rfl, rfl⟩ | ⟨e1, h1⟩ <;> rcases cases_ v2 t2 h2 with ⟨rfl, rfl⟩ | ⟨e2, h2⟩
    · exact .inl rfl
    · have := r.lt h2; simp at hb; omega
    · have := r.lt h1; simp at hb; omega
    · exact r.inj v1 v2 t1 t2 h1 h2 hb
  · intro v V hV
    show V.root < s.next + 1 ∧ v < s.next + 1
    have := r.vroot v V hV; omega
  · intro v o' ho
    show v < s.next + 1
    by_cases e : v = s.next
    · omega
    · simp only [aobj] at ho
      rw [T.get_set_other _ _ e] at ho
      have := r.olt v o' ho; omega
  · intro g V hg hV
    obtain ⟨t, h1, h2⟩ := r.glob g V hg hV
    exact ⟨t, hle _ _ h1, h2⟩

def asetObj (s : St) (v : Nat) (o : AObj) : St := { s with objs := s.objs.set v o }

theorem Rel.getObj {w0 : Base} {φ : Emb} {s : St} {w : World} (r : Rel w0 φ s w) {v : Nat} {t : Tgt} {o : AObj} (hv : φ v = some t) (h : s.objs.get v = some o) :
    ∃ c, w.heap[t.blk]? = some c ∧ ObjR φ o c := (r.obj v t o hv h).2

theorem Rel.setObj {w0 : Base} {φ : Emb} {s : St} {w : World} (r : Rel w0 φ s w) {v : Nat} {t : Tgt} {o o' : AObj} {c' : Obj} (hv : φ v = some t) (h : s.objs.get v = some o) (hc : ObjR φ o' c') :
    Rel w0 φ (asetObj s v o') { w with heap := w.heap.setIfInBounds t.blk c' } := by
  obtain ⟨hB, c, hc0, hr0⟩ := r.obj v t o hv h
  have hin := (Array.getElem?_eq_some_iff.1 hc0).1
  have hset : ∀ k, k ≠ t.blk → (w.heap.setIfInBounds t.blk c')[k]? = w.heap[k]? := fun k hk => Array.getElem?_setIfInBounds_ne (fun x => hk x.symm)
  refine ⟨r.bel.step rfl rfl rfl (by simp) (fun k hk => hset k (fun e => hB (e ▸ hk))), r.fresh, ?_, ?_, ?_, r.inj, r.vroot, ?_, r.glob, r.ngle, r.orc⟩
  · intro v' t' h'
    rcases r.known v' t' h' with h2 | ⟨V, hV⟩
    · exact .inl h2
    · by_cases e : v' = v
      · subst e; exact .inr ⟨_, T.get_set_same _ _ _⟩
      · exact .inr ⟨V, by simp only [asetObj]; rw [T.get_set_other _ _ e]; exact hV⟩
  · intro v' t' V' hv' hV'
    obtain ⟨R1, hR1, b1⟩ := r.view v' t' V' hv' hV'
    obtain ⟨c1, fr1, g1, g2, g3, g4⟩ := b1.blk
    have hne : t'.blk ≠ t.blk := by
      intro e; rw [e, hc0] at g1; cases g1; exact hr0.notCells
    exact ⟨R1, hR1, b1.es, b1.cur, b1.own, b1.ext, b1.exact, b1.stamps, c1, fr1, by simp only; rw [hset _ hne]; exact g1, g2, g3, g4⟩
  · intro v' t' o1 hv' ho1
    by_cases e : v' = v
    · subst e
      rw [hv] at hv'; cases hv'
      simp only [asetObj, T.get_set_same, Option.some.injEq] at ho1
      subst ho1
      exact ⟨hB, c', by simp [hin], hc⟩
    · simp only [asetObj] at ho1
      rw [T.get_set_other _ _ e] at ho1
      obtain ⟨k1, c1, k2, k3⟩ := r.obj v' t' o1 hv' ho1
      refine ⟨k1, c1, ?_, k3⟩
      simp only
      rw [hset _ ?_]; exact k2
      intro e2
      rcases r.inj v' v t' t hv' hv e2 with rfl | ⟨V1, V2, g1, g2, g3⟩
      · exact e rfl
      · have hq := r.view v t V2 hv g2
        obtain ⟨R2, _, b2⟩ := hq
        obtain ⟨c2, fr2, q1, _⟩ := b2.blk
        rw [hc0] at q1; cases q1; exact hr0.notCells
  · intro v' o1 ho1
    by_cases e : v' = v
    · subst e; exact r.fresh _ _ hv
    · simp only [asetObj] at ho1
      rw [T.get_set_other _ _ e] at ho1
      exact r.olt v' o1 ho1
end Go.Proofs.YtcmlomjdkjcjpaaGreatDoor.Vai
