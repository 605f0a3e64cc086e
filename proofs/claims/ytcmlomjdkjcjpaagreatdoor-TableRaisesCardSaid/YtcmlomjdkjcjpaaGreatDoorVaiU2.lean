/- A part of an evaluator of the model's code whose answers are proved sound: no statement on the program stands here. -/
import Derived.Test.YtcmlomjdkjcjpaaGreatDoorVaiT2
open Go Go.RowKit
namespace Go.Proofs.YtcmlomjdkjcjpaaGreatDoor.Vai
set_option linter.unusedVariables false
set_option linter.unusedSimpArgs false

theorem pickT_get {t : T Value} : ∀ (l : List Tmp) (acc : T Value) (x : Nat) (v : Value), (pickT t l acc).get x = some v → acc.get x = some v ∨ (x ∈ l ∧ t.get x = some v) := by
  intro l
  induction l with
  | nil => intro acc x v h; exact .inl h
  | cons y l ih =>
    intro acc x v h
    simp only [pickT] at h
    rcases ih _ x v h with h | ⟨h1, h2⟩
    · cases hy : t.get y with
      | none => rw [hy] at h; exact .inl h
      | some u =>
        rw [hy] at h
        simp only at h
        by_cases e : x = y
        · subst e
          rw [T.get_set_same] at h
          cases h
          exact .inr ⟨List.mem_cons_self .., hy⟩
        · rw [T.get_set_other _ _ e] at h
          exact .inl h
    · exact .inr ⟨List.mem_cons_of_mem _ h1, h2⟩
theorem narrow_get {fr : Fr} {l : List Tmp} {x : Nat} {v : Value} (h : (narrow fr l).tm.get x = some v) : x ∈ l ∧ fr.tm.get x = some v := by
  rcases pickT_get l _ x v h with h | h
  · cases h
  · exact h

/-- The run in the order of the text. -/
structure Canon (P : Program) (tb : Tb) (call : ACall) (ops : Array Oper) (m : Pre) (rs : List RRec) (F : Nat → Fr) (S : Nat → St) (V : Nat → SRes) : Prop where
  recd : ∀ (i : Nat) (o : Oper), ops[i]? = some o → rs[i]? = some ⟨o, F i, S i, V i⟩
  step : ∀ (i : Nat) (o : Oper), ops[i]? = some o → aStepP P tb call ops.toList m i (F i) (S i) o = some (V i)
  put : ∀ (i : Nat) (o : Oper), ops[i]? = some o → aput (F i) o.dst ((V i).val (S i)) = some (F (i + 1))
  st : ∀ (i : Nat) (o : Oper), ops[i]? = some o → S (i + 1) = (V i).st (S i)

theorem aRecs_spec {P : Program} {tb : Tb} {call : ACall} {ops : Array Oper} {m : Pre} : ∀ (l : List Oper) (i0 : Nat) (fr : Fr) (s : St) (rs : List RRec) (fe : Fr) (se : St), aRecs P tb call ops m i0 l fr s = some (rs, fe, se) →
    ∃ (F : Nat → Fr) (S : Nat → St) (V : Nat → SRes), F 0 = fr ∧ S 0 = s ∧ F l.length = fe ∧ S l.length = se ∧ rs.length = l.length ∧ ∀ (i : Nat) (o : Oper), l[i]? = some o → rs[i]? = some ⟨o, F i, S i, V i⟩ ∧
      aStepP P tb call ops.toList m (i0 + i) (F i) (S i) o = some (V i) ∧ aput (F i) o.dst ((V i).val (S i)) = some (F (i + 1)) ∧ S (i + 1) = (V i).st (S i) := by
  intro l
  induction l with
  | nil =>
    intro i0 fr s rs fe se h
    simp only [aRecs, Option.some.injEq, Prod.mk.injEq] at h
    obtain ⟨rfl, rfl, rfl⟩ := h
    exact ⟨fun _ => fr, fun _ => s, fun _ => .un, rfl, rfl, rfl, rfl, rfl, fun i o h => by simp at h⟩
  | cons x l ih =>
    intro i0 fr s rs fe se h
    simp only [aRecs] at h
    split at h
    · cases h
    · rename_i r hr
      split at h
      · cases h
      · rename_i fr' hput
        split at h
        · cases h
        · rename_i l' fe' se' hrec
          simp only [Option.some.injEq, Prod.mk.injEq] at h
          obtain ⟨rfl, rfl, rfl⟩ := h
          obtain ⟨F, S, V, h1, h2, h3, h4, h5, h6⟩ := ih (i0 + 1) fr' (r.st s) l' fe' se' hrec
          refine ⟨fun i => Nat.casesOn i fr F, fun i => Nat.casesOn i s S, fun i => Nat.casesOn i r V, rfl, rfl, h3, h4, by simp [h5], ?_⟩
          intro i o ho
          cases i with
          | zero =>
            simp at ho
            subst ho
            exact ⟨rfl, hr, (by show aput fr x.dst (r.val s) = some (F 0); rw [h1]; exact hput), h2⟩
          | succ i =>
            have := h6 i o (by simpa using ho)
            rw [show i0 + 1 + i = i0 + (i + 1) by omega] at this
            exact this

section
variable {P : Program} {tb : Tb} {call : ACall} {w0 : Base} {ops : Array Oper} {m : Pre} {rs : List RRec} {F : Nat → Fr} {S : Nat → St} {V : Nat → SRes}

theorem Canon.get (c : Canon P tb call ops m rs F S V) : ∀ (i : Nat), i ≤ ops.size → (F i).n = (F 0).n ∧ ∀ t v, (F i).tm.get t = some v →
    (∃ j o, j < i ∧ ops[j]? = some o ∧ o.dst = some t ∧ v = (V j).val (S j)) ∨ ((∀ j o, j < i → ops[j]? = some o → o.dst ≠ some t) ∧ (F 0).tm.get t = some v) := by
  intro i
  induction i with
  | zero => intro _; exact ⟨rfl, fun t v h => .inr ⟨fun j o hj => by omega, h⟩⟩
  | succ i ih =>
    intro hle
    obtain ⟨hn, hget⟩ := ih (by omega)
    have ho : ops[i]? = some ops[i] := Array.getElem?_eq_getElem (by omega)
    have hp := c.put i _ ho
    have old : ∀ t v, (F i).tm.get t = some v → (ops[i]).dst ≠ some t → (∃ j o, j < i + 1 ∧ ops[j]? = some o ∧ o.dst = some t ∧ v = (V j).val (S j)) ∨ ((∀ j o, j < i + 1 → ops[j]? = some o → o.dst ≠ some t) ∧ (F 0).tm.get t = some v) := by
      intro t v ht hd
      rcases hget t v ht with ⟨j, o, h1, h2, h3, h4⟩ | ⟨h1, h2⟩
      · exact .inl ⟨j, o, by omega, h2, h3, h4⟩
      · refine .inr ⟨fun j o hj hjo => ?_, h2⟩
        by_cases e : j = i
        · subst e; rw [ho] at hjo; cases hjo; exact hd
        · exact h1 j o (by omega) hjo
    unfold aput at hp
    split at hp
    · rename_i hd
      rw [← Option.some.inj hp]
      exact ⟨hn, fun t v ht => old t v ht (by rw [hd]; simp)⟩
    · rename_i d hd
      cases hb : Nat.blt d (F i).n with
      | false => rw [hb] at hp; cases hp
      | true =>
        rw [hb] at hp
        simp only [cond_true, Option.some.injEq] at hp
        rw [← hp]
        refine ⟨hn, fun t v ht => ?_⟩
        by_cases e : t = d
        · subst e
          rw [T.get_set_same] at ht
          cases ht
          exact .inl ⟨i, _, Nat.lt_succ_self i, ho, hd, rfl⟩
        · rw [T.get_set_other _ _ e] at ht
          exact old t v ht (by rw [hd]; simp; exact fun x => e x.symm)

/-- What the looks at the run say. -/
structure Looks (P : Program) (tb : Tb) (ops : Array Oper) (F : Nat → Fr) (S : Nat → St) (V : Nat → SRes) : Prop where
  hE : ∀ e f, e < ops.size → f < ops.size → (V e).isE = true → (V f).isE = true → e < f → Bef ops.toList e f
  hN : ∀ i e, i < ops.size → e < ops.size → (V i).isN = true → (V e).isE = true → Bef ops.toList e i ∨ Bef ops.toList i e
  hM : ∀ i, i < ops.size → (V i).isE = true → (S i).next ≤ (S (i + 1)).next
  hQ : ∀ (i : Nat) (o : Oper) (out : QOut) (q : Nat), ops[i]? = some o → V i = .q out → (q = ops.size ∨ (q < ops.size ∧ (V q).isE = true)) →
    (∀ e, e < ops.size → (V e).isE = true → (Bef ops.toList e i → e < q) ∧ (Bef ops.toList i e → q ≤ e)) → aq P tb (S q) (aev (S q) (narrow (F i) (o.looksAt ops))) o = some out
  hP : ∀ (i : Nat) (o : Oper) (id : Nat) (out : QOut), ops[i]? = some o → V i = .p id out → o.guard = none ∧ ∀ q, (q = ops.size ∨ (q < ops.size ∧ (V q).isE = true)) →
    (∀ e, e < ops.size → (V e).isE = true → (Bef ops.toList e i → e < q) ∧ (Bef ops.toList i e → q ≤ e)) → okBind (S q) id out = true ∧ aq P tb (S q) (aev (S q) (narrow (F i) (o.looksAt ops))) o = some out

/-- The blocks that were set down ahead: their numbers. -/
structure PreOk (m : Pre) (lo hi : Nat) : Prop where
  le : lo ≤ hi
  bound : ∀ i id out, m.get i = some (id, out) → lo ≤ id ∧ id < hi
  inj : ∀ i j id out out', m.get i = some (id, out) → m.get j = some (id, out') → i = j

theorem Canon.mono1 (c : Canon P tb call ops m rs F S V) (L : Looks P tb ops F S V) {i : Nat} (h : i < ops.size) : (S i).next ≤ (S (i + 1)).next := by
  by_cases e : (V i).isE = true
  · exact L.hM i h e
  · rw [c.st i _ (Array.getElem?_eq_getElem h)]
    cases hv : V i with
    | un => exact Nat.le_refl _
    | q out => cases out <;> first | exact Nat.le_refl _ | exact Nat.le_succ _
    | e v s => rw [hv] at e; exact absurd rfl e
    | p => exact Nat.le_refl _
theorem Canon.mono (c : Canon P tb call ops m rs F S V) (L : Looks P tb ops F S V) : ∀ {i j : Nat}, i ≤ j → j ≤ ops.size → (S i).next ≤ (S j).next := by
  intro i j hij
  induction hij with
  | refl => intro _; exact Nat.le_refl _
  | step h ih => intro hj; exact Nat.le_trans (ih (by omega)) (c.mono1 L (by omega))
theorem Canon.new1 (c : Canon P tb call ops m rs F S V) {i : Nat} (h : i < ops.size) (hn : (V i).isN = true) : (S (i + 1)).next = (S i).next + 1 := by
  rw [c.st i _ (Array.getElem?_eq_getElem h)]
  cases hv : V i with
  | un => rw [hv] at hn; cases hn
  | e v s => rw [hv] at hn; cases hn
  | p => rw [hv] at hn; cases hn
  | q out =>
    cases out with
    | val v => rw [hv] at hn; cases hn
    | new => rfl
    | obj => rfl

theorem Canon.quiet (c : Canon P tb call ops m rs F S V) {p q : Nat} (hpq : p ≤ q) (hq : q ≤ ops.size) (hE : ∀ i, p ≤ i → i < q → (V i).isE = false) (wf : Wf (S p)) : Qext (S p) (S q) := by
  induction hpq with
  | refl => exact Qext.refl wf
  | @step k h ih =>
    have h1 := ih (by omega) (fun i a b => hE i a (by omega))
    refine h1.trans ?_
    have wm := h1.wf wf
    rw [c.st k _ (Array.getElem?_eq_getElem (by omega))]
    have hm := hE k h (by omega)
    cases hv : V k with
    | un => exact Qext.refl wm
    | e v s => rw [hv] at hm; cases hm
    | p => exact Qext.refl wm
    | q out =>
      cases out with
      | val v => exact Qext.refl wm
      | new elem es cells sh => exact Qext.alloc wm elem es cells
      | obj o => exact Qext.obj wm o

theorem next_effect (V : Nat → SRes) (n : Nat) : ∀ (k m : Nat), m + k = n → ∃ q, m ≤ q ∧ q ≤ n ∧ (∀ j, m ≤ j → j < q → (V j).isE = false) ∧ (q = n ∨ (V q).isE = true) := by
  intro k
  induction k with
  | zero => intro m h; exact ⟨m, Nat.le_refl _, by omega, fun j a b => by omega, .inl (by omega)⟩
  | succ k ih =>
    intro m h
    cases hv : (V m).isE with
    | true => exact ⟨m, Nat.le_refl _, by omega, fun j a b => by omega, .inr hv⟩
    | false =>
      obtain ⟨q, h1, h2, h3, h4⟩ := ih (m + 1) (by omega)
      refine ⟨q, by omega, h2, fun j a b => ?_, h4⟩
      by_cases e : j = m
      · subst e; exact hv
      · exact h3 j (by omega) b

structure Inv (w0 : Base) (sz : St) (ops : Array Oper) (F : Nat → Fr) (S : Nat → St) (V : Nat → SRes) (φ0 : Emb) (d0 : List Deferred) (D : Nat → Prop) (q p : Nat) (φ : Emb) (w : World) (a : Act) : Prop where
  dn : ∀ i, D i → i < ops.size
  closed : ∀ (j : Nat) (o : Oper), D j → ops[j]? = some o → ∀ e ∈ o.after, Region.binds .any e = true → D e.on
  ple : p ≤ q
  qle : q ≤ ops.size
  noE : ∀ i, p ≤ i → i < q → (V i).isE = false
  qE : q = ops.size ∨ (V q).isE = true
  pE : p = 0 ∨ (V (p - 1)).isE = true
  eff : ∀ e, e < ops.size → (V e).isE = true → (D e ↔ e < q)
  rel : Rel w0 φ (S q) w
  wfp : Wf (S p)
  unb : ∀ i, p ≤ i → i < q → ¬ D i → (V i).isN = true → φ (S i).next = none
  unbP : ∀ i id out, i < ops.size → ¬ D i → V i = .p id out → φ id = none
  size : a.tmps.size = (F 0).n
  done : ∀ (j : Nat) (o : Oper) (t : Nat), D j → ops[j]? = some o → o.dst = some t → ∃ c, a.tmps[t]? = some c ∧ VR φ ((V j).val (S j)) c
  old : ∀ (t : Nat) (v : Value), (∀ (j : Nat) (o : Oper), D j → ops[j]? = some o → o.dst ≠ some t) → (F 0).tm.get t = some v → ∃ c, a.tmps[t]? = some c ∧ VR φ v c
  ext : Ext sz φ0 φ
  defers : a.defers = d0

variable {sz : St} {φ0 : Emb} {d0 : List Deferred} {D : Nat → Prop} {q p : Nat} {φ : Emb} {w : World} {a : Act}

theorem Inv.closedBef (I : Inv w0 sz ops F S V φ0 d0 D q p φ w a) {i j : Nat} (h : Bef ops.toList i j) : D j → D i := by
  induction h with
  | edge j o e ho he hb => intro hj; exact I.closed j o hj (by rw [← Array.getElem?_toList]; exact ho) e he hb
  | trans i j k _ _ i1 i2 => intro hk; exact i1 (i2 hk)
theorem Inv.preds (I : Inv w0 sz ops F S V φ0 d0 D q p φ w a) {i : Nat} {o : Oper} (ho : ops[i]? = some o) (hr : ∀ e ∈ o.after, Region.binds .any e = true → D e.on) {x : Nat} (h : Bef ops.toList x i) : D x := by
  generalize hj : i = j at h
  induction h with
  | edge j o' e ho' he hb =>
    subst hj
    rw [Array.getElem?_toList, ho] at ho'
    cases ho'
    exact hr e he hb
  | trans x y k h1 h2 i1 i2 => exact I.closedBef h1 (i2 hj)

theorem Inv.fr (I : Inv w0 sz ops F S V φ0 d0 D q p φ w a) (c : Canon P tb call ops m rs F S V) (R : RegOk ops) {i : Nat} {o : Oper} (ho : ops[i]? = some o) (hi : ¬ D i) (hr : ∀ x, Bef ops.toList x i → D x) :
    FR φ (narrow (F i) (o.looksAt ops)) a := by
  have hlt : i < ops.size := (Array.getElem?_eq_some_iff.1 ho).1
  obtain ⟨hn, hget⟩ := c.get i (by omega)
  refine ⟨I.size.trans hn.symm, fun t v ht => ?_⟩
  obtain ⟨hmem, ht⟩ := narrow_get ht
  rcases hget t v ht with ⟨j, oj, h1, h2, h3, rfl⟩ | ⟨h1, h2⟩
  · rcases R.apart j i oj o h2 ho (by omega) with h | h | ⟨h, _⟩
    · exact I.done j oj t (hr j h) h2 h3
    · have := R.bef_lt h; omega
    · exact absurd hmem (h t h3)
  · refine I.old t v (fun j oj hj hoj hd => ?_) h2
    have hne : j ≠ i := fun e => hi (e ▸ hj)
    by_cases e : j < i
    · exact h1 j oj e hoj hd
    · rcases R.apart j i oj o hoj ho hne with h | h | ⟨h, _⟩
      · have := R.bef_lt h; omega
      · exact hi (I.closedBef h hj)
      · exact h t hd hmem
end
end Go.Proofs.YtcmlomjdkjcjpaaGreatDoor.Vai
