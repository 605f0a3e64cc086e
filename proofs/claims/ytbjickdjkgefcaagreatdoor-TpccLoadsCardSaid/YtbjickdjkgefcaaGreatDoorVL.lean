/- A part of an evaluator of the model's code whose answers are proved sound: no statement on the program stands here. -/
import Derived.Test.YtbjickdjkgefcaaGreatDoorVK
import Derived.Deep.AppendSrc
section
open Go Go.RowKit
noncomputable section
namespace Go.Proofs.YtbjickdjkgefcaaGreatDoor.Vai
set_option linter.unusedVariables false
set_option linter.unusedSimpArgs false

/-- The embedding has grown by the new numbers alone. -/
structure Ext (s : St) (φ ψ : Emb) : Prop where
  to : ∀ v, v < s.next → ψ v = φ v
  sig : ψ.sig = φ.sig
instance {s : St} {φ ψ : Emb} : CoeFun (Ext s φ ψ) (fun _ => ∀ v, v < s.next → ψ v = φ v) := ⟨Ext.to⟩
theorem Ext.refl (s : St) (φ : Emb) : Ext s φ φ := ⟨fun _ _ => rfl, rfl⟩
theorem Ext.trans {s s' : St} {a b c : Emb} (h : Ext s a b) (hn : s.next ≤ s'.next) (k : Ext s' b c) : Ext s a c := ⟨fun v hv => (k v (Nat.lt_of_lt_of_le hv hn)).trans (h v hv), k.sig.trans h.sig⟩
theorem Ext.le {w0 : Base} {s : St} {w : World} {φ ψ : Emb} (h : Ext s φ ψ) (r : Rel w0 φ s w) : φ.le ψ := ⟨fun v t e => by rw [h v (r.fresh v t e)]; exact e, h.sig⟩
theorem Ext.with {w0 : Base} {s : St} {φ : Emb} (t : Tgt) : Ext s φ (φ.with s.next t) := ⟨fun v hv => Emb.with_other _ _ (by omega), rfl⟩

theorem Rel.ofHeap {w0 : Base} {φ : Emb} {s : St} {w w' : World} (r : Rel w0 φ s w) (h : w'.heap = w.heap) (ho : w'.os = w.os) (ht : w'.tape = w.tape) (hu : w'.output = w.output) : Rel w0 φ s w' := by
  refine ⟨⟨ho.trans r.bel.os, ht.trans r.bel.tape, hu.trans r.bel.output, by rw [h]; exact r.bel.size, fun k hk => by rw [h]; exact r.bel.block k hk⟩, r.fresh, r.known, ?_, ?_, r.inj, r.vroot, r.olt, r.glob, r.ngle, r.orc⟩
  · intro v t V hv hV
    obtain ⟨R, hR, b⟩ := r.view v t V hv hV
    obtain ⟨c, fr, h1, h2, h3, h4⟩ := b.blk
    exact ⟨R, hR, b.es, b.cur, b.own, b.ext, b.exact, b.stamps, c, fr, by rw [h]; exact h1, h2, h3, h4⟩
  · intro v t o hv ho
    obtain ⟨k, c, h1, h2⟩ := r.obj v t o hv ho
    exact ⟨k, c, by rw [h]; exact h1, h2⟩
theorem Rel.drew {w0 : Base} {φ : Emb} {s : St} {w : World} (r : Rel w0 φ s w) : Rel w0 φ s { w with drawn := w.drawn + 1 } := r.ofHeap rfl rfl rfl rfl

/-! ### stores -/
def astoreN (s : St) (v : Nat) : Nat → List Value → Option St
  | _, [] => some s
  | o, x :: l => match astore s v o x with
    | none => none
    | some s' => astoreN s' v (o + 1) l

theorem astore_next {s s' : St} {v o : Nat} {x : Value} (h : astore s v o x = some s') : s'.next = s.next := by
  obtain ⟨V, R, _, _, _, _, _, _, _, rfl⟩ := astore_spec h
  rfl
theorem astoreN_next : ∀ (l : List Value) (s s' : St) (v o : Nat), astoreN s v o l = some s' → s'.next = s.next := by
  intro l
  induction l with
  | nil => intro s s' v o h; simp only [astoreN, Option.some.injEq] at h; rw [h]
  | cons x l ih =>
    intro s s' v o h
    simp only [astoreN] at h
    split at h
    · cases h
    · rename_i s1 h1
      exact (ih _ _ _ _ h).trans (astore_next h1)

theorem run_storeOne {P : Program} {w : World} {a : Addr} {v old : Value} (h1 : oneCell v = true) (h2 : w.cell? a = some old) (h3 : w.frozen? a = false) : (store a v).run P w = .ok () (w.setCell a v) := by
  have hv : v.oneCell' = true := by cases v <;> first | rfl | cases h1
  rw [run_store P w a v .plain hv, h2]
  simp [h3]

theorem oneCell_rel {φ : Emb} {a c : Value} (h : VR φ a c) (ho : oneCell a = true) : oneCell c = true := by
  cases h <;> first | rfl | assumption | cases ho

theorem Rel.run_storeN {P : Program} {w0 : Base} {φ : Emb} {v : Nat} {t : Tgt} (hv : φ v = some t) : ∀ (l cs : List Value) (s s' : St) (w : World) (o i k : Nat), Rel w0 φ s w → astoreN s v k l = some s' → VRL φ l cs → k = o + i →
    ∃ w', (storeCells ⟨t.blk, o, none⟩ cs i).run P w = .ok () w' ∧ Rel w0 φ s' w' := by
  intro l
  induction l with
  | nil => intro cs s s' w o i k r h hl hk; cases hl; simp only [astoreN, Option.some.injEq] at h; subst h; exact ⟨w, rfl, r⟩
  | cons x l ih =>
    intro cs s s' w o i k r h hl hk
    cases hl with
    | cons _ c _ m hx ht =>
      simp only [astoreN] at h
      split at h
      · cases h
      · rename_i s1 h1
        obtain ⟨⟨old, e1⟩, e2, r1⟩ := r.store hv h1 hx
        have hone : oneCell x = true := by obtain ⟨_, _, _, _, q, _⟩ := astore_spec h1; exact q
        obtain ⟨w', f1, f2⟩ := ih m s1 s' _ o (i + 1) (k + 1) r1 h ht (by omega)
        refine ⟨w', ?_, f2⟩
        simp only [storeCells, Sem.run_bind, add_mk]
        rw [hk] at e1 e2 f1
        rw [run_storeOne (oneCell_rel hx hone) e1 e2]
        exact f1

def astoreVar (tb : Tb) (s : St) (t : TypeId) (a x : Value) : Option St :=
  match a with
  | .pointer (some ⟨v, o, none⟩) => match tb.info.get t with
    | none => none
    | some i => bif Nat.beq x.cells.size i.size then astoreN s v o x.cells.toList else none
  | _ => none
theorem astoreVar_next {tb : Tb} {s s' : St} {t : TypeId} {a x : Value} (h : astoreVar tb s t a x = some s') : s'.next = s.next := by
  unfold astoreVar at h
  split at h
  · split at h
    · cases h
    · rename_i i hi
      cases hb : Nat.beq x.cells.size i.size with
      | false => rw [hb] at h; cases h
      | true => rw [hb] at h; exact astoreN_next _ _ _ _ _ h
  · cases h

theorem Rel.run_storeVar {P : Program} {tb : Tb} (hP : TbOk P tb) {w0 : Base} {φ : Emb} {s s' : St} {w : World} (r : Rel w0 φ s w) {t : TypeId} {a x ca cx : Value} (h : astoreVar tb s t a x = some s') (ha : VR φ a ca) (hx : VR φ x cx) :
    ∃ w', (Instr.storeAt t ca cx).run P w = .ok () w' ∧ Rel w0 φ s' w' := by
  unfold astoreVar at h
  split at h
  · rename_i v o
    split at h
    · cases h
    · rename_i i hi
      cases hb : Nat.beq x.cells.size i.size with
      | false => rw [hb] at h; cases h
      | true =>
        rw [hb] at h
        simp only [cond_true] at h
        cases ha with
        | ptr _ _ t' hv =>
          have hs : cx.cells.size = i.size := by rw [← hx.cells.size]; exact beq_iff.1 hb
          obtain ⟨w', e1, e2⟩ := r.run_storeN (P := P) hv _ _ _ _ _ o 0 o h hx.cells.list rfl
          exact ⟨w', by simp [Instr.storeAt, Instr.sureAddr, storeVar, run_size (hP.info _ _ hi), hs, e1], e2⟩
  · cases h

/-! ### a row that grows -/
def setMany (t : T (Nat × Value)) (st : Nat) : Nat → List Value → T (Nat × Value)
  | _, [] => t
  | o, x :: l => setMany (t.set o (st, x)) st (o + 1) l
theorem setMany_get (st : Nat) : ∀ (l : List Value) (t : T (Nat × Value)) (o k : Nat), (setMany t st o l).get k = if o ≤ k ∧ k < o + l.length then (l[k - o]?).map (fun v => (st, v)) else t.get k := by
  intro l
  induction l with
  | nil => intro t o k; simp only [setMany]; rw [if_neg (by simp)]
  | cons x l ih =>
    intro t o k
    simp only [setMany, ih, List.length_cons]
    by_cases h1 : o + 1 ≤ k ∧ k < o + 1 + l.length
    · rw [if_pos h1, if_pos (by omega)]
      have : k - o = (k - (o + 1)) + 1 := by omega
      rw [this]; simp
    · rw [if_neg h1]
      by_cases h2 : k = o
      · subst h2
        rw [if_pos (by omega)]
        simp [T.get_set_same]
      · rw [T.get_set_other _ _ h2, if_neg (by omega)]

/-- The view 'v' (its root's newest) grows into the view 's.next': 'o' cells stay, 'new' come behind them. -/
def agrow (s : St) (V : View) (R : Root) (o : Nat) (new : List Value) : St :=
  { s with next := s.next + 1, views := s.views.set s.next { root := V.root, ext := o + new.length, exact := false },
           roots := s.roots.set V.root { R with cells := setMany R.cells s.next o new, cur := s.next } }

/-- What is asked of the world behind: the block 't2' holds the first 'o' cells of the old one and the new ones; all other blocks are as they were, and of the old one what is not among the new cells' places. -/
theorem Rel.grow {w0 : Base} {φ : Emb} {s : St} {w w' : World} (r : Rel w0 φ s w) {v : Nat} {t t2 : Tgt} {V : View} {R : Root} (hv : φ v = some t) (hV : s.views.get v = some V) (hR : s.roots.get V.root = some R) (hcur : R.cur = v) (hro : R.ro = false)
    {o : Nat} {new cs : List Value} (hnew : VRL φ new cs) {c c2 : Array Value} {fr fr2 : Nat × Nat}
    (hc : w.heap[t.blk]? = some (.cells c R.elem fr))
    (ho : o ≤ V.ext)
    (hbel : Kept w0 w')
    (hes : t2.es = t.es) (hown : ¬ w0.K t2.blk)
    (h2 : w'.heap[t2.blk]? = some (.cells c2 R.elem fr2)) (hn : c2.size = t2.n) (hext : o + new.length ≤ t2.n)
    (hfr : FrOk t2.n R.flo R.fhi R.sish fr2)
    (hlow : ∀ k, k < o → c2[k]? = c[k]?) (hat : ∀ k x, cs[k]? = some x → c2[o + k]? = some x)
    (hold : ∀ b ob, w.heap[b]? = some ob → b ≠ t.blk → w'.heap[b]? = some ob)
    (holdt : ∃ c', w'.heap[t.blk]? = some (.cells c' R.elem fr) ∧ c'.size = c.size ∧ ∀ k, k < o ∨ o + new.length ≤ k → c'[k]? = c[k]?)
    (hfresh : t2.blk = t.blk ∨ w.heap.size ≤ t2.blk) :
    Rel w0 (φ.with s.next t2) (agrow s V R o new) w' := by
  have hle := r.with_le t2
  have cases_ : ∀ u q, (φ.with s.next t2) u = some q → (u = s.next ∧ q = t2) ∨ (u ≠ s.next ∧ φ u = some q) := by
    intro u q h
    by_cases e : u = s.next
    · subst e; rw [Emb.with_same] at h; exact .inl ⟨rfl, (Option.some.inj h).symm⟩
    · rw [Emb.with_other _ _ e] at h; exact .inr ⟨e, h⟩
  obtain ⟨R0, hR0, b0⟩ := r.view v t V hv hV
  rw [hR] at hR0; cases hR0
  obtain ⟨c0, fr0, g1, g2, g3, g4⟩ := b0.blk
  rw [hc] at g1; cases g1
  obtain ⟨c', hc', hcs, hck⟩ := holdt
  have hlen := hnew.length
  have hroot : V.root < s.next := (r.vroot v V hV).1
  refine ⟨hbel, ?_, ?_, ?_, ?_, ?_, ?_, ?_, ?_, by have := r.ngle; show s.ng ≤ s.next + 1; omega, r.orc⟩
  · intro u q h
    show u < s.next + 1
    rcases cases_ u q h with ⟨rfl, _⟩ | ⟨_, h⟩
    · omega
    · have := r.fresh u q h; omega
  · intro u q h
    rcases cases_ u q h with ⟨rfl, _⟩ | ⟨e, h⟩
    · exact .inl ⟨_, T.get_set_same _ _ _⟩
    · rcases r.known u q h with ⟨U, hU⟩ | h2
      · exact .inl ⟨U, by rw [agrow]; simp only; rw [T.get_set_other _ _ e]; exact hU⟩
      · exact .inr h2
  · intro u q U h hU
    rcases cases_ u q h with ⟨rfl, rfl⟩ | ⟨e, h⟩
    · simp only [agrow, T.get_set_same, Option.some.injEq] at hU
      subst hU
      refine ⟨_, T.get_set_same _ _ _, by rw [hes]; exact b0.es, Nat.le_refl _, fun _ => hown, hext, (fun h => by cases h), ?_, c2, fr2, h2, hn, hfr, ?_⟩
      · intro k st val hk
        simp only [setMany_get] at hk
        split at hk
        · cases hl : new[k - o]? with
          | none => rw [hl] at hk; cases hk
          | some x => rw [hl] at hk; simp only [Option.map_some, Option.some.injEq, Prod.mk.injEq] at hk; show st ≤ s.next; omega
        · have := b0.stamps k st val hk; have := r.fresh v t hv; show st ≤ s.next; omega
      · intro k st val hk hs hx
        simp only [setMany_get] at hk
        split at hk
        · rename_i hin
          cases hl : new[k - o]? with
          | none => rw [hl] at hk; cases hk
          | some x =>
            rw [hl] at hk
            simp only [Option.map_some, Option.some.injEq, Prod.mk.injEq] at hk
            obtain ⟨rfl, rfl⟩ := hk
            obtain ⟨y, hy, hr⟩ := hnew.get hl
            have := hat _ _ hy
            rw [show o + (k - o) = k by omega] at this
            exact ⟨y, this, hr.mono hle⟩
        · rename_i hout
          have hx' : k < o + new.length := hx
          have hko : k < o := by omega
          have hst : st ≤ v := by rw [← hcur]; exact b0.stamps k st val hk
          obtain ⟨cv, e1, e2⟩ := g4 k st val hk hst (by omega)
          exact ⟨cv, by rw [hlow k hko]; exact e1, e2.mono hle⟩
    · simp only [agrow] at hU
      rw [T.get_set_other _ _ e] at hU
      obtain ⟨R1, hR1, b1⟩ := r.view u q U h hU
      obtain ⟨c1, fr1, k1, k2, k3, k4⟩ := b1.blk
      have hu : u < s.next := r.fresh u q h
      by_cases hroot' : U.root = V.root
      · rw [hroot', hR] at hR1; cases hR1
        refine ⟨{ R with cells := setMany R.cells s.next o new, cur := s.next }, by simp only [agrow, hroot']; exact T.get_set_same _ _ _, b1.es, Nat.le_of_lt hu, b1.own, b1.ext, b1.exact, ?_, ?_⟩
        · intro k st val hk
          simp only [setMany_get] at hk
          split at hk
          · cases hl : new[k - o]? with
            | none => rw [hl] at hk; cases hk
            | some x => rw [hl] at hk; simp only [Option.map_some, Option.some.injEq, Prod.mk.injEq] at hk; show st ≤ s.next; omega
          · have := b0.stamps k st val hk; have := r.fresh v t hv; show st ≤ s.next; omega
        · by_cases hb : q.blk = t.blk
          · rw [hb, hc] at k1; cases k1
            refine ⟨c', fr, by rw [hb]; exact hc', by rw [hcs]; exact k2, k3, ?_⟩
            intro k st val hk hs hx
            simp only [setMany_get] at hk
            split at hk
            · cases hl : new[k - o]? with
              | none => rw [hl] at hk; cases hk
              | some x => rw [hl] at hk; simp only [Option.map_some, Option.some.injEq, Prod.mk.injEq] at hk; omega
            · obtain ⟨cv, e1, e2⟩ := k4 k st val hk hs hx
              exact ⟨cv, by rw [hck k (by omega)]; exact e1, e2.mono hle⟩
          · refine ⟨c1, fr1, hold _ _ k1 hb, k2, k3, ?_⟩
            intro k st val hk hs hx
            simp only [setMany_get] at hk
            split at hk
            · cases hl : new[k - o]? with
              | none => rw [hl] at hk; cases hk
              | some x => rw [hl] at hk; simp only [Option.map_some, Option.some.injEq, Prod.mk.injEq] at hk; omega
            · obtain ⟨cv, e1, e2⟩ := k4 k st val hk hs hx
              exact ⟨cv, e1, e2.mono hle⟩
      · have hb : q.blk ≠ t.blk := by
          intro e2
          rcases r.inj u v q t h hv e2 with rfl | ⟨V1, V2, f1, f2, f3⟩
          · rw [hV] at hU; cases hU; exact hroot' rfl
          · rw [hU] at f1; rw [hV] at f2; cases f1; cases f2; exact hroot' f3
        have b1' := b1.mono hle
        obtain ⟨c1', fr1', m1, m2, m3, m4⟩ := b1'.blk
        exact ⟨R1, by simp only [agrow]; rw [T.get_set_other _ _ hroot']; exact hR1, b1'.es, b1'.cur, b1'.own, b1'.ext, b1'.exact, b1'.stamps, c1', fr1', hold _ _ m1 hb, m2, m3, m4⟩
  · intro u q ob h hob
    rcases cases_ u q h with ⟨rfl, rfl⟩ | ⟨e, h⟩
    · exact absurd (r.olt _ _ hob) (Nat.lt_irrefl _)
    · obtain ⟨k1, cc, k2, k3⟩ := r.obj u q ob h hob
      refine ⟨k1, cc, hold _ _ k2 ?_, k3.mono hle⟩
      intro e2; rw [e2, hc] at k2; cases k2; exact k3.notCells
  · intro u1 u2 q1 q2 h1 h2' hb
    have same : ∀ u q, φ u = some q → q.blk = t2.blk → ∃ U, s.views.get u = some U ∧ U.root = V.root := by
      intro u q hu hq
      rcases hfresh with e | e
      · rcases r.inj u v q t hu hv (by rw [hq, e]) with rfl | ⟨V1, V2, f1, f2, f3⟩
        · exact ⟨V, hV, rfl⟩
        · rw [hV] at f2; cases f2; exact ⟨V1, f1, f3⟩
      · have := r.lt hu; omega
    rcases cases_ u1 q1 h1 with ⟨rfl, rfl⟩ | ⟨e1, k1⟩ <;> rcases cases_ u2 q2 h2' with ⟨rfl, rfl⟩ | ⟨e2, k2⟩
    · exact .inl rfl
    · obtain ⟨U, hU, hr⟩ := same u2 q2 k2 hb.symm
      exact .inr ⟨_, U, T.get_set_same _ _ _, by simp only [agrow]; rw [T.get_set_other _ _ e2]; exact hU, hr.symm⟩
    · obtain ⟨U, hU, hr⟩ := same u1 q1 k1 hb
      exact .inr ⟨U, _, by simp only [agrow]; rw [T.get_set_other _ _ e1]; exact hU, T.get_set_same _ _ _, hr⟩
    · rcases r.inj u1 u2 q1 q2 k1 k2 hb with h | ⟨V1, V2, f1, f2, f3⟩
      · exact .inl h
      · exact .inr ⟨V1, V2, by simp only [agrow]; rw [T.get_set_other _ _ e1]; exact f1, by simp only [agrow]; rw [T.get_set_other _ _ e2]; exact f2, f3⟩
  · intro u U hU
    show U.root < s.next + 1 ∧ u < s.next + 1
    by_cases e : u = s.next
    · subst e
      simp only [agrow, T.get_set_same, Option.some.injEq] at hU
      subst hU; exact ⟨by show V.root < s.next + 1; omega, by omega⟩
    · simp only [agrow] at hU
      rw [T.get_set_other _ _ e] at hU
      have := r.vroot u U hU; omega
  · intro u ob hob
    show u < s.next + 1
    have := r.olt u ob hob; omega
  · intro g U hg hU
    have hg' : g < s.ng := hg
    have hn := r.ngle
    have e : g ≠ s.next := by omega
    simp only [agrow] at hU
    rw [T.get_set_other _ _ e] at hU
    obtain ⟨q, f1, f2⟩ := r.glob g U hg' hU
    exact ⟨q, hle _ _ f1, f2⟩
end Go.Proofs.YtbjickdjkgefcaaGreatDoor.Vai
end
end
section
open Go Go.RowKit
noncomputable section
namespace Go.Proofs.YtbjickdjkgefcaaGreatDoor.Vai
set_option linter.unusedVariables false
set_option linter.unusedSimpArgs false

section
variable {P : Program} {tb : Tb} {w0 : Base} {φ : Emb} {s : St} {w : World}

/-! ### what is appended or copied -/
def aelems (s : St) (es n : Nat) (x : Value) : Option (List Value) :=
  match x with
  | .slice none _ _ => some []
  | .slice (some ⟨v, o, none⟩) _ _ => aloadN s v o (n * es)
  | .string b => bif Nat.beq es 1 then some ((b.data.toList.take n).map fun c => .int .u8 c.toNat) else none
  | .chan (some c) => match decSy c with
    | .empty => some []
    | _ => none
  | _ => none
def alenOf (x : Value) : Option Nat :=
  match x with
  | .slice none n _ => bif Nat.beq n 0 then some 0 else none
  | .slice (some _) n _ => some n
  | .string b => some b.size
  | .chan (some c) => match decSy c with
    | .empty => some 0
    | _ => none
  | _ => none
theorem empty_inv {c : Nat} {v : Value} (h : VR φ (.chan (some c)) v) (hd : decSy c = .empty) : ∃ a n, v = .slice a 0 n := by
  cases h with
  | top _ _ ht _ => rw [hd] at ht; cases ht
  | str _ _ ht => rw [hd] at ht; cases ht
  | empty _ a n _ => exact ⟨a, n, rfl⟩
  | sy _ k n hn => rw [hd] at hn; exact hn.elim

theorem alenOf_sound {x c : Value} {n : Nat} (h : alenOf x = some n) (hx : VR φ x c) (w : World) : (Builtin.lenOf c).run P w = .ok n w := by
  unfold alenOf at h
  split at h
  · rename_i m k
    cases hb : Nat.beq m 0 with
    | false => rw [hb] at h; cases h
    | true => rw [hb] at h; cases h; cases hx; rw [beq_iff.1 hb]; rfl
  · cases h; cases hx; rfl
  · cases h; cases hx; rfl
  · split at h
    · rename_i hd
      cases h
      obtain ⟨a, n, rfl⟩ := empty_inv hx hd
      rfl
    · cases h
  · cases h

theorem plainL_bytes (l : List UInt8) : plainL (l.map fun c => Value.int .u8 c.toNat) = true := by
  induction l with
  | nil => rfl
  | cons a l ih => simp [plainL, plain, ih]

theorem aelems_sound (r : Rel w0 φ s w) {es n m : Nat} {x c : Value} {l : List Value} (h : aelems s es n x = some l) (hm : alenOf x = some m) (hn : n ≤ m) (hx : VR φ x c) :
    ∃ cs, VRL φ l cs ∧ cs.length = n * es ∧ ∀ w' : World, (∀ a, w'.cell? a = w.cell? a) → (Builtin.firstCells es n c).run P w' = .ok cs.toArray w' := by
  unfold aelems at h
  split at h
  · cases h
    unfold alenOf at hm
    simp only at hm
    rename_i k k2
    cases hb : Nat.beq k 0 with
    | false => rw [hb] at hm; cases hm
    | true =>
      rw [hb] at hm
      cases hm
      cases hx
      have : n = 0 := by omega
      subst this
      exact ⟨[], .nil, by simp, fun _ _ => rfl⟩
  · cases hx with
    | slice _ _ t' _ _ c' hv g1 g2 =>
      obtain ⟨cs, h1, h2, h3⟩ := r.loadN hv _ _ _ h
      refine ⟨cs, h1, h2, fun w' hw => ?_⟩
      have := run_loadCells_list (P := P) w' ⟨t'.blk, _, none⟩ cs (fun j v hj => by rw [hw]; exact h3 j v hj)
      rw [h2] at this
      exact this
  · rename_i b
    cases hb : Nat.beq es 1 with
    | false => rw [hb] at h; cases h
    | true =>
      rw [hb] at h
      simp only [cond_true, Option.some.injEq] at h
      subst h
      have e := beq_iff.1 hb
      subst e
      cases hx
      unfold alenOf at hm
      simp only [Option.some.injEq] at hm
      refine ⟨_, VRL.plain _ (plainL_bytes _), ?_, fun w' hw => ?_⟩
      · simp only [List.length_map, List.length_take, Array.length_toList, Nat.mul_one]
        have : b.data.size = b.size := rfl
        omega
      · simp only [Builtin.firstCells, Sem.run_pure, Result.ok.injEq, and_true]
        apply Array.ext'
        simp [ByteArray.data_extract, List.map_take]
  · split at h
    · rename_i hd
      cases h
      obtain ⟨a, k, rfl⟩ := empty_inv hx hd
      unfold alenOf at hm
      simp only [hd, Option.some.injEq] at hm
      have : n = 0 := by omega
      subst this
      refine ⟨[], .nil, by simp, fun _ _ => ?_⟩
      cases a <;> simp [Builtin.firstCells, loadCells, loadCellsFrom]
    · cases h
  · cases h


def allOne : List Value → Bool
  | [] => true
  | v :: l => oneCell v && allOne l
theorem allOne_spec : ∀ (l cs : List Value), allOne l = true → VRL φ l cs → ∀ u ∈ cs, u.oneCell' = true := by
  intro l
  induction l with
  | nil => intro cs _ h u hu; cases h; cases hu
  | cons a l ih =>
    intro cs ho h u hu
    cases h with
    | cons _ c _ m hv ht =>
      simp only [allOne, Bool.and_eq_true] at ho
      rcases List.mem_cons.1 hu with rfl | hu
      · have := oneCell_rel hv ho.1
        cases u <;> first | rfl | cases this
      · exact ih m ho.2 ht u hu

theorem setCells_row (b : Nat) (e : TypeId) (fr : Nat × Nat) : ∀ (vs : List Value) (o : Nat) (w : World) (c : Array Value), w.heap[b]? = some (.cells c e fr) → o + vs.length ≤ c.size →
    ∃ c2, (w.setCells b o vs).heap[b]? = some (.cells c2 e fr) ∧ c2.size = c.size ∧ (∀ k, k < o ∨ o + vs.length ≤ k → c2[k]? = c[k]?) ∧ (∀ k x, vs[k]? = some x → c2[o + k]? = some x) ∧
      (∀ b' ob, w.heap[b']? = some ob → b' ≠ b → (w.setCells b o vs).heap[b']? = some ob) ∧ (w.setCells b o vs).os = w.os ∧ (w.setCells b o vs).tape = w.tape ∧ (w.setCells b o vs).output = w.output ∧ (w.setCells b o vs).heap.size = w.heap.size := by
  intro vs
  induction vs with
  | nil => intro o w c h hl; exact ⟨c, h, rfl, fun _ _ => rfl, fun k x hk => by simp at hk, fun _ _ h _ => h, rfl, rfl, rfl, rfl⟩
  | cons v vs ih =>
    intro o w c h hl
    simp only [List.length_cons] at hl
    obtain ⟨c2, h1, h2, h3, h4, h5, h6, h7, h8, h9⟩ := ih (o + 1) (w.setCell ⟨b, o, none⟩ v) (c.setIfInBounds o v) (heap_setCell_at h) (by simp; omega)
    refine ⟨c2, h1, by rw [h2]; simp, ?_, ?_, ?_, h6, h7, h8, by rw [World.setCells, h9]; simp [World.setCell]⟩
    · intro k hk
      simp only [List.length_cons] at hk
      rw [h3 k (by omega), Array.getElem?_setIfInBounds_ne (by omega)]
    · intro k x hk
      cases k with
      | zero =>
        simp at hk; subst hk
        rw [Nat.add_zero, h3 o (by omega)]
        exact Array.getElem?_setIfInBounds_self_of_lt (by omega)
      | succ k =>
        have := h4 k x (by simpa using hk)
        rw [show o + (k + 1) = o + 1 + k by omega]; exact this
    · intro b' ob hb hne
      exact h5 b' ob (by rw [heap_setCell_ne hne]; exact hb) hne

/-! ### append -/
def growRow (tb : Tb) (i : TypeInfo) (need : Nat) : Bool :=
  match i.zero with
  | none => false
  | some z => Nat.beq z.cells.size i.size && Nat.blt 0 i.size && Nat.ble (need * i.bytes) 140737488355328 && Nat.blt need INF

def srcKind (tb : Tb) (t : TypeId) : Bool :=
  match tb.und.get t with
  | some (.slice _) => true
  | some .string => true
  | _ => false

def aappend (tb : Tb) (s : St) (ts : List TypeId) (args : List Value) : Option (Value × St) :=
  match ts, args with
  | [t, tx], [.slice base sLen sCap, x] => match tb.und.get t with
    | some (.slice elem) => match tb.info.get elem with
      | none => none
      | some i => bif srcKind tb tx then
          match alenOf x with
          | none => none
          | some n => match aelems s i.size n x with
            | none => none
            | some new => bif allOne new then
                match base with
                | none => bif Nat.beq sLen 0 && Nat.beq sCap 0 then
                    bif Nat.beq n 0 then some (.slice none 0 0, s)
                    else bif growRow tb i n then some (.slice (some ⟨s.next, 0, none⟩) n INF, aallocX s elem i.size new new.length false false) else none
                  else none
                | some ⟨v, o, none⟩ => bif Nat.beq sCap INF then
                    match s.views.get v with
                    | none => none
                    | some V => match s.roots.get V.root with
                      | none => none
                      | some R => bif Nat.beq R.es i.size && Nat.blt 0 i.size && Nat.beq R.elem elem then
                          bif Nat.ble (sLen + n) ((V.ext - o) / i.size) then
                            match astoreN s v (o + sLen * i.size) new with
                            | none => none
                            | some s' => some (.slice (some ⟨v, o, none⟩) (sLen + n) INF, s')
                          else bif Nat.beq R.cur v && !R.ro && Nat.beq o 0 && Nat.ble R.fhi (sLen * i.size) && Nat.ble (sLen * i.size) V.ext && growRow tb i (sLen + n) then
                            some (.slice (some ⟨s.next, 0, none⟩) (sLen + n) INF, agrow s V R (sLen * i.size) new)
                          else none
                        else none
                  else bif Nat.ble (sLen + n) sCap then
                    match astoreN s v (o + sLen * i.size) new with
                    | none => none
                    | some s' => some (.slice (some ⟨v, o, none⟩) (sLen + n) sCap, s')
                  else bif growRow tb i (sLen + n) then
                    match aloadN s v o (sLen * i.size) with
                    | none => none
                    | some old => some (.slice (some ⟨s.next, 0, none⟩) (sLen + n) INF, aallocX s elem i.size (old ++ new) (old ++ new).length false false)
                  else none
                | _ => none
              else none
        else none
    | _ => none
  | _, _ => none

/-- What an operation with an effect comes to. -/
def ER (w0 : Base) (φ : Emb) (s s' : St) (w : World) (v : Value) (res : Result Value) : Prop :=
  ∃ ψ w' c, res = .ok c w' ∧ Ext s φ ψ ∧ s.next ≤ s'.next ∧ Rel w0 ψ s' w' ∧ VR ψ v c

theorem growRow_spec {i : TypeInfo} {need : Nat} (h : growRow tb i need = true) : ∃ z, i.zero = some z ∧ z.cells.size = i.size ∧ 0 < i.size ∧ need * i.bytes ≤ 140737488355328 ∧ need < INF := by
  unfold growRow at h
  split at h
  · cases h
  · rename_i z hz
    simp only [Bool.and_eq_true] at h
    obtain ⟨⟨⟨h1, h2⟩, h3⟩, h4⟩ := h
    exact ⟨z, hz, beq_iff.1 h1, blt_iff.1 h2, Nat.le_of_ble_eq_true h3, blt_iff.1 h4⟩

theorem grownCap_ge (w : World) (need old : Nat) (e : TypeId) : need ≤ grownCap w need old e := by
  unfold grownCap Question.cut
  exact Nat.le_add_right _ _

theorem zeroCells_size (z : Array Value) (n : Nat) : (Builtin.zeroCells z n).toList.length = n * z.size := by simp [Builtin.zeroCells]

theorem cells_ok_firstCells (w : World) (size n : Nat) (a : Addr) (c : Nat) {cs : List Value} (hl : cs.length = n * size) (h : ∀ j v, cs[j]? = some v → w.cell? (a.add j) = some v) :
    (Builtin.firstCells size n (.slice (some a) n c)).run P w = .ok cs.toArray w := by
  have := run_loadCells_list (P := P) w a cs h
  rw [hl] at this
  exact this
end
end Go.Proofs.YtbjickdjkgefcaaGreatDoor.Vai
end
end
section
open Go Go.RowKit
noncomputable section
namespace Go.Proofs.YtbjickdjkgefcaaGreatDoor.Vai
set_option linter.unusedVariables false
set_option linter.unusedSimpArgs false

section
variable {P : Program} {tb : Tb} {w0 : Base} {φ : Emb} {s s' : St} {w : World}

theorem run_append_room_any {t tx ty e : TypeId} {i : TypeInfo} (ht : P.underlying t = some (.slice e)) (hi : P.info? e = some i) {b off sLen sCap n : Nat} {x : Value} {news : List Value} (hs : Src P i.size tx x n news w) (hroom : sLen + n ≤ sCap) {w' : World}
    (hst : (storeCells ⟨b, off + sLen * i.size, none⟩ news).run P w = .ok () w') :
    (Builtin.append_ #[t, tx] ty #[.slice (some ⟨b, off, none⟩) sLen sCap, x]).run P w = .ok (.slice (some ⟨b, off, none⟩) (sLen + n) sCap) w' := by
  rcases hs.kind with ⟨e', hk⟩ | hk <;> simp [Builtin.append_, run_underlying ht, run_underlying hk, sizeOf, typeInfo, hi, hs.len, hroom, hs.cells, add_mk, hst]

theorem run_append_none {t tx ty e : TypeId} {i : TypeInfo} (ht : P.underlying t = some (.slice e)) (hi : P.info? e = some i) {x : Value} {news : List Value} (hs : Src P i.size tx x 0 news w) :
    (Builtin.append_ #[t, tx] ty #[.slice none 0 0, x]).run P w = .ok (.slice none 0 0) w := by
  rcases hs.kind with ⟨e', hk⟩ | hk <;> simp [Builtin.append_, run_underlying ht, run_underlying hk, sizeOf, typeInfo, hi, hs.len, hs.cells]

theorem grow_world (w : World) (olds news : List Value) (z : Array Value) (k : Nat) (e : TypeId) :
    w.drew.alloc (.cells ((olds ++ news).toArray ++ Builtin.zeroCells z k) e) = (w.drew).alloc (.cells ((olds ++ news) ++ (Builtin.zeroCells z k).toList).toArray e) := by
  congr 2
  apply Array.ext'
  simp

/-- A new block for what has grown. -/
theorem grown_new (r : Rel w0 φ s w) {t tx ty e : TypeId} {i : TypeInfo} (ht : P.underlying t = some (.slice e)) (hi : P.info? e = some i) {base : Option Addr} {sLen sCap n : Nat} {x : Value} {old new olds news : List Value}
    (hold : (Builtin.firstCells i.size sLen (.slice base sLen sCap)).run P w.drew = .ok olds.toArray w.drew) (hol : olds.length = sLen * i.size) (ho : VRL φ old olds) (hn : VRL φ new news) (hs : Src P i.size tx x n news w)
    (hg : sCap < sLen + n) (hrow : growRow tb i (sLen + n) = true) :
    ER w0 φ s (aallocX s e i.size (old ++ new) (old ++ new).length false false) w (.slice (some ⟨s.next, 0, none⟩) (sLen + n) INF) ((Builtin.append_ #[t, tx] ty #[.slice base sLen sCap, x]).run P w) := by
  obtain ⟨z, hz, hzs, hpos, hfit, hinf⟩ := growRow_spec hrow
  have hrun := run_append_grow_src (P := P) w t tx ty e i z ht hi hz base sLen sCap olds hold x n news hs hg (by simp only [INF] at hinf; omega) (growslice_fits hg hfit)
  rw [grow_world] at hrun
  have hrel := r.drew.allocX e i.size (Builtin.zeroCells z.cells (grownCap w (sLen + n) sCap e - (sLen + n))).toList (0, 0) (old ++ new).length false false (by rw [(ho.append hn).length]; exact Nat.le_add_right _ _) (fun h => by cases h) ⟨Nat.le_refl _, fun o _ a b => by omega, fun _ _ => rfl, fun _ => Nat.zero_le _⟩ (ho.append hn)
  refine ⟨_, _, _, hrun, Ext.with (w0 := w0) _, Nat.le_succ _, hrel, ?_⟩
  refine VR.slice (φ := φ.with s.next _) s.next 0 _ (sLen + n) INF (grownCap w (sLen + n) sCap e) (Emb.with_same _ _ _) (fun h => absurd rfl h) (fun _ => ?_)
  have hge := grownCap_ge w (sLen + n) sCap e
  show 0 + grownCap w (sLen + n) sCap e * i.size = (olds ++ news).length + (Builtin.zeroCells z.cells (grownCap w (sLen + n) sCap e - (sLen + n))).toList.length
  rw [zeroCells_size, List.length_append, hol, hs.newsLen, hzs, ← Nat.add_mul, ← Nat.add_mul, Nat.zero_add]
  congr 1
  omega

set_option maxHeartbeats 2000000 in
theorem aappend_sound (hP : TbOk P tb) (r : Rel w0 φ s w) {ts : Array TypeId} {ty : TypeId} {args : List Value} {cs : Array Value} {out : Value} (h : aappend tb s ts.toList args = some (out, s')) (hl : VRL φ args cs.toList) :
    ER w0 φ s s' w out ((Builtin.append_ ts ty cs).run P w) := by
  obtain ⟨tl⟩ := ts
  obtain ⟨cl⟩ := cs
  simp only at h hl
  unfold aappend at h
  split at h
  · rename_i t tx base sLen sCap x
    cases hl with
    | cons _ cb _ m hb hl =>
    cases hl with
    | cons _ cx _ m hx hl =>
    cases hl
    split at h
    · rename_i elem hu
      have ht := hP.und _ _ hu
      split at h
      · cases h
      · rename_i i hi0
        have hi := hP.info _ _ hi0
        cases hk : srcKind tb tx with
        | false => rw [hk] at h; cases h
        | true =>
          rw [hk] at h
          simp only [cond_true] at h
          have kind : (∃ e', P.underlying tx = some (.slice e')) ∨ P.underlying tx = some .string := by
            unfold srcKind at hk
            split at hk
            · rename_i e' he; exact .inl ⟨e', hP.und _ _ he⟩
            · rename_i he; exact .inr (hP.und _ _ he)
            · cases hk
          split at h
          · cases h
          · rename_i n hn
            split at h
            · cases h
            · rename_i new hnew
              cases hone : allOne new with
              | false => rw [hone] at h; cases h
              | true =>
                rw [hone] at h
                simp only [cond_true] at h
                obtain ⟨news, g1, g2, g3⟩ := aelems_sound (P := P) r hnew hn (Nat.le_refl _) hx
                have src : Src P i.size tx cx n news w := ⟨kind, fun w' => alenOf_sound hn hx w', g3 w (fun _ => rfl), g3 w.drew (fun _ => rfl), g2, allOne_spec _ _ hone g1⟩
                split at h
                · cases hz : (Nat.beq sLen 0 && Nat.beq sCap 0) with
                  | false => rw [hz] at h; cases h
                  | true =>
                    rw [hz] at h
                    rw [Bool.and_eq_true] at hz
                    have e1 := beq_iff.1 hz.1
                    have e2 := beq_iff.1 hz.2
                    subst e1; subst e2
                    cases hb
                    simp only [cond_true] at h
                    cases hn0 : Nat.beq n 0 with
                    | true =>
                      rw [hn0] at h
                      cases h
                      have e3 := beq_iff.1 hn0
                      subst e3
                      exact ⟨φ, w, _, run_append_none ht hi src, Ext.refl _ _, Nat.le_refl _, r, .snil _ _⟩
                    | false =>
                      rw [hn0] at h
                      simp only [cond_false] at h
                      have hne : n ≠ 0 := fun e => by rw [beq_iff.2 e] at hn0; cases hn0
                      cases hrow : growRow tb i n with
                      | false => rw [hrow] at h; cases h
                      | true =>
                        rw [hrow] at h
                        cases h
                        have := grown_new (P := P) (tb := tb) (ty := ty) (tx := tx) (sLen := 0) (sCap := 0) (base := none) (old := []) (olds := []) r ht hi rfl (by simp) .nil g1 src (by omega) (by rw [Nat.zero_add]; exact hrow)
                        simpa using this
                · rename_i v o
                  cases hb with
                  | slice _ _ tg _ _ c' hv q1 q2 =>
                  cases hc : Nat.beq sCap INF with
                  | true =>
                    rw [hc] at h
                    simp only [cond_true] at h
                    have hcap := q2 (beq_iff.1 hc)
                    split at h
                    · cases h
                    · rename_i V hV
                      split at h
                      · cases h
                      · rename_i R hR
                        cases hk2 : (Nat.beq R.es i.size && Nat.blt 0 i.size && Nat.beq R.elem elem) with
                        | false => rw [hk2] at h; cases h
                        | true =>
                          rw [hk2] at h
                          simp only [cond_true] at h
                          rw [Bool.and_eq_true, Bool.and_eq_true] at hk2
                          obtain ⟨⟨k1, k2⟩, k3⟩ := hk2
                          have hpos := blt_iff.1 k2
                          have helem : R.elem = elem := beq_iff.1 k3
                          obtain ⟨R', hR', bk⟩ := r.view v tg V hv hV
                          rw [hR] at hR'; cases hR'
                          have hes : tg.es = i.size := by rw [← bk.es]; exact beq_iff.1 k1
                          rw [hes] at hcap
                          have hle : (V.ext - o) / i.size ≤ c' := by
                            have := bk.ext
                            have h5 : V.ext - o ≤ c' * i.size := by omega
                            calc (V.ext - o) / i.size ≤ (c' * i.size) / i.size := Nat.div_le_div_right h5
                              _ = c' := Nat.mul_div_cancel _ hpos
                          cases hfit : Nat.ble (sLen + n) ((V.ext - o) / i.size) with
                          | true =>
                            rw [hfit] at h
                            simp only [cond_true] at h
                            split at h
                            · cases h
                            · rename_i s1 hs1
                              cases h
                              obtain ⟨w', e1, e2⟩ := r.run_storeN (P := P) hv _ _ _ _ _ (o + sLen * i.size) 0 _ hs1 g1 rfl
                              refine ⟨φ, w', _, run_append_room_any ht hi src (Nat.le_trans (Nat.le_of_ble_eq_true hfit) hle) e1, Ext.refl _ _, by rw [astoreN_next _ _ _ _ _ hs1]; exact Nat.le_refl _, e2, ?_⟩
                              exact .slice _ _ _ _ _ _ hv (fun h => absurd rfl h) (fun _ => by rw [hes]; exact hcap)
                          | false =>
                            rw [hfit] at h
                            simp only [cond_false] at h
                            cases hgo : (Nat.beq R.cur v && !R.ro && Nat.beq o 0 && Nat.ble R.fhi (sLen * i.size) && Nat.ble (sLen * i.size) V.ext && growRow tb i (sLen + n)) with
                            | false => rw [hgo] at h; cases h
                            | true =>
                              rw [hgo] at h
                              cases h
                              simp only [Bool.and_eq_true, Bool.not_eq_true'] at hgo
                              obtain ⟨⟨⟨⟨⟨p1, p2⟩, p3⟩, p4⟩, p5⟩, p6⟩ := hgo
                              have hcur := beq_iff.1 p1
                              have ho0 := beq_iff.1 p3
                              subst ho0
                              have hfhi := Nat.le_of_ble_eq_true p4
                              have hsl := Nat.le_of_ble_eq_true p5
                              obtain ⟨z, hz, hzs, _, hrowfit, hinf⟩ := growRow_spec p6
                              obtain ⟨c, fr, b1, b2, b3, b4⟩ := bk.blk
                              rw [Nat.zero_add] at hcap
                              have hnl : new.length = n * i.size := by rw [g1.length]; exact g2
                              by_cases hroom : sLen + n ≤ c'
                              · have hin : sLen * i.size + news.length ≤ c.size := by
                                  rw [g2, ← Nat.add_mul, b2, ← hcap]
                                  exact Nat.mul_le_mul_right _ hroom
                                obtain ⟨c2, s1, s2, s3, s4, s5, s6, s7, s8, s9⟩ := setCells_row tg.blk R.elem fr news (sLen * i.size) w c b1 hin
                                have hst := run_storeCells_cells (P := P) tg.blk (0 + sLen * i.size) news 0 w
                                  (fun j hj => by
                                    have : (0 + sLen * i.size) + 0 + j < c.size := by omega
                                    simp [World.cell?, b1]; omega)
                                  (fun j hj => frozen_not b1 (fun ⟨x, y⟩ => by
                                    have := (b3.sub _ (by omega) x y).2
                                    omega))
                                  (allOne_spec _ _ hone g1)
                                rw [show 0 + sLen * i.size + 0 = sLen * i.size by omega] at hst
                                have hgrow := r.grow (w' := w.setCells tg.blk (sLen * i.size) news) (t2 := tg) hv hV hR hcur p2 g1 b1 hsl
                                  (r.bel.step s6 s7 s8 (by rw [s9]; exact Nat.le_refl _) (fun k hk => by
                                    have hne : k ≠ tg.blk := fun e => bk.own p2 (e ▸ hk)
                                    cases hq : w.heap[k]? with
                                    | none =>
                                      have h1 := Array.getElem?_eq_none_iff.1 hq
                                      exact Array.getElem?_eq_none (by rw [s9]; exact h1)
                                    | some ob => exact s5 k ob hq hne))
                                  rfl (bk.own p2) s1 (by rw [s2, b2]) (by rw [hnl, ← hcap, ← Nat.add_mul]; exact Nat.mul_le_mul_right _ hroom) b3
                                  (fun k hk => s3 k (.inl hk)) s4 s5 ⟨c2, s1, s2, fun k hk => s3 k (by rw [g2, ← hnl]; exact hk)⟩ (.inl rfl)
                                refine ⟨_, _, _, run_append_room_any ht hi src hroom hst, Ext.with (w0 := w0) _, Nat.le_succ _, hgrow, ?_⟩
                                refine VR.slice (φ := φ.with s.next tg) s.next 0 tg (sLen + n) INF c' (Emb.with_same _ _ _) (fun h => absurd rfl h) (fun _ => ?_)
                                rw [hes, Nat.zero_add]; exact hcap
                              · have hlt : c' < sLen + n := by omega
                                have hold : (Builtin.firstCells i.size sLen (.slice (some ⟨tg.blk, 0, none⟩) sLen c')).run P w.drew = .ok (c.toList.take (sLen * i.size)).toArray w.drew := by
                                  refine cells_ok_firstCells w.drew i.size sLen _ c' (by rw [List.length_take, Array.length_toList, b2]; have := bk.ext; omega) (fun j v hj => ?_)
                                  rw [add_mk]
                                  rw [List.getElem?_take] at hj
                                  split at hj
                                  · have : w.drew.cell? ⟨tg.blk, 0 + j, none⟩ = c[j]? := by
                                      show w.cell? _ = _
                                      simp [World.cell?, b1]
                                    rw [this, ← Array.getElem?_toList]; exact hj
                                  · cases hj
                                have hol : (c.toList.take (sLen * i.size)).length = sLen * i.size := by rw [List.length_take, Array.length_toList, b2]; have := bk.ext; omega
                                have hrun := run_append_grow_src (P := P) w t tx ty elem i z ht hi hz (some ⟨tg.blk, 0, none⟩) sLen c' _ hold cx n news src hlt (by simp only [INF] at hinf; omega) (growslice_fits hlt hrowfit)
                                rw [grow_world] at hrun
                                have hge := grownCap_ge w (sLen + n) c' elem
                                have hsz : ((c.toList.take (sLen * i.size) ++ news) ++ (Builtin.zeroCells z.cells (grownCap w (sLen + n) c' elem - (sLen + n))).toList).length = grownCap w (sLen + n) c' elem * i.size := by
                                  rw [List.length_append, List.length_append, hol, zeroCells_size, g2, hzs, ← Nat.add_mul, ← Nat.add_mul]
                                  congr 1; omega
                                have hgrow := r.grow (w' := w.drew.alloc (.cells ((c.toList.take (sLen * i.size) ++ news) ++ (Builtin.zeroCells z.cells (grownCap w (sLen + n) c' elem - (sLen + n))).toList).toArray elem))
                                  (t2 := ⟨w.heap.size, grownCap w (sLen + n) c' elem * i.size, i.size⟩) hv hV hR hcur p2 g1 b1 hsl
                                  (r.drew.bel.alloc _) hes.symm r.bel.new (by rw [helem]; exact heap_alloc_at) (by rw [List.size_toArray]; exact hsz)
                                  (by rw [hnl, ← Nat.add_mul]; exact Nat.mul_le_mul_right _ hge) ⟨Nat.le_refl _, fun k _ x y => by omega, fun _ _ => rfl, fun _ => Nat.zero_le _⟩
                                  (fun k hk => by
                                    rw [List.getElem?_toArray, List.append_assoc, List.getElem?_append_left (by omega), List.getElem?_take, if_pos hk, Array.getElem?_toList])
                                  (fun k x hk => by
                                    have hkl := (List.getElem?_eq_some_iff.1 hk).1
                                    rw [List.getElem?_toArray, List.append_assoc, List.getElem?_append_right (by omega), hol, show sLen * i.size + k - sLen * i.size = k by omega, List.getElem?_append_left hkl]; exact hk)
                                  (fun b' ob hb' _ => heap_alloc_old hb') ⟨c, heap_alloc_old b1, rfl, fun _ _ => rfl⟩ (.inr (Nat.le_refl _))
                                refine ⟨_, _, _, hrun, Ext.with (w0 := w0) _, Nat.le_succ _, hgrow, ?_⟩
                                refine VR.slice (φ := φ.with s.next _) s.next 0 _ (sLen + n) INF _ (Emb.with_same _ _ _) (fun h => absurd rfl h) (fun _ => ?_)
                                show 0 + grownCap w (sLen + n) c' elem * i.size = grownCap w (sLen + n) c' elem * i.size
                                omega
                  | false =>
                    rw [hc] at h
                    simp only [cond_false] at h
                    have hne : sCap ≠ INF := fun e => by rw [beq_iff.2 e] at hc; cases hc
                    have hcc := q1 hne
                    rw [hcc]
                    cases hfit : Nat.ble (sLen + n) sCap with
                    | true =>
                      rw [hfit] at h
                      simp only [cond_true] at h
                      split at h
                      · cases h
                      · rename_i s1 hs1
                        cases h
                        obtain ⟨w', e1, e2⟩ := r.run_storeN (P := P) hv _ _ _ _ _ (o + sLen * i.size) 0 _ hs1 g1 rfl
                        refine ⟨φ, w', _, run_append_room_any ht hi src (Nat.le_of_ble_eq_true hfit) e1, Ext.refl _ _, by rw [astoreN_next _ _ _ _ _ hs1]; exact Nat.le_refl _, e2, ?_⟩
                        exact .slice _ _ _ _ _ _ hv (fun _ => rfl) (fun h => absurd h hne)
                    | false =>
                      rw [hfit] at h
                      simp only [cond_false] at h
                      have hlt : sCap < sLen + n := by
                        rcases Nat.lt_or_ge sCap (sLen + n) with h | h
                        · exact h
                        · rw [Nat.ble_eq_true_of_le h] at hfit; cases hfit
                      cases hrow : growRow tb i (sLen + n) with
                      | false => rw [hrow] at h; cases h
                      | true =>
                        rw [hrow] at h
                        simp only [cond_true] at h
                        split at h
                        · cases h
                        · rename_i old hold
                          cases h
                          obtain ⟨olds, y1, y2, y3⟩ := r.loadN hv _ _ _ hold
                          exact grown_new (P := P) (tb := tb) (ty := ty) (tx := tx) r ht hi (cells_ok_firstCells w.drew i.size sLen _ sCap y2 (fun j v hj => y3 j v hj)) y2 y1 g1 src hlt hrow
                · cases h
    · cases h
  · cases h
end
end Go.Proofs.YtbjickdjkgefcaaGreatDoor.Vai
end
end
