/- A part of an evaluator of the model's code whose answers are proved sound: no statement on the program stands here. -/
import Derived.Test.YtcmlomjdkjcjpaaGreatDoorVaiK
open Go Go.RowKit
namespace Go.Proofs.YtcmlomjdkjcjpaaGreatDoor.Vai
set_option linter.unusedVariables false
set_option linter.unusedSimpArgs false

/-- The embedding has grown by the new numbers alone. -/
structure Ext (s : St) (φ ψ : Emb) : Prop where
  to : ∀ v, v < s.next → ψ v = φ v
  sig : ψ.sig = φ.sig
instance {s : St} {φ ψ : Emb} : CoeFun (Ext s φ ψ) (fun _ => ∀ v, v < s.next → ψ v = φ v) := ⟨Ext.to⟩
theorem Ext.refl (s : St) (φ : Emb) : Ext s φ φ := ⟨fun _ _ => rfl, rfl⟩
theorem Ext.trans {s s' : St} {a b c : Emb} (h : Ext s a b) (hn : s.next ≤ s'.next) (k : Ext s' b c) : Ext s a c := ⟨fun v hv => (k v (Nat.lt_of_lt_of_le hv hn)).trans (h v hv), k.sig.trans h.sig⟩
theorem Ext.le {w0 : Base} {s : St} {w : World} {φ ψ : Emb} (h : Ext s φ ψ) (r : Rel w0 φ s w) : φ.le ψ := ⟨fun v t e => by rw [h v (r.fresh v t e)]; exact e, h.sig⟩
theorem Ext.with {w0 : Base} {s : St} {φ : Emb} (t : Tgt) : Ext s φ (φ.with s.next t) := ⟨fun v hv => Emb.with_other _ _ (by omega), rfl⟩

theorem Rel.ofHeap {w0 : Base} {φ : Emb} {s : St} {w w' : World} (r : Rel w0 φ s w) (h : w'.heap = w.heap) (ho : w'.os = w.os) (ht : w'.tape = w.tape) (hu : w'.output = w.output) : Rel w0 φ s w' := by
  refine ⟨⟨ho.trans r.bel.os, ht.trans r.bel.tape, hu.trans r.bel.output, by rw [h]; exact r.bel.size, fun k hk => by rw [h]; exact r.bel.block k hk⟩, r.fresh, r.known, ?_, ?_, r.inj, r.vroot, r.olt, r.glob, r.ngle, r.orc⟩
  · intro v t V hv hV
    obtain ⟨R, hR, b⟩ := r.view v t V hv hV
    obtain ⟨c, fr, h1, h2, h3, h4⟩ := b.blk
    exact ⟨R, hR, b.es, b.cur, b.own, b.ext, b.exact, b.stamps, c, fr, by rw [h]; exact h1, h2, h3, h4⟩
  · intro v t o hv ho
    obtain ⟨k, c, h1, h2⟩ := r.obj v t o hv ho
    exact ⟨k, c, by rw [h]; exact h1, h2⟩
theorem Rel.drew {w0 : Base} {φ : Emb} {s : St} {w : World} (r : Rel w0 φ s w) : Rel w0 φ s { w with drawn := w.drawn + 1 } := r.ofHeap rfl rfl rfl rfl

/-! ### stores -/
def astoreN (s : St) (v : Nat) : Nat → List Value → Option St
  | _, [] => some s
  | o, x :: l => match astore s v o x with
    | none => none
    | some s' => astoreN s' v (o + 1) l

theorem astore_next {s s' : St} {v o : Nat} {x : Value} (h : astore s v o x = some s') : s'.next = s.next := by
  obtain ⟨V, R, _, _, _, _, _, _, _, rfl⟩ := astore_spec h
  rfl
theorem astoreN_next : ∀ (l : List Value) (s s' : St) (v o : Nat), astoreN s v o l = some s' → s'.next = s.next := by
  intro l
  induction l with
  | nil => intro s s' v o h; simp only [astoreN, Option.some.injEq] at h; rw [h]
  | cons x l ih =>
    intro s s' v o h
    simp only [astoreN] at h
    split at h
    · cases h
    · rename_i s1 h1
      exact (ih _ _ _ _ h).trans (astore_next h1)

theorem run_storeOne {P : Program} {w : World} {a : Addr} {v old : Value} (h1 : oneCell v = true) (h2 : w.cell? a = some old) (h3 : w.frozen? a = false) : (store a v).run P w = .ok () (w.setCell a v) := by
  have hv : v.oneCell' = true := by cases v <;> first | rfl | cases h1
  rw [run_store P w a v .plain hv, h2]
  simp [h3]

theorem oneCell_rel {φ : Emb} {a c : Value} (h : VR φ a c) (ho : oneCell a = true) : oneCell c = true := by
  cases h <;> first | rfl | assumption | cases ho

theorem Rel.run_storeN {P : Program} {w0 : Base} {φ : Emb} {v : Nat} {t : Tgt} (hv : φ v = some t) : ∀ (l cs : List Value) (s s' : St) (w : World) (o i k : Nat), Rel w0 φ s w → astoreN s v k l = some s' → VRL φ l cs → k = o + i →
    ∃ w', (storeCells ⟨t.blk, o, none⟩ cs i).run P w = .ok () w' ∧ Rel w0 φ s' w' := by
  intro l
  induction l with
  | nil => intro cs s s' w o i k r h hl hk; cases hl; simp only [astoreN, Option.some.injEq] at h; subst h; exact ⟨w, rfl, r⟩
  | cons x l ih =>
    intro cs s s' w o i k r h hl hk
    cases hl with
    | cons _ c _ m hx ht =>
      simp only [astoreN] at h
      split at h
      · cases h
      · rename_i s1 h1
        obtain ⟨⟨old, e1⟩, e2, r1⟩ := r.store hv h1 hx
        have hone : oneCell x = true := by obtain ⟨_, _, _, _, q, _⟩ := astore_spec h1; exact q
        obtain ⟨w', f1, f2⟩ := ih m s1 s' _ o (i + 1) (k + 1) r1 h ht (by omega)
        refine ⟨w', ?_, f2⟩
        simp only [storeCells, Sem.run_bind, add_mk]
        rw [hk] at e1 e2 f1
        rw [run_storeOne (oneCell_rel hx hone) e1 e2]
        exact f1

def astoreVar (tb : Tb) (s : St) (t : TypeId) (a x : Value) : Option St :=
  match a with
  | .pointer (some ⟨v, o, none⟩) => match tb.info.get t with
    | none => none
    | some i => bif Nat.beq x.cells.size i.size then astoreN s v o x.cells.toList else none
  | _ => none
theorem astoreVar_next {tb : Tb} {s s' : St} {t : TypeId} {a x : Value} (h : astoreVar tb s t a x = some s') : s'.next = s.next := by
  unfold astoreVar at h
  split at h
  · split at h
    · cases h
    · rename_i i hi
      cases hb : Nat.beq x.cells.size i.size with
      | false => rw [hb] at h; cases h
      | true => rw [hb] at h; exact astoreN_next _ _ _ _ _ h
  · cases h

theorem Rel.run_storeVar {P : Program} {tb : Tb} (hP : TbOk P tb) {w0 : Base} {φ : Emb} {s s' : St} {w : World} (r : Rel w0 φ s w) {t : TypeId} {a x ca cx : Value} (h : astoreVar tb s t a x = some s') (ha : VR φ a ca) (hx : VR φ x cx) :
    ∃ w', (Instr.storeAt t ca cx).run P w = .ok () w' ∧ Rel w0 φ s' w' := by
  unfold astoreVar at h
  split at h
  · rename_i v o
    split at h
    · cases h
    · rename_i i hi
      cases hb : Nat.beq x.cells.size i.size with
      | false => rw [hb] at h; cases h
      | true =>
        rw [hb] at h
        simp only [cond_true] at h
        cases ha with
        | ptr _ _ t' hv =>
          have hs : cx.cells.size = i.size := by rw [← hx.cells.size]; exact beq_iff.1 hb
          obtain ⟨w', e1, e2⟩ := r.run_storeN (P := P) hv _ _ _ _ _ o 0 o h hx.cells.list rfl
          exact ⟨w', by simp [Instr.storeAt, Instr.sureAddr, storeVar, run_size (hP.info _ _ hi), hs, e1], e2⟩
  · cases h

/-! ### a row that grows -/
def setMany (t : T (Nat × Value)) (st : Nat) : Nat → List Value → T (Nat × Value)
  | _, [] => t
  | o, x :: l => setMany (t.set o (st, x)) st (o + 1) l
theorem setMany_get (st : Nat) : ∀ (l : List Value) (t : T (Nat × Value)) (o k : Nat), (setMany t st o l).get k = if o ≤ k ∧ k < o + l.length then (l[k - o]?).map (fun v => (st, v)) else t.get k := by
  intro l
  induction l with
  | nil => intro t o k; simp only [setMany]; rw [if_neg (by simp)]
  | cons x l ih =>
    intro t o k
    simp only [setMany, ih, List.length_cons]
    by_cases h1 : o + 1 ≤ k ∧ k < o + 1 + l.length
    · rw [if_pos h1, if_pos (by omega)]
      have : k - o = (k - (o + 1)) + 1 := by omega
      rw [this]; simp
    · rw [if_neg h1]
      by_cases h2 : k = o
      · subst h2
        rw [if_pos (by omega)]
        simp [T.get_set_same]
      · rw [T.get_set_other _ _ h2, if_neg (by omega)]

/-- The view 'v' (its root's newest) grows into the view 's.next': 'o' cells stay, 'new' come behind them. -/
def agrow (s : St) (V : View) (R : Root) (o : Nat) (new : List Value) : St :=
  { s with next := s.next + 1, views := s.views.set s.next { root := V.root, ext := o + new.length, exact := false },
           roots := s.roots.set V.root { R with cells := setMany R.cells s.next o new, cur := s.next } }

/-- What is asked of the world behind: the block 't2' holds the first 'o' cells of the old one and the new ones; all other blocks are as they were, and of the old one what is not among the new cells' places. -/
theorem Rel.grow {w0 : Base} {φ : Emb} {s : St} {w w' : World} (r : Rel w0 φ s w) {v : Nat} {t t2 : Tgt} {V : View} {R : Root} (hv : φ v = some t) (hV : s.views.get v = some V) (hR : s.roots.get V.root = some R) (hcur : R.cur = v) (hro : R.ro = false)
    {o : Nat} {new cs : List Value} (hnew : VRL φ new cs) {c c2 : Array Value} {fr fr2 : Nat × Nat}
    (hc : w.heap[t.blk]? = some (.cells c R.elem fr))
    (ho : o ≤ V.ext)
    (hbel : Kept w0 w')
    (hes : t2.es = t.es) (hown : ¬ w0.K t2.blk)
    (h2 : w'.heap[t2.blk]? = some (.cells c2 R.elem fr2)) (hn : c2.size = t2.n) (hext : o + new.length ≤ t2.n)
    (hfr : FrOk t2.n R.flo R.fhi R.sish fr2)
    (hlow : ∀ k, k < o → c2[k]? = c[k]?) (hat : ∀ k x, cs[k]? = some x → c2[o + k]? = some x)
    (hold : ∀ b ob, w.heap[b]? = some ob → b ≠ t.blk → w'.heap[b]? = some ob)
    (holdt : ∃ c', w'.heap[t.blk]? = some (.cells c' R.elem fr) ∧ c'.size = c.size ∧ ∀ k, k < o ∨ o + new.length ≤ k → c'[k]? = c[k]?)
    (hfresh : t2.blk = t.blk ∨ w.heap.size ≤ t2.blk) :
    Rel w0 (φ.with s.next t2) (agrow s V R o new) w' := by
  have hle := r.with_le t2
  have cases_ : ∀ u q, (φ.with s.next t2) u = some q → (u = s.next ∧ q = t2) ∨ (u ≠ s.next ∧ φ u = some q) := by
    intro u q h
    by_cases e : u = s.next
    · subst e; rw [Emb.with_same] at h; exact .inl ⟨rfl, (Option.some.inj h).symm⟩
    · rw [Emb.with_other _ _ e] at h; exact .inr ⟨e, h⟩
  obtain ⟨R0, hR0, b0⟩ := r.view v t V hv hV
  rw [hR] at hR0; cases hR0
  obtain ⟨c0, fr0, g1, g2, g3, g4⟩ := b0.blk
  rw [hc] at g1; cases g1
  obtain ⟨c', hc', hcs, hck⟩ := holdt
  have hlen := hnew.length
  have hroot : V.root < s.next := (r.vroot v V hV).1
  refine ⟨hbel, ?_, ?_, ?_, ?_, ?_, ?_, ?_, ?_, by have := r.ngle; show s.ng ≤ s.next + 1; omega, r.orc⟩
  · intro u q h
    show u < s.next + 1
    rcases cases_ u q h with ⟨rfl, _⟩ | ⟨_, h⟩
    · omega
    · have := r.fresh u q h; omega
  · intro u q h
    rcases cases_ u q h with ⟨rfl, _⟩ | ⟨e, h⟩
    · exact .inl ⟨_, T.get_set_same _ _ _⟩
    · rcases r.known u q h with ⟨U, hU⟩ | h2
      · exact .inl ⟨U, by rw [agrow]; simp only; rw [T.get_set_other _ _ e]; exact hU⟩
      · exact .inr h2
  · intro u q U h hU
    rcases cases_ u q h with ⟨rfl, rfl⟩ | ⟨e, h⟩
    · simp only [agrow, T.get_set_same, Option.some.injEq] at hU
      subst hU
      refine ⟨_, T.get_set_same _ _ _, by rw [hes]; exact b0.es, Nat.le_refl _, fun _ => hown, hext, (fun h => by cases h), ?_, c2, fr2, h2, hn, hfr, ?_⟩
      · intro k st val hk
        simp only [setMany_get] at hk
        split at hk
        · cases hl : new[k - o]? with
          | none => rw [hl] at hk; cases hk
          | some x => rw [hl] at hk; simp only [Option.map_some, Option.some.injEq, Prod.mk.injEq] at hk; show st ≤ s.next; omega
        · have := b0.stamps k st val hk; have := r.fresh v t hv; show st ≤ s.next; omega
      · intro k st val hk hs hx
        simp only [setMany_get] at hk
        split at hk
        · rename_i hin
          cases hl : new[k - o]? with
          | none => rw [hl] at hk; cases hk
          | some x =>
            rw [hl] at hk
            simp only [Option.map_some, Option.some.injEq, Prod.mk.injEq] at hk
            obtain ⟨rfl, rfl⟩ := hk
            obtain ⟨y, hy, hr⟩ := hnew.get hl
            have := hat _ _ hy
            rw [show o + (k - o) = k by omega] at this
            exact ⟨y, this, hr.mono hle⟩
        · rename_i hout
          have hx' : k < o + new.length := hx
          have hko : k < o := by omega
          have hst : st ≤ v := by rw [← hcur]; exact b0.stamps k st val hk
          obtain ⟨cv, e1, e2⟩ := g4 k st val hk hst (by omega)
          exact ⟨cv, by rw [hlow k hko]; exact e1, e2.mono hle⟩
    · simp only [agrow] at hU
      rw [T.get_set_other _ _ e] at hU
      obtain ⟨R1, hR1, b1⟩ := r.view u q U h hU
      obtain ⟨c1, fr1, k1, k2, k3, k4⟩ := b1.blk
      have hu : u < s.next := r.fresh u q h
      by_cases hroot' : U.root = V.root
      · rw [hroot', hR] at hR1; cases hR1
        refine ⟨{ R with cells := setMany R.cells s.next o new, cur := s.next }, by simp only [agrow, hroot']; exact T.get_set_same _ _ _, b1.es, Nat.le_of_lt hu, b1.own, b1.ext, b1.exact, ?_, ?_⟩
        · intro k st val hk
          simp only [setMany_get] at hk
          split at hk
          · cases hl : new[k - o]? with
            | none => rw [hl] at hk; cases hk
            | some x => rw [hl] at hk; simp only [Option.map_some, Option.some.injEq, Prod.mk.injEq] at hk; show st ≤ s.next; omega
          · have := b0.stamps k st val hk; have := r.fresh v t hv; show st ≤ s.next; omega
        · by_cases hb : q.blk = t.blk
          · rw [hb, hc] at k1; cases k1
            refine ⟨c', fr, by rw [hb]; exact hc', by rw [hcs]; exact k2, k3, ?_⟩
            intro k st val hk hs hx
            simp only [setMany_get] at hk
            split at hk
            · cases hl : new[k - o]? with
              | none => rw [hl] at hk; cases hk
              | some x => rw [hl] at hk; simp only [Option.map_some, Option.some.injEq, Prod.mk.injEq] at hk; omega
            · obtain ⟨cv, e1, e2⟩ := k4 k st val hk hs hx
              exact ⟨cv, by rw [hck k (by omega)]; exact e1, e2.mono hle⟩
          · refine ⟨c1, fr1, hold _ _ k1 hb, k2, k3, ?_⟩
            intro k st val hk hs hx
            simp only [setMany_get] at hk
            split at hk
            · cases hl : new[k - o]? with
              | none => rw [hl] at hk; cases hk
              | some x => rw [hl] at hk; simp only [Option.map_some, Option.some.injEq, Prod.mk.injEq] at hk; omega
            · obtain ⟨cv, e1, e2⟩ := k4 k st val hk hs hx
              exact ⟨cv, e1, e2.mono hle⟩
      · have hb : q.blk ≠ t.blk := by
          intro e2
          rcases r.inj u v q t h hv e2 with rfl | ⟨V1, V2, f1, f2, f3⟩
          · rw [hV] at hU; cases hU; exact hroot' rfl
          · rw [hU] at f1; rw [hV] at f2; cases f1; cases f2; exact hroot' f3
        have b1' := b1.mono hle
        obtain ⟨c1', fr1', m1, m2, m3, m4⟩ := b1'.blk
        exact ⟨R1, by simp only [agrow]; rw [T.get_set_other _ _ hroot']; exact hR1, b1'.es, b1'.cur, b1'.own, b1'.ext, b1'.exact, b1'.stamps, c1', fr1', hold _ _ m1 hb, m2, m3, m4⟩
  · intro u q ob h hob
    rcases cases_ u q h with ⟨rfl, rfl⟩ | ⟨e, h⟩
    · exact absurd (r.olt _ _ hob) (Nat.lt_irrefl _)
    · obtain ⟨k1, cc, k2, k3⟩ := r.obj u q ob h hob
      refine ⟨k1, cc, hold _ _ k2 ?_, k3.mono hle⟩
      intro e2; rw [e2, hc] at k2; cases k2; exact k3.notCells
  · intro u1 u2 q1 q2 h1 h2' hb
    have same : ∀ u q, φ u = some q → q.blk = t2.blk → ∃ U, s.views.get u = some U ∧ U.root = V.root := by
      intro u q hu hq
      rcases hfresh with e | e
      · rcases r.inj u v q t hu hv (by rw [hq, e]) with rfl | ⟨V1, V2, f1, f2, f3⟩
        · exact ⟨V, hV, rfl⟩
        · rw [hV] at f2; cases f2; exact ⟨V1, f1, f3⟩
      · have := r.lt hu; omega
    rcases cases_ u1 q1 h1 with ⟨rfl, rfl⟩ | ⟨e1, k1⟩ <;> rcases cases_ u2 q2 h2' with ⟨rfl, rfl⟩ | ⟨e2, k2⟩
    · exact .inl rfl
    · obtain ⟨U, hU, hr⟩ := same u2 q2 k2 hb.symm
      exact .inr ⟨_, U, T.get_set_same _ _ _, by simp only [agrow]; rw [T.get_set_other _ _ e2]; exact hU, hr.symm⟩
    · obtain ⟨U, hU, hr⟩ := same u1 q1 k1 hb
      exact .inr ⟨U, _, by simp only [agrow]; rw [T.get_set_other _ _ e1]; exact hU, T.get_set_same _ _ _, hr⟩
    · rcases r.inj u1 u2 q1 q2 k1 k2 hb with h | ⟨V1, V2, f1, f2, f3⟩
      · exact .inl h
      · exact .inr ⟨V1, V2, by simp only [agrow]; rw [T.get_set_other _ _ e1]; exact f1, by simp only [agrow]; rw [T.get_set_other _ _ e2]; exact f2, f3⟩
  · intro u U hU
    show U.root < s.next + 1 ∧ u < s.next + 1
    by_cases e : u = s.next
    · subst e
      simp only [agrow, T.get_set_same, Option.some.injEq] at hU
      subst hU; exact ⟨by show V.root < s.next + 1; omega, by omega⟩
    · simp only [agrow] at hU
      rw [T.get_set_other _ _ e] at hU
      have := r.vroot u U hU; omega
  · intro u ob hob
    show u < s.next + 1
    have := r.olt u ob hob; omega
  · intro g U hg hU
    have hg' : g < s.ng := hg
    have hn := r.ngle
    have e : g ≠ s.next := by omega
    simp only [agrow] at hU
    rw [T.get_set_other _ _ e] at hU
    obtain ⟨q, f1, f2⟩ := r.glob g U hg' hU
    exact ⟨q, hle _ _ f1, f2⟩
end Go.Proofs.YtcmlomjdkjcjpaaGreatDoor.Vai
