/- A part of an evaluator of the model's code whose answers are proved sound: no statement on the program stands here. -/
import Derived.Test.YtcmlomjdkjcjpaaGreatDoorVaiB4
open Go Go.RowKit
namespace Go.Proofs.YtcmlomjdkjcjpaaGreatDoor.Vai
set_option linter.unusedVariables false
set_option linter.unusedSimpArgs false
/-! ### a run from blocks that are known to blocks that are known -/
def idsLink (s : St) (a o : Nat) (ent : Bool) : List Nat :=
  bif ent then (match s.objs.get a with
    | some (.map es _) => (match es[o]? with
      | some e => idsOfV e.val
      | none => [])
    | _ => [])
  else (match aload s a o with
    | some v => idsOfV v
    | none => [])
def bnd (s : St) (n0 : Nat) : List (Nat × Nat × Bool) → List Nat → List Nat
  | [], kn => kn
  | (a, o, e) :: l, kn => bif Nat.blt a n0 || memB a kn then bnd s n0 l (idsLink s a o e ++ kn) else bnd s n0 l kn
def newOk (s : St) (id : Nat) : Bool := ownedAt s id || (match s.objs.get id with
  | some _ => true
  | none => false)
def runCheck (res : Option (Value × St)) (n0 : Nat) (chk : Value → Bool) (L' : List BSpec) (ids : List Nat) (τ : Nat → Option Nat) (links : List (Nat × Nat × Bool)) : Bool :=
  match res with
  | some (u, s') => chk u && (specOk (renOf ids 0) τ s' L' ids && nodupB ids) && ids.all fun id => Nat.blt id n0 || (memB id (bnd s' n0 links (idsOfV u)) && newOk s' id)
  | none => false
theorem Rel.idsLink {w0 : Base} {φ : Emb} {s : St} {w : World} (r : Rel w0 φ s w) {a o : Nat} {e : Bool} {t : Tgt} (ha : φ a = some t) : ∀ x ∈ idsLink s a o e, ∃ t', φ x = some t' := by
  intro x hx
  unfold Vai.idsLink at hx
  cases e with
  | true =>
    simp only [cond_true] at hx
    split at hx
    · rename_i es clock ho
      split at hx
      · rename_i en he
        obtain ⟨_, c, _, h2⟩ := r.obj a t _ ha ho
        cases h2 with
        | map _ cs _ hE =>
          obtain ⟨_, _, _, h3⟩ := hE.get he
          exact h3.bound x hx
      · cases hx
    · cases hx
  | false =>
    simp only [cond_false] at hx
    split at hx
    · rename_i v hv
      obtain ⟨cv, _, h2⟩ := r.load ha hv
      exact h2.bound x hx
    · cases hx
theorem Rel.bnd {w0 : Base} {φ : Emb} {s : St} {w : World} (r : Rel w0 φ s w) {n0 : Nat} (h0 : ∀ x, x < n0 → ∃ t, φ x = some t) : ∀ (l : List (Nat × Nat × Bool)) (kn : List Nat), (∀ x ∈ kn, ∃ t, φ x = some t) → ∀ x ∈ bnd s n0 l kn, ∃ t, φ x = some t := by
  intro l
  induction l with
  | nil => intro kn h x hx; exact h x hx
  | cons p l ih =>
    obtain ⟨a, o, e⟩ := p
    intro kn h x hx
    simp only [Vai.bnd] at hx
    cases hb : (Nat.blt a n0 || memB a kn) with
    | false => rw [hb] at hx; exact ih kn h x hx
    | true =>
      rw [hb] at hx
      rw [Bool.or_eq_true] at hb
      obtain ⟨t, ht⟩ : ∃ t, φ a = some t := by
        rcases hb with hb | hb
        · exact h0 a (blt_iff.1 hb)
        · exact h a (memB_spec hb)
      refine ih _ (fun y hy => ?_) x hx
      rcases List.mem_append.1 hy with hy | hy
      · exact r.idsLink ht y hy
      · exact h y hy
theorem Rel.newOk {w0 : Base} {φ : Emb} {s : St} {w : World} (r : Rel w0 φ s w) {a : Nat} {t : Tgt} (ha : φ a = some t) (h : newOk s a = true) : ¬ w0.K t.blk := by
  unfold Vai.newOk at h
  rw [Bool.or_eq_true] at h
  rcases h with h | h
  · exact r.ownedAt ha h
  · split at h
    · rename_i o ho
      exact (r.obj a t o ha ho).1
    · cases h
theorem tgts_of {φ : Emb} : ∀ (ids : List Nat), (∀ x ∈ ids, ∃ t, φ x = some t) → ∃ ts : List Tgt, ts.length = ids.length ∧ ∀ (k : Nat) (id : Nat) (t : Tgt), ids[k]? = some id → ts[k]? = some t → φ id = some t := by
  intro ids
  induction ids with
  | nil => intro _; exact ⟨[], rfl, fun k id t h => by simp at h⟩
  | cons a l ih =>
    intro h
    obtain ⟨t, ht⟩ := h a (List.mem_cons_self ..)
    obtain ⟨ts, h1, h2⟩ := ih fun x hx => h x (List.mem_cons_of_mem _ hx)
    refine ⟨t :: ts, by simp [h1], fun k id u hi hu => ?_⟩
    cases k with
    | zero => simp at hi hu; subst hi; subst hu; exact ht
    | succ k => exact h2 k id u (by simpa using hi) (by simpa using hu)

/-- What a run from known blocks leaves. -/
structure Ran (b : Base) (L L' : List BSpec) (ids : List Nat) (ts ts' : List Tgt) (sig' : Nat → Int) (ψ : Emb) (w' : World) : Prop where
  kept : Kept b w'
  len : ts'.length = L'.length
  nodup : (ts'.map (·.blk)).Nodup
  ok : ∀ (k : Nat) (t : Tgt) (sp : BSpec), ts'[k]? = some t → L'[k]? = some sp → sp.ok (Base.free w') (bEmb ts' sig') w' t
  lt : ∀ (k : Nat) (t : Tgt), ts'[k]? = some t → t.blk < w'.heap.size
  at_ : ∀ (k : Nat) (id : Nat) (t : Tgt), ids[k]? = some id → ts'[k]? = some t → ψ id = some t ∧ ((id < L.length ∧ ts[id]? = some t) ∨ (L.length ≤ id ∧ ¬ b.K t.blk))

theorem run_specs {P : Program} {tb : Tb} {kn : Known} (hP : TbOk P tb) (hmix : P.follows .mixedOrders = true) {b : Base} (hkn : KnOk P b kn) {L L' : List BSpec} {orc : List Fact} {f : FuncId} {args cargs : List Value} {ts : List Tgt} {sig sig' : Nat → Int}
    (r : Rel b (bEmb ts sig) (bSt L orc) b.w) (hts : ts.length = L.length) (ha : VRL (bEmb ts sig) args cargs) {chk : Value → Bool} {ids : List Nat} {τ : Nat → Option Nat} {links : List (Nat × Nat × Bool)} {M d : Nat}
    (hc : runCheck (aFunK P tb kn M d (.func f) args (bSt L orc)) L.length chk L' ids τ links = true) (hsig : ∀ i j, τ i = some j → sig' i = sig j) :
    Calls P f cargs.toArray b.w fun e w' => ∃ (ψ : Emb) (u c : Value) (ts' : List Tgt), e = .returned c ∧ chk u = true ∧ VR ψ u c ∧ Ran b L L' ids ts ts' sig' ψ w' ∧ ψ.sig = sig := by
  unfold runCheck at hc
  split at hc
  · rename_i u s' hrun
    rw [Bool.and_eq_true, Bool.and_eq_true] at hc
    obtain ⟨⟨c1, c2⟩, c3⟩ := hc
    refine ((fun_soundK hP hmix hkn M d).fn f _ _ _ _ hrun _ b.w cargs r ha).2.mono ?_
    rintro e w' ⟨ψ, c, rfl, hext, hn, r', hvr⟩
    have hold : ∀ i, i < L.length → ψ i = ts[i]? := fun i hi => hext i hi
    have h0 : ∀ x, x < L.length → ∃ t, ψ x = some t := fun x hx => ⟨ts[x]'(by omega), by rw [hold x hx]; exact List.getElem?_eq_getElem _⟩
    have hb := r'.bnd h0 links (idsOfV u) (fun x hx => hvr.bound x hx)
    have hids : ∀ x ∈ ids, (x < L.length ∨ Vai.newOk s' x = true) ∧ ∃ t, ψ x = some t := by
      intro x hx
      have := List.all_eq_true.1 c3 x hx
      rw [Bool.or_eq_true, Bool.and_eq_true] at this
      rcases this with h | ⟨h1, h2⟩
      · exact ⟨.inl (blt_iff.1 h), h0 x (blt_iff.1 h)⟩
      · exact ⟨.inr h2, hb x (memB_spec h1)⟩
    obtain ⟨ts', e1, e2⟩ := tgts_of ids fun x hx => (hids x hx).2
    rw [Bool.and_eq_true] at c2
    have hlen : ts'.length = L'.length := by rw [e1, (specOk_at _ _ c2.1).1]
    obtain ⟨q1, q2⟩ := r'.respec (ts := ts') (sig := sig') (by rw [Bool.and_eq_true]; exact c2) hlen e2 (fun i j hij => by rw [hext.sig]; exact hsig i j hij)
    refine ⟨ψ, u, c, ts', rfl, c1, hvr, ⟨r'.bel, hlen, q1, q2, ?_, ?_⟩, hext.sig⟩
    · intro k t ht
      have hk := (List.getElem?_eq_some_iff.1 ht).1
      exact r'.lt (e2 k (ids[k]'(by omega)) t (List.getElem?_eq_getElem _) ht)
    · intro k id t hid ht
      have hψ := e2 k id t hid ht
      refine ⟨hψ, ?_⟩
      by_cases hlt : id < L.length
      · exact .inl ⟨hlt, by rw [← hold id hlt]; exact hψ⟩
      · refine .inr ⟨by omega, ?_⟩
        rcases (hids id (List.mem_of_getElem? hid)).1 with h | h
        · exact absurd h hlt
        · exact r'.newOk hψ h
  · cases hc
end Go.Proofs.YtcmlomjdkjcjpaaGreatDoor.Vai
