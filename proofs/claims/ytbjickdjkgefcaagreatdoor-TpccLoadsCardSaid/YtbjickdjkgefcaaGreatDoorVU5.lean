/- A part of an evaluator of the model's code whose answers are proved sound: no statement on the program stands here. -/
import Derived.Test.YtbjickdjkgefcaaGreatDoorVV
import Derived.RangeFuncRecord
section
open Go Go.RowKit
noncomputable section
namespace Go.Proofs.YtbjickdjkgefcaaGreatDoor.Vai
set_option linter.unusedVariables false
set_option linter.unusedSimpArgs false

theorem effs_mem {e : Nat} : ∀ (rs : List RRec) (i : Nat), e ∈ effs i rs ↔ ∃ (k : Nat) (x : RRec), rs[k]? = some x ∧ x.r.isE = true ∧ e = i + k := by
  intro rs
  induction rs with
  | nil => intro i; simp [effs]
  | cons y l ih =>
    intro i
    have tail : e ∈ effs (i + 1) l ↔ ∃ (k : Nat) (x : RRec), (y :: l)[k + 1]? = some x ∧ x.r.isE = true ∧ e = i + (k + 1) := by
      rw [ih]
      constructor
      · intro ⟨k, x, h1, h2, h3⟩; exact ⟨k, x, by simpa using h1, h2, by omega⟩
      · intro ⟨k, x, h1, h2, h3⟩; exact ⟨k, x, by simpa using h1, h2, by omega⟩
    simp only [effs]
    cases hb : y.r.isE with
    | true =>
      simp only [cond_true, List.mem_cons]
      rw [tail]
      constructor
      · intro h
        rcases h with h | ⟨k, x, h1, h2, h3⟩
        · exact ⟨0, y, rfl, hb, by omega⟩
        · exact ⟨k + 1, x, h1, h2, h3⟩
      · intro ⟨k, x, h1, h2, h3⟩
        cases k with
        | zero => exact .inl (by omega)
        | succ k => exact .inr ⟨k, x, h1, h2, h3⟩
    | false =>
      simp only [cond_false]
      rw [tail]
      constructor
      · intro ⟨k, x, h1, h2, h3⟩; exact ⟨k + 1, x, h1, h2, h3⟩
      · intro ⟨k, x, h1, h2, h3⟩
        cases k with
        | zero => simp at h1; subst h1; rw [hb] at h2; cases h2
        | succ k => exact ⟨k, x, h1, h2, h3⟩

theorem stages_mem {n : Nat} {se : St} : ∀ (rs : List RRec) (i : Nat), (n, se) ∈ stages n se i rs ∧ ∀ (k : Nat) (x : RRec), rs[k]? = some x → x.r.isE = true → (i + k, x.s) ∈ stages n se i rs := by
  intro rs
  induction rs with
  | nil => intro i; exact ⟨by simp [stages], fun k x h => by simp at h⟩
  | cons y l ih =>
    intro i
    obtain ⟨h1, h2⟩ := ih (i + 1)
    simp only [stages]
    cases hb : y.r.isE with
    | true =>
      simp only [cond_true]
      refine ⟨List.mem_cons_of_mem _ h1, fun k x hk hx => ?_⟩
      cases k with
      | zero => simp at hk; subst hk; exact List.mem_cons_self ..
      | succ k =>
        have := h2 k x (by simpa using hk) hx
        rw [show i + 1 + k = i + (k + 1) by omega] at this
        exact List.mem_cons_of_mem _ this
    | false =>
      simp only [cond_false]
      refine ⟨h1, fun k x hk hx => ?_⟩
      cases k with
      | zero => simp at hk; subst hk; rw [hb] at hx; cases hx
      | succ k =>
        have := h2 k x (by simpa using hk) hx
        rw [show i + 1 + k = i + (k + 1) by omega] at this
        exact this

theorem okAll_spec {P : Program} {tb : Tb} {M : T Nat} {E : List Nat} {stg : List (Nat × St)} : ∀ (rs : List RRec) (i : Nat), okAll P tb M E stg i rs = true → ∀ (k : Nat) (x : RRec), rs[k]? = some x → okOne P tb M E stg (i + k) x = true := by
  intro rs
  induction rs with
  | nil => intro i _ k x h; simp at h
  | cons y l ih =>
    intro i h k x hk
    simp only [okAll, Bool.and_eq_true] at h
    cases k with
    | zero => simp at hk; subst hk; exact h.1
    | succ k =>
      have := ih (i + 1) h.2 k x (by simpa using hk)
      rw [show i + 1 + k = i + (k + 1) by omega] at this
      exact this

section
variable {P : Program} {tb : Tb} {call : ACall} {w0 : Base} {ops : Array Oper} {m : Pre} {rs : List RRec} {F : Nat → Fr} {S : Nat → St} {V : Nat → SRes}

theorem ble_iff {a b : Nat} : Nat.ble a b = true ↔ a ≤ b := by rw [Nat.ble_eq]

theorem looks_of (c : Canon P tb call ops m rs F S V) (hlen : rs.length = ops.size) (h1 : okE (masks ops.toList 0 .nil) (effs 0 rs) = true)
    (h2 : okAll P tb (masks ops.toList 0 .nil) (effs 0 rs) (stages ops.size (S ops.size) 0 rs) 0 rs = true) : Looks P tb ops F S V := by
  have hrec : ∀ i, i < ops.size → rs[i]? = some ⟨ops[i]!, F i, S i, V i⟩ := by
    intro i hi
    have ho : ops[i]? = some ops[i]! := by
      rw [Array.getElem?_eq_getElem hi, getElem!_pos ops i hi]
    exact c.recd i _ ho
  have hmem : ∀ e, e < ops.size → (V e).isE = true → e ∈ effs 0 rs := fun e he hv => (effs_mem rs 0).2 ⟨e, _, hrec e he, hv, by omega⟩
  have hone : ∀ i, (hi : i < ops.size) → okOne P tb (masks ops.toList 0 .nil) (effs 0 rs) (stages ops.size (S ops.size) 0 rs) i ⟨ops[i]!, F i, S i, V i⟩ = true := by
    intro i hi
    have := okAll_spec rs 0 h2 i _ (hrec i hi)
    rwa [Nat.zero_add] at this
  have hstage : ∀ q, (q = ops.size ∨ (q < ops.size ∧ (V q).isE = true)) → (q, S q) ∈ stages ops.size (S ops.size) 0 rs := by
    intro q hq
    rcases hq with rfl | ⟨hq, hv⟩
    · exact (stages_mem rs 0).1
    · have := (stages_mem (n := ops.size) (se := S ops.size) rs 0).2 q _ (hrec q hq) hv
      rwa [Nat.zero_add] at this
  have hallow : ∀ i q, (∀ e, e < ops.size → (V e).isE = true → (Bef ops.toList e i → e < q) ∧ (Bef ops.toList i e → q ≤ e)) → Go.Proofs.YtbjickdjkgefcaaGreatDoor.Vai.allowed (masks ops.toList 0 .nil) (effs 0 rs) i q = true := by
    intro i q hall
    unfold Go.Proofs.YtbjickdjkgefcaaGreatDoor.Vai.allowed
    rw [List.all_eq_true]
    intro e he
    obtain ⟨k, x, k1, k2, k3⟩ := (effs_mem rs 0).1 he
    have hk : k < ops.size := by rw [← hlen]; exact (List.getElem?_eq_some_iff.1 k1).1
    rw [hrec k hk] at k1
    cases k1
    have he' : e = k := by omega
    subst he'
    obtain ⟨a1, a2⟩ := hall e hk k2
    rw [Bool.and_eq_true]
    refine ⟨?_, ?_⟩
    · cases hb : isBef (masks ops.toList 0 .nil) e i with
      | false => rfl
      | true => simpa using blt_iff.2 (a1 (isBef_spec _ hb))
    · cases hb : isBef (masks ops.toList 0 .nil) i e with
      | false => rfl
      | true => simpa using ble_iff.2 (a2 (isBef_spec _ hb))
  refine ⟨?_, ?_, ?_, ?_, ?_⟩
  · intro e f he hf hve hvf hlt
    unfold okE at h1
    have h3 := List.all_eq_true.1 (List.all_eq_true.1 h1 e (hmem e he hve)) f (hmem f hf hvf)
    rw [blt_iff.2 hlt] at h3
    exact isBef_spec _ (by simpa using h3)
  · intro i e hi he hn hv
    have h3 := hone i hi
    unfold okOne at h3
    rw [Bool.and_eq_true] at h3
    have h4 := h3.1
    simp only [hn, cond_true] at h4
    have h5 := List.all_eq_true.1 h4 e (hmem e he hv)
    rw [Bool.or_eq_true] at h5
    exact h5.imp (isBef_spec _) (isBef_spec _)
  · intro i hi hv
    have h3 := hone i hi
    unfold okOne at h3
    rw [Bool.and_eq_true] at h3
    have h4 := h3.2
    have hst := c.st i _ (Array.getElem?_eq_getElem hi)
    cases hV : V i with
    | un => rw [hV] at hv; cases hv
    | q o => rw [hV] at hv; cases hv
    | p => rw [hV] at hv; cases hv
    | e v s' =>
      rw [hV] at h4 hst
      rw [hst]
      exact ble_iff.1 h4
  · intro i o out q ho hV hq hall
    have hi : i < ops.size := (Array.getElem?_eq_some_iff.1 ho).1
    have hoi : ops[i]! = o := by
      rw [Array.getElem?_eq_getElem hi] at ho
      rw [getElem!_pos ops i hi]; exact Option.some.inj ho
    have h3 := hone i hi
    unfold okOne at h3
    rw [Bool.and_eq_true] at h3
    have h4 := h3.2
    simp only [hV] at h4
    rw [hoi] at h4
    rw [aq_narrow]
    rw [Bool.or_eq_true] at h4
    rcases h4 with h4 | h4
    · rw [sfree_sound (s' := S i) h4]
      have hreal := c.real ho (by rw [hV]; intro _ _ x; cases x)
      rw [aStep_narrow, hV] at hreal
      exact aStep_qval hreal
    have hst := hstage q hq
    have h5 := List.all_eq_true.1 h4 _ hst
    simp only at h5
    have ha := hallow i q hall
    rw [ha] at h5
    simp only [cond_true] at h5
    split at h5
    · rename_i out' hout
      rw [hout, qeq_sound h5]
    · cases h5
  · intro i o id out ho hV
    have hi : i < ops.size := (Array.getElem?_eq_some_iff.1 ho).1
    have hoi : ops[i]! = o := by
      rw [Array.getElem?_eq_getElem hi] at ho
      rw [getElem!_pos ops i hi]; exact Option.some.inj ho
    have h3 := hone i hi
    unfold okOne at h3
    rw [Bool.and_eq_true] at h3
    have h4 := h3.2
    simp only [hV] at h4
    rw [hoi, Bool.and_eq_true] at h4
    obtain ⟨h4, h6⟩ := h4
    refine ⟨(by split at h4 <;> first | assumption | (cases h4)), fun q hq hall => ?_⟩
    have h5 := List.all_eq_true.1 h6 _ (hstage q hq)
    simp only at h5
    rw [hallow i q hall] at h5
    simp only [cond_true, Bool.and_eq_true] at h5
    refine ⟨h5.1, ?_⟩
    rw [aq_narrow]
    have h7 := h5.2
    split at h7
    · rename_i out' hout
      rw [hout, qeq_sound h7]
    · cases h7

theorem reserve_spec {P : Program} {tb : Tb} {M : T Nat} {ops : Array Oper} {lo : Nat} : ∀ (l : List Oper) (i sk : Nat) (fr : Fr) (s : St) (m : Pre), Wf s → PreOk m lo s.next → (∀ j x, m.get j = some x → j < i) →
    Qext s (reserve P tb M ops l i sk fr s m).1 ∧ PreOk (reserve P tb M ops l i sk fr s m).2 lo (reserve P tb M ops l i sk fr s m).1.next := by
  intro l
  induction l with
  | nil => intro i sk fr s m wf hm _; exact ⟨Qext.refl wf, hm⟩
  | cons o l ih =>
    intro i sk fr s m wf hm hk
    have one : ∀ (sk' : Nat) (fr' : Fr) (s' : St) (out : QOut), Qext s s' → s'.next = s.next + 1 → Qext s (reserve P tb M ops l (i + 1) sk' fr' s' (m.set i (s.next, out))).1 ∧ PreOk (reserve P tb M ops l (i + 1) sk' fr' s' (m.set i (s.next, out))).2 lo (reserve P tb M ops l (i + 1) sk' fr' s' (m.set i (s.next, out))).1.next := by
      intro sk' fr' s' out hx hn
      have h1 : PreOk (m.set i (s.next, out)) lo s'.next := by
        have hl := hm.le
        refine ⟨by omega, ?_, ?_⟩
        · intro j id out' hj
          by_cases e : j = i
          · subst e; rw [T.get_set_same] at hj; cases hj; omega
          · rw [T.get_set_other _ _ e] at hj; have := hm.bound j id out' hj; omega
        · intro j k id out1 out2 hj hk'
          by_cases e : j = i
          · subst e
            rw [T.get_set_same] at hj; cases hj
            by_cases e2 : k = j
            · exact e2.symm
            · rw [T.get_set_other _ _ e2] at hk'; have := hm.bound k _ out2 hk'; omega
          · rw [T.get_set_other _ _ e] at hj
            by_cases e2 : k = i
            · subst e2
              rw [T.get_set_same] at hk'; cases hk'
              have := hm.bound j _ out1 hj; omega
            · rw [T.get_set_other _ _ e2] at hk'
              exact hm.inj j k id out1 out2 hj hk'
      obtain ⟨g1, g2⟩ := ih (i + 1) sk' fr' s' _ (hx.wf wf) h1 (fun j x hj => by
        by_cases e : j = i
        · omega
        · rw [T.get_set_other _ _ e] at hj; have := hk j x hj; omega)
      exact ⟨hx.trans g1, g2⟩
    have none_ : ∀ sk' fr', Qext s (reserve P tb M ops l (i + 1) sk' fr' s m).1 ∧ PreOk (reserve P tb M ops l (i + 1) sk' fr' s m).2 lo (reserve P tb M ops l (i + 1) sk' fr' s m).1.next := fun sk' fr' => ih (i + 1) sk' fr' s m wf hm (fun j x hj => by have := hk j x hj; omega)
    have stop : Qext s (s, m).1 ∧ PreOk (s, m).2 lo (s, m).1.next := ⟨Qext.refl wf, hm⟩
    simp only [reserve]
    generalize Nat.beq (Nat.land sk (match M.get i with | some x => x | none => 0)) 0 = t
    cases t with
    | false => exact none_ _ _
    | true =>
      simp only [cond_true]
      split
      · split
        · split
          · exact none_ _ _
          · exact stop
        · split
          · exact one _ _ _ _ (Qext.alloc wf _ _ _) rfl
          · exact none_ _ _
        · split
          · exact one _ _ _ _ (Qext.obj wf _) rfl
          · exact none_ _ _
        · exact none_ _ _
      · split
        · exact none_ _ _
        · exact stop
      · exact none_ _ _

theorem reserved_spec {P : Program} {tb : Tb} {ops : Array Oper} {fr : Fr} {s : St} (wf : Wf s) : Qext s (reserved P tb ops fr s).1 ∧ PreOk (reserved P tb ops fr s).2 s.next (reserved P tb ops fr s).1.next := by
  have h0 : PreOk .nil s.next s.next := ⟨Nat.le_refl _, fun i id out h => by (rw [T.get_nil] at h; cases h), fun i j id o1 o2 h => by (rw [T.get_nil] at h; cases h)⟩
  unfold reserved
  cases mixed ops with
  | false => exact ⟨Qext.refl wf, h0⟩
  | true => exact reserve_spec ops.toList 0 0 fr s .nil wf h0 (fun j x h => by (rw [T.get_nil] at h; cases h))

theorem any_sound (hP : TbOk P tb) (hmix : P.follows .mixedOrders = true) (hC : CallOk P w0 call) {ops : Array Oper} {fr fr' : Fr} {s s' : St} {φ : Emb} {a : Act} {w : World} (h : aAny P tb call ops fr s = some (fr', s')) (r : Rel w0 φ s w) (f : FR φ fr a) {id : Nat}
    (b : Frame) (k : List Item) (cs : List Frame) : ∃ ψ a' w', Steps P (lone (fat b a (.code (.region id ops true) :: k)) cs w) (lone (fat b a' k) cs w') ∧ Ext s φ ψ ∧ s.next ≤ s'.next ∧ Rel w0 ψ s' w' ∧ FR ψ fr' a' ∧ a'.defers = a.defers := by
  unfold aAny at h
  obtain ⟨hqx, hM⟩ := reserved_spec (P := P) (tb := tb) (ops := ops) (fr := fr) (s := s) r.wf
  generalize hres : reserved P tb ops fr s = res at h hqx hM
  obtain ⟨s1, m⟩ := res
  simp only at h hqx hM
  split at h
  · cases h
  · rename_i rs fe se hrs
    cases hb : (regOk ops && okE (masks ops.toList 0 .nil) (effs 0 rs) && okAll P tb (masks ops.toList 0 .nil) (effs 0 rs) (stages ops.size se 0 rs) 0 rs) with
    | false => rw [hb] at h; cases h
    | true =>
      rw [hb] at h
      simp only [cond_true, Option.some.injEq, Prod.mk.injEq] at h
      obtain ⟨rfl, rfl⟩ := h
      rw [Bool.and_eq_true, Bool.and_eq_true] at hb
      obtain ⟨⟨b1, b2⟩, b3⟩ := hb
      obtain ⟨F, S, V, f0, s0, fn, sn, hlen, hall⟩ := aRecs_spec _ _ _ _ _ _ _ hrs
      rw [Array.length_toList] at fn sn hlen
      have c : Canon P tb call ops m rs F S V := by
        have hall' : ∀ (i : Nat) (o : Oper), ops[i]? = some o → _ := fun i o ho => hall i o (by rw [Array.getElem?_toList]; exact ho)
        exact ⟨fun i o ho => (hall' i o ho).1, fun i o ho => by have := (hall' i o ho).2.1; rwa [Nat.zero_add] at this, fun i o ho => (hall' i o ho).2.2.1, fun i o ho => (hall' i o ho).2.2.2⟩
      have R := regOk_spec b1
      rw [← sn] at b3
      have L := looks_of c hlen b2 b3
      have r' : Rel w0 φ (S 0) { w with drawn := w.drawn + 1 } := by rw [s0]; exact r.drew.qext hqx
      have hM' : PreOk m s.next (S 0).next := by rw [s0]; exact hM
      obtain ⟨q0, g1, g2, g3, g4⟩ := next_effect V ops.size ops.size 0 (by omega)
      have hx := c.quiet g1 g2 g3 r'.wf
      have off : ∀ i, ¬ isOn (Array.replicate ops.size false) i := by
        intro i hi
        rw [isOn, Array.getElem?_replicate] at hi
        split at hi <;> cases hi
      have I : Inv w0 s ops F S V φ a.defers (isOn (Array.replicate ops.size false)) q0 0 φ { w with drawn := w.drawn + 1 } a := by
        refine ⟨fun i hi => absurd hi (off i), fun j o hj => absurd hj (off j), g1, g2, g3, g4, .inl rfl, ?_, r'.qext hx, r'.wf, ?_, ?_, by rw [f0]; exact f.size, fun j o t hj => absurd hj (off j), ?_, Ext.refl _ _, rfl⟩
        · intro e he1 he2
          refine ⟨fun h => absurd h (off e), fun h => ?_⟩
          have := g3 e (Nat.zero_le _) h
          rw [he2] at this; cases this
        · intro i h1 h2 _ _
          cases hφ : φ (S i).next with
          | none => rfl
          | some t =>
            have := r'.fresh _ t hφ
            have := c.mono L (i := 0) (j := i) (Nat.zero_le _) (by omega)
            omega
        · intro i id out h1 _ h3
          cases hφ : φ id with
          | none => rfl
          | some t =>
            have := r.fresh _ t hφ
            have := hM'.bound i id out (c.pre (Array.getElem?_eq_getElem h1) h3)
            omega
        · intro t v _ ht
          rw [f0] at ht
          exact f.at_ t v ht
      have hfirst := fstep_region_draw (P := P) (b := b) (a := a) (k := k) (cs := cs) (w := w) (ops := ops) (id := id)
      simp only [Region.schedule, hmix, Bool.true_or, if_true, Region.linearise] at hfirst
      obtain ⟨q', p', φ', w', a', e1, I'⟩ := any_loop hP hC c L R hM' b k cs ops.size (w.tape w.drawn (.order b.fn id)) (Array.replicate ops.size false) q0 0 φ _ a (by simp) (by
        unfold left
        have := List.countP_le_length (p := fun i => !(Array.replicate ops.size false).getD i true) (l := List.range ops.size)
        simpa using this) I
      have hq : q' = ops.size := by
        rcases I'.qE' with h | ⟨h, hv⟩
        · exact h
        · have := (I'.eff q' h hv).1 h; omega
      refine ⟨φ', a', w', .head hfirst (e1.trans (.one fstep_region_end)), I'.ext, ?_, ?_, ?_, I'.defers⟩
      · rw [← sn]; exact Nat.le_trans hM'.le (c.mono L (Nat.zero_le _) (Nat.le_refl _))
      · rw [← sn, ← hq]; exact I'.rel
      · rw [← fn]
        obtain ⟨n1, n2⟩ := c.get ops.size (Nat.le_refl _)
        refine ⟨I'.size.trans n1.symm, fun t v ht => ?_⟩
        rcases n2 t v ht with ⟨j, o, h1, h2, h3, rfl⟩ | ⟨h1, h2⟩
        · exact I'.done j o t h1 h2 h3
        · exact I'.old t v (fun j o hj => h1 j o hj) h2
end
end Go.Proofs.YtbjickdjkgefcaaGreatDoor.Vai
end
end
section
open Go Go.RowKit
noncomputable section
namespace Go.Proofs.YtbjickdjkgefcaaGreatDoor.Vai
set_option linter.unusedVariables false
set_option linter.unusedSimpArgs false

/-- Where a piece of code ends. -/
def Land : Ex → List Item → List Item → Prop
  | .norm, k, td => td = k
  | .exit id, k, td => ∃ m, td = .code (.exit id) :: m ∧ exitTo id m = exitTo id k
  | .ret, _, td => ∃ m, td = .code .ret :: m

inductive Start : Code → List Item → List Item → Prop where
  | code (c : Code) (k : List Item) : Start c k (.code c :: k)
  | loop (body : Code) (k : List Item) : Start (.loop body) k (.inLoop body :: k)

/-- The marks among a frame's deferred calls. -/
inductive DR (φ : Emb) : List Nat → List Deferred → Prop where
  | nil : DR φ [] []
  | cons (d : Nat) (t : Tgt) (l : List Nat) (m : List Deferred) (h : φ d = some t) (hl : DR φ l m) : DR φ (d :: l) ({ target := .collected t.blk, args := #[] } :: m)

theorem DR.mono {φ ψ : Emb} (h : φ.le ψ) {l : List Nat} {m : List Deferred} (r : DR φ l m) : DR ψ l m := by
  induction r with
  | nil => exact .nil
  | cons d t l m e _ ih => exact .cons d t l m (h _ _ e) ih

section
variable {P : Program} {tb : Tb} {call : ACall} {w0 : Base}

theorem fstep_block' {b : Frame} {a : Act} {k : List Item} {cs : List Frame} {w : World} {td : List Item} {body : Code} (h : Start (.loop body) k td) :
    step P (lone (fat b a td) cs w) = .next (lone (fat b a (.code body :: .inLoop body :: k)) cs w) := by
  cases h with
  | code => exact fstep_loop
  | loop => exact fstep_inLoop

theorem aended_sound {s s' : St} {l : Nat} {pend : Option Code} (h : aended s l = some (pend, s')) {φ : Emb} {w : World} (r : Rel w0 φ s w) {t : Tgt} (ht : φ l = some t) :
    ∃ w', (Instr.endLoop t.blk).run P w = .ok pend w' ∧ Rel w0 φ s' w' ∧ s'.next = s.next := by
  unfold aended at h
  split at h
  · cases h
  · rename_i st pend' tm n ps as bd D hne hl
    cases h
    obtain ⟨c, h1, h2⟩ := r.getObj ht hl
    cases h2 with
    | loop _ _ _ _ _ _ _ _ td fn tmps psA hd hs hps e =>
      refine ⟨_, run_endLoop h1 hne, r.setObj ht hl (.loop _ _ _ _ _ _ _ _ td fn tmps psA hd hs hps e), rfl⟩
  · cases h

theorem aloop_sound {s : St} {fr : Fr} {φ : Emb} {a : Act} {w : World} (r : Rel w0 φ s w) (f : FR φ fr a) (fn : FuncId) (ps : Array Tmp) (assign body : Code) :
    ∃ ψ w' t1 t2, (Instr.enterLoop fn a.tmps ps assign body none).run P w = .ok (t2.blk, [{ target := .collected t1.blk, args := #[] }]) w' ∧ Ext s φ ψ ∧ s.next ≤ (aloop fr s ps assign body).next ∧
      Rel w0 ψ (aloop fr s ps assign body) w' ∧ ψ s.next = some t1 ∧ ψ (s.next + 1) = some t2 := by
  have r1 := r.newObj (o := .defs) .defs
  have e1 : φ.le (φ.with s.next ⟨w.heap.size, 0, 0⟩) := Ext.le (Ext.with (w0 := w0) _) r
  have r2 := r1.newObj (o := .loop .ready none fr.tm fr.n ps.toList assign body s.next) (.loop .ready none fr.tm fr.n ps.toList assign body s.next ⟨w.heap.size, 0, 0⟩ fn a.tmps ps (Emb.with_same _ _ _) f.size rfl
    (fun i v hv => let ⟨c, g1, g2⟩ := f.at_ i v hv; ⟨c, g1, g2.mono e1⟩))
  have hx : Ext s φ ((φ.with s.next ⟨w.heap.size, 0, 0⟩).with (s.next + 1) ⟨(w.alloc (.deferred (some []))).heap.size, 0, 0⟩) := by
    refine ⟨?_, rfl⟩
    intro v hv
    rw [Emb.with_other _ _ (by omega), Emb.with_other _ _ (by omega)]
  refine ⟨_, _, ⟨w.heap.size, 0, 0⟩, ⟨(w.alloc (.deferred (some []))).heap.size, 0, 0⟩, ?_, hx, ?_, r2, ?_, Emb.with_same _ _ _⟩
  · rw [run_enterLoop_outer]
    simp
  · show s.next ≤ s.next + 1 + 1; omega
  · show ((φ.with s.next ⟨w.heap.size, 0, 0⟩).with (s.next + 1) ⟨(w.alloc (.deferred (some []))).heap.size, 0, 0⟩) s.next = _
    rw [Emb.with_other _ _ (by omega)]
    exact Emb.with_same _ _ _

theorem exec_sound (hP : TbOk P tb) (hmix : P.follows .mixedOrders = true) (hC : CallOk P w0 call) (rd : Bool) : ∀ (n : Nat) (c : Code) (fr fr' : Fr) (ds ds' : List Nat) (s s' : St) (ex : Ex), aExec P tb call rd n c fr ds s = some (ex, fr', ds', s') →
    ∀ (φ : Emb) (a : Act) (w : World), Rel w0 φ s w → FR φ fr a → DR φ ds a.defers → ∀ (b : Frame) (k : List Item) (cs : List Frame) (td : List Item), (rd = false → b.roundOf = none) → Start c k td →
      ∃ ψ a' w' td', Steps P (lone (fat b a td) cs w) (lone (fat b a' td') cs w') ∧ Land ex k td' ∧ Ext s φ ψ ∧ s.next ≤ s'.next ∧ Rel w0 ψ s' w' ∧ FR ψ fr' a' ∧ DR ψ ds' a'.defers := by
  intro n
  induction n with
  | zero => intro c fr fr' ds ds' s s' ex h; cases h
  | succ n ih =>
    intro c fr fr' ds ds' s s' ex h φ a w r f dr b k cs td hb st
    unfold aExec at h
    split at h
    · cases h; cases st
      exact ⟨φ, a, w, k, .one fstep_skip, rfl, Ext.refl _ _, Nat.le_refl _, r, f, dr⟩
    · cases h; cases st
      exact ⟨φ, a, w, k, .one fstep_label, rfl, Ext.refl _ _, Nat.le_refl _, r, f, dr⟩
    · cases h; cases st
      exact ⟨φ, a, w, _, .refl _ _, ⟨k, rfl⟩, Ext.refl _ _, Nat.le_refl _, r, f, dr⟩
    · cases h; cases st
      exact ⟨φ, a, w, _, .refl _ _, ⟨k, rfl, rfl⟩, Ext.refl _ _, Nat.le_refl _, r, f, dr⟩
    · rename_i id ops draw
      cases st
      split at h
      · rename_i fr1 s1 hr
        simp only [Option.some.injEq, Prod.mk.injEq] at h
        obtain ⟨rfl, rfl, rfl, rfl⟩ := h
        cases draw with
        | true =>
          simp only [cond_true] at hr
          obtain ⟨ψ, a', w', e1, e2, e3, e4, e5, e6⟩ := any_sound hP hmix hC hr r f (id := id) b k cs
          exact ⟨ψ, a', w', k, e1, rfl, e2, e3, e4, e5, by rw [e6]; exact dr.mono (e2.le r)⟩
        | false =>
          simp only [cond_false] at hr
          obtain ⟨ψ, a', w', e1, e2, e3, e4, e5, e6⟩ := ops_sound hP hC (ops := ops) ops.toList 0 fr fr1 s s1 φ a w (fun j o hj => by rw [Nat.zero_add, ← Array.getElem?_toList]; exact hj) hr r f b k cs
          refine ⟨ψ, a', w', k, .head fstep_region ?_, rfl, e2, e3, e4, e5, by rw [e6]; exact dr.mono (e2.le r)⟩
          have : (List.range ops.toList.length).map (0 + ·) = List.range ops.size := by
            rw [Array.length_toList]
            have : ((fun x : Nat => 0 + x)) = _root_.id := funext fun x => Nat.zero_add x
            rw [this, List.map_id]
          rw [this] at e1
          exact e1
      · cases h
    · rename_i x y
      cases st
      split at h
      · rename_i fr1 ds1 s1 hx
        obtain ⟨ψ, a1, w1, td1, e1, e2, e3, e4, e5, e6, e7⟩ := ih x fr fr1 ds ds1 s s1 .norm hx φ a w r f dr b (.code y :: k) cs _ hb (.code x _)
        have e2' : td1 = .code y :: k := e2
        subst e2'
        obtain ⟨ψ2, a2, w2, td2, g1, g2, g3, g4, g5, g6, g7⟩ := ih y fr1 fr' ds1 ds' s1 s' ex h ψ a1 w1 e5 e6 e7 b k cs _ hb (.code y k)
        exact ⟨ψ2, a2, w2, td2, .head fstep_seq (e1.trans g1), g2, e3.trans e4 g3, Nat.le_trans e4 g4, g5, g6, g7⟩
      · rename_i hne
        obtain ⟨ψ, a1, w1, td1, e1, e2, e3, e4, e5, e6, e7⟩ := ih x fr fr' ds ds' s s' ex h φ a w r f dr b (.code y :: k) cs _ hb (.code x _)
        refine ⟨ψ, a1, w1, td1, .head fstep_seq e1, ?_, e3, e4, e5, e6, e7⟩
        cases ex with
        | norm => exact absurd h (hne _ _ _)
        | exit id => obtain ⟨m, m1, m2⟩ := e2; exact ⟨m, m1, m2⟩
        | ret => exact e2
    · rename_i c x y
      cases st
      split at h
      · rename_i t ht
        obtain ⟨cv, h1, h2⟩ : ∃ cv, a.eval c = cv ∧ VR φ (.bool t) cv := ⟨_, rfl, f.rho r c _ ht⟩
        cases h2
        obtain ⟨ψ, a1, w1, td1, e1, e2, e3, e4, e5, e6, e7⟩ := ih (bif t then x else y) fr fr' ds ds' s s' ex h φ a w r f dr b k cs _ hb (.code _ k)
        refine ⟨ψ, a1, w1, td1, .head (fstep_cond h1) ?_, e2, e3, e4, e5, e6, e7⟩
        cases t <;> exact e1
      · cases h
    · rename_i id body
      cases st
      split at h
      · rename_i j fr1 ds1 s1 hb'
        obtain ⟨ψ, a1, w1, td1, e1, e2, e3, e4, e5, e6, e7⟩ := ih body fr fr1 ds ds1 s s1 (.exit j) hb' φ a w r f dr b (.inBlock id :: k) cs _ hb (.code body _)
        obtain ⟨m, m1, m2⟩ := e2
        cases hj : Nat.beq j id with
        | true =>
          rw [hj] at h
          simp only [cond_true, Option.some.injEq, Prod.mk.injEq] at h
          obtain ⟨rfl, rfl, rfl, rfl⟩ := h
          have hji : j = id := Nat.eq_of_beq_eq_true hj
          subst hji
          subst m1
          have : exitTo j m = some k := by rw [m2]; simp [exitTo]
          exact ⟨ψ, a1, w1, k, .head fstep_block (e1.trans (.one (fstep_exit this))), rfl, e3, e4, e5, e6, e7⟩
        | false =>
          rw [hj] at h
          simp only [cond_false, Option.some.injEq, Prod.mk.injEq] at h
          obtain ⟨rfl, rfl, rfl, rfl⟩ := h
          refine ⟨ψ, a1, w1, td1, .head fstep_block e1, ⟨m, m1, ?_⟩, e3, e4, e5, e6, e7⟩
          rw [m2]
          have hne : ¬ id = j := fun e => by subst e; simp at hj
          simp [exitTo, hne]
      · rename_i hne
        obtain ⟨ψ, a1, w1, td1, e1, e2, e3, e4, e5, e6, e7⟩ := ih body fr fr' ds ds' s s' ex h φ a w r f dr b (.inBlock id :: k) cs _ hb (.code body _)
        cases ex with
        | exit j => exact absurd h (hne _ _ _ _)
        | ret => exact ⟨ψ, a1, w1, td1, .head fstep_block e1, e2, e3, e4, e5, e6, e7⟩
        | norm =>
          have e2' : td1 = .inBlock id :: k := e2
          subst e2'
          exact ⟨ψ, a1, w1, k, .head fstep_block (e1.trans (.one fstep_inBlock)), rfl, e3, e4, e5, e6, e7⟩
    · rename_i body
      split at h
      · rename_i fr1 ds1 s1 hb'
        obtain ⟨ψ, a1, w1, td1, e1, e2, e3, e4, e5, e6, e7⟩ := ih body fr fr1 ds ds1 s s1 .norm hb' φ a w r f dr b (.inLoop body :: k) cs _ hb (.code body _)
        have e2' : td1 = .inLoop body :: k := e2
        subst e2'
        obtain ⟨ψ2, a2, w2, td2, g1, g2, g3, g4, g5, g6, g7⟩ := ih (.loop body) fr1 fr' ds1 ds' s1 s' ex h ψ a1 w1 e5 e6 e7 b k cs _ hb (.loop body k)
        exact ⟨ψ2, a2, w2, td2, .head (fstep_block' st) (e1.trans g1), g2, e3.trans e4 g3, Nat.le_trans e4 g4, g5, g6, g7⟩
      · rename_i hne
        obtain ⟨ψ, a1, w1, td1, e1, e2, e3, e4, e5, e6, e7⟩ := ih body fr fr' ds ds' s s' ex h φ a w r f dr b (.inLoop body :: k) cs _ hb (.code body _)
        refine ⟨ψ, a1, w1, td1, .head (fstep_block' st) e1, ?_, e3, e4, e5, e6, e7⟩
        cases ex with
        | norm => exact absurd h (hne _ _ _)
        | exit id => obtain ⟨m, m1, m2⟩ := e2; exact ⟨m, m1, m2⟩
        | ret => exact e2
    · rename_i body
      cases st
      obtain ⟨ψ, a1, w1, td1, e1, e2, e3, e4, e5, e6, e7⟩ := ih body fr fr' ds ds' s s' ex h φ a w r f dr b (.inScope body :: k) cs _ hb (.code body _)
      cases ex with
      | norm =>
        have e2' : td1 = .inScope body :: k := e2
        subst e2'
        exact ⟨ψ, a1, w1, k, .head fstep_scope (e1.trans (.one fstep_inScope)), rfl, e3, e4, e5, e6, e7⟩
      | exit id => obtain ⟨m, m1, m2⟩ := e2; exact ⟨ψ, a1, w1, td1, .head fstep_scope e1, ⟨m, m1, m2⟩, e3, e4, e5, e6, e7⟩
      | ret => exact ⟨ψ, a1, w1, td1, .head fstep_scope e1, e2, e3, e4, e5, e6, e7⟩
    · rename_i g ps assign body
      cases st
      cases hrd : rd with
      | true => rw [hrd] at h; cases h
      | false =>
        rw [hrd] at h
        simp only [cond_false] at h
        have hbn := hb hrd
        split at h
        · rename_i fc first captured hg
          split at h
          · rename_i u s2 hcall
            have key : ∀ (pend : Option Code) (s3 : St), aended s2 (s.next + 1) = some (pend, s3) →
                ∃ ψ a3 w3, Steps P (lone (fat b a (.code (.rangeFunc g ps assign body) :: k)) cs w) (lone (fat b a3 ((pend.map Item.code).toList ++ k)) cs w3) ∧ Ext s φ ψ ∧ s.next ≤ s3.next ∧ Rel w0 ψ s3 w3 ∧ FR ψ fr a3 ∧ DR ψ (s.next :: ds) a3.defers := by
              intro pend s3 hend
              obtain ⟨f2, c2, v1, v2, v3⟩ := (f.rho r g _ hg).func_inv (fun l e => by cases e)
              obtain ⟨ψ1, w1, t1, t2, q1, q2, q3, q4, q5, q6⟩ := aloop_sound (P := P) r f b.fn ps assign body
              have hle1 := q2.le r
              have hargs : VRL ψ1 (first.toList ++ [.func (.yield (s.next + 1)) #[] #[]] ++ captured.toList) (f2.toList ++ [.func (.yield t2.blk) #[] #[]] ++ c2.toList) :=
                ((v2.mono hle1).list.append (.cons _ _ _ _ (.func _ _ _ _ _ _ (.yield _ t2 q6) rfl rfl (fun i x y hx => by simp at hx) (fun i x y hx => by simp at hx)) .nil)).append (v3.mono hle1).list
              obtain ⟨p1, p2⟩ := hC.fn fc _ _ u s2 hcall ψ1 w1 _ q4 hargs
              rw [← hbn] at q1
              have hres : (resolve a.eval (rangeCall g t2.blk) 0).run P w1 = .ok { target := .fn (.func fc) c2, args := f2 ++ #[.func (.yield t2.blk) #[] #[]] } w1 := by
                have h1 : resolve a.eval (rangeCall g t2.blk) 0 = Deferred.ofValue (a.eval g) #[.func (.yield t2.blk) #[] #[]] := by simp [resolve, rangeCall, Act.eval]
                rw [h1, v1]; rfl
              have hinv : (invoke (.fn (.func fc) c2) (f2 ++ #[.func (.yield t2.blk) #[] #[]])).run P w1 = .ok (.enter fc ((f2.toList ++ [Value.func (.yield t2.blk) #[] #[]] ++ c2.toList).toArray)) w1 := by
                rw [← p1]
                show (callFunc fc (f2 ++ #[.func (.yield t2.blk) #[] #[]] ++ c2)).run P w1 = _
                congr 2
                apply Array.ext'
                simp
              have henter := stepR_rangeFunc (P := P) (b := b) (a := a) (k := k) (cs := cs) (w := w) q1 hres hinv
              obtain ⟨e, w2, frm, ⟨ψ2, c, he, m1, m2, m3, m4⟩, hsteps, _, hleave⟩ := p2 (b.atR { a with defers := [{ target := .collected t1.blk, args := #[] }] ++ a.defers } (.inRangeFunc t2.blk :: k) :: cs)
              subst he
              have hlt : (aloop fr s ps assign body).next = s.next + 1 + 1 := rfl
              have ht2 : ψ2 (s.next + 1) = some t2 := by rw [m1 _ (by rw [hlt]; omega)]; exact q6
              have ht1 : ψ2 s.next = some t1 := by rw [m1 _ (by rw [hlt]; omega)]; exact q5
              obtain ⟨w3, n1, n2, n3⟩ := aended_sound (P := P) hend m3 ht2
              have hx : Ext s φ ψ2 := q2.trans q3 m1
              refine ⟨ψ2, { a with defers := [{ target := .collected t1.blk, args := #[] }] ++ a.defers }, w3, ?_, hx, by rw [n3]; exact Nat.le_trans q3 m2, n2, ⟨f.size, fun t v hv => let ⟨c, g1, g2⟩ := f.at_ t v hv; ⟨c, g1, g2.mono (hx.le r)⟩⟩, .cons _ t1 _ _ ht1 (dr.mono (hx.le r))⟩
              refine .head henter (hsteps.trans (.head ?_ (.one (stepR_endRangeFunc n1))))
              rw [← finish_atR_inRangeFunc t2.blk c]; exact step_leave_returned hleave
            split at h
            · rename_i s3 hend
              cases h
              obtain ⟨ψ, a3, w3, e1, e2, e3, e4, e5, e6⟩ := key _ _ hend
              exact ⟨ψ, a3, w3, k, e1, rfl, e2, e3, e4, e5, e6⟩
            · rename_i c s3 hend
              obtain ⟨ψ, a3, w3, e1, e2, e3, e4, e5, e6⟩ := key _ _ hend
              obtain ⟨ψ2, a2, w2, td2, g1, g2, g3, g4, g5, g6, g7⟩ := ih c fr fr' _ ds' s3 s' ex (by rw [hrd]; exact h) ψ a3 w3 e4 e5 e6 b k cs _ hb (.code c k)
              exact ⟨ψ2, a2, w2, td2, e1.trans g1, g2, e2.trans e3 g3, Nat.le_trans e3 g4, g5, g6, g7⟩
            · cases h
          · cases h
        · cases h
    · cases h
end
end Go.Proofs.YtbjickdjkgefcaaGreatDoor.Vai
end
end
section
open Go Go.RowKit
noncomputable section
namespace Go.Proofs.YtbjickdjkgefcaaGreatDoor.Vai
set_option linter.unusedVariables false
set_option linter.unusedSimpArgs false

section
variable {P : Program} {tb : Tb} {w0 : Base}

theorem fstep_leave {b : Frame} {a : Act} {cs : List Frame} {w : World} {td : List Item} (hr : b.roundOf = none) (h : td = [] ∨ ∃ m, td = .code .ret :: m) :
    step P (lone (fat b a td) cs w) = .next (lone { fat b a td with mode := .returning } cs w) := by
  rcases h with rfl | ⟨m, rfl⟩
  · exact step_lone_go (by simp [stepG, stepG.exec, fat, hr])
  · exact step_lone_go (by simp [stepG, stepG.exec, fat, hr])

theorem aresults_sound (hP : TbOk P tb) {φ : Emb} {s : St} {w : World} {fr : Fr} {a : Act} (r : Rel w0 φ s w) (f : FR φ fr a) (g : ResultVar → Sem Value) (hg1 : ∀ t, g (.tmp t) = pure (a.tmps.getD t undef))
    (hg2 : ∀ ad t, g (.cell ad t) = (asAddr (a.tmps.getD ad undef) >>= fun x => loadVar t x)) : ∀ (l : List ResultVar) (vs : List Value), aresults tb fr s l = some vs →
    ∃ cl, VRL φ vs cl ∧ (l.mapM g).run P w = .ok cl w := by
  intro l
  induction l with
  | nil =>
    intro vs h
    simp only [aresults, Option.some.injEq] at h
    subst h
    exact ⟨[], .nil, rfl⟩
  | cons x l ih =>
    intro vs h
    simp only [aresults] at h
    split at h
    · rename_i v vs' hv hvs
      cases h
      obtain ⟨cl, h1, h2⟩ := ih vs' hvs
      have hx : ∃ c, VR φ v c ∧ (g x).run P w = .ok c w := by
        cases x with
        | tmp t =>
          obtain ⟨c, e1, e2⟩ := f.at_ t v hv
          refine ⟨c, e2, ?_⟩
          rw [hg1]; simp [Array.getD_eq_getD_getElem?, e1]
        | cell ad t =>
          simp only [aresult] at hv
          split at hv
          · rename_i bv o hb
            obtain ⟨c, e1, e2⟩ := f.at_ ad _ hb
            cases e2 with
            | ptr _ _ tg ht =>
              obtain ⟨c2, g1, g2⟩ := r.run_loadVar hP ht hv
              refine ⟨c2, g2, ?_⟩
              rw [hg2]; simp [Array.getD_eq_getD_getElem?, e1, asAddr, g1]
          · cases hv
      obtain ⟨c, e1, e2⟩ := hx
      refine ⟨c :: cl, .cons _ _ _ _ e1 h1, ?_⟩
      simp only [List.mapM_cons, Sem.run_bind, e2, Result.andThen_ok, h2, Sem.run_pure]
    · cases h

theorem packed_rel {φ : Emb} {l : List Value} {cl : List Value} (h : VRL φ l cl) : VR φ (packed l) (if h : cl.toArray.size = 1 then cl.toArray[0] else .tuple cl.toArray) := by
  have tup : ∀ l cl : List Value, VRL φ l cl → VR φ (.tuple ⟨l⟩) (.tuple cl.toArray) := by
    intro l cl h
    refine .tuple _ _ (by simpa using h.length) ?_
    intro i x y hx hy
    have hx' : l[i]? = some x := by simpa using hx
    obtain ⟨y', e1, e2⟩ := h.get hx'
    have : cl[i]? = some y := by simpa using hy
    rw [this] at e1
    cases e1; exact e2
  cases h with
  | nil => exact tup [] [] .nil
  | @cons a c l cl h1 h2 =>
    cases h2 with
    | nil => simpa [packed] using h1
    | @cons a' c' l' cl' h3 h4 =>
      rw [dif_neg (by simp)]
      exact tup _ _ (.cons _ _ _ _ h1 (.cons _ _ _ _ h3 h4))

theorem argsT_get : ∀ (l : List Value) (i : Nat) (t : T Value) (k : Nat) (v : Value), (argsT i l t).get k = some v → (∃ j, k = i + j ∧ l[j]? = some v) ∨ t.get k = some v := by
  intro l
  induction l with
  | nil => intro i t k v h; exact .inr h
  | cons a l ih =>
    intro i t k v h
    rcases ih (i + 1) _ k v h with ⟨j, e, hj⟩ | h
    · exact .inl ⟨j + 1, by omega, by simpa using hj⟩
    · by_cases e : k = i
      · subst e
        rw [T.get_set_same] at h
        cases h
        exact .inl ⟨0, rfl, rfl⟩
      · rw [T.get_set_other _ _ e] at h
        exact .inr h

theorem atake_sound {ψ : Emb} {cs : List Frame} : ∀ (ds : List Nat) (s s' : St) (w : World) (m : List Deferred) (fr : Frame), atake ds s = some s' → Rel w0 ψ s w → DR ψ ds m → fr.mode = .returning → fr.defers = m →
    ∃ w', Steps P (lone fr cs w) (lone { fr with defers := [] } cs w') ∧ Rel w0 ψ s' w' ∧ s'.next = s.next := by
  intro ds
  induction ds with
  | nil =>
    intro s s' w m fr h r dr hm hd
    cases h; cases dr
    exact ⟨w, by rw [← hd]; exact .refl _ _, r, rfl⟩
  | cons d ds ih =>
    intro s s' w m fr h r dr hm hd
    cases dr with
    | cons _ t _ m' ht hl =>
      simp only [atake] at h
      split at h
      · rename_i hobj
        obtain ⟨c, h1, h2⟩ := r.getObj ht hobj
        cases h2
        obtain ⟨w', e1, e2, e3⟩ := ih _ s' _ m' { fr with defers := m' } h (r.setObj ht hobj .defsDone) hl hm rfl
        exact ⟨w', .head (step_collected (calls := []) (by rw [hm]; exact fun x => by cases x) hd rfl (run_takeDeferred h1)) e1, e2, e3⟩
      · cases h

theorem body_sound (hP : TbOk P tb) (hmix : P.follows .mixedOrders = true) {L : Nat} {call : ACall} (hC : CallOk P w0 call) {f : FuncId} {args : List Value} {s s' : St} {v : Value} (h : aBody P tb L call f args s = some (v, s'))
    {φ : Emb} {w : World} {cargs : List Value} (r : Rel w0 φ s w) (hargs : VRL φ args cargs) : (callFunc f cargs.toArray).run P w = .ok (.enter f cargs.toArray) w ∧ Calls P f cargs.toArray w (Post w0 φ s s' v) := by
  unfold aBody at h
  split at h
  · cases h
  · rename_i fn hfn
    split at h
    · cases h
    · rename_i c hbody
      obtain ⟨p1, p2⟩ := hP.fns _ _ hfn
      refine ⟨callFunc_body p1 p2 hbody _ _, ?_⟩
      have fin : ∀ (ex : Ex) (fr' : Fr) (ds : List Nat) (sx s2 : St) (l : List Value), (∀ id, ex ≠ .exit id) → aExec P tb call false L c ⟨argsT 0 args .nil, Nat.add args.length (Nat.sub fn.ntmps args.length)⟩ [] s = some (ex, fr', ds, sx) → atake ds sx = some s2 → aresults tb fr' s2 fn.results.toList = some l →
          Calls P f cargs.toArray w (Post w0 φ s s2 (packed l)) := by
        intro ex fr' ds sx s2 l hex hexec htake hres cs
        have hlen := hargs.length
        have f0 : FR φ ⟨argsT 0 args .nil, Nat.add args.length (Nat.sub fn.ntmps args.length)⟩ ⟨cargs.toArray ++ Array.replicate (fn.ntmps - cargs.toArray.size) undef, []⟩ := by
          refine ⟨?_, ?_⟩
          · show (cargs.toArray ++ Array.replicate (fn.ntmps - cargs.toArray.size) undef).size = args.length + (fn.ntmps - args.length)
            simp [hlen]
          · intro t v ht
            rcases argsT_get _ _ _ _ _ ht with ⟨j, rfl, hj⟩ | h
            · obtain ⟨y, h1, h2⟩ := hargs.get hj
              refine ⟨y, ?_, h2⟩
              rw [Nat.zero_add, Array.getElem?_append_left (by simpa using (List.getElem?_eq_some_iff.1 h1).1)]
              simpa using h1
            · cases h
        have hent : Frame.enter P f cargs.toArray .normal = fat { fn := f, tmps := #[], todo := [], defers := [], mode := .run, kind := .normal } ⟨cargs.toArray ++ Array.replicate (fn.ntmps - cargs.toArray.size) undef, []⟩ [.code c] := by
          simp [Frame.enter, p1, hbody, fat]
        obtain ⟨ψ, a', w', td, e1, e2, e3, e4, e5, e6, e7⟩ := exec_sound hP hmix hC false L c _ fr' [] ds s sx ex hexec φ _ w r f0 .nil { fn := f, tmps := #[], todo := [], defers := [], mode := .run, kind := .normal } [] cs _ (fun _ => rfl) (.code c [])
        have htd : td = [] ∨ ∃ m, td = .code .ret :: m := by
          cases ex with
          | norm => exact .inl e2
          | exit id => exact absurd rfl (hex id)
          | ret => exact .inr e2
        obtain ⟨w2, t1, t2, t3⟩ := atake_sound (P := P) (cs := cs) ds sx s2 w' a'.defers { fat { fn := f, tmps := #[], todo := [], defers := [], mode := .run, kind := .normal } a' td with mode := .returning } htake e5 e7 rfl rfl
        have key : ∀ g : ResultVar → Sem Value, (∀ t, g (.tmp t) = pure (a'.tmps.getD t undef)) → (∀ ad t, g (.cell ad t) = (asAddr (a'.tmps.getD ad undef) >>= fun x => loadVar t x)) →
            ∃ cl, VRL ψ l cl ∧ ((fn.results.mapM g >>= fun vs => pure (if h : vs.size = 1 then vs[0] else .tuple vs) : Sem Value)).run P w2 = .ok (if h : cl.toArray.size = 1 then cl.toArray[0] else .tuple cl.toArray) w2 := by
          intro g hg1 hg2
          obtain ⟨cl, g1, g2⟩ := aresults_sound hP t2 e6 g hg1 hg2 _ _ hres
          refine ⟨cl, g1, ?_⟩
          rw [Sem.run_bind, run_mapM_array g fn.results g2]
          rfl
        obtain ⟨cl, g1, hrun⟩ : ∃ cl, VRL ψ l cl ∧ (results fn a'.tmps).run P w2 = .ok (if h : cl.toArray.size = 1 then cl.toArray[0] else .tuple cl.toArray) w2 := by
          unfold results
          refine key _ ?_ ?_
          · intro t; rfl
          · intro ad t; rfl
        refine ⟨.returned (if h : cl.toArray.size = 1 then cl.toArray[0] else .tuple cl.toArray), w2, { { fat { fn := f, tmps := #[], todo := [], defers := [], mode := .run, kind := .normal } a' td with mode := .returning } with defers := [] }, ⟨ψ, _, rfl, e3, by rw [t3]; exact e4, t2, packed_rel g1⟩, ?_, ?_, ?_⟩
        · rw [hent]
          exact Steps.trans e1 (.head (fstep_leave rfl htd) t1)
        · rfl
        · exact ⟨rfl, rfl, rfl, fn, p1, hrun⟩
      split at h
      · cases h
      · rename_i ex fr' ds sx hne hexec
        split at h
        · rename_i s2 htake
          split at h
          · rename_i l hl
            simp only [Option.some.injEq, Prod.mk.injEq] at h
            obtain ⟨rfl, rfl⟩ := h
            exact fin ex fr' ds sx s2 l (fun id e => hne id e) hexec htake hl
          · cases h
        · cases h
      · cases h

theorem setPs_sound {n : Nat} {φ : Emb} : ∀ (ps : List Tmp) (vs cvs : List Value) (tm tm' : T Value) (tmps : Array Value), setPs n ps vs tm = some tm' → VRL φ vs cvs → FR φ ⟨tm, n⟩ ⟨tmps, []⟩ →
    ps.length = cvs.length ∧ FR φ ⟨tm', n⟩ ⟨(ps.zip cvs).foldl (fun tmps x => tmps.setIfInBounds x.1 x.2) tmps, []⟩ := by
  intro ps
  induction ps with
  | nil =>
    intro vs cvs tm tm' tmps h hv f
    cases hv with
    | nil => cases h; exact ⟨rfl, f⟩
    | cons => cases h
  | cons p ps ih =>
    intro vs cvs tm tm' tmps h hv f
    cases hv with
    | nil => cases h
    | @cons a c l cl h1 h2 =>
      simp only [setPs] at h
      cases hb : Nat.blt p n with
      | false => rw [hb] at h; cases h
      | true =>
        rw [hb] at h
        simp only [cond_true] at h
        have hf : FR φ ⟨tm.set p a, n⟩ (Act.put ⟨tmps, []⟩ (some p) c) := f.put (dst := some p) (by rw [aput_some, hb]; rfl) h1
        obtain ⟨e1, e2⟩ := ih _ _ _ _ _ h h2 hf
        exact ⟨by simp [e1], by simpa using e2⟩

theorem round_sound (hP : TbOk P tb) (hmix : P.follows .mixedOrders = true) {L : Nat} {call : ACall} (hC : CallOk P w0 call) {l : Nat} {args : List Value} {s s' : St} {v : Value} (h : aRound P tb L call l args s = some (v, s'))
    {φ : Emb} {w : World} {cargs : List Value} {t : Tgt} (r : Rel w0 φ s w) (ht : φ l = some t) (hargs : VRL φ args cargs) : RoundRuns P t.blk cargs.toArray w (Post w0 φ s s' v) := by
  unfold aRound at h
  split at h
  · rename_i st0 pend0 tm n ps as bd D hl
    split at h
    · cases h
    · rename_i tm1 htm
      obtain ⟨c0, h1, h2⟩ := r.getObj ht hl
      cases h2 with
      | loop _ _ _ _ _ _ _ _ td fn tmps psA hd hs hps e =>
        obtain ⟨k1, k2⟩ := setPs_sound (n := n) ps args cargs tm tm1 tmps htm hargs ⟨hs, e⟩
        subst hps
        have hyield := run_yield (P := P) (args := cargs.toArray) h1 (by simpa using k1.symm)
        refine ⟨fn, _, as, bd, hyield, ?_⟩
        simp only
        have hfold : ((⟨ps⟩ : Array Tmp).zip cargs.toArray).foldl (fun tmps (x : Tmp × Value) => tmps.setIfInBounds x.1 x.2) tmps = (ps.zip cargs).foldl (fun tmps x => tmps.setIfInBounds x.1 x.2) tmps := by
          rw [← Array.foldl_toList]
          simp
        rw [hfold]
        intro c cs
        have hfr : Frame.round t.blk fn ((ps.zip cargs).foldl (fun tmps x => tmps.setIfInBounds x.1 x.2) tmps) as bd .normal =
            fat { fn := fn, tmps := #[], todo := [], defers := [], mode := .run, kind := .normal, roundOf := some t.blk } ⟨(ps.zip cargs).foldl (fun tmps x => tmps.setIfInBounds x.1 x.2) tmps, []⟩ [.code as, .beginRound, .code bd] := rfl
        rw [hfr]
        generalize hbase : ({ fn := fn, tmps := #[], todo := [], defers := [], mode := .run, kind := .normal, roundOf := some t.blk } : Frame) = b
        have hb1 : b.roundOf = some t.blk := by rw [← hbase]
        have hb2 : b.kind = .normal := by rw [← hbase]
        split at h
        · rename_i fr1 ds1 s1 has
          split at h
          · cases h
          · rename_i s2 hbeg
            split at h
            · rename_i ex fr2 ds2 s3 hbd
              split at h
              · rename_i s4 hend
                cases h
                obtain ⟨ψ1, a1, w1, td1, e1, e2, e3, e4, e5, e6, e7⟩ := exec_sound hP hmix hC true L as _ _ _ _ _ _ _ has φ _ w r k2 .nil b [.beginRound, .code bd] (c :: cs) _ (fun x => by cases x) (.code as _)
                have e2' : td1 = [.beginRound, .code bd] := e2
                subst e2'
                have ht1 : ψ1 l = some t := (e3.le r) _ _ ht
                obtain ⟨w2, g1, g2, g3⟩ : ∃ w2, (Instr.beginRound t.blk).run P w1 = .ok () w2 ∧ Rel w0 ψ1 s2 w2 ∧ s2.next = s1.next := by
                  unfold abegin at hbeg
                  split at hbeg
                  · rename_i pend tm n ps as bd D hl
                    cases hbeg
                    obtain ⟨c0, h1, h2⟩ := e5.getObj ht1 hl
                    cases h2 with
                    | loop _ _ _ _ _ _ _ _ td fn tmps psA hd hs hps e =>
                      exact ⟨_, run_beginRound h1 rfl, e5.setObj ht1 hl (.loop _ _ _ _ _ _ _ _ td fn tmps psA hd hs hps e), rfl⟩
                  · cases hbeg
                obtain ⟨ψ3, a3, w3, td3, q1, q2, q3, q4, q5, q6, q7⟩ := exec_sound hP hmix hC true L bd _ _ _ _ _ _ _ hbd ψ1 _ w2 g2 e6 e7 b [] (c :: cs) _ (fun x => by cases x) (.code bd _)
                have ht3 : ψ3 l = some t := (q3.le g2) _ _ ht1
                obtain ⟨w4, m1, m2, m3⟩ : ∃ w4, (Instr.endRound t.blk ex.jump).run P w3 = .ok (.bool ex.jump.isNone) w4 ∧ Rel w0 ψ3 s' w4 ∧ s'.next = s3.next := by
                  unfold aend at hend
                  split at hend
                  · rename_i st pend tm n ps as bd D hl
                    cases hend
                    obtain ⟨c0, h1, h2⟩ := q5.getObj ht3 hl
                    cases h2 with
                    | loop _ _ _ _ _ _ _ _ td fn tmps psA hd hs hps e =>
                      refine ⟨_, run_endRound ex.jump h1, q5.setObj ht3 hl ?_, rfl⟩
                      cases ex with
                      | norm => exact .loop _ _ _ _ _ _ _ _ td fn tmps psA hd hs hps e
                      | exit id => exact .loop _ _ _ _ _ _ _ _ td fn tmps psA hd hs hps e
                      | ret => exact .loop _ _ _ _ _ _ _ _ td fn tmps psA hd hs hps e
                  · cases hend
                have hlast : step P (lone (fat b a3 td3) (c :: cs) w3) = .next (lone (c.finish (.bool ex.jump.isNone)) cs w4) := by
                  cases ex with
                  | norm =>
                    have : td3 = [] := q2
                    subst this
                    exact stepR_round_end hb1 hb2 m1
                  | exit id =>
                    obtain ⟨m, rfl, hm⟩ := q2
                    exact stepR_round_exit hb1 hb2 (by rw [hm]; rfl) m1
                  | ret =>
                    obtain ⟨m, rfl⟩ := q2
                    exact stepR_round_ret hb1 hb2 m1
                refine ⟨.bool ex.jump.isNone, w4, ⟨ψ3, _, rfl, e3.trans e4 ⟨fun v hv => q3 v (by rw [g3]; exact hv), q3.sig⟩, ?_, m2, .bool _⟩, ?_⟩
                · rw [m3]
                  have : s2.next ≤ s3.next := q4
                  rw [g3] at this
                  exact Nat.le_trans e4 this
                · exact e1.trans (.head (stepR_beginRound hb1 g1) (q1.trans (.one hlast)))
              · cases h
            · cases h
        · cases h
  · cases h

theorem fun_sound (hP : TbOk P tb) (hmix : P.follows .mixedOrders = true) (L : Nat) : ∀ d, CallOk P w0 (aFun P tb L d) := by
  intro d
  induction d with
  | zero =>
    refine CallOk.mk ?_ ?_
    · intro f args s v s' h; cases h
    · intro f args s v s' h; cases h
  | succ d ih =>
    exact ⟨fun f args s v s' h φ w cargs r hargs => body_sound hP hmix ih h r hargs, fun l args s v s' h φ w cargs t r ht hargs => round_sound hP hmix ih h r ht hargs⟩
end
end Go.Proofs.YtbjickdjkgefcaaGreatDoor.Vai
end
end
section
open Go Go.RowKit
noncomputable section
namespace Go.Proofs.YtbjickdjkgefcaaGreatDoor.Vai
set_option linter.unusedVariables false
set_option linter.unusedSimpArgs false

def T.ofOptsF {α : Type} : List (Option α) → Nat → T α → T α
  | [], _, t => t
  | a :: l, i, t => T.ofOptsF l (i + 1) (t.put i a)
theorem T.get_ofOptsF {α : Type} : ∀ (l : List (Option α)) (i : Nat) (t : T α) (k : Nat) (v : α), (T.ofOptsF l i t).get k = some v → (∃ j, k = i + j ∧ l[j]? = some (some v)) ∨ t.get k = some v := by
  intro l
  induction l with
  | nil => intro i t k v h; exact .inr h
  | cons a l ih =>
    intro i t k v h
    rcases ih (i + 1) _ k v h with ⟨j, e, hj⟩ | h
    · exact .inl ⟨j + 1, by omega, by simpa using hj⟩
    · by_cases e : k = i
      · subst e
        rw [T.get_put_same] at h
        exact .inl ⟨0, rfl, by simp [h]⟩
      · rw [T.get_put_other _ _ e] at h
        exact .inr h

/-- The evaluator's tables of a program. -/
def tables (P : Program) (ext : T ExtK) : Tb :=
  { und := T.ofOptsF ((List.range P.types.size).map P.underlying) 0 .nil,
    info := T.ofList P.types.toList, fns := T.ofList P.funcs.toList, ext := ext }

theorem tables_ok {P : Program} {ext : T ExtK} (h : (P.funcs.toList.all fun fn => !(fn.name == "runtime.NumGoroutine")) = true) (hx : ∀ f k, ext.get f = some k → ExtOk P f k) : TbOk P (tables P ext) := by
  refine ⟨fun t d e => ?_, fun t i e => ?_, fun f fn e => ?_, hx⟩
  · rcases T.get_ofOptsF _ _ _ _ _ e with ⟨j, rfl, hj⟩ | h
    · rw [List.getElem?_map, Nat.zero_add] at *
      cases hr : (List.range P.types.size)[j]? with
      | none => rw [hr] at hj; cases hj
      | some x =>
        rw [hr] at hj
        have := (List.getElem?_eq_some_iff.1 hr)
        obtain ⟨h1, h2⟩ := this
        simp at h2
        subst h2
        simpa using hj
    · cases h
  · simp only [tables, T.get_ofList] at e
    rw [Array.getElem?_toList] at e
    have hlt : t < P.types.size := (Array.getElem?_eq_some_iff.1 e).1
    show P.toTables.info? t = some i
    unfold Tables.info?
    rw [if_pos hlt]; exact e
  · simp only [tables, T.get_ofList] at e
    rw [Array.getElem?_toList] at e
    refine ⟨e, ?_⟩
    have := List.all_eq_true.1 h fn (by rw [← Array.getElem?_toList] at e; exact List.mem_of_getElem? e)
    simpa using this
end Go.Proofs.YtbjickdjkgefcaaGreatDoor.Vai
end
end
section
open Go Go.RowKit
noncomputable section
namespace Go.Proofs.YtbjickdjkgefcaaGreatDoor.Vai
set_option linter.unusedVariables false
set_option linter.unusedSimpArgs false

/-- A run of the evaluator that yields a plain value: what the call does. -/
theorem calls_of_run {P : Program} {tb : Tb} (hP : TbOk P tb) (hmix : P.follows .mixedOrders = true) {w : World} {φ : Emb} {s : St} (r : Rel (Base.all w) φ s w) {L d : Nat} {f : FuncId} {args cargs : List Value} (ha : VRL φ args cargs) {v : Value} (hv : plain v = true)
    (h : (match aFun P tb L d (.func f) args s with | some (u, _) => veq u v | none => false) = true) : Calls P f cargs.toArray w fun e w' => e = .returned v ∧ Below w.heap.size w w' := by
  split at h
  · rename_i u s' hu
    have e := veq_sound _ _ h
    subst e
    refine ((fun_sound hP hmix L d).fn f args s u s' hu φ w cargs r ha).2.mono ?_
    intro e w' hpost
    obtain ⟨ψ, c, rfl, _, _, h4, h5⟩ := hpost
    exact ⟨by rw [h5.eq_of_plain hv], h4.bel.all⟩
  · cases h
theorem vrl_plain (φ : Emb) : ∀ l : List Value, plainL l = true → VRL φ l l := by
  intro l
  induction l with
  | nil => intro _; exact .nil
  | cons a l ih =>
    intro h
    simp only [plainL, Bool.and_eq_true] at h
    exact .cons _ _ _ _ (VR.of_plain φ a h.1) (ih h.2)
end Go.Proofs.YtbjickdjkgefcaaGreatDoor.Vai
end
end
section
open Go Go.RowKit
noncomputable section
namespace Go.Proofs.YtbjickdjkgefcaaGreatDoor.Vai
set_option linter.unusedVariables false
set_option linter.unusedSimpArgs false

/-- A package-level variable whose cells are known: its number, its type's, the cells. -/
structure Glob where
  g : Nat
  t : TypeId
  cells : List Value

def gViews : List Glob → T View
  | [] => .nil
  | x :: r => (gViews r).set x.g { root := x.g, ext := x.cells.length, exact := true }
def gRoots : List Glob → T Root
  | [] => .nil
  | x :: r => (gRoots r).set x.g { elem := x.t, es := 1, cells := cellsOf x.cells, cur := x.g, flo := 0, fhi := 0, ro := true, sish := false }
def gEmb (sig : Sig) : List Glob → Emb
  | [] => ⟨fun _ => none, sig⟩
  | x :: r => (gEmb sig r).with x.g ⟨x.g, x.cells.length, 1⟩
theorem gEmb_sig (sig : Sig) : ∀ l : List Glob, (gEmb sig l).sig = sig := by
  intro l
  induction l with
  | nil => rfl
  | cons x l ih => exact ih
def gStart (ng : Nat) (l : List Glob) (orc : List Fact) : St := { ng := ng, next := ng, views := gViews l, roots := gRoots l, objs := .nil, orc := orc }

theorem gEmb_inv {sig : Sig} : ∀ (l : List Glob) (v : Nat) (t : Tgt), gEmb sig l v = some t → ∃ x ∈ l, x.g = v ∧ t = ⟨v, x.cells.length, 1⟩ ∧ (gViews l).get v = some { root := v, ext := x.cells.length, exact := true } ∧
    (gRoots l).get v = some { elem := x.t, es := 1, cells := cellsOf x.cells, cur := v, flo := 0, fhi := 0, ro := true, sish := false } := by
  intro l
  induction l with
  | nil => intro v t h; cases h
  | cons x l ih =>
    intro v t h
    by_cases e : v = x.g
    · subst e
      simp only [gEmb] at h
      rw [Emb.with_same] at h
      cases h
      exact ⟨x, List.mem_cons_self .., rfl, rfl, T.get_set_same .., T.get_set_same ..⟩
    · simp only [gEmb] at h
      rw [Emb.with_other _ _ e] at h
      obtain ⟨y, h1, h2, h3, h4, h5⟩ := ih v t h
      refine ⟨y, List.mem_cons_of_mem _ h1, h2, h3, ?_, ?_⟩
      · simp only [gViews]; rw [T.get_set_other _ _ e]; exact h4
      · simp only [gRoots]; rw [T.get_set_other _ _ e]; exact h5
theorem gViews_inv {sig : Sig} : ∀ (l : List Glob) (v : Nat) (V : View), (gViews l).get v = some V → ∃ x ∈ l, x.g = v ∧ V.root = v ∧ ∃ t, gEmb sig l v = some t ∧ t.blk = v := by
  intro l
  induction l with
  | nil => intro v V h; cases h
  | cons x l ih =>
    intro v V h
    by_cases e : v = x.g
    · subst e
      simp only [gViews] at h
      rw [T.get_set_same] at h
      cases h
      exact ⟨x, List.mem_cons_self .., rfl, rfl, _, Emb.with_same .., rfl⟩
    · simp only [gViews] at h
      rw [T.get_set_other _ _ e] at h
      obtain ⟨y, h1, h2, h3, t, h4, h5⟩ := ih v V h
      exact ⟨y, List.mem_cons_of_mem _ h1, h2, h3, t, by simp only [gEmb]; rw [Emb.with_other _ _ e]; exact h4, h5⟩

theorem Rel.globs {ng : Nat} {l : List Glob} {w : World} {sig : Sig} {orc : List Fact} (ho : ∀ f ∈ orc, f.ok sig) (h : ∀ x ∈ l, x.g < ng ∧ plainL x.cells = true ∧ w.heap[x.g]? = some (.cells x.cells.toArray x.t (0, 0))) : Rel (Base.all w) (gEmb sig l) (gStart ng l orc) w := by
  refine ⟨Kept.refl (Base.all w), ?_, ?_, ?_, ?_, ?_, ?_, ?_, ?_, Nat.le_refl _, by rw [gEmb_sig]; exact ho⟩
  · intro v t e
    obtain ⟨x, h1, rfl, _⟩ := gEmb_inv l v t e
    exact (h x h1).1
  · intro v t e
    obtain ⟨x, _, _, _, h4, _⟩ := gEmb_inv l v t e
    exact .inl ⟨_, h4⟩
  · intro v t V e hV
    obtain ⟨x, h1, rfl, rfl, h4, h5⟩ := gEmb_inv l v t e
    have hV' : (gViews l).get x.g = some V := hV
    rw [h4] at hV'
    cases hV'
    obtain ⟨_, k2, k3⟩ := h x h1
    refine ⟨_, h5, rfl, Nat.le_refl _, fun e => (by cases e), Nat.le_refl _, fun _ => rfl, ?_, x.cells.toArray, (0, 0), k3, by simp, ⟨Nat.le_refl _, fun o _ a b => (by simp at b), fun _ _ => rfl, fun _ => Nat.zero_le _⟩, ?_⟩
    · intro o st val ho
      simp only [cellsOf, T.get_ofList, List.getElem?_map] at ho
      cases hl : x.cells[o]? with
      | none => rw [hl] at ho; cases ho
      | some y =>
        rw [hl] at ho
        simp only [Option.map_some, Option.some.injEq, Prod.mk.injEq] at ho
        show st ≤ x.g
        omega
    · intro o st val ho hs hx
      simp only [cellsOf, T.get_ofList, List.getElem?_map] at ho
      cases hl : x.cells[o]? with
      | none => rw [hl] at ho; cases ho
      | some y =>
        rw [hl] at ho
        simp only [Option.map_some, Option.some.injEq, Prod.mk.injEq] at ho
        obtain ⟨rfl, rfl⟩ := ho
        exact ⟨y, by simpa using hl, VR.of_plain _ _ (plainL_at _ k2 o y hl)⟩
  · intro v t o e ho; cases ho
  · intro v1 v2 t1 t2 e1 e2 hb
    obtain ⟨x, _, _, rfl, _⟩ := gEmb_inv l v1 t1 e1
    obtain ⟨y, _, _, rfl, _⟩ := gEmb_inv l v2 t2 e2
    exact .inl hb
  · intro v V hV
    obtain ⟨x, h1, rfl, h3, _⟩ := gViews_inv (sig := sig) l v V hV
    rw [h3]
    exact ⟨(h x h1).1, (h x h1).1⟩
  · intro v o ho; cases ho
  · intro g V _ hV
    obtain ⟨_, _, _, _, t, h4, h5⟩ := gViews_inv (sig := sig) l g V hV
    exact ⟨t, h4, h5⟩

/-- A shaped world's package-level variable of which the cells are known: its block. -/
theorem block_of_var {P : Program} {w : World} (hs : w.ShapedOpen P) {name : String} {g : Nat} {t : TypeId} {zero : Array Value} {l : List Value} (hg : P.globalNamed name = some g) (hlt : g < P.globals.size)
    (h0 : ((begin P (fun _ _ => 0) default).world.heap[g]?).bind Obj.row? = some (zero, t)) (hv : w.var? P name = some l.toArray) : w.heap[g]? = some (.cells l.toArray t (0, 0)) := by
  obtain ⟨cs, h1, _⟩ := hs.1 g zero t hlt h0
  rw [h1]
  unfold World.var? at hv
  rw [hg] at hv
  simp only [Option.bind_some, h1, Option.some.injEq] at hv
  rw [hv]
end Go.Proofs.YtbjickdjkgefcaaGreatDoor.Vai
end
end
