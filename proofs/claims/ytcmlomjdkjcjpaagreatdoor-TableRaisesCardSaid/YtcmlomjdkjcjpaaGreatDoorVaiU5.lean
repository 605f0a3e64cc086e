/- A part of an evaluator of the model's code whose answers are proved sound: no statement on the program stands here. -/
import Derived.Test.YtcmlomjdkjcjpaaGreatDoorVaiU4
open Go Go.RowKit
namespace Go.Proofs.YtcmlomjdkjcjpaaGreatDoor.Vai
set_option linter.unusedVariables false
set_option linter.unusedSimpArgs false

theorem effs_mem {e : Nat} : ∀ (rs : List RRec) (i : Nat), e ∈ effs i rs ↔ ∃ (k : Nat) (x : RRec), rs[k]? = some x ∧ x.r.isE = true ∧ e = i + k := by
  intro rs
  induction rs with
  | nil => intro i; simp [effs]
  | cons y l ih =>
    intro i
    have tail : e ∈ effs (i + 1) l ↔ ∃ (k : Nat) (x : RRec), (y :: l)[k + 1]? = some x ∧ x.r.isE = true ∧ e = i + (k + 1) := by
      rw [ih]
      constructor
      · intro ⟨k, x, h1, h2, h3⟩; exact ⟨k, x, by simpa using h1, h2, by omega⟩
      · intro ⟨k, x, h1, h2, h3⟩; exact ⟨k, x, by simpa using h1, h2, by omega⟩
    simp only [effs]
    cases hb : y.r.isE with
    | true =>
      simp only [cond_true, List.mem_cons]
      rw [tail]
      constructor
      · intro h
        rcases h with h | ⟨k, x, h1, h2, h3⟩
        · exact ⟨0, y, rfl, hb, by omega⟩
        · exact ⟨k + 1, x, h1, h2, h3⟩
      · intro ⟨k, x, h1, h2, h3⟩
        cases k with
        | zero => exact .inl (by omega)
        | succ k => exact .inr ⟨k, x, h1, h2, h3⟩
    | false =>
      simp only [cond_false]
      rw [tail]
      constructor
      · intro ⟨k, x, h1, h2, h3⟩; exact ⟨k + 1, x, h1, h2, h3⟩
      · intro ⟨k, x, h1, h2, h3⟩
        cases k with
        | zero => simp at h1; subst h1; rw [hb] at h2; cases h2
        | succ k => exact ⟨k, x, h1, h2, h3⟩

theorem stages_mem {n : Nat} {se : St} : ∀ (rs : List RRec) (i : Nat), (n, se) ∈ stages n se i rs ∧ ∀ (k : Nat) (x : RRec), rs[k]? = some x → x.r.isE = true → (i + k, x.s) ∈ stages n se i rs := by
  intro rs
  induction rs with
  | nil => intro i; exact ⟨by simp [stages], fun k x h => by simp at h⟩
  | cons y l ih =>
    intro i
    obtain ⟨h1, h2⟩ := ih (i + 1)
    simp only [stages]
    cases hb : y.r.isE with
    | true =>
      simp only [cond_true]
      refine ⟨List.mem_cons_of_mem _ h1, fun k x hk hx => ?_⟩
      cases k with
      | zero => simp at hk; subst hk; exact List.mem_cons_self ..
      | succ k =>
        have := h2 k x (by simpa using hk) hx
        rw [show i + 1 + k = i + (k + 1) by omega] at this
        exact List.mem_cons_of_mem _ this
    | false =>
      simp only [cond_false]
      refine ⟨h1, fun k x hk hx => ?_⟩
      cases k with
      | zero => simp at hk; subst hk; rw [hb] at hx; cases hx
      | succ k =>
        have := h2 k x (by simpa using hk) hx
        rw [show i + 1 + k = i + (k + 1) by omega] at this
        exact this

theorem okAll_spec {P : Program} {tb : Tb} {M : T Nat} {E : List Nat} {stg : List (Nat × St)} : ∀ (rs : List RRec) (i : Nat), okAll P tb M E stg i rs = true → ∀ (k : Nat) (x : RRec), rs[k]? = some x → okOne P tb M E stg (i + k) x = true := by
  intro rs
  induction rs with
  | nil => intro i _ k x h; simp at h
  | cons y l ih =>
    intro i h k x hk
    simp only [okAll, Bool.and_eq_true] at h
    cases k with
    | zero => simp at hk; subst hk; exact h.1
    | succ k =>
      have := ih (i + 1) h.2 k x (by simpa using hk)
      rw [show i + 1 + k = i + (k + 1) by omega] at this
      exact this

section
variable {P : Program} {tb : Tb} {call : ACall} {w0 : Base} {ops : Array Oper} {m : Pre} {rs : List RRec} {F : Nat → Fr} {S : Nat → St} {V : Nat → SRes}

theorem ble_iff {a b : Nat} : Nat.ble a b = true ↔ a ≤ b := by rw [Nat.ble_eq]

theorem looks_of (c : Canon P tb call ops m rs F S V) (hlen : rs.length = ops.size) (h1 : okE (masks ops.toList 0 .nil) (effs 0 rs) = true)
    (h2 : okAll P tb (masks ops.toList 0 .nil) (effs 0 rs) (stages ops.size (S ops.size) 0 rs) 0 rs = true) : Looks P tb ops F S V := by
  have hrec : ∀ i, i < ops.size → rs[i]? = some ⟨ops[i]!, F i, S i, V i⟩ := by
    intro i hi
    have ho : ops[i]? = some ops[i]! := by
      rw [Array.getElem?_eq_getElem hi, getElem!_pos ops i hi]
    exact c.recd i _ ho
  have hmem : ∀ e, e < ops.size → (V e).isE = true → e ∈ effs 0 rs := fun e he hv => (effs_mem rs 0).2 ⟨e, _, hrec e he, hv, by omega⟩
  have hone : ∀ i, (hi : i < ops.size) → okOne P tb (masks ops.toList 0 .nil) (effs 0 rs) (stages ops.size (S ops.size) 0 rs) i ⟨ops[i]!, F i, S i, V i⟩ = true := by
    intro i hi
    have := okAll_spec rs 0 h2 i _ (hrec i hi)
    rwa [Nat.zero_add] at this
  have hstage : ∀ q, (q = ops.size ∨ (q < ops.size ∧ (V q).isE = true)) → (q, S q) ∈ stages ops.size (S ops.size) 0 rs := by
    intro q hq
    rcases hq with rfl | ⟨hq, hv⟩
    · exact (stages_mem rs 0).1
    · have := (stages_mem (n := ops.size) (se := S ops.size) rs 0).2 q _ (hrec q hq) hv
      rwa [Nat.zero_add] at this
  have hallow : ∀ i q, (∀ e, e < ops.size → (V e).isE = true → (Bef ops.toList e i → e < q) ∧ (Bef ops.toList i e → q ≤ e)) → Go.Proofs.YtcmlomjdkjcjpaaGreatDoor.Vai.allowed (masks ops.toList 0 .nil) (effs 0 rs) i q = true := by
    intro i q hall
    unfold Go.Proofs.YtcmlomjdkjcjpaaGreatDoor.Vai.allowed
    rw [List.all_eq_true]
    intro e he
    obtain ⟨k, x, k1, k2, k3⟩ := (effs_mem rs 0).1 he
    have hk : k < ops.size := by rw [← hlen]; exact (List.getElem?_eq_some_iff.1 k1).1
    rw [hrec k hk] at k1
    cases k1
    have he' : e = k := by omega
    subst he'
    obtain ⟨a1, a2⟩ := hall e hk k2
    rw [Bool.and_eq_true]
    refine ⟨?_, ?_⟩
    · cases hb : isBef (masks ops.toList 0 .nil) e i with
      | false => rfl
      | true => simpa using blt_iff.2 (a1 (isBef_spec _ hb))
    · cases hb : isBef (masks ops.toList 0 .nil) i e with
      | false => rfl
      | true => simpa using ble_iff.2 (a2 (isBef_spec _ hb))
  refine ⟨?_, ?_, ?_, ?_, ?_⟩
  · intro e f he hf hve hvf hlt
    unfold okE at h1
    have h3 := List.all_eq_true.1 (List.all_eq_true.1 h1 e (hmem e he hve)) f (hmem f hf hvf)
    rw [blt_iff.2 hlt] at h3
    exact isBef_spec _ (by simpa using h3)
  · intro i e hi he hn hv
    have h3 := hone i hi
    unfold okOne at h3
    rw [Bool.and_eq_true] at h3
    have h4 := h3.1
    simp only [hn, cond_true] at h4
    have h5 := List.all_eq_true.1 h4 e (hmem e he hv)
    rw [Bool.or_eq_true] at h5
    exact h5.imp (isBef_spec _) (isBef_spec _)
  · intro i hi hv
    have h3 := hone i hi
    unfold okOne at h3
    rw [Bool.and_eq_true] at h3
    have h4 := h3.2
    have hst := c.st i _ (Array.getElem?_eq_getElem hi)
    cases hV : V i with
    | un => rw [hV] at hv; cases hv
    | q o => rw [hV] at hv; cases hv
    | p => rw [hV] at hv; cases hv
    | e v s' =>
      rw [hV] at h4 hst
      rw [hst]
      exact ble_iff.1 h4
  · intro i o out q ho hV hq hall
    have hi : i < ops.size := (Array.getElem?_eq_some_iff.1 ho).1
    have hoi : ops[i]! = o := by
      rw [Array.getElem?_eq_getElem hi] at ho
      rw [getElem!_pos ops i hi]; exact Option.some.inj ho
    have h3 := hone i hi
    unfold okOne at h3
    rw [Bool.and_eq_true] at h3
    have h4 := h3.2
    simp only [hV] at h4
    rw [hoi] at h4
    rw [aq_narrow]
    rw [Bool.or_eq_true] at h4
    rcases h4 with h4 | h4
    · rw [sfree_sound (s' := S i) h4]
      have hreal := c.real ho (by rw [hV]; intro _ _ x; cases x)
      rw [aStep_narrow, hV] at hreal
      exact aStep_qval hreal
    have hst := hstage q hq
    have h5 := List.all_eq_true.1 h4 _ hst
    simp only at h5
    have ha := hallow i q hall
    rw [ha] at h5
    simp only [cond_true] at h5
    split at h5
    · rename_i out' hout
      rw [hout, qeq_sound h5]
    · cases h5
  · intro i o id out ho hV
    have hi : i < ops.size := (Array.getElem?_eq_some_iff.1 ho).1
    have hoi : ops[i]! = o := by
      rw [Array.getElem?_eq_getElem hi] at ho
      rw [getElem!_pos ops i hi]; exact Option.some.inj ho
    have h3 := hone i hi
    unfold okOne at h3
    rw [Bool.and_eq_true] at h3
    have h4 := h3.2
    simp only [hV] at h4
    rw [hoi, Bool.and_eq_true] at h4
    obtain ⟨h4, h6⟩ := h4
    refine ⟨(by split at h4 <;> first | assumption | (cases h4)), fun q hq hall => ?_⟩
    have h5 := List.all_eq_true.1 h6 _ (hstage q hq)
    simp only at h5
    rw [hallow i q hall] at h5
    simp only [cond_true, Bool.and_eq_true] at h5
    refine ⟨h5.1, ?_⟩
    rw [aq_narrow]
    have h7 := h5.2
    split at h7
    · rename_i out' hout
      rw [hout, qeq_sound h7]
    · cases h7

theorem reserve_spec {P : Program} {tb : Tb} {M : T Nat} {ops : Array Oper} {lo : Nat} : ∀ (l : List Oper) (i sk : Nat) (fr : Fr) (s : St) (m : Pre), Wf s → PreOk m lo s.next → (∀ j x, m.get j = some x → j < i) →
    Qext s (reserve P tb M ops l i sk fr s m).1 ∧ PreOk (reserve P tb M ops l i sk fr s m).2 lo (reserve P tb M ops l i sk fr s m).1.next := by
  intro l
  induction l with
  | nil => intro i sk fr s m wf hm _; exact ⟨Qext.refl wf, hm⟩
  | cons o l ih =>
    intro i sk fr s m wf hm hk
    have one : ∀ (sk' : Nat) (fr' : Fr) (s' : St) (out : QOut), Qext s s' → s'.next = s.next + 1 → Qext s (reserve P tb M ops l (i + 1) sk' fr' s' (m.set i (s.next, out))).1 ∧ PreOk (reserve P tb M ops l (i + 1) sk' fr' s' (m.set i (s.next, out))).2 lo (reserve P tb M ops l (i + 1) sk' fr' s' (m.set i (s.next, out))).1.next := by
      intro sk' fr' s' out hx hn
      have h1 : PreOk (m.set i (s.next, out)) lo s'.next := by
        have hl := hm.le
        refine ⟨by omega, ?_, ?_⟩
        · intro j id out' hj
          by_cases e : j = i
          · subst e; rw [T.get_set_same] at hj; cases hj; omega
          · rw [T.get_set_other _ _ e] at hj; have := hm.bound j id out' hj; omega
        · intro j k id out1 out2 hj hk'
          by_cases e : j = i
          · subst e
            rw [T.get_set_same] at hj; cases hj
            by_cases e2 : k = j
            · exact e2.symm
            · rw [T.get_set_other _ _ e2] at hk'; have := hm.bound k _ out2 hk'; omega
          · rw [T.get_set_other _ _ e] at hj
            by_cases e2 : k = i
            · subst e2
              rw [T.get_set_same] at hk'; cases hk'
              have := hm.bound j _ out1 hj; omega
            · rw [T.get_set_other _ _ e2] at hk'
              exact hm.inj j k id out1 out2 hj hk'
      obtain ⟨g1, g2⟩ := ih (i + 1) sk' fr' s' _ (hx.wf wf) h1 (fun j x hj => by
        by_cases e : j = i
        · omega
        · rw [T.get_set_other _ _ e] at hj; have := hk j x hj; omega)
      exact ⟨hx.trans g1, g2⟩
    have none_ : ∀ sk' fr', Qext s (reserve P tb M ops l (i + 1) sk' fr' s m).1 ∧ PreOk (reserve P tb M ops l (i + 1) sk' fr' s m).2 lo (reserve P tb M ops l (i + 1) sk' fr' s m).1.next := fun sk' fr' => ih (i + 1) sk' fr' s m wf hm (fun j x hj => by have := hk j x hj; omega)
    have stop : Qext s (s, m).1 ∧ PreOk (s, m).2 lo (s, m).1.next := ⟨Qext.refl wf, hm⟩
    simp only [reserve]
    generalize Nat.beq (Nat.land sk (match M.get i with | some x => x | none => 0)) 0 = t
    cases t with
    | false => exact none_ _ _
    | true =>
      simp only [cond_true]
      split
      · split
        · split
          · exact none_ _ _
          · exact stop
        · split
          · exact one _ _ _ _ (Qext.alloc wf _ _ _) rfl
          · exact none_ _ _
        · split
          · exact one _ _ _ _ (Qext.obj wf _) rfl
          · exact none_ _ _
        · exact none_ _ _
      · split
        · exact none_ _ _
        · exact stop
      · exact none_ _ _

theorem reserved_spec {P : Program} {tb : Tb} {ops : Array Oper} {fr : Fr} {s : St} (wf : Wf s) : Qext s (reserved P tb ops fr s).1 ∧ PreOk (reserved P tb ops fr s).2 s.next (reserved P tb ops fr s).1.next := by
  have h0 : PreOk .nil s.next s.next := ⟨Nat.le_refl _, fun i id out h => by simp [T.get] at h, fun i j id o1 o2 h => by simp [T.get] at h⟩
  unfold reserved
  cases mixed ops with
  | false => exact ⟨Qext.refl wf, h0⟩
  | true => exact reserve_spec ops.toList 0 0 fr s .nil wf h0 (fun j x h => by simp [T.get] at h)

theorem any_sound (hP : TbOk P tb) (hmix : P.follows .mixedOrders = true) (hC : CallOk P w0 call) {ops : Array Oper} {fr fr' : Fr} {s s' : St} {φ : Emb} {a : Act} {w : World} (h : aAny P tb call ops fr s = some (fr', s')) (r : Rel w0 φ s w) (f : FR φ fr a) {id : Nat}
    (b : Frame) (k : List Item) (cs : List Frame) : ∃ ψ a' w', Steps P (lone (fat b a (.code (.region id ops true) :: k)) cs w) (lone (fat b a' k) cs w') ∧ Ext s φ ψ ∧ s.next ≤ s'.next ∧ Rel w0 ψ s' w' ∧ FR ψ fr' a' ∧ a'.defers = a.defers := by
  unfold aAny at h
  obtain ⟨hqx, hM⟩ := reserved_spec (P := P) (tb := tb) (ops := ops) (fr := fr) (s := s) r.wf
  generalize hres : reserved P tb ops fr s = res at h hqx hM
  obtain ⟨s1, m⟩ := res
  simp only at h hqx hM
  split at h
  · cases h
  · rename_i rs fe se hrs
    cases hb : (regOk ops && okE (masks ops.toList 0 .nil) (effs 0 rs) && okAll P tb (masks ops.toList 0 .nil) (effs 0 rs) (stages ops.size se 0 rs) 0 rs) with
    | false => rw [hb] at h; cases h
    | true =>
      rw [hb] at h
      simp only [cond_true, Option.some.injEq, Prod.mk.injEq] at h
      obtain ⟨rfl, rfl⟩ := h
      rw [Bool.and_eq_true, Bool.and_eq_true] at hb
      obtain ⟨⟨b1, b2⟩, b3⟩ := hb
      obtain ⟨F, S, V, f0, s0, fn, sn, hlen, hall⟩ := aRecs_spec _ _ _ _ _ _ _ hrs
      rw [Array.length_toList] at fn sn hlen
      have c : Canon P tb call ops m rs F S V := by
        have hall' : ∀ (i : Nat) (o : Oper), ops[i]? = some o → _ := fun i o ho => hall i o (by rw [Array.getElem?_toList]; exact ho)
        exact ⟨fun i o ho => (hall' i o ho).1, fun i o ho => by have := (hall' i o ho).2.1; rwa [Nat.zero_add] at this, fun i o ho => (hall' i o ho).2.2.1, fun i o ho => (hall' i o ho).2.2.2⟩
      have R := regOk_spec b1
      rw [← sn] at b3
      have L := looks_of c hlen b2 b3
      have r' : Rel w0 φ (S 0) { w with drawn := w.drawn + 1 } := by rw [s0]; exact r.drew.qext hqx
      have hM' : PreOk m s.next (S 0).next := by rw [s0]; exact hM
      obtain ⟨q0, g1, g2, g3, g4⟩ := next_effect V ops.size ops.size 0 (by omega)
      have hx := c.quiet g1 g2 g3 r'.wf
      have off : ∀ i, ¬ isOn (Array.replicate ops.size false) i := by
        intro i hi
        rw [isOn, Array.getElem?_replicate] at hi
        split at hi <;> cases hi
      have I : Inv w0 s ops F S V φ a.defers (isOn (Array.replicate ops.size false)) q0 0 φ { w with drawn := w.drawn + 1 } a := by
        refine ⟨fun i hi => absurd hi (off i), fun j o hj => absurd hj (off j), g1, g2, g3, g4, .inl rfl, ?_, r'.qext hx, r'.wf, ?_, ?_, by rw [f0]; exact f.size, fun j o t hj => absurd hj (off j), ?_, Ext.refl _ _, rfl⟩
        · intro e he1 he2
          refine ⟨fun h => absurd h (off e), fun h => ?_⟩
          have := g3 e (Nat.zero_le _) h
          rw [he2] at this; cases this
        · intro i h1 h2 _ _
          cases hφ : φ (S i).next with
          | none => rfl
          | some t =>
            have := r'.fresh _ t hφ
            have := c.mono L (i := 0) (j := i) (Nat.zero_le _) (by omega)
            omega
        · intro i id out h1 _ h3
          cases hφ : φ id with
          | none => rfl
          | some t =>
            have := r.fresh _ t hφ
            have := hM'.bound i id out (c.pre (Array.getElem?_eq_getElem h1) h3)
            omega
        · intro t v _ ht
          rw [f0] at ht
          exact f.at_ t v ht
      have hfirst := fstep_region_draw (P := P) (b := b) (a := a) (k := k) (cs := cs) (w := w) (ops := ops) (id := id)
      simp only [Region.schedule, hmix, Bool.true_or, if_true, Region.linearise] at hfirst
      obtain ⟨q', p', φ', w', a', e1, I'⟩ := any_loop hP hC c L R hM' b k cs ops.size (w.tape w.drawn (.order b.fn id)) (Array.replicate ops.size false) q0 0 φ _ a (by simp) (by
        unfold left
        have := List.countP_le_length (p := fun i => !(Array.replicate ops.size false).getD i true) (l := List.range ops.size)
        simpa using this) I
      have hq : q' = ops.size := by
        rcases I'.qE' with h | ⟨h, hv⟩
        · exact h
        · have := (I'.eff q' h hv).1 h; omega
      refine ⟨φ', a', w', .head hfirst (e1.trans (.one fstep_region_end)), I'.ext, ?_, ?_, ?_, I'.defers⟩
      · rw [← sn]; exact Nat.le_trans hM'.le (c.mono L (Nat.zero_le _) (Nat.le_refl _))
      · rw [← sn, ← hq]; exact I'.rel
      · rw [← fn]
        obtain ⟨n1, n2⟩ := c.get ops.size (Nat.le_refl _)
        refine ⟨I'.size.trans n1.symm, fun t v ht => ?_⟩
        rcases n2 t v ht with ⟨j, o, h1, h2, h3, rfl⟩ | ⟨h1, h2⟩
        · exact I'.done j o t h1 h2 h3
        · exact I'.old t v (fun j o hj => h1 j o hj) h2
end
end Go.Proofs.YtcmlomjdkjcjpaaGreatDoor.Vai
