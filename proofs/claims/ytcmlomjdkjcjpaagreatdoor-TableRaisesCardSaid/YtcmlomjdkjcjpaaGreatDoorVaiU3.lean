/- A part of an evaluator of the model's code whose answers are proved sound: no statement on the program stands here. -/
import Derived.Test.YtcmlomjdkjcjpaaGreatDoorVaiU2
open Go Go.RowKit
namespace Go.Proofs.YtcmlomjdkjcjpaaGreatDoor.Vai
set_option linter.unusedVariables false
set_option linter.unusedSimpArgs false

theorem put_keep (a : Act) {dst : Option Tmp} (c : Value) {t : Nat} (h : dst ≠ some t) : (a.put dst c).tmps[t]? = a.tmps[t]? := by
  cases dst with
  | none => rfl
  | some d => simp only [Act.put]; rw [Array.getElem?_setIfInBounds_ne (fun x => h (by rw [x]))]
theorem put_at (a : Act) (c : Value) {d : Nat} (h : d < a.tmps.size) : (a.put (some d) c).tmps[d]? = some c := by simp [Act.put, h]
theorem put_size (a : Act) (dst : Option Tmp) (c : Value) : (a.put dst c).tmps.size = a.tmps.size := by cases dst <;> simp [Act.put]

theorem aStep_q {P : Program} {tb : Tb} {call : ACall} {ops : List Oper} {fr : Fr} {s : St} {o : Oper} {out : QOut} (h : aStep P tb call ops fr s o = some (.q out)) : awanted ops fr o = some true := by
  unfold aStep at h
  split at h
  · cases h
  · cases h
  · assumption
theorem aStep_un {P : Program} {tb : Tb} {call : ACall} {ops : List Oper} {fr : Fr} {s : St} {o : Oper} (h : aStep P tb call ops fr s o = some .un) : awanted ops fr o = some false := by
  unfold aStep at h
  split at h
  · cases h
  · assumption
  · split at h
    · cases h
    · split at h
      · cases h
      · split at h
        · split at h <;> cases h
        · cases h

theorem aStep_qval {P : Program} {tb : Tb} {call : ACall} {ops : List Oper} {fr : Fr} {s : St} {o : Oper} {out : QOut} (h : aStep P tb call ops fr s o = some (.q out)) : aq P tb s (aev s fr) o = some out := by
  unfold aStep at h
  split at h
  · cases h
  · cases h
  · split at h
    · rename_i out' hq
      cases h; exact hq
    · split at h
      · cases h
      · split at h
        · split at h <;> cases h
        · cases h

theorem aStep_p {P : Program} {tb : Tb} {call : ACall} {ops : List Oper} {fr : Fr} {s : St} {o : Oper} {id : Nat} {out : QOut} (h : aStep P tb call ops fr s o = some (.p id out)) : False := by
  unfold aStep at h
  split at h
  · cases h
  · cases h
  · split at h
    · cases h
    · split at h
      · cases h
      · split at h
        · split at h <;> cases h
        · cases h

theorem teq_sound : ∀ (a b : T (Nat × Value)), teq a b = true → a = b := by
  intro a
  induction a with
  | nil => intro b h; cases b <;> first | rfl | cases h
  | node l x r i1 i2 =>
    intro b h
    cases b with
    | nil => cases h
    | node l' x' r' =>
      simp only [teq, Bool.and_eq_true] at h
      obtain ⟨⟨h1, h2⟩, h3⟩ := h
      rw [i1 _ h1, i2 _ h3]
      cases x with
      | none =>
        cases x' with
        | none => rfl
        | some y => cases h2
      | some x =>
        cases x' with
        | none => cases h2
        | some y =>
          obtain ⟨n, v⟩ := x; obtain ⟨k, u⟩ := y
          simp only [Bool.and_eq_true] at h2
          rw [Nat.eq_of_beq_eq_true h2.1, veq_sound _ _ h2.2]

theorem okBind_new {s : St} {id : Nat} {elem : TypeId} {es : Nat} {cells : List Value} {sh : Shp} (h : okBind s id (.new elem es cells sh) = true) :
    s.views.get id = some { root := id, ext := cells.length, exact := true } ∧ s.roots.get id = some { elem := elem, es := es, cells := cellsOf cells, cur := id, flo := 0, fhi := 0, ro := false, sish := false } ∧ s.objs.get id = none := by
  simp only [okBind, Bool.and_eq_true] at h
  obtain ⟨⟨h1, h2⟩, h3⟩ := h
  refine ⟨?_, ?_, ?_⟩
  · split at h1
    · rename_i V hV
      simp only [Bool.and_eq_true] at h1
      obtain ⟨⟨e1, e2⟩, e3⟩ := h1
      obtain ⟨a, b, c⟩ := V
      simp only at e1 e2 e3
      rw [hV, Nat.eq_of_beq_eq_true e1, Nat.eq_of_beq_eq_true e2, e3]
    · cases h1
  · split at h2
    · rename_i R hR
      simp only [Bool.and_eq_true, Bool.not_eq_true'] at h2
      obtain ⟨⟨⟨⟨⟨⟨⟨e1, e2⟩, e3⟩, e4⟩, e5⟩, e6⟩, e7⟩, e8⟩ := h2
      obtain ⟨r1, r2, r3, r4, r5, r6, r7, r8⟩ := R
      simp only at e1 e2 e3 e4 e5 e6 e7 e8
      rw [hR, Nat.eq_of_beq_eq_true e1, Nat.eq_of_beq_eq_true e2, teq_sound _ _ e3, Nat.eq_of_beq_eq_true e4, Nat.eq_of_beq_eq_true e5, Nat.eq_of_beq_eq_true e6, e7, e8]
    · cases h2
  · split at h3
    · cases h3
    · assumption
theorem okBind_obj {s : St} {id : Nat} {ob : AObj} (h : okBind s id (.obj ob) = true) : s.views.get id = none ∧ s.objs.get id = some ob := by
  simp only [okBind, Bool.and_eq_true] at h
  obtain ⟨h1, h2⟩ := h
  refine ⟨?_, ?_⟩
  · split at h1
    · cases h1
    · assumption
  · split at h2
    · rename_i ob' hob
      rw [hob, oeq_sound h2]
    · cases h2

section
variable {P : Program} {tb : Tb} {call : ACall} {w0 : Base} {ops : Array Oper} {m : Pre} {rs : List RRec} {F : Nat → Fr} {S : Nat → St} {V : Nat → SRes}
variable {sz : St} {φ0 : Emb} {d0 : List Deferred} {D : Nat → Prop} {q p : Nat} {φ ψ : Emb} {w : World} {a : Act}

theorem Canon.pre (c : Canon P tb call ops m rs F S V) {i : Nat} {o : Oper} (ho : ops[i]? = some o) {id : Nat} {out : QOut} (hv : V i = .p id out) : m.get i = some (id, out) := by
  have h := c.step i o ho
  unfold aStepP at h
  split at h
  · rename_i id' out' hm
    rw [hv] at h; cases h; exact hm
  · rw [hv] at h; exact (aStep_p h).elim
theorem Canon.real (c : Canon P tb call ops m rs F S V) {i : Nat} {o : Oper} (ho : ops[i]? = some o) (hv : ∀ id out, V i ≠ .p id out) : aStep P tb call ops.toList (narrow (F i) (o.looksAt ops)) (S i) o = some (V i) := by
  have h := c.step i o ho
  unfold aStepP at h
  split at h
  · rename_i id' out' hm
    exact absurd (Option.some.inj h).symm (hv _ _)
  · rw [aStep_narrow]; exact h

structure PutOk (F : Nat → Fr) (S : Nat → St) (V : Nat → SRes) (ops : Array Oper) (D' : Nat → Prop) (ψ : Emb) (a' : Act) : Prop where
  size : a'.tmps.size = (F 0).n
  done : ∀ (j : Nat) (o : Oper) (t : Nat), D' j → ops[j]? = some o → o.dst = some t → ∃ c, a'.tmps[t]? = some c ∧ VR ψ ((V j).val (S j)) c
  old : ∀ (t : Nat) (v : Value), (∀ (j : Nat) (o : Oper), D' j → ops[j]? = some o → o.dst ≠ some t) → (F 0).tm.get t = some v → ∃ c, a'.tmps[t]? = some c ∧ VR ψ v c

theorem Inv.putOk (I : Inv w0 sz ops F S V φ0 d0 D q p φ w a) (c : Canon P tb call ops m rs F S V) (R : RegOk ops) {i : Nat} {o : Oper} (ho : ops[i]? = some o) (hle : φ.le ψ) {cv : Value} (hv : VR ψ ((V i).val (S i)) cv) :
    PutOk F S V ops (fun j => D j ∨ j = i) ψ (a.put o.dst cv) := by
  have hlt : i < ops.size := (Array.getElem?_eq_some_iff.1 ho).1
  refine ⟨(put_size _ _ _).trans I.size, ?_, ?_⟩
  · intro j oj t hj hoj hd
    by_cases e : j = i
    · subst e
      rw [ho] at hoj
      cases hoj
      have hp := c.put j o ho
      rw [hd] at hp
      simp only [aput] at hp
      cases hb : Nat.blt t (F j).n with
      | false => rw [hb] at hp; cases hp
      | true =>
        have h1 := blt_iff.1 hb
        rw [(c.get j (by omega)).1, ← I.size] at h1
        exact ⟨cv, by rw [hd]; exact put_at a cv h1, hv⟩
    · rcases hj with hj | hj
      · obtain ⟨c', h1, h2⟩ := I.done j oj t hj hoj hd
        exact ⟨c', by rw [put_keep a cv (R.uniq j i oj o hoj ho e t hd)]; exact h1, h2.mono hle⟩
      · exact absurd hj e
  · intro t v h ht
    obtain ⟨c', h1, h2⟩ := I.old t v (fun j oj hj => h j oj (.inl hj)) ht
    exact ⟨c', by rw [put_keep a cv (h i o (.inr rfl) ho)]; exact h1, h2.mono hle⟩

/-- A step that leaves the stage as it is. -/
theorem Inv.stay (I : Inv w0 sz ops F S V φ0 d0 D q p φ w a) (c : Canon P tb call ops m rs F S V) (L : Looks P tb ops F S V) (R : RegOk ops) {i : Nat} {o : Oper} (ho : ops[i]? = some o) (hi : ¬ D i)
    (hr : ∀ e ∈ o.after, Region.binds .any e = true → D e.on) (hE : (V i).isE = false) (hle : φ.le ψ) {w' : World} (hrel : Rel w0 ψ (S q) w') {cv : Value} (hv : VR ψ ((V i).val (S i)) cv)
    (hunb : ∀ j, p ≤ j → j < q → ¬ D j → j ≠ i → (V j).isN = true → φ (S j).next = none → ψ (S j).next = none)
    (hunbP : ∀ j id out, j < ops.size → ¬ D j → j ≠ i → V j = .p id out → φ id = none → ψ id = none) (hext : Ext sz φ0 ψ) :
    Inv w0 sz ops F S V φ0 d0 (fun j => D j ∨ j = i) q p ψ w' (a.put o.dst cv) := by
  have hlt : i < ops.size := (Array.getElem?_eq_some_iff.1 ho).1
  have hp := I.putOk c R ho hle hv
  refine ⟨?_, ?_, I.ple, I.qle, I.noE, I.qE, I.pE, ?_, hrel, I.wfp, ?_, fun j id out h1 h2 h3 => hunbP j id out h1 (fun h => h2 (.inl h)) (fun h => h2 (.inr h)) h3 (I.unbP j id out h1 (fun h => h2 (.inl h)) h3), hp.size, hp.done, hp.old, hext, (put_defers _ _ _).trans I.defers⟩
  · intro j hj
    rcases hj with hj | hj
    · exact I.dn j hj
    · omega
  · intro j oj hj hoj e he hb
    rcases hj with hj | hj
    · exact .inl (I.closed j oj hj hoj e he hb)
    · subst hj; rw [ho] at hoj; cases hoj; exact .inl (hr e he hb)
  · intro e he1 he2
    refine ⟨fun h => ?_, fun h => .inl ((I.eff e he1 he2).2 h)⟩
    rcases h with h | h
    · exact (I.eff e he1 he2).1 h
    · subst h; rw [hE] at he2; cases he2
  · intro j h1 h2 h3 h4
    exact hunb j h1 h2 (fun h => h3 (.inl h)) (fun h => h3 (.inr h)) h4 (I.unb j h1 h2 (fun h => h3 (.inl h)) h4)

theorem Inv.allowed (I : Inv w0 sz ops F S V φ0 d0 D q p φ w a) {i : Nat} {o : Oper} (ho : ops[i]? = some o) (hi : ¬ D i) (hr : ∀ e ∈ o.after, Region.binds .any e = true → D e.on) :
    ∀ e, e < ops.size → (V e).isE = true → (Bef ops.toList e i → e < q) ∧ (Bef ops.toList i e → q ≤ e) := by
  intro e he1 he2
  refine ⟨fun h => (I.eff e he1 he2).1 (I.preds ho hr h), fun h => ?_⟩
  rcases Nat.lt_or_ge e q with h1 | h1
  · exact absurd (I.closedBef h ((I.eff e he1 he2).2 h1)) hi
  · exact h1
theorem Inv.qE' (I : Inv w0 sz ops F S V φ0 d0 D q p φ w a) : q = ops.size ∨ (q < ops.size ∧ (V q).isE = true) := by
  rcases I.qE with h | h
  · exact .inl h
  · rcases Nat.lt_or_ge q ops.size with h1 | h1
    · exact .inr ⟨h1, h⟩
    · exact .inl (by have := I.qle; omega)

/-- A new block's number lies in the stage under way. -/
theorem Inv.inStage (I : Inv w0 sz ops F S V φ0 d0 D q p φ w a) (L : Looks P tb ops F S V) (R : RegOk ops) {i : Nat} {o : Oper} (ho : ops[i]? = some o) (hi : ¬ D i) (hr : ∀ e ∈ o.after, Region.binds .any e = true → D e.on) (hn : (V i).isN = true) : p ≤ i ∧ i < q := by
  have hlt : i < ops.size := (Array.getElem?_eq_some_iff.1 ho).1
  constructor
  · rcases Nat.lt_or_ge i p with h | h
    · exfalso
      rcases I.pE with h1 | h1
      · omega
      · have hpq := I.ple
        have hq := I.qle
        have he : p - 1 < ops.size := by omega
        have hD := (I.eff (p - 1) he h1).2 (by omega)
        rcases L.hN i (p - 1) hlt he hn h1 with h2 | h2
        · have := R.bef_lt h2; 
          by_cases e : i = p - 1
          · subst e; exact hi hD
          · omega
        · exact hi (I.closedBef h2 hD)
    · exact h
  · rcases Nat.lt_or_ge i q with h | h
    · exact h
    · exfalso
      rcases I.qE' with h1 | ⟨h1, h2⟩
      · omega
      · rcases L.hN i q hlt h1 hn h2 with h3 | h3
        · have := (I.eff q h1 h2).1 (I.preds ho hr h3); omega
        · have := R.bef_lt h3; omega

theorem Inv.step (hP : TbOk P tb) (hC : CallOk P w0 call) (c : Canon P tb call ops m rs F S V) (L : Looks P tb ops F S V) (R : RegOk ops) (M : PreOk m sz.next (S 0).next) (I : Inv w0 sz ops F S V φ0 d0 D q p φ w a) {i : Nat} {o : Oper} (ho : ops[i]? = some o) (hi : ¬ D i)
    (hr : ∀ e ∈ o.after, Region.binds .any e = true → D e.on) (b : Frame) (rest : List Nat) (k : List Item) (cs : List Frame) :
    ∃ q' p' φ' w' cv, Steps P (lone (fat b a (.inRegion ops (i :: rest) :: k)) cs w) (lone (fat b (a.put o.dst cv) (.inRegion ops rest :: k)) cs w') ∧ Inv w0 sz ops F S V φ0 d0 (fun j => D j ∨ j = i) q' p' φ' w' (a.put o.dst cv) := by
  have hlt : i < ops.size := (Array.getElem?_eq_some_iff.1 ho).1
  have hfr := I.fr c R ho hi (fun x h => I.preds ho hr h)
  have hall := I.allowed ho hi hr
  have h0q : (S 0).next ≤ (S q).next := c.mono L (Nat.zero_le _) I.qle
  have hszq : sz.next ≤ (S q).next := Nat.le_trans M.le h0q
  have hplt0 : ∀ {j id : Nat} {out : QOut}, j < ops.size → V j = .p id out → sz.next ≤ id ∧ id < (S 0).next := fun {j id out} h1 h2 => M.bound j id out (c.pre (Array.getElem?_eq_getElem h1) h2)
  have hplt : ∀ {j id : Nat} {out : QOut}, j < ops.size → V j = .p id out → id < (S q).next := fun h1 h2 => Nat.lt_of_lt_of_le (hplt0 h1 h2).2 h0q
  -- a step of which the stage's state knows
  have flat : (V i).isE = false → (V i).isN = false → aStep P tb call ops.toList (narrow (F i) (o.looksAt ops)) (S q) o = some (V i) → (V i).st (S q) = S q → (V i).val (S q) = (V i).val (S i) →
      ∃ q' p' φ' w' cv, Steps P (lone (fat b a (.inRegion ops (i :: rest) :: k)) cs w) (lone (fat b (a.put o.dst cv) (.inRegion ops rest :: k)) cs w') ∧ Inv w0 sz ops F S V φ0 d0 (fun j => D j ∨ j = i) q' p' φ' w' (a.put o.dst cv) := by
    intro hE hN hs h1 h2
    obtain ⟨ψ, cv, w', e1, e2, e3, e4, e5⟩ := step_core hP hC I.rel hfr ho hs b rest k cs
    rw [h1] at e4
    rw [h2] at e5
    refine ⟨q, p, ψ, w', cv, e1, I.stay c L R ho hi hr hE (e2.le I.rel) e4 e5 ?_ ?_ (I.ext.trans hszq e2)⟩
    · intro j k1 k2 k3 k4 k5 k6
      rw [e2.to]
      · exact k6
      · have := c.new1 (i := j) (by have := I.qle; omega) k5
        have := c.mono L (i := j + 1) (j := q) (by omega) I.qle
        omega
    · intro j id out j1 _ _ j2 j3
      rw [e2 _ (hplt j1 j2)]; exact j3
  cases hv : V i with
  | un =>
    have hst := c.real ho (by rw [hv]; intro _ _ x; cases x)
    rw [hv] at hst
    have hw := aStep_un hst
    exact flat (by rw [hv]; rfl) (by rw [hv]; rfl) (by rw [hv]; unfold aStep; rw [hw]) (by rw [hv]; rfl) (by rw [hv]; rfl)
  | e v s' =>
    have hst := c.real ho (by rw [hv]; intro _ _ x; cases x)
    have hE : (V i).isE = true := by rw [hv]; rfl
    have hiq : i = q := by
      have h1 : ¬ i < q := fun h => hi ((I.eff i hlt hE).2 h)
      rcases I.qE' with h2 | ⟨h2, h3⟩
      · omega
      · rcases Nat.lt_or_ge q i with h4 | h4
        · have := (I.eff q h2 h3).1 (I.preds ho hr (L.hE q i h2 hlt h3 hE h4))
          omega
        · omega
    subst hiq
    obtain ⟨ψ, cv, w', e1, e2, e3, e4, e5⟩ := step_core hP hC I.rel hfr ho hst b rest k cs
    rw [← c.st i o ho] at e4
    have hp := I.putOk c R ho (e2.le I.rel) e5
    obtain ⟨q', g1, g2, g3, g4⟩ := next_effect V ops.size (ops.size - (i + 1)) (i + 1) (by omega)
    have hx := c.quiet g1 g2 g3 e4.wf
    refine ⟨q', i + 1, ψ, w', cv, e1, ⟨?_, ?_, g1, g2, g3, g4, .inr (by simpa using hE), ?_, e4.qext hx, e4.wf, ?_, ?_, hp.size, hp.done, hp.old, I.ext.trans hszq e2, (put_defers _ _ _).trans I.defers⟩⟩
    · intro j hj
      rcases hj with hj | hj
      · exact I.dn j hj
      · omega
    · intro j oj hj hoj e he hb
      rcases hj with hj | hj
      · exact .inl (I.closed j oj hj hoj e he hb)
      · subst hj; rw [ho] at hoj; cases hoj; exact .inl (hr e he hb)
    · intro e he1 he2
      constructor
      · intro h
        rcases h with h | h
        · have := (I.eff e he1 he2).1 h; omega
        · omega
      · intro h
        by_cases e' : e = i
        · exact .inr e'
        · rcases Nat.lt_or_ge e i with h1 | h1
          · exact .inl ((I.eff e he1 he2).2 h1)
          · have := g3 e (by omega) h
            rw [he2] at this; cases this
    · intro j h1 h2 h3 h4
      cases hψ : ψ (S j).next with
      | none => rfl
      | some t =>
        have := e4.fresh _ t hψ
        have := c.mono L (i := i + 1) (j := j) h1 (by omega)
        omega
    · intro j id out h1 h2 h3
      rw [e2 _ (hplt h1 h3)]
      exact I.unbP j id out h1 (fun h => h2 (.inl h)) h3
  | q out =>
    have hst' := c.real ho (by rw [hv]; intro _ _ x; cases x)
    rw [hv] at hst'
    have hw := aStep_q hst'
    have hq := L.hQ i o out q ho hv I.qE' hall
    have hs : aStep P tb call ops.toList (narrow (F i) (o.looksAt ops)) (S q) o = some (.q out) := by
      unfold aStep; rw [hw]; simp only []; rw [hq]
    have hE : (V i).isE = false := by rw [hv]; rfl
    cases out with
    | val v => exact flat hE (by rw [hv]; rfl) (by rw [hv]; exact hs) (by rw [hv]; rfl) (by rw [hv]; rfl)
    | new elem es cells sh =>
      have hN : (V i).isN = true := by rw [hv]; rfl
      obtain ⟨hpi, hiq⟩ := I.inStage L R ho hi hr hN
      obtain ⟨h0, ccs, r1, r2⟩ := aq_sound hP I.rel (hfr.rho I.rel) hq
      have hid := I.unb i hpi hiq hi hN
      have hsi : S (i + 1) = aalloc (S i) elem es cells := by rw [c.st i o ho, hv]; rfl
      have hnext : (S (i + 1)).next = (S i).next + 1 := c.new1 hlt hN
      have wfi : Wf (S i) := (c.quiet hpi (by omega) (fun j a b => I.noE j a (by omega)) I.wfp).wf I.wfp
      have wfi1 : Wf (S (i + 1)) := by rw [hsi]; exact (Qext.alloc wfi elem es cells).wf wfi
      have x1 := c.quiet (p := i + 1) (q := q) (by omega) I.qle (fun j a b => I.noE j (by omega) b) wfi1
      have x0 := c.quiet (p := i) (q := q) (by omega) I.qle (fun j a b => I.noE j (by omega) b) wfi
      have hidlt : (S i).next < (S (i + 1)).next := by omega
      have hV : (S q).views.get (S i).next = some { root := (S i).next, ext := cells.length, exact := true } := by
        rw [x1.views _ hidlt, hsi]; simp only [aallocX]; rw [T.get_set_same]
      have hR : (S q).roots.get (S i).next = some { elem := elem, es := es, cells := cellsOf cells, cur := (S i).next, flo := 0, fhi := 0, ro := false, sish := false } := by
        rw [x1.roots _ hidlt, hsi]; simp only [aallocX]; rw [T.get_set_same]
      have hO : (S q).objs.get (S i).next = none := by
        rw [x1.objs _ hidlt, hsi]
        cases ho' : (S i).objs.get (S i).next with
        | none => exact ho'
        | some x => have := wfi.objs _ _ ho'; omega
      have hu : ∀ v W, (S q).views.get v = some W → W.root = (S i).next → v = (S i).next := by
        intro v W hW hroot
        rcases Nat.lt_or_ge v (S i).next with h1 | h1
        · rw [x0.views v h1] at hW
          have := wfi.views v W hW; omega
        · have := x0.newV v W hW h1; omega
      have hrel := I.rel.bindNew hid (by have := x1.next; omega) hV hR hO r1
      have hval : VR (φ.with (S i).next ⟨w.heap.size, ccs.length, es⟩) ((V i).val (S i)) (sh.val w.heap.size) := by
        rw [hv]
        cases sh with
        | ptr => exact VR.ptr (φ := φ.with (S i).next _) (S i).next 0 _ (Emb.with_same _ _ _)
        | slice l cc => exact VR.slice (φ := φ.with (S i).next _) (S i).next 0 _ l cc cc (Emb.with_same _ _ _) (fun _ => rfl) (fun e => absurd e (h0 l cc rfl))
      refine ⟨q, p, _, _, sh.val w.heap.size, OpRun.value ho (awanted_sound hfr hw) (notDefer_q hq) r2 b rest k cs, I.stay c L R ho hi hr hE ?_ hrel hval ?_ ?_ ?_⟩
      · refine ⟨?_, rfl⟩
        intro v t e
        rw [Emb.with_other _ _ ?_]; exact e
        intro x; subst x; rw [hid] at e; cases e
      · intro j k1 k2 k3 k4 k5 k6
        rw [Emb.with_other _ _ ?_]; exact k6
        have n1 := c.new1 (i := j) (by have := I.qle; omega) k5
        rcases Nat.lt_or_ge j i with h1 | h1
        · have := c.mono L (i := j + 1) (j := i) (by omega) (by omega); omega
        · have := c.mono L (i := i + 1) (j := j) (by omega) (by have := I.qle; omega); omega
      · intro j id out j1 _ _ j2 j3
        rw [Emb.with_other _ _ ?_]; exact j3
        have := (hplt0 j1 j2).2
        have := c.mono L (i := 0) (j := i) (Nat.zero_le _) (by omega); omega
      · refine ⟨?_, I.ext.sig⟩
        intro v hv'
        rw [Emb.with_other _ _ ?_]; exact I.ext v hv'
        have := M.le
        have := c.mono L (i := 0) (j := i) (Nat.zero_le _) (by omega); omega
    | obj ob =>
      have hN : (V i).isN = true := by rw [hv]; rfl
      obtain ⟨hpi, hiq⟩ := I.inStage L R ho hi hr hN
      obtain ⟨co, r1, r2⟩ := aq_sound hP I.rel (hfr.rho I.rel) hq
      have hid := I.unb i hpi hiq hi hN
      have hsi : S (i + 1) = aobj (S i) ob := by rw [c.st i o ho, hv]; rfl
      have hnext : (S (i + 1)).next = (S i).next + 1 := c.new1 hlt hN
      have wfi : Wf (S i) := (c.quiet hpi (by omega) (fun j a b => I.noE j a (by omega)) I.wfp).wf I.wfp
      have wfi1 : Wf (S (i + 1)) := by rw [hsi]; exact (Qext.obj wfi ob).wf wfi
      have x1 := c.quiet (p := i + 1) (q := q) (by omega) I.qle (fun j a b => I.noE j (by omega) b) wfi1
      have hidlt : (S i).next < (S (i + 1)).next := by omega
      have hV : (S q).views.get (S i).next = none := by
        rw [x1.views _ hidlt, hsi]
        cases ho' : (S i).views.get (S i).next with
        | none => exact ho'
        | some x => have := wfi.views _ _ ho'; omega
      have hO : (S q).objs.get (S i).next = some ob := by
        rw [x1.objs _ hidlt, hsi]; simp only [aobj]; rw [T.get_set_same]
      have hrel := I.rel.bindObj hid (by have := x1.next; omega) hV hO r1
      have hval : VR (φ.with (S i).next ⟨w.heap.size, 0, 0⟩) ((V i).val (S i)) (.map (some w.heap.size)) := by
        rw [hv]
        exact VR.map (φ := φ.with (S i).next _) (S i).next _ (Emb.with_same _ _ _)
      refine ⟨q, p, _, _, .map (some w.heap.size), OpRun.value ho (awanted_sound hfr hw) (notDefer_q hq) r2 b rest k cs, I.stay c L R ho hi hr hE ?_ hrel hval ?_ ?_ ?_⟩
      · refine ⟨?_, rfl⟩
        intro v t e
        rw [Emb.with_other _ _ ?_]; exact e
        intro x; subst x; rw [hid] at e; cases e
      · intro j k1 k2 k3 k4 k5 k6
        rw [Emb.with_other _ _ ?_]; exact k6
        have n1 := c.new1 (i := j) (by have := I.qle; omega) k5
        rcases Nat.lt_or_ge j i with h1 | h1
        · have := c.mono L (i := j + 1) (j := i) (by omega) (by omega); omega
        · have := c.mono L (i := i + 1) (j := j) (by omega) (by have := I.qle; omega); omega
      · intro j id out j1 _ _ j2 j3
        rw [Emb.with_other _ _ ?_]; exact j3
        have := (hplt0 j1 j2).2
        have := c.mono L (i := 0) (j := i) (Nat.zero_le _) (by omega); omega
      · refine ⟨?_, I.ext.sig⟩
        intro v hv'
        rw [Emb.with_other _ _ ?_]; exact I.ext v hv'
        have := M.le
        have := c.mono L (i := 0) (j := i) (Nat.zero_le _) (by omega); omega
  | p id out =>
    have hE : (V i).isE = false := by rw [hv]; rfl
    have hN : (V i).isN = false := by rw [hv]; rfl
    obtain ⟨hg, hlook⟩ := L.hP i o id out ho hv
    obtain ⟨hbind, hq⟩ := hlook q I.qE' hall
    have hid := I.unbP i id out hlt hi hv
    have hidq := hplt hlt hv
    have hw : Region.wanted o (yielded ops a.tmps) = true := by unfold Region.wanted; rw [hg]
    have others : ∀ (t : Tgt) j id' out', j < ops.size → ¬ D j → j ≠ i → V j = .p id' out' → φ id' = none → (φ.with id t) id' = none := by
      intro t j id' out' j1 _ j2 j3 j4
      rw [Emb.with_other _ _ ?_]; exact j4
      intro x; subst x
      exact j2 (M.inj j i _ _ _ (c.pre (Array.getElem?_eq_getElem j1) j3) (c.pre ho hv))
    have hle : ∀ t, φ.le (φ.with id t) := by
      intro t
      refine ⟨?_, rfl⟩
      intro v t' e
      rw [Emb.with_other _ _ ?_]; exact e
      intro x; subst x; rw [hid] at e; cases e
    have hnews : ∀ (t : Tgt) j, p ≤ j → j < q → ¬ D j → j ≠ i → (V j).isN = true → φ (S j).next = none → (φ.with id t) (S j).next = none := by
      intro t j k1 k2 k3 k4 k5 k6
      rw [Emb.with_other _ _ ?_]; exact k6
      have := (hplt0 hlt hv).2
      have := c.mono L (i := 0) (j := j) (Nat.zero_le _) (by have := I.qle; omega); omega
    have hexts : ∀ t, Ext sz φ0 (φ.with id t) := by
      intro t
      refine ⟨?_, I.ext.sig⟩
      intro v hv'
      rw [Emb.with_other _ _ ?_]; exact I.ext v hv'
      have := (hplt0 hlt hv).1; omega
    cases out with
    | val v => cases hbind
    | new elem es cells sh =>
      obtain ⟨h0, ccs, r1, r2⟩ := aq_sound hP I.rel (hfr.rho I.rel) hq
      obtain ⟨hV, hR, hO⟩ := okBind_new hbind
      have hrel := I.rel.bindNew hid hidq hV hR hO r1
      have hval : VR (φ.with id ⟨w.heap.size, ccs.length, es⟩) ((V i).val (S i)) (sh.val w.heap.size) := by
        rw [hv]
        cases sh with
        | ptr => exact VR.ptr (φ := φ.with id _) id 0 _ (Emb.with_same _ _ _)
        | slice l cc => exact VR.slice (φ := φ.with id _) id 0 _ l cc cc (Emb.with_same _ _ _) (fun _ => rfl) (fun e => absurd e (h0 l cc rfl))
      exact ⟨q, p, _, _, sh.val w.heap.size, OpRun.value ho hw (notDefer_q hq) r2 b rest k cs, I.stay c L R ho hi hr hE (hle _) hrel hval (hnews _) (others _) (hexts _)⟩
    | obj ob =>
      obtain ⟨co, r1, r2⟩ := aq_sound hP I.rel (hfr.rho I.rel) hq
      obtain ⟨hV, hO⟩ := okBind_obj hbind
      have hrel := I.rel.bindObj hid hidq hV hO r1
      have hval : VR (φ.with id ⟨w.heap.size, 0, 0⟩) ((V i).val (S i)) (.map (some w.heap.size)) := by
        rw [hv]
        exact VR.map (φ := φ.with id _) id _ (Emb.with_same _ _ _)
      exact ⟨q, p, _, _, .map (some w.heap.size), OpRun.value ho hw (notDefer_q hq) r2 b rest k cs, I.stay c L R ho hi hr hE (hle _) hrel hval (hnews _) (others _) (hexts _)⟩
end
end Go.Proofs.YtcmlomjdkjcjpaaGreatDoor.Vai
