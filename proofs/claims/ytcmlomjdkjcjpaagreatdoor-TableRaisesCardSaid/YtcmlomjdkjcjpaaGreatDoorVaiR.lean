/- A part of an evaluator of the model's code whose answers are proved sound: no statement on the program stands here. -/
import Derived.Test.YtcmlomjdkjcjpaaGreatDoorVaiQ
open Go Go.RowKit
namespace Go.Proofs.YtcmlomjdkjcjpaaGreatDoor.Vai
set_option linter.unusedVariables false
set_option linter.unusedSimpArgs false

section
variable {P : Program} {tb : Tb} {w0 : Base} {φ ψ : Emb} {s s' : St} {w : World} {fr fr' : Fr} {a : Act} {ρ : Operand → Option Value} {σ : Operand → Value}

/-- What an effect comes to, as the machine is told. -/
def EN (w0 : Base) (φ : Emb) (s s' : St) (v : Value) (res : Result Next) : Prop :=
  ∃ ψ w' nx c, res = .ok nx w' ∧ (nx = .value c ∨ (nx = .skip ∧ c = undef)) ∧ Ext s φ ψ ∧ s.next ≤ s'.next ∧ Rel w0 ψ s' w' ∧ VR ψ v c

theorem ER.lift {m : Sem Value} {v : Value} (h : ER w0 φ s s' w v (m.run P w)) : EN w0 φ s s' v ((do pure (Next.value (← m)) : Sem Next).run P w) := by
  obtain ⟨ψ, w', c, h1, h2, h3, h4, h5⟩ := h
  exact ⟨ψ, w', .value c, c, by simp [h1], .inl rfl, h2, h3, h4, h5⟩

theorem undef_rel (φ : Emb) : VR φ undef undef := VR.of_plain φ undef rfl

section
variable (σ : Operand → Value) (dst : Option Tmp) (type : TypeId) (pos : String) (after : Array Edge) (guard : Option (Nat × Bool))
theorem xo_store (t : TypeId) (x y : Operand) : execOp σ ⟨dst, .store t x y, type, pos, after, guard⟩ = (do Instr.storeAt t (σ x) (σ y); pure .skip) := rfl
theorem xo_mapUpdate (t : TypeId) (m k x : Operand) : execOp σ ⟨dst, .mapUpdate t m k x, type, pos, after, guard⟩ = (do Instr.mapUpdate t (σ m) (σ k) (σ x); pure .skip) := rfl
theorem xo_insert (t : TypeId) (m k x : Operand) : execOp σ ⟨dst, .insert t m k x, type, pos, after, guard⟩ = (do Instr.mapUpdate t (σ m) (σ k) (σ x); pure .skip) := rfl
theorem xo_range (t : TypeId) (x : Operand) : execOp σ ⟨dst, .range t x, type, pos, after, guard⟩ = (do pure (Next.value (← Instr.range t (σ x)))) := rfl
theorem xo_next (x : Operand) (str : Bool) : execOp σ ⟨dst, .next x str, type, pos, after, guard⟩ = (do pure (Next.value (← Instr.next (σ x) str type))) := rfl
theorem xo_call (f : Operand) (args : Array Operand) (argTypes : Array TypeId) {g : FuncId} {first captured : Array Value} (h : σ f = .func (.func g) first captured) :
    execOp σ ⟨dst, .call ⟨.value f, args, argTypes⟩, type, pos, after, guard⟩ = callFunc g (first ++ args.map σ ++ captured) := by
  have h1 : execOp σ ⟨dst, .call ⟨.value f, args, argTypes⟩, type, pos, after, guard⟩ = (do let d ← Deferred.ofValue (σ f) (args.map σ); invoke d.target d.args) := rfl
  rw [h1, h]
  rfl
end

theorem VR.func_inv {fn : Fn} {f1 c1 : Array Value} {c : Value} (h : VR φ (.func fn f1 c1) c) (hf : ∀ l, fn ≠ .yield l) : ∃ f2 c2, c = .func fn f2 c2 ∧ VRA φ f1 f2 ∧ VRA φ c1 c2 := by
  cases h with
  | func _ fn' _ f2 _ c2 hfn s1 s2 h1 h2 =>
    cases hfn with
    | same => exact ⟨f2, c2, rfl, ⟨s1, h1⟩, ⟨s2, h2⟩⟩
    | yield l t e => exact absurd rfl (hf l)

theorem callFunc_ext {P : Program} {f : FuncId} {k : ExtK} (h : ExtOk P f k) (args : Array Value) (w : World) : (callFunc f args).run P w = ((do pure (Next.value (← k.impl args)) : Sem Next).run P w) := by
  obtain ⟨fn, h1, h2, h3, h4, h5⟩ := h.ok
  have h2' : ¬ fn.name = "runtime.NumGoroutine" := by simpa using h2
  simp [callFunc, h1, h2', h3, h4, h5]

theorem callFunc_body {P : Program} {f : FuncId} {fn : Func} (h1 : P.funcs[f]? = some fn) (h2 : (fn.name == "runtime.NumGoroutine") = false) {c : Code} (h3 : fn.body = some c) (args : Array Value) (w : World) : (callFunc f args).run P w = .ok (.enter f args) w := by
  have h2' : ¬ fn.name = "runtime.NumGoroutine" := by simpa using h2
  simp [callFunc, h1, h2', h3]

theorem ae_sound (hP : TbOk P tb) (r : Rel w0 φ s w) (hρ : RhoR φ ρ σ) {o : Oper} {v : Value} (h : ae P tb s ρ o = some (v, s')) : EN w0 φ s s' v ((execOp σ o).run P w) := by
  obtain ⟨dst, op, type, pos, after, guard⟩ := o
  cases op with
  | store t x y =>
    replace h : (match ρ x, ρ y with
      | some va, some vx => (match astoreVar tb s t va vx with
        | some s' => some (undef, s')
        | none => none)
      | _, _ => none) = some (v, s') := h
    split at h
    · rename_i va vx ha hx
      split at h
      · rename_i s1 hs
        cases h
        obtain ⟨w', e1, e2⟩ := r.run_storeVar (P := P) hP hs (hρ x _ ha) (hρ y _ hx)
        rw [xo_store]
        exact ⟨φ, w', .skip, undef, by simp [e1], .inr ⟨rfl, rfl⟩, Ext.refl _ _, by rw [astoreVar_next hs]; exact Nat.le_refl _, e2, undef_rel φ⟩
      · cases h
    · cases h
  | convert src dst x =>
    replace h : (match ρ x with | some a => astringToBytes tb s src dst a | none => none) = some (v, s') := h
    split at h
    · rename_i va ha
      rw [xo_convert]
      exact ER.lift (astringToBytes_sound hP r h (hρ x _ ha))
    · cases h
  | mapUpdate t m k x =>
    replace h : (match ρ m, ρ k, ρ x with
      | some vm, some vk, some vx => (match aupdate P tb s t vm vk vx with
        | some s' => some (undef, s')
        | none => none)
      | _, _, _ => none) = some (v, s') := h
    split at h
    · rename_i vm vk vx hm hk hx
      split at h
      · rename_i s1 hs
        cases h
        obtain ⟨w', e1, e2, e3⟩ := aupdate_sound (P := P) hP r hs (hρ m _ hm) (hρ k _ hk) (hρ x _ hx)
        rw [xo_mapUpdate]
        exact ⟨φ, w', .skip, undef, by simp [e1], .inr ⟨rfl, rfl⟩, Ext.refl _ _, by rw [e3]; exact Nat.le_refl _, e2, undef_rel φ⟩
      · cases h
    · cases h
  | insert t m k x =>
    replace h : (match ρ m, ρ k, ρ x with
      | some vm, some vk, some vx => (match aupdate P tb s t vm vk vx with
        | some s' => some (undef, s')
        | none => none)
      | _, _, _ => none) = some (v, s') := h
    split at h
    · rename_i vm vk vx hm hk hx
      split at h
      · rename_i s1 hs
        cases h
        obtain ⟨w', e1, e2, e3⟩ := aupdate_sound (P := P) hP r hs (hρ m _ hm) (hρ k _ hk) (hρ x _ hx)
        rw [xo_insert]
        exact ⟨φ, w', .skip, undef, by simp [e1], .inr ⟨rfl, rfl⟩, Ext.refl _ _, by rw [e3]; exact Nat.le_refl _, e2, undef_rel φ⟩
      · cases h
    · cases h
  | range t x =>
    replace h : (match ρ x with | some a => arange tb s t a | none => none) = some (v, s') := h
    split at h
    · rename_i va ha
      rw [xo_range]
      exact ER.lift (arange_sound hP r h (hρ x _ ha))
    · cases h
  | next x str =>
    replace h : (match ρ x with | some a => anext s a str | none => none) = some (v, s') := h
    split at h
    · rename_i va ha
      rw [xo_next]
      exact ER.lift (anext_sound r h (hρ x _ ha))
    · cases h
  | call c =>
    obtain ⟨callee, args, argTypes⟩ := c
    replace h : aeCall P tb s ρ ⟨callee, args, argTypes⟩ = some (v, s') := h
    unfold aeCall at h
    simp only at h
    split at h
    · cases h
    · rename_i l hl
      have hl' : VRL φ l (args.map σ).toList := by
        have := amap_sound hρ _ _ hl
        rw [Array.toList_map]; exact this
      split at h
      · rename_i b
        rw [xo_builtin]
        split at h
        · exact ER.lift (m := Builtin.append_ argTypes type (args.map σ)) (aappend_sound hP r h hl')
        · exact ER.lift (m := Builtin.copy_ argTypes type (args.map σ)) (acopy_sound hP r h hl')
        · exact ER.lift (m := Builtin.clear_ argTypes type (args.map σ)) (aclear_sound hP r h hl')
        · exact ER.lift (m := Builtin.unsafeString_ argTypes type (args.map σ)) (aunsafeString_sound hP r h hl')
        · split at h
          · rename_i t0 tl m k xl hts
            split at h
            · rename_i s1 hs
              cases h
              have ht : argTypes[0]? = some t0 := by rw [← Array.getElem?_toList, hts]; rfl
              cases hcs : (args.map σ).toList with
              | nil => rw [hcs] at hl'; cases hl'
              | cons c1 cl =>
                rw [hcs] at hl'
                cases hl' with
                | cons _ _ _ _ hv1 hl2 =>
                  cases hl2 with
                  | cons _ c2 _ cl2 hv2 _ =>
                    have hc1 : (args.map σ)[0]? = some c1 := by rw [← Array.getElem?_toList, hcs]; rfl
                    have hc2 : (args.map σ)[1]? = some c2 := by rw [← Array.getElem?_toList, hcs]; rfl
                    obtain ⟨w', e1, e2, e3⟩ := adelete_sound (P := P) hP r hs hv1 hv2 ht hc1 hc2 type
                    exact ER.lift (m := Builtin.delete_ argTypes type (args.map σ)) ⟨φ, w', _, e1, Ext.refl _ _, by rw [e3]; exact Nat.le_refl _, e2, VR.of_plain φ _ rfl⟩
            · cases h
          · cases h
        · cases h
      · rename_i f
        split at h
        · rename_i g first captured hf
          split at h
          · rename_i k hk
            obtain ⟨f2, c2, e1, e2, e3⟩ := (hρ f _ hf).func_inv (fun l e => by cases e)
            rw [xo_call _ _ _ _ _ _ _ _ _ e1, callFunc_ext (hP.ext _ _ hk)]
            refine ER.lift (m := k.impl (f2 ++ args.map σ ++ c2)) (aext_sound hP r h ?_)
            rw [Array.toList_append, Array.toList_append]
            exact (e2.list.append hl').append e3.list
          · cases h
        · cases h
      · cases h
  | _ => cases h

theorem xo_yield (σ : Operand → Value) (dst : Option Tmp) (type : TypeId) (pos : String) (after : Array Edge) (guard : Option (Nat × Bool)) (f : Operand) (args : Array Operand) (argTypes : Array TypeId) {l : Nat} {first captured : Array Value} (h : σ f = .func (.yield l) first captured) :
    execOp σ ⟨dst, .call ⟨.value f, args, argTypes⟩, type, pos, after, guard⟩ = Instr.yield l (first ++ args.map σ) := by
  have h1 : execOp σ ⟨dst, .call ⟨.value f, args, argTypes⟩, type, pos, after, guard⟩ = (do let d ← Deferred.ofValue (σ f) (args.map σ); invoke d.target d.args) := rfl
  rw [h1, h]
  rfl

/-- What is called, and with what. -/
inductive Asked (P : Program) (φ : Emb) (w : World) (m : Sem Next) : Fn → List Value → Prop where
  | fn (f : FuncId) (cl : List Value) (h : m.run P w = (callFunc f cl.toArray).run P w) (l : List Value) (hl : VRL φ l cl) : Asked P φ w m (.func f) l
  | yield (r : Nat) (t : Tgt) (hr : φ r = some t) (cl : List Value) (h : m.run P w = (Instr.yield t.blk cl.toArray).run P w) (l : List Value) (hl : VRL φ l cl) : Asked P φ w m (.yield r) l

theorem acall_sound (hρ : RhoR φ ρ σ) {o : Oper} {f : Fn} {l : List Value} (h : acall tb ρ o = some (f, l)) : Asked P φ w (execOp σ o) f l := by
  obtain ⟨dst, op, type, pos, after, guard⟩ := o
  cases op with
  | call c =>
    obtain ⟨callee, args, argTypes⟩ := c
    unfold acall at h
    simp only at h
    split at h
    · rename_i x
      split at h
      · rename_i g first captured hf
        split at h
        · rename_i fn hfn
          split at h
          · rename_i code hbody
            split at h
            · rename_i l' hl
              cases h
              have hl' := amap_sound hρ _ _ hl
              obtain ⟨f2, c2, e1, e2, e3⟩ := (hρ x _ hf).func_inv (fun l e => by cases e)
              refine .fn g (f2.toList ++ args.toList.map σ ++ c2.toList) ?_ _ ((e2.list.append hl').append e3.list)
              rw [xo_call _ _ _ _ _ _ _ _ _ e1]
              congr 2
              apply Array.ext'
              simp
            · cases h
          · cases h
        · cases h
      · rename_i r first captured hf
        split at h
        · rename_i l' hl
          cases h
          have hl' := amap_sound hρ _ _ hl
          obtain ⟨cv, hcv, hc⟩ : ∃ cv, σ x = cv ∧ VR φ (.func (.yield r) first captured) cv := ⟨_, rfl, hρ x _ hf⟩
          cases hc with
          | func _ fn' _ f2 _ c2 hfn s1 s2 h1 h2 =>
            cases hfn with
            | same _ hn => exact absurd rfl (hn r)
            | yield _ t e =>
              refine .yield r t e (f2.toList ++ args.toList.map σ) ?_ _ (VRL.append (VRA.list ⟨s1, h1⟩) hl')
              rw [xo_yield _ _ _ _ _ _ _ _ _ hcv]
              congr 2
              apply Array.ext'
              simp
        · cases h
      · cases h
    · cases h
  | _ => cases h

theorem notDefer_q {o : Oper} {out : QOut} (h : aq P tb s ρ o = some out) : ∀ c, o.op ≠ .defer c := by
  intro c e
  obtain ⟨dst, op, type, pos, after, guard⟩ := o
  simp only at e
  subst e
  cases h
theorem notDefer_e {o : Oper} {r : Value × St} (h : ae P tb s ρ o = some r) : ∀ c, o.op ≠ .defer c := by
  intro c e
  obtain ⟨dst, op, type, pos, after, guard⟩ := o
  simp only at e
  subst e
  cases h
theorem notDefer_c {o : Oper} {r : Fn × List Value} (h : acall tb ρ o = some r) : ∀ c, o.op ≠ .defer c := by
  intro c e
  obtain ⟨dst, op, type, pos, after, guard⟩ := o
  simp only at e
  subst e
  cases h

theorem put_defers (a : Act) (d : Option Tmp) (v : Value) : (a.put d v).defers = a.defers := by cases d <;> rfl

/-- A quiet operation, in a world where the state's blocks are all there. -/
theorem quiet_step (hP : TbOk P tb) (r : Rel w0 φ s w) (hρ : RhoR φ ρ σ) {o : Oper} {out : QOut} (h : aq P tb s ρ o = some out) :
    ∃ ψ w' c, (execOp σ o).run P w = .ok (.value c) w' ∧ Ext s φ ψ ∧ s.next ≤ ((SRes.q out).st s).next ∧ Rel w0 ψ ((SRes.q out).st s) w' ∧ VR ψ ((SRes.q out).val s) c := by
  have hq := aq_sound hP r hρ h
  cases out with
  | val v => obtain ⟨c, e1, e2⟩ := hq; exact ⟨φ, w, c, e1, Ext.refl _ _, Nat.le_refl _, r, e2⟩
  | new elem es cells sh =>
    obtain ⟨h0, cs, e1, e2⟩ := hq
    refine ⟨_, _, _, e2, Ext.with (w0 := w0) _, Nat.le_succ _, r.alloc elem es e1, ?_⟩
    cases sh with
    | ptr => exact VR.ptr (φ := φ.with s.next _) s.next 0 _ (Emb.with_same _ _ _)
    | slice l c => exact VR.slice (φ := φ.with s.next _) s.next 0 _ l c c (Emb.with_same _ _ _) (fun _ => rfl) (fun e => absurd e (h0 l c rfl))
  | obj ob =>
    obtain ⟨c, e1, e2⟩ := hq
    exact ⟨_, _, _, e2, Ext.with (w0 := w0) _, Nat.le_succ _, r.newObj e1, VR.map (φ := φ.with s.next _) s.next _ (Emb.with_same _ _ _)⟩

/-- One operation. -/
theorem step_core (hP : TbOk P tb) {call : ACall} (hC : CallOk P w0 call) (r : Rel w0 φ s w) (f : FR φ fr a) {ops : Array Oper} {i : Nat} {o : Oper} (ho : ops[i]? = some o) {res : SRes} (h : aStep P tb call ops.toList fr s o = some res) (b : Frame) (rest : List Nat) (k : List Item) (cs : List Frame) :
    ∃ ψ c w', Steps P (lone (fat b a (.inRegion ops (i :: rest) :: k)) cs w) (lone (fat b (a.put o.dst c) (.inRegion ops rest :: k)) cs w') ∧ Ext s φ ψ ∧ s.next ≤ (res.st s).next ∧ Rel w0 ψ (res.st s) w' ∧ VR ψ (res.val s) c := by
  unfold aStep at h
  split at h
  · cases h
  · rename_i hw
    cases h
    have hwc := awanted_sound f hw
    exact ⟨φ, undef, w, OpRun.unwanted ho hwc b rest k cs, Ext.refl _ _, Nat.le_refl _, r, undef_rel φ⟩
  · rename_i hw
    have hwc := awanted_sound f hw
    have hρ := f.rho r
    split at h
    · rename_i out hq
      cases h
      obtain ⟨ψ, w', c, e1, e2, e3, e4, e5⟩ := quiet_step hP r hρ hq
      exact ⟨ψ, c, w', OpRun.value ho hwc (notDefer_q hq) e1 b rest k cs, e2, e3, e4, e5⟩
    · split at h
      · rename_i v s1 he
        cases h
        obtain ⟨ψ, w', nx, c, e1, e2, e3, e4, e5, e6⟩ := ae_sound hP r hρ he
        rcases e2 with rfl | ⟨rfl, rfl⟩
        · exact ⟨ψ, c, w', OpRun.value ho hwc (notDefer_e he) e1 b rest k cs, e3, e4, e5, e6⟩
        · exact ⟨ψ, undef, w', OpRun.skip ho hwc (notDefer_e he) e1 b rest k cs, e3, e4, e5, e6⟩
      · split at h
        · rename_i fn args hc
          split at h
          · rename_i v s1 hcall
            cases h
            have hg := fstepG_op (P := P) (b := b) (k := k) (cs := cs) (w := w) (rest := rest) ho hwc (notDefer_c hc)
            cases acall_sound (P := P) (w := w) hρ hc with
            | fn f cl e2 _ e1 =>
              obtain ⟨e3, hcalls⟩ := hC.fn f args s v s1 hcall φ w cl r e1
              rw [e3] at e2
              obtain ⟨e, w', frm, ⟨ψ, c, he, q1, q2, q3, q4⟩, hsteps, _, hleave⟩ := hcalls (fat b a (.inRegion ops (i :: rest) :: k) :: cs)
              subst he
              have hf := fat_finish b a ops i rest k c
              rw [ho] at hf
              simp only [Option.bind_some] at hf
              have henter : step P (lone (fat b a (.inRegion ops (i :: rest) :: k)) cs w) = .next (lone (Frame.enter P f cl.toArray .normal) (fat b a (.inRegion ops (i :: rest) :: k) :: cs) w) :=
                step_lone_go (by rw [hg]; simp [stepG.apply, e2, fat])
              refine ⟨ψ, c, w', .head henter (hsteps.trans (.one ?_)), q1, q2, q3, q4⟩
              rw [← hf]
              exact step_leave_returned hleave
            | yield rr t hr cl e2 _ e1 =>
              obtain ⟨f, tmps, assign, body, e3, hround⟩ := hC.round rr args s v s1 hcall φ w cl t r hr e1
              rw [e3] at e2
              obtain ⟨cv, w', ⟨ψ, c, he, q1, q2, q3, q4⟩, hsteps⟩ := hround (fat b a (.inRegion ops (i :: rest) :: k)) cs
              cases he
              have hf := fat_finish b a ops i rest k cv
              rw [ho] at hf
              simp only [Option.bind_some] at hf
              have henter : step P (lone (fat b a (.inRegion ops (i :: rest) :: k)) cs w) = .next (lone (Frame.round t.blk f tmps assign body .normal) (fat b a (.inRegion ops (i :: rest) :: k) :: cs) w) :=
                step_lone_go (by rw [hg]; simp [stepG.apply, e2, fat])
              refine ⟨ψ, cv, w', .head henter ?_, q1, q2, q3, q4⟩
              rw [← hf]
              exact hsteps
          · cases h
        · cases h

theorem step_sound (hP : TbOk P tb) {call : ACall} (hC : CallOk P w0 call) (r : Rel w0 φ s w) (f : FR φ fr a) {ops : Array Oper} {i : Nat} {o : Oper} (ho : ops[i]? = some o) {res : SRes} (h : aStep P tb call ops.toList fr s o = some res)
    (hp : aput fr o.dst (res.val s) = some fr') (b : Frame) (rest : List Nat) (k : List Item) (cs : List Frame) :
    ∃ ψ a' w', Steps P (lone (fat b a (.inRegion ops (i :: rest) :: k)) cs w) (lone (fat b a' (.inRegion ops rest :: k)) cs w') ∧ Ext s φ ψ ∧ s.next ≤ (res.st s).next ∧ Rel w0 ψ (res.st s) w' ∧ FR ψ fr' a' ∧ a'.defers = a.defers := by
  obtain ⟨ψ, c, w', e1, e2, e3, e4, e5⟩ := step_core hP hC r f ho h b rest k cs
  exact ⟨ψ, _, w', e1, e2, e3, e4, (f.mono (e2.le r)).put hp e5, put_defers _ _ _⟩

/-- Operations in the order of the text. -/
theorem ops_sound (hP : TbOk P tb) {call : ACall} (hC : CallOk P w0 call) {ops : Array Oper} : ∀ (l : List Oper) (i : Nat) (fr fr' : Fr) (s s' : St) (φ : Emb) (a : Act) (w : World), (∀ j o, l[j]? = some o → ops[i + j]? = some o) → aOps P tb call ops.toList l fr s = some (fr', s') → Rel w0 φ s w → FR φ fr a →
    ∀ (b : Frame) (k : List Item) (cs : List Frame), ∃ ψ a' w', Steps P (lone (fat b a (.inRegion ops ((List.range l.length).map (i + ·)) :: k)) cs w) (lone (fat b a' k) cs w') ∧ Ext s φ ψ ∧ s.next ≤ s'.next ∧ Rel w0 ψ s' w' ∧ FR ψ fr' a' ∧ a'.defers = a.defers := by
  intro l
  induction l with
  | nil =>
    intro i fr fr' s s' φ a w _ h r f b k cs
    simp only [aOps, Option.some.injEq, Prod.mk.injEq] at h
    obtain ⟨rfl, rfl⟩ := h
    exact ⟨φ, a, w, .one fstep_region_end, Ext.refl _ _, Nat.le_refl _, r, f, rfl⟩
  | cons o l ih =>
    intro i fr fr' s s' φ a w hl h r f b k cs
    simp only [aOps] at h
    split at h
    · cases h
    · rename_i res hres
      split at h
      · cases h
      · rename_i fr1 hput
        have ho : ops[i]? = some o := by have := hl 0 o rfl; simpa using this
        have hidx : (List.range (o :: l).length).map (i + ·) = i :: (List.range l.length).map (i + 1 + ·) := by
          simp only [List.length_cons, List.range_succ_eq_map, List.map_cons, List.map_map]
          congr 1
          apply List.map_congr_left
          intro x _
          simp; omega
        rw [hidx]
        obtain ⟨ψ, a1, w1, e1, e2, e3, e4, e5, e6⟩ := step_sound hP hC r f ho hres hput b ((List.range l.length).map (i + 1 + ·)) k cs
        obtain ⟨ψ2, a2, w2, g1, g2, g3, g4, g5, g6⟩ := ih (i + 1) fr1 fr' _ s' ψ a1 w1 (fun j o' hj => by have := hl (j + 1) o' (by simpa using hj); rw [show i + 1 + j = i + (j + 1) by omega]; exact this) h e4 e5 b k cs
        exact ⟨ψ2, a2, w2, e1.trans g1, e2.trans e3 g2, Nat.le_trans e3 g3, g4, g5, g6.trans e6⟩
end
end Go.Proofs.YtcmlomjdkjcjpaaGreatDoor.Vai
