/- A part of an evaluator of the model's code whose answers are proved sound: no statement on the program stands here. -/
import Derived.Test.YtbjickdjkgefcaaGreatDoorVO
section
open Go Go.RowKit
noncomputable section
namespace Go.Proofs.YtbjickdjkgefcaaGreatDoor.Vai
set_option linter.unusedVariables false
set_option linter.unusedSimpArgs false

structure Fr where
  tm : T Value
  n : Nat

def aev (s : St) (fr : Fr) : Operand → Option Value
  | .tmp t => fr.tm.get t
  | .const v => bif plain v then some v else none
  | .global g => bif Nat.blt g s.ng then match s.views.get g with
      | some _ => some (.pointer (some ⟨g, 0, none⟩))
      | none => none
    else none
  | .func f => some (.func (.func f) #[] #[])

structure FR (φ : Emb) (fr : Fr) (a : Act) : Prop where
  size : a.tmps.size = fr.n
  at_ : ∀ t v, fr.tm.get t = some v → ∃ c, a.tmps[t]? = some c ∧ VR φ v c

def aput (fr : Fr) (dst : Option Tmp) (v : Value) : Option Fr :=
  match dst with
  | none => some fr
  | some d => match fr with
    | ⟨tm, n⟩ => bif Nat.blt d n then some ⟨tm.set d v, n⟩ else none
theorem aput_some (fr : Fr) (d : Tmp) (v : Value) : aput fr (some d) v = bif Nat.blt d fr.n then some { fr with tm := fr.tm.set d v } else none := by cases fr; rfl

def awanted (ops : List Oper) (fr : Fr) (o : Oper) : Option Bool :=
  match o.guard with
  | none => some true
  | some (j, want) => match ops[j]? with
    | none => none
    | some g => match g.dst with
      | none => none
      | some d => match fr.tm.get d with
        | none => none
        | some (.bool b) => some (b == want)
        | some (.chan (some _)) => none
        | some _ => some false

/-- Operations with an effect. -/
def aeCall (P : Program) (tb : Tb) (s : St) (ρ : Operand → Option Value) (c : Call) : Option (Value × St) :=
  match amap ρ c.args.toList with
  | none => none
  | some l => match c.callee with
    | .builtin b => match b with
      | .append => aappend tb s c.argTypes.toList l
      | .copy => acopy tb s c.argTypes.toList l
      | .clear => aclear tb s c.argTypes.toList l
      | .unsafeString => aunsafeString tb s c.argTypes.toList l
      | .delete => match c.argTypes.toList, l with
        | t :: _, m :: k :: _ => match adelete P tb s t m k with
          | some s' => some (.tuple #[], s')
          | none => none
        | _, _ => none
      | _ => none
    | .value f => match ρ f with
      | some (.func (.func g) first captured) => match tb.ext.get g with
        | some k => aext P tb s k (first.toList ++ l ++ captured.toList)
        | none => none
      | _ => none
    | _ => none

def ae (P : Program) (tb : Tb) (s : St) (ρ : Operand → Option Value) (o : Oper) : Option (Value × St) :=
  match o.op with
  | .store t a x => match ρ a, ρ x with
    | some va, some vx => match astoreVar tb s t va vx with
      | some s' => some (undef, s')
      | none => none
    | _, _ => none
  | .convert src dst x => match ρ x with
    | some a => astringToBytes tb s src dst a
    | none => none
  | .mapUpdate t m k x => match ρ m, ρ k, ρ x with
    | some vm, some vk, some vx => match aupdate P tb s t vm vk vx with
      | some s' => some (undef, s')
      | none => none
    | _, _, _ => none
  | .insert t m k x => match ρ m, ρ k, ρ x with
    | some vm, some vk, some vx => match aupdate P tb s t vm vk vx with
      | some s' => some (undef, s')
      | none => none
    | _, _, _ => none
  | .range t x => match ρ x with
    | some a => arange tb s t a
    | none => none
  | .next it str => match ρ it with
    | some a => anext s a str
    | none => none
  | .call c => aeCall P tb s ρ c
  | _ => none

/-- A call of a function with a body, or of a round. -/
def acall (tb : Tb) (ρ : Operand → Option Value) (o : Oper) : Option (Fn × List Value) :=
  match o.op with
  | .call c => match c.callee with
    | .value f => match ρ f with
      | some (.func (.func g) first captured) => match tb.fns.get g with
        | some fn => match fn.body with
          | some _ => match amap ρ c.args.toList with
            | some l => some (.func g, first.toList ++ l ++ captured.toList)
            | none => none
          | none => none
        | none => none
      | some (.func (.yield r) first captured) => match amap ρ c.args.toList with
        | some l => some (.yield r, first.toList ++ l)
        | none => none
      | _ => none
    | _ => none
  | _ => none

abbrev ACall := Fn → List Value → St → Option (Value × St)

inductive SRes where
  | un
  | q (o : QOut)
  | e (v : Value) (s : St)
  | p (id : Nat) (out : QOut)

def aStep (P : Program) (tb : Tb) (call : ACall) (ops : List Oper) (fr : Fr) (s : St) (o : Oper) : Option SRes :=
  match awanted ops fr o with
  | none => none
  | some false => some .un
  | some true => match aq P tb s (aev s fr) o with
    | some out => some (.q out)
    | none => match ae P tb s (aev s fr) o with
      | some (v, s') => some (.e v s')
      | none => match acall tb (aev s fr) o with
        | some (f, args) => match call f args s with
          | some (v, s') => some (.e v s')
          | none => none
        | none => none

def SRes.val (s : St) : SRes → Value
  | .un => undef
  | .q (.val v) => v
  | .q (.new _ _ _ sh) => sh.val s.next
  | .q (.obj _) => .map (some s.next)
  | .e v _ => v
  | .p id (.new _ _ _ sh) => sh.val id
  | .p id (.obj _) => .map (some id)
  | .p _ (.val v) => v
def SRes.st (s : St) : SRes → St
  | .un => s
  | .q (.val _) => s
  | .q (.new elem es cells _) => aalloc s elem es cells
  | .q (.obj o) => aobj s o
  | .e _ s' => s'
  | .p _ _ => s

/-- On from a step's value and state (no thunks of states pile up). -/
def SRes.go {β : Type} (r : SRes) (s : St) (k : Value → St → Option β) : Option β :=
  match r with
  | .un => k undef s
  | .q (.val v) => k v s
  | .q (.new elem es cells sh) => k (sh.val s.next) (aalloc s elem es cells)
  | .q (.obj o) => k (.map (some s.next)) (aobj s o)
  | .e v s' => k v s'
  | .p id (.new _ _ _ sh) => k (sh.val id) s
  | .p id (.obj _) => k (.map (some id)) s
  | .p _ (.val v) => k v s
theorem SRes.go_eq {β : Type} (r : SRes) (s : St) (k : Value → St → Option β) : r.go s k = k (r.val s) (r.st s) := by
  cases r with
  | un => rfl
  | q o => cases o <;> rfl
  | e => rfl
  | p i o => cases o <;> rfl

def aOps (P : Program) (tb : Tb) (call : ACall) (ops : List Oper) : List Oper → Fr → St → Option (Fr × St)
  | [], fr, s => some (fr, s)
  | o :: rest, fr, s => match aStep P tb call ops fr s o with
    | none => none
    | some r => r.go s fun v s' => match aput fr o.dst v with
      | none => none
      | some fr' => aOps P tb call ops rest fr' s'

/-- What a call comes to. -/
def Post (w0 : Base) (φ : Emb) (s s' : St) (v : Value) (e : Ending) (w' : World) : Prop :=
  ∃ ψ c, e = .returned c ∧ Ext s φ ψ ∧ s.next ≤ s'.next ∧ Rel w0 ψ s' w' ∧ VR ψ v c

/-- A round that comes back to whoever called it. -/
def RoundRuns (P : Program) (l : Nat) (args : Array Value) (w : World) (Q : Ending → World → Prop) : Prop :=
  ∃ (f : FuncId) (tmps : Array Value) (assign body : Code), (Instr.yield l args).run P w = .ok (.round l f tmps assign body) w ∧
    ∀ (c : Frame) (cs : List Frame), ∃ v w', Q (.returned v) w' ∧ Steps P (lone (Frame.round l f tmps assign body .normal) (c :: cs) w) (lone (c.finish v) cs w')

structure CallOk (P : Program) (w0 : Base) (call : ACall) : Prop where
  fn : ∀ f args s v s', call (.func f) args s = some (v, s') → ∀ φ w cargs, Rel w0 φ s w → VRL φ args cargs → (callFunc f cargs.toArray).run P w = .ok (.enter f cargs.toArray) w ∧ Calls P f cargs.toArray w (Post w0 φ s s' v)
  round : ∀ l args s v s', call (.yield l) args s = some (v, s') → ∀ φ w cargs t, Rel w0 φ s w → φ l = some t → VRL φ args cargs → RoundRuns P t.blk cargs.toArray w (Post w0 φ s s' v)

section
variable {P : Program} {tb : Tb} {w0 : Base} {φ ψ : Emb} {s s' : St} {w : World} {fr fr' : Fr} {a : Act}

theorem FR.mono (h : φ.le ψ) (f : FR φ fr a) : FR ψ fr a := ⟨f.size, fun t v e => let ⟨c, h1, h2⟩ := f.at_ t v e; ⟨c, h1, h2.mono h⟩⟩

theorem FR.rho (r : Rel w0 φ s w) (f : FR φ fr a) : RhoR φ (aev s fr) a.eval := by
  intro x v h
  cases x with
  | tmp t =>
    obtain ⟨c, h1, h2⟩ := f.at_ t v h
    have : a.eval (.tmp t) = c := by
      show a.tmps.getD t undef = c
      rw [Array.getD_eq_getD_getElem?, h1]; rfl
    rw [this]; exact h2
  | const u =>
    simp only [aev] at h
    cases hp : plain u with
    | false => rw [hp] at h; cases h
    | true => rw [hp] at h; cases h; exact VR.of_plain φ _ hp
  | global g =>
    simp only [aev] at h
    cases hb : Nat.blt g s.ng with
    | false => rw [hb] at h; cases h
    | true =>
      rw [hb] at h
      simp only [cond_true] at h
      split at h
      · rename_i V hV
        cases h
        obtain ⟨t, h1, h2⟩ := r.glob g V (blt_iff.1 hb) hV
        have : VR φ (.pointer (some ⟨g, 0, none⟩)) (.pointer (some ⟨t.blk, 0, none⟩)) := .ptr g 0 t h1
        rw [h2] at this
        exact this
      · cases h
  | func f =>
    cases h
    exact .func _ _ _ _ _ _ (.same _ (fun l e => by cases e)) rfl rfl (fun i x y hx => by simp at hx) (fun i x y hx => by simp at hx)

theorem FR.put (f : FR φ fr a) {dst : Option Tmp} {v c : Value} (h : aput fr dst v = some fr') (hv : VR φ v c) : FR φ fr' (a.put dst c) := by
  cases dst with
  | none => cases h; exact f
  | some d =>
    rw [aput_some] at h
    cases hb : Nat.blt d fr.n with
    | false => rw [hb] at h; cases h
    | true =>
      rw [hb] at h
      cases h
      have hd : d < a.tmps.size := by rw [f.size]; exact blt_iff.1 hb
      refine ⟨by simp [Act.put, f.size], fun t u hu => ?_⟩
      by_cases e : t = d
      · subst e
        rw [T.get_set_same] at hu
        cases hu
        exact ⟨c, by simp [Act.put, hd], hv⟩
      · rw [T.get_set_other _ _ e] at hu
        obtain ⟨c', h1, h2⟩ := f.at_ t u hu
        exact ⟨c', by simp only [Act.put]; rw [Array.getElem?_setIfInBounds_ne (fun x => e x.symm)]; exact h1, h2⟩

theorem awanted_sound (f : FR φ fr a) {ops : Array Oper} {o : Oper} {b : Bool} (h : awanted ops.toList fr o = some b) : Region.wanted o (yielded ops a.tmps) = b := by
  unfold awanted at h
  unfold Region.wanted
  split at h
  · rename_i hg; rw [hg]; cases h; rfl
  · rename_i j want hg
    rw [hg]
    simp only
    split at h
    · cases h
    · rename_i g hj
      split at h
      · cases h
      · rename_i d hd
        have hj' : ops[j]? = some g := by rw [← Array.getElem?_toList]; exact hj
        split at h
        · cases h
        · rename_i bv hv
          cases h
          obtain ⟨c, h1, h2⟩ := f.at_ d _ hv
          cases h2
          simp [yielded, hj', hd, h1]
        · cases h
        · rename_i u hne hne2 hv
          cases h
          obtain ⟨c, h1, h2⟩ := f.at_ d _ hv
          have : yielded ops a.tmps j = none := by
            simp only [yielded, hj', Option.bind_some, hd, h1]
            cases h2 <;> first | rfl | exact absurd rfl (hne _) | exact absurd rfl (hne2 _)
          rw [this]; rfl
end
end Go.Proofs.YtbjickdjkgefcaaGreatDoor.Vai
end
end
section
open Go Go.RowKit
noncomputable section
namespace Go.Proofs.YtbjickdjkgefcaaGreatDoor.Vai
set_option linter.unusedVariables false
set_option linter.unusedSimpArgs false

section
variable {P : Program} {tb : Tb} {w0 : Base} {φ ψ : Emb} {s s' : St} {w : World} {fr fr' : Fr} {a : Act} {ρ : Operand → Option Value} {σ : Operand → Value}

/-- What an effect comes to, as the machine is told. -/
def EN (w0 : Base) (φ : Emb) (s s' : St) (v : Value) (res : Result Next) : Prop :=
  ∃ ψ w' nx c, res = .ok nx w' ∧ (nx = .value c ∨ (nx = .skip ∧ c = undef)) ∧ Ext s φ ψ ∧ s.next ≤ s'.next ∧ Rel w0 ψ s' w' ∧ VR ψ v c

theorem ER.lift {m : Sem Value} {v : Value} (h : ER w0 φ s s' w v (m.run P w)) : EN w0 φ s s' v ((do pure (Next.value (← m)) : Sem Next).run P w) := by
  obtain ⟨ψ, w', c, h1, h2, h3, h4, h5⟩ := h
  exact ⟨ψ, w', .value c, c, by simp [h1], .inl rfl, h2, h3, h4, h5⟩

theorem undef_rel (φ : Emb) : VR φ undef undef := VR.of_plain φ undef rfl

section
variable (σ : Operand → Value) (dst : Option Tmp) (type : TypeId) (pos : String) (after : Array Edge) (guard : Option (Nat × Bool))
theorem xo_store (t : TypeId) (x y : Operand) : execOp σ ⟨dst, .store t x y, type, pos, after, guard⟩ = (do Instr.storeAt t (σ x) (σ y); pure .skip) := rfl
theorem xo_mapUpdate (t : TypeId) (m k x : Operand) : execOp σ ⟨dst, .mapUpdate t m k x, type, pos, after, guard⟩ = (do Instr.mapUpdate t (σ m) (σ k) (σ x); pure .skip) := rfl
theorem xo_insert (t : TypeId) (m k x : Operand) : execOp σ ⟨dst, .insert t m k x, type, pos, after, guard⟩ = (do Instr.mapUpdate t (σ m) (σ k) (σ x); pure .skip) := rfl
theorem xo_range (t : TypeId) (x : Operand) : execOp σ ⟨dst, .range t x, type, pos, after, guard⟩ = (do pure (Next.value (← Instr.range t (σ x)))) := rfl
theorem xo_next (x : Operand) (str : Bool) : execOp σ ⟨dst, .next x str, type, pos, after, guard⟩ = (do pure (Next.value (← Instr.next (σ x) str type))) := rfl
theorem xo_call (f : Operand) (args : Array Operand) (argTypes : Array TypeId) {g : FuncId} {first captured : Array Value} (h : σ f = .func (.func g) first captured) :
    execOp σ ⟨dst, .call ⟨.value f, args, argTypes⟩, type, pos, after, guard⟩ = callFunc g (first ++ args.map σ ++ captured) := by
  have h1 : execOp σ ⟨dst, .call ⟨.value f, args, argTypes⟩, type, pos, after, guard⟩ = (do let d ← Deferred.ofValue (σ f) (args.map σ); invoke d.target d.args) := rfl
  rw [h1, h]
  rfl
end

theorem VR.func_inv {fn : Fn} {f1 c1 : Array Value} {c : Value} (h : VR φ (.func fn f1 c1) c) (hf : ∀ l, fn ≠ .yield l) : ∃ f2 c2, c = .func fn f2 c2 ∧ VRA φ f1 f2 ∧ VRA φ c1 c2 := by
  cases h with
  | func _ fn' _ f2 _ c2 hfn s1 s2 h1 h2 =>
    cases hfn with
    | same => exact ⟨f2, c2, rfl, ⟨s1, h1⟩, ⟨s2, h2⟩⟩
    | yield l t e => exact absurd rfl (hf l)

theorem callFunc_ext {P : Program} {f : FuncId} {k : ExtK} (h : ExtOk P f k) (args : Array Value) (w : World) : (callFunc f args).run P w = ((do pure (Next.value (← k.impl args)) : Sem Next).run P w) := by
  obtain ⟨fn, h1, h2, h3, h4, h5⟩ := h.ok
  have h2' : ¬ fn.name = "runtime.NumGoroutine" := by simpa using h2
  simp [callFunc, h1, h2', h3, h4, h5]

theorem callFunc_body {P : Program} {f : FuncId} {fn : Func} (h1 : P.funcs[f]? = some fn) (h2 : (fn.name == "runtime.NumGoroutine") = false) {c : Code} (h3 : fn.body = some c) (args : Array Value) (w : World) : (callFunc f args).run P w = .ok (.enter f args) w := by
  have h2' : ¬ fn.name = "runtime.NumGoroutine" := by simpa using h2
  simp [callFunc, h1, h2', h3]

theorem ae_sound (hP : TbOk P tb) (r : Rel w0 φ s w) (hρ : RhoR φ ρ σ) {o : Oper} {v : Value} (h : ae P tb s ρ o = some (v, s')) : EN w0 φ s s' v ((execOp σ o).run P w) := by
  obtain ⟨dst, op, type, pos, after, guard⟩ := o
  cases op with
  | store t x y =>
    replace h : (match ρ x, ρ y with
      | some va, some vx => (match astoreVar tb s t va vx with
        | some s' => some (undef, s')
        | none => none)
      | _, _ => none) = some (v, s') := h
    split at h
    · rename_i va vx ha hx
      split at h
      · rename_i s1 hs
        cases h
        obtain ⟨w', e1, e2⟩ := r.run_storeVar (P := P) hP hs (hρ x _ ha) (hρ y _ hx)
        rw [xo_store]
        exact ⟨φ, w', .skip, undef, by simp [e1], .inr ⟨rfl, rfl⟩, Ext.refl _ _, by rw [astoreVar_next hs]; exact Nat.le_refl _, e2, undef_rel φ⟩
      · cases h
    · cases h
  | convert src dst x =>
    replace h : (match ρ x with | some a => astringToBytes tb s src dst a | none => none) = some (v, s') := h
    split at h
    · rename_i va ha
      rw [xo_convert]
      exact ER.lift (astringToBytes_sound hP r h (hρ x _ ha))
    · cases h
  | mapUpdate t m k x =>
    replace h : (match ρ m, ρ k, ρ x with
      | some vm, some vk, some vx => (match aupdate P tb s t vm vk vx with
        | some s' => some (undef, s')
        | none => none)
      | _, _, _ => none) = some (v, s') := h
    split at h
    · rename_i vm vk vx hm hk hx
      split at h
      · rename_i s1 hs
        cases h
        obtain ⟨w', e1, e2, e3⟩ := aupdate_sound (P := P) hP r hs (hρ m _ hm) (hρ k _ hk) (hρ x _ hx)
        rw [xo_mapUpdate]
        exact ⟨φ, w', .skip, undef, by simp [e1], .inr ⟨rfl, rfl⟩, Ext.refl _ _, by rw [e3]; exact Nat.le_refl _, e2, undef_rel φ⟩
      · cases h
    · cases h
  | insert t m k x =>
    replace h : (match ρ m, ρ k, ρ x with
      | some vm, some vk, some vx => (match aupdate P tb s t vm vk vx with
        | some s' => some (undef, s')
        | none => none)
      | _, _, _ => none) = some (v, s') := h
    split at h
    · rename_i vm vk vx hm hk hx
      split at h
      · rename_i s1 hs
        cases h
        obtain ⟨w', e1, e2, e3⟩ := aupdate_sound (P := P) hP r hs (hρ m _ hm) (hρ k _ hk) (hρ x _ hx)
        rw [xo_insert]
        exact ⟨φ, w', .skip, undef, by simp [e1], .inr ⟨rfl, rfl⟩, Ext.refl _ _, by rw [e3]; exact Nat.le_refl _, e2, undef_rel φ⟩
      · cases h
    · cases h
  | range t x =>
    replace h : (match ρ x with | some a => arange tb s t a | none => none) = some (v, s') := h
    split at h
    · rename_i va ha
      rw [xo_range]
      exact ER.lift (arange_sound hP r h (hρ x _ ha))
    · cases h
  | next x str =>
    replace h : (match ρ x with | some a => anext s a str | none => none) = some (v, s') := h
    split at h
    · rename_i va ha
      rw [xo_next]
      exact ER.lift (anext_sound r h (hρ x _ ha))
    · cases h
  | call c =>
    obtain ⟨callee, args, argTypes⟩ := c
    replace h : aeCall P tb s ρ ⟨callee, args, argTypes⟩ = some (v, s') := h
    unfold aeCall at h
    simp only at h
    split at h
    · cases h
    · rename_i l hl
      have hl' : VRL φ l (args.map σ).toList := by
        have := amap_sound hρ _ _ hl
        rw [Array.toList_map]; exact this
      split at h
      · rename_i b
        rw [xo_builtin]
        split at h
        · exact ER.lift (m := Builtin.append_ argTypes type (args.map σ)) (aappend_sound hP r h hl')
        · exact ER.lift (m := Builtin.copy_ argTypes type (args.map σ)) (acopy_sound hP r h hl')
        · exact ER.lift (m := Builtin.clear_ argTypes type (args.map σ)) (aclear_sound hP r h hl')
        · exact ER.lift (m := Builtin.unsafeString_ argTypes type (args.map σ)) (aunsafeString_sound hP r h hl')
        · split at h
          · rename_i t0 tl m k xl hts
            split at h
            · rename_i s1 hs
              cases h
              have ht : argTypes[0]? = some t0 := by rw [← Array.getElem?_toList, hts]; rfl
              cases hcs : (args.map σ).toList with
              | nil => rw [hcs] at hl'; cases hl'
              | cons c1 cl =>
                rw [hcs] at hl'
                cases hl' with
                | cons _ _ _ _ hv1 hl2 =>
                  cases hl2 with
                  | cons _ c2 _ cl2 hv2 _ =>
                    have hc1 : (args.map σ)[0]? = some c1 := by rw [← Array.getElem?_toList, hcs]; rfl
                    have hc2 : (args.map σ)[1]? = some c2 := by rw [← Array.getElem?_toList, hcs]; rfl
                    obtain ⟨w', e1, e2, e3⟩ := adelete_sound (P := P) hP r hs hv1 hv2 ht hc1 hc2 type
                    exact ER.lift (m := Builtin.delete_ argTypes type (args.map σ)) ⟨φ, w', _, e1, Ext.refl _ _, by rw [e3]; exact Nat.le_refl _, e2, VR.of_plain φ _ rfl⟩
            · cases h
          · cases h
        · cases h
      · rename_i f
        split at h
        · rename_i g first captured hf
          split at h
          · rename_i k hk
            obtain ⟨f2, c2, e1, e2, e3⟩ := (hρ f _ hf).func_inv (fun l e => by cases e)
            rw [xo_call _ _ _ _ _ _ _ _ _ e1, callFunc_ext (hP.ext _ _ hk)]
            refine ER.lift (m := k.impl (f2 ++ args.map σ ++ c2)) (aext_sound hP r h ?_)
            rw [Array.toList_append, Array.toList_append]
            exact (e2.list.append hl').append e3.list
          · cases h
        · cases h
      · cases h
  | _ => cases h

theorem xo_yield (σ : Operand → Value) (dst : Option Tmp) (type : TypeId) (pos : String) (after : Array Edge) (guard : Option (Nat × Bool)) (f : Operand) (args : Array Operand) (argTypes : Array TypeId) {l : Nat} {first captured : Array Value} (h : σ f = .func (.yield l) first captured) :
    execOp σ ⟨dst, .call ⟨.value f, args, argTypes⟩, type, pos, after, guard⟩ = Instr.yield l (first ++ args.map σ) := by
  have h1 : execOp σ ⟨dst, .call ⟨.value f, args, argTypes⟩, type, pos, after, guard⟩ = (do let d ← Deferred.ofValue (σ f) (args.map σ); invoke d.target d.args) := rfl
  rw [h1, h]
  rfl

/-- What is called, and with what. -/
inductive Asked (P : Program) (φ : Emb) (w : World) (m : Sem Next) : Fn → List Value → Prop where
  | fn (f : FuncId) (cl : List Value) (h : m.run P w = (callFunc f cl.toArray).run P w) (l : List Value) (hl : VRL φ l cl) : Asked P φ w m (.func f) l
  | yield (r : Nat) (t : Tgt) (hr : φ r = some t) (cl : List Value) (h : m.run P w = (Instr.yield t.blk cl.toArray).run P w) (l : List Value) (hl : VRL φ l cl) : Asked P φ w m (.yield r) l

theorem acall_sound (hρ : RhoR φ ρ σ) {o : Oper} {f : Fn} {l : List Value} (h : acall tb ρ o = some (f, l)) : Asked P φ w (execOp σ o) f l := by
  obtain ⟨dst, op, type, pos, after, guard⟩ := o
  cases op with
  | call c =>
    obtain ⟨callee, args, argTypes⟩ := c
    unfold acall at h
    simp only at h
    split at h
    · rename_i x
      split at h
      · rename_i g first captured hf
        split at h
        · rename_i fn hfn
          split at h
          · rename_i code hbody
            split at h
            · rename_i l' hl
              cases h
              have hl' := amap_sound hρ _ _ hl
              obtain ⟨f2, c2, e1, e2, e3⟩ := (hρ x _ hf).func_inv (fun l e => by cases e)
              refine .fn g (f2.toList ++ args.toList.map σ ++ c2.toList) ?_ _ ((e2.list.append hl').append e3.list)
              rw [xo_call _ _ _ _ _ _ _ _ _ e1]
              congr 2
              apply Array.ext'
              simp
            · cases h
          · cases h
        · cases h
      · rename_i r first captured hf
        split at h
        · rename_i l' hl
          cases h
          have hl' := amap_sound hρ _ _ hl
          obtain ⟨cv, hcv, hc⟩ : ∃ cv, σ x = cv ∧ VR φ (.func (.yield r) first captured) cv := ⟨_, rfl, hρ x _ hf⟩
          cases hc with
          | func _ fn' _ f2 _ c2 hfn s1 s2 h1 h2 =>
            cases hfn with
            | same _ hn => exact absurd rfl (hn r)
            | yield _ t e =>
              refine .yield r t e (f2.toList ++ args.toList.map σ) ?_ _ (VRL.append (VRA.list ⟨s1, h1⟩) hl')
              rw [xo_yield _ _ _ _ _ _ _ _ _ hcv]
              congr 2
              apply Array.ext'
              simp
        · cases h
      · cases h
    · cases h
  | _ => cases h

theorem notDefer_q {o : Oper} {out : QOut} (h : aq P tb s ρ o = some out) : ∀ c, o.op ≠ .defer c := by
  intro c e
  obtain ⟨dst, op, type, pos, after, guard⟩ := o
  simp only at e
  subst e
  cases h
theorem notDefer_e {o : Oper} {r : Value × St} (h : ae P tb s ρ o = some r) : ∀ c, o.op ≠ .defer c := by
  intro c e
  obtain ⟨dst, op, type, pos, after, guard⟩ := o
  simp only at e
  subst e
  cases h
theorem notDefer_c {o : Oper} {r : Fn × List Value} (h : acall tb ρ o = some r) : ∀ c, o.op ≠ .defer c := by
  intro c e
  obtain ⟨dst, op, type, pos, after, guard⟩ := o
  simp only at e
  subst e
  cases h

theorem put_defers (a : Act) (d : Option Tmp) (v : Value) : (a.put d v).defers = a.defers := by cases d <;> rfl

/-- A quiet operation, in a world where the state's blocks are all there. -/
theorem quiet_step (hP : TbOk P tb) (r : Rel w0 φ s w) (hρ : RhoR φ ρ σ) {o : Oper} {out : QOut} (h : aq P tb s ρ o = some out) :
    ∃ ψ w' c, (execOp σ o).run P w = .ok (.value c) w' ∧ Ext s φ ψ ∧ s.next ≤ ((SRes.q out).st s).next ∧ Rel w0 ψ ((SRes.q out).st s) w' ∧ VR ψ ((SRes.q out).val s) c := by
  have hq := aq_sound hP r hρ h
  cases out with
  | val v => obtain ⟨c, e1, e2⟩ := hq; exact ⟨φ, w, c, e1, Ext.refl _ _, Nat.le_refl _, r, e2⟩
  | new elem es cells sh =>
    obtain ⟨h0, cs, e1, e2⟩ := hq
    refine ⟨_, _, _, e2, Ext.with (w0 := w0) _, Nat.le_succ _, r.alloc elem es e1, ?_⟩
    cases sh with
    | ptr => exact VR.ptr (φ := φ.with s.next _) s.next 0 _ (Emb.with_same _ _ _)
    | slice l c => exact VR.slice (φ := φ.with s.next _) s.next 0 _ l c c (Emb.with_same _ _ _) (fun _ => rfl) (fun e => absurd e (h0 l c rfl))
  | obj ob =>
    obtain ⟨c, e1, e2⟩ := hq
    exact ⟨_, _, _, e2, Ext.with (w0 := w0) _, Nat.le_succ _, r.newObj e1, VR.map (φ := φ.with s.next _) s.next _ (Emb.with_same _ _ _)⟩

/-- One operation. -/
theorem step_core (hP : TbOk P tb) {call : ACall} (hC : CallOk P w0 call) (r : Rel w0 φ s w) (f : FR φ fr a) {ops : Array Oper} {i : Nat} {o : Oper} (ho : ops[i]? = some o) {res : SRes} (h : aStep P tb call ops.toList fr s o = some res) (b : Frame) (rest : List Nat) (k : List Item) (cs : List Frame) :
    ∃ ψ c w', Steps P (lone (fat b a (.inRegion ops (i :: rest) :: k)) cs w) (lone (fat b (a.put o.dst c) (.inRegion ops rest :: k)) cs w') ∧ Ext s φ ψ ∧ s.next ≤ (res.st s).next ∧ Rel w0 ψ (res.st s) w' ∧ VR ψ (res.val s) c := by
  unfold aStep at h
  split at h
  · cases h
  · rename_i hw
    cases h
    have hwc := awanted_sound f hw
    exact ⟨φ, undef, w, OpRun.unwanted ho hwc b rest k cs, Ext.refl _ _, Nat.le_refl _, r, undef_rel φ⟩
  · rename_i hw
    have hwc := awanted_sound f hw
    have hρ := f.rho r
    split at h
    · rename_i out hq
      cases h
      obtain ⟨ψ, w', c, e1, e2, e3, e4, e5⟩ := quiet_step hP r hρ hq
      exact ⟨ψ, c, w', OpRun.value ho hwc (notDefer_q hq) e1 b rest k cs, e2, e3, e4, e5⟩
    · split at h
      · rename_i v s1 he
        cases h
        obtain ⟨ψ, w', nx, c, e1, e2, e3, e4, e5, e6⟩ := ae_sound hP r hρ he
        rcases e2 with rfl | ⟨rfl, rfl⟩
        · exact ⟨ψ, c, w', OpRun.value ho hwc (notDefer_e he) e1 b rest k cs, e3, e4, e5, e6⟩
        · exact ⟨ψ, undef, w', OpRun.skip ho hwc (notDefer_e he) e1 b rest k cs, e3, e4, e5, e6⟩
      · split at h
        · rename_i fn args hc
          split at h
          · rename_i v s1 hcall
            cases h
            have hg := fstepG_op (P := P) (b := b) (k := k) (cs := cs) (w := w) (rest := rest) ho hwc (notDefer_c hc)
            cases acall_sound (P := P) (w := w) hρ hc with
            | fn f cl e2 _ e1 =>
              obtain ⟨e3, hcalls⟩ := hC.fn f args s v s1 hcall φ w cl r e1
              rw [e3] at e2
              obtain ⟨e, w', frm, ⟨ψ, c, he, q1, q2, q3, q4⟩, hsteps, _, hleave⟩ := hcalls (fat b a (.inRegion ops (i :: rest) :: k) :: cs)
              subst he
              have hf := fat_finish b a ops i rest k c
              rw [ho] at hf
              simp only [Option.bind_some] at hf
              have henter : step P (lone (fat b a (.inRegion ops (i :: rest) :: k)) cs w) = .next (lone (Frame.enter P f cl.toArray .normal) (fat b a (.inRegion ops (i :: rest) :: k) :: cs) w) :=
                step_lone_go (by rw [hg]; simp [stepG.apply, e2, fat])
              refine ⟨ψ, c, w', .head henter (hsteps.trans (.one ?_)), q1, q2, q3, q4⟩
              rw [← hf]
              exact step_leave_returned hleave
            | yield rr t hr cl e2 _ e1 =>
              obtain ⟨f, tmps, assign, body, e3, hround⟩ := hC.round rr args s v s1 hcall φ w cl t r hr e1
              rw [e3] at e2
              obtain ⟨cv, w', ⟨ψ, c, he, q1, q2, q3, q4⟩, hsteps⟩ := hround (fat b a (.inRegion ops (i :: rest) :: k)) cs
              cases he
              have hf := fat_finish b a ops i rest k cv
              rw [ho] at hf
              simp only [Option.bind_some] at hf
              have henter : step P (lone (fat b a (.inRegion ops (i :: rest) :: k)) cs w) = .next (lone (Frame.round t.blk f tmps assign body .normal) (fat b a (.inRegion ops (i :: rest) :: k) :: cs) w) :=
                step_lone_go (by rw [hg]; simp [stepG.apply, e2, fat])
              refine ⟨ψ, cv, w', .head henter ?_, q1, q2, q3, q4⟩
              rw [← hf]
              exact hsteps
          · cases h
        · cases h

theorem step_sound (hP : TbOk P tb) {call : ACall} (hC : CallOk P w0 call) (r : Rel w0 φ s w) (f : FR φ fr a) {ops : Array Oper} {i : Nat} {o : Oper} (ho : ops[i]? = some o) {res : SRes} (h : aStep P tb call ops.toList fr s o = some res)
    (hp : aput fr o.dst (res.val s) = some fr') (b : Frame) (rest : List Nat) (k : List Item) (cs : List Frame) :
    ∃ ψ a' w', Steps P (lone (fat b a (.inRegion ops (i :: rest) :: k)) cs w) (lone (fat b a' (.inRegion ops rest :: k)) cs w') ∧ Ext s φ ψ ∧ s.next ≤ (res.st s).next ∧ Rel w0 ψ (res.st s) w' ∧ FR ψ fr' a' ∧ a'.defers = a.defers := by
  obtain ⟨ψ, c, w', e1, e2, e3, e4, e5⟩ := step_core hP hC r f ho h b rest k cs
  exact ⟨ψ, _, w', e1, e2, e3, e4, (f.mono (e2.le r)).put hp e5, put_defers _ _ _⟩

/-- Operations in the order of the text. -/
theorem ops_sound (hP : TbOk P tb) {call : ACall} (hC : CallOk P w0 call) {ops : Array Oper} : ∀ (l : List Oper) (i : Nat) (fr fr' : Fr) (s s' : St) (φ : Emb) (a : Act) (w : World), (∀ j o, l[j]? = some o → ops[i + j]? = some o) → aOps P tb call ops.toList l fr s = some (fr', s') → Rel w0 φ s w → FR φ fr a →
    ∀ (b : Frame) (k : List Item) (cs : List Frame), ∃ ψ a' w', Steps P (lone (fat b a (.inRegion ops ((List.range l.length).map (i + ·)) :: k)) cs w) (lone (fat b a' k) cs w') ∧ Ext s φ ψ ∧ s.next ≤ s'.next ∧ Rel w0 ψ s' w' ∧ FR ψ fr' a' ∧ a'.defers = a.defers := by
  intro l
  induction l with
  | nil =>
    intro i fr fr' s s' φ a w _ h r f b k cs
    simp only [aOps, Option.some.injEq, Prod.mk.injEq] at h
    obtain ⟨rfl, rfl⟩ := h
    exact ⟨φ, a, w, .one fstep_region_end, Ext.refl _ _, Nat.le_refl _, r, f, rfl⟩
  | cons o l ih =>
    intro i fr fr' s s' φ a w hl h r f b k cs
    simp only [aOps] at h
    split at h
    · cases h
    · rename_i res hres
      rw [SRes.go_eq] at h
      split at h
      · cases h
      · rename_i fr1 hput
        have ho : ops[i]? = some o := by have := hl 0 o rfl; simpa using this
        have hidx : (List.range (o :: l).length).map (i + ·) = i :: (List.range l.length).map (i + 1 + ·) := by
          simp only [List.length_cons, List.range_succ_eq_map, List.map_cons, List.map_map]
          congr 1
          apply List.map_congr_left
          intro x _
          simp; omega
        rw [hidx]
        obtain ⟨ψ, a1, w1, e1, e2, e3, e4, e5, e6⟩ := step_sound hP hC r f ho hres hput b ((List.range l.length).map (i + 1 + ·)) k cs
        obtain ⟨ψ2, a2, w2, g1, g2, g3, g4, g5, g6⟩ := ih (i + 1) fr1 fr' _ s' ψ a1 w1 (fun j o' hj => by have := hl (j + 1) o' (by simpa using hj); rw [show i + 1 + j = i + (j + 1) by omega]; exact this) h e4 e5 b k cs
        exact ⟨ψ2, a2, w2, e1.trans g1, e2.trans e3 g2, Nat.le_trans e3 g3, g4, g5, g6.trans e6⟩
end
end Go.Proofs.YtbjickdjkgefcaaGreatDoor.Vai
end
end
section
open Go Go.RowKit
noncomputable section
namespace Go.Proofs.YtbjickdjkgefcaaGreatDoor.Vai
set_option linter.unusedVariables false
set_option linter.unusedSimpArgs false

/-! ### quiet growth of the state -/
structure Qext (s s' : St) : Prop where
  ng : s'.ng = s.ng
  orc : s'.orc = s.orc
  next : s.next ≤ s'.next
  views : ∀ v, v < s.next → s'.views.get v = s.views.get v
  roots : ∀ v, v < s.next → s'.roots.get v = s.roots.get v
  objs : ∀ v, v < s.next → s'.objs.get v = s.objs.get v
  newV : ∀ v V, s'.views.get v = some V → s.next ≤ v → V.root = v ∧ v < s'.next
  newO : ∀ v o, s'.objs.get v = some o → s.next ≤ v → v < s'.next

/-- The numbers that a state bears lie below its next one. -/
structure Wf (s : St) : Prop where
  views : ∀ v V, s.views.get v = some V → V.root < s.next ∧ v < s.next
  objs : ∀ v o, s.objs.get v = some o → v < s.next

theorem Rel.wf {w0 : Base} {φ : Emb} {s : St} {w : World} (r : Rel w0 φ s w) : Wf s := ⟨r.vroot, r.olt⟩

theorem Qext.refl {s : St} (h : Wf s) : Qext s s :=
  ⟨rfl, rfl, Nat.le_refl _, fun _ _ => rfl, fun _ _ => rfl, fun _ _ => rfl, fun v V h1 h2 => by have := (h.views v V h1).2; omega, fun v o h1 h2 => by have := h.objs v o h1; omega⟩
theorem Qext.trans {a b c : St} (h : Qext a b) (k : Qext b c) : Qext a c := by
  have hn := h.next
  refine ⟨k.ng.trans h.ng, k.orc.trans h.orc, Nat.le_trans h.next k.next, fun v hv => (k.views v (by omega)).trans (h.views v hv), fun v hv => (k.roots v (by omega)).trans (h.roots v hv), fun v hv => (k.objs v (by omega)).trans (h.objs v hv), ?_, ?_⟩
  · intro v V hV hle
    by_cases e : v < b.next
    · rw [k.views v e] at hV
      have := h.newV v V hV hle
      exact ⟨this.1, by have := k.next; omega⟩
    · exact k.newV v V hV (by omega)
  · intro v o ho hle
    by_cases e : v < b.next
    · have := k.next; omega
    · exact k.newO v o ho (by omega)
theorem Qext.wf {s s' : St} (h : Qext s s') (w : Wf s) : Wf s' := by
  have hn := h.next
  refine ⟨fun v V hV => ?_, fun v o ho => ?_⟩
  · by_cases e : v < s.next
    · rw [h.views v e] at hV; have := w.views v V hV; omega
    · have := h.newV v V hV (by omega); omega
  · by_cases e : v < s.next
    · rw [h.objs v e] at ho; have := w.objs v o ho; omega
    · exact h.newO v o ho (by omega)

theorem Qext.alloc {s : St} (h : Wf s) (elem : TypeId) (es : Nat) (cells : List Value) : Qext s (aalloc s elem es cells) := by
  refine ⟨rfl, rfl, Nat.le_succ _, fun v hv => ?_, fun v hv => ?_, fun v hv => rfl, ?_, ?_⟩
  · simp only [aallocX]; rw [T.get_set_other _ _ (by omega)]
  · simp only [aallocX]; rw [T.get_set_other _ _ (by omega)]
  · intro v V hV hle
    by_cases e : v = s.next
    · subst e
      simp only [aallocX, T.get_set_same, Option.some.injEq] at hV
      subst hV; exact ⟨rfl, Nat.lt_succ_self _⟩
    · simp only [aallocX] at hV
      rw [T.get_set_other _ _ e] at hV
      have := (h.views v V hV).2; omega
  · intro v o ho hle
    have : v < s.next := h.objs v o ho
    omega
theorem Qext.obj {s : St} (h : Wf s) (o : AObj) : Qext s (aobj s o) := by
  refine ⟨rfl, rfl, Nat.le_succ _, fun v hv => rfl, fun v hv => rfl, fun v hv => ?_, ?_, ?_⟩
  · simp only [aobj]; rw [T.get_set_other _ _ (by omega)]
  · intro v V hV hle
    have := (h.views v V hV).2; omega
  · intro v o' ho hle
    show v < s.next + 1
    by_cases e : v = s.next
    · omega
    · simp only [aobj] at ho
      rw [T.get_set_other _ _ e] at ho
      have := h.objs v o' ho; omega

theorem Rel.qext {w0 : Base} {φ : Emb} {s s' : St} {w : World} (r : Rel w0 φ s w) (h : Qext s s') : Rel w0 φ s' w := by
  have hn := h.next
  have wf := h.wf r.wf
  refine ⟨r.bel, fun v t e => by have := r.fresh v t e; omega, ?_, ?_, ?_, ?_, wf.views, wf.objs, ?_, by rw [h.ng]; have := r.ngle; omega, by rw [h.orc]; exact r.orc⟩
  · intro v t e
    have hv := r.fresh v t e
    rw [h.views v hv, h.objs v hv]
    exact r.known v t e
  · intro v t V e hV
    have hv := r.fresh v t e
    rw [h.views v hv] at hV
    obtain ⟨R, hR, b⟩ := r.view v t V e hV
    exact ⟨R, by rw [h.roots _ (r.vroot v V hV).1]; exact hR, b⟩
  · intro v t o e ho
    rw [h.objs v (r.fresh v t e)] at ho
    exact r.obj v t o e ho
  · intro v1 v2 t1 t2 e1 e2 hb
    rw [h.views v1 (r.fresh v1 t1 e1), h.views v2 (r.fresh v2 t2 e2)]
    exact r.inj v1 v2 t1 t2 e1 e2 hb
  · intro g V hg hV
    rw [h.ng] at hg
    have := r.ngle
    rw [h.views g (by omega)] at hV
    exact r.glob g V hg hV

/-- A block that the state has already, and the world has now. -/
theorem Rel.bindNew {w0 : Base} {φ : Emb} {s : St} {w : World} (r : Rel w0 φ s w) {id : Nat} {elem : TypeId} {es : Nat} {cells cs : List Value} (hid : φ id = none) (hlt : id < s.next)
    (hV : s.views.get id = some { root := id, ext := cells.length, exact := true })
    (hR : s.roots.get id = some { elem := elem, es := es, cells := cellsOf cells, cur := id, flo := 0, fhi := 0, ro := false, sish := false })
    (hobj : s.objs.get id = none) (hc : VRL φ cells cs) :
    Rel w0 (φ.with id ⟨w.heap.size, cs.length, es⟩) s (w.alloc (.cells cs.toArray elem)) := by
  have hle : φ.le (φ.with id ⟨w.heap.size, cs.length, es⟩) := by
    refine ⟨?_, rfl⟩
    intro v t e
    rw [Emb.with_other _ _ ?_]; exact e
    intro x; subst x; rw [hid] at e; cases e
  have cases_ : ∀ v t, (φ.with id ⟨w.heap.size, cs.length, es⟩) v = some t → (v = id ∧ t = ⟨w.heap.size, cs.length, es⟩) ∨ (v ≠ id ∧ φ v = some t) := by
    intro v t h
    by_cases e : v = id
    · subst e; rw [Emb.with_same] at h; exact .inl ⟨rfl, (Option.some.inj h).symm⟩
    · rw [Emb.with_other _ _ e] at h; exact .inr ⟨e, h⟩
  refine ⟨r.bel.alloc _, ?_, ?_, ?_, ?_, ?_, r.vroot, r.olt, ?_, r.ngle, r.orc⟩
  · intro v t h
    rcases cases_ v t h with ⟨rfl, _⟩ | ⟨_, h⟩
    · exact hlt
    · exact r.fresh v t h
  · intro v t h
    rcases cases_ v t h with ⟨rfl, _⟩ | ⟨_, h⟩
    · exact .inl ⟨_, hV⟩
    · exact r.known v t h
  · intro v t V h hV'
    rcases cases_ v t h with ⟨rfl, rfl⟩ | ⟨e, h⟩
    · rw [hV] at hV'; cases hV'
      refine ⟨_, hR, rfl, Nat.le_refl _, fun _ => r.bel.new, by show cells.length ≤ cs.length; rw [hc.length]; exact Nat.le_refl _, (fun _ => by show cs.length = cells.length; rw [hc.length]), ?_, cs.toArray, (0, 0), heap_alloc_at, by simp, ⟨Nat.le_refl _, fun o _ a b => by omega, fun _ _ => rfl, fun _ => Nat.zero_le _⟩, ?_⟩
      · intro o st val ho
        simp only [cellsOf, T.get_ofList, List.getElem?_map] at ho
        cases hl : cells[o]? with
        | none => rw [hl] at ho; cases ho
        | some x =>
          rw [hl] at ho
          simp only [Option.map_some, Option.some.injEq, Prod.mk.injEq] at ho
          show st ≤ v
          omega
      · intro o st val ho hs hx
        simp only [cellsOf, T.get_ofList, List.getElem?_map] at ho
        cases hl : cells[o]? with
        | none => rw [hl] at ho; cases ho
        | some x =>
          rw [hl] at ho
          simp only [Option.map_some, Option.some.injEq, Prod.mk.injEq] at ho
          obtain ⟨rfl, rfl⟩ := ho
          obtain ⟨y, hy, hr⟩ := hc.get hl
          exact ⟨y, by simpa using hy, hr.mono hle⟩
    · obtain ⟨R, hR', b⟩ := r.view v t V h hV'
      refine ⟨R, hR', ?_⟩
      have b' := b.mono hle
      obtain ⟨c, fr, h1, h2, h3, h4⟩ := b'.blk
      exact ⟨b'.es, b'.cur, b'.own, b'.ext, b'.exact, b'.stamps, c, fr, heap_alloc_old h1, h2, h3, h4⟩
  · intro v t o h ho
    rcases cases_ v t h with ⟨rfl, rfl⟩ | ⟨e, h⟩
    · rw [hobj] at ho; cases ho
    · obtain ⟨k1, c, k2, k3⟩ := r.obj v t o h ho
      exact ⟨k1, c, heap_alloc_old k2, k3.mono hle⟩
  · intro v1 v2 t1 t2 h1 h2 hb
    rcases cases_ v1 t1 h1 with ⟨rfl, rfl⟩ | ⟨e1, k1⟩ <;> rcases cases_ v2 t2 h2 with ⟨rfl, rfl⟩ | ⟨e2, k2⟩
    · exact .inl rfl
    · have := r.lt k2; simp at hb; omega
    · have := r.lt k1; simp at hb; omega
    · exact r.inj v1 v2 t1 t2 k1 k2 hb
  · intro g V hg hV'
    obtain ⟨t, h1, h2⟩ := r.glob g V hg hV'
    exact ⟨t, hle _ _ h1, h2⟩

theorem Rel.bindObj {w0 : Base} {φ : Emb} {s : St} {w : World} (r : Rel w0 φ s w) {id : Nat} {o : AObj} {c : Obj} (hid : φ id = none) (hlt : id < s.next) (hV : s.views.get id = none) (hobj : s.objs.get id = some o) (hc : ObjR φ o c) :
    Rel w0 (φ.with id ⟨w.heap.size, 0, 0⟩) s (w.alloc c) := by
  have hle : φ.le (φ.with id ⟨w.heap.size, 0, 0⟩) := by
    refine ⟨?_, rfl⟩
    intro v t e
    rw [Emb.with_other _ _ ?_]; exact e
    intro x; subst x; rw [hid] at e; cases e
  have cases_ : ∀ v t, (φ.with id ⟨w.heap.size, 0, 0⟩) v = some t → (v = id ∧ t = ⟨w.heap.size, 0, 0⟩) ∨ (v ≠ id ∧ φ v = some t) := by
    intro v t h
    by_cases e : v = id
    · subst e; rw [Emb.with_same] at h; exact .inl ⟨rfl, (Option.some.inj h).symm⟩
    · rw [Emb.with_other _ _ e] at h; exact .inr ⟨e, h⟩
  refine ⟨r.bel.alloc _, ?_, ?_, ?_, ?_, ?_, r.vroot, r.olt, ?_, r.ngle, r.orc⟩
  · intro v t h
    rcases cases_ v t h with ⟨rfl, _⟩ | ⟨_, h⟩
    · exact hlt
    · exact r.fresh v t h
  · intro v t h
    rcases cases_ v t h with ⟨rfl, _⟩ | ⟨_, h⟩
    · exact .inr ⟨_, hobj⟩
    · exact r.known v t h
  · intro v t V h hV'
    rcases cases_ v t h with ⟨rfl, rfl⟩ | ⟨e, h⟩
    · rw [hV] at hV'; cases hV'
    · obtain ⟨R, hR', b⟩ := r.view v t V h hV'
      refine ⟨R, hR', ?_⟩
      have b' := b.mono hle
      obtain ⟨c, fr, h1, h2, h3, h4⟩ := b'.blk
      exact ⟨b'.es, b'.cur, b'.own, b'.ext, b'.exact, b'.stamps, c, fr, heap_alloc_old h1, h2, h3, h4⟩
  · intro v t o' h ho
    rcases cases_ v t h with ⟨rfl, rfl⟩ | ⟨e, h⟩
    · rw [hobj] at ho; cases ho
      exact ⟨r.bel.new, c, heap_alloc_at, hc.mono hle⟩
    · obtain ⟨k1, c', k2, k3⟩ := r.obj v t o' h ho
      exact ⟨k1, c', heap_alloc_old k2, k3.mono hle⟩
  · intro v1 v2 t1 t2 h1 h2 hb
    rcases cases_ v1 t1 h1 with ⟨rfl, rfl⟩ | ⟨e1, k1⟩ <;> rcases cases_ v2 t2 h2 with ⟨rfl, rfl⟩ | ⟨e2, k2⟩
    · exact .inl rfl
    · have := r.lt k2; simp at hb; omega
    · have := r.lt k1; simp at hb; omega
    · exact r.inj v1 v2 t1 t2 k1 k2 hb
  · intro g V hg hV'
    obtain ⟨t, h1, h2⟩ := r.glob g V hg hV'
    exact ⟨t, hle _ _ h1, h2⟩

/-! ### the same value -/
mutual
def veq : Value → Value → Bool
  | .bool a, .bool b => a == b
  | .int k a, .int l b => k == l && a == b
  | .float k a, .float l b => k == l && a == b
  | .complex k a b, .complex l c d => k == l && a == c && b == d
  | .string a, .string b => a.data == b.data
  | .pointer a, .pointer b => a == b
  | .slice a l c, .slice b m d => a == b && l == m && c == d
  | .map a, .map b => a == b
  | .chan a, .chan b => a == b
  | .nilFunc, .nilFunc => true
  | .nilIface, .nilIface => true
  | .iface t a, .iface u b => t == u && veq a b
  | .agg a, .agg b => veqA a b
  | .tuple a, .tuple b => veqA a b
  | .func f a b, .func g c d => f == g && veqA a c && veqA b d
  | _, _ => false
def veqA : Array Value → Array Value → Bool
  | ⟨a⟩, ⟨b⟩ => veqL a b
def veqL : List Value → List Value → Bool
  | [], [] => true
  | a :: l, b :: m => veq a b && veqL l m
  | _, _ => false
end
end Go.Proofs.YtbjickdjkgefcaaGreatDoor.Vai
end
section
open Go Go.RowKit
noncomputable section
namespace Go.Proofs.YtbjickdjkgefcaaGreatDoor.Vai
set_option linter.unusedVariables false
set_option linter.unusedSimpArgs false

theorem veq_sound : ∀ (a b : Value), veq a b = true → a = b := by
  intro a
  refine Value.rec (motive_1 := fun a => ∀ b, veq a b = true → a = b) (motive_2 := fun a => ∀ b, veqA a b = true → a = b) (motive_3 := fun a => ∀ b, veqL a b = true → a = b) ?_ ?_ ?_ ?_ ?_ ?_ ?_ ?_ ?_ ?_ ?_ ?_ ?_ ?_ ?_ ?_ ?_ ?_ a
  · intro x b h; cases b <;> simp [veq] at h; rw [h]
  · intro k x b h; cases b <;> simp [veq] at h; rw [h.1, h.2]
  · intro k x b h; cases b <;> simp [veq] at h; rw [h.1, h.2]
  · intro k x y b h; cases b <;> simp [veq] at h; rw [h.1.1, h.1.2, h.2]
  · intro x b h
    cases b <;> simp [veq] at h
    rename_i y
    obtain ⟨x⟩ := x; obtain ⟨y⟩ := y
    simp at h
    rw [h]
  · intro x b h; cases b <;> simp [veq] at h; rw [h]
  · intro x y z b h; cases b <;> simp [veq] at h; rw [h.1.1, h.1.2, h.2]
  · intro x b h; cases b <;> simp [veq] at h; rw [h]
  · intro x b h; cases b <;> simp [veq] at h; rw [h]
  · intro f x y i1 i2 b h; cases b <;> simp [veq] at h; rw [h.1.1, i1 _ h.1.2, i2 _ h.2]
  · intro b h; cases b <;> simp [veq] at h; rfl
  · intro t v ih b h; cases b <;> simp [veq] at h; rw [h.1, ih _ h.2]
  · intro b h; cases b <;> simp [veq] at h; rfl
  · intro x ih b h; cases b <;> simp [veq] at h; rw [ih _ h]
  · intro x ih b h; cases b <;> simp [veq] at h; rw [ih _ h]
  · intro l ih b h; obtain ⟨m⟩ := b; simp [veqA] at h; rw [ih _ h]
  · intro b h; cases b <;> simp [veqL] at h; rfl
  · intro v l i1 i2 b h; cases b <;> simp [veqL] at h; rw [i1 _ h.1, i2 _ h.2]
theorem veqL_sound : ∀ (l m : List Value), veqL l m = true → l = m := by
  intro l
  induction l with
  | nil => intro m h; cases m <;> simp [veqL] at h; rfl
  | cons a l ih => intro m h; cases m <;> simp [veqL] at h; rw [veq_sound _ _ h.1, ih _ h.2]

def sheq : Shp → Shp → Bool
  | .ptr, .ptr => true
  | .slice a b, .slice c d => Nat.beq a c && Nat.beq b d
  | _, _ => false
def oeq : AObj → AObj → Bool
  | .map [] a, .map [] b => Nat.beq a b
  | _, _ => false
theorem oeq_sound {a b : AObj} (h : oeq a b = true) : a = b := by
  unfold oeq at h
  split at h
  · rw [Nat.eq_of_beq_eq_true h]
  · cases h
def qeq : QOut → QOut → Bool
  | .val a, .val b => veq a b
  | .new e n c sh, .new f m d sk => Nat.beq e f && Nat.beq n m && veqL c d && sheq sh sk
  | .obj a, .obj b => oeq a b
  | _, _ => false
theorem qeq_sound {a b : QOut} (h : qeq a b = true) : a = b := by
  cases a with
  | val x => cases b <;> simp [qeq] at h; rw [veq_sound _ _ h]
  | new e n c sh =>
    cases b with
    | val => cases h
    | obj => cases h
    | new f m d sk =>
      simp only [qeq, Bool.and_eq_true] at h
      obtain ⟨⟨⟨h1, h2⟩, h3⟩, h4⟩ := h
      rw [Nat.eq_of_beq_eq_true h1, Nat.eq_of_beq_eq_true h2, veqL_sound _ _ h3]
      congr 1
      cases sh with
      | ptr =>
        cases sk with
        | ptr => rfl
        | slice => cases h4
      | slice =>
        cases sk with
        | ptr => cases h4
        | slice => simp only [sheq, Bool.and_eq_true] at h4; rw [Nat.eq_of_beq_eq_true h4.1, Nat.eq_of_beq_eq_true h4.2]
  | obj o =>
    cases b with
    | val => cases h
    | new => cases h
    | obj o' => rw [oeq_sound h]

/-! ### which operations wait for which -/
def maskE (acc : T Nat) : List Edge → Nat → Nat
  | [], m => m
  | e :: l, m => maskE acc l (bif Region.binds .any e then Nat.lor m (Nat.lor (Nat.shiftLeft 1 e.on) (match acc.get e.on with | some x => x | none => 0)) else m)
def masks : List Oper → Nat → T Nat → T Nat
  | [], _, acc => acc
  | o :: l, i, acc => masks l (i + 1) (acc.set i (maskE acc o.after.toList 0))
/-- 'i' before 'j'. -/
def isBef (M : T Nat) (i j : Nat) : Bool := match M.get j with
  | some m => Nat.testBit m i
  | none => false

/-- 'i' comes up ahead of 'j', whatever the order. -/
inductive Bef (ops : List Oper) : Nat → Nat → Prop where
  | edge (j : Nat) (o : Oper) (e : Edge) (ho : ops[j]? = some o) (he : e ∈ o.after) (hb : Region.binds .any e = true) : Bef ops e.on j
  | trans (i j k : Nat) (h : Bef ops i j) (h' : Bef ops j k) : Bef ops i k

theorem maskE_spec (ops : List Oper) (j : Nat) (o : Oper) (ho : ops[j]? = some o) (acc : T Nat) (hacc : ∀ i m x, acc.get i = some m → Nat.testBit m x = true → Bef ops x i) :
    ∀ (l : List Edge) (m : Nat), (∀ e ∈ l, e ∈ o.after) → (∀ x, Nat.testBit m x = true → Bef ops x j) → ∀ x, Nat.testBit (maskE acc l m) x = true → Bef ops x j := by
  intro l
  induction l with
  | nil => intro m _ hm x hx; exact hm x hx
  | cons e l ih =>
    intro m hl hm x hx
    simp only [maskE] at hx
    refine ih _ (fun e' he' => hl e' (List.mem_cons_of_mem _ he')) ?_ x hx
    intro y hy
    cases hb : Region.binds .any e with
    | false => rw [hb] at hy; exact hm y hy
    | true =>
      rw [hb] at hy
      simp only [cond_true] at hy
      have hy' : Nat.testBit (m ||| ((1 <<< e.on) ||| (match acc.get e.on with | some x => x | none => 0))) y = true := hy
      rw [Nat.testBit_or, Nat.testBit_or, Bool.or_eq_true, Bool.or_eq_true] at hy'
      have hed : Bef ops e.on j := .edge j o e ho (hl e (List.mem_cons_self ..)) hb
      rcases hy' with h | h | h
      · exact hm y h
      · have : y = e.on := by
          rw [Nat.testBit_shiftLeft] at h
          simp only [Bool.and_eq_true, decide_eq_true_eq] at h
          have h1 := h.2
          by_cases e0 : y - e.on = 0
          · omega
          · exfalso
            rw [Nat.testBit_lt_two_pow (Nat.one_lt_two_pow e0)] at h1
            cases h1
        rw [this]; exact hed
      · cases hg : acc.get e.on with
        | none => rw [hg] at h; simp at h
        | some q => rw [hg] at h; exact .trans _ _ _ (hacc e.on q y hg h) hed

theorem masks_spec (ops : List Oper) : ∀ (l : List Oper) (i : Nat) (acc : T Nat), (∀ j o, l[j]? = some o → ops[i + j]? = some o) → (∀ k m x, acc.get k = some m → Nat.testBit m x = true → Bef ops x k) →
    ∀ k m x, (masks l i acc).get k = some m → Nat.testBit m x = true → Bef ops x k := by
  intro l
  induction l with
  | nil => intro i acc _ hacc; exact hacc
  | cons o l ih =>
    intro i acc hl hacc
    simp only [masks]
    refine ih (i + 1) _ (fun j o' hj => by have := hl (j + 1) o' (by simpa using hj); rw [show i + 1 + j = i + (j + 1) by omega]; exact this) ?_
    intro k m x hk hx
    by_cases e : k = i
    · subst e
      rw [T.get_set_same] at hk
      cases hk
      exact maskE_spec ops k o (by have := hl 0 o rfl; simpa using this) acc hacc _ 0 (fun e he => by simpa using he) (fun x h => by simp at h) x hx
    · rw [T.get_set_other _ _ e] at hk
      exact hacc k m x hk hx

theorem isBef_spec (ops : List Oper) {i j : Nat} (h : isBef (masks ops 0 .nil) i j = true) : Bef ops i j := by
  unfold isBef at h
  split at h
  · rename_i m hm
    exact masks_spec ops ops 0 .nil (fun j o h => by simpa using h) (fun k m x hk => by (rw [T.get_nil] at hk; cases hk)) j m i hm h
  · cases h

/-! ### the static look at a region -/
def edgesDown (i : Nat) : List Edge → Bool
  | [] => true
  | e :: l => (bif Region.binds .any e then Nat.blt e.on i else true) && edgesDown i l
/-- Of two operations that do not wait for each other neither looks at what the other writes. -/
def apartFrom (ops : Array Oper) (M : T Nat) (j : Nat) (y : Oper) : Nat → List Oper → Bool
  | _, [] => true
  | i, x :: l => (bif Nat.blt i j then ((isBef M i j || x.apart ops y) && !(match x.dst, y.dst with | some a, some b => Nat.beq a b | _, _ => false)) else true) && apartFrom ops M j y (i + 1) l
def regAll (ops : Array Oper) (M : T Nat) : Nat → List Oper → Bool
  | _, [] => true
  | j, y :: l => edgesDown j y.after.toList && apartFrom ops M j y 0 ops.toList && regAll ops M (j + 1) l
def regOk (ops : Array Oper) : Bool := regAll ops (masks ops.toList 0 .nil) 0 ops.toList

theorem edgesDown_spec {i : Nat} : ∀ (l : List Edge), edgesDown i l = true → ∀ e ∈ l, Region.binds .any e = true → e.on < i := by
  intro l
  induction l with
  | nil => intro _ e he; cases he
  | cons d l ih =>
    intro h e he hb
    simp only [edgesDown, Bool.and_eq_true] at h
    rcases List.mem_cons.1 he with rfl | he
    · rw [hb] at h; exact blt_iff.1 h.1
    · exact ih h.2 e he hb
theorem apartFrom_spec {ops : Array Oper} {M : T Nat} {j : Nat} {y : Oper} : ∀ (l : List Oper) (i : Nat), apartFrom ops M j y i l = true → ∀ k x, l[k]? = some x → i + k < j → (isBef M (i + k) j = true ∨ x.apart ops y = true) ∧ ∀ a, x.dst = some a → y.dst ≠ some a := by
  intro l
  induction l with
  | nil => intro i _ k x h; simp at h
  | cons z l ih =>
    intro i h k x hk hlt
    simp only [apartFrom, Bool.and_eq_true] at h
    cases k with
    | zero =>
      simp at hk; subst hk
      have h1 := h.1
      rw [blt_iff.2 (by omega : i < j)] at h1
      simp only [cond_true, Bool.or_eq_true, Bool.and_eq_true] at h1
      obtain ⟨h1, h2⟩ := h1
      refine ⟨by simpa using h1, fun a ha hb => ?_⟩
      rw [ha, hb] at h2
      simp at h2
    | succ k =>
      have := ih (i + 1) h.2 k x (by simpa using hk) (by omega)
      rw [show i + 1 + k = i + (k + 1) by omega] at this
      exact this
theorem regAll_spec {ops : Array Oper} {M : T Nat} : ∀ (l : List Oper) (j : Nat), regAll ops M j l = true → ∀ k y, l[k]? = some y → edgesDown (j + k) y.after.toList = true ∧ apartFrom ops M (j + k) y 0 ops.toList = true := by
  intro l
  induction l with
  | nil => intro j _ k y h; simp at h
  | cons z l ih =>
    intro j h k y hk
    simp only [regAll, Bool.and_eq_true] at h
    cases k with
    | zero => simp at hk; subst hk; exact h.1
    | succ k =>
      have := ih (j + 1) h.2 k y (by simpa using hk)
      rw [show j + 1 + k = j + (k + 1) by omega] at this
      exact this

structure RegOk (ops : Array Oper) : Prop where
  uniq : ∀ (i j : Nat) (x y : Oper), ops[i]? = some x → ops[j]? = some y → i ≠ j → ∀ d, x.dst = some d → y.dst ≠ some d
  down : ∀ j y, ops[j]? = some y → ∀ e ∈ y.after, Region.binds .any e = true → e.on < j
  apart : ∀ i j x y, ops[i]? = some x → ops[j]? = some y → i ≠ j → Bef ops.toList i j ∨ Bef ops.toList j i ∨ ((∀ d, x.dst = some d → d ∉ y.looksAt ops) ∧ (∀ d, x.dst = some d → y.dst ≠ some d) ∧ (∀ d, y.dst = some d → d ∉ x.looksAt ops))

theorem regOk_spec {ops : Array Oper} (h : regOk ops = true) : RegOk ops := by
  have hl : ∀ (k : Nat) (y : Oper), ops[k]? = some y → ops.toList[k]? = some y := fun k y hy => by rw [Array.getElem?_toList]; exact hy
  refine ⟨?_, fun j y hy e he hb => ?_, ?_⟩
  · have key : ∀ (i j : Nat) (x y : Oper), ops[i]? = some x → ops[j]? = some y → i < j → ∀ d, x.dst = some d → y.dst ≠ some d := by
      intro i j x y hx hy hlt
      have h1 := (regAll_spec _ 0 h j y (hl _ _ hy)).2
      rw [Nat.zero_add] at h1
      exact (apartFrom_spec _ 0 h1 i x (hl _ _ hx) (by omega)).2
    intro i j x y hx hy hne d a b
    rcases Nat.lt_or_ge i j with h1 | h1
    · exact key i j x y hx hy h1 d a b
    · exact key j i y x hy hx (by omega) d b a
  · have := (regAll_spec _ 0 h j y (hl _ _ hy)).1
    rw [Nat.zero_add] at this
    exact edgesDown_spec _ this e (by simpa using he) hb
  · have key : ∀ i j x y, ops[i]? = some x → ops[j]? = some y → i < j → Bef ops.toList i j ∨ ((∀ d, x.dst = some d → d ∉ y.looksAt ops) ∧ (∀ d, x.dst = some d → y.dst ≠ some d) ∧ (∀ d, y.dst = some d → d ∉ x.looksAt ops)) := by
      intro i j x y hx hy hlt
      have h1 := (regAll_spec _ 0 h j y (hl _ _ hy)).2
      rw [Nat.zero_add] at h1
      rcases (apartFrom_spec _ 0 h1 i x (hl _ _ hx) (by omega)).1 with h2 | h2
      · rw [Nat.zero_add] at h2; exact .inl (isBef_spec _ h2)
      · exact .inr (Oper.apart_spec h2)
    intro i j x y hx hy hne
    rcases Nat.lt_or_ge i j with h1 | h1
    · rcases key i j x y hx hy h1 with h2 | h2
      · exact .inl h2
      · exact .inr (.inr h2)
    · rcases key j i y x hy hx (by omega) with h2 | ⟨h2, h3, h4⟩
      · exact .inr (.inl h2)
      · exact .inr (.inr ⟨h4, fun d a b => h3 d b a, h2⟩)

theorem RegOk.bef_lt {ops : Array Oper} (h : RegOk ops) {i j : Nat} (b : Bef ops.toList i j) : i < j := by
  induction b with
  | edge j o e ho he hb => exact h.down j o (by rw [← Array.getElem?_toList]; exact ho) e he hb
  | trans i j k _ _ i1 i2 => omega
end Go.Proofs.YtbjickdjkgefcaaGreatDoor.Vai
end
end
section
open Go Go.RowKit
noncomputable section
namespace Go.Proofs.YtbjickdjkgefcaaGreatDoor.Vai
set_option linter.unusedVariables false
set_option linter.unusedSimpArgs false

/-! ### a region in whatever order -/
def pickT (t : T Value) : List Tmp → T Value → T Value
  | [], acc => acc
  | x :: l, acc => pickT t l (match t.get x with
    | some v => acc.set x v
    | none => acc)
/-- A frame of which only these temporaries are known. -/
def narrow (fr : Fr) (l : List Tmp) : Fr := { tm := pickT fr.tm l .nil, n := fr.n }

structure RRec where
  o : Oper
  fr : Fr
  s : St
  r : SRes

def isNewOp (o : Oper) : Bool := match o.op with | .alloc _ => true | .makeMap _ _ => true | .makeSlice _ _ _ => true | .box _ _ => true | .buildSlice _ _ _ => true | .convert _ _ _ => true | _ => false
def isEffOp (o : Oper) : Bool := match o.op with | .call _ => true | .store _ _ _ => true | .mapUpdate _ _ _ _ => true | .insert _ _ _ _ => true | _ => false
/-- Whether a region makes blocks beside effects. -/
def mixed (ops : Array Oper) : Bool := ops.toList.any isNewOp && ops.toList.any isEffOp

abbrev Pre := T (Nat × QOut)

/-- Operations that make a block and wait for no effect: their blocks are set down when the region is entered. -/
def reserve (P : Program) (tb : Tb) (M : T Nat) (ops : Array Oper) : List Oper → Nat → Nat → Fr → St → Pre → St × Pre
  | [], _, _, _, s, m => (s, m)
  | o :: l, i, sk, fr, s, m =>
    bif Nat.beq (Nat.land sk (match M.get i with | some x => x | none => 0)) 0 then
      (match awanted ops.toList fr o with
      | some true => (match aq P tb s (aev s fr) o with
        | some (.val v) => (match aput fr o.dst v with
          | some fr' => reserve P tb M ops l (i + 1) sk fr' s m
          | none => (s, m))
        | some (.new elem es cells sh) => (match o.guard, aput fr o.dst (sh.val s.next) with
          | none, some fr' => reserve P tb M ops l (i + 1) sk fr' (aalloc s elem es cells) (m.set i (s.next, .new elem es cells sh))
          | _, _ => reserve P tb M ops l (i + 1) (Nat.lor sk (Nat.shiftLeft 1 i)) fr s m)
        | some (.obj ob) => (match o.guard, aput fr o.dst (.map (some s.next)) with
          | none, some fr' => reserve P tb M ops l (i + 1) sk fr' (aobj s ob) (m.set i (s.next, .obj ob))
          | _, _ => reserve P tb M ops l (i + 1) (Nat.lor sk (Nat.shiftLeft 1 i)) fr s m)
        | none => reserve P tb M ops l (i + 1) (Nat.lor sk (Nat.shiftLeft 1 i)) fr s m)
      | some false => (match aput fr o.dst undef with
        | some fr' => reserve P tb M ops l (i + 1) sk fr' s m
        | none => (s, m))
      | none => reserve P tb M ops l (i + 1) (Nat.lor sk (Nat.shiftLeft 1 i)) fr s m)
    else reserve P tb M ops l (i + 1) (Nat.lor sk (Nat.shiftLeft 1 i)) fr s m

def reserved (P : Program) (tb : Tb) (ops : Array Oper) (fr : Fr) (s : St) : St × Pre :=
  bif mixed ops then reserve P tb (masks ops.toList 0 .nil) ops ops.toList 0 0 fr s .nil else (s, .nil)

/-- A step, or a block that was set down ahead. -/
def aStepP (P : Program) (tb : Tb) (call : ACall) (ops : List Oper) (m : Pre) (i : Nat) (fr : Fr) (s : St) (o : Oper) : Option SRes :=
  match m.get i with
  | some (id, out) => some (.p id out)
  | none => aStep P tb call ops fr s o

def aRecs (P : Program) (tb : Tb) (call : ACall) (ops : Array Oper) (m : Pre) : Nat → List Oper → Fr → St → Option (List RRec × Fr × St)
  | _, [], fr, s => some ([], fr, s)
  | i, o :: rest, fr, s => match aStepP P tb call ops.toList m i fr s o with
    | none => none
    | some r => r.go s fun v s' => match aput fr o.dst v with
      | none => none
      | some fr' => match aRecs P tb call ops m (i + 1) rest fr' s' with
        | none => none
        | some (l, fe, se) => some (⟨o, fr, s, r⟩ :: l, fe, se)

def SRes.isE : SRes → Bool
  | .e _ _ => true
  | _ => false
def SRes.isN : SRes → Bool
  | .q (.new ..) => true
  | .q (.obj _) => true
  | _ => false

def effs : Nat → List RRec → List Nat
  | _, [] => []
  | i, x :: l => bif x.r.isE then i :: effs (i + 1) l else effs (i + 1) l
def stages (n : Nat) (se : St) : Nat → List RRec → List (Nat × St)
  | _, [] => [(n, se)]
  | i, x :: l => bif x.r.isE then (i, x.s) :: stages n se (i + 1) l else stages n se (i + 1) l

def allowed (M : T Nat) (E : List Nat) (i q : Nat) : Bool := E.all fun e => (!(isBef M e i) || Nat.blt e q) && (!(isBef M i e) || Nat.ble q e)

/-- The cells of a block, as it was set down. -/
def teq : T (Nat × Value) → T (Nat × Value) → Bool
  | .nil, .nil => true
  | .node l x r, .node l' x' r' => teq l l' && (match x, x' with
    | none, none => true
    | some (a, v), some (b, u) => Nat.beq a b && veq v u
    | _, _ => false) && teq r r'
  | _, _ => false
/-- The block that was set down is as it was. -/
def okBind (s : St) (id : Nat) : QOut → Bool
  | .new elem es cells _ => (match s.views.get id with
      | some V => Nat.beq V.root id && Nat.beq V.ext cells.length && V.exact
      | none => false) &&
    (match s.roots.get id with
      | some R => Nat.beq R.elem elem && Nat.beq R.es es && teq R.cells (cellsOf cells) && Nat.beq R.cur id && Nat.beq R.flo 0 && Nat.beq R.fhi 0 && !R.ro && !R.sish
      | none => false) &&
    (match s.objs.get id with
      | some _ => false
      | none => true)
  | .obj ob => (match s.views.get id with
      | some _ => false
      | none => true) &&
    (match s.objs.get id with
      | some ob' => oeq ob' ob
      | none => false)
  | .val _ => false

def fval (fr : Fr) : Operand → Option Value
  | .tmp t => fr.tm.get t
  | .const v => bif plain v then some v else none
  | .func f => some (.func (.func f) #[] #[])
  | .global _ => none
def sfreeOp (fr : Fr) : Op → Bool
  | .move _ => true
  | .assign _ => true
  | .pick _ _ _ => true
  | .alloc _ => true
  | .box _ _ => true
  | .build _ _ => true
  | .buildSlice _ _ _ => true
  | .nilCheck _ => true
  | .unOp _ _ x => (match fval fr x with
    | some a => plain a
    | none => false)
  | .makeInterface _ _ => true
  | .makeFunc _ _ _ => true
  | .makeMap _ _ => true
  | .makeSlice _ _ _ => true
  | .fieldAddr _ _ _ => true
  | .index _ _ _ => true
  | .extract _ _ => true
  | .typeAssert _ _ _ _ => true
  | .binOp _ _ x y _ => (match fval fr x, fval fr y with
      | some a, some b => plain a && plain b
      | _, _ => false)
  | _ => false
/-- An operation to which the state is nothing. -/
def sfree (fr : Fr) (o : Oper) : Bool := (o.op.operands.toList.all fun x => match x with | .global _ => false | _ => true) && sfreeOp fr o.op

def okOne (P : Program) (tb : Tb) (M : T Nat) (E : List Nat) (stg : List (Nat × St)) (i : Nat) (x : RRec) : Bool :=
  (bif x.r.isN then E.all fun e => isBef M e i || isBef M i e else true) &&
  (match x.r with
  | .un => true
  | .e _ s' => Nat.ble x.s.next s'.next
  | .p id out => (match x.o.guard with | none => true | some _ => false) && stg.all fun p => bif allowed M E i p.1 then okBind p.2 id out && (match aq P tb p.2 (aev p.2 x.fr) x.o with
    | some out' => qeq out' out
    | none => false) else true
  | .q out => sfree x.fr x.o || stg.all fun p => bif allowed M E i p.1 then (match aq P tb p.2 (aev p.2 x.fr) x.o with
    | some out' => qeq out' out
    | none => false) else true)
def okAll (P : Program) (tb : Tb) (M : T Nat) (E : List Nat) (stg : List (Nat × St)) : Nat → List RRec → Bool
  | _, [] => true
  | i, x :: l => okOne P tb M E stg i x && okAll P tb M E stg (i + 1) l
def okE (M : T Nat) (E : List Nat) : Bool := E.all fun e => E.all fun f => !(Nat.blt e f) || isBef M e f

def aAny (P : Program) (tb : Tb) (call : ACall) (ops : Array Oper) (fr : Fr) (s : St) : Option (Fr × St) :=
  match reserved P tb ops fr s with
  | (s0, m) => match aRecs P tb call ops m 0 ops.toList fr s0 with
    | none => none
    | some (rs, fe, se) => bif regOk ops && okE (masks ops.toList 0 .nil) (effs 0 rs) && okAll P tb (masks ops.toList 0 .nil) (effs 0 rs) (stages ops.size se 0 rs) 0 rs then some (fe, se) else none
end Go.Proofs.YtbjickdjkgefcaaGreatDoor.Vai
end
end
