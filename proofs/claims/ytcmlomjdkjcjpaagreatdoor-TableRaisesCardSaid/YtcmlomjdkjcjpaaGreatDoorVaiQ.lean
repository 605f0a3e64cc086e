/- A part of an evaluator of the model's code whose answers are proved sound: no statement on the program stands here. -/
import Derived.Test.YtcmlomjdkjcjpaaGreatDoorVaiP
open Go Go.RowKit
namespace Go.Proofs.YtcmlomjdkjcjpaaGreatDoor.Vai
set_option linter.unusedVariables false
set_option linter.unusedSimpArgs false

structure Fr where
  tm : T Value
  n : Nat

def aev (s : St) (fr : Fr) : Operand → Option Value
  | .tmp t => fr.tm.get t
  | .const v => bif plain v then some v else none
  | .global g => bif Nat.blt g s.ng then match s.views.get g with
      | some _ => some (.pointer (some ⟨g, 0, none⟩))
      | none => none
    else none
  | .func f => some (.func (.func f) #[] #[])

structure FR (φ : Emb) (fr : Fr) (a : Act) : Prop where
  size : a.tmps.size = fr.n
  at_ : ∀ t v, fr.tm.get t = some v → ∃ c, a.tmps[t]? = some c ∧ VR φ v c

def aput (fr : Fr) (dst : Option Tmp) (v : Value) : Option Fr :=
  match dst with
  | none => some fr
  | some d => bif Nat.blt d fr.n then some { fr with tm := fr.tm.set d v } else none

def awanted (ops : List Oper) (fr : Fr) (o : Oper) : Option Bool :=
  match o.guard with
  | none => some true
  | some (j, want) => match ops[j]? with
    | none => none
    | some g => match g.dst with
      | none => none
      | some d => match fr.tm.get d with
        | none => none
        | some (.bool b) => some (b == want)
        | some (.chan (some _)) => none
        | some _ => some false

/-- Operations with an effect. -/
def aeCall (P : Program) (tb : Tb) (s : St) (ρ : Operand → Option Value) (c : Call) : Option (Value × St) :=
  match amap ρ c.args.toList with
  | none => none
  | some l => match c.callee with
    | .builtin b => match b with
      | .append => aappend tb s c.argTypes.toList l
      | .copy => acopy tb s c.argTypes.toList l
      | .clear => aclear tb s c.argTypes.toList l
      | .unsafeString => aunsafeString tb s c.argTypes.toList l
      | .delete => match c.argTypes.toList, l with
        | t :: _, m :: k :: _ => match adelete P tb s t m k with
          | some s' => some (.tuple #[], s')
          | none => none
        | _, _ => none
      | _ => none
    | .value f => match ρ f with
      | some (.func (.func g) first captured) => match tb.ext.get g with
        | some k => aext P tb s k (first.toList ++ l ++ captured.toList)
        | none => none
      | _ => none
    | _ => none

def ae (P : Program) (tb : Tb) (s : St) (ρ : Operand → Option Value) (o : Oper) : Option (Value × St) :=
  match o.op with
  | .store t a x => match ρ a, ρ x with
    | some va, some vx => match astoreVar tb s t va vx with
      | some s' => some (undef, s')
      | none => none
    | _, _ => none
  | .convert src dst x => match ρ x with
    | some a => astringToBytes tb s src dst a
    | none => none
  | .mapUpdate t m k x => match ρ m, ρ k, ρ x with
    | some vm, some vk, some vx => match aupdate P tb s t vm vk vx with
      | some s' => some (undef, s')
      | none => none
    | _, _, _ => none
  | .insert t m k x => match ρ m, ρ k, ρ x with
    | some vm, some vk, some vx => match aupdate P tb s t vm vk vx with
      | some s' => some (undef, s')
      | none => none
    | _, _, _ => none
  | .range t x => match ρ x with
    | some a => arange tb s t a
    | none => none
  | .next it str => match ρ it with
    | some a => anext s a str
    | none => none
  | .call c => aeCall P tb s ρ c
  | _ => none

/-- A call of a function with a body, or of a round. -/
def acall (tb : Tb) (ρ : Operand → Option Value) (o : Oper) : Option (Fn × List Value) :=
  match o.op with
  | .call c => match c.callee with
    | .value f => match ρ f with
      | some (.func (.func g) first captured) => match tb.fns.get g with
        | some fn => match fn.body with
          | some _ => match amap ρ c.args.toList with
            | some l => some (.func g, first.toList ++ l ++ captured.toList)
            | none => none
          | none => none
        | none => none
      | some (.func (.yield r) first captured) => match amap ρ c.args.toList with
        | some l => some (.yield r, first.toList ++ l)
        | none => none
      | _ => none
    | _ => none
  | _ => none

abbrev ACall := Fn → List Value → St → Option (Value × St)

inductive SRes where
  | un
  | q (o : QOut)
  | e (v : Value) (s : St)
  | p (id : Nat) (out : QOut)

def aStep (P : Program) (tb : Tb) (call : ACall) (ops : List Oper) (fr : Fr) (s : St) (o : Oper) : Option SRes :=
  match awanted ops fr o with
  | none => none
  | some false => some .un
  | some true => match aq P tb s (aev s fr) o with
    | some out => some (.q out)
    | none => match ae P tb s (aev s fr) o with
      | some (v, s') => some (.e v s')
      | none => match acall tb (aev s fr) o with
        | some (f, args) => match call f args s with
          | some (v, s') => some (.e v s')
          | none => none
        | none => none

def SRes.val (s : St) : SRes → Value
  | .un => undef
  | .q (.val v) => v
  | .q (.new _ _ _ sh) => sh.val s.next
  | .q (.obj _) => .map (some s.next)
  | .e v _ => v
  | .p id (.new _ _ _ sh) => sh.val id
  | .p id (.obj _) => .map (some id)
  | .p _ (.val v) => v
def SRes.st (s : St) : SRes → St
  | .un => s
  | .q (.val _) => s
  | .q (.new elem es cells _) => aalloc s elem es cells
  | .q (.obj o) => aobj s o
  | .e _ s' => s'
  | .p _ _ => s

def aOps (P : Program) (tb : Tb) (call : ACall) (ops : List Oper) : List Oper → Fr → St → Option (Fr × St)
  | [], fr, s => some (fr, s)
  | o :: rest, fr, s => match aStep P tb call ops fr s o with
    | none => none
    | some r => match aput fr o.dst (r.val s) with
      | none => none
      | some fr' => aOps P tb call ops rest fr' (r.st s)

/-- What a call comes to. -/
def Post (w0 : Base) (φ : Emb) (s s' : St) (v : Value) (e : Ending) (w' : World) : Prop :=
  ∃ ψ c, e = .returned c ∧ Ext s φ ψ ∧ s.next ≤ s'.next ∧ Rel w0 ψ s' w' ∧ VR ψ v c

/-- A round that comes back to whoever called it. -/
def RoundRuns (P : Program) (l : Nat) (args : Array Value) (w : World) (Q : Ending → World → Prop) : Prop :=
  ∃ (f : FuncId) (tmps : Array Value) (assign body : Code), (Instr.yield l args).run P w = .ok (.round l f tmps assign body) w ∧
    ∀ (c : Frame) (cs : List Frame), ∃ v w', Q (.returned v) w' ∧ Steps P (lone (Frame.round l f tmps assign body .normal) (c :: cs) w) (lone (c.finish v) cs w')

structure CallOk (P : Program) (w0 : Base) (call : ACall) : Prop where
  fn : ∀ f args s v s', call (.func f) args s = some (v, s') → ∀ φ w cargs, Rel w0 φ s w → VRL φ args cargs → (callFunc f cargs.toArray).run P w = .ok (.enter f cargs.toArray) w ∧ Calls P f cargs.toArray w (Post w0 φ s s' v)
  round : ∀ l args s v s', call (.yield l) args s = some (v, s') → ∀ φ w cargs t, Rel w0 φ s w → φ l = some t → VRL φ args cargs → RoundRuns P t.blk cargs.toArray w (Post w0 φ s s' v)

section
variable {P : Program} {tb : Tb} {w0 : Base} {φ ψ : Emb} {s s' : St} {w : World} {fr fr' : Fr} {a : Act}

theorem FR.mono (h : φ.le ψ) (f : FR φ fr a) : FR ψ fr a := ⟨f.size, fun t v e => let ⟨c, h1, h2⟩ := f.at_ t v e; ⟨c, h1, h2.mono h⟩⟩

theorem FR.rho (r : Rel w0 φ s w) (f : FR φ fr a) : RhoR φ (aev s fr) a.eval := by
  intro x v h
  cases x with
  | tmp t =>
    obtain ⟨c, h1, h2⟩ := f.at_ t v h
    have : a.eval (.tmp t) = c := by
      show a.tmps.getD t undef = c
      rw [Array.getD_eq_getD_getElem?, h1]; rfl
    rw [this]; exact h2
  | const u =>
    simp only [aev] at h
    cases hp : plain u with
    | false => rw [hp] at h; cases h
    | true => rw [hp] at h; cases h; exact VR.of_plain φ _ hp
  | global g =>
    simp only [aev] at h
    cases hb : Nat.blt g s.ng with
    | false => rw [hb] at h; cases h
    | true =>
      rw [hb] at h
      simp only [cond_true] at h
      split at h
      · rename_i V hV
        cases h
        obtain ⟨t, h1, h2⟩ := r.glob g V (blt_iff.1 hb) hV
        have : VR φ (.pointer (some ⟨g, 0, none⟩)) (.pointer (some ⟨t.blk, 0, none⟩)) := .ptr g 0 t h1
        rw [h2] at this
        exact this
      · cases h
  | func f =>
    cases h
    exact .func _ _ _ _ _ _ (.same _ (fun l e => by cases e)) rfl rfl (fun i x y hx => by simp at hx) (fun i x y hx => by simp at hx)

theorem FR.put (f : FR φ fr a) {dst : Option Tmp} {v c : Value} (h : aput fr dst v = some fr') (hv : VR φ v c) : FR φ fr' (a.put dst c) := by
  unfold aput at h
  cases dst with
  | none => cases h; exact f
  | some d =>
    simp only at h
    cases hb : Nat.blt d fr.n with
    | false => rw [hb] at h; cases h
    | true =>
      rw [hb] at h
      cases h
      have hd : d < a.tmps.size := by rw [f.size]; exact blt_iff.1 hb
      refine ⟨by simp [Act.put, f.size], fun t u hu => ?_⟩
      by_cases e : t = d
      · subst e
        rw [T.get_set_same] at hu
        cases hu
        exact ⟨c, by simp [Act.put, hd], hv⟩
      · rw [T.get_set_other _ _ e] at hu
        obtain ⟨c', h1, h2⟩ := f.at_ t u hu
        exact ⟨c', by simp only [Act.put]; rw [Array.getElem?_setIfInBounds_ne (fun x => e x.symm)]; exact h1, h2⟩

theorem awanted_sound (f : FR φ fr a) {ops : Array Oper} {o : Oper} {b : Bool} (h : awanted ops.toList fr o = some b) : Region.wanted o (yielded ops a.tmps) = b := by
  unfold awanted at h
  unfold Region.wanted
  split at h
  · rename_i hg; rw [hg]; cases h; rfl
  · rename_i j want hg
    rw [hg]
    simp only
    split at h
    · cases h
    · rename_i g hj
      split at h
      · cases h
      · rename_i d hd
        have hj' : ops[j]? = some g := by rw [← Array.getElem?_toList]; exact hj
        split at h
        · cases h
        · rename_i bv hv
          cases h
          obtain ⟨c, h1, h2⟩ := f.at_ d _ hv
          cases h2
          simp [yielded, hj', hd, h1]
        · cases h
        · rename_i u hne hne2 hv
          cases h
          obtain ⟨c, h1, h2⟩ := f.at_ d _ hv
          have : yielded ops a.tmps j = none := by
            simp only [yielded, hj', Option.bind_some, hd, h1]
            cases h2 <;> first | rfl | exact absurd rfl (hne _) | exact absurd rfl (hne2 _)
          rw [this]; rfl
end
end Go.Proofs.YtcmlomjdkjcjpaaGreatDoor.Vai
