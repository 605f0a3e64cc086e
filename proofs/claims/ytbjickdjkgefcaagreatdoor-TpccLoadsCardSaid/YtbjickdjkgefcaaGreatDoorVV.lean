/- A part of an evaluator of the model's code whose answers are proved sound: no statement on the program stands here. -/
import Derived.Test.YtbjickdjkgefcaaGreatDoorVQ
section
open Go Go.RowKit
noncomputable section
namespace Go.Proofs.YtbjickdjkgefcaaGreatDoor.Vai
set_option linter.unusedVariables false
set_option linter.unusedSimpArgs false

inductive Ex where
  | norm
  | exit (id : Nat)
  | ret

/-- The jump that a round leaves pending. -/
def Ex.jump : Ex → Option Code
  | .norm => none
  | .exit id => some (.exit id)
  | .ret => some .ret

/-- The blocks for deferred calls are shut, as a frame leaves. -/
def atake : List Nat → St → Option St
  | [], s => some s
  | d :: l, s => match s.objs.get d with
    | some .defs => atake l (asetObj s d .defsDone)
    | _ => none

/-- What a loop over a function has left. -/
def aended (s : St) (l : Nat) : Option (Option Code × St) :=
  match s.objs.get l with
  | some (.loop .busy _ _ _ _ _ _ _) => none
  | some (.loop _ pend tm n ps as bd D) => some (pend, asetObj s l (.loop .exhausted pend tm n ps as bd D))
  | _ => none

def aloop (fr : Fr) (s : St) (ps : Array Tmp) (assign body : Code) : St := aobj (aobj s .defs) (.loop .ready none fr.tm fr.n ps.toList assign body s.next)

/-- 'rd': the code of a round. 'ds': the blocks for deferred calls. -/
def aExec (P : Program) (tb : Tb) (call : ACall) (rd : Bool) : Nat → Code → Fr → List Nat → St → Option (Ex × Fr × List Nat × St)
  | 0, _, _, _, _ => none
  | n + 1, c, fr, ds, s => match c with
    | .skip => some (.norm, fr, ds, s)
    | .label _ => some (.norm, fr, ds, s)
    | .ret => some (.ret, fr, ds, s)
    | .exit id => some (.exit id, fr, ds, s)
    | .region _ ops draw => match (bif draw then aAny P tb call ops fr s else aOps P tb call ops.toList ops.toList fr s) with
      | some (fr', s') => some (.norm, fr', ds, s')
      | none => none
    | .seq a b => match aExec P tb call rd n a fr ds s with
      | some (.norm, fr', ds', s') => aExec P tb call rd n b fr' ds' s'
      | r => r
    | .cond c x y => match aev s fr c with
      | some (.bool t) => aExec P tb call rd n (bif t then x else y) fr ds s
      | _ => none
    | .block id body => match aExec P tb call rd n body fr ds s with
      | some (.exit j, fr', ds', s') => bif Nat.beq j id then some (.norm, fr', ds', s') else some (.exit j, fr', ds', s')
      | r => r
    | .loop body => match aExec P tb call rd n body fr ds s with
      | some (.norm, fr', ds', s') => aExec P tb call rd n (.loop body) fr' ds' s'
      | r => r
    | .scope body => aExec P tb call rd n body fr ds s
    | .rangeFunc g ps assign body => bif rd then none else match aev s fr g with
      | some (.func (.func f) first captured) => match call (.func f) (first.toList ++ [.func (.yield (s.next + 1)) #[] #[]] ++ captured.toList) (aloop fr s ps assign body) with
        | some (_, s2) => match aended s2 (s.next + 1) with
          | some (none, s3) => some (.norm, fr, s.next :: ds, s3)
          | some (some c, s3) => aExec P tb call rd n c fr (s.next :: ds) s3
          | none => none
        | none => none
      | _ => none
    | _ => none

def aresult (tb : Tb) (fr : Fr) (s : St) : ResultVar → Option Value
  | .tmp t => fr.tm.get t
  | .cell a t => match fr.tm.get a with
    | some (.pointer (some ⟨v, o, none⟩)) => aloadVar tb s t v o
    | _ => none
def aresults (tb : Tb) (fr : Fr) (s : St) : List ResultVar → Option (List Value)
  | [] => some []
  | x :: l => match aresult tb fr s x, aresults tb fr s l with
    | some v, some vs => some (v :: vs)
    | _, _ => none
def packed : List Value → Value
  | [v] => v
  | l => .tuple ⟨l⟩

def argsT : Nat → List Value → T Value → T Value
  | _, [], t => t
  | i, v :: l, t => argsT (i + 1) l (t.set i v)

/-- A function's body. -/
def aBody (P : Program) (tb : Tb) (L : Nat) (call : ACall) (f : FuncId) (args : List Value) (s : St) : Option (Value × St) :=
  match tb.fns.get f with
    | none => none
    | some fn => match fn.body with
      | none => none
      | some c => match aExec P tb call false L c ⟨argsT 0 args .nil, Nat.add args.length (Nat.sub fn.ntmps args.length)⟩ [] s with
        | some (.exit _, _, _, _) => none
        | some (_, fr, ds, s') => match atake ds s' with
          | some s'' => match aresults tb fr s'' fn.results.toList with
            | some l => some (packed l, s'')
            | none => none
          | none => none
        | none => none

def setPs (n : Nat) : List Tmp → List Value → T Value → Option (T Value)
  | [], [], t => some t
  | p :: ps, v :: vs, t => bif Nat.blt p n then setPs n ps vs (t.set p v) else none
  | _, _, _ => none

def abegin (s : St) (l : Nat) : Option St :=
  match s.objs.get l with
  | some (.loop .ready pend tm n ps as bd D) => some (asetObj s l (.loop .busy pend tm n ps as bd D))
  | _ => none

def aend (s : St) (l : Nat) (jump : Option Code) : Option St :=
  match s.objs.get l with
  | some (.loop _ _ tm n ps as bd D) => some (asetObj s l (.loop (match jump with | none => .ready | some _ => .done) jump tm n ps as bd D))
  | _ => none

/-- A round. -/
def aRound (P : Program) (tb : Tb) (L : Nat) (call : ACall) (l : Nat) (args : List Value) (s : St) : Option (Value × St) :=
  match s.objs.get l with
  | some (.loop _ _ tm n ps as bd _) => match setPs n ps args tm with
    | none => none
    | some tm1 => match aExec P tb call true L as ⟨tm1, n⟩ [] s with
      | some (.norm, fr1, ds1, s1) => match abegin s1 l with
        | none => none
        | some s2 => match aExec P tb call true L bd fr1 ds1 s2 with
          | some (ex, _, _, s3) => match aend s3 l ex.jump with
            | some s4 => some (.bool ex.jump.isNone, s4)
            | none => none
          | none => none
      | _ => none
  | _ => none

def aFun (P : Program) (tb : Tb) (L : Nat) : Nat → ACall
  | 0, _, _, _ => none
  | d + 1, fn, args, s => match fn with
    | .func f => aBody P tb L (aFun P tb L d) f args s
    | .yield l => aRound P tb L (aFun P tb L d) l args s
    | _ => none
end Go.Proofs.YtbjickdjkgefcaaGreatDoor.Vai
end
end
section
open Go Go.RowKit
noncomputable section
namespace Go.Proofs.YtbjickdjkgefcaaGreatDoor.Vai
set_option linter.unusedVariables false
set_option linter.unusedSimpArgs false

/-! ### what an operation looks at -/
section
variable {P : Program} {tb : Tb} {s s' : St} {ρ ρ' : Operand → Option Value}

theorem amap_congr : ∀ (l : List Operand), (∀ x ∈ l, ρ x = ρ' x) → amap ρ l = amap ρ' l := by
  intro l
  induction l with
  | nil => intro _; rfl
  | cons x l ih =>
    intro h
    simp only [amap]
    rw [h x (List.mem_cons_self ..), ih fun y hy => h y (List.mem_cons_of_mem _ hy)]
theorem aparts_congr : ∀ (l : List (Nat × Operand)), (∀ x ∈ l.map (·.2), ρ x = ρ' x) → aparts ρ l = aparts ρ' l := by
  intro l
  induction l with
  | nil => intro _; rfl
  | cons x l ih =>
    obtain ⟨i, x⟩ := x
    intro h
    simp only [aparts]
    rw [h x (by simp), ih fun y hy => h y (by simp only [List.map_cons, List.mem_cons]; exact .inr hy)]
theorem aopt_congr (x : Option Operand) (h : ∀ y, x = some y → ρ y = ρ' y) : aopt ρ x = aopt ρ' x := by
  cases x with
  | none => rfl
  | some y => simp only [aopt]; rw [h y rfl]

theorem aq_congr {o : Oper} (h : ∀ x ∈ o.op.operands.toList, ρ x = ρ' x) : aq P tb s ρ o = aq P tb s ρ' o := by
  obtain ⟨dst, op, type, pos, after, guard⟩ := o
  have h : ∀ x ∈ op.operands.toList, ρ x = ρ' x := h
  cases op with
  | build t parts => simp only [aq]; rw [aparts_congr _ (fun x hx => h x (by simpa [Op.operands] using hx))]
  | buildSlice t len parts => simp only [aq]; rw [aparts_congr _ (fun x hx => h x (by simpa [Op.operands] using hx))]
  | makeFunc fn first captured =>
    simp only [aq, amakeFunc]
    rw [amap_congr first.toList (fun x hx => h x (by simp only [Op.operands, Array.toList_append, List.mem_append]; exact .inl hx)), amap_congr captured.toList (fun x hx => h x (by simp only [Op.operands, Array.toList_append, List.mem_append]; exact .inr hx))]
  | makeMap t r =>
    cases r with
    | none => rfl
    | some x => simp only [aq, amakeMap]; rw [h x (by simp [Op.operands])]
  | slice t x lo hi mx =>
    simp only [aq]
    rw [h x (by simp [Op.operands]), aopt_congr lo (fun y e => h y (by subst e; simp [Op.operands])), aopt_congr hi (fun y e => h y (by subst e; simp [Op.operands])), aopt_congr mx (fun y e => h y (by subst e; simp [Op.operands]))]
  | call c =>
    obtain ⟨callee, args, argTypes⟩ := c
    cases callee with
    | builtin b => simp only [aq, aqCall]; rw [amap_congr args.toList (fun x hx => h x (by simpa [Op.operands, Call.operands] using hx))]
    | _ => rfl
  | pick c a b => simp only [aq]; rw [h c (by simp [Op.operands]), h a (by simp [Op.operands]), h b (by simp [Op.operands])]
  | binOp op t x y e => simp only [aq]; rw [h x (by simp [Op.operands]), h y (by simp [Op.operands])]
  | makeSlice t x y => simp only [aq]; rw [h x (by simp [Op.operands]), h y (by simp [Op.operands])]
  | indexAddr t x y => simp only [aq]; rw [h x (by simp [Op.operands]), h y (by simp [Op.operands])]
  | index t x y => simp only [aq]; rw [h x (by simp [Op.operands]), h y (by simp [Op.operands])]
  | lookup t x y k => simp only [aq]; rw [h x (by simp [Op.operands]), h y (by simp [Op.operands])]
  | move x => simp only [aq]; rw [h x (by simp [Op.operands])]
  | assign x => simp only [aq]; rw [h x (by simp [Op.operands])]
  | box t x => simp only [aq]; rw [h x (by simp [Op.operands])]
  | load t x => simp only [aq]; rw [h x (by simp [Op.operands])]
  | nilCheck x => simp only [aq]; rw [h x (by simp [Op.operands])]
  | unOp op t x => simp only [aq]; rw [h x (by simp [Op.operands])]
  | convert a b x => simp only [aq]; rw [h x (by simp [Op.operands])]
  | makeInterface t x => simp only [aq]; rw [h x (by simp [Op.operands])]
  | fieldAddr t x f => simp only [aq]; rw [h x (by simp [Op.operands])]
  | field t x f => simp only [aq]; try rw [h x (by simp [Op.operands])]
  | extract x k => simp only [aq]; rw [h x (by simp [Op.operands])]
  | entry x => simp only [aq]; rw [h x (by simp [Op.operands])]
  | typeAssert x a b c => simp only [aq]; rw [h x (by simp [Op.operands])]
  | _ => rfl

theorem ae_congr {o : Oper} (h : ∀ x ∈ o.op.operands.toList, ρ x = ρ' x) : ae P tb s ρ o = ae P tb s ρ' o := by
  obtain ⟨dst, op, type, pos, after, guard⟩ := o
  have h : ∀ x ∈ op.operands.toList, ρ x = ρ' x := h
  cases op with
  | store t x y => simp only [ae]; rw [h x (by simp [Op.operands]), h y (by simp [Op.operands])]
  | convert a b x => simp only [ae]; rw [h x (by simp [Op.operands])]
  | mapUpdate t x y z => simp only [ae]; rw [h x (by simp [Op.operands]), h y (by simp [Op.operands]), h z (by simp [Op.operands])]
  | insert t x y z => simp only [ae]; rw [h x (by simp [Op.operands]), h y (by simp [Op.operands]), h z (by simp [Op.operands])]
  | range t x => simp only [ae]; rw [h x (by simp [Op.operands])]
  | next x b => simp only [ae]; rw [h x (by simp [Op.operands])]
  | call c =>
    obtain ⟨callee, args, argTypes⟩ := c
    cases callee with
    | builtin b => simp only [ae, aeCall]; rw [amap_congr args.toList (fun x hx => h x (by simpa [Op.operands, Call.operands] using hx))]
    | value f => simp only [ae, aeCall]; rw [amap_congr args.toList (fun x hx => h x (by simp [Op.operands, Call.operands]; right; simpa using hx)), h f (by simp [Op.operands, Call.operands])]
    | invoke r n => simp only [ae, aeCall]; split <;> split <;> rfl
  | _ => rfl

theorem acall_congr {o : Oper} (h : ∀ x ∈ o.op.operands.toList, ρ x = ρ' x) : acall tb ρ o = acall tb ρ' o := by
  obtain ⟨dst, op, type, pos, after, guard⟩ := o
  have h : ∀ x ∈ op.operands.toList, ρ x = ρ' x := h
  cases op with
  | call c =>
    obtain ⟨callee, args, argTypes⟩ := c
    cases callee with
    | value f => simp only [acall]; rw [amap_congr args.toList (fun x hx => h x (by simp [Op.operands, Call.operands]; right; simpa using hx)), h f (by simp [Op.operands, Call.operands])]
    | _ => rfl
  | _ => rfl
end

theorem pickT_spec {t : T Value} : ∀ (l : List Tmp) (acc : T Value) (x : Nat), (pickT t l acc).get x = (if x ∈ l then (match t.get x with | some v => some v | none => acc.get x) else acc.get x) := by
  intro l
  induction l with
  | nil => intro acc x; simp [pickT]
  | cons y l ih =>
    intro acc x
    simp only [pickT]
    rw [ih]
    by_cases hx : x = y
    · subst hx
      cases ht : t.get x with
      | none => simp
      | some v => simp [T.get_set_same]
    · have hmem : (x ∈ y :: l) = (x ∈ l) := by simp [hx]
      simp only [hmem]
      cases ht : t.get y with
      | none => rfl
      | some v => simp only [T.get_set_other _ _ hx]

theorem narrow_get_mem {fr : Fr} {l : List Tmp} {x : Nat} (h : x ∈ l) : (narrow fr l).tm.get x = fr.tm.get x := by
  simp only [narrow]
  rw [pickT_spec, if_pos h]
  cases hx : fr.tm.get x with
  | some v => rfl
  | none => rfl

theorem aev_narrow {ops : Array Oper} {fr : Fr} {s : St} {o : Oper} {x : Operand} (h : x ∈ o.op.operands.toList) : aev s (narrow fr (o.looksAt ops)) x = aev s fr x := by
  cases x with
  | tmp t =>
    simp only [aev]
    refine narrow_get_mem ?_
    simp only [Oper.looksAt, List.mem_append, List.mem_filterMap]
    exact .inl ⟨.tmp t, h, rfl⟩
  | _ => rfl

theorem aq_narrow {P : Program} {tb : Tb} {ops : Array Oper} {fr : Fr} {s : St} {o : Oper} : aq P tb s (aev s (narrow fr (o.looksAt ops))) o = aq P tb s (aev s fr) o := aq_congr fun x hx => aev_narrow hx

theorem awanted_narrow {ops : Array Oper} {fr : Fr} {o : Oper} : awanted ops.toList (narrow fr (o.looksAt ops)) o = awanted ops.toList fr o := by
  unfold awanted
  split
  · rfl
  · rename_i j want hg
    split
    · rfl
    · rename_i g hj
      split
      · rfl
      · rename_i d hd
        have : (narrow fr (o.looksAt ops)).tm.get d = fr.tm.get d := by
          refine narrow_get_mem ?_
          simp only [Oper.looksAt, List.mem_append, hg]
          rw [← Array.getElem?_toList, hj]
          exact .inr (by simp [hd])
        rw [this]

theorem aStep_narrow {P : Program} {tb : Tb} {call : ACall} {ops : Array Oper} {fr : Fr} {s : St} {o : Oper} : aStep P tb call ops.toList (narrow fr (o.looksAt ops)) s o = aStep P tb call ops.toList fr s o := by
  unfold aStep
  rw [awanted_narrow, aq_narrow, ae_congr (ρ := aev s (narrow fr (o.looksAt ops))) (ρ' := aev s fr) fun x hx => aev_narrow hx, acall_congr (ρ := aev s (narrow fr (o.looksAt ops))) (ρ' := aev s fr) fun x hx => aev_narrow hx]

theorem sfree_sound {P : Program} {tb : Tb} {fr : Fr} {s s' : St} {o : Oper} (h : sfree fr o = true) : aq P tb s (aev s fr) o = aq P tb s' (aev s' fr) o := by
  unfold sfree at h
  rw [Bool.and_eq_true] at h
  obtain ⟨h1, h2⟩ := h
  have hglob : ∀ x ∈ o.op.operands.toList, aev s fr x = aev s' fr x := by
    intro x hx
    have := List.all_eq_true.1 h1 x hx
    cases x <;> first | rfl | (cases this)
  rw [aq_congr hglob]
  obtain ⟨dst, op, type, pos, after, guard⟩ := o
  have hfv : ∀ z a, fval fr z = some a → aev s' fr z = some a := by
    intro z a hz
    cases z <;> first | exact hz | (cases hz)
  cases op with
  | binOp op t x y e =>
    have h2 : (match fval fr x, fval fr y with | some a, some b => plain a && plain b | _, _ => false) = true := h2
    split at h2
    · rename_i a b ha hb
      simp only [aq, hfv _ _ ha, hfv _ _ hb, abinOp, h2, cond_true]
    · cases h2
  | unOp op t x =>
    have h2 : (match fval fr x with | some a => plain a | none => false) = true := h2
    split at h2
    · rename_i a ha
      simp only [aq, hfv _ _ ha, h2, cond_true]
    · cases h2
  | _ => first | rfl | (exact absurd h2 (by simp [sfreeOp]))
end Go.Proofs.YtbjickdjkgefcaaGreatDoor.Vai
end
end
section
open Go Go.RowKit
noncomputable section
namespace Go.Proofs.YtbjickdjkgefcaaGreatDoor.Vai
set_option linter.unusedVariables false
set_option linter.unusedSimpArgs false

theorem pickT_get {t : T Value} : ∀ (l : List Tmp) (acc : T Value) (x : Nat) (v : Value), (pickT t l acc).get x = some v → acc.get x = some v ∨ (x ∈ l ∧ t.get x = some v) := by
  intro l
  induction l with
  | nil => intro acc x v h; exact .inl h
  | cons y l ih =>
    intro acc x v h
    simp only [pickT] at h
    rcases ih _ x v h with h | ⟨h1, h2⟩
    · cases hy : t.get y with
      | none => rw [hy] at h; exact .inl h
      | some u =>
        rw [hy] at h
        simp only at h
        by_cases e : x = y
        · subst e
          rw [T.get_set_same] at h
          cases h
          exact .inr ⟨List.mem_cons_self .., hy⟩
        · rw [T.get_set_other _ _ e] at h
          exact .inl h
    · exact .inr ⟨List.mem_cons_of_mem _ h1, h2⟩
theorem narrow_get {fr : Fr} {l : List Tmp} {x : Nat} {v : Value} (h : (narrow fr l).tm.get x = some v) : x ∈ l ∧ fr.tm.get x = some v := by
  rcases pickT_get l _ x v h with h | h
  · cases h
  · exact h

/-- The run in the order of the text. -/
structure Canon (P : Program) (tb : Tb) (call : ACall) (ops : Array Oper) (m : Pre) (rs : List RRec) (F : Nat → Fr) (S : Nat → St) (V : Nat → SRes) : Prop where
  recd : ∀ (i : Nat) (o : Oper), ops[i]? = some o → rs[i]? = some ⟨o, F i, S i, V i⟩
  step : ∀ (i : Nat) (o : Oper), ops[i]? = some o → aStepP P tb call ops.toList m i (F i) (S i) o = some (V i)
  put : ∀ (i : Nat) (o : Oper), ops[i]? = some o → aput (F i) o.dst ((V i).val (S i)) = some (F (i + 1))
  st : ∀ (i : Nat) (o : Oper), ops[i]? = some o → S (i + 1) = (V i).st (S i)

theorem aRecs_spec {P : Program} {tb : Tb} {call : ACall} {ops : Array Oper} {m : Pre} : ∀ (l : List Oper) (i0 : Nat) (fr : Fr) (s : St) (rs : List RRec) (fe : Fr) (se : St), aRecs P tb call ops m i0 l fr s = some (rs, fe, se) →
    ∃ (F : Nat → Fr) (S : Nat → St) (V : Nat → SRes), F 0 = fr ∧ S 0 = s ∧ F l.length = fe ∧ S l.length = se ∧ rs.length = l.length ∧ ∀ (i : Nat) (o : Oper), l[i]? = some o → rs[i]? = some ⟨o, F i, S i, V i⟩ ∧
      aStepP P tb call ops.toList m (i0 + i) (F i) (S i) o = some (V i) ∧ aput (F i) o.dst ((V i).val (S i)) = some (F (i + 1)) ∧ S (i + 1) = (V i).st (S i) := by
  intro l
  induction l with
  | nil =>
    intro i0 fr s rs fe se h
    simp only [aRecs, Option.some.injEq, Prod.mk.injEq] at h
    obtain ⟨rfl, rfl, rfl⟩ := h
    exact ⟨fun _ => fr, fun _ => s, fun _ => .un, rfl, rfl, rfl, rfl, rfl, fun i o h => by simp at h⟩
  | cons x l ih =>
    intro i0 fr s rs fe se h
    simp only [aRecs] at h
    split at h
    · cases h
    · rename_i r hr
      rw [SRes.go_eq] at h
      split at h
      · cases h
      · rename_i fr' hput
        split at h
        · cases h
        · rename_i l' fe' se' hrec
          simp only [Option.some.injEq, Prod.mk.injEq] at h
          obtain ⟨rfl, rfl, rfl⟩ := h
          obtain ⟨F, S, V, h1, h2, h3, h4, h5, h6⟩ := ih (i0 + 1) fr' (r.st s) l' fe' se' hrec
          refine ⟨fun i => Nat.casesOn i fr F, fun i => Nat.casesOn i s S, fun i => Nat.casesOn i r V, rfl, rfl, h3, h4, by simp [h5], ?_⟩
          intro i o ho
          cases i with
          | zero =>
            simp at ho
            subst ho
            exact ⟨rfl, hr, (by show aput fr x.dst (r.val s) = some (F 0); rw [h1]; exact hput), h2⟩
          | succ i =>
            have := h6 i o (by simpa using ho)
            rw [show i0 + 1 + i = i0 + (i + 1) by omega] at this
            exact this

section
variable {P : Program} {tb : Tb} {call : ACall} {w0 : Base} {ops : Array Oper} {m : Pre} {rs : List RRec} {F : Nat → Fr} {S : Nat → St} {V : Nat → SRes}

theorem Canon.get (c : Canon P tb call ops m rs F S V) : ∀ (i : Nat), i ≤ ops.size → (F i).n = (F 0).n ∧ ∀ t v, (F i).tm.get t = some v →
    (∃ j o, j < i ∧ ops[j]? = some o ∧ o.dst = some t ∧ v = (V j).val (S j)) ∨ ((∀ j o, j < i → ops[j]? = some o → o.dst ≠ some t) ∧ (F 0).tm.get t = some v) := by
  intro i
  induction i with
  | zero => intro _; exact ⟨rfl, fun t v h => .inr ⟨fun j o hj => by omega, h⟩⟩
  | succ i ih =>
    intro hle
    obtain ⟨hn, hget⟩ := ih (by omega)
    have ho : ops[i]? = some ops[i] := Array.getElem?_eq_getElem (by omega)
    have hp := c.put i _ ho
    have old : ∀ t v, (F i).tm.get t = some v → (ops[i]).dst ≠ some t → (∃ j o, j < i + 1 ∧ ops[j]? = some o ∧ o.dst = some t ∧ v = (V j).val (S j)) ∨ ((∀ j o, j < i + 1 → ops[j]? = some o → o.dst ≠ some t) ∧ (F 0).tm.get t = some v) := by
      intro t v ht hd
      rcases hget t v ht with ⟨j, o, h1, h2, h3, h4⟩ | ⟨h1, h2⟩
      · exact .inl ⟨j, o, by omega, h2, h3, h4⟩
      · refine .inr ⟨fun j o hj hjo => ?_, h2⟩
        by_cases e : j = i
        · subst e; rw [ho] at hjo; cases hjo; exact hd
        · exact h1 j o (by omega) hjo
    cases hd : (ops[i]).dst with
    | none =>
      rw [hd] at hp
      rw [← Option.some.inj hp]
      exact ⟨hn, fun t v ht => old t v ht (by rw [hd]; simp)⟩
    | some d =>
      rw [hd, aput_some] at hp
      cases hb : Nat.blt d (F i).n with
      | false => rw [hb] at hp; cases hp
      | true =>
        rw [hb] at hp
        simp only [cond_true, Option.some.injEq] at hp
        rw [← hp]
        refine ⟨hn, fun t v ht => ?_⟩
        by_cases e : t = d
        · subst e
          rw [T.get_set_same] at ht
          cases ht
          exact .inl ⟨i, _, Nat.lt_succ_self i, ho, hd, rfl⟩
        · rw [T.get_set_other _ _ e] at ht
          exact old t v ht (by rw [hd]; simp; exact fun x => e x.symm)

/-- What the looks at the run say. -/
structure Looks (P : Program) (tb : Tb) (ops : Array Oper) (F : Nat → Fr) (S : Nat → St) (V : Nat → SRes) : Prop where
  hE : ∀ e f, e < ops.size → f < ops.size → (V e).isE = true → (V f).isE = true → e < f → Bef ops.toList e f
  hN : ∀ i e, i < ops.size → e < ops.size → (V i).isN = true → (V e).isE = true → Bef ops.toList e i ∨ Bef ops.toList i e
  hM : ∀ i, i < ops.size → (V i).isE = true → (S i).next ≤ (S (i + 1)).next
  hQ : ∀ (i : Nat) (o : Oper) (out : QOut) (q : Nat), ops[i]? = some o → V i = .q out → (q = ops.size ∨ (q < ops.size ∧ (V q).isE = true)) →
    (∀ e, e < ops.size → (V e).isE = true → (Bef ops.toList e i → e < q) ∧ (Bef ops.toList i e → q ≤ e)) → aq P tb (S q) (aev (S q) (narrow (F i) (o.looksAt ops))) o = some out
  hP : ∀ (i : Nat) (o : Oper) (id : Nat) (out : QOut), ops[i]? = some o → V i = .p id out → o.guard = none ∧ ∀ q, (q = ops.size ∨ (q < ops.size ∧ (V q).isE = true)) →
    (∀ e, e < ops.size → (V e).isE = true → (Bef ops.toList e i → e < q) ∧ (Bef ops.toList i e → q ≤ e)) → okBind (S q) id out = true ∧ aq P tb (S q) (aev (S q) (narrow (F i) (o.looksAt ops))) o = some out

/-- The blocks that were set down ahead: their numbers. -/
structure PreOk (m : Pre) (lo hi : Nat) : Prop where
  le : lo ≤ hi
  bound : ∀ i id out, m.get i = some (id, out) → lo ≤ id ∧ id < hi
  inj : ∀ i j id out out', m.get i = some (id, out) → m.get j = some (id, out') → i = j

theorem Canon.mono1 (c : Canon P tb call ops m rs F S V) (L : Looks P tb ops F S V) {i : Nat} (h : i < ops.size) : (S i).next ≤ (S (i + 1)).next := by
  by_cases e : (V i).isE = true
  · exact L.hM i h e
  · rw [c.st i _ (Array.getElem?_eq_getElem h)]
    cases hv : V i with
    | un => exact Nat.le_refl _
    | q out => cases out <;> first | exact Nat.le_refl _ | exact Nat.le_succ _
    | e v s => rw [hv] at e; exact absurd rfl e
    | p => exact Nat.le_refl _
theorem Canon.mono (c : Canon P tb call ops m rs F S V) (L : Looks P tb ops F S V) : ∀ {i j : Nat}, i ≤ j → j ≤ ops.size → (S i).next ≤ (S j).next := by
  intro i j hij
  induction hij with
  | refl => intro _; exact Nat.le_refl _
  | step h ih => intro hj; exact Nat.le_trans (ih (by omega)) (c.mono1 L (by omega))
theorem Canon.new1 (c : Canon P tb call ops m rs F S V) {i : Nat} (h : i < ops.size) (hn : (V i).isN = true) : (S (i + 1)).next = (S i).next + 1 := by
  rw [c.st i _ (Array.getElem?_eq_getElem h)]
  cases hv : V i with
  | un => rw [hv] at hn; cases hn
  | e v s => rw [hv] at hn; cases hn
  | p => rw [hv] at hn; cases hn
  | q out =>
    cases out with
    | val v => rw [hv] at hn; cases hn
    | new => rfl
    | obj => rfl

theorem Canon.quiet (c : Canon P tb call ops m rs F S V) {p q : Nat} (hpq : p ≤ q) (hq : q ≤ ops.size) (hE : ∀ i, p ≤ i → i < q → (V i).isE = false) (wf : Wf (S p)) : Qext (S p) (S q) := by
  induction hpq with
  | refl => exact Qext.refl wf
  | @step k h ih =>
    have h1 := ih (by omega) (fun i a b => hE i a (by omega))
    refine h1.trans ?_
    have wm := h1.wf wf
    rw [c.st k _ (Array.getElem?_eq_getElem (by omega))]
    have hm := hE k h (by omega)
    cases hv : V k with
    | un => exact Qext.refl wm
    | e v s => rw [hv] at hm; cases hm
    | p => exact Qext.refl wm
    | q out =>
      cases out with
      | val v => exact Qext.refl wm
      | new elem es cells sh => exact Qext.alloc wm elem es cells
      | obj o => exact Qext.obj wm o

theorem next_effect (V : Nat → SRes) (n : Nat) : ∀ (k m : Nat), m + k = n → ∃ q, m ≤ q ∧ q ≤ n ∧ (∀ j, m ≤ j → j < q → (V j).isE = false) ∧ (q = n ∨ (V q).isE = true) := by
  intro k
  induction k with
  | zero => intro m h; exact ⟨m, Nat.le_refl _, by omega, fun j a b => by omega, .inl (by omega)⟩
  | succ k ih =>
    intro m h
    cases hv : (V m).isE with
    | true => exact ⟨m, Nat.le_refl _, by omega, fun j a b => by omega, .inr hv⟩
    | false =>
      obtain ⟨q, h1, h2, h3, h4⟩ := ih (m + 1) (by omega)
      refine ⟨q, by omega, h2, fun j a b => ?_, h4⟩
      by_cases e : j = m
      · subst e; exact hv
      · exact h3 j (by omega) b

structure Inv (w0 : Base) (sz : St) (ops : Array Oper) (F : Nat → Fr) (S : Nat → St) (V : Nat → SRes) (φ0 : Emb) (d0 : List Deferred) (D : Nat → Prop) (q p : Nat) (φ : Emb) (w : World) (a : Act) : Prop where
  dn : ∀ i, D i → i < ops.size
  closed : ∀ (j : Nat) (o : Oper), D j → ops[j]? = some o → ∀ e ∈ o.after, Region.binds .any e = true → D e.on
  ple : p ≤ q
  qle : q ≤ ops.size
  noE : ∀ i, p ≤ i → i < q → (V i).isE = false
  qE : q = ops.size ∨ (V q).isE = true
  pE : p = 0 ∨ (V (p - 1)).isE = true
  eff : ∀ e, e < ops.size → (V e).isE = true → (D e ↔ e < q)
  rel : Rel w0 φ (S q) w
  wfp : Wf (S p)
  unb : ∀ i, p ≤ i → i < q → ¬ D i → (V i).isN = true → φ (S i).next = none
  unbP : ∀ i id out, i < ops.size → ¬ D i → V i = .p id out → φ id = none
  size : a.tmps.size = (F 0).n
  done : ∀ (j : Nat) (o : Oper) (t : Nat), D j → ops[j]? = some o → o.dst = some t → ∃ c, a.tmps[t]? = some c ∧ VR φ ((V j).val (S j)) c
  old : ∀ (t : Nat) (v : Value), (∀ (j : Nat) (o : Oper), D j → ops[j]? = some o → o.dst ≠ some t) → (F 0).tm.get t = some v → ∃ c, a.tmps[t]? = some c ∧ VR φ v c
  ext : Ext sz φ0 φ
  defers : a.defers = d0

variable {sz : St} {φ0 : Emb} {d0 : List Deferred} {D : Nat → Prop} {q p : Nat} {φ : Emb} {w : World} {a : Act}

theorem Inv.closedBef (I : Inv w0 sz ops F S V φ0 d0 D q p φ w a) {i j : Nat} (h : Bef ops.toList i j) : D j → D i := by
  induction h with
  | edge j o e ho he hb => intro hj; exact I.closed j o hj (by rw [← Array.getElem?_toList]; exact ho) e he hb
  | trans i j k _ _ i1 i2 => intro hk; exact i1 (i2 hk)
theorem Inv.preds (I : Inv w0 sz ops F S V φ0 d0 D q p φ w a) {i : Nat} {o : Oper} (ho : ops[i]? = some o) (hr : ∀ e ∈ o.after, Region.binds .any e = true → D e.on) {x : Nat} (h : Bef ops.toList x i) : D x := by
  generalize hj : i = j at h
  induction h with
  | edge j o' e ho' he hb =>
    subst hj
    rw [Array.getElem?_toList, ho] at ho'
    cases ho'
    exact hr e he hb
  | trans x y k h1 h2 i1 i2 => exact I.closedBef h1 (i2 hj)

theorem Inv.fr (I : Inv w0 sz ops F S V φ0 d0 D q p φ w a) (c : Canon P tb call ops m rs F S V) (R : RegOk ops) {i : Nat} {o : Oper} (ho : ops[i]? = some o) (hi : ¬ D i) (hr : ∀ x, Bef ops.toList x i → D x) :
    FR φ (narrow (F i) (o.looksAt ops)) a := by
  have hlt : i < ops.size := (Array.getElem?_eq_some_iff.1 ho).1
  obtain ⟨hn, hget⟩ := c.get i (by omega)
  refine ⟨I.size.trans hn.symm, fun t v ht => ?_⟩
  obtain ⟨hmem, ht⟩ := narrow_get ht
  rcases hget t v ht with ⟨j, oj, h1, h2, h3, rfl⟩ | ⟨h1, h2⟩
  · rcases R.apart j i oj o h2 ho (by omega) with h | h | ⟨h, _⟩
    · exact I.done j oj t (hr j h) h2 h3
    · have := R.bef_lt h; omega
    · exact absurd hmem (h t h3)
  · refine I.old t v (fun j oj hj hoj hd => ?_) h2
    have hne : j ≠ i := fun e => hi (e ▸ hj)
    by_cases e : j < i
    · exact h1 j oj e hoj hd
    · rcases R.apart j i oj o hoj ho hne with h | h | ⟨h, _⟩
      · have := R.bef_lt h; omega
      · exact hi (I.closedBef h hj)
      · exact h t hd hmem
end
end Go.Proofs.YtbjickdjkgefcaaGreatDoor.Vai
end
end
section
open Go Go.RowKit
noncomputable section
namespace Go.Proofs.YtbjickdjkgefcaaGreatDoor.Vai
set_option linter.unusedVariables false
set_option linter.unusedSimpArgs false

theorem put_keep (a : Act) {dst : Option Tmp} (c : Value) {t : Nat} (h : dst ≠ some t) : (a.put dst c).tmps[t]? = a.tmps[t]? := by
  cases dst with
  | none => rfl
  | some d => simp only [Act.put]; rw [Array.getElem?_setIfInBounds_ne (fun x => h (by rw [x]))]
theorem put_at (a : Act) (c : Value) {d : Nat} (h : d < a.tmps.size) : (a.put (some d) c).tmps[d]? = some c := by simp [Act.put, h]
theorem put_size (a : Act) (dst : Option Tmp) (c : Value) : (a.put dst c).tmps.size = a.tmps.size := by cases dst <;> simp [Act.put]

theorem aStep_q {P : Program} {tb : Tb} {call : ACall} {ops : List Oper} {fr : Fr} {s : St} {o : Oper} {out : QOut} (h : aStep P tb call ops fr s o = some (.q out)) : awanted ops fr o = some true := by
  unfold aStep at h
  split at h
  · cases h
  · cases h
  · assumption
theorem aStep_un {P : Program} {tb : Tb} {call : ACall} {ops : List Oper} {fr : Fr} {s : St} {o : Oper} (h : aStep P tb call ops fr s o = some .un) : awanted ops fr o = some false := by
  unfold aStep at h
  split at h
  · cases h
  · assumption
  · split at h
    · cases h
    · split at h
      · cases h
      · split at h
        · split at h <;> cases h
        · cases h

theorem aStep_qval {P : Program} {tb : Tb} {call : ACall} {ops : List Oper} {fr : Fr} {s : St} {o : Oper} {out : QOut} (h : aStep P tb call ops fr s o = some (.q out)) : aq P tb s (aev s fr) o = some out := by
  unfold aStep at h
  split at h
  · cases h
  · cases h
  · split at h
    · rename_i out' hq
      cases h; exact hq
    · split at h
      · cases h
      · split at h
        · split at h <;> cases h
        · cases h

theorem aStep_p {P : Program} {tb : Tb} {call : ACall} {ops : List Oper} {fr : Fr} {s : St} {o : Oper} {id : Nat} {out : QOut} (h : aStep P tb call ops fr s o = some (.p id out)) : False := by
  unfold aStep at h
  split at h
  · cases h
  · cases h
  · split at h
    · cases h
    · split at h
      · cases h
      · split at h
        · split at h <;> cases h
        · cases h

theorem teq_sound : ∀ (a b : T (Nat × Value)), teq a b = true → a = b := by
  intro a
  induction a with
  | nil => intro b h; cases b <;> first | rfl | cases h
  | node l x r i1 i2 =>
    intro b h
    cases b with
    | nil => cases h
    | node l' x' r' =>
      simp only [teq, Bool.and_eq_true] at h
      obtain ⟨⟨h1, h2⟩, h3⟩ := h
      rw [i1 _ h1, i2 _ h3]
      cases x with
      | none =>
        cases x' with
        | none => rfl
        | some y => cases h2
      | some x =>
        cases x' with
        | none => cases h2
        | some y =>
          obtain ⟨n, v⟩ := x; obtain ⟨k, u⟩ := y
          simp only [Bool.and_eq_true] at h2
          rw [Nat.eq_of_beq_eq_true h2.1, veq_sound _ _ h2.2]

theorem okBind_new {s : St} {id : Nat} {elem : TypeId} {es : Nat} {cells : List Value} {sh : Shp} (h : okBind s id (.new elem es cells sh) = true) :
    s.views.get id = some { root := id, ext := cells.length, exact := true } ∧ s.roots.get id = some { elem := elem, es := es, cells := cellsOf cells, cur := id, flo := 0, fhi := 0, ro := false, sish := false } ∧ s.objs.get id = none := by
  simp only [okBind, Bool.and_eq_true] at h
  obtain ⟨⟨h1, h2⟩, h3⟩ := h
  refine ⟨?_, ?_, ?_⟩
  · split at h1
    · rename_i V hV
      simp only [Bool.and_eq_true] at h1
      obtain ⟨⟨e1, e2⟩, e3⟩ := h1
      obtain ⟨a, b, c⟩ := V
      simp only at e1 e2 e3
      rw [hV, Nat.eq_of_beq_eq_true e1, Nat.eq_of_beq_eq_true e2, e3]
    · cases h1
  · split at h2
    · rename_i R hR
      simp only [Bool.and_eq_true, Bool.not_eq_true'] at h2
      obtain ⟨⟨⟨⟨⟨⟨⟨e1, e2⟩, e3⟩, e4⟩, e5⟩, e6⟩, e7⟩, e8⟩ := h2
      obtain ⟨r1, r2, r3, r4, r5, r6, r7, r8⟩ := R
      simp only at e1 e2 e3 e4 e5 e6 e7 e8
      rw [hR, Nat.eq_of_beq_eq_true e1, Nat.eq_of_beq_eq_true e2, teq_sound _ _ e3, Nat.eq_of_beq_eq_true e4, Nat.eq_of_beq_eq_true e5, Nat.eq_of_beq_eq_true e6, e7, e8]
    · cases h2
  · split at h3
    · cases h3
    · assumption
theorem okBind_obj {s : St} {id : Nat} {ob : AObj} (h : okBind s id (.obj ob) = true) : s.views.get id = none ∧ s.objs.get id = some ob := by
  simp only [okBind, Bool.and_eq_true] at h
  obtain ⟨h1, h2⟩ := h
  refine ⟨?_, ?_⟩
  · split at h1
    · cases h1
    · assumption
  · split at h2
    · rename_i ob' hob
      rw [hob, oeq_sound h2]
    · cases h2

section
variable {P : Program} {tb : Tb} {call : ACall} {w0 : Base} {ops : Array Oper} {m : Pre} {rs : List RRec} {F : Nat → Fr} {S : Nat → St} {V : Nat → SRes}
variable {sz : St} {φ0 : Emb} {d0 : List Deferred} {D : Nat → Prop} {q p : Nat} {φ ψ : Emb} {w : World} {a : Act}

theorem Canon.pre (c : Canon P tb call ops m rs F S V) {i : Nat} {o : Oper} (ho : ops[i]? = some o) {id : Nat} {out : QOut} (hv : V i = .p id out) : m.get i = some (id, out) := by
  have h := c.step i o ho
  unfold aStepP at h
  split at h
  · rename_i id' out' hm
    rw [hv] at h; cases h; exact hm
  · rw [hv] at h; exact (aStep_p h).elim
theorem Canon.real (c : Canon P tb call ops m rs F S V) {i : Nat} {o : Oper} (ho : ops[i]? = some o) (hv : ∀ id out, V i ≠ .p id out) : aStep P tb call ops.toList (narrow (F i) (o.looksAt ops)) (S i) o = some (V i) := by
  have h := c.step i o ho
  unfold aStepP at h
  split at h
  · rename_i id' out' hm
    exact absurd (Option.some.inj h).symm (hv _ _)
  · rw [aStep_narrow]; exact h

structure PutOk (F : Nat → Fr) (S : Nat → St) (V : Nat → SRes) (ops : Array Oper) (D' : Nat → Prop) (ψ : Emb) (a' : Act) : Prop where
  size : a'.tmps.size = (F 0).n
  done : ∀ (j : Nat) (o : Oper) (t : Nat), D' j → ops[j]? = some o → o.dst = some t → ∃ c, a'.tmps[t]? = some c ∧ VR ψ ((V j).val (S j)) c
  old : ∀ (t : Nat) (v : Value), (∀ (j : Nat) (o : Oper), D' j → ops[j]? = some o → o.dst ≠ some t) → (F 0).tm.get t = some v → ∃ c, a'.tmps[t]? = some c ∧ VR ψ v c

theorem Inv.putOk (I : Inv w0 sz ops F S V φ0 d0 D q p φ w a) (c : Canon P tb call ops m rs F S V) (R : RegOk ops) {i : Nat} {o : Oper} (ho : ops[i]? = some o) (hle : φ.le ψ) {cv : Value} (hv : VR ψ ((V i).val (S i)) cv) :
    PutOk F S V ops (fun j => D j ∨ j = i) ψ (a.put o.dst cv) := by
  have hlt : i < ops.size := (Array.getElem?_eq_some_iff.1 ho).1
  refine ⟨(put_size _ _ _).trans I.size, ?_, ?_⟩
  · intro j oj t hj hoj hd
    by_cases e : j = i
    · subst e
      rw [ho] at hoj
      cases hoj
      have hp := c.put j o ho
      rw [hd] at hp
      rw [aput_some] at hp
      cases hb : Nat.blt t (F j).n with
      | false => rw [hb] at hp; cases hp
      | true =>
        have h1 := blt_iff.1 hb
        rw [(c.get j (by omega)).1, ← I.size] at h1
        exact ⟨cv, by rw [hd]; exact put_at a cv h1, hv⟩
    · rcases hj with hj | hj
      · obtain ⟨c', h1, h2⟩ := I.done j oj t hj hoj hd
        exact ⟨c', by rw [put_keep a cv (R.uniq j i oj o hoj ho e t hd)]; exact h1, h2.mono hle⟩
      · exact absurd hj e
  · intro t v h ht
    obtain ⟨c', h1, h2⟩ := I.old t v (fun j oj hj => h j oj (.inl hj)) ht
    exact ⟨c', by rw [put_keep a cv (h i o (.inr rfl) ho)]; exact h1, h2.mono hle⟩

/-- A step that leaves the stage as it is. -/
theorem Inv.stay (I : Inv w0 sz ops F S V φ0 d0 D q p φ w a) (c : Canon P tb call ops m rs F S V) (L : Looks P tb ops F S V) (R : RegOk ops) {i : Nat} {o : Oper} (ho : ops[i]? = some o) (hi : ¬ D i)
    (hr : ∀ e ∈ o.after, Region.binds .any e = true → D e.on) (hE : (V i).isE = false) (hle : φ.le ψ) {w' : World} (hrel : Rel w0 ψ (S q) w') {cv : Value} (hv : VR ψ ((V i).val (S i)) cv)
    (hunb : ∀ j, p ≤ j → j < q → ¬ D j → j ≠ i → (V j).isN = true → φ (S j).next = none → ψ (S j).next = none)
    (hunbP : ∀ j id out, j < ops.size → ¬ D j → j ≠ i → V j = .p id out → φ id = none → ψ id = none) (hext : Ext sz φ0 ψ) :
    Inv w0 sz ops F S V φ0 d0 (fun j => D j ∨ j = i) q p ψ w' (a.put o.dst cv) := by
  have hlt : i < ops.size := (Array.getElem?_eq_some_iff.1 ho).1
  have hp := I.putOk c R ho hle hv
  refine ⟨?_, ?_, I.ple, I.qle, I.noE, I.qE, I.pE, ?_, hrel, I.wfp, ?_, fun j id out h1 h2 h3 => hunbP j id out h1 (fun h => h2 (.inl h)) (fun h => h2 (.inr h)) h3 (I.unbP j id out h1 (fun h => h2 (.inl h)) h3), hp.size, hp.done, hp.old, hext, (put_defers _ _ _).trans I.defers⟩
  · intro j hj
    rcases hj with hj | hj
    · exact I.dn j hj
    · omega
  · intro j oj hj hoj e he hb
    rcases hj with hj | hj
    · exact .inl (I.closed j oj hj hoj e he hb)
    · subst hj; rw [ho] at hoj; cases hoj; exact .inl (hr e he hb)
  · intro e he1 he2
    refine ⟨fun h => ?_, fun h => .inl ((I.eff e he1 he2).2 h)⟩
    rcases h with h | h
    · exact (I.eff e he1 he2).1 h
    · subst h; rw [hE] at he2; cases he2
  · intro j h1 h2 h3 h4
    exact hunb j h1 h2 (fun h => h3 (.inl h)) (fun h => h3 (.inr h)) h4 (I.unb j h1 h2 (fun h => h3 (.inl h)) h4)

theorem Inv.allowed (I : Inv w0 sz ops F S V φ0 d0 D q p φ w a) {i : Nat} {o : Oper} (ho : ops[i]? = some o) (hi : ¬ D i) (hr : ∀ e ∈ o.after, Region.binds .any e = true → D e.on) :
    ∀ e, e < ops.size → (V e).isE = true → (Bef ops.toList e i → e < q) ∧ (Bef ops.toList i e → q ≤ e) := by
  intro e he1 he2
  refine ⟨fun h => (I.eff e he1 he2).1 (I.preds ho hr h), fun h => ?_⟩
  rcases Nat.lt_or_ge e q with h1 | h1
  · exact absurd (I.closedBef h ((I.eff e he1 he2).2 h1)) hi
  · exact h1
theorem Inv.qE' (I : Inv w0 sz ops F S V φ0 d0 D q p φ w a) : q = ops.size ∨ (q < ops.size ∧ (V q).isE = true) := by
  rcases I.qE with h | h
  · exact .inl h
  · rcases Nat.lt_or_ge q ops.size with h1 | h1
    · exact .inr ⟨h1, h⟩
    · exact .inl (by have := I.qle; omega)

/-- A new block's number lies in the stage under way. -/
theorem Inv.inStage (I : Inv w0 sz ops F S V φ0 d0 D q p φ w a) (L : Looks P tb ops F S V) (R : RegOk ops) {i : Nat} {o : Oper} (ho : ops[i]? = some o) (hi : ¬ D i) (hr : ∀ e ∈ o.after, Region.binds .any e = true → D e.on) (hn : (V i).isN = true) : p ≤ i ∧ i < q := by
  have hlt : i < ops.size := (Array.getElem?_eq_some_iff.1 ho).1
  constructor
  · rcases Nat.lt_or_ge i p with h | h
    · exfalso
      rcases I.pE with h1 | h1
      · omega
      · have hpq := I.ple
        have hq := I.qle
        have he : p - 1 < ops.size := by omega
        have hD := (I.eff (p - 1) he h1).2 (by omega)
        rcases L.hN i (p - 1) hlt he hn h1 with h2 | h2
        · have := R.bef_lt h2; 
          by_cases e : i = p - 1
          · subst e; exact hi hD
          · omega
        · exact hi (I.closedBef h2 hD)
    · exact h
  · rcases Nat.lt_or_ge i q with h | h
    · exact h
    · exfalso
      rcases I.qE' with h1 | ⟨h1, h2⟩
      · omega
      · rcases L.hN i q hlt h1 hn h2 with h3 | h3
        · have := (I.eff q h1 h2).1 (I.preds ho hr h3); omega
        · have := R.bef_lt h3; omega

theorem Inv.step (hP : TbOk P tb) (hC : CallOk P w0 call) (c : Canon P tb call ops m rs F S V) (L : Looks P tb ops F S V) (R : RegOk ops) (M : PreOk m sz.next (S 0).next) (I : Inv w0 sz ops F S V φ0 d0 D q p φ w a) {i : Nat} {o : Oper} (ho : ops[i]? = some o) (hi : ¬ D i)
    (hr : ∀ e ∈ o.after, Region.binds .any e = true → D e.on) (b : Frame) (rest : List Nat) (k : List Item) (cs : List Frame) :
    ∃ q' p' φ' w' cv, Steps P (lone (fat b a (.inRegion ops (i :: rest) :: k)) cs w) (lone (fat b (a.put o.dst cv) (.inRegion ops rest :: k)) cs w') ∧ Inv w0 sz ops F S V φ0 d0 (fun j => D j ∨ j = i) q' p' φ' w' (a.put o.dst cv) := by
  have hlt : i < ops.size := (Array.getElem?_eq_some_iff.1 ho).1
  have hfr := I.fr c R ho hi (fun x h => I.preds ho hr h)
  have hall := I.allowed ho hi hr
  have h0q : (S 0).next ≤ (S q).next := c.mono L (Nat.zero_le _) I.qle
  have hszq : sz.next ≤ (S q).next := Nat.le_trans M.le h0q
  have hplt0 : ∀ {j id : Nat} {out : QOut}, j < ops.size → V j = .p id out → sz.next ≤ id ∧ id < (S 0).next := fun {j id out} h1 h2 => M.bound j id out (c.pre (Array.getElem?_eq_getElem h1) h2)
  have hplt : ∀ {j id : Nat} {out : QOut}, j < ops.size → V j = .p id out → id < (S q).next := fun h1 h2 => Nat.lt_of_lt_of_le (hplt0 h1 h2).2 h0q
  -- a step of which the stage's state knows
  have flat : (V i).isE = false → (V i).isN = false → aStep P tb call ops.toList (narrow (F i) (o.looksAt ops)) (S q) o = some (V i) → (V i).st (S q) = S q → (V i).val (S q) = (V i).val (S i) →
      ∃ q' p' φ' w' cv, Steps P (lone (fat b a (.inRegion ops (i :: rest) :: k)) cs w) (lone (fat b (a.put o.dst cv) (.inRegion ops rest :: k)) cs w') ∧ Inv w0 sz ops F S V φ0 d0 (fun j => D j ∨ j = i) q' p' φ' w' (a.put o.dst cv) := by
    intro hE hN hs h1 h2
    obtain ⟨ψ, cv, w', e1, e2, e3, e4, e5⟩ := step_core hP hC I.rel hfr ho hs b rest k cs
    rw [h1] at e4
    rw [h2] at e5
    refine ⟨q, p, ψ, w', cv, e1, I.stay c L R ho hi hr hE (e2.le I.rel) e4 e5 ?_ ?_ (I.ext.trans hszq e2)⟩
    · intro j k1 k2 k3 k4 k5 k6
      rw [e2.to]
      · exact k6
      · have := c.new1 (i := j) (by have := I.qle; omega) k5
        have := c.mono L (i := j + 1) (j := q) (by omega) I.qle
        omega
    · intro j id out j1 _ _ j2 j3
      rw [e2 _ (hplt j1 j2)]; exact j3
  cases hv : V i with
  | un =>
    have hst := c.real ho (by rw [hv]; intro _ _ x; cases x)
    rw [hv] at hst
    have hw := aStep_un hst
    exact flat (by rw [hv]; rfl) (by rw [hv]; rfl) (by rw [hv]; unfold aStep; rw [hw]) (by rw [hv]; rfl) (by rw [hv]; rfl)
  | e v s' =>
    have hst := c.real ho (by rw [hv]; intro _ _ x; cases x)
    have hE : (V i).isE = true := by rw [hv]; rfl
    have hiq : i = q := by
      have h1 : ¬ i < q := fun h => hi ((I.eff i hlt hE).2 h)
      rcases I.qE' with h2 | ⟨h2, h3⟩
      · omega
      · rcases Nat.lt_or_ge q i with h4 | h4
        · have := (I.eff q h2 h3).1 (I.preds ho hr (L.hE q i h2 hlt h3 hE h4))
          omega
        · omega
    subst hiq
    obtain ⟨ψ, cv, w', e1, e2, e3, e4, e5⟩ := step_core hP hC I.rel hfr ho hst b rest k cs
    rw [← c.st i o ho] at e4
    have hp := I.putOk c R ho (e2.le I.rel) e5
    obtain ⟨q', g1, g2, g3, g4⟩ := next_effect V ops.size (ops.size - (i + 1)) (i + 1) (by omega)
    have hx := c.quiet g1 g2 g3 e4.wf
    refine ⟨q', i + 1, ψ, w', cv, e1, ⟨?_, ?_, g1, g2, g3, g4, .inr (by simpa using hE), ?_, e4.qext hx, e4.wf, ?_, ?_, hp.size, hp.done, hp.old, I.ext.trans hszq e2, (put_defers _ _ _).trans I.defers⟩⟩
    · intro j hj
      rcases hj with hj | hj
      · exact I.dn j hj
      · omega
    · intro j oj hj hoj e he hb
      rcases hj with hj | hj
      · exact .inl (I.closed j oj hj hoj e he hb)
      · subst hj; rw [ho] at hoj; cases hoj; exact .inl (hr e he hb)
    · intro e he1 he2
      constructor
      · intro h
        rcases h with h | h
        · have := (I.eff e he1 he2).1 h; omega
        · omega
      · intro h
        by_cases e' : e = i
        · exact .inr e'
        · rcases Nat.lt_or_ge e i with h1 | h1
          · exact .inl ((I.eff e he1 he2).2 h1)
          · have := g3 e (by omega) h
            rw [he2] at this; cases this
    · intro j h1 h2 h3 h4
      cases hψ : ψ (S j).next with
      | none => rfl
      | some t =>
        have := e4.fresh _ t hψ
        have := c.mono L (i := i + 1) (j := j) h1 (by omega)
        omega
    · intro j id out h1 h2 h3
      rw [e2 _ (hplt h1 h3)]
      exact I.unbP j id out h1 (fun h => h2 (.inl h)) h3
  | q out =>
    have hst' := c.real ho (by rw [hv]; intro _ _ x; cases x)
    rw [hv] at hst'
    have hw := aStep_q hst'
    have hq := L.hQ i o out q ho hv I.qE' hall
    have hs : aStep P tb call ops.toList (narrow (F i) (o.looksAt ops)) (S q) o = some (.q out) := by
      unfold aStep; rw [hw]; simp only []; rw [hq]
    have hE : (V i).isE = false := by rw [hv]; rfl
    cases out with
    | val v => exact flat hE (by rw [hv]; rfl) (by rw [hv]; exact hs) (by rw [hv]; rfl) (by rw [hv]; rfl)
    | new elem es cells sh =>
      have hN : (V i).isN = true := by rw [hv]; rfl
      obtain ⟨hpi, hiq⟩ := I.inStage L R ho hi hr hN
      obtain ⟨h0, ccs, r1, r2⟩ := aq_sound hP I.rel (hfr.rho I.rel) hq
      have hid := I.unb i hpi hiq hi hN
      have hsi : S (i + 1) = aalloc (S i) elem es cells := by rw [c.st i o ho, hv]; rfl
      have hnext : (S (i + 1)).next = (S i).next + 1 := c.new1 hlt hN
      have wfi : Wf (S i) := (c.quiet hpi (by omega) (fun j a b => I.noE j a (by omega)) I.wfp).wf I.wfp
      have wfi1 : Wf (S (i + 1)) := by rw [hsi]; exact (Qext.alloc wfi elem es cells).wf wfi
      have x1 := c.quiet (p := i + 1) (q := q) (by omega) I.qle (fun j a b => I.noE j (by omega) b) wfi1
      have x0 := c.quiet (p := i) (q := q) (by omega) I.qle (fun j a b => I.noE j (by omega) b) wfi
      have hidlt : (S i).next < (S (i + 1)).next := by omega
      have hV : (S q).views.get (S i).next = some { root := (S i).next, ext := cells.length, exact := true } := by
        rw [x1.views _ hidlt, hsi]; simp only [aallocX]; rw [T.get_set_same]
      have hR : (S q).roots.get (S i).next = some { elem := elem, es := es, cells := cellsOf cells, cur := (S i).next, flo := 0, fhi := 0, ro := false, sish := false } := by
        rw [x1.roots _ hidlt, hsi]; simp only [aallocX]; rw [T.get_set_same]
      have hO : (S q).objs.get (S i).next = none := by
        rw [x1.objs _ hidlt, hsi]
        cases ho' : (S i).objs.get (S i).next with
        | none => exact ho'
        | some x => have := wfi.objs _ _ ho'; omega
      have hu : ∀ v W, (S q).views.get v = some W → W.root = (S i).next → v = (S i).next := by
        intro v W hW hroot
        rcases Nat.lt_or_ge v (S i).next with h1 | h1
        · rw [x0.views v h1] at hW
          have := wfi.views v W hW; omega
        · have := x0.newV v W hW h1; omega
      have hrel := I.rel.bindNew hid (by have := x1.next; omega) hV hR hO r1
      have hval : VR (φ.with (S i).next ⟨w.heap.size, ccs.length, es⟩) ((V i).val (S i)) (sh.val w.heap.size) := by
        rw [hv]
        cases sh with
        | ptr => exact VR.ptr (φ := φ.with (S i).next _) (S i).next 0 _ (Emb.with_same _ _ _)
        | slice l cc => exact VR.slice (φ := φ.with (S i).next _) (S i).next 0 _ l cc cc (Emb.with_same _ _ _) (fun _ => rfl) (fun e => absurd e (h0 l cc rfl))
      refine ⟨q, p, _, _, sh.val w.heap.size, OpRun.value ho (awanted_sound hfr hw) (notDefer_q hq) r2 b rest k cs, I.stay c L R ho hi hr hE ?_ hrel hval ?_ ?_ ?_⟩
      · refine ⟨?_, rfl⟩
        intro v t e
        rw [Emb.with_other _ _ ?_]; exact e
        intro x; subst x; rw [hid] at e; cases e
      · intro j k1 k2 k3 k4 k5 k6
        rw [Emb.with_other _ _ ?_]; exact k6
        have n1 := c.new1 (i := j) (by have := I.qle; omega) k5
        rcases Nat.lt_or_ge j i with h1 | h1
        · have := c.mono L (i := j + 1) (j := i) (by omega) (by omega); omega
        · have := c.mono L (i := i + 1) (j := j) (by omega) (by have := I.qle; omega); omega
      · intro j id out j1 _ _ j2 j3
        rw [Emb.with_other _ _ ?_]; exact j3
        have := (hplt0 j1 j2).2
        have := c.mono L (i := 0) (j := i) (Nat.zero_le _) (by omega); omega
      · refine ⟨?_, I.ext.sig⟩
        intro v hv'
        rw [Emb.with_other _ _ ?_]; exact I.ext v hv'
        have := M.le
        have := c.mono L (i := 0) (j := i) (Nat.zero_le _) (by omega); omega
    | obj ob =>
      have hN : (V i).isN = true := by rw [hv]; rfl
      obtain ⟨hpi, hiq⟩ := I.inStage L R ho hi hr hN
      obtain ⟨co, r1, r2⟩ := aq_sound hP I.rel (hfr.rho I.rel) hq
      have hid := I.unb i hpi hiq hi hN
      have hsi : S (i + 1) = aobj (S i) ob := by rw [c.st i o ho, hv]; rfl
      have hnext : (S (i + 1)).next = (S i).next + 1 := c.new1 hlt hN
      have wfi : Wf (S i) := (c.quiet hpi (by omega) (fun j a b => I.noE j a (by omega)) I.wfp).wf I.wfp
      have wfi1 : Wf (S (i + 1)) := by rw [hsi]; exact (Qext.obj wfi ob).wf wfi
      have x1 := c.quiet (p := i + 1) (q := q) (by omega) I.qle (fun j a b => I.noE j (by omega) b) wfi1
      have hidlt : (S i).next < (S (i + 1)).next := by omega
      have hV : (S q).views.get (S i).next = none := by
        rw [x1.views _ hidlt, hsi]
        cases ho' : (S i).views.get (S i).next with
        | none => exact ho'
        | some x => have := wfi.views _ _ ho'; omega
      have hO : (S q).objs.get (S i).next = some ob := by
        rw [x1.objs _ hidlt, hsi]; simp only [aobj]; rw [T.get_set_same]
      have hrel := I.rel.bindObj hid (by have := x1.next; omega) hV hO r1
      have hval : VR (φ.with (S i).next ⟨w.heap.size, 0, 0⟩) ((V i).val (S i)) (.map (some w.heap.size)) := by
        rw [hv]
        exact VR.map (φ := φ.with (S i).next _) (S i).next _ (Emb.with_same _ _ _)
      refine ⟨q, p, _, _, .map (some w.heap.size), OpRun.value ho (awanted_sound hfr hw) (notDefer_q hq) r2 b rest k cs, I.stay c L R ho hi hr hE ?_ hrel hval ?_ ?_ ?_⟩
      · refine ⟨?_, rfl⟩
        intro v t e
        rw [Emb.with_other _ _ ?_]; exact e
        intro x; subst x; rw [hid] at e; cases e
      · intro j k1 k2 k3 k4 k5 k6
        rw [Emb.with_other _ _ ?_]; exact k6
        have n1 := c.new1 (i := j) (by have := I.qle; omega) k5
        rcases Nat.lt_or_ge j i with h1 | h1
        · have := c.mono L (i := j + 1) (j := i) (by omega) (by omega); omega
        · have := c.mono L (i := i + 1) (j := j) (by omega) (by have := I.qle; omega); omega
      · intro j id out j1 _ _ j2 j3
        rw [Emb.with_other _ _ ?_]; exact j3
        have := (hplt0 j1 j2).2
        have := c.mono L (i := 0) (j := i) (Nat.zero_le _) (by omega); omega
      · refine ⟨?_, I.ext.sig⟩
        intro v hv'
        rw [Emb.with_other _ _ ?_]; exact I.ext v hv'
        have := M.le
        have := c.mono L (i := 0) (j := i) (Nat.zero_le _) (by omega); omega
  | p id out =>
    have hE : (V i).isE = false := by rw [hv]; rfl
    have hN : (V i).isN = false := by rw [hv]; rfl
    obtain ⟨hg, hlook⟩ := L.hP i o id out ho hv
    obtain ⟨hbind, hq⟩ := hlook q I.qE' hall
    have hid := I.unbP i id out hlt hi hv
    have hidq := hplt hlt hv
    have hw : Region.wanted o (yielded ops a.tmps) = true := by unfold Region.wanted; rw [hg]
    have others : ∀ (t : Tgt) j id' out', j < ops.size → ¬ D j → j ≠ i → V j = .p id' out' → φ id' = none → (φ.with id t) id' = none := by
      intro t j id' out' j1 _ j2 j3 j4
      rw [Emb.with_other _ _ ?_]; exact j4
      intro x; subst x
      exact j2 (M.inj j i _ _ _ (c.pre (Array.getElem?_eq_getElem j1) j3) (c.pre ho hv))
    have hle : ∀ t, φ.le (φ.with id t) := by
      intro t
      refine ⟨?_, rfl⟩
      intro v t' e
      rw [Emb.with_other _ _ ?_]; exact e
      intro x; subst x; rw [hid] at e; cases e
    have hnews : ∀ (t : Tgt) j, p ≤ j → j < q → ¬ D j → j ≠ i → (V j).isN = true → φ (S j).next = none → (φ.with id t) (S j).next = none := by
      intro t j k1 k2 k3 k4 k5 k6
      rw [Emb.with_other _ _ ?_]; exact k6
      have := (hplt0 hlt hv).2
      have := c.mono L (i := 0) (j := j) (Nat.zero_le _) (by have := I.qle; omega); omega
    have hexts : ∀ t, Ext sz φ0 (φ.with id t) := by
      intro t
      refine ⟨?_, I.ext.sig⟩
      intro v hv'
      rw [Emb.with_other _ _ ?_]; exact I.ext v hv'
      have := (hplt0 hlt hv).1; omega
    cases out with
    | val v => cases hbind
    | new elem es cells sh =>
      obtain ⟨h0, ccs, r1, r2⟩ := aq_sound hP I.rel (hfr.rho I.rel) hq
      obtain ⟨hV, hR, hO⟩ := okBind_new hbind
      have hrel := I.rel.bindNew hid hidq hV hR hO r1
      have hval : VR (φ.with id ⟨w.heap.size, ccs.length, es⟩) ((V i).val (S i)) (sh.val w.heap.size) := by
        rw [hv]
        cases sh with
        | ptr => exact VR.ptr (φ := φ.with id _) id 0 _ (Emb.with_same _ _ _)
        | slice l cc => exact VR.slice (φ := φ.with id _) id 0 _ l cc cc (Emb.with_same _ _ _) (fun _ => rfl) (fun e => absurd e (h0 l cc rfl))
      exact ⟨q, p, _, _, sh.val w.heap.size, OpRun.value ho hw (notDefer_q hq) r2 b rest k cs, I.stay c L R ho hi hr hE (hle _) hrel hval (hnews _) (others _) (hexts _)⟩
    | obj ob =>
      obtain ⟨co, r1, r2⟩ := aq_sound hP I.rel (hfr.rho I.rel) hq
      obtain ⟨hV, hO⟩ := okBind_obj hbind
      have hrel := I.rel.bindObj hid hidq hV hO r1
      have hval : VR (φ.with id ⟨w.heap.size, 0, 0⟩) ((V i).val (S i)) (.map (some w.heap.size)) := by
        rw [hv]
        exact VR.map (φ := φ.with id _) id _ (Emb.with_same _ _ _)
      exact ⟨q, p, _, _, .map (some w.heap.size), OpRun.value ho hw (notDefer_q hq) r2 b rest k cs, I.stay c L R ho hi hr hE (hle _) hrel hval (hnews _) (others _) (hexts _)⟩
end
end Go.Proofs.YtbjickdjkgefcaaGreatDoor.Vai
end
end
section
open Go Go.RowKit
noncomputable section
namespace Go.Proofs.YtbjickdjkgefcaaGreatDoor.Vai
set_option linter.unusedVariables false
set_option linter.unusedSimpArgs false

theorem countP_lt {α : Type} {p p' : α → Bool} (hsub : ∀ x, p' x = true → p x = true) : ∀ (l : List α) (i : α), i ∈ l → p i = true → p' i = false → l.countP p' < l.countP p := by
  have hle : ∀ l : List α, l.countP p' ≤ l.countP p := fun l => List.countP_mono_left (fun x _ => hsub x)
  intro l
  induction l with
  | nil => intro i h; cases h
  | cons x l ih =>
    intro i h hp hp'
    rw [List.countP_cons, List.countP_cons]
    rcases List.mem_cons.1 h with rfl | h
    · rw [if_pos hp, if_neg (by rw [hp']; simp)]
      have := hle l; omega
    · have := ih i h hp hp'
      by_cases h1 : p' x = true
      · rw [if_pos h1, if_pos (hsub x h1)]; omega
      · rw [if_neg h1]; split <;> omega

section
variable {P : Program} {tb : Tb} {call : ACall} {w0 : Base} {ops : Array Oper} {m : Pre} {rs : List RRec} {F : Nat → Fr} {S : Nat → St} {V : Nat → SRes}
variable {sz : St} {φ0 : Emb} {d0 : List Deferred} {D : Nat → Prop} {q p : Nat} {φ ψ : Emb} {w : World} {a : Act}

theorem Inv.congr {D' : Nat → Prop} (h : ∀ i, D i ↔ D' i) (I : Inv w0 sz ops F S V φ0 d0 D q p φ w a) : Inv w0 sz ops F S V φ0 d0 D' q p φ w a := by
  have : D = D' := funext fun i => propext (h i)
  rw [← this]; exact I

abbrev isOn (listed : Array Bool) (i : Nat) : Prop := listed[i]? = some true
def left (ops : Array Oper) (listed : Array Bool) : Nat := (List.range ops.size).countP fun i => !listed.getD i true

theorem getD_true {l : Array Bool} {i : Nat} (h : (!l.getD i true) = true) : l[i]? = some false := by
  rw [Array.getD_eq_getD_getElem?] at h
  cases hl : l[i]? with
  | none => rw [hl] at h; cases h
  | some x => rw [hl] at h; cases x <;> first | rfl | cases h
theorem getD_false {l : Array Bool} {i : Nat} (h : l.getD i false = true) : l[i]? = some true := by
  rw [Array.getD_eq_getD_getElem?] at h
  cases hl : l[i]? with
  | none => rw [hl] at h; cases h
  | some x => rw [hl] at h; cases x <;> first | rfl | cases h

theorem mem_ready {listed : Array Bool} {i : Nat} (h : i ∈ Region.ready .any ops listed) :
    ∃ o, ops[i]? = some o ∧ listed[i]? = some false ∧ ∀ e ∈ o.after, Region.binds .any e = true → isOn listed e.on := by
  unfold Region.ready at h
  rw [List.mem_filter, List.mem_range, Bool.and_eq_true] at h
  obtain ⟨h1, h2, h3⟩ := h
  refine ⟨ops[i], Array.getElem?_eq_getElem h1, getD_true h2, ?_⟩
  rw [Array.getElem?_eq_getElem h1] at h3
  simp only [Option.map_some, Option.getD_some] at h3
  intro e he hb
  rw [Array.all_eq_true'] at h3
  have := h3 e he
  rw [hb] at this
  exact getD_false (by simpa using this)

theorem ready_nil {listed : Array Bool} (R : RegOk ops) (hs : listed.size = ops.size) (h : Region.ready .any ops listed = []) : ∀ i, i < ops.size → isOn listed i := by
  intro i
  induction i using Nat.strongRecOn with
  | _ i ih =>
    intro hi
    have hl : listed[i]? = some listed[i] := Array.getElem?_eq_getElem (by omega)
    cases hb : listed[i] with
    | true => rw [hb] at hl; exact hl
    | false =>
      exfalso
      rw [hb] at hl
      have hm : i ∈ Region.ready .any ops listed := by
        unfold Region.ready
        rw [List.mem_filter, List.mem_range, Bool.and_eq_true]
        refine ⟨hi, ?_, ?_⟩
        · rw [Array.getD_eq_getD_getElem?, hl]; rfl
        · rw [Array.getElem?_eq_getElem hi]
          simp only [Option.map_some, Option.getD_some]
          rw [Array.all_eq_true']
          intro e he
          cases hb' : Region.binds .any e with
          | false => rfl
          | true =>
            have hlt := R.down i ops[i] (Array.getElem?_eq_getElem hi) e he hb'
            have := ih e.on hlt (by omega)
            rw [Array.getD_eq_getD_getElem?, this]; rfl
      rw [h] at hm
      cases hm

theorem any_loop (hP : TbOk P tb) (hC : CallOk P w0 call) (c : Canon P tb call ops m rs F S V) (L : Looks P tb ops F S V) (R : RegOk ops) (M : PreOk m sz.next (S 0).next) (b : Frame) (k : List Item) (cs : List Frame) :
    ∀ (fuel t : Nat) (listed : Array Bool) (q p : Nat) (φ : Emb) (w : World) (a : Act), listed.size = ops.size → left ops listed ≤ fuel → Inv w0 sz ops F S V φ0 d0 (isOn listed) q p φ w a →
      ∃ q' p' φ' w' a', Steps P (lone (fat b a (.inRegion ops (Region.linearise.go .any ops fuel t listed []) :: k)) cs w) (lone (fat b a' (.inRegion ops [] :: k)) cs w') ∧ Inv w0 sz ops F S V φ0 d0 (fun i => i < ops.size) q' p' φ' w' a' := by
  intro fuel
  induction fuel with
  | zero =>
    intro t listed q p φ w a hs hle I
    refine ⟨q, p, φ, w, a, by simp only [Region.linearise.go, List.reverse_nil]; exact .refl _ _, I.congr fun i => ⟨I.dn i, fun hi => ?_⟩⟩
    have h0 : left ops listed = 0 := by omega
    unfold left at h0
    rw [List.countP_eq_zero] at h0
    have := h0 i (List.mem_range.2 hi)
    have hl : listed[i]? = some listed[i] := Array.getElem?_eq_getElem (by omega)
    rw [Array.getD_eq_getD_getElem?, hl] at this
    rw [isOn, hl]
    cases hb : listed[i] with
    | true => rfl
    | false => rw [hb] at this; simp at this
  | succ fuel ih =>
    intro t listed q p φ w a hs hle I
    simp only [Region.linearise.go]
    change ∃ q' p' φ' w' a', Steps P (lone (fat b a (.inRegion ops (match (Region.ready .any ops listed)[t % (Region.ready .any ops listed).length]? with
      | some i => Region.linearise.go .any ops fuel (t / (Region.ready .any ops listed).length) (listed.setIfInBounds i true) [i]
      | none => [].reverse) :: k)) cs w) _ ∧ _
    cases hi : (Region.ready .any ops listed)[t % (Region.ready .any ops listed).length]? with
    | none =>
      have hnil : Region.ready .any ops listed = [] := by
        cases hr : Region.ready .any ops listed with
        | nil => rfl
        | cons x xs =>
          rw [hr] at hi
          have hlt : t % (x :: xs).length < (x :: xs).length := Nat.mod_lt _ (by simp)
          rw [List.getElem?_eq_none_iff] at hi
          omega
      exact ⟨q, p, φ, w, a, .refl _ _, I.congr fun i => ⟨I.dn i, ready_nil R hs hnil i⟩⟩
    | some i =>
      simp only []
      rw [linearise_go_acc, List.reverse_singleton, List.singleton_append]
      obtain ⟨o, h1, h2, h3⟩ := mem_ready (List.mem_of_getElem? hi)
      have hin : i < ops.size := (Array.getElem?_eq_some_iff.1 h1).1
      obtain ⟨q', p', φ', w', cv, e1, I'⟩ := I.step hP hC c L R M h1 (fun h => by rw [isOn, h2] at h; cases h) h3 b (Region.linearise.go .any ops fuel (t / (Region.ready .any ops listed).length) (listed.setIfInBounds i true) []) k cs
      have hset : ∀ j, (isOn listed j ∨ j = i) ↔ isOn (listed.setIfInBounds i true) j := by
        intro j
        by_cases e : j = i
        · subst e
          exact ⟨fun _ => by simp [isOn, hs, hin], fun _ => .inr rfl⟩
        · rw [isOn, isOn, Array.getElem?_setIfInBounds_ne (fun x => e x.symm)]
          exact ⟨fun h => h.elim id (fun x => absurd x e), .inl⟩
      have hlt : left ops (listed.setIfInBounds i true) < left ops listed := by
        unfold left
        refine countP_lt ?_ _ i (List.mem_range.2 hin) ?_ ?_
        · intro x hx
          by_cases e : x = i
          · subst e
            rw [Array.getD_eq_getD_getElem?] at hx
            simp [hs, hin] at hx
          · rw [Array.getD_eq_getD_getElem?, Array.getElem?_setIfInBounds_ne (fun y => e y.symm), ← Array.getD_eq_getD_getElem?] at hx
            exact hx
        · rw [Array.getD_eq_getD_getElem?, h2]; rfl
        · rw [Array.getD_eq_getD_getElem?]; simp [hs, hin]
      obtain ⟨q2, p2, φ2, w2, a2, e2, I2⟩ := ih (t / (Region.ready .any ops listed).length) (listed.setIfInBounds i true) q' p' φ' w' _ (by simp [hs]) (by omega) (I'.congr hset)
      exact ⟨q2, p2, φ2, w2, a2, e1.trans e2, I2⟩
end
end Go.Proofs.YtbjickdjkgefcaaGreatDoor.Vai
end
end
