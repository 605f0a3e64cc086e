/- A part of an evaluator of the model's code whose answers are proved sound: no statement on the program stands here. -/
import Derived.Test.YtcmlomjdkjcjpaaGreatDoorVaiU
open Go Go.RowKit
namespace Go.Proofs.YtcmlomjdkjcjpaaGreatDoor.Vai
set_option linter.unusedVariables false
set_option linter.unusedSimpArgs false

/-! ### what an operation looks at -/
section
variable {P : Program} {tb : Tb} {s s' : St} {ρ ρ' : Operand → Option Value}

theorem amap_congr : ∀ (l : List Operand), (∀ x ∈ l, ρ x = ρ' x) → amap ρ l = amap ρ' l := by
  intro l
  induction l with
  | nil => intro _; rfl
  | cons x l ih =>
    intro h
    simp only [amap]
    rw [h x (List.mem_cons_self ..), ih fun y hy => h y (List.mem_cons_of_mem _ hy)]
theorem aparts_congr : ∀ (l : List (Nat × Operand)), (∀ x ∈ l.map (·.2), ρ x = ρ' x) → aparts ρ l = aparts ρ' l := by
  intro l
  induction l with
  | nil => intro _; rfl
  | cons x l ih =>
    obtain ⟨i, x⟩ := x
    intro h
    simp only [aparts]
    rw [h x (by simp), ih fun y hy => h y (by simp only [List.map_cons, List.mem_cons]; exact .inr hy)]
theorem aopt_congr (x : Option Operand) (h : ∀ y, x = some y → ρ y = ρ' y) : aopt ρ x = aopt ρ' x := by
  cases x with
  | none => rfl
  | some y => simp only [aopt]; rw [h y rfl]

theorem aq_congr {o : Oper} (h : ∀ x ∈ o.op.operands.toList, ρ x = ρ' x) : aq P tb s ρ o = aq P tb s ρ' o := by
  obtain ⟨dst, op, type, pos, after, guard⟩ := o
  have h : ∀ x ∈ op.operands.toList, ρ x = ρ' x := h
  cases op with
  | build t parts => simp only [aq]; rw [aparts_congr _ (fun x hx => h x (by simpa [Op.operands] using hx))]
  | buildSlice t len parts => simp only [aq]; rw [aparts_congr _ (fun x hx => h x (by simpa [Op.operands] using hx))]
  | makeFunc fn first captured =>
    simp only [aq, amakeFunc]
    rw [amap_congr first.toList (fun x hx => h x (by simp only [Op.operands, Array.toList_append, List.mem_append]; exact .inl hx)), amap_congr captured.toList (fun x hx => h x (by simp only [Op.operands, Array.toList_append, List.mem_append]; exact .inr hx))]
  | makeMap t r =>
    cases r with
    | none => rfl
    | some x => simp only [aq, amakeMap]; rw [h x (by simp [Op.operands])]
  | slice t x lo hi mx =>
    simp only [aq]
    rw [h x (by simp [Op.operands]), aopt_congr lo (fun y e => h y (by subst e; simp [Op.operands])), aopt_congr hi (fun y e => h y (by subst e; simp [Op.operands])), aopt_congr mx (fun y e => h y (by subst e; simp [Op.operands]))]
  | call c =>
    obtain ⟨callee, args, argTypes⟩ := c
    cases callee with
    | builtin b => simp only [aq, aqCall]; rw [amap_congr args.toList (fun x hx => h x (by simpa [Op.operands, Call.operands] using hx))]
    | _ => rfl
  | pick c a b => simp only [aq]; rw [h c (by simp [Op.operands]), h a (by simp [Op.operands]), h b (by simp [Op.operands])]
  | binOp op t x y e => simp only [aq]; rw [h x (by simp [Op.operands]), h y (by simp [Op.operands])]
  | makeSlice t x y => simp only [aq]; rw [h x (by simp [Op.operands]), h y (by simp [Op.operands])]
  | indexAddr t x y => simp only [aq]; rw [h x (by simp [Op.operands]), h y (by simp [Op.operands])]
  | index t x y => simp only [aq]; rw [h x (by simp [Op.operands]), h y (by simp [Op.operands])]
  | lookup t x y k => simp only [aq]; rw [h x (by simp [Op.operands]), h y (by simp [Op.operands])]
  | move x => simp only [aq]; rw [h x (by simp [Op.operands])]
  | assign x => simp only [aq]; rw [h x (by simp [Op.operands])]
  | box t x => simp only [aq]; rw [h x (by simp [Op.operands])]
  | load t x => simp only [aq]; rw [h x (by simp [Op.operands])]
  | nilCheck x => simp only [aq]; rw [h x (by simp [Op.operands])]
  | unOp op t x => simp only [aq]; rw [h x (by simp [Op.operands])]
  | convert a b x => simp only [aq]; rw [h x (by simp [Op.operands])]
  | makeInterface t x => simp only [aq]; rw [h x (by simp [Op.operands])]
  | fieldAddr t x f => simp only [aq]; rw [h x (by simp [Op.operands])]
  | field t x f => simp only [aq]; try rw [h x (by simp [Op.operands])]
  | extract x k => simp only [aq]; rw [h x (by simp [Op.operands])]
  | entry x => simp only [aq]; rw [h x (by simp [Op.operands])]
  | typeAssert x a b c => simp only [aq]; rw [h x (by simp [Op.operands])]
  | _ => rfl

theorem ae_congr {o : Oper} (h : ∀ x ∈ o.op.operands.toList, ρ x = ρ' x) : ae P tb s ρ o = ae P tb s ρ' o := by
  obtain ⟨dst, op, type, pos, after, guard⟩ := o
  have h : ∀ x ∈ op.operands.toList, ρ x = ρ' x := h
  cases op with
  | store t x y => simp only [ae]; rw [h x (by simp [Op.operands]), h y (by simp [Op.operands])]
  | convert a b x => simp only [ae]; rw [h x (by simp [Op.operands])]
  | mapUpdate t x y z => simp only [ae]; rw [h x (by simp [Op.operands]), h y (by simp [Op.operands]), h z (by simp [Op.operands])]
  | insert t x y z => simp only [ae]; rw [h x (by simp [Op.operands]), h y (by simp [Op.operands]), h z (by simp [Op.operands])]
  | range t x => simp only [ae]; rw [h x (by simp [Op.operands])]
  | next x b => simp only [ae]; rw [h x (by simp [Op.operands])]
  | call c =>
    obtain ⟨callee, args, argTypes⟩ := c
    cases callee with
    | builtin b => simp only [ae, aeCall]; rw [amap_congr args.toList (fun x hx => h x (by simpa [Op.operands, Call.operands] using hx))]
    | value f => simp only [ae, aeCall]; rw [amap_congr args.toList (fun x hx => h x (by simp [Op.operands, Call.operands]; right; simpa using hx)), h f (by simp [Op.operands, Call.operands])]
    | invoke r n => simp only [ae, aeCall]; split <;> split <;> rfl
  | _ => rfl

theorem acall_congr {o : Oper} (h : ∀ x ∈ o.op.operands.toList, ρ x = ρ' x) : acall tb ρ o = acall tb ρ' o := by
  obtain ⟨dst, op, type, pos, after, guard⟩ := o
  have h : ∀ x ∈ op.operands.toList, ρ x = ρ' x := h
  cases op with
  | call c =>
    obtain ⟨callee, args, argTypes⟩ := c
    cases callee with
    | value f => simp only [acall]; rw [amap_congr args.toList (fun x hx => h x (by simp [Op.operands, Call.operands]; right; simpa using hx)), h f (by simp [Op.operands, Call.operands])]
    | _ => rfl
  | _ => rfl
end

theorem pickT_spec {t : T Value} : ∀ (l : List Tmp) (acc : T Value) (x : Nat), (pickT t l acc).get x = (if x ∈ l then (match t.get x with | some v => some v | none => acc.get x) else acc.get x) := by
  intro l
  induction l with
  | nil => intro acc x; simp [pickT]
  | cons y l ih =>
    intro acc x
    simp only [pickT]
    rw [ih]
    by_cases hx : x = y
    · subst hx
      cases ht : t.get x with
      | none => simp
      | some v => simp [T.get_set_same]
    · have hmem : (x ∈ y :: l) = (x ∈ l) := by simp [hx]
      simp only [hmem]
      cases ht : t.get y with
      | none => rfl
      | some v => simp only [T.get_set_other _ _ hx]

theorem narrow_get_mem {fr : Fr} {l : List Tmp} {x : Nat} (h : x ∈ l) : (narrow fr l).tm.get x = fr.tm.get x := by
  simp only [narrow]
  rw [pickT_spec, if_pos h]
  cases hx : fr.tm.get x with
  | some v => rfl
  | none => rfl

theorem aev_narrow {ops : Array Oper} {fr : Fr} {s : St} {o : Oper} {x : Operand} (h : x ∈ o.op.operands.toList) : aev s (narrow fr (o.looksAt ops)) x = aev s fr x := by
  cases x with
  | tmp t =>
    simp only [aev]
    refine narrow_get_mem ?_
    simp only [Oper.looksAt, List.mem_append, List.mem_filterMap]
    exact .inl ⟨.tmp t, h, rfl⟩
  | _ => rfl

theorem aq_narrow {P : Program} {tb : Tb} {ops : Array Oper} {fr : Fr} {s : St} {o : Oper} : aq P tb s (aev s (narrow fr (o.looksAt ops))) o = aq P tb s (aev s fr) o := aq_congr fun x hx => aev_narrow hx

theorem awanted_narrow {ops : Array Oper} {fr : Fr} {o : Oper} : awanted ops.toList (narrow fr (o.looksAt ops)) o = awanted ops.toList fr o := by
  unfold awanted
  split
  · rfl
  · rename_i j want hg
    split
    · rfl
    · rename_i g hj
      split
      · rfl
      · rename_i d hd
        have : (narrow fr (o.looksAt ops)).tm.get d = fr.tm.get d := by
          refine narrow_get_mem ?_
          simp only [Oper.looksAt, List.mem_append, hg]
          rw [← Array.getElem?_toList, hj]
          exact .inr (by simp [hd])
        rw [this]

theorem aStep_narrow {P : Program} {tb : Tb} {call : ACall} {ops : Array Oper} {fr : Fr} {s : St} {o : Oper} : aStep P tb call ops.toList (narrow fr (o.looksAt ops)) s o = aStep P tb call ops.toList fr s o := by
  unfold aStep
  rw [awanted_narrow, aq_narrow, ae_congr (ρ := aev s (narrow fr (o.looksAt ops))) (ρ' := aev s fr) fun x hx => aev_narrow hx, acall_congr (ρ := aev s (narrow fr (o.looksAt ops))) (ρ' := aev s fr) fun x hx => aev_narrow hx]

theorem sfree_sound {P : Program} {tb : Tb} {fr : Fr} {s s' : St} {o : Oper} (h : sfree fr o = true) : aq P tb s (aev s fr) o = aq P tb s' (aev s' fr) o := by
  unfold sfree at h
  rw [Bool.and_eq_true] at h
  obtain ⟨h1, h2⟩ := h
  have hglob : ∀ x ∈ o.op.operands.toList, aev s fr x = aev s' fr x := by
    intro x hx
    have := List.all_eq_true.1 h1 x hx
    cases x <;> first | rfl | (cases this)
  rw [aq_congr hglob]
  obtain ⟨dst, op, type, pos, after, guard⟩ := o
  have hfv : ∀ z a, fval fr z = some a → aev s' fr z = some a := by
    intro z a hz
    cases z <;> first | exact hz | (cases hz)
  cases op with
  | binOp op t x y e =>
    have h2 : (match fval fr x, fval fr y with | some a, some b => plain a && plain b | _, _ => false) = true := h2
    split at h2
    · rename_i a b ha hb
      simp only [aq, hfv _ _ ha, hfv _ _ hb, abinOp, h2, cond_true]
    · cases h2
  | unOp op t x =>
    have h2 : (match fval fr x with | some a => plain a | none => false) = true := h2
    split at h2
    · rename_i a ha
      simp only [aq, hfv _ _ ha, h2, cond_true]
    · cases h2
  | _ => first | rfl | (exact absurd h2 (by simp [sfreeOp]))
end Go.Proofs.YtcmlomjdkjcjpaaGreatDoor.Vai
