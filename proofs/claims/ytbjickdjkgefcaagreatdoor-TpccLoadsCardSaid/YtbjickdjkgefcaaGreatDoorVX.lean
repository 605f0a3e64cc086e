/- A part of an evaluator of the model's code whose answers are proved sound: no statement on the program stands here. -/
import Derived.Test.YtbjickdjkgefcaaGreatDoorVU5
section
open Go Go.RowKit
noncomputable section
namespace Go.Proofs.YtbjickdjkgefcaaGreatDoor.Vai
set_option linter.unusedVariables false
set_option linter.unusedSimpArgs false

/-- What is known of calls whose arguments and results bear no address. -/
abbrev Sums := T (List (List Value × Value))
def alook : List (List Value × Value) → List Value → Option Value
  | [], _ => none
  | (a, v) :: l, args => bif veqL a args && plainL args && plain v then some v else alook l args

structure SmOk (P : Program) (w0 : Base) (sm : Sums) : Prop where
  ok : ∀ f l a v, sm.get f = some l → (a, v) ∈ l → ∀ w, Kept w0 w → Calls P f a.toArray w fun e w' => e = .returned v ∧ Below w.heap.size w w'

def aFunS (P : Program) (tb : Tb) (sm : Sums) (L : Nat) : Nat → ACall
  | 0, _, _, _ => none
  | d + 1, fn, args, s => match fn with
    | .func f => match sm.get f with
      | some l => match alook l args, tb.fns.get f with
        | some v, some g => match g.body with
          | some _ => some (v, s)
          | none => none
        | _, _ => aBody P tb L (aFunS P tb sm L d) f args s
      | none => aBody P tb L (aFunS P tb sm L d) f args s
    | .yield l => aRound P tb L (aFunS P tb sm L d) l args s
    | _ => none

theorem alook_spec {args : List Value} {v : Value} : ∀ (l : List (List Value × Value)), alook l args = some v → (args, v) ∈ l ∧ plainL args = true ∧ plain v = true := by
  intro l
  induction l with
  | nil => intro h; cases h
  | cons x l ih =>
    obtain ⟨a, u⟩ := x
    intro h
    simp only [alook] at h
    cases hb : (veqL a args && plainL args && plain u) with
    | true =>
      rw [hb] at h
      cases h
      rw [Bool.and_eq_true, Bool.and_eq_true] at hb
      rw [veqL_sound _ _ hb.1.1]
      exact ⟨List.mem_cons_self .., hb.1.2, hb.2⟩
    | false =>
      rw [hb] at h
      obtain ⟨h1, h2⟩ := ih h
      exact ⟨List.mem_cons_of_mem _ h1, h2⟩

theorem Rel.below {w0 : Base} {φ : Emb} {s : St} {w w' : World} (r : Rel w0 φ s w) (h : Below w.heap.size w w') : Rel w0 φ s w' := by
  have hk : ∀ {k : Nat} {o : Obj}, w.heap[k]? = some o → w'.heap[k]? = some o := by
    intro k o ho
    rw [h.block k (Array.getElem?_eq_some_iff.1 ho).1]; exact ho
  refine ⟨r.bel.below h, r.fresh, r.known, ?_, ?_, r.inj, r.vroot, r.olt, r.glob, r.ngle, r.orc⟩
  · intro v t V hv hV
    obtain ⟨R, hR, b⟩ := r.view v t V hv hV
    obtain ⟨c, fr, h1, h2, h3, h4⟩ := b.blk
    exact ⟨R, hR, b.es, b.cur, b.own, b.ext, b.exact, b.stamps, c, fr, hk h1, h2, h3, h4⟩
  · intro v t o hv ho
    obtain ⟨k, c, h1, h2⟩ := r.obj v t o hv ho
    exact ⟨k, c, hk h1, h2⟩

theorem sum_sound {P : Program} {tb : Tb} {w0 : Base} {sm : Sums} (hP : TbOk P tb) (hS : SmOk P w0 sm) {f : FuncId} {args : List Value} {s : St} {v : Value} {l : List (List Value × Value)} {g : Func} {c : Code}
    (h1 : sm.get f = some l) (h2 : alook l args = some v) (h3 : tb.fns.get f = some g) (h4 : g.body = some c) {φ : Emb} {w : World} {cargs : List Value} (r : Rel w0 φ s w) (hargs : VRL φ args cargs) :
    (callFunc f cargs.toArray).run P w = .ok (.enter f cargs.toArray) w ∧ Calls P f cargs.toArray w (Post w0 φ s s v) := by
  obtain ⟨p1, p2⟩ := hP.fns _ _ h3
  obtain ⟨q1, q2, q3⟩ := alook_spec l h2
  refine ⟨callFunc_body p1 p2 h4 _ _, ?_⟩
  rw [VRL.eq_of_plain hargs q2]
  refine (hS.ok f l args v h1 q1 w r.bel).mono ?_
  rintro e w' ⟨rfl, hb⟩
  exact ⟨φ, v, rfl, Ext.refl _ _, Nat.le_refl _, r.below hb, VR.of_plain φ v q3⟩

theorem fun_soundS {P : Program} {tb : Tb} {w0 : Base} {sm : Sums} (hP : TbOk P tb) (hmix : P.follows .mixedOrders = true) (hS : SmOk P w0 sm) (L : Nat) : ∀ d, CallOk P w0 (aFunS P tb sm L d) := by
  intro d
  induction d with
  | zero =>
    refine CallOk.mk ?_ ?_
    · intro f args s v s' h; cases h
    · intro f args s v s' h; cases h
  | succ d ih =>
    refine CallOk.mk ?_ ?_
    · intro f args s v s' h φ w cargs r hargs
      simp only [aFunS] at h
      split at h
      · rename_i l hl
        split at h
        · rename_i u g h2 h3
          split at h
          · rename_i c h4
            cases h
            exact sum_sound hP hS hl h2 h3 h4 r hargs
          · cases h
        · exact body_sound hP hmix ih h r hargs
      · exact body_sound hP hmix ih h r hargs
    · intro l args s v s' h φ w cargs t r ht hargs
      exact round_sound hP hmix ih h r ht hargs

/-- A run of the evaluator that yields a plain value: what the call does. -/
theorem calls_of_runS {P : Program} {tb : Tb} {sm : Sums} (hP : TbOk P tb) (hmix : P.follows .mixedOrders = true) {w : World} (hS : SmOk P (Base.all w) sm) {φ : Emb} {s : St} (r : Rel (Base.all w) φ s w) {L d : Nat} {f : FuncId} {args cargs : List Value} (ha : VRL φ args cargs) {v : Value} (hv : plain v = true)
    (h : (match aFunS P tb sm L d (.func f) args s with | some (u, _) => veq u v | none => false) = true) : Calls P f cargs.toArray w fun e w' => e = .returned v ∧ Below w.heap.size w w' := by
  split at h
  · rename_i u s' hu
    have e := veq_sound _ _ h
    subst e
    refine ((fun_soundS hP hmix hS L d).fn f args s u s' hu φ w cargs r ha).2.mono ?_
    intro e w' hpost
    obtain ⟨ψ, c, rfl, _, _, h4, h5⟩ := hpost
    exact ⟨by rw [h5.eq_of_plain hv], h4.bel.all⟩
  · cases h
/-- The number of a range of int's. -/
def rc (lo hi : Int) : Nat := Nat.mul (Nat.add (Nat.mul (Int.toNat (lo + 36893488147419103232)) 73786976294838206464) (Int.toNat (hi + 36893488147419103232))) 32
theorem decSy_rc {lo hi : Int} (h1 : -36893488147419103232 ≤ lo) (h2 : lo < 36893488147419103232) (h3 : -36893488147419103232 ≤ hi) (h4 : hi < 36893488147419103232) : decSy (rc lo hi) = .range .i64 lo hi := by
  obtain ⟨A, hA⟩ : ∃ A : Nat, lo + 36893488147419103232 = A := ⟨(lo + 36893488147419103232).toNat, by omega⟩
  obtain ⟨B, hB⟩ : ∃ B : Nat, hi + 36893488147419103232 = B := ⟨(hi + 36893488147419103232).toNat, by omega⟩
  have hc : rc lo hi = (A * 73786976294838206464 + B) * 32 := by
    show Int.toNat (lo + 36893488147419103232) * 73786976294838206464 + Int.toNat (hi + 36893488147419103232) |> (· * 32) |> (· = _)
    rw [hA, hB]; simp
  have hB2 : B < 73786976294838206464 := by omega
  unfold decSy
  rw [hc]
  have e1 : Nat.mod ((A * 73786976294838206464 + B) * 32) 2 = 0 := (by omega : ((A * 73786976294838206464 + B) * 32) % 2 = 0)
  have e2 : Nat.mod (Nat.div ((A * 73786976294838206464 + B) * 32) 2) 16 = 0 := (by omega : ((A * 73786976294838206464 + B) * 32) / 2 % 16 = 0)
  have e3 : Nat.div ((A * 73786976294838206464 + B) * 32) 32 = A * 73786976294838206464 + B := (by omega : ((A * 73786976294838206464 + B) * 32) / 32 = A * 73786976294838206464 + B)
  have e4 : Nat.div (A * 73786976294838206464 + B) 73786976294838206464 = A := (by omega : (A * 73786976294838206464 + B) / 73786976294838206464 = A)
  have e5 : Nat.mod (A * 73786976294838206464 + B) 73786976294838206464 = B := (by omega : (A * 73786976294838206464 + B) % 73786976294838206464 = B)
  rw [e1, e2, e3, e4, e5]
  show Sy.range .i64 (Int.ofNat A - 36893488147419103232) (Int.ofNat B - 36893488147419103232) = _
  congr 1
  · show (A : Int) - _ = lo; omega
  · show (B : Int) - _ = hi; omega
theorem VR.range {φ : Emb} {lo hi n : Int} (h1 : -36893488147419103232 ≤ lo) (h2 : hi < 36893488147419103232) (h3 : lo ≤ n) (h4 : n ≤ hi) : VR φ (.chan (some (rc lo hi))) (.int .i64 n) :=
  .sy _ _ _ (by rw [decSy_rc h1 (by omega) (by omega) h2]; exact ⟨rfl, h3, h4⟩)
end Go.Proofs.YtbjickdjkgefcaaGreatDoor.Vai
end
end
section
open Go Go.RowKit
noncomputable section
namespace Go.Proofs.YtbjickdjkgefcaaGreatDoor.Vai
set_option linter.unusedVariables false
set_option linter.unusedSimpArgs false

/-! ### calls of which the result is known, by what is known of the atoms -/
abbrev Known := FuncId → List Value → List Fact → Option Value

structure KnOk (P : Program) (w0 : Base) (kn : Known) : Prop where
  ok : ∀ f args orc v, kn f args orc = some v → ∀ (φ : Emb) (w : World) (cargs : List Value), (∀ g ∈ orc, g.ok φ.sig) → Kept w0 w → VRL φ args cargs →
    Calls P f cargs.toArray w fun e w' => ∃ c, e = .returned c ∧ VR φ v c ∧ Below w.heap.size w w'

def aFunK (P : Program) (tb : Tb) (kn : Known) (L : Nat) : Nat → ACall
  | 0, _, _, _ => none
  | d + 1, fn, args, s => match fn with
    | .func f => match kn f args s.orc, tb.fns.get f with
      | some v, some g => match g.body with
        | some _ => some (v, s)
        | none => none
      | _, _ => aBody P tb L (aFunK P tb kn L d) f args s
    | .yield l => aRound P tb L (aFunK P tb kn L d) l args s
    | _ => none

theorem kn_sound {P : Program} {tb : Tb} {w0 : Base} {kn : Known} (hP : TbOk P tb) (hK : KnOk P w0 kn) {f : FuncId} {args : List Value} {s : St} {v : Value} {g : Func} {c : Code}
    (h1 : kn f args s.orc = some v) (h3 : tb.fns.get f = some g) (h4 : g.body = some c) {φ : Emb} {w : World} {cargs : List Value} (r : Rel w0 φ s w) (hargs : VRL φ args cargs) :
    (callFunc f cargs.toArray).run P w = .ok (.enter f cargs.toArray) w ∧ Calls P f cargs.toArray w (Post w0 φ s s v) := by
  obtain ⟨p1, p2⟩ := hP.fns _ _ h3
  refine ⟨callFunc_body p1 p2 h4 _ _, ?_⟩
  refine (hK.ok f args s.orc v h1 φ w cargs r.orc r.bel hargs).mono ?_
  rintro e w' ⟨c, rfl, hc, hb⟩
  exact ⟨φ, c, rfl, Ext.refl _ _, Nat.le_refl _, r.below hb, hc⟩

theorem fun_soundK {P : Program} {tb : Tb} {w0 : Base} {kn : Known} (hP : TbOk P tb) (hmix : P.follows .mixedOrders = true) (hK : KnOk P w0 kn) (L : Nat) : ∀ d, CallOk P w0 (aFunK P tb kn L d) := by
  intro d
  induction d with
  | zero =>
    refine CallOk.mk ?_ ?_
    · intro f args s v s' h; cases h
    · intro f args s v s' h; cases h
  | succ d ih =>
    refine CallOk.mk ?_ ?_
    · intro f args s v s' h φ w cargs r hargs
      simp only [aFunK] at h
      split at h
      · rename_i u g h2 h3
        split at h
        · rename_i c h4
          cases h
          exact kn_sound hP hK h2 h3 h4 r hargs
        · cases h
      · exact body_sound hP hmix ih h r hargs
    · intro l args s v s' h φ w cargs t r ht hargs
      exact round_sound hP hmix ih h r ht hargs

end Go.Proofs.YtbjickdjkgefcaaGreatDoor.Vai
end
end
