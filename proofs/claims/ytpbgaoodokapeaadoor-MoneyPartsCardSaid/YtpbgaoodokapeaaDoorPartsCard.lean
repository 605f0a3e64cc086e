/- PROVED: the tied card of 'hopperlaw22.MoneyParts': for every three numbers a, rate and other the call returns true, does not panic and leaves its arguments as they were. CONDITIONS: the row's own: the listed tables of math/bits and internal/strconv read, when the call begins, as the program's text lays them (the card ties them); no other condition. -/
import Derived.Test.YtpbgaoodokapeaaDoorPE
import Derived.SevenTiedAt
import Derived.OpenShut
import Derived.Deep.DeepHandedRow
open Go Go.ChangeShapes Go.WideShapes Go.ChangeAt Go.RowKit Go.Proofs.YtpbgaoodokapeaaDoor.Vai
namespace Go.Proofs.YtpbgaoodokapeaaDoor
set_option linter.unusedVariables false
set_option linter.unusedSimpArgs false
theorem partE_zero {a r : Int} (h : partE a r = 0) : InM a ∧ InR r ∧ InM (partS a r) := by
  unfold partE at h
  split at h
  · rename_i h1
    split at h
    · rename_i h2; exact ⟨h1, h2⟩
    · cases h
  · cases h
theorem partV_eq {a r : Int} (h : InM a ∧ InR r ∧ InM (partS a r)) : partV a r = partS a r := by unfold partV; rw [if_pos h]
theorem partE_eq {a r : Int} (h : InM a ∧ InR r ∧ InM (partS a r)) : partE a r = 0 := by unfold partE; rw [if_pos h.1, if_pos h.2]
theorem partAbs_mono {x r o : Int} (hx : 0 ≤ x) (h : r ≤ o) : partAbs x r ≤ partAbs x o := by
  have hm : x * r ≤ x * o := Int.mul_le_mul_of_nonneg_left h hx
  unfold partAbs
  generalize x * r = P at *
  generalize x * o = Q at *
  split <;> split <;> omega
theorem partAbs_zero (r : Int) : partAbs 0 r = 0 := by unfold partAbs; rw [Int.zero_mul]; rfl
theorem partS_neg (a r : Int) : partS (-a) r = -partS a r := by
  unfold partS
  by_cases h1 : a < 0
  · rw [if_pos h1, if_neg (by omega)]; omega
  · by_cases h2 : a = 0
    · subst h2; simp [partAbs_zero]
    · rw [if_neg h1, if_pos (by omega), Int.neg_neg]
theorem partS_whole (a : Int) : partS a 10000 = a := by
  unfold partS partAbs
  split <;> split <;> omega
theorem partS_none (a : Int) : partS a 0 = 0 := by
  unfold partS partAbs
  simp
theorem law_any (a r o : Int) (W : World) (hT : Tabs W) : Calls Tryd.prog 4 #[.int .i64 a, .int .i64 r, .int .i64 o] W fun e w' => e = .returned (.bool true) ∧ Below W.heap.size W w' := by
  have KW : ∀ w', w' = W → Calls Tryd.prog 16 #[] w' fun e w2 => e = .returned (.bool true) ∧ Below w'.heap.size w' w2 := fun w' h => by subst h; exact works_any _ hT
  have K1 := part_any a r
  have K2 := part_any a o
  by_cases e1 : partE a r = 0
  · by_cases e2 : partE a o = 0
    · have g1 := partE_zero e1
      have g2 := partE_zero e2
      rw [e1, partV_eq g1] at K1
      rw [e2, partV_eq g2] at K2
      obtain ⟨hA, hR, hS⟩ := g1
      have hA' := hA
      have hS' := hS
      obtain ⟨a1, a2⟩ := hA'
      obtain ⟨s1, s2⟩ := hS'
      have g3 : InM (-a) ∧ InR r ∧ InM (partS (-a) r) := ⟨⟨by omega, by omega⟩, hR, by rw [partS_neg]; exact ⟨by omega, by omega⟩⟩
      have g4 : InM a ∧ InR 10000 ∧ InM (partS a 10000) := ⟨hA, ⟨by decide, by decide⟩, by rw [partS_whole]; exact hA⟩
      have g5 : InM a ∧ InR 0 ∧ InM (partS a 0) := ⟨hA, ⟨by decide, by decide⟩, by rw [partS_none]; exact ⟨by decide, by decide⟩⟩
      have K3 := part_any (-a) r
      rw [partE_eq g3, partV_eq g3, partS_neg] at K3
      have K4 := part_any a 10000
      rw [partE_eq g4, partV_eq g4, partS_whole] at K4
      have K5 := part_any a 0
      rw [partE_eq g5, partV_eq g5, partS_none] at K5
      refine parts_ok a (-a) r o (partS a r) (-partS a r) (partS a o) W (wrap_ok _ (by omega) (by omega)) (wrap_ok _ (by omega) (by omega)) KW K1 K2 K3 K4 K5 ?_
      intro hro
      by_cases h : a < 0
      · refine .inr ⟨h, ?_⟩
        unfold partS
        rw [if_pos h, if_pos h]
        have := partAbs_mono (x := -a) (by omega) hro
        omega
      · refine .inl ⟨by omega, ?_⟩
        unfold partS
        rw [if_neg h, if_neg h]
        exact partAbs_mono (by omega) hro
    · rw [e1] at K1
      exact parts_err2 a r o _ _ _ W e2 KW K1 K2
  · exact parts_err1 a r o _ _ _ _ W e1 KW K1 K2
set_option maxRecDepth 100000
theorem contract (H : Type) (enc : TypeId × Value → H) (W : World) (base : Nat) (args : Array Value) (ds gs : List (DataW H)) (before : List MemPlace)
    (hval : ∀ (j : Nat) t v, Tryd.f4.params[j]? = some t → args[j]? = some v → Value.okWide Tryd.prog W .any base t v)
    (hW : DataW.Whole enc Tryd.prog Tryd.f4.params.toList Rows.moneyPartsSpec.vars false W args.toList ds gs before) (hT : Tabs W) :
    Calls Tryd.prog 4 args W fun e W' => ∃ v, e = .returned v ∧ Rows.moneyPartsSpec.post enc Tryd.prog Tryd.f4 false true false false W args v W' := by
  have hW' := hW
  obtain ⟨p, q, hA0, hV, rfl, hfz, hnd⟩ := hW
  have hA : DataW.TrodAll enc Tryd.prog W 0 (fun _ => true) true Tryd.f4.params.toList args.toList ds p := hA0
  rw [Tryd.params4] at hA hval
  obtain ⟨v0, vs0, d0, ds0, p0, q0, hargs, rfl, rfl, h0, r0⟩ := trodAll_cons hA
  obtain ⟨v1, vs1, d1, ds1, p1, q1, rfl, rfl, rfl, h1, r1⟩ := trodAll_cons r0
  obtain ⟨v2, vs2, d2, ds2, p2, q2, rfl, rfl, rfl, h2, r2⟩ := trodAll_cons r1
  obtain ⟨rfl, rfl, rfl⟩ := trodAll_nil r2
  obtain rfl : args = #[v0, v1, v2] := by cases args; simp_all
  obtain ⟨rfl, rfl⟩ := trodVars_none hV
  obtain ⟨a, rfl, rfl, rfl, hwa⟩ := open_int Tryd.underlying3 (hval 0 3 v0 rfl rfl) h0
  obtain ⟨r, rfl, rfl, rfl, hwr⟩ := open_int Tryd.underlying3 (hval 1 3 v1 rfl rfl) h1
  obtain ⟨o, rfl, rfl, rfl, hwo⟩ := open_int Tryd.underlying3 (hval 2 3 v2 rfl rfl) h2
  clear hA0
  simp only [List.append_nil] at hW'
  refine (law_any a r o W hT).mono fun e W' ⟨he, hb⟩ => ?_
  subst he
  exact ⟨_, rfl, _, _, _, [], [], [], hW', trodAll_cons_mk (shut_bool Tryd.underlying4 _) trodAll_mk0, trodAll_cons_mk (shut_int Tryd.underlying3 hwa) (trodAll_cons_mk (shut_int Tryd.underlying3 hwr) (trodAll_cons_mk (shut_int Tryd.underlying3 hwo) trodAll_mk0)), rfl, hb.frame _, fun h => by cases h⟩
noncomputable def layCells (h : Array Obj) (i : Nat) (c : Array Value) : Array Obj := h.modify i fun
  | .cells _ t frozen => .cells c t frozen
  | o => o
noncomputable def laidWorld (os : Os) : World :=
  { World.holding Tryd.prog os ⟨#[], #[], []⟩ with heap := layCells (layCells (layCells (World.holding Tryd.prog os ⟨#[], #[], []⟩).heap 7 (z10.map (Value.int .u64)).toArray) 8 (z32.map (Value.int .u8)).toArray) 9 (z64.map (Value.int .u8)).toArray }
theorem laid_met (os : Os) : laidMet Tryd.prog Rows.moneyPartsRow.laid ((laidWorld os).forCall (fun _ _ => 0) ⟨#[], #[.int .i64 0, .int .i64 0, .int .i64 0], []⟩).memory :=
  laidMet_of_run' 8 (by kernel_rfl) (by kernel_rfl)
theorem reads (os : Os) {H : Type} (enc : TypeId × Value → H) : ∃ places, DataW.whole enc Tryd.prog ((laidWorld os).forCall (fun _ _ => 0) ⟨#[], #[.int .i64 0, .int .i64 0, .int .i64 0], []⟩).memory Tryd.f4.params.toList Rows.moneyPartsSpec.vars false #[Value.int .i64 0, Value.int .i64 0, Value.int .i64 0].toList 8 = some ([.lit (.int .i64 0), .lit (.int .i64 0), .lit (.int .i64 0)], [], places) :=
  ⟨[], by kernel_rfl⟩
theorem lifted (os : Os) (started : os.Started) (H : Type) (enc : TypeId × Value → H) (F : Stop.Interp) :
    ReturnsInHanded {} Tryd.checked os 4 .any ((OpenSpec.ofChange Rows.moneyPartsSpec).preRow enc Tryd.prog Tryd.f4 Rows.moneyPartsRow.domain false Rows.moneyPartsRow.laid) (((OpenSpec.ofChange Rows.moneyPartsSpec).at F).post enc Tryd.prog Tryd.f4 false true false false) := by
  obtain ⟨places, hx⟩ := reads os enc
  refine returnsInHanded_of_row (C := Tryd.checked) (s := OpenSpec.ofChange Rows.moneyPartsSpec) own started (by kernel_rfl) Tryd.func4
    (witness_row_at (enc := enc) (C := Tryd.checked) false (laidWorld os) #[.int .i64 0, .int .i64 0, .int .i64 0] rfl (by kernel_rfl) (by kernel_rfl) (by kernel_rfl)
      (OpenSpec.preRow_of_cond 8 hx (by kernel_rfl) (fun k hk => by cases hk) (by kernel_rfl) (laid_met os))) ?_
  intro W base args ds gs before hval hW _ _ _ hL hS _
  exact contract H enc W base args ds gs before hval hW (tabs_of hS hL)
theorem said : Rows.MoneyPartsSaid :=
  OpenClaim.holds_of_cond 4 Tryd.f4 rfl rfl rfl rfl rfl rfl rfl ⟨rfl, rfl, rfl, rfl, rfl⟩ rfl rfl rfl rfl rfl (by kernel_rfl) Tryd.func4 (by kernel_rfl)
    (of_decide_eq_true (by kernel_rfl)) (by unfold Func.isWrapper; first | (rw [if_pos (by decide +kernel)]; kernel_rfl) | (rw [if_neg (by decide +kernel)]; exact ⟨rfl, rfl⟩))
    (fun os started H enc _ F => by rw [OpenClaim.pre_eq_preRow]; exact lifted os started H enc F)
theorem plainParams (f : FuncId) (fn : Func) (hf : Tryd.pinned.checked.prog.funcNamed "hopper/hopperlaw22.MoneyParts" = some f) (hfn : Tryd.pinned.checked.prog.funcs[f]? = some fn) :
    true = Tryd.pinned.checked.prog.looks [] ∧ ∀ (j : Nat) t, fn.params[j]? = some t → Tryd.pinned.checked.prog.wantsStandIn t = false := by
  obtain rfl : f = 4 := Option.some.inj ((show Tryd.prog.funcNamed "hopper/hopperlaw22.MoneyParts" = some 4 by kernel_rfl).symm.trans hf) |>.symm
  obtain rfl : fn = Tryd.f4 := (Option.some.inj (Tryd.func4.symm.trans hfn)).symm
  refine ⟨by kernel_rfl, fun j t ht => ?_⟩
  rw [Tryd.params4] at ht
  obtain rfl : t = 3 := by simpa using Array.mem_of_getElem? ht
  exact (show Tryd.prog.wantsStandIn 3 = false by kernel_rfl)
theorem card : Rows.MoneyPartsCardSaid :=
  Claim7.holds_tied_plain_at .later [] _ _ _ _ said (fun _ h => by cases h) (by kernel_rfl) (fun _ h => by cases h) moneyParts_row_tie rfl ⟨rfl, rfl⟩ (by kernel_rfl) rfl plainParams (by kernel_rfl)
#print axioms card
end Go.Proofs.YtpbgaoodokapeaaDoor
