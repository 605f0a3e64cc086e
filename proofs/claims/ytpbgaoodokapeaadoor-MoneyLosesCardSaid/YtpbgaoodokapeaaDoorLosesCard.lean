/- PROVED: the tied card of 'hopperlaw22.MoneyLoses': for every integer a and every slice of integers (the weights) the call returns true, does not panic and leaves its arguments as they were. CONDITIONS: the row's own: the listed tables of math/bits and internal/strconv read, when the call begins, as the program's text lays them (the card ties them); no other condition. -/
import Derived.Test.YtpbgaoodokapeaaDoorSF
import Derived.SevenTiedAt
import Derived.OpenShut
import Derived.ChangeSlices
import Derived.Carry
import Derived.Deep.DeepHandedRow
open Go Go.ChangeShapes Go.WideShapes Go.ChangeAt Go.RowKit Go.Proofs.YtpbgaoodokapeaaDoor.Vai
namespace Go.Proofs.YtpbgaoodokapeaaDoor
set_option linter.unusedVariables false
set_option linter.unusedSimpArgs false
set_option maxRecDepth 100000
theorem qv_mono {x S w w' : Int} (hx : 0 ≤ x) (hS : 0 < S) (h : w ≤ w') : qv x S w ≤ qv x S w' := Int.ediv_le_ediv hS (Int.mul_le_mul_of_nonneg_left h hx)
theorem loses_any {zs : List Int} {v : Value} {q : Option Addr} {c : Nat} {W : World} (a : Int) (hv : v = .slice q zs.length c) (h : Sl zs v W) (hT : Tabs W) (h10 : 10 ≤ W.heap.size) :
    Calls Tryd.prog 6 #[.int .i64 a, v] W fun e w' => e = .returned (.bool true) ∧ Below W.heap.size W w' := by
  have KW : ∀ w', w' = W → Calls Tryd.prog 16 #[] w' fun e w2 => e = .returned (.bool true) ∧ Below w'.heap.size w' w2 := fun w' hw => by subst hw; exact works_any _ hT
  have KS := fun w1 (hb : Below W.heap.size W w1) => share_any a (h.below hb)
  by_cases hE : shE a zs = 0
  · have hAO : InM a ∧ shOk zs := by
      unfold shE at hE
      by_cases hA : InM a
      · rw [if_pos hA] at hE
        by_cases hO : shOk zs
        · exact ⟨hA, hO⟩
        · rw [if_neg hO] at hE; cases hE
      · rw [if_neg hA] at hE; cases hE
    obtain ⟨hA, hO⟩ := hAO
    have hO' := hO
    obtain ⟨n1, n2, hR, hS⟩ := hO'
    have hSp : 0 < sumI zs := by have := (sumI_mem zs (fun z hz => (hR z hz).1)).1; omega
    have hmg : 0 ≤ mag a := by unfold mag; split <;> omega
    rcases h with ⟨b, off, cap, rfl, hc⟩ | ⟨rfl, _⟩
    · have hsV := shL_sumV hA hO
      refine loses_walk a b off cap zs (shL a zs) W (shL_length a zs) n2 hc ?_ ?_ KW ?_ ?_
      · intro i hi
        obtain ⟨e, h1, h2, h3, h4, h5⟩ := shL_get hA hO hi
        have hin := shL_in hA hO _ (List.mem_of_getElem? h1)
        obtain ⟨i1, i2⟩ := hin
        refine ⟨_, h1, fun h0 => by rw [h4 h0, Int.zero_mul], fun ha => ?_, fun ha => ?_, i1, i2⟩
        · unfold sgn; rw [if_neg (by omega)]; omega
        · by_cases h0 : a < 0
          · unfold sgn; rw [if_pos h0]; omega
          · have ha0 : a = 0 := by omega
            have : e = 0 := by
              have hm0 : mag a = 0 := by unfold mag; rw [if_neg h0]; exact ha0
              have hs := shL_sum (a := a) hO
              have hall : ∀ y ∈ shL a zs, 0 ≤ y := by
                intro y hy
                obtain ⟨j, hj, rfl⟩ := List.getElem_of_mem hy
                rw [shL_length] at hj
                obtain ⟨f, k1, _, _, _, k5⟩ := shL_get hA hO hj
                rw [List.getElem?_eq_getElem (by rw [shL_length]; exact hj)] at k1
                rw [Option.some.inj k1]; unfold sgn; rw [if_neg h0]; omega
              have h9 := (sumI_mem _ hall).2 _ (List.mem_of_getElem? h1)
              rw [hs, ha0] at h9
              unfold sgn at h9; rw [if_neg (by omega)] at h9; omega
            rw [this, Int.zero_mul]; decide
      · intro i k hi hk oi ok h1 h2 hle
        obtain ⟨e, a1, a2, a3, a4, a5⟩ := shL_get hA hO hi
        obtain ⟨f, b1, b2, b3, b4, b5⟩ := shL_get hA hO hk
        rw [h1] at a1
        rw [h2] at b1
        have a1 := Option.some.inj a1
        have b1 := Option.some.inj b1
        have hq := qv_mono hmg hSp hle
        constructor
        · intro ha
          unfold sgn at a1 b1; rw [if_pos ha] at a1 b1; omega
        · intro ha
          unfold sgn at a1 b1; rw [if_neg (by omega)] at a1 b1; omega
      · intro w1 hb
        refine (KS w1 hb).mono ?_
        rintro e w' ⟨rv, rfl, hb2, _, hgood⟩
        obtain ⟨_, _, rfl, hrow⟩ := hgood hE
        rw [hE]
        exact ⟨_, rfl, hb2, hrow⟩
      · intro v w hsl
        have := sum_any hsl (by rw [shL_length]; omega)
        rw [hsV.1, hsV.2] at this
        exact this
    · simp at n1
  · refine loses_err a (shE a zs) v W hE KW fun w1 hb => (KS w1 hb).mono ?_
    rintro e w' ⟨rv, rfl, hb2, hbad, _⟩
    rw [hbad hE]
    exact ⟨rfl, hb2⟩
theorem ten_le {W : World} (h : Tabs W) : 10 ≤ W.heap.size := by
  have h1 := h ⟨9, 110, z64.map (Value.int .u8)⟩ (by simp [globs])
  have := (Array.getElem?_eq_some_iff.1 h1).1
  exact this
theorem sl_open {H : Type} {enc : TypeId × Value → H} {W : World} {r : Reach} {base : Nat} {v : Value} {d : DataW H} {p : List MemPlace} (hval : Value.okWide Tryd.prog W r base 22 v) (h : DataW.Trod enc Tryd.prog W 0 (fun _ => true) true 22 v d p) :
    ∃ (q : Option Addr) (c : Nat) (zs : List Int), v = .slice q zs.length c ∧ Sl zs v W ∧ ∀ z ∈ zs, (Lit.int .i64 z).wf = true := by
  obtain ⟨fuel, hf⟩ := h
  obtain ⟨a0, len0, cap0, rfl⟩ := okWide_slice Tryd.underlying22 hval
  rcases open_ints Tryd.underlying22 Tryd.underlying3 (show Tryd.prog.cellsOf 3 = 1 by kernel_rfl) hf with ⟨hcs, _⟩ | ⟨a, len, cap, zs, hcs, _, hl, hm, hz, hx, hcell, hwz⟩
  · simp [Value.cells] at hcs
    obtain ⟨rfl, rfl, rfl⟩ := hcs
    exact ⟨none, 0, [], rfl, .inr ⟨rfl, none, 0, rfl, fun _ => rfl⟩, by simp⟩
  · simp [Value.cells] at hcs
    obtain ⟨rfl, rfl, rfl⟩ := hcs
    rw [if_pos rfl] at hz
    have hlen : (zs.take len0).length = len0 := by rw [List.length_take]; omega
    refine ⟨some a, cap0, zs.take len0, by rw [hlen], ?_, fun z hz => hwz z (List.mem_of_mem_take hz)⟩
    by_cases h0 : 0 < zs.length
    · obtain ⟨b, off, rfl, hc⟩ := ints_at hcell h0
      refine .inl ⟨b, off, cap0, by rw [hlen], fun i hi => ?_⟩
      rw [hlen] at hi
      rw [hc i (by omega)]
      congr 2
      simp [List.getElem?_take, hi]
    · have hl0 : len0 = 0 := by omega
      subst hl0
      exact .inr ⟨by simp, some a, cap0, rfl, fun h => by cases h⟩
theorem contract (H : Type) (enc : TypeId × Value → H) (W : World) (base : Nat) (args : Array Value) (ds gs : List (DataW H)) (before : List MemPlace)
    (hval : ∀ (j : Nat) t v, Tryd.f6.params[j]? = some t → args[j]? = some v → Value.okWide Tryd.prog W .any base t v)
    (hW : DataW.Whole enc Tryd.prog Tryd.f6.params.toList Rows.moneyLosesSpec.vars false W args.toList ds gs before) (hT : Tabs W) (h10 : 10 ≤ W.heap.size) :
    Calls Tryd.prog 6 args W fun e W' => ∃ v, e = .returned v ∧ Rows.moneyLosesSpec.post enc Tryd.prog Tryd.f6 false true false false W args v W' := by
  have hW' := hW
  obtain ⟨p, q, hA0, hV, rfl, hfz, hnd⟩ := hW
  have hA : DataW.TrodAll enc Tryd.prog W 0 (fun _ => true) true Tryd.f6.params.toList args.toList ds p := hA0
  have hlt : ∀ x ∈ p, x.block < W.heap.size := fun x hx => hW'.lt x (List.mem_append_left _ hx)
  rw [Tryd.params6] at hA hval
  obtain ⟨v0, vs0, d0, ds0, p0, q0, hargs, rfl, rfl, h0, r0⟩ := trodAll_cons hA
  obtain ⟨v1, vs1, d1, ds1, p1, q1, rfl, rfl, rfl, h1, r1⟩ := trodAll_cons r0
  obtain ⟨rfl, rfl, rfl⟩ := trodAll_nil r1
  obtain rfl : args = #[v0, v1] := by cases args; simp_all
  obtain ⟨rfl, rfl⟩ := trodVars_none hV
  obtain ⟨a, rfl, rfl, rfl, hwa⟩ := open_int Tryd.underlying3 (hval 0 3 v0 rfl rfl) h0
  obtain ⟨q', c, zs, hv0, hsl, hwz⟩ := sl_open (hval 1 22 v1 rfl rfl) h1
  clear hA0
  simp only [List.append_nil, List.nil_append] at hW' hlt
  refine (loses_any a hv0 hsl hT h10).mono fun e W' ⟨he, hb⟩ => ?_
  subst he
  have hA' := Below.trod (show laidOutB Tryd.prog = true by kernel_rfl) (by kernel_rfl) (of_decide_eq_true (by kernel_rfl)) h1 hb hlt
  exact ⟨_, rfl, _, _, _, [], _, [], hW', trodAll_cons_mk (shut_bool Tryd.underlying4 _) trodAll_mk0, trodAll_cons_mk (shut_int Tryd.underlying3 hwa) (trodAll_cons_mk hA' trodAll_mk0), rfl, hb.frame _, fun h => by cases h⟩
noncomputable def layCells (h : Array Obj) (i : Nat) (c : Array Value) : Array Obj := h.modify i fun
  | .cells _ t frozen => .cells c t frozen
  | o => o
noncomputable def laidWorld (os : Os) : World :=
  { World.holding Tryd.prog os ⟨#[], #[], []⟩ with heap := layCells (layCells (layCells (World.holding Tryd.prog os ⟨#[], #[], []⟩).heap 7 (z10.map (Value.int .u64)).toArray) 8 (z32.map (Value.int .u8)).toArray) 9 (z64.map (Value.int .u8)).toArray }
theorem laid_met (os : Os) : laidMet Tryd.prog Rows.moneyLosesRow.laid ((laidWorld os).forCall (fun _ _ => 0) ⟨#[], #[.int .i64 0, .slice none 0 0], []⟩).memory :=
  laidMet_of_run' 8 (by kernel_rfl) (by kernel_rfl)
theorem reads (os : Os) {H : Type} (enc : TypeId × Value → H) : ∃ places, DataW.whole enc Tryd.prog ((laidWorld os).forCall (fun _ _ => 0) ⟨#[], #[.int .i64 0, .slice none 0 0], []⟩).memory Tryd.f6.params.toList Rows.moneyLosesSpec.vars false #[Value.int .i64 0, Value.slice none 0 0].toList 8 = some ([.lit (.int .i64 0), .nil], [], places) :=
  ⟨[], by kernel_rfl⟩
theorem lifted (os : Os) (started : os.Started) (H : Type) (enc : TypeId × Value → H) (F : Stop.Interp) :
    ReturnsInHanded {} Tryd.checked os 6 .any ((OpenSpec.ofChange Rows.moneyLosesSpec).preRow enc Tryd.prog Tryd.f6 Rows.moneyLosesRow.domain false Rows.moneyLosesRow.laid) (((OpenSpec.ofChange Rows.moneyLosesSpec).at F).post enc Tryd.prog Tryd.f6 false true false false) := by
  obtain ⟨places, hx⟩ := reads os enc
  refine returnsInHanded_of_row (C := Tryd.checked) (s := OpenSpec.ofChange Rows.moneyLosesSpec) own started (by kernel_rfl) Tryd.func6
    (witness_row_at (enc := enc) (C := Tryd.checked) false (laidWorld os) #[.int .i64 0, .slice none 0 0] rfl (by kernel_rfl) (by kernel_rfl) (by kernel_rfl)
      (OpenSpec.preRow_of_cond 8 hx (by kernel_rfl) (fun k hk => by cases hk) (by kernel_rfl) (laid_met os))) ?_
  intro W base args ds gs before hval hW _ _ _ hL hS _
  exact contract H enc W base args ds gs before hval hW (tabs_of hS hL) (ten_le (tabs_of hS hL))
theorem said : Rows.MoneyLosesSaid :=
  OpenClaim.holds_of_cond 6 Tryd.f6 rfl rfl rfl rfl rfl rfl rfl ⟨rfl, rfl, rfl, rfl, rfl⟩ rfl rfl rfl rfl rfl (by kernel_rfl) Tryd.func6 (by kernel_rfl)
    (of_decide_eq_true (by kernel_rfl)) (by unfold Func.isWrapper; first | (rw [if_pos (by decide +kernel)]; kernel_rfl) | (rw [if_neg (by decide +kernel)]; exact ⟨rfl, rfl⟩))
    (fun os started H enc _ F => by rw [OpenClaim.pre_eq_preRow]; exact lifted os started H enc F)
theorem plainParams (f : FuncId) (fn : Func) (hf : Tryd.pinned.checked.prog.funcNamed "hopper/hopperlaw22.MoneyLoses" = some f) (hfn : Tryd.pinned.checked.prog.funcs[f]? = some fn) :
    true = Tryd.pinned.checked.prog.looks [] ∧ ∀ (j : Nat) t, fn.params[j]? = some t → Tryd.pinned.checked.prog.wantsStandIn t = false := by
  obtain rfl : f = 6 := Option.some.inj ((show Tryd.prog.funcNamed "hopper/hopperlaw22.MoneyLoses" = some 6 by kernel_rfl).symm.trans hf) |>.symm
  obtain rfl : fn = Tryd.f6 := (Option.some.inj (Tryd.func6.symm.trans hfn)).symm
  refine ⟨by kernel_rfl, fun j t ht => ?_⟩
  rw [Tryd.params6] at ht
  have ht' : t = 3 ∨ t = 22 := by have := Array.mem_of_getElem? ht; simpa using this
  rcases ht' with rfl | rfl
  · exact (show Tryd.prog.wantsStandIn 3 = false by kernel_rfl)
  · exact (show Tryd.prog.wantsStandIn 22 = false by kernel_rfl)
theorem card : Rows.MoneyLosesCardSaid :=
  Claim7.holds_tied_plain_at .later [] _ _ _ _ said (fun _ h => by cases h) (by kernel_rfl) (fun _ h => by cases h) moneyLoses_row_tie rfl ⟨rfl, rfl⟩ (by kernel_rfl) rfl plainParams (by kernel_rfl)
#print axioms card
end Go.Proofs.YtpbgaoodokapeaaDoor
