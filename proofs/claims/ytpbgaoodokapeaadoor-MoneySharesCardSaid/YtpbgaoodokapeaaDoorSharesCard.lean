/- PROVED: the tied card of 'hopperlaw22.MoneyShares': for every integer a and every slice of integers (the weights) the call returns true, does not panic and leaves its arguments as they were. CONDITIONS: the row's own: the listed tables of math/bits and internal/strconv read, when the call begins, as the program's text lays them (the card ties them); no other condition. -/
import Derived.Test.YtpbgaoodokapeaaDoorSI
import Derived.SevenTiedAt
import Derived.OpenShut
import Derived.ChangeSlices
import Derived.Carry
import Derived.Deep.DeepHandedRow
open Go Go.ChangeShapes Go.WideShapes Go.ChangeAt Go.RowKit Go.Proofs.YtpbgaoodokapeaaDoor.Vai
namespace Go.Proofs.YtpbgaoodokapeaaDoor
set_option linter.unusedVariables false
set_option linter.unusedSimpArgs false
set_option maxRecDepth 100000
theorem shares_any {zs : List Int} {v : Value} {W : World} (a : Int) (h : Sl zs v W) (hlen : zs.length ≤ 17592186043904) (hT : Tabs W) (h10 : 10 ≤ W.heap.size) :
    Calls Tryd.prog 3 #[.int .i64 a, v] W fun e w' => e = .returned (.bool true) ∧ Below W.heap.size W w' := by
  obtain ⟨out, hout⟩ : ∃ out, out = if shE a zs = 0 then shL a zs else [] := ⟨_, rfl⟩
  have hol : out.length ≤ 17592186043904 := by
    rw [hout]; split
    · rw [shL_length]; exact hlen
    · exact Nat.zero_le _
  refine shares_walk a (shE a zs) v zs out W h (lend_any h hlen) ?_ ?_ (fun u v w h1 h2 => same_any h1 h2 (by omega)) ?_ (fun u v b w h1 h2 => kept_any h1 h2 (by omega)) (fun w' hb => works_any _ (hT.below h10 hb))
  · intro u w hu
    refine (share_any a hu).mono ?_
    rintro e w' ⟨rv, rfl, hb, hbad, hgood⟩
    refine ⟨rv, rfl, hb, ?_, ?_⟩
    · rw [hout]
      by_cases hE : shE a zs = 0
      · rw [if_pos hE]
        obtain ⟨_, _, rfl, hrow⟩ := hgood hE
        have := hrow.sl zs.length
        rw [shL_length] at this; exact this
      · rw [if_neg hE, hbad hE]; exact .inr ⟨rfl, none, 0, rfl, fun _ => rfl⟩
    · by_cases hE : shE a zs = 0
      · obtain ⟨_, _, rfl, hrow⟩ := hgood hE
        exact .inr ⟨_, _, _, rfl, Nat.le_refl _, Nat.le_refl _, by simp only [maxLen]; omega, hrow.clear⟩
      · exact .inl (hbad hE)
  · intro u w hu
    refine (refShare_any a hu).mono ?_
    rintro e w' ⟨rv, rfl, hb, hbad, hgood⟩
    refine ⟨rv, rfl, hb, ?_⟩
    rw [hout]
    by_cases hE : shE a zs = 0
    · rw [if_pos hE]
      obtain ⟨g, c2, rfl, hg, hrow⟩ := hgood hE
      have := hrow.sl c2
      rw [shL_length] at this; exact this
    · rw [if_neg hE, hbad hE]; exact .inr ⟨rfl, none, 0, rfl, fun _ => rfl⟩
  · intro x m w hx hm
    rcases hx with rfl | ⟨g, n, c, rfl, h1, h2, h3, h4⟩
    · exact (spoil_nil w (-7)).mono (by rintro e w' ⟨v, rfl, rfl⟩; exact ⟨v, rfl, Below.refl _ _⟩)
    · exact (spoil_any g n c [] w h4 h3 h2 (-7)).mono (by rintro e w' ⟨v, rfl, hb⟩; exact ⟨v, rfl, hb.mono h1⟩)
theorem ten_le {W : World} (h : Tabs W) : 10 ≤ W.heap.size := by
  have h1 := h ⟨9, 110, z64.map (Value.int .u8)⟩ (by simp [globs])
  have := (Array.getElem?_eq_some_iff.1 h1).1
  exact this
theorem sl_open {H : Type} {enc : TypeId × Value → H} {W : World} {r : Reach} {base : Nat} {v : Value} {d : DataW H} {p : List MemPlace} (hval : Value.okWide Tryd.prog W r base 22 v) (h : DataW.Trod enc Tryd.prog W 0 (fun _ => true) true 22 v d p) :
    ∃ (q : Option Addr) (c : Nat) (zs : List Int), v = .slice q zs.length c ∧ Sl zs v W ∧ ∀ z ∈ zs, (Lit.int .i64 z).wf = true := by
  obtain ⟨fuel, hf⟩ := h
  obtain ⟨a0, len0, cap0, rfl⟩ := okWide_slice Tryd.underlying22 hval
  rcases open_ints Tryd.underlying22 Tryd.underlying3 (show Tryd.prog.cellsOf 3 = 1 by kernel_rfl) hf with ⟨hcs, _⟩ | ⟨a, len, cap, zs, hcs, _, hl, hm, hz, hx, hcell, hwz⟩
  · simp [Value.cells] at hcs
    obtain ⟨rfl, rfl, rfl⟩ := hcs
    exact ⟨none, 0, [], rfl, .inr ⟨rfl, none, 0, rfl, fun _ => rfl⟩, by simp⟩
  · simp [Value.cells] at hcs
    obtain ⟨rfl, rfl, rfl⟩ := hcs
    rw [if_pos rfl] at hz
    have hlen : (zs.take len0).length = len0 := by rw [List.length_take]; omega
    refine ⟨some a, cap0, zs.take len0, by rw [hlen], ?_, fun z hz => hwz z (List.mem_of_mem_take hz)⟩
    by_cases h0 : 0 < zs.length
    · obtain ⟨b, off, rfl, hc⟩ := ints_at hcell h0
      refine .inl ⟨b, off, cap0, by rw [hlen], fun i hi => ?_⟩
      rw [hlen] at hi
      rw [hc i (by omega)]
      congr 2
      simp [List.getElem?_take, hi]
    · have hl0 : len0 = 0 := by omega
      subst hl0
      exact .inr ⟨by simp, some a, cap0, rfl, fun h => by cases h⟩
theorem sl_weight {H : Type} {enc : TypeId × Value → H} {W : World} {r : Reach} {base : Nat} {v : Value} {d0 d : DataW H} {p : List MemPlace} {q : Option Addr} {n c : Nat} (hval : Value.okWide Tryd.prog W r base 22 v) (h : DataW.Trod enc Tryd.prog W 0 (fun _ => true) true 22 v d p) (hv : v = .slice q n c)
    (hw : (DataW.weightsEach Tryd.prog [3, 22] [d0, d]).all (· ≤ reachBytes) = true) : n ≤ 17592186043904 := by
  obtain ⟨fuel, hf⟩ := h
  subst hv
  rcases open_ints Tryd.underlying22 Tryd.underlying3 (show Tryd.prog.cellsOf 3 = 1 by kernel_rfl) hf with ⟨hcs, _⟩ | ⟨a, len, cap, zs, hcs, _, hl, hm, hz, hx, hcell, hwz⟩
  · simp [Value.cells] at hcs
    obtain ⟨rfl, rfl, rfl⟩ := hcs
    exact Nat.zero_le _
  · simp [Value.cells] at hcs
    obtain ⟨rfl, rfl, rfl⟩ := hcs
    simp only [Prod.mk.injEq] at hx
    obtain ⟨rfl, rfl⟩ := hx
    rw [if_pos rfl] at hz
    have hb : Tryd.prog.bytesOf 3 = 8 := by kernel_rfl
    have hr : reachBytes = 140737488351232 := rfl
    simp only [DataW.weightsEach, DataW.weights, Tryd.underlying22, List.all_append, List.all_cons, Bool.and_eq_true, decide_eq_true_eq, lits, List.length_map, List.length_take, List.length_drop, hb, hr] at hw
    omega
theorem contract (H : Type) (enc : TypeId × Value → H) (W : World) (base : Nat) (args : Array Value) (ds gs : List (DataW H)) (before : List MemPlace)
    (hval : ∀ (j : Nat) t v, Tryd.f3.params[j]? = some t → args[j]? = some v → Value.okWide Tryd.prog W .any base t v)
    (hW : DataW.Whole enc Tryd.prog Tryd.f3.params.toList Rows.moneySharesSpec.vars false W args.toList ds gs before) (hT : Tabs W) (h10 : 10 ≤ W.heap.size) (hw : (DataW.weightsEach Tryd.prog (Tryd.f3.params.toList ++ DataSpec.varTypes Tryd.prog (OpenSpec.ofChange Rows.moneySharesSpec).bare.plain) (ds ++ gs)).all (fun x => decide (x ≤ reachBytes)) = true) :
    Calls Tryd.prog 3 args W fun e W' => ∃ v, e = .returned v ∧ Rows.moneySharesSpec.post enc Tryd.prog Tryd.f3 false true false false W args v W' := by
  have hW' := hW
  obtain ⟨p, q, hA0, hV, rfl, hfz, hnd⟩ := hW
  have hA : DataW.TrodAll enc Tryd.prog W 0 (fun _ => true) true Tryd.f3.params.toList args.toList ds p := hA0
  have hlt : ∀ x ∈ p, x.block < W.heap.size := fun x hx => hW'.lt x (List.mem_append_left _ hx)
  rw [Tryd.params3] at hA hval
  obtain ⟨v0, vs0, d0, ds0, p0, q0, hargs, rfl, rfl, h0, r0⟩ := trodAll_cons hA
  obtain ⟨v1, vs1, d1, ds1, p1, q1, rfl, rfl, rfl, h1, r1⟩ := trodAll_cons r0
  obtain ⟨rfl, rfl, rfl⟩ := trodAll_nil r1
  obtain rfl : args = #[v0, v1] := by cases args; simp_all
  obtain ⟨rfl, rfl⟩ := trodVars_none hV
  obtain ⟨a, rfl, rfl, rfl, hwa⟩ := open_int Tryd.underlying3 (hval 0 3 v0 rfl rfl) h0
  obtain ⟨q', c, zs, hv0, hsl, hwz⟩ := sl_open (hval 1 22 v1 rfl rfl) h1
  have hlen : zs.length ≤ 17592186043904 := by
    rw [show Tryd.f3.params.toList ++ DataSpec.varTypes Tryd.prog (OpenSpec.ofChange Rows.moneySharesSpec).bare.plain = [3, 22] by kernel_rfl] at hw
    exact sl_weight (hval 1 22 v1 rfl rfl) h1 hv0 hw
  clear hA0
  simp only [List.append_nil, List.nil_append] at hW' hlt
  refine (shares_any a hsl hlen hT h10).mono fun e W' ⟨he, hb⟩ => ?_
  subst he
  have hA' := Below.trod (show laidOutB Tryd.prog = true by kernel_rfl) (by kernel_rfl) (of_decide_eq_true (by kernel_rfl)) h1 hb hlt
  exact ⟨_, rfl, _, _, _, [], _, [], hW', trodAll_cons_mk (shut_bool Tryd.underlying4 _) trodAll_mk0, trodAll_cons_mk (shut_int Tryd.underlying3 hwa) (trodAll_cons_mk hA' trodAll_mk0), rfl, hb.frame _, fun h => by cases h⟩
noncomputable def layCells (h : Array Obj) (i : Nat) (c : Array Value) : Array Obj := h.modify i fun
  | .cells _ t frozen => .cells c t frozen
  | o => o
noncomputable def laidWorld (os : Os) : World :=
  { World.holding Tryd.prog os ⟨#[], #[], []⟩ with heap := layCells (layCells (layCells (World.holding Tryd.prog os ⟨#[], #[], []⟩).heap 7 (z10.map (Value.int .u64)).toArray) 8 (z32.map (Value.int .u8)).toArray) 9 (z64.map (Value.int .u8)).toArray }
theorem laid_met (os : Os) : laidMet Tryd.prog Rows.moneySharesRow.laid ((laidWorld os).forCall (fun _ _ => 0) ⟨#[], #[.int .i64 0, .slice none 0 0], []⟩).memory :=
  laidMet_of_run' 8 (by kernel_rfl) (by kernel_rfl)
theorem reads (os : Os) {H : Type} (enc : TypeId × Value → H) : ∃ places, DataW.whole enc Tryd.prog ((laidWorld os).forCall (fun _ _ => 0) ⟨#[], #[.int .i64 0, .slice none 0 0], []⟩).memory Tryd.f3.params.toList Rows.moneySharesSpec.vars false #[Value.int .i64 0, Value.slice none 0 0].toList 8 = some ([.lit (.int .i64 0), .nil], [], places) :=
  ⟨[], by kernel_rfl⟩
theorem lifted (os : Os) (started : os.Started) (H : Type) (enc : TypeId × Value → H) (F : Stop.Interp) :
    ReturnsInHanded {} Tryd.checked os 3 .any ((OpenSpec.ofChange Rows.moneySharesSpec).preRow enc Tryd.prog Tryd.f3 Rows.moneySharesRow.domain false Rows.moneySharesRow.laid) (((OpenSpec.ofChange Rows.moneySharesSpec).at F).post enc Tryd.prog Tryd.f3 false true false false) := by
  obtain ⟨places, hx⟩ := reads os enc
  refine returnsInHanded_of_row (C := Tryd.checked) (s := OpenSpec.ofChange Rows.moneySharesSpec) own started (by kernel_rfl) Tryd.func3
    (witness_row_at (enc := enc) (C := Tryd.checked) false (laidWorld os) #[.int .i64 0, .slice none 0 0] rfl (by kernel_rfl) (by kernel_rfl) (by kernel_rfl)
      (OpenSpec.preRow_of_cond 8 hx (by kernel_rfl) (fun k hk => by cases hk) (by kernel_rfl) (laid_met os))) ?_
  intro W base args ds gs before hval hW x1 x2 hcond hL hS _
  exact contract H enc W base args ds gs before hval hW (tabs_of hS hL) (ten_le (tabs_of hS hL)) hcond
theorem said : Rows.MoneySharesSaid :=
  OpenClaim.holds_of_cond 3 Tryd.f3 rfl rfl rfl rfl rfl rfl rfl ⟨rfl, rfl, rfl, rfl, rfl⟩ rfl rfl rfl rfl rfl (by kernel_rfl) Tryd.func3 (by kernel_rfl)
    (of_decide_eq_true (by kernel_rfl)) (by unfold Func.isWrapper; first | (rw [if_pos (by decide +kernel)]; kernel_rfl) | (rw [if_neg (by decide +kernel)]; exact ⟨rfl, rfl⟩))
    (fun os started H enc _ F => by rw [OpenClaim.pre_eq_preRow]; exact lifted os started H enc F)
theorem plainParams (f : FuncId) (fn : Func) (hf : Tryd.pinned.checked.prog.funcNamed "hopper/hopperlaw22.MoneyShares" = some f) (hfn : Tryd.pinned.checked.prog.funcs[f]? = some fn) :
    true = Tryd.pinned.checked.prog.looks [] ∧ ∀ (j : Nat) t, fn.params[j]? = some t → Tryd.pinned.checked.prog.wantsStandIn t = false := by
  obtain rfl : f = 3 := Option.some.inj ((show Tryd.prog.funcNamed "hopper/hopperlaw22.MoneyShares" = some 3 by kernel_rfl).symm.trans hf) |>.symm
  obtain rfl : fn = Tryd.f3 := (Option.some.inj (Tryd.func3.symm.trans hfn)).symm
  refine ⟨by kernel_rfl, fun j t ht => ?_⟩
  rw [Tryd.params3] at ht
  have ht' : t = 3 ∨ t = 22 := by have := Array.mem_of_getElem? ht; simpa using this
  rcases ht' with rfl | rfl
  · exact (show Tryd.prog.wantsStandIn 3 = false by kernel_rfl)
  · exact (show Tryd.prog.wantsStandIn 22 = false by kernel_rfl)
theorem card : Rows.MoneySharesCardSaid :=
  Claim7.holds_tied_plain_at .later [] _ _ _ _ said (fun _ h => by cases h) (by kernel_rfl) (fun _ h => by cases h) moneyShares_row_tie rfl ⟨rfl, rfl⟩ (by kernel_rfl) rfl plainParams (by kernel_rfl)
#print axioms card
end Go.Proofs.YtpbgaoodokapeaaDoor
