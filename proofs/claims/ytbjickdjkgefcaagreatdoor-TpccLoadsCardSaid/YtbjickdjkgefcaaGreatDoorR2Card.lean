/- PROVED: the tied card of 'hopperlaw23.TpccLoads': for every four integers of eight bytes (how many houses, districts, customers, items) and every text (the name of a table that is made ahead) the call returns true, does not panic and leaves its arguments as they were. CONDITIONS: the row's own: the listed tables of strings, unicode, unicode/utf8, math/bits and internal/strconv read, when the call begins, as the program's text lays them (the card ties them); no other condition. -/
import Derived.Test.YtbjickdjkgefcaaGreatDoorLO2
import Derived.Test.YtbjickdjkgefcaaGreatDoorLQ4
import Derived.Test.YtbjickdjkgefcaaGreatDoorLR1
import Derived.Test.YtbjickdjkgefcaaGreatDoorLR3
import Derived.SevenTiedAt
import Derived.OpenShut
import Derived.Carry
import Derived.SizedLaws
import Derived.Lib.SmallJoins
import Derived.Deep.DeepHandedRow
import Derived.Deep.DeepWitnessRowRef
open Go Go.Joins Go.ChangeShapes Go.WideShapes Go.ChangeAt Go.RowKit Go.ChangeMaps Go.Proofs.YtbjickdjkgefcaaGreatDoor.Vai
set_option linter.unusedVariables false
set_option linter.unusedSimpArgs false
namespace Go.Proofs.YtbjickdjkgefcaaGreatDoor
set_option maxRecDepth 100000
theorem law_any (W D C I : Int) (a : ByteArray) (w : World) (h : Tabs w) :
    Calls Tryz.prog 3 #[.agg #[.int .i64 W, .int .i64 D, .int .i64 C, .int .i64 I], .string a] w fun e w' => e = .returned (.bool true) ∧ Below w.heap.size w w' :=
  tpcc_walk W D C I a works_any w h
theorem tabs_laid {W : World} (hs : W.ShapedOpen Tryz.prog) (h : laidMet Tryz.prog Rows.tpccLoadsRow.laid W) : Tabs W := by
  have h1 : W.var? Tryz.prog "strings.asciiSpace" = some (zsp.map (Value.int .u8)).toArray := Lib.tabIs_of_head (g := 0) (t := 112) (n := 256) (by kernel_rfl) (by kernel_rfl) Tryz.underlying112 Tryz.underlying5 (by kernel_rfl) (by kernel_rfl) (laidMet.tail (laidMet.tail (laidMet.tail (laidMet.tail (laidMet.tail h)))))
  intro x hx
  simp only [globs, List.mem_cons, List.mem_nil_iff, or_false] at hx
  subst hx
  exact block_of_var hs (by kernel_rfl) (zero := Array.replicate 256 (.int .u8 0)) (by decide +kernel) (by kernel_rfl) h1
theorem contract (H : Type) (enc : TypeId × Value → H) (W : World) (base : Nat) (args : Array Value) (ds gs : List (DataW H)) (before : List MemPlace)
    (hval : ∀ (j : Nat) t v, Tryz.f3.params[j]? = some t → args[j]? = some v → Value.okWide Tryz.prog W .any base t v)
    (hW : DataW.Whole enc Tryz.prog Tryz.f3.params.toList Rows.tpccLoadsSpec.vars false W args.toList ds gs before) (hT : Tabs W) :
    Calls Tryz.prog 3 args W fun e W' => ∃ v, e = .returned v ∧ Rows.tpccLoadsSpec.post enc Tryz.prog Tryz.f3 false true false false W args v W' := by
  have hW' := hW
  obtain ⟨p, q, hA0, hV, rfl, hfz, hnd⟩ := hW
  have hA : DataW.TrodAll enc Tryz.prog W 0 (fun _ => true) true Tryz.f3.params.toList args.toList ds p := hA0
  have hlt : ∀ x ∈ p, x.block < W.heap.size := fun x hx => hW'.lt x (List.mem_append_left _ hx)
  rw [Tryz.params3] at hA hval
  obtain ⟨v0, vs0, d0, ds0, p0, q0, hargs, rfl, rfl, h0, r0⟩ := trodAll_cons hA
  obtain ⟨v1, vs1, d1, ds1, p1, q1, rfl, rfl, rfl, h1, r1⟩ := trodAll_cons r0
  obtain ⟨rfl, rfl, rfl⟩ := trodAll_nil r1
  obtain rfl : args = #[v0, v1] := by cases args; simp_all
  obtain ⟨rfl, rfl⟩ := trodVars_none hV
  obtain ⟨b0, b1, b2, b3, y0, y1, y2, y3, n, rfl, hd, hp, z0, z1, z2, z3⟩ := open_agg4 Tryz.underlying23 (by kernel_rfl) (by kernel_rfl) (hval 0 23 v0 rfl rfl) h0
  obtain ⟨i0, e0, _, _⟩ := DataW.trod_int Tryz.underlying3 z0
  obtain ⟨i1, e1, _, _⟩ := DataW.trod_int Tryz.underlying3 z1
  obtain ⟨i2, e2, _, _⟩ := DataW.trod_int Tryz.underlying3 z2
  obtain ⟨i3, e3, _, _⟩ := DataW.trod_int Tryz.underlying3 z3
  cases e0; cases e1; cases e2; cases e3
  obtain ⟨k, rfl, rfl, rfl, hk⟩ := open_string Tryz.underlying9 (hval 1 9 v1 rfl rfl) h1
  clear hA0 hd hp
  simp only [List.append_nil] at hW' hlt
  refine (law_any i0 i1 i2 i3 k W hT).mono fun e W' ⟨he, hb⟩ => ?_
  subst he
  have hA' := Below.trod (show laidOutB Tryz.prog = true by kernel_rfl) (by kernel_rfl) (of_decide_eq_true (by kernel_rfl)) h0 hb hlt
  exact ⟨_, rfl, _, _, _, [], _, [], hW', trodAll_cons_mk (shut_bool Tryz.underlying4 _) trodAll_mk0, trodAll_cons_mk hA' (trodAll_cons_mk (shut_string Tryz.underlying9 hk) trodAll_mk0), rfl, hb.frame _, fun h => by cases h⟩
theorem reads (os : Os) {H : Type} (enc : TypeId × Value → H) : ∃ places, DataW.whole enc Tryz.prog ((laidWorld os).forCall (fun _ _ => 0) ⟨#[], #[.agg #[.int .i64 0, .int .i64 0, .int .i64 0, .int .i64 0], .string ⟨#[]⟩], []⟩).memory Tryz.f3.params.toList Rows.tpccLoadsSpec.vars false #[Value.agg #[.int .i64 0, .int .i64 0, .int .i64 0, .int .i64 0], Value.string ⟨#[]⟩].toList 8 = some ([.agg [.lit (.int .i64 0), .lit (.int .i64 0), .lit (.int .i64 0), .lit (.int .i64 0)], .lit (.string [])], [], places) :=
  ⟨[], by kernel_rfl⟩
theorem lifted (os : Os) (started : os.Started) (H : Type) (enc : TypeId × Value → H) (F : Stop.Interp) :
    ReturnsInHanded {} Tryz.checked os 3 .any ((OpenSpec.ofChange Rows.tpccLoadsSpec).preRow enc Tryz.prog Tryz.f3 Rows.tpccLoadsRow.domain false Rows.tpccLoadsRow.laid) (((OpenSpec.ofChange Rows.tpccLoadsSpec).at F).post enc Tryz.prog Tryz.f3 false true false false) := by
  obtain ⟨places, hx⟩ := reads os enc
  refine returnsInHanded_of_row (C := Tryz.checked) (s := OpenSpec.ofChange Rows.tpccLoadsSpec) own started (by kernel_rfl) Tryz.func3
    (witness_row_atRef (enc := enc) (C := Tryz.checked) false (laidWorld os) #[.agg #[.int .i64 0, .int .i64 0, .int .i64 0, .int .i64 0], .string ⟨#[]⟩] rfl (by kernel_rfl) (by kernel_rfl) (by kernel_rfl)
      (OpenSpec.preRow_of_cond 8 hx (by kernel_rfl) (fun k hk => by cases hk) (by kernel_rfl) (laid_met os))) ?_
  intro W base args ds gs before hval hW x1 x2 hcond hL hS _
  exact contract H enc W base args ds gs before hval hW (tabs_laid hS hL)
theorem said : Rows.TpccLoadsSaid :=
  OpenClaim.holds_of_cond 3 Tryz.f3 rfl rfl rfl rfl rfl rfl rfl ⟨rfl, rfl, rfl, rfl, rfl⟩ rfl rfl rfl rfl rfl (by kernel_rfl) Tryz.func3 closed
    (of_decide_eq_true (by kernel_rfl)) (by unfold Func.isWrapper; first | (rw [if_pos (by decide +kernel)]; kernel_rfl) | (rw [if_neg (by decide +kernel)]; exact ⟨rfl, rfl⟩))
    (fun os started H enc _ F => by rw [OpenClaim.pre_eq_preRow]; exact lifted os started H enc F)
theorem plainParams (f : FuncId) (fn : Func) (hf : Tryz.pinned.checked.prog.funcNamed "hopper/hopperlaw23.TpccLoads" = some f) (hfn : Tryz.pinned.checked.prog.funcs[f]? = some fn) :
    true = Tryz.pinned.checked.prog.looks [] ∧ ∀ (j : Nat) t, fn.params[j]? = some t → Tryz.pinned.checked.prog.wantsStandIn t = false := by
  obtain rfl : f = 3 := Option.some.inj ((show Tryz.prog.funcNamed "hopper/hopperlaw23.TpccLoads" = some 3 by kernel_rfl).symm.trans hf) |>.symm
  obtain rfl : fn = Tryz.f3 := (Option.some.inj (Tryz.func3.symm.trans hfn)).symm
  refine ⟨by kernel_rfl, fun j t ht => ?_⟩
  rw [Tryz.params3] at ht
  have ht' : t = 23 ∨ t = 9 := by have := Array.mem_of_getElem? ht; simpa using this
  rcases ht' with rfl | rfl
  · exact (show Tryz.prog.wantsStandIn 23 = false by kernel_rfl)
  · exact (show Tryz.prog.wantsStandIn 9 = false by kernel_rfl)
theorem card : Rows.TpccLoadsCardSaid :=
  Claim7.holds_tied_plain_at .later [] _ _ _ _ said (fun _ h => by cases h) (by kernel_rfl) (fun _ h => by cases h) tpccLoads_row_tie rfl ⟨rfl, rfl⟩ (by kernel_rfl) rfl plainParams (by kernel_rfl)
#print axioms card
end Go.Proofs.YtbjickdjkgefcaaGreatDoor
