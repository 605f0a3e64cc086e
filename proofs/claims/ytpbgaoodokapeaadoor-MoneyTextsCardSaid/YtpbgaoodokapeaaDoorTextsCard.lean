/- PROVED: the tied card of 'hopperlaw22.MoneyTexts': for every integer a and every string s the call returns true, does not panic and leaves its arguments as they were. CONDITIONS: the row's own: the listed tables and errors of math/bits, internal/strconv, unicode/utf8 and strconv read, when the call begins, as the program's text lays them (the card ties them); no other condition. -/
import Derived.Test.YtpbgaoodokapeaaDoorTE
import Derived.Test.YtpbgaoodokapeaaDoorTJ
import Derived.SevenTiedAt
import Derived.OpenShut
import Derived.SizedLaws
import Derived.Deep.DeepHandedRow
open Go Go.ChangeShapes Go.WideShapes Go.ChangeAt Go.RowKit Go.ChangeMaps Go.Proofs.YtpbgaoodokapeaaDoor.Vai
namespace Go.Proofs.YtpbgaoodokapeaaDoor
set_option linter.unusedVariables false
set_option linter.unusedSimpArgs false
set_option maxRecDepth 100000
noncomputable def flatAll : Nat → List (DataW Unit) → List Value
  | 0, _ => []
  | _ + 1, [] => []
  | n + 1, .lit l :: r => l.value :: flatAll n r
  | n + 1, .agg p :: r => flatAll n p ++ flatAll n r
  | n + 1, _ :: r => flatAll n r
noncomputable def errText : DataW Unit → List UInt8
  | .iface _ (.ptr (.agg (.lit (.string l) :: _))) => l
  | _ => []
theorem ten_le {W : World} (h : Tabs W) : 10 ≤ W.heap.size := by
  have h1 := h ⟨9, 110, z64.map (Value.int .u8)⟩ (by simp [globs])
  have := (Array.getElem?_eq_some_iff.1 h1).1
  exact this
theorem texts_any (a : Int) (s : ByteArray) (hs : s.size ≤ 140737488355328) (W : World) (hT : Tabs W) (h10 : 10 ≤ W.heap.size) (e2 e3 : Value) (c2 : W.cell? ⟨2, 0, none⟩ = some e2) (c3 : W.cell? ⟨3, 0, none⟩ = some e3) (i2 : ∃ te pe, e2 = .iface te pe) (i3 : ∃ te pe, e3 = .iface te pe) :
    Calls Tryd.prog 8 #[.int .i64 a, .string s] W fun e w' => e = .returned (.bool true) ∧ Below W.heap.size W w' :=
  texts_walk a (textE a) (parseR s.data.toList).1 (parseR s.data.toList).2 s (textS a) W (fun w' h => by subst h; exact text_any a _ hT h10) (fun w' => rtext_any a w')
    (fun w' hb => parse_any s hs w' (hT.below h10 hb) (Nat.le_trans h10 hb.size) e2 e3 ((hb.cell (cell_ltT c2)).trans c2) ((hb.cell (cell_ltT c3)).trans c3) i2 i3)
    (fun w' => rparse_any s hs w') (fun w' hb => works_any _ (hT.below h10 hb))
theorem contract (H : Type) (enc : TypeId × Value → H) (W : World) (base : Nat) (args : Array Value) (ds gs : List (DataW H)) (before : List MemPlace)
    (hval : ∀ (j : Nat) t v, Tryd.f8.params[j]? = some t → args[j]? = some v → Value.okWide Tryd.prog W .any base t v)
    (hW : DataW.Whole enc Tryd.prog Tryd.f8.params.toList Rows.moneyTextsSpec.vars false W args.toList ds gs before) (hT : Tabs W) (h10 : 10 ≤ W.heap.size) (e2 e3 : Value) (c2 : W.cell? ⟨2, 0, none⟩ = some e2) (c3 : W.cell? ⟨3, 0, none⟩ = some e3) (i2 : ∃ te pe, e2 = .iface te pe) (i3 : ∃ te pe, e3 = .iface te pe) (hw : (DataW.weightsEach Tryd.prog (Tryd.f8.params.toList ++ DataSpec.varTypes Tryd.prog (OpenSpec.ofChange Rows.moneyTextsSpec).bare.plain) (ds ++ gs)).all (fun x => decide (x ≤ reachBytes)) = true) :
    Calls Tryd.prog 8 args W fun e W' => ∃ v, e = .returned v ∧ Rows.moneyTextsSpec.post enc Tryd.prog Tryd.f8 false true false false W args v W' := by
  have hW' := hW
  obtain ⟨p, q, hA0, hV, rfl, hfz, hnd⟩ := hW
  have hA : DataW.TrodAll enc Tryd.prog W 0 (fun _ => true) true Tryd.f8.params.toList args.toList ds p := hA0
  rw [Tryd.params8] at hA hval
  obtain ⟨v0, vs0, d0, ds0, p0, q0, hargs, rfl, rfl, h0, r0⟩ := trodAll_cons hA
  obtain ⟨v1, vs1, d1, ds1, p1, q1, rfl, rfl, rfl, h1, r1⟩ := trodAll_cons r0
  obtain ⟨rfl, rfl, rfl⟩ := trodAll_nil r1
  obtain rfl : args = #[v0, v1] := by cases args; simp_all
  obtain ⟨rfl, rfl⟩ := trodVars_none hV
  obtain ⟨a, rfl, rfl, rfl, hwa⟩ := open_int Tryd.underlying3 (hval 0 3 v0 rfl rfl) h0
  obtain ⟨s, rfl, rfl, rfl, hs⟩ := open_string Tryd.underlying9 (hval 1 9 v1 rfl rfl) h1
  have hlen : s.size ≤ 140737488355328 := by
    rw [show Tryd.f8.params.toList ++ DataSpec.varTypes Tryd.prog (OpenSpec.ofChange Rows.moneyTextsSpec).bare.plain = [3, 9] by kernel_rfl] at hw
    have h5 := sized_string hw (j := 1) rfl rfl
    have h6 : s.data.toList.length = s.size := by simp
    have h7 : reachBytes = 140737488351232 := rfl
    omega
  clear hA0
  simp only [List.append_nil] at hW'
  refine (texts_any a s hlen W hT h10 e2 e3 c2 c3 i2 i3).mono fun e W' ⟨he, hb⟩ => ?_
  subst he
  exact ⟨_, rfl, _, _, _, [], [], [], hW', trodAll_cons_mk (shut_bool Tryd.underlying4 _) trodAll_mk0, trodAll_cons_mk (shut_int Tryd.underlying3 hwa) (trodAll_cons_mk (shut_string Tryd.underlying9 hs) trodAll_mk0), rfl, hb.frame _, fun h => by cases h⟩
noncomputable def layCells (h : Array Obj) (i : Nat) (c : Array Value) : Array Obj := h.modify i fun
  | .cells _ t frozen => .cells c t frozen
  | o => o
noncomputable def low : Nat := (World.holding Tryd.prog default ⟨#[], #[], []⟩).heap.size
noncomputable def laidWorld (os : Os) : World :=
  let w0 := World.holding Tryd.prog os ⟨#[.cells #[.string ⟨(errText Rows.laid_strconv_ErrRange).toArray⟩] 105, .cells #[.string ⟨(errText Rows.laid_strconv_ErrSyntax).toArray⟩] 105], #[], []⟩
  { w0 with heap := layCells (layCells (layCells (layCells (layCells (layCells (layCells w0.heap 7 (z10.map (Value.int .u64)).toArray) 8 (z32.map (Value.int .u8)).toArray) 9 (z64.map (Value.int .u8)).toArray) 6 (flatAll 400 [Rows.laid_unicode_utf8_acceptRanges]).toArray) 5 (flatAll 400 [Rows.laid_unicode_utf8_first]).toArray) 3 #[.iface 103 (.pointer (some ⟨low, 0, none⟩))]) 2 #[.iface 103 (.pointer (some ⟨low + 1, 0, none⟩))] }
theorem laid_met (os : Os) : laidMet Tryd.prog Rows.moneyTextsRow.laid ((laidWorld os).forCall (fun _ _ => 0) ⟨#[], #[.int .i64 0, .string ⟨#[]⟩], []⟩).memory :=
  laidMet_of_run' 8 (by kernel_rfl) (by kernel_rfl)
theorem reads (os : Os) {H : Type} (enc : TypeId × Value → H) : ∃ places, DataW.whole enc Tryd.prog ((laidWorld os).forCall (fun _ _ => 0) ⟨#[], #[.int .i64 0, .string ⟨#[]⟩], []⟩).memory Tryd.f8.params.toList Rows.moneyTextsSpec.vars false #[Value.int .i64 0, Value.string ⟨#[]⟩].toList 8 = some ([.lit (.int .i64 0), .lit (.string [])], [], places) :=
  ⟨[], by kernel_rfl⟩
theorem lifted (os : Os) (started : os.Started) (H : Type) (enc : TypeId × Value → H) (F : Stop.Interp) :
    ReturnsInHanded {} Tryd.checked os 8 .any ((OpenSpec.ofChange Rows.moneyTextsSpec).preRow enc Tryd.prog Tryd.f8 Rows.moneyTextsRow.domain false Rows.moneyTextsRow.laid) (((OpenSpec.ofChange Rows.moneyTextsSpec).at F).post enc Tryd.prog Tryd.f8 false true false false) := by
  obtain ⟨places, hx⟩ := reads os enc
  refine returnsInHanded_of_row (C := Tryd.checked) (s := OpenSpec.ofChange Rows.moneyTextsSpec) own started (by kernel_rfl) Tryd.func8
    (witness_row_at (enc := enc) (C := Tryd.checked) false (laidWorld os) #[.int .i64 0, .string ⟨#[]⟩] rfl (by kernel_rfl) (by kernel_rfl) (by kernel_rfl)
      (OpenSpec.preRow_of_cond 8 hx (by kernel_rfl) (fun k hk => by cases hk) (by kernel_rfl) (laid_met os))) ?_
  intro W base args ds gs before hval hW x1 x2 hcond hL hS _
  have hT := tabs7 hS hL
  obtain ⟨e2, e3, c2, c3, i2, i3⟩ := errs7 (laidMet.tail (laidMet.tail (laidMet.tail (laidMet.tail hL))))
  exact contract H enc W base args ds gs before hval hW hT (ten_le hT) e2 e3 c2 c3 i2 i3 hcond
theorem said : Rows.MoneyTextsSaid :=
  OpenClaim.holds_of_cond 8 Tryd.f8 rfl rfl rfl rfl rfl rfl rfl ⟨rfl, rfl, rfl, rfl, rfl⟩ rfl rfl rfl rfl rfl (by kernel_rfl) Tryd.func8 (by kernel_rfl)
    (of_decide_eq_true (by kernel_rfl)) (by unfold Func.isWrapper; first | (rw [if_pos (by decide +kernel)]; kernel_rfl) | (rw [if_neg (by decide +kernel)]; exact ⟨rfl, rfl⟩))
    (fun os started H enc _ F => by rw [OpenClaim.pre_eq_preRow]; exact lifted os started H enc F)
theorem plainParams (f : FuncId) (fn : Func) (hf : Tryd.pinned.checked.prog.funcNamed "hopper/hopperlaw22.MoneyTexts" = some f) (hfn : Tryd.pinned.checked.prog.funcs[f]? = some fn) :
    true = Tryd.pinned.checked.prog.looks [] ∧ ∀ (j : Nat) t, fn.params[j]? = some t → Tryd.pinned.checked.prog.wantsStandIn t = false := by
  obtain rfl : f = 8 := Option.some.inj ((show Tryd.prog.funcNamed "hopper/hopperlaw22.MoneyTexts" = some 8 by kernel_rfl).symm.trans hf) |>.symm
  obtain rfl : fn = Tryd.f8 := (Option.some.inj (Tryd.func8.symm.trans hfn)).symm
  refine ⟨by kernel_rfl, fun j t ht => ?_⟩
  rw [Tryd.params8] at ht
  have ht' : t = 3 ∨ t = 9 := by have := Array.mem_of_getElem? ht; simpa using this
  rcases ht' with rfl | rfl
  · exact (show Tryd.prog.wantsStandIn 3 = false by kernel_rfl)
  · exact (show Tryd.prog.wantsStandIn 9 = false by kernel_rfl)
theorem card : Rows.MoneyTextsCardSaid :=
  Claim7.holds_tied_plain_at .later [] _ _ _ _ said (fun _ h => by cases h) (by kernel_rfl) (fun _ h => by cases h) moneyTexts_row_tie rfl ⟨rfl, rfl⟩ (by kernel_rfl) rfl plainParams (by kernel_rfl)
#print axioms card
end Go.Proofs.YtpbgaoodokapeaaDoor
