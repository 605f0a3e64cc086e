/- PROVED: the tied card of 'hopperlaw22.MoneyPrices': for every three numbers a, many and rate the call returns true, does not panic and leaves its arguments as they were. CONDITIONS: the row's own: the listed tables of math/bits and internal/strconv read, when the call begins, as the program's text lays them (the card ties them); no other condition. -/
import Derived.Test.YtpbgaoodokapeaaDoorQF
import Derived.SevenTiedAt
import Derived.OpenShut
import Derived.Deep.DeepHandedRow
open Go Go.ChangeShapes Go.WideShapes Go.ChangeAt Go.RowKit Go.Proofs.YtpbgaoodokapeaaDoor.Vai
namespace Go.Proofs.YtpbgaoodokapeaaDoor
set_option linter.unusedVariables false
set_option linter.unusedSimpArgs false
theorem sumI_rep (n : Nat) (a : Int) : sumI (0 :: List.replicate n a) = a * n := by
  have h : ∀ n : Nat, sumI (List.replicate n a) = a * n := by
    intro n
    induction n with
    | zero => simp [sumI]
    | succ n ih => rw [List.replicate_succ]; simp only [sumI, ih]; rw [Int.natCast_add, Int.mul_add]; omega
  simp only [sumI, h]; omega
theorem allM_rep {n : Nat} {a : Int} (h : InM a) : (0 :: List.replicate n a).all (fun z => decide (InM z)) = true := by
  rw [List.all_eq_true]
  intro z hz
  rcases List.mem_cons.1 hz with rfl | hz
  · decide
  · rw [List.eq_of_mem_replicate hz]; exact decide_eq_true h
theorem allM_rep_not {n : Nat} {a : Int} (hn : ¬ n = 0) (h : ¬ InM a) : ¬ (0 :: List.replicate n a).all (fun z => decide (InM z)) = true := by
  rw [List.all_eq_true]
  intro hh
  exact h (of_decide_eq_true (hh a (List.mem_cons_of_mem _ (List.mem_replicate.2 ⟨hn, rfl⟩))))
theorem prices_any (a many rate : Int) (hm0 : -9223372036854775808 ≤ many) (hm1 : many < 9223372036854775808) (W : World) (hT : Tabs W) :
    Calls Tryd.prog 7 #[.int .i64 a, .int .i64 many, .int .i64 rate] W fun e w' => e = .returned (.bool true) ∧ Below W.heap.size W w' := by
  have KW : ∀ w', w' = W → Calls Tryd.prog 16 #[] w' fun e w2 => e = .returned (.bool true) ∧ Below w'.heap.size w' w2 := fun w' h => by subst h; exact works_any _ hT
  obtain ⟨U, hU⟩ : ∃ U, U = IntKind.u64.wrap many := ⟨_, rfl⟩
  have hU0 : 0 ≤ U := by rw [hU, IntKind.wrap_u64]; omega
  obtain ⟨n, hn⟩ : ∃ n : Nat, (n : Int) = U % 30 := ⟨(U % 30).toNat, by omega⟩
  have hn30 : n < 30 := by omega
  have hU2 : U.tmod 30 = (n : Int) := by rw [Int.tmod_eq_emod_of_nonneg hU0]; exact hn.symm
  have hall : ∀ zs : List Int, zs = [] → zs.all (fun z => decide (InR z)) = true := by rintro _ rfl; rfl
  have hRn : InR (n : Int) := ⟨by omega, by omega⟩
  obtain ⟨P, hP⟩ : ∃ P, P = priceR a n [] := ⟨_, rfl⟩
  have KP : ∀ w, Calls Tryd.prog 21 #[.int .i64 a, .int .i64 (n : Int), .slice none 0 0] w fun e' w' => e' = .returned (.tuple #[.int .i64 P.1, .int .i64 P.2]) ∧ Below w.heap.size w w' := fun w => by
    rw [hP]; exact price_any a n (.inr ⟨rfl, rfl⟩) (by simp)
  have KS : ∀ v w, Sl (0 :: List.replicate n a) v w → Calls Tryd.prog 18 #[v] w fun e' w' => e' = .returned (.tuple #[.int .i64 (sumV (0 :: List.replicate n a)), .int .i64 (sumE (0 :: List.replicate n a))]) ∧ w' = w :=
    fun v w h => sum_any h (by simp; omega)
  have KX := part_any P.1 rate
  have KQ : ∀ v w, Sl [rate] v w → Calls Tryd.prog 21 #[.int .i64 a, .int .i64 (n : Int), v] w fun e' w' => e' = .returned (.tuple #[.int .i64 (priceR a n [rate]).1, .int .i64 (priceR a n [rate]).2]) ∧ Below w.heap.size w w' :=
    fun v w h => price_any a n h (by simp)
  have KT : ∀ v w, Sl [P.1, partV P.1 rate] v w → Calls Tryd.prog 18 #[v] w fun e' w' => e' = .returned (.tuple #[.int .i64 (sumV [P.1, partV P.1 rate]), .int .i64 (sumE [P.1, partV P.1 rate])]) ∧ w' = w :=
    fun v w h => sum_any h (by simp)
  have hP1 : InM a → InM (a * n) → P = (a * n, 0) := fun h1 h2 => by rw [hP]; unfold priceR; rw [if_pos h1, if_pos ⟨rfl, hRn, h2⟩]; rfl
  have hP2 : InM a → ¬ InM (a * n) → P = (0, 1) := fun h1 h2 => by rw [hP]; unfold priceR; rw [if_pos h1, if_neg (fun h => h2 h.2.2)]
  have hP3 : ¬ InM a → P = (0, 220) := fun h1 => by rw [hP]; unfold priceR; rw [if_neg h1]
  refine prices_walk a many rate U P.1 P.2 (sumV (0 :: List.replicate n a)) (sumE (0 :: List.replicate n a)) (partV P.1 rate) (partE P.1 rate) (priceR a n [rate]).1 (priceR a n [rate]).2
    (sumV [P.1, partV P.1 rate]) (sumE [P.1, partV P.1 rate]) n W hU.symm hU2 (wrap_ok _ (by omega) (by omega)) hn30 KW KP KS KX KQ ?_ ?_ ?_ ?_ KT
  · rintro rfl
    by_cases hA : InM a
    · refine .inl ?_
      rw [hP1 hA (by simp; decide)]
      refine ⟨rfl, ?_, by simp⟩
      show sumE [0] = 0
      decide
    · exact .inr (by rw [hP3 hA])
  · intro hn0
    by_cases hA : InM a
    · have hall := allM_rep (n := n) hA
      unfold sumE sumV
      rw [if_pos hall]
      rw [sumI_rep]
      by_cases hI : InM (a * n)
      · rw [hP1 hA hI, if_pos hI, if_pos ⟨hall, hI⟩]; exact ⟨rfl, rfl⟩
      · rw [hP2 hA hI, if_neg hI, if_neg (fun h => hI h.2)]; exact ⟨rfl, rfl⟩
    · have hall := allM_rep_not hn0 hA
      unfold sumE sumV
      rw [if_neg hall, if_neg (fun h => hall h.1), hP3 hA]; exact ⟨rfl, rfl⟩
  all_goals (
    intro hn0 he hg
    have hA : InM a := by
      by_cases hA : InM a
      · exact hA
      · rw [hP3 hA] at he; cases he
    have hI : InM (a * n) := by
      by_cases hI : InM (a * n)
      · exact hI
      · rw [hP2 hA hI] at he; cases he
    rw [hP1 hA hI] at hg ⊢
    simp only at hg ⊢)
  · by_cases hR : InR rate
    · have hq : priceR a n [rate] = (0, partE (a * n) rate) := by
        unfold priceR
        rw [if_pos hA, if_pos ⟨by simp [hR], hRn, hI⟩]
        unfold priceL
        rw [if_neg hg]
      rw [hq]; exact ⟨rfl, rfl⟩
    · have hq : priceR a n [rate] = (0, 1) := by
        unfold priceR
        rw [if_pos hA, if_neg (fun h => hR (by simpa using h.1))]
      have he : partE (a * n) rate = 1 := by unfold partE; rw [if_pos hI, if_neg (fun h => hR h.1)]
      rw [hq, he]; exact ⟨rfl, rfl⟩
  · have hR := (show InR rate by
      unfold partE at hg
      rw [if_pos hI] at hg
      split at hg
      · rename_i h; exact h.1
      · cases hg)
    have hV := partV_in (a * n) rate
    have hall : [a * n, partV (a * n) rate].all (fun z => decide (InM z)) = true := by simp [hI, hV]
    have hs : sumI [a * n, partV (a * n) rate] = a * n + partV (a * n) rate := by simp [sumI]
    unfold sumV sumE
    rw [if_pos hall, hs]
    unfold priceR
    rw [if_pos hA, if_pos ⟨by simp [hR], hRn, hI⟩]
    unfold priceL
    rw [if_pos hg]
    by_cases hI2 : InM (a * n + partV (a * n) rate)
    · rw [if_pos hI2, if_pos hI2, if_pos ⟨hall, hI2⟩]; exact ⟨rfl, rfl⟩
    · rw [if_neg hI2, if_neg hI2, if_neg (fun h => hI2 h.2)]; exact ⟨rfl, rfl⟩
set_option maxRecDepth 100000
theorem int_wf {z : Int} (h : (Lit.int .i64 z).wf = true) : -9223372036854775808 ≤ z ∧ z < 9223372036854775808 := by
  have e : IntKind.i64.min = -9223372036854775808 := by decide
  simp [Lit.wf] at h
  rw [e] at h
  exact ⟨h.1, by omega⟩
theorem contract (H : Type) (enc : TypeId × Value → H) (W : World) (base : Nat) (args : Array Value) (ds gs : List (DataW H)) (before : List MemPlace)
    (hval : ∀ (j : Nat) t v, Tryd.f7.params[j]? = some t → args[j]? = some v → Value.okWide Tryd.prog W .any base t v)
    (hW : DataW.Whole enc Tryd.prog Tryd.f7.params.toList Rows.moneyPricesSpec.vars false W args.toList ds gs before) (hT : Tabs W) :
    Calls Tryd.prog 7 args W fun e W' => ∃ v, e = .returned v ∧ Rows.moneyPricesSpec.post enc Tryd.prog Tryd.f7 false true false false W args v W' := by
  have hW' := hW
  obtain ⟨p, q, hA0, hV, rfl, hfz, hnd⟩ := hW
  have hA : DataW.TrodAll enc Tryd.prog W 0 (fun _ => true) true Tryd.f7.params.toList args.toList ds p := hA0
  rw [Tryd.params7] at hA hval
  obtain ⟨v0, vs0, d0, ds0, p0, q0, hargs, rfl, rfl, h0, r0⟩ := trodAll_cons hA
  obtain ⟨v1, vs1, d1, ds1, p1, q1, rfl, rfl, rfl, h1, r1⟩ := trodAll_cons r0
  obtain ⟨v2, vs2, d2, ds2, p2, q2, rfl, rfl, rfl, h2, r2⟩ := trodAll_cons r1
  obtain ⟨rfl, rfl, rfl⟩ := trodAll_nil r2
  obtain rfl : args = #[v0, v1, v2] := by cases args; simp_all
  obtain ⟨rfl, rfl⟩ := trodVars_none hV
  obtain ⟨a, rfl, rfl, rfl, hwa⟩ := open_int Tryd.underlying3 (hval 0 3 v0 rfl rfl) h0
  obtain ⟨r, rfl, rfl, rfl, hwr⟩ := open_int Tryd.underlying3 (hval 1 3 v1 rfl rfl) h1
  obtain ⟨o, rfl, rfl, rfl, hwo⟩ := open_int Tryd.underlying3 (hval 2 3 v2 rfl rfl) h2
  clear hA0
  simp only [List.append_nil] at hW'
  obtain ⟨hr0, hr1⟩ := int_wf hwr
  refine (prices_any a r o hr0 hr1 W hT).mono fun e W' ⟨he, hb⟩ => ?_
  subst he
  exact ⟨_, rfl, _, _, _, [], [], [], hW', trodAll_cons_mk (shut_bool Tryd.underlying4 _) trodAll_mk0, trodAll_cons_mk (shut_int Tryd.underlying3 hwa) (trodAll_cons_mk (shut_int Tryd.underlying3 hwr) (trodAll_cons_mk (shut_int Tryd.underlying3 hwo) trodAll_mk0)), rfl, hb.frame _, fun h => by cases h⟩
noncomputable def layCells (h : Array Obj) (i : Nat) (c : Array Value) : Array Obj := h.modify i fun
  | .cells _ t frozen => .cells c t frozen
  | o => o
noncomputable def laidWorld (os : Os) : World :=
  { World.holding Tryd.prog os ⟨#[], #[], []⟩ with heap := layCells (layCells (layCells (World.holding Tryd.prog os ⟨#[], #[], []⟩).heap 7 (z10.map (Value.int .u64)).toArray) 8 (z32.map (Value.int .u8)).toArray) 9 (z64.map (Value.int .u8)).toArray }
theorem laid_met (os : Os) : laidMet Tryd.prog Rows.moneyPricesRow.laid ((laidWorld os).forCall (fun _ _ => 0) ⟨#[], #[.int .i64 0, .int .i64 0, .int .i64 0], []⟩).memory :=
  laidMet_of_run' 8 (by kernel_rfl) (by kernel_rfl)
theorem reads (os : Os) {H : Type} (enc : TypeId × Value → H) : ∃ places, DataW.whole enc Tryd.prog ((laidWorld os).forCall (fun _ _ => 0) ⟨#[], #[.int .i64 0, .int .i64 0, .int .i64 0], []⟩).memory Tryd.f7.params.toList Rows.moneyPricesSpec.vars false #[Value.int .i64 0, Value.int .i64 0, Value.int .i64 0].toList 8 = some ([.lit (.int .i64 0), .lit (.int .i64 0), .lit (.int .i64 0)], [], places) :=
  ⟨[], by kernel_rfl⟩
theorem lifted (os : Os) (started : os.Started) (H : Type) (enc : TypeId × Value → H) (F : Stop.Interp) :
    ReturnsInHanded {} Tryd.checked os 7 .any ((OpenSpec.ofChange Rows.moneyPricesSpec).preRow enc Tryd.prog Tryd.f7 Rows.moneyPricesRow.domain false Rows.moneyPricesRow.laid) (((OpenSpec.ofChange Rows.moneyPricesSpec).at F).post enc Tryd.prog Tryd.f7 false true false false) := by
  obtain ⟨places, hx⟩ := reads os enc
  refine returnsInHanded_of_row (C := Tryd.checked) (s := OpenSpec.ofChange Rows.moneyPricesSpec) own started (by kernel_rfl) Tryd.func7
    (witness_row_at (enc := enc) (C := Tryd.checked) false (laidWorld os) #[.int .i64 0, .int .i64 0, .int .i64 0] rfl (by kernel_rfl) (by kernel_rfl) (by kernel_rfl)
      (OpenSpec.preRow_of_cond 8 hx (by kernel_rfl) (fun k hk => by cases hk) (by kernel_rfl) (laid_met os))) ?_
  intro W base args ds gs before hval hW _ _ _ hL hS _
  exact contract H enc W base args ds gs before hval hW (tabs_of hS hL)
theorem said : Rows.MoneyPricesSaid :=
  OpenClaim.holds_of_cond 7 Tryd.f7 rfl rfl rfl rfl rfl rfl rfl ⟨rfl, rfl, rfl, rfl, rfl⟩ rfl rfl rfl rfl rfl (by kernel_rfl) Tryd.func7 (by kernel_rfl)
    (of_decide_eq_true (by kernel_rfl)) (by unfold Func.isWrapper; first | (rw [if_pos (by decide +kernel)]; kernel_rfl) | (rw [if_neg (by decide +kernel)]; exact ⟨rfl, rfl⟩))
    (fun os started H enc _ F => by rw [OpenClaim.pre_eq_preRow]; exact lifted os started H enc F)
theorem plainParams (f : FuncId) (fn : Func) (hf : Tryd.pinned.checked.prog.funcNamed "hopper/hopperlaw22.MoneyPrices" = some f) (hfn : Tryd.pinned.checked.prog.funcs[f]? = some fn) :
    true = Tryd.pinned.checked.prog.looks [] ∧ ∀ (j : Nat) t, fn.params[j]? = some t → Tryd.pinned.checked.prog.wantsStandIn t = false := by
  obtain rfl : f = 7 := Option.some.inj ((show Tryd.prog.funcNamed "hopper/hopperlaw22.MoneyPrices" = some 7 by kernel_rfl).symm.trans hf) |>.symm
  obtain rfl : fn = Tryd.f7 := (Option.some.inj (Tryd.func7.symm.trans hfn)).symm
  refine ⟨by kernel_rfl, fun j t ht => ?_⟩
  rw [Tryd.params7] at ht
  obtain rfl : t = 3 := by simpa using Array.mem_of_getElem? ht
  exact (show Tryd.prog.wantsStandIn 3 = false by kernel_rfl)
theorem card : Rows.MoneyPricesCardSaid :=
  Claim7.holds_tied_plain_at .later [] _ _ _ _ said (fun _ h => by cases h) (by kernel_rfl) (fun _ h => by cases h) moneyPrices_row_tie rfl ⟨rfl, rfl⟩ (by kernel_rfl) rfl plainParams (by kernel_rfl)
#print axioms card
end Go.Proofs.YtpbgaoodokapeaaDoor
