import Derived.Test.YtpbgaoodokapeaaDoorPD
import Derived.LoopTactic
open Go Go.RowKit
namespace Go.Proofs.YtpbgaoodokapeaaDoor
set_option linter.unusedVariables false
set_option linter.unusedSimpArgs false
theorem is_eq (a : Int) (t : Bool) (h : decide (InM a) = t) (w : World) : Calls Tryd.prog 27 #[.int .i64 a] w fun e w' => e = .returned (.bool t) ∧ w' = w := by
  subst h
  by_cases h1 : -1000000000000000 ≤ a
  · by_cases h2 : a ≤ 1000000000000000
    · go_enter Tryd.func27, Tryd.ntmps27
      go_wp2
      all_goals go_ret
      all_goals exact ⟨by rw [decide_eq_true (show InM a from ⟨h1, h2⟩)]; rfl, rfl⟩
    · go_enter Tryd.func27, Tryd.ntmps27
      go_wp2
      all_goals go_ret
      all_goals exact ⟨by rw [decide_eq_false (show ¬ InM a by unfold InM; omega)]; rfl, rfl⟩
  · go_enter Tryd.func27, Tryd.ntmps27
    go_wp2
    all_goals go_ret
    all_goals exact ⟨by rw [decide_eq_false (show ¬ InM a by unfold InM; omega)]; rfl, rfl⟩
theorem isRate_eq (a : Int) (t : Bool) (h : decide (InR a) = t) (w : World) : Calls Tryd.prog 29 #[.int .i64 a] w fun e w' => e = .returned (.bool t) ∧ w' = w := by
  subst h
  by_cases h1 : 0 ≤ a
  · by_cases h2 : a ≤ 1000000
    · go_enter Tryd.func29, Tryd.ntmps29
      go_wp2
      all_goals go_ret
      all_goals exact ⟨by rw [decide_eq_true (show InR a from ⟨h1, h2⟩)]; rfl, rfl⟩
    · go_enter Tryd.func29, Tryd.ntmps29
      go_wp2
      all_goals go_ret
      all_goals exact ⟨by rw [decide_eq_false (show ¬ InR a by unfold InR; omega)]; rfl, rfl⟩
  · go_enter Tryd.func29, Tryd.ntmps29
    go_wp2
    all_goals go_ret
    all_goals exact ⟨by rw [decide_eq_false (show ¬ InR a by unfold InR; omega)]; rfl, rfl⟩
/-- 'all' over a function that tests one number. -/
theorem all_is (b off cap : Nat) (zs : List Int) (w : World) (hlen : zs.length ≤ 9223372036854775807) (hc : ∀ i, i < zs.length → w.cell? ⟨b, off + i, none⟩ = some (.int .i64 (zs.getD i 0))) :
    Calls Tryd.prog 28 #[.func (.func 27) #[] #[], .slice (some ⟨b, off, none⟩) zs.length cap] w fun e w' => e = .returned (.bool (zs.all (fun z => decide (InM z)))) ∧ w' = w := by
  go_enter Tryd.func28, Tryd.ntmps28
  go_wp2
  go_loop [8] (fun i => ∃ k : Nat, k ≤ zs.length ∧ i = .int .i64 k ∧ (zs.take k).all (fun z => decide (InM z)) = true) (fun i => zs.length - (intOf i).toNat)
  case atStart => exact ⟨0, Nat.zero_le _, rfl, rfl⟩
  case round =>
    obtain ⟨k, hk, rfl, hall⟩ := hrel
    have hcell : k < zs.length → w.cell? ⟨b, off + k, none⟩ = some (.int .i64 (zs.getD k 0)) := fun h => hc k h
    go_wp2_with (go_at_call 27; with_reducible refine (is_eq _ _ rfl _).mono ?_; rintro e w1 ⟨rfl, rfl⟩)
    · have hlt : k < zs.length := by assumption
      have hb : (!decide (InM zs[k])) = true := by assumption
      go_ret
      refine ⟨?_, rfl⟩
      have : zs.all (fun z => decide (InM z)) = false := List.all_eq_false.2 ⟨zs[k], List.getElem_mem hlt, by simpa using hb⟩
      rw [this]; rfl
    · have hlt : k < zs.length := by assumption
      have hb : (!decide (InM zs[k])) = false := by assumption
      go_round
      case rel =>
        refine ⟨k + 1, hlt, by go_num, ?_⟩
        rw [List.take_succ_eq_append_getElem hlt, List.all_append, hall]
        simpa using hb
      case measure => simp [intOf]; omega
    · have hge : ¬ k < zs.length := by assumption
      have : k = zs.length := by omega
      subst this
      rw [List.take_length] at hall
      go_ret
      exact ⟨by rw [hall]; rfl, rfl⟩
/-- 'all' over a function that tests one number. -/
theorem all_rate (b off cap : Nat) (zs : List Int) (w : World) (hlen : zs.length ≤ 9223372036854775807) (hc : ∀ i, i < zs.length → w.cell? ⟨b, off + i, none⟩ = some (.int .i64 (zs.getD i 0))) :
    Calls Tryd.prog 28 #[.func (.func 29) #[] #[], .slice (some ⟨b, off, none⟩) zs.length cap] w fun e w' => e = .returned (.bool (zs.all (fun z => decide (InR z)))) ∧ w' = w := by
  go_enter Tryd.func28, Tryd.ntmps28
  go_wp2
  go_loop [8] (fun i => ∃ k : Nat, k ≤ zs.length ∧ i = .int .i64 k ∧ (zs.take k).all (fun z => decide (InR z)) = true) (fun i => zs.length - (intOf i).toNat)
  case atStart => exact ⟨0, Nat.zero_le _, rfl, rfl⟩
  case round =>
    obtain ⟨k, hk, rfl, hall⟩ := hrel
    have hcell : k < zs.length → w.cell? ⟨b, off + k, none⟩ = some (.int .i64 (zs.getD k 0)) := fun h => hc k h
    go_wp2_with (go_at_call 29; with_reducible refine (isRate_eq _ _ rfl _).mono ?_; rintro e w1 ⟨rfl, rfl⟩)
    · have hlt : k < zs.length := by assumption
      have hb : (!decide (InR zs[k])) = true := by assumption
      go_ret
      refine ⟨?_, rfl⟩
      have : zs.all (fun z => decide (InR z)) = false := List.all_eq_false.2 ⟨zs[k], List.getElem_mem hlt, by simpa using hb⟩
      rw [this]; rfl
    · have hlt : k < zs.length := by assumption
      have hb : (!decide (InR zs[k])) = false := by assumption
      go_round
      case rel =>
        refine ⟨k + 1, hlt, by go_num, ?_⟩
        rw [List.take_succ_eq_append_getElem hlt, List.all_append, hall]
        simpa using hb
      case measure => simp [intOf]; omega
    · have hge : ¬ k < zs.length := by assumption
      have : k = zs.length := by omega
      subst this
      rw [List.take_length] at hall
      go_ret
      exact ⟨by rw [hall]; rfl, rfl⟩
end Go.Proofs.YtpbgaoodokapeaaDoor
