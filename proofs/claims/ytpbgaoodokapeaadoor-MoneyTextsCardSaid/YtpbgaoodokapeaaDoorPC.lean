/- What money.Part returns, for every two numbers. -/
import Derived.Test.YtpbgaoodokapeaaDoorPB
open Go Go.RowKit Go.Proofs.YtpbgaoodokapeaaDoor.Vai
namespace Go.Proofs.YtpbgaoodokapeaaDoor
set_option linter.unusedVariables false
set_option linter.unusedSimpArgs false
def partAbs (x r : Int) : Int := x * r / 10000 + (if 10000 ≤ 2 * (x * r % 10000) then 1 else 0)
def partS (a r : Int) : Int := if a < 0 then -(partAbs (-a) r) else partAbs a r
def InM (a : Int) : Prop := -1000000000000000 ≤ a ∧ a ≤ 1000000000000000
def InR (r : Int) : Prop := 0 ≤ r ∧ r ≤ 1000000
instance (a : Int) : Decidable (InM a) := by unfold InM; infer_instance
instance (a : Int) : Decidable (InR a) := by unfold InR; infer_instance
def partV (a r : Int) : Int := if InM a ∧ InR r ∧ InM (partS a r) then partS a r else 0
def partE (a r : Int) : Int := if InM a then (if InR r ∧ InM (partS a r) then 0 else 1) else 220
theorem wrap_ok (x : Int) (h0 : -9223372036854775808 ≤ x) (h1 : x < 9223372036854775808) : wrap64 x = x := by
  unfold wrap64; omega
theorem part_any (a r : Int) (w : World) : Calls Tryd.prog 17 #[.int .i64 a, .int .i64 r] w fun e w' => e = .returned (.tuple #[.int .i64 (partV a r), .int .i64 (partE a r)]) ∧ Below w.heap.size w w' := by
  by_cases hA : InM a
  · by_cases hR : InR r
    · have key : ∀ x : Int, 0 ≤ x → x ≤ 1000000000000000 → ∀ w, Calls Tryd.prog 30 #[.int .i64 x, .int .i64 r, .int .i64 10000] w fun e w' => e = .returned (.tuple #[.int .i64 (x * r / 10000), .int .i64 (x * r % 10000)]) ∧ Below w.heap.size w w' :=
        fun x h0 h1 w => over_part x r h0 (by omega) hR.1 (by have := hR.2; omega) w (fun hi lo w a b c d => div_any hi lo w a b c d)
      have bound : ∀ x : Int, 0 ≤ x → x ≤ 1000000000000000 → 0 ≤ x * r ∧ x * r ≤ 1000000000000000 * 1000000 := fun x h0 h1 => ⟨Int.mul_nonneg h0 hR.1, Int.mul_le_mul h1 hR.2 hR.1 (by decide)⟩
      have K27 := fun w => is_yes a hA.1 hA.2 w
      have K29 := fun w => isRate_yes r hR.1 hR.2 w
      obtain ⟨hA1, hA2⟩ := hA
      by_cases ha : a < 0
      · obtain ⟨b0, b1⟩ := bound (-a) (by omega) (by omega)
        obtain ⟨P, hP⟩ : ∃ P, P = -a * r := ⟨_, rfl⟩
        have K30 := key (-a) (by omega) (by omega)
        rw [← hP] at b0 b1 K30
        by_cases hm : 10000 ≤ 2 * (P % 10000)
        · have hs : partS a r = -(P / 10000 + 1) := by unfold partS partAbs; rw [if_pos ha, ← hP, if_pos hm]
          by_cases hn : InM (-(P / 10000 + 1))
          · have e1 : partV a r = -(P / 10000 + 1) := by unfold partV; rw [if_pos ⟨⟨hA1, hA2⟩, hR, by rw [hs]; exact hn⟩, hs]
            have e2 : partE a r = 0 := by unfold partE; rw [if_pos ⟨hA1, hA2⟩, if_pos ⟨hR, by rw [hs]; exact hn⟩]
            rw [e1, e2]
            exact part_111 a r (-a) (P / 10000) (P % 10000) _ w ha (wrap_ok _ (by omega) (by omega)) (by omega) K27 K29 K30 (wrap_ok _ (by omega) (by omega)) hm (wrap_ok _ (by omega) (by omega)) (wrap_ok _ (by omega) (by omega)) (fun w => is_yes _ hn.1 hn.2 w)
          · have e1 : partV a r = 0 := by unfold partV; rw [if_neg (fun h => hn (by rw [← hs]; exact h.2.2))]
            have e2 : partE a r = 1 := by unfold partE; rw [if_pos ⟨hA1, hA2⟩, if_neg (fun h => hn (by rw [← hs]; exact h.2))]
            rw [e1, e2]
            exact part_110 a r (-a) (P / 10000) (P % 10000) _ w ha (wrap_ok _ (by omega) (by omega)) (by omega) K27 K29 K30 (wrap_ok _ (by omega) (by omega)) hm (wrap_ok _ (by omega) (by omega)) (wrap_ok _ (by omega) (by omega)) (fun w => is_no _ hn w)
        · have hs : partS a r = -(P / 10000) := by unfold partS partAbs; rw [if_pos ha, ← hP, if_neg hm, Int.add_zero]
          by_cases hn : InM (-(P / 10000))
          · have e1 : partV a r = -(P / 10000) := by unfold partV; rw [if_pos ⟨⟨hA1, hA2⟩, hR, by rw [hs]; exact hn⟩, hs]
            have e2 : partE a r = 0 := by unfold partE; rw [if_pos ⟨hA1, hA2⟩, if_pos ⟨hR, by rw [hs]; exact hn⟩]
            rw [e1, e2]
            exact part_101 a r (-a) (P / 10000) (P % 10000) _ w ha (wrap_ok _ (by omega) (by omega)) (by omega) K27 K29 K30 (wrap_ok _ (by omega) (by omega)) (by omega) (wrap_ok _ (by omega) (by omega)) (fun w => is_yes _ hn.1 hn.2 w)
          · have e1 : partV a r = 0 := by unfold partV; rw [if_neg (fun h => hn (by rw [← hs]; exact h.2.2))]
            have e2 : partE a r = 1 := by unfold partE; rw [if_pos ⟨hA1, hA2⟩, if_neg (fun h => hn (by rw [← hs]; exact h.2))]
            rw [e1, e2]
            exact part_100 a r (-a) (P / 10000) (P % 10000) _ w ha (wrap_ok _ (by omega) (by omega)) (by omega) K27 K29 K30 (wrap_ok _ (by omega) (by omega)) (by omega) (wrap_ok _ (by omega) (by omega)) (fun w => is_no _ hn w)
      · obtain ⟨b0, b1⟩ := bound a (by omega) (by omega)
        obtain ⟨P, hP⟩ : ∃ P, P = a * r := ⟨_, rfl⟩
        have K30 := key a (by omega) (by omega)
        rw [← hP] at b0 b1 K30
        have hmax : wrap64 (-a) ≤ a := by rw [wrap_ok _ (by omega) (by omega)]; omega
        by_cases hm : 10000 ≤ 2 * (P % 10000)
        · have hs : partS a r = P / 10000 + 1 := by unfold partS partAbs; rw [if_neg ha, ← hP, if_pos hm]
          by_cases hn : InM (P / 10000 + 1)
          · have e1 : partV a r = P / 10000 + 1 := by unfold partV; rw [if_pos ⟨⟨hA1, hA2⟩, hR, by rw [hs]; exact hn⟩, hs]
            have e2 : partE a r = 0 := by unfold partE; rw [if_pos ⟨hA1, hA2⟩, if_pos ⟨hR, by rw [hs]; exact hn⟩]
            rw [e1, e2]
            exact part_011 a r 0 (P / 10000) (P % 10000) 0 w (by omega) hmax K27 K29 K30 (wrap_ok _ (by omega) (by omega)) hm (wrap_ok _ (by omega) (by omega)) (fun w => is_yes _ hn.1 hn.2 w)
          · have e1 : partV a r = 0 := by unfold partV; rw [if_neg (fun h => hn (by rw [← hs]; exact h.2.2))]
            have e2 : partE a r = 1 := by unfold partE; rw [if_pos ⟨hA1, hA2⟩, if_neg (fun h => hn (by rw [← hs]; exact h.2))]
            rw [e1, e2]
            exact part_010 a r 0 (P / 10000) (P % 10000) 0 w (by omega) hmax K27 K29 K30 (wrap_ok _ (by omega) (by omega)) hm (wrap_ok _ (by omega) (by omega)) (fun w => is_no _ hn w)
        · have hs : partS a r = P / 10000 := by unfold partS partAbs; rw [if_neg ha, ← hP, if_neg hm, Int.add_zero]
          by_cases hn : InM (P / 10000)
          · have e1 : partV a r = P / 10000 := by unfold partV; rw [if_pos ⟨⟨hA1, hA2⟩, hR, by rw [hs]; exact hn⟩, hs]
            have e2 : partE a r = 0 := by unfold partE; rw [if_pos ⟨hA1, hA2⟩, if_pos ⟨hR, by rw [hs]; exact hn⟩]
            rw [e1, e2]
            exact part_001 a r 0 (P / 10000) (P % 10000) 0 w (by omega) hmax K27 K29 K30 (wrap_ok _ (by omega) (by omega)) (by omega) (fun w => is_yes _ hn.1 hn.2 w)
          · have e1 : partV a r = 0 := by unfold partV; rw [if_neg (fun h => hn (by rw [← hs]; exact h.2.2))]
            have e2 : partE a r = 1 := by unfold partE; rw [if_pos ⟨hA1, hA2⟩, if_neg (fun h => hn (by rw [← hs]; exact h.2))]
            rw [e1, e2]
            exact part_000 a r 0 (P / 10000) (P % 10000) 0 w (by omega) hmax K27 K29 K30 (wrap_ok _ (by omega) (by omega)) (by omega) (fun w => is_no _ hn w)
    · have e1 : partV a r = 0 := by unfold partV; rw [if_neg (fun h => hR h.2.1)]
      have e2 : partE a r = 1 := by unfold partE; rw [if_pos hA, if_neg (fun h => hR h.1)]
      rw [e1, e2]
      exact part_bad2 a r w (fun w => is_yes a hA.1 hA.2 w) (fun w => isRate_no r hR w)
  · have e1 : partV a r = 0 := by unfold partV; rw [if_neg (fun h => hA h.1)]
    have e2 : partE a r = 220 := by unfold partE; rw [if_neg hA]
    rw [e1, e2]
    exact part_bad1 a r w (fun w => is_no a hA w)
end Go.Proofs.YtpbgaoodokapeaaDoor
