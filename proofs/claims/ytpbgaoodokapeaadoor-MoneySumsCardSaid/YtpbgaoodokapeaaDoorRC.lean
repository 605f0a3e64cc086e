import Derived.Test.YtpbgaoodokapeaaDoorRB
open Go Go.RowKit
namespace Go.Proofs.YtpbgaoodokapeaaDoor
set_option linter.unusedVariables false
set_option linter.unusedSimpArgs false
set_option maxRecDepth 4000
theorem refPrice_bad1 (a m : Int) (v : Value) (w : World) (K : Calls Tryd.prog 31 #[.int .i64 a] w fun e w' => e = .returned (.bool false) ∧ w' = w) :
    Calls Tryd.prog 22 #[.int .i64 a, .int .i64 m, v] w fun e' w' => e' = .returned (.tuple #[.int .i64 0, .int .i64 220]) ∧ w' = w := by
  go_enter Tryd.func22, Tryd.ntmps22
  go_wp2_with (go_at_call 31; with_reducible refine K.mono ?_; rintro e w1 ⟨rfl, rfl⟩)
  all_goals go_ret2
  all_goals exact ⟨rfl, rfl⟩
theorem refPrice_bad2 (a m : Int) (v : Value) (w : World) (hm : m < 0 ∨ (0 ≤ m ∧ 1000000 < m)) (K : Calls Tryd.prog 31 #[.int .i64 a] w fun e w' => e = .returned (.bool true) ∧ w' = w) :
    Calls Tryd.prog 22 #[.int .i64 a, .int .i64 m, v] w fun e' w' => e' = .returned (.tuple #[.int .i64 0, .int .i64 1]) ∧ w' = w := by
  rcases hm with h1 | ⟨h0, h1⟩
  all_goals go_enter Tryd.func22, Tryd.ntmps22
  all_goals go_wp2_with (go_at_call 31; with_reducible refine K.mono ?_; rintro e w1 ⟨rfl, rfl⟩)
  all_goals go_ret2
  all_goals exact ⟨rfl, rfl⟩
theorem refPrice_walk (a m q nq : Int) (b off cap : Nat) (zs : List Int) (w : World) (hlen : zs.length ≤ 5000) (hc : ∀ i, i < zs.length → w.cell? ⟨b, off + i, none⟩ = some (.int .i64 (zs.getD i 0)))
    (hA : InM a) (hR : InR m) (h0 : ¬ m < 0) (h1 : ¬ 1000000 < m)
    (hq : ¬ m = 0 → (1000000000000000 : Int).tdiv m = q) (hq1 : wrap64 q = q) (hq2 : wrap64 (-q) = nq)
    (hOK : (m = 0 ∧ InM (a * m)) ∨ (0 < m ∧ ¬ m = 0 ∧ q < a ∧ ¬ InM (a * m)) ∨ (0 < m ∧ ¬ m = 0 ∧ ¬ q < a ∧ a < nq ∧ ¬ InM (a * m)) ∨ (0 < m ∧ ¬ m = 0 ∧ ¬ q < a ∧ ¬ a < nq ∧ InM (a * m)))
    (K : Calls Tryd.prog 31 #[.int .i64 a] w fun e w' => e = .returned (.bool true) ∧ w' = w) (V E : Int) (hVE : priceR a m zs = (V, E)) :
    Calls Tryd.prog 22 #[.int .i64 a, .int .i64 m, .slice (some ⟨b, off, none⟩) zs.length cap] w fun e' w' => e' = .returned (.tuple #[.int .i64 V, .int .i64 E]) ∧ w' = w := by
  go_enter Tryd.func22, Tryd.ntmps22
  go_wp2_with (go_at_call 31; with_reducible refine K.mono ?_; rintro e w1 ⟨rfl, rfl⟩)
  go_loop [8] (fun i => ∃ k : Nat, k ≤ zs.length ∧ i = .int .i64 k ∧ (zs.take k).all (fun z => decide (InR z)) = true) (fun i => zs.length - (intOf i).toNat)
  case atStart => exact ⟨0, Nat.zero_le _, rfl, rfl⟩
  case round =>
    obtain ⟨k, hk, rfl, hall⟩ := hrel
    by_cases hlt : k < zs.length
    · have hcell : w1.cell? ⟨b, off + k, none⟩ = some (.int .i64 (zs[k])) := by rw [hc k hlt]; simp [hlt]
      by_cases hI : InR zs[k]
      · have K := rate_eq zs[k] true (decide_eq_true hI) w1
        have hn : (zs.take (k + 1)).all (fun z => decide (InR z)) = true := by
          rw [List.take_succ_eq_append_getElem hlt, List.all_append, hall]; simp [hI]
        clear hc hVE hOK hq hq1 hq2 hA hR
        go_wp2_with (go_at_call 32; with_reducible refine K.mono ?_; rintro e w1 ⟨rfl, rfl⟩)
        exact ⟨⟨k + 1, hlt, by go_num, hn⟩, by simp [intOf]; omega⟩
      · have K := rate_eq zs[k] false (decide_eq_false hI) w1
        have hna : ¬ zs.all (fun z => decide (InR z)) = true := fun h => hI (of_decide_eq_true (List.all_eq_true.1 h _ (List.getElem_mem hlt)))
        have e1 : priceR a m zs = (0, 1) := by unfold priceR; rw [if_pos hA, if_neg (fun h => hna h.1)]
        obtain ⟨rfl, rfl⟩ := Prod.mk.inj (hVE.symm.trans e1)
        clear hc hVE hOK hq hq1 hq2 hA hR e1
        go_wp2_with (go_at_call 32; with_reducible refine K.mono ?_; rintro e w1 ⟨rfl, rfl⟩)
        all_goals go_ret2
        all_goals exact ⟨rfl, rfl⟩
    · have hk' : k = zs.length := by omega
      subst hk'
      rw [List.take_length] at hall
      have hbad : ¬ InM (a * m) → V = 0 ∧ E = 1 := fun hI => by
        have e1 : priceR a m zs = (0, 1) := by unfold priceR; rw [if_pos hA, if_neg (fun h => hI h.2.2)]
        exact Prod.mk.inj (hVE.symm.trans e1)
      have hgood : InM (a * m) → priceL (a * m) zs = (V, E) := fun hI => by
        rw [← hVE]; unfold priceR; rw [if_pos hA, if_pos ⟨hall, hR, hI⟩]
      have wP : InM (a * m) → wrap64 (a * m) = a * m := fun h => by unfold InM at h; apply wrap_ok <;> omega
      obtain ⟨P, hP⟩ : ∃ P, P = a * m := ⟨_, rfl⟩
      rw [← hP] at hbad hgood wP hOK
      clear hall hVE hA hR
      rcases hOK with ⟨g1, gI⟩ | ⟨g1, g2, g3, gI⟩ | ⟨g1, g2, g3, g4, gI⟩ | ⟨g1, g2, g3, g4, gI⟩
      case inr.inl =>
        obtain ⟨rfl, rfl⟩ := hbad gI
        have hq' := hq g2
        clear hc hbad hgood wP hq hP gI
        go_wp2
        all_goals go_ret2
        all_goals exact ⟨rfl, rfl⟩
      case inr.inr.inl =>
        obtain ⟨rfl, rfl⟩ := hbad gI
        have hq' := hq g2
        clear hc hbad hgood wP hq hP gI
        go_wp2
        all_goals go_ret2
        all_goals exact ⟨rfl, rfl⟩
      case inr.inr.inr =>
        have hq' := hq g2
        have hV0 := hgood gI
        have hP' : wrap64 (a * m) = P := by rw [← hP]; exact wP gI
        clear hbad hgood wP hq hP
        go_wp2
        go_loop [9, 10] (fun n i => ∃ (k : Nat) (N : Int), k ≤ zs.length ∧ i = .int .i64 k ∧ n = .int .i64 N ∧ InM N ∧ priceL N (zs.drop k) = (V, E)) (fun n i => zs.length - (intOf i).toNat)
        case atStart => exact ⟨0, P, Nat.zero_le _, rfl, by first | rfl | (rw [hP']; done) | (have h5 := hP'; rw [Int.mul_zero, wrap_ok 0 (by decide) (by decide)] at h5; rw [← h5]), gI, hV0⟩
        case round =>
          obtain ⟨k, N, hk, rfl, rfl, hN, hV⟩ := hrel
          by_cases hlt2 : k < zs.length
          · have hcell : w1.cell? ⟨b, off + k, none⟩ = some (.int .i64 (zs[k])) := by rw [hc k hlt2]; simp [hlt2]
            rw [List.drop_eq_getElem_cons hlt2] at hV
            obtain ⟨r, hr⟩ : ∃ r, r = zs[k] := ⟨_, rfl⟩
            rw [← hr] at hcell hV
            have K1 := refPart_any N r w1
            have hpM : InM (partV N r) := partV_in N r
            have wN : wrap64 (N + partV N r) = N + partV N r := by
              obtain ⟨u1, u2⟩ := hN; obtain ⟨u3, u4⟩ := hpM; apply wrap_ok <;> omega
            obtain ⟨x1, hx1⟩ : ∃ x1, x1 = partV N r := ⟨_, rfl⟩
            obtain ⟨e1, he1⟩ : ∃ e1, e1 = partE N r := ⟨_, rfl⟩
            unfold priceL at hV
            rw [← hx1, ← he1] at hV
            rw [← hx1] at wN
            rw [← hx1, ← he1] at K1
            by_cases hE : e1 = 0
            · rw [if_pos hE] at hV
              subst hE
              by_cases hI : InM (N + x1)
              · rw [if_pos hI] at hV
                have K2 : Calls Tryd.prog 31 #[.int .i64 (N + x1)] w1 fun e w' => e = .returned (.bool true) ∧ w' = w1 := may_eq _ true (decide_eq_true hI) w1
                clear hc hN hpM hx1 he1 hr hV0 hP' gI h0 h1
                go_wp2_with (first
                  | (go_at_call 20; with_reducible refine K1.mono ?_; rintro e w3 ⟨rfl, rfl⟩)
                  | (go_at_call 31; with_reducible refine K2.mono ?_; rintro e w4 ⟨rfl, rfl⟩))
                exact ⟨⟨k + 1, N + x1, hlt2, by go_num, rfl, hI, hV⟩, by simp [intOf]; omega⟩
              · rw [if_neg hI] at hV
                have K2 : Calls Tryd.prog 31 #[.int .i64 (N + x1)] w1 fun e w' => e = .returned (.bool false) ∧ w' = w1 := may_eq _ false (decide_eq_false hI) w1
                obtain ⟨rfl, rfl⟩ := Prod.mk.inj hV
                clear hc hN hpM hx1 he1 hr hV0 hP' gI h0 h1
                go_wp2_with (first
                  | (go_at_call 20; with_reducible refine K1.mono ?_; rintro e w3 ⟨rfl, rfl⟩)
                  | (go_at_call 31; with_reducible refine K2.mono ?_; rintro e w4 ⟨rfl, rfl⟩))
                all_goals go_ret2
                all_goals exact ⟨rfl, rfl⟩
            · rw [if_neg hE] at hV
              obtain ⟨rfl, rfl⟩ := Prod.mk.inj hV
              clear hc hN hpM hx1 he1 hr hV0 hP' gI h0 h1
              go_wp2_with (first
                | (go_at_call 20; with_reducible refine K1.mono ?_; rintro e w3 ⟨rfl, rfl⟩))
              all_goals go_ret2
              all_goals exact ⟨rfl, rfl⟩
          · have hk' : k = zs.length := by omega
            subst hk'
            rw [List.drop_length] at hV
            obtain ⟨rfl, rfl⟩ := Prod.mk.inj hV
            clear hc hN hV0 hP' gI h0 h1
            go_wp2
            all_goals go_ret2
            all_goals exact ⟨rfl, rfl⟩
      case inl =>
        have hV0 := hgood gI
        have hP' : wrap64 (a * m) = P := by rw [← hP]; exact wP gI
        clear hbad hgood wP hq hP
        subst g1
        go_wp2
        go_loop [9, 10] (fun n i => ∃ (k : Nat) (N : Int), k ≤ zs.length ∧ i = .int .i64 k ∧ n = .int .i64 N ∧ InM N ∧ priceL N (zs.drop k) = (V, E)) (fun n i => zs.length - (intOf i).toNat)
        case atStart => exact ⟨0, P, Nat.zero_le _, rfl, by first | rfl | (rw [hP']; done) | (have h5 := hP'; rw [Int.mul_zero, wrap_ok 0 (by decide) (by decide)] at h5; rw [← h5]), gI, hV0⟩
        case round =>
          obtain ⟨k, N, hk, rfl, rfl, hN, hV⟩ := hrel
          by_cases hlt2 : k < zs.length
          · have hcell : w1.cell? ⟨b, off + k, none⟩ = some (.int .i64 (zs[k])) := by rw [hc k hlt2]; simp [hlt2]
            rw [List.drop_eq_getElem_cons hlt2] at hV
            obtain ⟨r, hr⟩ : ∃ r, r = zs[k] := ⟨_, rfl⟩
            rw [← hr] at hcell hV
            have K1 := refPart_any N r w1
            have hpM : InM (partV N r) := partV_in N r
            have wN : wrap64 (N + partV N r) = N + partV N r := by
              obtain ⟨u1, u2⟩ := hN; obtain ⟨u3, u4⟩ := hpM; apply wrap_ok <;> omega
            obtain ⟨x1, hx1⟩ : ∃ x1, x1 = partV N r := ⟨_, rfl⟩
            obtain ⟨e1, he1⟩ : ∃ e1, e1 = partE N r := ⟨_, rfl⟩
            unfold priceL at hV
            rw [← hx1, ← he1] at hV
            rw [← hx1] at wN
            rw [← hx1, ← he1] at K1
            by_cases hE : e1 = 0
            · rw [if_pos hE] at hV
              subst hE
              by_cases hI : InM (N + x1)
              · rw [if_pos hI] at hV
                have K2 : Calls Tryd.prog 31 #[.int .i64 (N + x1)] w1 fun e w' => e = .returned (.bool true) ∧ w' = w1 := may_eq _ true (decide_eq_true hI) w1
                clear hc hN hpM hx1 he1 hr hV0 hP' gI h0 h1
                go_wp2_with (first
                  | (go_at_call 20; with_reducible refine K1.mono ?_; rintro e w3 ⟨rfl, rfl⟩)
                  | (go_at_call 31; with_reducible refine K2.mono ?_; rintro e w4 ⟨rfl, rfl⟩))
                exact ⟨⟨k + 1, N + x1, hlt2, by go_num, rfl, hI, hV⟩, by simp [intOf]; omega⟩
              · rw [if_neg hI] at hV
                have K2 : Calls Tryd.prog 31 #[.int .i64 (N + x1)] w1 fun e w' => e = .returned (.bool false) ∧ w' = w1 := may_eq _ false (decide_eq_false hI) w1
                obtain ⟨rfl, rfl⟩ := Prod.mk.inj hV
                clear hc hN hpM hx1 he1 hr hV0 hP' gI h0 h1
                go_wp2_with (first
                  | (go_at_call 20; with_reducible refine K1.mono ?_; rintro e w3 ⟨rfl, rfl⟩)
                  | (go_at_call 31; with_reducible refine K2.mono ?_; rintro e w4 ⟨rfl, rfl⟩))
                all_goals go_ret2
                all_goals exact ⟨rfl, rfl⟩
            · rw [if_neg hE] at hV
              obtain ⟨rfl, rfl⟩ := Prod.mk.inj hV
              clear hc hN hpM hx1 he1 hr hV0 hP' gI h0 h1
              go_wp2_with (first
                | (go_at_call 20; with_reducible refine K1.mono ?_; rintro e w3 ⟨rfl, rfl⟩))
              all_goals go_ret2
              all_goals exact ⟨rfl, rfl⟩
          · have hk' : k = zs.length := by omega
            subst hk'
            rw [List.drop_length] at hV
            obtain ⟨rfl, rfl⟩ := Prod.mk.inj hV
            clear hc hN hV0 hP' gI h0 h1
            go_wp2
            all_goals go_ret2
            all_goals exact ⟨rfl, rfl⟩
theorem refPrice_nil (a m q nq : Int) (p : Option Addr) (c : Nat) (w : World)
    (hA : InM a) (hR : InR m) (h0 : ¬ m < 0) (h1 : ¬ 1000000 < m)
    (hq : ¬ m = 0 → (1000000000000000 : Int).tdiv m = q) (hq1 : wrap64 q = q) (hq2 : wrap64 (-q) = nq)
    (hOK : (m = 0 ∧ InM (a * m)) ∨ (0 < m ∧ ¬ m = 0 ∧ q < a ∧ ¬ InM (a * m)) ∨ (0 < m ∧ ¬ m = 0 ∧ ¬ q < a ∧ a < nq ∧ ¬ InM (a * m)) ∨ (0 < m ∧ ¬ m = 0 ∧ ¬ q < a ∧ ¬ a < nq ∧ InM (a * m)))
    (K : Calls Tryd.prog 31 #[.int .i64 a] w fun e w' => e = .returned (.bool true) ∧ w' = w) (V E : Int) (hVE : priceR a m [] = (V, E)) :
    Calls Tryd.prog 22 #[.int .i64 a, .int .i64 m, .slice p 0 c] w fun e' w' => e' = .returned (.tuple #[.int .i64 V, .int .i64 E]) ∧ w' = w := by
  have hbad : ¬ InM (a * m) → V = 0 ∧ E = 1 := fun hI => by
    have e1 : priceR a m [] = (0, 1) := by unfold priceR; rw [if_pos hA, if_neg (fun h => hI h.2.2)]
    exact Prod.mk.inj (hVE.symm.trans e1)
  have hgood : InM (a * m) → V = a * m ∧ E = 0 := fun hI => by
    have e1 : priceR a m [] = (a * m, 0) := by unfold priceR; rw [if_pos hA, if_pos ⟨rfl, hR, hI⟩]; rfl
    exact Prod.mk.inj (hVE.symm.trans e1)
  have wP : InM (a * m) → wrap64 (a * m) = a * m := fun h => by unfold InM at h; apply wrap_ok <;> omega
  clear hVE hA hR
  rcases hOK with ⟨rfl, gI⟩ | ⟨g1, g2, g3, gI⟩ | ⟨g1, g2, g3, g4, gI⟩ | ⟨g1, g2, g3, g4, gI⟩
  case inl =>
    obtain ⟨h5, h6⟩ := hgood gI
    rw [Int.mul_zero] at h5
    subst h5 h6
    clear hbad hgood wP gI
    go_enter Tryd.func22, Tryd.ntmps22
    go_wp2_with (first
      | (go_at_call 31; with_reducible refine K.mono ?_; rintro e w1 ⟨rfl, rfl⟩)
      | (refine wp_loop_rounds 1 ?_; rw [rounds_succ]))
    all_goals go_ret2
    all_goals exact ⟨by first | rfl | (simp; done), rfl⟩
  case inr.inl =>
    obtain ⟨rfl, rfl⟩ := hbad gI
    have hq' := hq g2
    clear hbad hgood wP gI hq
    go_enter Tryd.func22, Tryd.ntmps22
    go_wp2_with (first
      | (go_at_call 31; with_reducible refine K.mono ?_; rintro e w1 ⟨rfl, rfl⟩)
      | (refine wp_loop_rounds 1 ?_; rw [rounds_succ]))
    all_goals go_ret2
    all_goals exact ⟨rfl, rfl⟩
  case inr.inr.inl =>
    obtain ⟨rfl, rfl⟩ := hbad gI
    have hq' := hq g2
    clear hbad hgood wP gI hq
    go_enter Tryd.func22, Tryd.ntmps22
    go_wp2_with (first
      | (go_at_call 31; with_reducible refine K.mono ?_; rintro e w1 ⟨rfl, rfl⟩)
      | (refine wp_loop_rounds 1 ?_; rw [rounds_succ]))
    all_goals go_ret2
    all_goals exact ⟨rfl, rfl⟩
  case inr.inr.inr =>
    obtain ⟨h5, rfl⟩ := hgood gI
    have hq' := hq g2
    have wP' : wrap64 (a * m) = V := by rw [h5]; exact wP gI
    clear hbad hgood wP gI hq h5
    go_enter Tryd.func22, Tryd.ntmps22
    go_wp2_with (first
      | (go_at_call 31; with_reducible refine K.mono ?_; rintro e w1 ⟨rfl, rfl⟩)
      | (refine wp_loop_rounds 1 ?_; rw [rounds_succ]))
    all_goals go_ret2
    all_goals exact ⟨by first | rfl | (rw [← wP']; rfl), rfl⟩
theorem refPrice_any {zs : List Int} {v : Value} {w : World} (a m : Int) (h : Sl zs v w) (hlen : zs.length ≤ 5000) :
    Calls Tryd.prog 22 #[.int .i64 a, .int .i64 m, v] w fun e' w' => e' = .returned (.tuple #[.int .i64 (priceR a m zs).1, .int .i64 (priceR a m zs).2]) ∧ w' = w := by
  by_cases hA : InM a
  · have K := may_eq a true (decide_eq_true hA) w
    by_cases hR : InR m
    · obtain ⟨r1, r2⟩ := hR
      have hq : ¬ m = 0 → (1000000000000000 : Int).tdiv m = 1000000000000000 / m := fun _ => Int.tdiv_eq_ediv_of_nonneg (by decide)
      have hb : 0 ≤ 1000000000000000 / m ∧ 1000000000000000 / m ≤ 1000000000000000 := ⟨Int.ediv_nonneg (by decide) r1, Int.ediv_le_self _ (by decide)⟩
      have hOK : (m = 0 ∧ InM (a * m)) ∨ (0 < m ∧ ¬ m = 0 ∧ 1000000000000000 / m < a ∧ ¬ InM (a * m)) ∨ (0 < m ∧ ¬ m = 0 ∧ ¬ 1000000000000000 / m < a ∧ a < -(1000000000000000 / m) ∧ ¬ InM (a * m)) ∨ (0 < m ∧ ¬ m = 0 ∧ ¬ 1000000000000000 / m < a ∧ ¬ a < -(1000000000000000 / m) ∧ InM (a * m)) := by
        by_cases h0 : m = 0
        · exact .inl ⟨h0, by rw [h0, Int.mul_zero]; decide⟩
        · have hm : 0 < m := by omega
          have k1 : a ≤ 1000000000000000 / m ↔ a * m ≤ 1000000000000000 := Int.le_ediv_iff_mul_le hm
          have k2 : -a ≤ 1000000000000000 / m ↔ -a * m ≤ 1000000000000000 := Int.le_ediv_iff_mul_le hm
          rw [Int.neg_mul] at k2
          unfold InM
          by_cases h1 : 1000000000000000 / m < a
          · exact .inr (.inl ⟨hm, h0, h1, by omega⟩)
          · by_cases h2 : a < -(1000000000000000 / m)
            · exact .inr (.inr (.inl ⟨hm, h0, h1, h2, by omega⟩))
            · exact .inr (.inr (.inr ⟨hm, h0, h1, h2, by omega⟩))
      rcases h with ⟨b, off, cap, rfl, hc⟩ | ⟨rfl, p, c, rfl, _⟩
      · exact refPrice_walk a m _ _ b off cap zs w hlen hc hA ⟨r1, r2⟩ (by omega) (by omega) hq (wrap_ok _ (by omega) (by omega)) (wrap_ok _ (by omega) (by omega)) hOK K _ _ rfl
      · exact refPrice_nil a m _ _ p c w hA ⟨r1, r2⟩ (by omega) (by omega) hq (wrap_ok _ (by omega) (by omega)) (wrap_ok _ (by omega) (by omega)) hOK K _ _ rfl
    · have e0 : priceR a m zs = (0, 1) := by unfold priceR; rw [if_pos hA, if_neg (fun hh => hR hh.2.1)]
      rw [e0]
      exact refPrice_bad2 a m v w (by unfold InR at hR; omega) K
  · have e0 : priceR a m zs = (0, 220) := by unfold priceR; rw [if_neg hA]
    rw [e0]
    exact refPrice_bad1 a m v w (may_eq a false (decide_eq_false hA) w)
end Go.Proofs.YtpbgaoodokapeaaDoor
