import Derived.Test.YtpbgaoodokapeaaDoorRA
open Go Go.RowKit
namespace Go.Proofs.YtpbgaoodokapeaaDoor
set_option linter.unusedVariables false
set_option linter.unusedSimpArgs false
theorem td_most (x : Int) : ∃ q r, x.tdiv 1000000000000000 = q ∧ x.tmod 1000000000000000 = r ∧ q * 1000000000000000 + r = x ∧ -1000000000000000 < r ∧ r < 1000000000000000 := by
  refine ⟨_, _, rfl, rfl, ?_⟩
  by_cases h : 0 ≤ x
  · rw [Int.tdiv_eq_ediv_of_nonneg h, Int.tmod_eq_emod_of_nonneg h]; omega
  · obtain ⟨y, rfl⟩ : ∃ y, x = -y := ⟨-x, by omega⟩
    rw [Int.neg_tdiv, Int.neg_tmod, Int.tdiv_eq_ediv_of_nonneg (by omega), Int.tmod_eq_emod_of_nonneg (by omega)]; omega
set_option maxRecDepth 4000 in
set_option maxHeartbeats 1000000 in
theorem refSum_walk (b off cap : Nat) (zs : List Int) (w : World) (hlen : zs.length ≤ 5000) (hc : ∀ i, i < zs.length → w.cell? ⟨b, off + i, none⟩ = some (.int .i64 (zs.getD i 0))) :
    Calls Tryd.prog 19 #[.slice (some ⟨b, off, none⟩) zs.length cap] w fun e' w' => e' = .returned (.tuple #[.int .i64 (sumV zs), .int .i64 (sumE zs)]) ∧ w' = w := by
  obtain ⟨V, hV⟩ : ∃ V, V = sumV zs := ⟨_, rfl⟩
  obtain ⟨E, hE⟩ : ∃ E, E = sumE zs := ⟨_, rfl⟩
  rw [← hV, ← hE]
  go_enter Tryd.func19, Tryd.ntmps19
  go_wp2
  go_loop [4] (fun i => ∃ k : Nat, k ≤ zs.length ∧ i = .int .i64 k ∧ (zs.take k).all (fun z => decide (InM z)) = true) (fun i => zs.length - (intOf i).toNat)
  case atStart => exact ⟨0, Nat.zero_le _, rfl, rfl⟩
  case round =>
    obtain ⟨k, hk, rfl, hall⟩ := hrel
    by_cases hlt : k < zs.length
    · have hcell : w.cell? ⟨b, off + k, none⟩ = some (.int .i64 (zs[k])) := by rw [hc k hlt]; simp [hlt]
      by_cases hI : InM zs[k]
      · have K := may_eq zs[k] true (decide_eq_true hI) w
        have hn : (zs.take (k + 1)).all (fun z => decide (InM z)) = true := by
          rw [List.take_succ_eq_append_getElem hlt, List.all_append, hall]; simp [hI]
        clear hc hV hE
        go_wp2_with (go_at_call 31; with_reducible refine K.mono ?_; rintro e w1 ⟨rfl, rfl⟩)
        exact ⟨⟨k + 1, hlt, by go_num, hn⟩, by simp [intOf]; omega⟩
      · have K := may_eq zs[k] false (decide_eq_false hI) w
        have hna : ¬ zs.all (fun z => decide (InM z)) = true := fun h => hI (of_decide_eq_true (List.all_eq_true.1 h _ (List.getElem_mem hlt)))
        have e1 : sumV zs = 0 := if_neg (fun h => hna h.1)
        have e2 : sumE zs = 220 := if_neg hna
        rw [e1] at hV
        rw [e2] at hE
        subst hV hE
        clear hc
        go_wp2_with (go_at_call 31; with_reducible refine K.mono ?_; rintro e w1 ⟨rfl, rfl⟩)
        all_goals go_ret2
        all_goals exact ⟨rfl, rfl⟩
    · have hk' : k = zs.length := by omega
      subst hk'
      rw [List.take_length] at hall
      have hM : ∀ z ∈ zs, InM z := fun z hz => of_decide_eq_true (List.all_eq_true.1 hall z hz)
      go_wp2
      go_loop [5, 6, 7] (fun hi lo i => ∃ (k : Nat) (H L : Int), k ≤ zs.length ∧ i = .int .i64 k ∧ hi = .int .i64 H ∧ lo = .int .i64 L ∧ H * 1000000000000000 + L = sumI (zs.take k) ∧ -1000000000000000 < L ∧ L < 1000000000000000) (fun _ _ i => zs.length - (intOf i).toNat)
      case atStart => exact ⟨0, 0, 0, Nat.zero_le _, rfl, rfl, rfl, rfl, by decide, by decide⟩
      case round =>
        obtain ⟨k, H, L, hk, rfl, rfl, rfl, hS, hL1, hL2⟩ := hrel
        have hb := sumI_bound (zs.take k) (all_take hM)
        have hlk : ((zs.take k).length : Int) ≤ 5000 := by rw [List.length_take]; omega
        by_cases hlt2 : k < zs.length
        · have hcell : w.cell? ⟨b, off + k, none⟩ = some (.int .i64 (zs[k])) := by rw [hc k hlt2]; simp [hlt2]
          have hS2 := sumI_succ hlt2
          obtain ⟨z, hz⟩ : ∃ z, z = zs[k] := ⟨_, rfl⟩
          have hzM : InM z := by rw [hz]; exact hM _ (List.getElem_mem hlt2)
          rw [← hz] at hcell hS2
          obtain ⟨z1, z2⟩ := hzM
          obtain ⟨q, r, hq, hr, hqr, hr1, hr2⟩ := td_most (L + z)
          have w1 : wrap64 (L + z) = L + z := wrap_ok _ (by omega) (by omega)
          have w2 : wrap64 q = q := wrap_ok _ (by omega) (by omega)
          have w3 : wrap64 (H + q) = H + q := wrap_ok _ (by omega) (by omega)
          have w4 : wrap64 r = r := wrap_ok _ (by omega) (by omega)
          have hn : (H + q) * 1000000000000000 + r = sumI (zs.take (k + 1)) := by omega
          clear hc hV hE hb hlk hS hL1 hL2 hS2 hqr z1 z2 hz
          go_wp2
          exact ⟨⟨k + 1, _, _, hlt2, by go_num, rfl, rfl, by first | exact hn | (rw [w3]; exact hn), hr1, hr2⟩, by simp [intOf]; omega⟩
        · have hk' : k = zs.length := by omega
          subst hk'
          rw [List.take_length] at hS hb
          have eV : sumV zs = if InM (sumI zs) then sumI zs else 0 := by unfold sumV; by_cases h : InM (sumI zs) <;> simp [h, hall]
          have eE : sumE zs = if InM (sumI zs) then 0 else 1 := by unfold sumE; rw [if_pos hall]
          rw [eV, ← hS] at hV
          rw [eE, ← hS] at hE
          by_cases h1 : 1 < H
          · have hI : ¬ InM (H * 1000000000000000 + L) := by unfold InM; omega
            rw [if_neg hI] at hV hE
            clear hc hb hS hL1 hL2 hlk hI eV eE
            go_wp2
            all_goals go_ret2
            all_goals exact ⟨by first | rfl | (rw [hV, hE]; rfl), rfl⟩
          · by_cases h2 : H < -1
            · have hI : ¬ InM (H * 1000000000000000 + L) := by unfold InM; omega
              rw [if_neg hI] at hV hE
              clear hc hb hS hL1 hL2 hlk hI eV eE
              go_wp2
              all_goals go_ret2
              all_goals exact ⟨by first | rfl | (rw [hV, hE]; rfl), rfl⟩
            · have w1 : wrap64 (H * 1000000000000000) = H * 1000000000000000 := wrap_ok _ (by omega) (by omega)
              obtain ⟨S, hSS⟩ : ∃ S, S = H * 1000000000000000 + L := ⟨_, rfl⟩
              have w2 : wrap64 (H * 1000000000000000 + L) = S := by rw [hSS]; exact wrap_ok _ (by omega) (by omega)
              rw [← hSS] at hV hE
              by_cases hI : InM S
              · rw [if_pos hI] at hV hE
                have K := may_eq S true (decide_eq_true hI) w
                clear hc hb hS hL1 hL2 hlk hI eV eE hSS
                go_wp2_with (go_at_call 31; with_reducible refine K.mono ?_; rintro e w1 ⟨rfl, rfl⟩)
                all_goals go_ret2
                all_goals exact ⟨by first | rfl | (rw [hV, hE]; rfl) | (rw [hV, hE, ← w2]; rfl) | (rw [← w2]; rfl), rfl⟩
              · rw [if_neg hI] at hV hE
                have K := may_eq S false (decide_eq_false hI) w
                clear hc hb hS hL1 hL2 hlk hI eV eE hSS
                go_wp2_with (go_at_call 31; with_reducible refine K.mono ?_; rintro e w1 ⟨rfl, rfl⟩)
                all_goals go_ret2
                all_goals exact ⟨by first | rfl | (rw [hV, hE]; rfl), rfl⟩
theorem refSum_nil (p : Option Addr) (c : Nat) (w : World) : Calls Tryd.prog 19 #[.slice p 0 c] w fun e' w' => e' = .returned (.tuple #[.int .i64 0, .int .i64 0]) ∧ w' = w := by
  have K := may_eq 0 true (by decide) w
  go_enter Tryd.func19, Tryd.ntmps19
  go_wp2_with (first
    | (refine wp_loop_rounds 1 ?_; rw [rounds_succ])
    | (go_at_call 31; with_reducible refine K.mono ?_; rintro e w1 ⟨rfl, rfl⟩))
  all_goals go_ret2
  all_goals exact ⟨rfl, rfl⟩
theorem refSum_any {zs : List Int} {v : Value} {w : World} (h : Sl zs v w) (hlen : zs.length ≤ 5000) : Calls Tryd.prog 19 #[v] w fun e' w' => e' = .returned (.tuple #[.int .i64 (sumV zs), .int .i64 (sumE zs)]) ∧ w' = w := by
  rcases h with ⟨b, off, cap, rfl, hc⟩ | ⟨rfl, p, c, rfl, _⟩
  · exact refSum_walk b off cap zs w hlen hc
  · exact refSum_nil p c w
end Go.Proofs.YtpbgaoodokapeaaDoor
