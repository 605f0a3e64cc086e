import Derived.Test.YtpbgaoodokapeaaDoorQB
open Go Go.RowKit
namespace Go.Proofs.YtpbgaoodokapeaaDoor
set_option linter.unusedVariables false
set_option linter.unusedSimpArgs false
def sumI : List Int → Int
  | [] => 0
  | z :: l => z + sumI l
theorem sumI_append : ∀ (l m : List Int), sumI (l ++ m) = sumI l + sumI m := by
  intro l
  induction l with
  | nil => intro m; simp [sumI]
  | cons a l ih => intro m; simp [sumI, ih]; omega
theorem sumI_succ {zs : List Int} {k : Nat} (h : k < zs.length) : sumI (zs.take (k + 1)) = sumI (zs.take k) + zs[k] := by
  rw [List.take_succ_eq_append_getElem h, sumI_append]; simp [sumI]
theorem sumI_bound : ∀ (l : List Int), (∀ z ∈ l, InM z) → -(1000000000000000 * (l.length : Int)) ≤ sumI l ∧ sumI l ≤ 1000000000000000 * (l.length : Int) := by
  intro l
  induction l with
  | nil => intro _; simp [sumI]
  | cons a l ih =>
    intro h
    have h1 := h a (List.mem_cons_self ..)
    have h2 := ih (fun z hz => h z (List.mem_cons_of_mem _ hz))
    unfold InM at h1
    simp only [sumI, List.length_cons]
    omega
theorem sum_round (S z : Int) (n : Int) (hn : n ≤ 140737488355328) (hS : -(1000000000000000 * n) ≤ S) (hS' : S ≤ 1000000000000000 * n) (hz : InM z) :
    (S % 18446744073709551616 + z % 18446744073709551616) % 18446744073709551616 = (S + z) % 18446744073709551616 ∧
    S / 18446744073709551616 + ((S % 18446744073709551616 + z % 18446744073709551616) / 18446744073709551616 + z / 9223372036854775808) = (S + z) / 18446744073709551616 := by
  obtain ⟨h1, h2⟩ := hz
  constructor
  · omega
  · rcases Int.lt_or_le z 0 with h | h
    · have : z / 9223372036854775808 = -1 := by omega
      have : z % 18446744073709551616 = z + 18446744073709551616 := by omega
      omega
    · have : z / 9223372036854775808 = 0 := by omega
      have : z % 18446744073709551616 = z := by omega
      omega
def sumV (zs : List Int) : Int := if zs.all (fun z => decide (InM z)) = true ∧ InM (sumI zs) then sumI zs else 0
def sumE (zs : List Int) : Int := if zs.all (fun z => decide (InM z)) = true then (if InM (sumI zs) then 0 else 1) else 220
theorem all_take {zs : List Int} {k : Nat} (h : ∀ z ∈ zs, InM z) : ∀ z ∈ zs.take k, InM z := fun z hz => h z (List.mem_of_mem_take hz)
theorem sum_end1 (S : Int) (h : ¬ S / 18446744073709551616 = wrap64 (S % 18446744073709551616) / 9223372036854775808) : ¬ InM S := by
  unfold InM; unfold wrap64 at h; omega
theorem sum_end2 (S : Int) (h : S / 18446744073709551616 = wrap64 (S % 18446744073709551616) / 9223372036854775808) : wrap64 (S % 18446744073709551616) = S := by
  unfold wrap64 at h ⊢; omega
set_option maxHeartbeats 1000000 in
theorem sum_good (b off cap : Nat) (zs : List Int) (w : World) (hlen : zs.length ≤ 140737488355328) (hM : ∀ z ∈ zs, InM z) (hc : ∀ i, i < zs.length → w.cell? ⟨b, off + i, none⟩ = some (.int .i64 (zs.getD i 0)))
    (x e : Int) (h1 : InM (sumI zs) → x = sumI zs ∧ e = 0) (h2 : ¬ InM (sumI zs) → x = 0 ∧ e = 1)
    (KA : Calls Tryd.prog 28 #[.func (.func 27) #[] #[], .slice (some ⟨b, off, none⟩) zs.length cap] w fun e w' => e = .returned (.bool true) ∧ w' = w) :
    Calls Tryd.prog 18 #[.slice (some ⟨b, off, none⟩) zs.length cap] w fun e' w' => e' = .returned (.tuple #[.int .i64 x, .int .i64 e]) ∧ w' = w := by
  go_enter Tryd.func18, Tryd.ntmps18
  go_wp2_with (go_at_call 28; with_reducible refine KA.mono ?_; rintro e w1 ⟨rfl, rfl⟩)
  go_loop [4, 5, 15] (fun hi lo i => ∃ k : Nat, k ≤ zs.length ∧ i = .int .i64 k ∧ hi = .int .i64 (sumI (zs.take k) / 18446744073709551616) ∧ lo = .int .u64 (sumI (zs.take k) % 18446744073709551616)) (fun _ _ i => zs.length - (intOf i).toNat)
  case atStart => exact ⟨0, Nat.zero_le _, rfl, rfl, rfl⟩
  case round =>
    obtain ⟨k, hk, rfl, rfl, rfl⟩ := hrel
    obtain ⟨S, hS⟩ : ∃ S, S = sumI (zs.take k) := ⟨_, rfl⟩
    obtain ⟨hi, hhi⟩ : ∃ hi, hi = S / 18446744073709551616 := ⟨_, rfl⟩
    obtain ⟨lo, hlo⟩ : ∃ lo, lo = S % 18446744073709551616 := ⟨_, rfl⟩
    rw [← hS, ← hhi, ← hlo]
    by_cases hlt : k < zs.length
    · have hcell : w1.cell? ⟨b, off + k, none⟩ = some (.int .i64 (zs[k])) := by rw [hc k hlt]; simp [hlt]
      obtain ⟨z, hz⟩ : ∃ z, z = zs[k] := ⟨_, rfl⟩
      rw [← hz] at hcell
      obtain ⟨u, hu⟩ : ∃ u, u = z % 18446744073709551616 := ⟨_, rfl⟩
      have wu : IntKind.u64.wrap z = u := by rw [hu, IntKind.wrap_u64]
      obtain ⟨c, hcc⟩ : ∃ c, c = (lo + u) / 18446744073709551616 := ⟨_, rfl⟩
      obtain ⟨lo2, hlo2⟩ : ∃ lo2, lo2 = (lo + u) % 18446744073709551616 := ⟨_, rfl⟩
      have hadd := fun w => add64_0 lo u (by omega) (by omega) w
      rw [← hcc, ← hlo2] at hadd
      have wc : wrap64 c = c := by apply wrap_ok <;> omega
      have hzM : InM z := by rw [hz]; exact hM _ (List.getElem_mem hlt)
      have hb := sumI_bound (zs.take k) (all_take hM)
      have hlk : ((zs.take k).length : Int) ≤ 140737488355328 := by rw [List.length_take]; omega
      rw [← hS] at hb
      obtain ⟨r1, r2⟩ := sum_round S z _ hlk hb.1 hb.2 hzM
      rw [← hlo, ← hu, ← hlo2] at r1
      rw [← hlo, ← hu, ← hhi, ← hcc] at r2
      have r3 : wrap64 (hi + wrap64 (c + z / 9223372036854775808)) = (S + z) / 18446744073709551616 := by
        rw [← r2]
        obtain ⟨m1, m2⟩ := hzM
        have : wrap64 (c + z / 9223372036854775808) = c + z / 9223372036854775808 := by apply wrap_ok <;> omega
        rw [this]
        apply wrap_ok <;> omega
      have hS2 : sumI (zs.take (k + 1)) = S + z := by rw [sumI_succ hlt, hS, hz]
      clear hc hS hb hlk hzM r2 hlo2 hcc hu hz hlo hhi
      go_wp2
      refine ⟨⟨k + 1, hlt, by go_num, ?_, ?_⟩, by simp [intOf]; omega⟩
      · rw [r3, hS2]
      · rw [hS2]
    · have hk' : k = zs.length := by omega
      subst hk'
      rw [List.take_length] at hS
      rw [← hS] at h1 h2
      obtain ⟨n, hn⟩ : ∃ n, n = wrap64 lo := ⟨_, rfl⟩
      have wn : wrap64 lo = n := hn.symm
      by_cases hq : hi = n / 9223372036854775808
      · have hn' : n = S := by rw [hn, hlo]; exact sum_end2 S (by rw [← hlo, ← hn, ← hhi]; exact hq)
        rw [hn'] at wn hq
        by_cases hI : InM S
        · obtain ⟨hx, he⟩ := h1 hI
          have K27 : Calls Tryd.prog 27 #[.int .i64 S] w1 fun e w' => e = .returned (.bool true) ∧ w' = w1 := is_eq S true (decide_eq_true hI) w1
          clear hc hS hlo hhi h1 h2 hn hI hn'
          go_wp2_with (go_at_call 27; with_reducible refine K27.mono ?_; rintro e w2 ⟨rfl, rfl⟩)
          all_goals go_ret2
          all_goals exact ⟨by first | (rw [hx, he]; rfl) | (rw [hx, he, ← wn]; rfl), rfl⟩
        · obtain ⟨hx, he⟩ := h2 hI
          have K27 : Calls Tryd.prog 27 #[.int .i64 S] w1 fun e w' => e = .returned (.bool false) ∧ w' = w1 := is_eq S false (decide_eq_false hI) w1
          clear hc hS hlo hhi h1 h2 hn hI hn'
          go_wp2_with (go_at_call 27; with_reducible refine K27.mono ?_; rintro e w2 ⟨rfl, rfl⟩)
          all_goals go_ret2
          all_goals exact ⟨by first | (rw [hx, he]; rfl) | (rw [hx, he, ← wn]; rfl), rfl⟩
      · have hI : ¬ InM S := sum_end1 S (by rw [← hlo, ← hn, ← hhi]; exact hq)
        obtain ⟨rfl, rfl⟩ := h2 hI
        clear hc hS hlo hhi h1 h2 hn hI
        go_wp2
        all_goals go_ret2
        all_goals exact ⟨rfl, rfl⟩
theorem sum_bad (v : Value) (w : World) 
    (KA : Calls Tryd.prog 28 #[.func (.func 27) #[] #[], v] w fun e w' => e = .returned (.bool false) ∧ w' = w) :
    Calls Tryd.prog 18 #[v] w fun e' w' => e' = .returned (.tuple #[.int .i64 0, .int .i64 220]) ∧ w' = w := by
  go_enter Tryd.func18, Tryd.ntmps18
  go_wp2_with (go_at_call 28; with_reducible refine KA.mono ?_; rintro e w1 ⟨rfl, rfl⟩)
  all_goals go_ret2
  all_goals exact ⟨rfl, rfl⟩
theorem all_is_nil (p : Option Addr) (c : Nat) (w : World) : Calls Tryd.prog 28 #[.func (.func 27) #[] #[], .slice p 0 c] w fun e w' => e = .returned (.bool true) ∧ w' = w := by
  go_enter Tryd.func28, Tryd.ntmps28
  go_wp2
  refine wp_loop_rounds 1 ?_
  rw [rounds_succ]
  go_wp2
  all_goals go_ret
  all_goals exact ⟨rfl, rfl⟩
theorem all_rate_nil (p : Option Addr) (c : Nat) (w : World) : Calls Tryd.prog 28 #[.func (.func 29) #[] #[], .slice p 0 c] w fun e w' => e = .returned (.bool true) ∧ w' = w := by
  go_enter Tryd.func28, Tryd.ntmps28
  go_wp2
  refine wp_loop_rounds 1 ?_
  rw [rounds_succ]
  go_wp2
  all_goals go_ret
  all_goals exact ⟨rfl, rfl⟩
theorem sum_nil (p : Option Addr) (c : Nat) (w : World) : Calls Tryd.prog 18 #[.slice p 0 c] w fun e' w' => e' = .returned (.tuple #[.int .i64 0, .int .i64 0]) ∧ w' = w := by
  have KA := all_is_nil p c w
  have K27 : Calls Tryd.prog 27 #[.int .i64 0] w fun e w' => e = .returned (.bool true) ∧ w' = w := is_eq 0 true (by decide) w
  go_enter Tryd.func18, Tryd.ntmps18
  go_wp2_with (first
    | (go_at_call 28; with_reducible refine KA.mono ?_; rintro e w1 ⟨rfl, rfl⟩)
    | (refine wp_loop_rounds 1 ?_; rw [rounds_succ])
    | (go_at_call 27; with_reducible refine K27.mono ?_; rintro e w1 ⟨rfl, rfl⟩))
  all_goals go_ret2
  all_goals exact ⟨rfl, rfl⟩
/-- A slice value of numbers. -/
def Sl (zs : List Int) (v : Value) (w : World) : Prop :=
  (∃ b off cap, v = .slice (some ⟨b, off, none⟩) zs.length cap ∧ ∀ i, i < zs.length → w.cell? ⟨b, off + i, none⟩ = some (.int .i64 (zs.getD i 0))) ∨ (zs = [] ∧ ∃ p c, v = .slice p 0 c ∧ (p = none → c = 0))
theorem all_is_any {zs : List Int} {v : Value} {w : World} (h : Sl zs v w) (hlen : zs.length ≤ 140737488355328) : Calls Tryd.prog 28 #[.func (.func 27) #[] #[], v] w fun e w' => e = .returned (.bool (zs.all (fun z => decide (InM z)))) ∧ w' = w := by
  rcases h with ⟨b, off, cap, rfl, hc⟩ | ⟨rfl, p, c, rfl, _⟩
  · exact all_is b off cap zs w (by omega) hc
  · exact all_is_nil p c w
theorem all_rate_any {zs : List Int} {v : Value} {w : World} (h : Sl zs v w) (hlen : zs.length ≤ 140737488355328) : Calls Tryd.prog 28 #[.func (.func 29) #[] #[], v] w fun e w' => e = .returned (.bool (zs.all (fun z => decide (InR z)))) ∧ w' = w := by
  rcases h with ⟨b, off, cap, rfl, hc⟩ | ⟨rfl, p, c, rfl, _⟩
  · exact all_rate b off cap zs w (by omega) hc
  · exact all_rate_nil p c w
theorem sum_any {zs : List Int} {v : Value} {w : World} (h : Sl zs v w) (hlen : zs.length ≤ 140737488355328) : Calls Tryd.prog 18 #[v] w fun e' w' => e' = .returned (.tuple #[.int .i64 (sumV zs), .int .i64 (sumE zs)]) ∧ w' = w := by
  have KA := all_is_any h hlen
  by_cases hA : zs.all (fun z => decide (InM z)) = true
  · rw [hA] at KA
    have hM : ∀ z ∈ zs, InM z := fun z hz => of_decide_eq_true (List.all_eq_true.1 hA z hz)
    rcases h with ⟨b, off, cap, rfl, hc⟩ | ⟨rfl, p, c, rfl, _⟩
    · exact sum_good b off cap zs w hlen hM hc _ _ (fun hI => ⟨if_pos ⟨hA, hI⟩, by unfold sumE; rw [if_pos hA, if_pos hI]⟩) (fun hI => ⟨if_neg (fun h => hI h.2), by unfold sumE; rw [if_pos hA, if_neg hI]⟩) KA
    · exact sum_nil p c w
  · rw [Bool.eq_false_iff.2 hA] at KA
    have e1 : sumV zs = 0 := if_neg (fun h => hA h.1)
    have e2 : sumE zs = 220 := if_neg hA
    rw [e1, e2]
    exact sum_bad v w KA
end Go.Proofs.YtpbgaoodokapeaaDoor
