import Derived.Test.YtpbgaoodokapeaaDoorQC
open Go Go.RowKit
namespace Go.Proofs.YtpbgaoodokapeaaDoor
set_option linter.unusedVariables false
set_option linter.unusedSimpArgs false
/-- What the loop of Price comes to. -/
def priceL : Int → List Int → Int × Int
  | n, [] => (n, 0)
  | n, r :: l => if partE n r = 0 then (if InM (n + partV n r) then priceL (n + partV n r) l else (0, 1)) else (0, partE n r)
def priceR (a m : Int) (zs : List Int) : Int × Int :=
  if InM a then (if zs.all (fun z => decide (InR z)) = true ∧ InR m ∧ InM (a * m) then priceL (a * m) zs else (0, 1)) else (0, 220)
theorem cell_lt {w : World} {p : Addr} {v : Value} (h : w.cell? p = some v) : p.block < w.heap.size := by
  by_cases hlt : p.block < w.heap.size
  · exact hlt
  · have : w.heap[p.block]? = none := Array.getElem?_eq_none (by omega)
    simp [World.cell?, this] at h
theorem partV_in (a r : Int) : InM (partV a r) := by
  unfold partV
  split
  · rename_i h; exact h.2.2
  · decide
theorem price_bad1 (a m : Int) (v : Value) (w : World)
    (K27 : Calls Tryd.prog 27 #[.int .i64 a] w fun e w' => e = .returned (.bool false) ∧ w' = w) :
    Calls Tryd.prog 21 #[.int .i64 a, .int .i64 m, v] w fun e' w' => e' = .returned (.tuple #[.int .i64 0, .int .i64 220]) ∧ w' = w := by
  go_enter Tryd.func21, Tryd.ntmps21
  go_wp2_with (go_at_call 27; with_reducible refine K27.mono ?_; rintro e w1 ⟨rfl, rfl⟩)
  all_goals go_ret2
  all_goals exact ⟨rfl, rfl⟩
theorem price_bad2 (a m : Int) (v : Value) (w : World)
    (K27 : Calls Tryd.prog 27 #[.int .i64 a] w fun e w' => e = .returned (.bool true) ∧ w' = w)
    (KA : Calls Tryd.prog 28 #[.func (.func 29) #[] #[], v] w fun e w' => e = .returned (.bool false) ∧ w' = w) :
    Calls Tryd.prog 21 #[.int .i64 a, .int .i64 m, v] w fun e' w' => e' = .returned (.tuple #[.int .i64 0, .int .i64 1]) ∧ w' = w := by
  go_enter Tryd.func21, Tryd.ntmps21
  go_wp2_with (first
    | (go_at_call 27; with_reducible refine K27.mono ?_; rintro e w1 ⟨rfl, rfl⟩)
    | (go_at_call 28; with_reducible refine KA.mono ?_; rintro e w1 ⟨rfl, rfl⟩))
  all_goals go_ret2
  all_goals exact ⟨rfl, rfl⟩
theorem price_bad3 (a m : Int) (v : Value) (w : World)
    (K27 : Calls Tryd.prog 27 #[.int .i64 a] w fun e w' => e = .returned (.bool true) ∧ w' = w)
    (KA : Calls Tryd.prog 28 #[.func (.func 29) #[] #[], v] w fun e w' => e = .returned (.bool true) ∧ w' = w)
    (KR : Calls Tryd.prog 29 #[.int .i64 m] w fun e w' => e = .returned (.bool false) ∧ w' = w) :
    Calls Tryd.prog 21 #[.int .i64 a, .int .i64 m, v] w fun e' w' => e' = .returned (.tuple #[.int .i64 0, .int .i64 1]) ∧ w' = w := by
  go_enter Tryd.func21, Tryd.ntmps21
  go_wp2_with (first
    | (go_at_call 27; with_reducible refine K27.mono ?_; rintro e w1 ⟨rfl, rfl⟩)
    | (go_at_call 28; with_reducible refine KA.mono ?_; rintro e w1 ⟨rfl, rfl⟩)
    | (go_at_call 29; with_reducible refine KR.mono ?_; rintro e w1 ⟨rfl, rfl⟩))
  all_goals go_ret2
  all_goals exact ⟨rfl, rfl⟩
theorem price_bad4n (a x m : Int) (v : Value) (w : World) (hx : wrap64 (-a) = x) (hlt : a < x) (wx : IntKind.u64.wrap x = x) (wm : IntKind.u64.wrap m = m)
    (K27 : Calls Tryd.prog 27 #[.int .i64 a] w fun e w' => e = .returned (.bool true) ∧ w' = w)
    (KA : Calls Tryd.prog 28 #[.func (.func 29) #[] #[], v] w fun e w' => e = .returned (.bool true) ∧ w' = w)
    (KR : Calls Tryd.prog 29 #[.int .i64 m] w fun e w' => e = .returned (.bool true) ∧ w' = w)
    (hi lo : Int) (KM : Calls Tryd.prog 35 #[.int .u64 x, .int .u64 m] w fun e w' => e = .returned (.tuple #[.int .u64 hi, .int .u64 lo]) ∧ Below w.heap.size w w')
    (h1 : 0 < hi) :
    Calls Tryd.prog 21 #[.int .i64 a, .int .i64 m, v] w fun e' w' => e' = .returned (.tuple #[.int .i64 0, .int .i64 1]) ∧ Below w.heap.size w w' := by
  go_enter Tryd.func21, Tryd.ntmps21
  go_wp2_with (first
    | (go_at_call 27; with_reducible refine K27.mono ?_; rintro e w1 ⟨rfl, rfl⟩)
    | (go_at_call 28; with_reducible refine KA.mono ?_; rintro e w1 ⟨rfl, rfl⟩)
    | (go_at_call 29; with_reducible refine KR.mono ?_; rintro e w1 ⟨rfl, rfl⟩)
    | (go_at_call 35; with_reducible refine KM.mono ?_; rintro e w1 ⟨rfl, hbl⟩))
  all_goals go_ret2
  all_goals exact ⟨rfl, hbl⟩
theorem price_bad5n (a x m : Int) (v : Value) (w : World) (hx : wrap64 (-a) = x) (hlt : a < x) (wx : IntKind.u64.wrap x = x) (wm : IntKind.u64.wrap m = m)
    (K27 : Calls Tryd.prog 27 #[.int .i64 a] w fun e w' => e = .returned (.bool true) ∧ w' = w)
    (KA : Calls Tryd.prog 28 #[.func (.func 29) #[] #[], v] w fun e w' => e = .returned (.bool true) ∧ w' = w)
    (KR : Calls Tryd.prog 29 #[.int .i64 m] w fun e w' => e = .returned (.bool true) ∧ w' = w)
    (hi lo : Int) (KM : Calls Tryd.prog 35 #[.int .u64 x, .int .u64 m] w fun e w' => e = .returned (.tuple #[.int .u64 hi, .int .u64 lo]) ∧ Below w.heap.size w w')
    (h1 : ¬ 0 < hi) (h2 : 1000000000000000 < lo) :
    Calls Tryd.prog 21 #[.int .i64 a, .int .i64 m, v] w fun e' w' => e' = .returned (.tuple #[.int .i64 0, .int .i64 1]) ∧ Below w.heap.size w w' := by
  go_enter Tryd.func21, Tryd.ntmps21
  go_wp2_with (first
    | (go_at_call 27; with_reducible refine K27.mono ?_; rintro e w1 ⟨rfl, rfl⟩)
    | (go_at_call 28; with_reducible refine KA.mono ?_; rintro e w1 ⟨rfl, rfl⟩)
    | (go_at_call 29; with_reducible refine KR.mono ?_; rintro e w1 ⟨rfl, rfl⟩)
    | (go_at_call 35; with_reducible refine KM.mono ?_; rintro e w1 ⟨rfl, hbl⟩))
  all_goals go_ret2
  all_goals exact ⟨rfl, hbl⟩
theorem price_gon (a x m : Int) (b off cap : Nat) (zs : List Int) (w : World) (hlen : zs.length ≤ 140737488355328) (hc : ∀ i, i < zs.length → w.cell? ⟨b, off + i, none⟩ = some (.int .i64 (zs.getD i 0))) (hx : wrap64 (-a) = x) (hlt : a < x) (wx : IntKind.u64.wrap x = x) (wm : IntKind.u64.wrap m = m)
    (K27 : Calls Tryd.prog 27 #[.int .i64 a] w fun e w' => e = .returned (.bool true) ∧ w' = w)
    (KA : Calls Tryd.prog 28 #[.func (.func 29) #[] #[], .slice (some ⟨b, off, none⟩) zs.length cap] w fun e w' => e = .returned (.bool true) ∧ w' = w)
    (KR : Calls Tryd.prog 29 #[.int .i64 m] w fun e w' => e = .returned (.bool true) ∧ w' = w)
    (hi lo : Int) (KM : Calls Tryd.prog 35 #[.int .u64 x, .int .u64 m] w fun e w' => e = .returned (.tuple #[.int .u64 hi, .int .u64 lo]) ∧ Below w.heap.size w w')
    (h1 : ¬ 0 < hi) (h2 : lo ≤ 1000000000000000) (P : Int) (hP : wrap64 (a * m) = P) (hPM : InM P) (V E : Int) (hVE : priceL P zs = (V, E)) :
    Calls Tryd.prog 21 #[.int .i64 a, .int .i64 m, .slice (some ⟨b, off, none⟩) zs.length cap] w fun e' w' => e' = .returned (.tuple #[.int .i64 V, .int .i64 E]) ∧ Below w.heap.size w w' := by
  have K17 : ∀ a r w, Calls Tryd.prog 17 #[.int .i64 a, .int .i64 r] w fun e w' => e = .returned (.tuple #[.int .i64 (partV a r), .int .i64 (partE a r)]) ∧ Below w.heap.size w w' := part_any
  go_enter Tryd.func21, Tryd.ntmps21
  go_wp2_with (first
    | (go_at_call 27; with_reducible refine K27.mono ?_; rintro e w1 ⟨rfl, rfl⟩)
    | (go_at_call 28; with_reducible refine KA.mono ?_; rintro e w1 ⟨rfl, rfl⟩)
    | (go_at_call 29; with_reducible refine KR.mono ?_; rintro e w1 ⟨rfl, rfl⟩)
    | (go_at_call 35; with_reducible refine KM.mono ?_; rintro e w2 ⟨rfl, hbl⟩))
  go_loopw [10, 48] (fun n i w' => ∃ (k : Nat) (N : Int), k ≤ zs.length ∧ i = .int .i64 k ∧ n = .int .i64 N ∧ InM N ∧ priceL N (zs.drop k) = (V, E) ∧ Below w1.heap.size w1 w') (fun n i w' => zs.length - (intOf i).toNat)
  case atStart => exact ⟨0, P, Nat.zero_le _, rfl, by rw [hP], hPM, hVE, hbl⟩
  case round =>
    obtain ⟨k, N, hk, rfl, rfl, hN, hV, hb⟩ := hrel
    by_cases hlt2 : k < zs.length
    · have hcell : wr.cell? ⟨b, off + k, none⟩ = some (.int .i64 zs[k]) := by
        have h0 := hc k hlt2
        rw [hb.cell (cell_lt h0), h0]; simp [hlt2]
      rw [List.drop_eq_getElem_cons hlt2] at hV
      obtain ⟨r, hr⟩ : ∃ r, r = zs[k] := ⟨_, rfl⟩
      rw [← hr] at hcell hV
      have K1 := K17 N r
      have hpM : InM (partV N r) := partV_in N r
      have wN : wrap64 (N + partV N r) = N + partV N r := by
        obtain ⟨u1, u2⟩ := hN; obtain ⟨u3, u4⟩ := hpM; apply wrap_ok <;> omega
      obtain ⟨x1, hx1⟩ : ∃ x1, x1 = partV N r := ⟨_, rfl⟩
      obtain ⟨e1, he1⟩ : ∃ e1, e1 = partE N r := ⟨_, rfl⟩
      unfold priceL at hV
      rw [← hx1, ← he1] at hV
      rw [← hx1] at wN
      rw [← hx1, ← he1] at K1
      by_cases hE : e1 = 0
      · rw [if_pos hE] at hV
        subst hE
        by_cases hI : InM (N + x1)
        · rw [if_pos hI] at hV
          have K2 : ∀ w, Calls Tryd.prog 27 #[.int .i64 (N + x1)] w fun e w' => e = .returned (.bool true) ∧ w' = w := fun w => is_eq _ true (decide_eq_true hI) w
          clear hc hN hPM hVE hpM hx1 he1 hr hP h1 h2 K17
          go_wp2_with (first
            | (go_at_call 17; with_reducible refine (K1 _).mono ?_; rintro e w3 ⟨rfl, hb3⟩)
            | (go_at_call 27; with_reducible refine (K2 _).mono ?_; rintro e w4 ⟨rfl, rfl⟩))
          go_roundw
          case rel => exact ⟨k + 1, N + x1, hlt2, by go_num, rfl, hI, hV, Below.thenB hb hb3⟩
          case measure => simp [intOf]; omega
        · rw [if_neg hI] at hV
          have K2 : ∀ w, Calls Tryd.prog 27 #[.int .i64 (N + x1)] w fun e w' => e = .returned (.bool false) ∧ w' = w := fun w => is_eq _ false (decide_eq_false hI) w
          obtain ⟨rfl, rfl⟩ := Prod.mk.inj hV
          clear hc hN hPM hVE hpM hx1 he1 hr hP h1 h2 K17
          go_wp2_with (first
            | (go_at_call 17; with_reducible refine (K1 _).mono ?_; rintro e w3 ⟨rfl, hb3⟩)
            | (go_at_call 27; with_reducible refine (K2 _).mono ?_; rintro e w4 ⟨rfl, rfl⟩))
          all_goals go_ret2
          all_goals exact ⟨rfl, Below.thenB hb hb3⟩
      · rw [if_neg hE] at hV
        obtain ⟨rfl, rfl⟩ := Prod.mk.inj hV
        clear hc hN hPM hVE hpM hx1 he1 hr hP h1 h2 K17
        go_wp2_with (first
          | (go_at_call 17; with_reducible refine (K1 _).mono ?_; rintro e w3 ⟨rfl, hb3⟩))
        all_goals go_ret2
        all_goals exact ⟨rfl, Below.thenB hb hb3⟩
    · have hk' : k = zs.length := by omega
      subst hk'
      rw [List.drop_length] at hV
      obtain ⟨rfl, rfl⟩ := Prod.mk.inj hV
      clear hc hN hPM hVE hP h1 h2 K17
      go_wp2
      all_goals go_ret2
      all_goals exact ⟨rfl, hb⟩
theorem price_bad4p (a x m : Int) (v : Value) (w : World) (hlt : wrap64 (-a) ≤ a) (wx : IntKind.u64.wrap a = a) (wm : IntKind.u64.wrap m = m)
    (K27 : Calls Tryd.prog 27 #[.int .i64 a] w fun e w' => e = .returned (.bool true) ∧ w' = w)
    (KA : Calls Tryd.prog 28 #[.func (.func 29) #[] #[], v] w fun e w' => e = .returned (.bool true) ∧ w' = w)
    (KR : Calls Tryd.prog 29 #[.int .i64 m] w fun e w' => e = .returned (.bool true) ∧ w' = w)
    (hi lo : Int) (KM : Calls Tryd.prog 35 #[.int .u64 a, .int .u64 m] w fun e w' => e = .returned (.tuple #[.int .u64 hi, .int .u64 lo]) ∧ Below w.heap.size w w')
    (h1 : 0 < hi) :
    Calls Tryd.prog 21 #[.int .i64 a, .int .i64 m, v] w fun e' w' => e' = .returned (.tuple #[.int .i64 0, .int .i64 1]) ∧ Below w.heap.size w w' := by
  go_enter Tryd.func21, Tryd.ntmps21
  go_wp2_with (first
    | (go_at_call 27; with_reducible refine K27.mono ?_; rintro e w1 ⟨rfl, rfl⟩)
    | (go_at_call 28; with_reducible refine KA.mono ?_; rintro e w1 ⟨rfl, rfl⟩)
    | (go_at_call 29; with_reducible refine KR.mono ?_; rintro e w1 ⟨rfl, rfl⟩)
    | (go_at_call 35; with_reducible refine KM.mono ?_; rintro e w1 ⟨rfl, hbl⟩))
  all_goals go_ret2
  all_goals exact ⟨rfl, hbl⟩
theorem price_bad5p (a x m : Int) (v : Value) (w : World) (hlt : wrap64 (-a) ≤ a) (wx : IntKind.u64.wrap a = a) (wm : IntKind.u64.wrap m = m)
    (K27 : Calls Tryd.prog 27 #[.int .i64 a] w fun e w' => e = .returned (.bool true) ∧ w' = w)
    (KA : Calls Tryd.prog 28 #[.func (.func 29) #[] #[], v] w fun e w' => e = .returned (.bool true) ∧ w' = w)
    (KR : Calls Tryd.prog 29 #[.int .i64 m] w fun e w' => e = .returned (.bool true) ∧ w' = w)
    (hi lo : Int) (KM : Calls Tryd.prog 35 #[.int .u64 a, .int .u64 m] w fun e w' => e = .returned (.tuple #[.int .u64 hi, .int .u64 lo]) ∧ Below w.heap.size w w')
    (h1 : ¬ 0 < hi) (h2 : 1000000000000000 < lo) :
    Calls Tryd.prog 21 #[.int .i64 a, .int .i64 m, v] w fun e' w' => e' = .returned (.tuple #[.int .i64 0, .int .i64 1]) ∧ Below w.heap.size w w' := by
  go_enter Tryd.func21, Tryd.ntmps21
  go_wp2_with (first
    | (go_at_call 27; with_reducible refine K27.mono ?_; rintro e w1 ⟨rfl, rfl⟩)
    | (go_at_call 28; with_reducible refine KA.mono ?_; rintro e w1 ⟨rfl, rfl⟩)
    | (go_at_call 29; with_reducible refine KR.mono ?_; rintro e w1 ⟨rfl, rfl⟩)
    | (go_at_call 35; with_reducible refine KM.mono ?_; rintro e w1 ⟨rfl, hbl⟩))
  all_goals go_ret2
  all_goals exact ⟨rfl, hbl⟩
theorem price_gop (a x m : Int) (b off cap : Nat) (zs : List Int) (w : World) (hlen : zs.length ≤ 140737488355328) (hc : ∀ i, i < zs.length → w.cell? ⟨b, off + i, none⟩ = some (.int .i64 (zs.getD i 0))) (hlt : wrap64 (-a) ≤ a) (wx : IntKind.u64.wrap a = a) (wm : IntKind.u64.wrap m = m)
    (K27 : Calls Tryd.prog 27 #[.int .i64 a] w fun e w' => e = .returned (.bool true) ∧ w' = w)
    (KA : Calls Tryd.prog 28 #[.func (.func 29) #[] #[], .slice (some ⟨b, off, none⟩) zs.length cap] w fun e w' => e = .returned (.bool true) ∧ w' = w)
    (KR : Calls Tryd.prog 29 #[.int .i64 m] w fun e w' => e = .returned (.bool true) ∧ w' = w)
    (hi lo : Int) (KM : Calls Tryd.prog 35 #[.int .u64 a, .int .u64 m] w fun e w' => e = .returned (.tuple #[.int .u64 hi, .int .u64 lo]) ∧ Below w.heap.size w w')
    (h1 : ¬ 0 < hi) (h2 : lo ≤ 1000000000000000) (P : Int) (hP : wrap64 (a * m) = P) (hPM : InM P) (V E : Int) (hVE : priceL P zs = (V, E)) :
    Calls Tryd.prog 21 #[.int .i64 a, .int .i64 m, .slice (some ⟨b, off, none⟩) zs.length cap] w fun e' w' => e' = .returned (.tuple #[.int .i64 V, .int .i64 E]) ∧ Below w.heap.size w w' := by
  have K17 : ∀ a r w, Calls Tryd.prog 17 #[.int .i64 a, .int .i64 r] w fun e w' => e = .returned (.tuple #[.int .i64 (partV a r), .int .i64 (partE a r)]) ∧ Below w.heap.size w w' := part_any
  go_enter Tryd.func21, Tryd.ntmps21
  go_wp2_with (first
    | (go_at_call 27; with_reducible refine K27.mono ?_; rintro e w1 ⟨rfl, rfl⟩)
    | (go_at_call 28; with_reducible refine KA.mono ?_; rintro e w1 ⟨rfl, rfl⟩)
    | (go_at_call 29; with_reducible refine KR.mono ?_; rintro e w1 ⟨rfl, rfl⟩)
    | (go_at_call 35; with_reducible refine KM.mono ?_; rintro e w2 ⟨rfl, hbl⟩))
  go_loopw [10, 48] (fun n i w' => ∃ (k : Nat) (N : Int), k ≤ zs.length ∧ i = .int .i64 k ∧ n = .int .i64 N ∧ InM N ∧ priceL N (zs.drop k) = (V, E) ∧ Below w1.heap.size w1 w') (fun n i w' => zs.length - (intOf i).toNat)
  case atStart => exact ⟨0, P, Nat.zero_le _, rfl, by rw [hP], hPM, hVE, hbl⟩
  case round =>
    obtain ⟨k, N, hk, rfl, rfl, hN, hV, hb⟩ := hrel
    by_cases hlt2 : k < zs.length
    · have hcell : wr.cell? ⟨b, off + k, none⟩ = some (.int .i64 zs[k]) := by
        have h0 := hc k hlt2
        rw [hb.cell (cell_lt h0), h0]; simp [hlt2]
      rw [List.drop_eq_getElem_cons hlt2] at hV
      obtain ⟨r, hr⟩ : ∃ r, r = zs[k] := ⟨_, rfl⟩
      rw [← hr] at hcell hV
      have K1 := K17 N r
      have hpM : InM (partV N r) := partV_in N r
      have wN : wrap64 (N + partV N r) = N + partV N r := by
        obtain ⟨u1, u2⟩ := hN; obtain ⟨u3, u4⟩ := hpM; apply wrap_ok <;> omega
      obtain ⟨x1, hx1⟩ : ∃ x1, x1 = partV N r := ⟨_, rfl⟩
      obtain ⟨e1, he1⟩ : ∃ e1, e1 = partE N r := ⟨_, rfl⟩
      unfold priceL at hV
      rw [← hx1, ← he1] at hV
      rw [← hx1] at wN
      rw [← hx1, ← he1] at K1
      by_cases hE : e1 = 0
      · rw [if_pos hE] at hV
        subst hE
        by_cases hI : InM (N + x1)
        · rw [if_pos hI] at hV
          have K2 : ∀ w, Calls Tryd.prog 27 #[.int .i64 (N + x1)] w fun e w' => e = .returned (.bool true) ∧ w' = w := fun w => is_eq _ true (decide_eq_true hI) w
          clear hc hN hPM hVE hpM hx1 he1 hr hP h1 h2 K17
          go_wp2_with (first
            | (go_at_call 17; with_reducible refine (K1 _).mono ?_; rintro e w3 ⟨rfl, hb3⟩)
            | (go_at_call 27; with_reducible refine (K2 _).mono ?_; rintro e w4 ⟨rfl, rfl⟩))
          go_roundw
          case rel => exact ⟨k + 1, N + x1, hlt2, by go_num, rfl, hI, hV, Below.thenB hb hb3⟩
          case measure => simp [intOf]; omega
        · rw [if_neg hI] at hV
          have K2 : ∀ w, Calls Tryd.prog 27 #[.int .i64 (N + x1)] w fun e w' => e = .returned (.bool false) ∧ w' = w := fun w => is_eq _ false (decide_eq_false hI) w
          obtain ⟨rfl, rfl⟩ := Prod.mk.inj hV
          clear hc hN hPM hVE hpM hx1 he1 hr hP h1 h2 K17
          go_wp2_with (first
            | (go_at_call 17; with_reducible refine (K1 _).mono ?_; rintro e w3 ⟨rfl, hb3⟩)
            | (go_at_call 27; with_reducible refine (K2 _).mono ?_; rintro e w4 ⟨rfl, rfl⟩))
          all_goals go_ret2
          all_goals exact ⟨rfl, Below.thenB hb hb3⟩
      · rw [if_neg hE] at hV
        obtain ⟨rfl, rfl⟩ := Prod.mk.inj hV
        clear hc hN hPM hVE hpM hx1 he1 hr hP h1 h2 K17
        go_wp2_with (first
          | (go_at_call 17; with_reducible refine (K1 _).mono ?_; rintro e w3 ⟨rfl, hb3⟩))
        all_goals go_ret2
        all_goals exact ⟨rfl, Below.thenB hb hb3⟩
    · have hk' : k = zs.length := by omega
      subst hk'
      rw [List.drop_length] at hV
      obtain ⟨rfl, rfl⟩ := Prod.mk.inj hV
      clear hc hN hPM hVE hP h1 h2 K17
      go_wp2
      all_goals go_ret2
      all_goals exact ⟨rfl, hb⟩
end Go.Proofs.YtpbgaoodokapeaaDoor

open Go Go.RowKit
namespace Go.Proofs.YtpbgaoodokapeaaDoor
set_option linter.unusedVariables false
set_option linter.unusedSimpArgs false
theorem price_niln (a x m : Int) (p : Option Addr) (c : Nat) (w : World) (hx : wrap64 (-a) = x) (hlt : a < x) (wx : IntKind.u64.wrap x = x) (wm : IntKind.u64.wrap m = m)
    (K27 : Calls Tryd.prog 27 #[.int .i64 a] w fun e w' => e = .returned (.bool true) ∧ w' = w)
    (KA : Calls Tryd.prog 28 #[.func (.func 29) #[] #[], .slice p 0 c] w fun e w' => e = .returned (.bool true) ∧ w' = w)
    (KR : Calls Tryd.prog 29 #[.int .i64 m] w fun e w' => e = .returned (.bool true) ∧ w' = w)
    (hi lo : Int) (KM : Calls Tryd.prog 35 #[.int .u64 x, .int .u64 m] w fun e w' => e = .returned (.tuple #[.int .u64 hi, .int .u64 lo]) ∧ Below w.heap.size w w')
    (h1 : ¬ 0 < hi) (h2 : lo ≤ 1000000000000000) (P : Int) (hP : wrap64 (a * m) = P) :
    Calls Tryd.prog 21 #[.int .i64 a, .int .i64 m, .slice p 0 c] w fun e' w' => e' = .returned (.tuple #[.int .i64 P, .int .i64 0]) ∧ Below w.heap.size w w' := by
  go_enter Tryd.func21, Tryd.ntmps21
  go_wp2_with (first
    | (go_at_call 27; with_reducible refine K27.mono ?_; rintro e w1 ⟨rfl, rfl⟩)
    | (go_at_call 28; with_reducible refine KA.mono ?_; rintro e w1 ⟨rfl, rfl⟩)
    | (go_at_call 29; with_reducible refine KR.mono ?_; rintro e w1 ⟨rfl, rfl⟩)
    | (go_at_call 35; with_reducible refine KM.mono ?_; rintro e w1 ⟨rfl, hbl⟩)
    | (refine wp_loop_rounds 1 ?_; rw [rounds_succ]))
  all_goals go_ret2
  all_goals exact ⟨by first | rfl | (rw [← hP]; rfl), hbl⟩
theorem price_nilp (a x m : Int) (p : Option Addr) (c : Nat) (w : World) (hlt : wrap64 (-a) ≤ a) (wx : IntKind.u64.wrap a = a) (wm : IntKind.u64.wrap m = m)
    (K27 : Calls Tryd.prog 27 #[.int .i64 a] w fun e w' => e = .returned (.bool true) ∧ w' = w)
    (KA : Calls Tryd.prog 28 #[.func (.func 29) #[] #[], .slice p 0 c] w fun e w' => e = .returned (.bool true) ∧ w' = w)
    (KR : Calls Tryd.prog 29 #[.int .i64 m] w fun e w' => e = .returned (.bool true) ∧ w' = w)
    (hi lo : Int) (KM : Calls Tryd.prog 35 #[.int .u64 a, .int .u64 m] w fun e w' => e = .returned (.tuple #[.int .u64 hi, .int .u64 lo]) ∧ Below w.heap.size w w')
    (h1 : ¬ 0 < hi) (h2 : lo ≤ 1000000000000000) (P : Int) (hP : wrap64 (a * m) = P) :
    Calls Tryd.prog 21 #[.int .i64 a, .int .i64 m, .slice p 0 c] w fun e' w' => e' = .returned (.tuple #[.int .i64 P, .int .i64 0]) ∧ Below w.heap.size w w' := by
  go_enter Tryd.func21, Tryd.ntmps21
  go_wp2_with (first
    | (go_at_call 27; with_reducible refine K27.mono ?_; rintro e w1 ⟨rfl, rfl⟩)
    | (go_at_call 28; with_reducible refine KA.mono ?_; rintro e w1 ⟨rfl, rfl⟩)
    | (go_at_call 29; with_reducible refine KR.mono ?_; rintro e w1 ⟨rfl, rfl⟩)
    | (go_at_call 35; with_reducible refine KM.mono ?_; rintro e w1 ⟨rfl, hbl⟩)
    | (refine wp_loop_rounds 1 ?_; rw [rounds_succ]))
  all_goals go_ret2
  all_goals exact ⟨by first | rfl | (rw [← hP]; rfl), hbl⟩
theorem price_any {zs : List Int} {v : Value} {w : World} (a m : Int) (h : Sl zs v w) (hlen : zs.length ≤ 140737488355328) :
    Calls Tryd.prog 21 #[.int .i64 a, .int .i64 m, v] w fun e' w' => e' = .returned (.tuple #[.int .i64 (priceR a m zs).1, .int .i64 (priceR a m zs).2]) ∧ Below w.heap.size w w' := by
  by_cases hA : InM a
  · have K27 := is_eq a true (decide_eq_true hA) w
    have KA := all_rate_any h hlen
    by_cases hz : zs.all (fun z => decide (InR z)) = true
    · rw [hz] at KA
      by_cases hR : InR m
      · have KR := isRate_eq m true (decide_eq_true hR) w
        obtain ⟨a1, a2⟩ := hA
        obtain ⟨r1, r2⟩ := hR
        have wm : IntKind.u64.wrap m = m := by rw [IntKind.wrap_u64]; omega
        by_cases ha : a < 0
        · have hx : wrap64 (-a) = -a := wrap_ok _ (by omega) (by omega)
          have hlt : a < -a := by omega
          have wx : IntKind.u64.wrap (-a) = -a := by rw [IntKind.wrap_u64]; omega
          have KM := mul_any (-a) m (by omega) (by omega) r1 (by omega) w
          have hP0 : 0 ≤ -a * m := Int.mul_nonneg (by omega) r1
          have hP1 : -a * m ≤ 1000000000000000 * 1000000 := Int.mul_le_mul (by omega) r2 r1 (by decide)
          have hneg : a * m = -(-a * m) := by rw [Int.neg_mul]; omega
          obtain ⟨P, hP⟩ : ∃ P, P = -a * m := ⟨_, rfl⟩
          rw [← hP] at KM hP0 hP1 hneg
          by_cases h1 : 0 < P / 18446744073709551616
          · have e0 : priceR a m zs = (0, 1) := by unfold priceR; rw [if_pos ⟨a1, a2⟩, if_neg (by intro hh; have := hh.2.2; unfold InM at this; omega)]
            rw [e0]
            exact price_bad4n a (-a) m v w hx hlt wx wm K27 KA KR _ _ KM h1
          · by_cases h2 : 1000000000000000 < P % 18446744073709551616
            · have e0 : priceR a m zs = (0, 1) := by unfold priceR; rw [if_pos ⟨a1, a2⟩, if_neg (by intro hh; have := hh.2.2; unfold InM at this; omega)]
              rw [e0]
              exact price_bad5n a (-a) m v w hx hlt wx wm K27 KA KR _ _ KM h1 h2
            · have hI : InM (a * m) := by unfold InM; omega
              have e0 : priceR a m zs = priceL (a * m) zs := by unfold priceR; rw [if_pos ⟨a1, a2⟩, if_pos ⟨hz, ⟨r1, r2⟩, hI⟩]
              rw [e0]
              have hw : wrap64 (a * m) = a * m := by unfold InM at hI; apply wrap_ok <;> omega
              rcases h with ⟨b, off, cap, rfl, hc⟩ | ⟨rfl, p, c, rfl, _⟩
              · exact price_gon a (-a) m b off cap zs w hlen hc hx hlt wx wm K27 KA KR _ _ KM h1 (by omega) _ hw hI _ _ rfl
              · exact price_niln a (-a) m p c w hx hlt wx wm K27 KA KR _ _ KM h1 (by omega) _ hw
        · have hlt : wrap64 (-a) ≤ a := by rw [wrap_ok _ (by omega) (by omega)]; omega
          have wx : IntKind.u64.wrap a = a := by rw [IntKind.wrap_u64]; omega
          have KM := mul_any a m (by omega) (by omega) r1 (by omega) w
          have hP0 : 0 ≤ a * m := Int.mul_nonneg (by omega) r1
          have hP1 : a * m ≤ 1000000000000000 * 1000000 := Int.mul_le_mul (by omega) r2 r1 (by decide)
          by_cases h1 : 0 < a * m / 18446744073709551616
          · have e0 : priceR a m zs = (0, 1) := by unfold priceR; rw [if_pos ⟨a1, a2⟩, if_neg (by intro hh; have := hh.2.2; unfold InM at this; omega)]
            rw [e0]
            exact price_bad4p a a m v w hlt wx wm K27 KA KR _ _ KM h1
          · by_cases h2 : 1000000000000000 < a * m % 18446744073709551616
            · have e0 : priceR a m zs = (0, 1) := by unfold priceR; rw [if_pos ⟨a1, a2⟩, if_neg (by intro hh; have := hh.2.2; unfold InM at this; omega)]
              rw [e0]
              exact price_bad5p a a m v w hlt wx wm K27 KA KR _ _ KM h1 h2
            · have hI : InM (a * m) := by unfold InM; omega
              have e0 : priceR a m zs = priceL (a * m) zs := by unfold priceR; rw [if_pos ⟨a1, a2⟩, if_pos ⟨hz, ⟨r1, r2⟩, hI⟩]
              rw [e0]
              have hw : wrap64 (a * m) = a * m := by unfold InM at hI; apply wrap_ok <;> omega
              rcases h with ⟨b, off, cap, rfl, hc⟩ | ⟨rfl, p, c, rfl, _⟩
              · exact price_gop a a m b off cap zs w hlen hc hlt wx wm K27 KA KR _ _ KM h1 (by omega) _ hw hI _ _ rfl
              · exact price_nilp a a m p c w hlt wx wm K27 KA KR _ _ KM h1 (by omega) _ hw
      · have e0 : priceR a m zs = (0, 1) := by unfold priceR; rw [if_pos hA, if_neg (fun hh => hR hh.2.1)]
        rw [e0]
        exact (price_bad3 a m v w K27 KA (isRate_eq m false (decide_eq_false hR) w)).mono (by rintro e w1 ⟨rfl, rfl⟩; exact ⟨rfl, Below.refl _ _⟩)
    · rw [Bool.eq_false_iff.2 hz] at KA
      have e0 : priceR a m zs = (0, 1) := by unfold priceR; rw [if_pos hA, if_neg (fun hh => hz hh.1)]
      rw [e0]
      exact (price_bad2 a m v w K27 KA).mono (by rintro e w1 ⟨rfl, rfl⟩; exact ⟨rfl, Below.refl _ _⟩)
  · have e0 : priceR a m zs = (0, 220) := by unfold priceR; rw [if_neg hA]
    rw [e0]
    exact (price_bad1 a m v w (is_eq a false (decide_eq_false hA) w)).mono (by rintro e w1 ⟨rfl, rfl⟩; exact ⟨rfl, Below.refl _ _⟩)
end Go.Proofs.YtpbgaoodokapeaaDoor
