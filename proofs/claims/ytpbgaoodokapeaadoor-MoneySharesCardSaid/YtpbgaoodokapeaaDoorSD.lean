/- The walk of money.Share. -/
import Derived.Test.YtpbgaoodokapeaaDoorSC
import Derived.Test.YtpbgaoodokapeaaDoorQF
open Go Go.RowKit
namespace Go.Proofs.YtpbgaoodokapeaaDoor
set_option linter.unusedVariables false
set_option linter.unusedSimpArgs false
set_option maxRecDepth 4000
theorem tmod_next (k n : Nat) : ((k : Int) + 1) % (n : Int) = (((k + 1) % n : Nat) : Int) := by
  have h1 : ((k + 1 : Nat) : Int) = (k : Int) + 1 := by omega
  rw [← h1]
  exact (Int.natCast_emod _ _).symm
def Hid (p : Prop) : Prop := p
def mu3 (n : Nat) (left i : Value) : Nat := if intOf left ≤ 0 then 0 else n - (intOf i).toNat
theorem mu3_at (n k : Nat) (L : Int) (h : 0 < L) : mu3 n (.int .i64 L) (.int .i64 (k : Int)) = n - k := by
  unfold mu3; rw [if_neg (by simp [intOf]; omega)]; simp [intOf]
theorem mu3_next (zs : List Int) (k : Nat) (hk : k < zs.length) (L' : Int) (h : L' ≤ posc (zs.drop (k + 1))) : mu3 zs.length (.int .i64 L') (.int .i64 (((k + 1) % zs.length : Nat) : Int)) < zs.length - k := by
  rcases Nat.lt_or_ge (k + 1) zs.length with hlt | hge
  · rw [Nat.mod_eq_of_lt hlt]
    unfold mu3
    split
    · omega
    · simp [intOf]; omega
  · rw [List.drop_eq_nil_of_le hge] at h
    simp only [posc] at h
    unfold mu3
    rw [if_pos (by simp [intOf]; exact h)]
    omega
theorem share_bad1 (a : Int) (v : Value) (w : World) (K27 : Calls Tryd.prog 27 #[.int .i64 a] w fun e w' => e = .returned (.bool false) ∧ w' = w) :
    Calls Tryd.prog 11 #[.int .i64 a, v] w fun e w' => e = .returned (.tuple #[.slice none 0 0, .int .i64 220]) ∧ w' = w := by
  go_enter Tryd.func11, Tryd.ntmps11
  go_wp2_with (go_at_call 27; with_reducible refine K27.mono ?_; rintro e w1 ⟨rfl, rfl⟩)
  all_goals go_ret2
  all_goals exact ⟨rfl, rfl⟩
theorem share_bad2 (a : Int) (p : Option Addr) (n c : Nat) (w : World) (h : (n : Int) < 1 ∨ (¬ (n : Int) < 1 ∧ (1000 : Int) < n)) (K27 : Calls Tryd.prog 27 #[.int .i64 a] w fun e w' => e = .returned (.bool true) ∧ w' = w) :
    Calls Tryd.prog 11 #[.int .i64 a, .slice p n c] w fun e w' => e = .returned (.tuple #[.slice none 0 0, .int .i64 1]) ∧ w' = w := by
  rcases h with h | ⟨h0, h⟩
  all_goals go_enter Tryd.func11, Tryd.ntmps11
  all_goals go_wp2_with (go_at_call 27; with_reducible refine K27.mono ?_; rintro e w1 ⟨rfl, rfl⟩)
  all_goals go_ret2
  all_goals exact ⟨rfl, rfl⟩
theorem share_bad3 (a : Int) (p : Option Addr) (n c : Nat) (w : World) (h1 : ¬ (n : Int) < 1) (h2 : ¬ (1000 : Int) < n) (K27 : Calls Tryd.prog 27 #[.int .i64 a] w fun e w' => e = .returned (.bool true) ∧ w' = w)
    (KA : Calls Tryd.prog 28 #[.func (.func 29) #[] #[], .slice p n c] w fun e w' => e = .returned (.bool false) ∧ w' = w) :
    Calls Tryd.prog 11 #[.int .i64 a, .slice p n c] w fun e w' => e = .returned (.tuple #[.slice none 0 0, .int .i64 1]) ∧ w' = w := by
  go_enter Tryd.func11, Tryd.ntmps11
  go_wp2_with (first
    | (go_at_call 27; with_reducible refine K27.mono ?_; rintro e w1 ⟨rfl, rfl⟩)
    | (go_at_call 28; with_reducible refine KA.mono ?_; rintro e w1 ⟨rfl, rfl⟩))
  all_goals go_ret2
  all_goals exact ⟨rfl, rfl⟩
theorem share_bad4 (a : Int) (b off cap : Nat) (zs : List Int) (w : World)
    (hc : ∀ i, i < zs.length → w.cell? ⟨b, off + i, none⟩ = some (.int .i64 (zs.getD i 0))) (h1 : ¬ (zs.length : Int) < 1) (h2 : ¬ (1000 : Int) < zs.length) (hR : ∀ z ∈ zs, InR z)
    (K27 : Calls Tryd.prog 27 #[.int .i64 a] w fun e w' => e = .returned (.bool true) ∧ w' = w)
    (KA : Calls Tryd.prog 28 #[.func (.func 29) #[] #[], .slice (some ⟨b, off, none⟩) zs.length cap] w fun e w' => e = .returned (.bool true) ∧ w' = w) (h0 : sumI zs = 0) :
    Calls Tryd.prog 11 #[.int .i64 a, .slice (some ⟨b, off, none⟩) zs.length cap] w fun e w' => e = .returned (.tuple #[.slice none 0 0, .int .i64 1]) ∧ w' = w := by
  go_enter Tryd.func11, Tryd.ntmps11
  go_wp2_with (first
    | (go_at_call 27; with_reducible refine K27.mono ?_; rintro e w1 ⟨rfl, rfl⟩)
    | (go_at_call 28; with_reducible refine KA.mono ?_; rintro e w1 ⟨rfl, rfl⟩))
  go_loop [6, 36] (fun s i => ∃ k : Nat, k ≤ zs.length ∧ i = .int .i64 k ∧ s = .int .i64 (sumI (zs.take k))) (fun _ i => zs.length - (intOf i).toNat)
  case atStart => exact ⟨0, Nat.zero_le _, rfl, rfl⟩
  case round =>
    obtain ⟨k, hk, rfl, rfl⟩ := hrel
    by_cases hlt : k < zs.length
    · have hcell : w1.cell? ⟨b, off + k, none⟩ = some (.int .i64 zs[k]) := by rw [hc k hlt]; simp [hlt]
      have hz := hR _ (List.getElem_mem hlt)
      have hs := sumI_succ hlt
      have hb0 := (sumI_mem (zs.take k) (fun z hz => (hR z (List.mem_of_mem_take hz)).1)).1
      have hb1 := sumR_bound (zs.take k) (fun z hz => hR z (List.mem_of_mem_take hz))
      have hlk : ((zs.take k).length : Int) ≤ 1000 := by rw [List.length_take]; omega
      obtain ⟨z, hzz⟩ : ∃ z, z = zs[k] := ⟨_, rfl⟩
      rw [← hzz] at hcell hz hs
      obtain ⟨s0, hs0⟩ : ∃ s0, s0 = sumI (zs.take k) := ⟨_, rfl⟩
      rw [← hs0] at hs hb0 hb1 ⊢
      obtain ⟨z0, z1⟩ := hz
      have ws : wrap64 (s0 + z) = s0 + z := wrap_ok _ (by omega) (by omega)
      clear hc hb0 hb1 hlk z0 z1 hzz hs0
      go_wp2
      exact ⟨⟨k + 1, hlt, by go_num, by first | (rw [hs]; done) | (rw [hs, ws])⟩, by simp [intOf]; omega⟩
    · have hk' : k = zs.length := by omega
      subst hk'
      rw [List.take_length]
      rw [h0]
      clear hc
      go_wp2
      all_goals go_ret2
      all_goals exact ⟨rfl, rfl⟩
set_option maxHeartbeats 2000000 in
theorem share_gon (a : Int) (b off cap : Nat) (zs : List Int) (w : World)
    (hc : ∀ i, i < zs.length → w.cell? ⟨b, off + i, none⟩ = some (.int .i64 (zs.getD i 0))) (h1 : ¬ (zs.length : Int) < 1) (h2 : ¬ (1000 : Int) < zs.length) (hR : ∀ z ∈ zs, InR z)
    (K27 : Calls Tryd.prog 27 #[.int .i64 a] w fun e w' => e = .returned (.bool true) ∧ w' = w)
    (KA : Calls Tryd.prog 28 #[.func (.func 29) #[] #[], .slice (some ⟨b, off, none⟩) zs.length cap] w fun e w' => e = .returned (.bool true) ∧ w' = w) (S x : Int) (hneg : a < 0) (hx : wrap64 (-a) = x) (hS : sumI zs = S) (hS0 : ¬ S = 0) (hx0 : 0 ≤ x) (hx1 : x ≤ 1000000000000000) :
    Calls Tryd.prog 11 #[.int .i64 a, .slice (some ⟨b, off, none⟩) zs.length cap] w fun e w' => e = .returned (.tuple #[.slice (some ⟨w.heap.size, 0, none⟩) zs.length zs.length, .int .i64 0]) ∧ Below w.heap.size w w' ∧ Row (give x S (-1) (x - sumQ x S zs) zs) zs.length w.heap.size w' := by
  obtain ⟨i0, hi0, hz0, hz1, hz2⟩ := info_parts int_info
  have hmem := sumI_mem zs (fun z hz => (hR z hz).1)
  have hSb := sumR_bound zs hR
  rw [hS] at hmem hSb
  have hSp : 0 < S := by have := hmem.1; omega
  go_enter Tryd.func11, Tryd.ntmps11
  go_wp2_with (first
    | (go_at_call 27; with_reducible refine K27.mono ?_; rintro e w1 ⟨rfl, rfl⟩)
    | (go_at_call 28; with_reducible refine KA.mono ?_; rintro e w1 ⟨rfl, rfl⟩))
  go_loop [6, 36] (fun s i => ∃ k : Nat, k ≤ zs.length ∧ i = .int .i64 k ∧ s = .int .i64 (sumI (zs.take k))) (fun _ i => zs.length - (intOf i).toNat)
  case atStart => exact ⟨0, Nat.zero_le _, rfl, rfl⟩
  case round =>
    obtain ⟨k, hk, rfl, rfl⟩ := hrel
    by_cases hlt : k < zs.length
    · have hcell : w1.cell? ⟨b, off + k, none⟩ = some (.int .i64 zs[k]) := by rw [hc k hlt]; simp [hlt]
      have hz := hR _ (List.getElem_mem hlt)
      have hs := sumI_succ hlt
      have hb0 := (sumI_mem (zs.take k) (fun z hz => (hR z (List.mem_of_mem_take hz)).1)).1
      have hb1 := sumR_bound (zs.take k) (fun z hz => hR z (List.mem_of_mem_take hz))
      have hlk : ((zs.take k).length : Int) ≤ 1000 := by rw [List.length_take]; omega
      obtain ⟨z, hzz⟩ : ∃ z, z = zs[k] := ⟨_, rfl⟩
      rw [← hzz] at hcell hz hs
      obtain ⟨s0, hs0⟩ : ∃ s0, s0 = sumI (zs.take k) := ⟨_, rfl⟩
      rw [← hs0] at hs hb0 hb1 ⊢
      obtain ⟨z0, z1⟩ := hz
      have ws : wrap64 (s0 + z) = s0 + z := wrap_ok _ (by omega) (by omega)
      clear hc hb0 hb1 hlk z0 z1 hzz hs0
      go_wp2
      exact ⟨⟨k + 1, hlt, by go_num, by first | (rw [hs]; done) | (rw [hs, ws])⟩, by simp [intOf]; omega⟩
    · have hk' : k = zs.length := by omega
      subst hk'
      rw [List.take_length]

      rw [hS]
      go_wp2_with (refine wpList_make_row _ rfl (.tmp 53) (.tmp 53) 22 rfl 3 i0 (.int .i64 0) Tryd.underlying22 hi0 hz0 hz1 rfl .i64 .i64 zs.length (by rfl) (by rfl) (by rw [hz2]; omega) (by omega) ?_)
      go_loopw [11, 57] (fun L i w' => ∃ k : Nat, k ≤ zs.length ∧ i = .int .i64 k ∧ L = .int .i64 (x - sumQ x S (zs.take k)) ∧ x - 1000000000000000 * (k : Int) ≤ x - sumQ x S (zs.take k) ∧ x - sumQ x S (zs.take k) ≤ x ∧ Row ((zs.map fun w => qv x S w * (-1)).take k ++ List.replicate (zs.length - k) 0) zs.length w1.heap.size w' ∧ Below w1.heap.size w1 w') (fun L i w' => zs.length - (intOf i).toNat)
      case atStart => exact ⟨0, Nat.zero_le _, rfl, by simp [sumQ], by simp [sumQ], by simp [sumQ], by simpa using Row.made w1 zs.length, (Below.refl _ _).alloc (Nat.le_refl _) _⟩
      case round =>
        obtain ⟨k, hk, rfl, rfl, hL0, hL1, hrow, hb⟩ := hrel
        obtain ⟨L, hL⟩ : ∃ L, L = x - sumQ x S (zs.take k) := ⟨_, rfl⟩
        rw [← hL] at hL0 hL1 ⊢
        by_cases hlt : k < zs.length
        · have hcell : wr.cell? ⟨b, off + k, none⟩ = some (.int .i64 zs[k]) := by
            have h0 := hc k hlt
            rw [hb.cell (cell_lt h0), h0]; simp [hlt]
          have hz := hR _ (List.getElem_mem hlt)
          have hzS := hmem.2 _ (List.getElem_mem hlt)
          have hq := sumQ_succ x S hlt
          have hset := set_step (zs.map fun w => qv x S w * (-1)) 0 (n := zs.length) (k := k) (by simp) (by simpa using hlt)
          rw [List.getElem_map] at hset
          obtain ⟨z, hzz⟩ : ∃ z, z = zs[k] := ⟨_, rfl⟩
          rw [← hzz] at hcell hz hzS hq hset
          have hqb := qv_bound x S z hx0 hx1 hSp hz.1 hzS
          have KO := over_any x z S wr hx0 hx1 hz.1 hz.2 hSp hzS (by omega)
          rw [show x * z / S = qv x S z from rfl] at KO
          obtain ⟨m, hm⟩ : ∃ m, m = x * z % S := ⟨_, rfl⟩
          obtain ⟨q, hqq⟩ : ∃ q, q = qv x S z := ⟨_, rfl⟩
          rw [← hm, ← hqq] at KO
          rw [← hqq] at hq hset hqb
          have eq : q * (-1) = -q := by omega
          rw [eq] at hset
          have wq : wrap64 (-q) = -q := wrap_ok _ (by omega) (by omega)
          have wL : wrap64 (L - q) = L - q := wrap_ok _ (by omega) (by omega)
          have hL' : x - sumQ x S (zs.take (k + 1)) = L - q := by rw [hq]; omega
          have hlenv : ((zs.map fun w => qv x S w * (-1)).take k ++ List.replicate (zs.length - k) (0 : Int)).length = zs.length := by simp; omega
          have hold : ((zs.map fun w => qv x S w * (-1)).take k ++ List.replicate (zs.length - k) (0 : Int))[k]? = some (0 : Int) := by
            rw [List.getElem?_append_right (by rw [List.length_take]; omega), List.length_take, List.length_map, Nat.min_eq_left (by omega), Nat.sub_self, List.getElem?_replicate, if_pos (by omega)]
          have hin : (0 : Int) ≤ (k : Int) ∧ (k : Int) < (zs.length : Int) := ⟨by omega, by omega⟩
          obtain ⟨hq0, hq1⟩ := hqb
          have hb1 : x - 1000000000000000 * ((k + 1 : Nat) : Int) ≤ L - q := by omega
          have hb2 : L - q ≤ x := by omega
          clear hc hzS hmem hz hq hm hzz hL hS hSp hx0 hx1 hqq hL0 hL1 hq0 hq1
          go_wp2_with (first
            | (go_at_call 30; with_reducible refine KO.mono ?_; rintro e w3 ⟨rfl, hb3⟩
               have hrow3 := hrow.below hb3
               have hcell3 := hrow3.cell hold
               have hfr3 := hrow3.frozen k))
          go_roundw
          case rel => exact ⟨k + 1, hlt, by go_num, by first | (rw [hL']; done) | (rw [hL', wL]), by rw [hL']; exact hb1, by rw [hL']; exact hb2, by rw [← hset]; first | exact hrow3.set k (-q) | (rw [wq]; exact hrow3.set k (-q)), (Below.thenB hb hb3).setCell (Nat.le_refl _) _⟩
          case measure => simp [intOf]; omega
        · have hk' : k = zs.length := by omega
          subst hk'
          rw [List.take_length] at hL
          have hlo := left_ok x S zs hSp hS (fun z hz => (hR z hz).1)
          rw [← hL] at hlo
          have htk : (zs.map fun w => qv x S w * (-1)).take zs.length = zs.map fun w => qv x S w * (-1) := List.take_of_length_le (by simp)
          rw [Nat.sub_self, List.replicate_zero, List.append_nil, htk] at hrow
          have hfin : ∀ z ∈ zs, 0 ≤ z := fun z hz => (hR z hz).1
          have hqb : ∀ z ∈ zs, 0 ≤ qv x S z ∧ qv x S z ≤ 1000000000000000 := fun z hz => qv_bound x S z hx0 hx1 hSp (hR z hz).1 (hmem.2 z hz)
          have hLx : L ≤ 1000000000000000 := by omega
          have hn0 : ¬ (zs.length : Int) = 0 := by omega
          clear hL0 hL1 hmem
          obtain ⟨fin, hfi⟩ : ∃ fin, fin = give x S (-1) L zs := ⟨_, rfl⟩
          go_wp2
          go_loopw [11, 17] (fun Lv i w' => ∃ (k : Nat) (L : Int) (done : List Int), k ≤ zs.length ∧ i = .int .i64 ((k % zs.length : Nat) : Int) ∧ Lv = .int .i64 L ∧ 0 ≤ L ∧ L ≤ posc (zs.drop k) ∧ L ≤ 1000000000000000 ∧ done.length = k ∧ Row (done ++ (zs.drop k).map fun w => qv x S w * (-1)) zs.length w1.heap.size w' ∧ done ++ give x S (-1) L (zs.drop k) = fin ∧ Below w1.heap.size w1 w') (fun Lv i w' => mu3 zs.length Lv i)
          case atStart => exact ⟨0, L, [], Nat.zero_le _, by simp, rfl, hlo.1, by simpa using hlo.2, hLx, rfl, by simpa using hrow, by simp [hfi], hb⟩
          case round =>
            obtain ⟨k, L, done, hk, rfl, rfl, hL0, hL1, hLx, hdl, hrow, hfin2, hb⟩ := hrel
            by_cases hpos : 0 < L
            · have hlt : k < zs.length := by
                rcases Nat.lt_or_ge k zs.length with h | h
                · exact h
                · rw [List.drop_eq_nil_of_le h] at hL1; simp only [posc] at hL1; omega
              have hmod : k % zs.length = k := Nat.mod_eq_of_lt hlt
              have hcell : wr.cell? ⟨b, off + k, none⟩ = some (.int .i64 zs[k]) := by
                have h0 := hc k hlt
                rw [hb.cell (cell_lt h0), h0]; simp [hlt]
              have hqk := hqb _ (List.getElem_mem hlt)
              rw [List.drop_eq_getElem_cons hlt] at hL1 hrow hfin2
              obtain ⟨z, hzz⟩ : ∃ z, z = zs[k] := ⟨_, rfl⟩
              rw [← hzz] at hcell hqk hL1 hrow hfin2
              have wk : wrap64 ((k : Int) + 1) = (k : Int) + 1 := wrap_ok _ (by omega) (by omega)
              rw [hmod]
              clear hmod
              simp only [posc] at hL1
              rw [List.map_cons] at hrow
              obtain ⟨F, hF⟩ : ∃ F, F = qv x S z * (-1) := ⟨_, rfl⟩
              obtain ⟨rest, hrest⟩ : ∃ rest, rest = (zs.drop (k + 1)).map fun w => qv x S w * (-1) := ⟨_, rfl⟩
              rw [← hF, ← hrest] at hrow
              have hFc := hrow.cell (i := k) (z := F) (by rw [List.getElem?_append_right (by omega), hdl, Nat.sub_self]; rfl)
              have hFf := hrow.frozen k
              have hFb : -1000000000000000 ≤ F ∧ F ≤ 1000000000000000 := by omega
              have hset : (done ++ F :: rest).set k (F + (-1)) = (done ++ [F + (-1)]) ++ rest := by
                rw [List.set_append_right _ _ (by omega), hdl, Nat.sub_self]; simp
              obtain ⟨kk, hkk⟩ : ∃ kk : Int, kk = (k : Int) := ⟨_, rfl⟩
              have hin0 : 0 ≤ kk := by rw [hkk]; exact Int.natCast_nonneg k
              have hin1 : kk < (zs.length : Int) := by rw [hkk]; exact Int.ofNat_lt.2 hlt
              have htn : kk.toNat = k := by rw [hkk]; rfl
              rw [← hkk] at wk ⊢
              rw [← htn] at hcell hFc hFf
              by_cases hz : 0 < z
              · rw [if_pos hz] at hL1
                have wL : wrap64 (L - 1) = L - 1 := wrap_ok _ (by omega) (by omega)
                have wF : wrap64 (F + (-1)) = F + (-1) := wrap_ok _ (by omega) (by omega)
                have hL2 : L - 1 ≤ posc (zs.drop (k + 1)) := by omega
                have hL3 : 0 ≤ L - 1 := by omega
                have hL4 : L - 1 ≤ 1000000000000000 := by omega
                have hfin3 : done ++ [F + (-1)] ++ give x S (-1) (L - 1) (zs.drop (k + 1)) = fin := by
                  rw [← hfin2]; conv => rhs; unfold give
                  rw [if_pos ⟨hz, hpos⟩, ← hF, List.append_assoc]; rfl
                have hdl2 : (done ++ [F + (-1)]).length = k + 1 := by simp [hdl]
                clear hc hqk hF hFb hzz hL1 hqb hfin hfin2 hR hSp hx0 hx1 hS hlo hL hfi
                change Hid _ at hL2 hdl2 hfin3 hset hdl hrest hkk htn
                go_wp2
                change _ ≤ _ at hL2
                change _ = _ at hdl2 hfin3 hset hdl hrest hkk htn
                rw [htn]
                subst hkk
                go_roundw
                case rel => exact ⟨k + 1, L - 1, done ++ [F + (-1)], hlt, by rw [tmod_next], by first | (rw [wL]; done) | rfl, hL3, hL2, hL4, hdl2, by rw [← hrest, ← hset]; first | (rw [wF]; exact hrow.set k (F + (-1))) | exact hrow.set k (F + (-1)), hfin3, hb.setCell (Nat.le_refl _) _⟩
                case measure => show mu3 _ (.int .i64 _) (.int .i64 _) < mu3 _ (.int .i64 _) (.int .i64 _); rw [tmod_next, mu3_at zs.length k L hpos]; first | exact mu3_next zs k hlt _ hL2 | (rw [wL]; exact mu3_next zs k hlt _ hL2)
              · rw [if_neg hz, Int.zero_add] at hL1
                have hfin3 : done ++ [F] ++ give x S (-1) L (zs.drop (k + 1)) = fin := by
                  rw [← hfin2]; conv => rhs; unfold give
                  rw [if_neg (fun h => hz h.1), ← hF, List.append_assoc]; rfl
                have hdl2 : (done ++ [F]).length = k + 1 := by simp [hdl]
                clear hc hqk hF hFb hzz hqb hfin hfin2 hR hSp hx0 hx1 hS hlo hL hfi
                change Hid _ at hL1 hdl2 hfin3 hset hdl hrest hkk htn
                go_wp2
                change _ ≤ _ at hL1
                change _ = _ at hdl2 hfin3 hset hdl hrest hkk htn
                subst hkk
                go_roundw
                case rel => exact ⟨k + 1, L, done ++ [F], hlt, by rw [tmod_next], rfl, hL0, hL1, hLx, hdl2, by rw [← hrest, List.append_assoc]; exact hrow, hfin3, hb⟩
                case measure => show mu3 _ (.int .i64 _) (.int .i64 _) < mu3 _ (.int .i64 _) (.int .i64 _); rw [tmod_next, mu3_at zs.length k L hpos]; exact mu3_next zs k hlt _ hL1
            · rw [give_zero _ _ _ _ _ (by omega)] at hfin2
              rw [hfin2] at hrow
              have hrow2 : Row (give x S (-1) (x - sumQ x S zs) zs) zs.length w1.heap.size wr := by rw [← hL, ← hfi]; exact hrow
              clear hc hqb hfin hR hSp hx0 hx1 hS hlo hL hfi
              go_wp2
              all_goals go_ret2
              all_goals exact ⟨rfl, hb, hrow2⟩
set_option maxHeartbeats 2000000 in
theorem share_gop (a : Int) (b off cap : Nat) (zs : List Int) (w : World)
    (hc : ∀ i, i < zs.length → w.cell? ⟨b, off + i, none⟩ = some (.int .i64 (zs.getD i 0))) (h1 : ¬ (zs.length : Int) < 1) (h2 : ¬ (1000 : Int) < zs.length) (hR : ∀ z ∈ zs, InR z)
    (K27 : Calls Tryd.prog 27 #[.int .i64 a] w fun e w' => e = .returned (.bool true) ∧ w' = w)
    (KA : Calls Tryd.prog 28 #[.func (.func 29) #[] #[], .slice (some ⟨b, off, none⟩) zs.length cap] w fun e w' => e = .returned (.bool true) ∧ w' = w) (S x : Int) (hneg : ¬ a < 0) (hS : sumI zs = S) (hS0 : ¬ S = 0) (hx0 : 0 ≤ a) (hx1 : a ≤ 1000000000000000) :
    Calls Tryd.prog 11 #[.int .i64 a, .slice (some ⟨b, off, none⟩) zs.length cap] w fun e w' => e = .returned (.tuple #[.slice (some ⟨w.heap.size, 0, none⟩) zs.length zs.length, .int .i64 0]) ∧ Below w.heap.size w w' ∧ Row (give a S 1 (a - sumQ a S zs) zs) zs.length w.heap.size w' := by
  obtain ⟨i0, hi0, hz0, hz1, hz2⟩ := info_parts int_info
  have hmem := sumI_mem zs (fun z hz => (hR z hz).1)
  have hSb := sumR_bound zs hR
  rw [hS] at hmem hSb
  have hSp : 0 < S := by have := hmem.1; omega
  go_enter Tryd.func11, Tryd.ntmps11
  go_wp2_with (first
    | (go_at_call 27; with_reducible refine K27.mono ?_; rintro e w1 ⟨rfl, rfl⟩)
    | (go_at_call 28; with_reducible refine KA.mono ?_; rintro e w1 ⟨rfl, rfl⟩))
  go_loop [6, 36] (fun s i => ∃ k : Nat, k ≤ zs.length ∧ i = .int .i64 k ∧ s = .int .i64 (sumI (zs.take k))) (fun _ i => zs.length - (intOf i).toNat)
  case atStart => exact ⟨0, Nat.zero_le _, rfl, rfl⟩
  case round =>
    obtain ⟨k, hk, rfl, rfl⟩ := hrel
    by_cases hlt : k < zs.length
    · have hcell : w1.cell? ⟨b, off + k, none⟩ = some (.int .i64 zs[k]) := by rw [hc k hlt]; simp [hlt]
      have hz := hR _ (List.getElem_mem hlt)
      have hs := sumI_succ hlt
      have hb0 := (sumI_mem (zs.take k) (fun z hz => (hR z (List.mem_of_mem_take hz)).1)).1
      have hb1 := sumR_bound (zs.take k) (fun z hz => hR z (List.mem_of_mem_take hz))
      have hlk : ((zs.take k).length : Int) ≤ 1000 := by rw [List.length_take]; omega
      obtain ⟨z, hzz⟩ : ∃ z, z = zs[k] := ⟨_, rfl⟩
      rw [← hzz] at hcell hz hs
      obtain ⟨s0, hs0⟩ : ∃ s0, s0 = sumI (zs.take k) := ⟨_, rfl⟩
      rw [← hs0] at hs hb0 hb1 ⊢
      obtain ⟨z0, z1⟩ := hz
      have ws : wrap64 (s0 + z) = s0 + z := wrap_ok _ (by omega) (by omega)
      clear hc hb0 hb1 hlk z0 z1 hzz hs0
      go_wp2
      exact ⟨⟨k + 1, hlt, by go_num, by first | (rw [hs]; done) | (rw [hs, ws])⟩, by simp [intOf]; omega⟩
    · have hk' : k = zs.length := by omega
      subst hk'
      rw [List.take_length]

      rw [hS]
      go_wp2_with (refine wpList_make_row _ rfl (.tmp 53) (.tmp 53) 22 rfl 3 i0 (.int .i64 0) Tryd.underlying22 hi0 hz0 hz1 rfl .i64 .i64 zs.length (by rfl) (by rfl) (by rw [hz2]; omega) (by omega) ?_)
      go_loopw [11, 57] (fun L i w' => ∃ k : Nat, k ≤ zs.length ∧ i = .int .i64 k ∧ L = .int .i64 (a - sumQ a S (zs.take k)) ∧ a - 1000000000000000 * (k : Int) ≤ a - sumQ a S (zs.take k) ∧ a - sumQ a S (zs.take k) ≤ a ∧ Row ((zs.map fun w => qv a S w * 1).take k ++ List.replicate (zs.length - k) 0) zs.length w1.heap.size w' ∧ Below w1.heap.size w1 w') (fun L i w' => zs.length - (intOf i).toNat)
      case atStart => exact ⟨0, Nat.zero_le _, rfl, by simp [sumQ], by simp [sumQ], by simp [sumQ], by simpa using Row.made w1 zs.length, (Below.refl _ _).alloc (Nat.le_refl _) _⟩
      case round =>
        obtain ⟨k, hk, rfl, rfl, hL0, hL1, hrow, hb⟩ := hrel
        obtain ⟨L, hL⟩ : ∃ L, L = a - sumQ a S (zs.take k) := ⟨_, rfl⟩
        rw [← hL] at hL0 hL1 ⊢
        by_cases hlt : k < zs.length
        · have hcell : wr.cell? ⟨b, off + k, none⟩ = some (.int .i64 zs[k]) := by
            have h0 := hc k hlt
            rw [hb.cell (cell_lt h0), h0]; simp [hlt]
          have hz := hR _ (List.getElem_mem hlt)
          have hzS := hmem.2 _ (List.getElem_mem hlt)
          have hq := sumQ_succ a S hlt
          have hset := set_step (zs.map fun w => qv a S w * 1) 0 (n := zs.length) (k := k) (by simp) (by simpa using hlt)
          rw [List.getElem_map] at hset
          obtain ⟨z, hzz⟩ : ∃ z, z = zs[k] := ⟨_, rfl⟩
          rw [← hzz] at hcell hz hzS hq hset
          have hqb := qv_bound a S z hx0 hx1 hSp hz.1 hzS
          have KO := over_any a z S wr hx0 hx1 hz.1 hz.2 hSp hzS (by omega)
          rw [show a * z / S = qv a S z from rfl] at KO
          obtain ⟨m, hm⟩ : ∃ m, m = a * z % S := ⟨_, rfl⟩
          obtain ⟨q, hqq⟩ : ∃ q, q = qv a S z := ⟨_, rfl⟩
          rw [← hm, ← hqq] at KO
          rw [← hqq] at hq hset hqb
          have eq : q * 1 = q := by omega
          rw [eq] at hset
          have wq : wrap64 (q) = q := wrap_ok _ (by omega) (by omega)
          have wL : wrap64 (L - q) = L - q := wrap_ok _ (by omega) (by omega)
          have hL' : a - sumQ a S (zs.take (k + 1)) = L - q := by rw [hq]; omega
          have hlenv : ((zs.map fun w => qv a S w * 1).take k ++ List.replicate (zs.length - k) (0 : Int)).length = zs.length := by simp; omega
          have hold : ((zs.map fun w => qv a S w * 1).take k ++ List.replicate (zs.length - k) (0 : Int))[k]? = some (0 : Int) := by
            rw [List.getElem?_append_right (by rw [List.length_take]; omega), List.length_take, List.length_map, Nat.min_eq_left (by omega), Nat.sub_self, List.getElem?_replicate, if_pos (by omega)]
          have hin : (0 : Int) ≤ (k : Int) ∧ (k : Int) < (zs.length : Int) := ⟨by omega, by omega⟩
          obtain ⟨hq0, hq1⟩ := hqb
          have hb1 : a - 1000000000000000 * ((k + 1 : Nat) : Int) ≤ L - q := by omega
          have hb2 : L - q ≤ a := by omega
          clear hc hzS hmem hz hq hm hzz hL hS hSp hx0 hx1 hqq hL0 hL1 hq0 hq1
          go_wp2_with (first
            | (go_at_call 30; with_reducible refine KO.mono ?_; rintro e w3 ⟨rfl, hb3⟩
               have hrow3 := hrow.below hb3
               have hcell3 := hrow3.cell hold
               have hfr3 := hrow3.frozen k))
          go_roundw
          case rel => exact ⟨k + 1, hlt, by go_num, by first | (rw [hL']; done) | (rw [hL', wL]), by rw [hL']; exact hb1, by rw [hL']; exact hb2, by rw [← hset]; first | exact hrow3.set k (q) | (rw [wq]; exact hrow3.set k (q)), (Below.thenB hb hb3).setCell (Nat.le_refl _) _⟩
          case measure => simp [intOf]; omega
        · have hk' : k = zs.length := by omega
          subst hk'
          rw [List.take_length] at hL
          have hlo := left_ok a S zs hSp hS (fun z hz => (hR z hz).1)
          rw [← hL] at hlo
          have htk : (zs.map fun w => qv a S w * 1).take zs.length = zs.map fun w => qv a S w * 1 := List.take_of_length_le (by simp)
          rw [Nat.sub_self, List.replicate_zero, List.append_nil, htk] at hrow
          have hfin : ∀ z ∈ zs, 0 ≤ z := fun z hz => (hR z hz).1
          have hqb : ∀ z ∈ zs, 0 ≤ qv a S z ∧ qv a S z ≤ 1000000000000000 := fun z hz => qv_bound a S z hx0 hx1 hSp (hR z hz).1 (hmem.2 z hz)
          have hLx : L ≤ 1000000000000000 := by omega
          have hn0 : ¬ (zs.length : Int) = 0 := by omega
          clear hL0 hL1 hmem
          obtain ⟨fin, hfi⟩ : ∃ fin, fin = give a S 1 L zs := ⟨_, rfl⟩
          go_wp2
          go_loopw [11, 17] (fun Lv i w' => ∃ (k : Nat) (L : Int) (done : List Int), k ≤ zs.length ∧ i = .int .i64 ((k % zs.length : Nat) : Int) ∧ Lv = .int .i64 L ∧ 0 ≤ L ∧ L ≤ posc (zs.drop k) ∧ L ≤ 1000000000000000 ∧ done.length = k ∧ Row (done ++ (zs.drop k).map fun w => qv a S w * 1) zs.length w1.heap.size w' ∧ done ++ give a S 1 L (zs.drop k) = fin ∧ Below w1.heap.size w1 w') (fun Lv i w' => mu3 zs.length Lv i)
          case atStart => exact ⟨0, L, [], Nat.zero_le _, by simp, rfl, hlo.1, by simpa using hlo.2, hLx, rfl, by simpa using hrow, by simp [hfi], hb⟩
          case round =>
            obtain ⟨k, L, done, hk, rfl, rfl, hL0, hL1, hLx, hdl, hrow, hfin2, hb⟩ := hrel
            by_cases hpos : 0 < L
            · have hlt : k < zs.length := by
                rcases Nat.lt_or_ge k zs.length with h | h
                · exact h
                · rw [List.drop_eq_nil_of_le h] at hL1; simp only [posc] at hL1; omega
              have hmod : k % zs.length = k := Nat.mod_eq_of_lt hlt
              have hcell : wr.cell? ⟨b, off + k, none⟩ = some (.int .i64 zs[k]) := by
                have h0 := hc k hlt
                rw [hb.cell (cell_lt h0), h0]; simp [hlt]
              have hqk := hqb _ (List.getElem_mem hlt)
              rw [List.drop_eq_getElem_cons hlt] at hL1 hrow hfin2
              obtain ⟨z, hzz⟩ : ∃ z, z = zs[k] := ⟨_, rfl⟩
              rw [← hzz] at hcell hqk hL1 hrow hfin2
              have wk : wrap64 ((k : Int) + 1) = (k : Int) + 1 := wrap_ok _ (by omega) (by omega)
              rw [hmod]
              clear hmod
              simp only [posc] at hL1
              rw [List.map_cons] at hrow
              obtain ⟨F, hF⟩ : ∃ F, F = qv a S z * 1 := ⟨_, rfl⟩
              obtain ⟨rest, hrest⟩ : ∃ rest, rest = (zs.drop (k + 1)).map fun w => qv a S w * 1 := ⟨_, rfl⟩
              rw [← hF, ← hrest] at hrow
              have hFc := hrow.cell (i := k) (z := F) (by rw [List.getElem?_append_right (by omega), hdl, Nat.sub_self]; rfl)
              have hFf := hrow.frozen k
              have hFb : -1000000000000000 ≤ F ∧ F ≤ 1000000000000000 := by omega
              have hset : (done ++ F :: rest).set k (F + 1) = (done ++ [F + 1]) ++ rest := by
                rw [List.set_append_right _ _ (by omega), hdl, Nat.sub_self]; simp
              obtain ⟨kk, hkk⟩ : ∃ kk : Int, kk = (k : Int) := ⟨_, rfl⟩
              have hin0 : 0 ≤ kk := by rw [hkk]; exact Int.natCast_nonneg k
              have hin1 : kk < (zs.length : Int) := by rw [hkk]; exact Int.ofNat_lt.2 hlt
              have htn : kk.toNat = k := by rw [hkk]; rfl
              rw [← hkk] at wk ⊢
              rw [← htn] at hcell hFc hFf
              by_cases hz : 0 < z
              · rw [if_pos hz] at hL1
                have wL : wrap64 (L - 1) = L - 1 := wrap_ok _ (by omega) (by omega)
                have wF : wrap64 (F + 1) = F + 1 := wrap_ok _ (by omega) (by omega)
                have hL2 : L - 1 ≤ posc (zs.drop (k + 1)) := by omega
                have hL3 : 0 ≤ L - 1 := by omega
                have hL4 : L - 1 ≤ 1000000000000000 := by omega
                have hfin3 : done ++ [F + 1] ++ give a S 1 (L - 1) (zs.drop (k + 1)) = fin := by
                  rw [← hfin2]; conv => rhs; unfold give
                  rw [if_pos ⟨hz, hpos⟩, ← hF, List.append_assoc]; rfl
                have hdl2 : (done ++ [F + 1]).length = k + 1 := by simp [hdl]
                clear hc hqk hF hFb hzz hL1 hqb hfin hfin2 hR hSp hx0 hx1 hS hlo hL hfi
                change Hid _ at hL2 hdl2 hfin3 hset hdl hrest hkk htn
                go_wp2
                change _ ≤ _ at hL2
                change _ = _ at hdl2 hfin3 hset hdl hrest hkk htn
                rw [htn]
                subst hkk
                go_roundw
                case rel => exact ⟨k + 1, L - 1, done ++ [F + 1], hlt, by rw [tmod_next], by first | (rw [wL]; done) | rfl, hL3, hL2, hL4, hdl2, by rw [← hrest, ← hset]; first | (rw [wF]; exact hrow.set k (F + 1)) | exact hrow.set k (F + 1), hfin3, hb.setCell (Nat.le_refl _) _⟩
                case measure => show mu3 _ (.int .i64 _) (.int .i64 _) < mu3 _ (.int .i64 _) (.int .i64 _); rw [tmod_next, mu3_at zs.length k L hpos]; first | exact mu3_next zs k hlt _ hL2 | (rw [wL]; exact mu3_next zs k hlt _ hL2)
              · rw [if_neg hz, Int.zero_add] at hL1
                have hfin3 : done ++ [F] ++ give a S 1 L (zs.drop (k + 1)) = fin := by
                  rw [← hfin2]; conv => rhs; unfold give
                  rw [if_neg (fun h => hz h.1), ← hF, List.append_assoc]; rfl
                have hdl2 : (done ++ [F]).length = k + 1 := by simp [hdl]
                clear hc hqk hF hFb hzz hqb hfin hfin2 hR hSp hx0 hx1 hS hlo hL hfi
                change Hid _ at hL1 hdl2 hfin3 hset hdl hrest hkk htn
                go_wp2
                change _ ≤ _ at hL1
                change _ = _ at hdl2 hfin3 hset hdl hrest hkk htn
                subst hkk
                go_roundw
                case rel => exact ⟨k + 1, L, done ++ [F], hlt, by rw [tmod_next], rfl, hL0, hL1, hLx, hdl2, by rw [← hrest, List.append_assoc]; exact hrow, hfin3, hb⟩
                case measure => show mu3 _ (.int .i64 _) (.int .i64 _) < mu3 _ (.int .i64 _) (.int .i64 _); rw [tmod_next, mu3_at zs.length k L hpos]; exact mu3_next zs k hlt _ hL1
            · rw [give_zero _ _ _ _ _ (by omega)] at hfin2
              rw [hfin2] at hrow
              have hrow2 : Row (give a S 1 (a - sumQ a S zs) zs) zs.length w1.heap.size wr := by rw [← hL, ← hfi]; exact hrow
              clear hc hqb hfin hR hSp hx0 hx1 hS hlo hL hfi
              go_wp2
              all_goals go_ret2
              all_goals exact ⟨rfl, hb, hrow2⟩
end Go.Proofs.YtpbgaoodokapeaaDoor
