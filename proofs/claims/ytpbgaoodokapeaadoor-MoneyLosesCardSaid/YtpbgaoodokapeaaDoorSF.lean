/- The walk of hopperlaw22.MoneyLoses. -/
import Derived.Test.YtpbgaoodokapeaaDoorSE
import Derived.Test.YtpbgaoodokapeaaDoorRE
import Derived.Deep.QuietTactic
import Derived.BigQuiet
open Go Go.RowKit
namespace Go.Proofs.YtpbgaoodokapeaaDoor
set_option linter.unusedVariables false
set_option linter.unusedSimpArgs false
set_option maxRecDepth 4000
theorem loses_err (a : Int) (E : Int) (v : Value) (w : World) (hE : ¬ E = 0)
    (KW : ∀ w', w' = w → Calls Tryd.prog 16 #[] w' fun e w2 => e = .returned (.bool true) ∧ Below w'.heap.size w' w2)
    (KS : ∀ w1, Below w.heap.size w w1 → Calls Tryd.prog 11 #[.int .i64 a, v] w1 fun e w' => e = .returned (.tuple #[.slice none 0 0, .int .i64 E]) ∧ Below w1.heap.size w1 w') :
    Calls Tryd.prog 6 #[.int .i64 a, v] w fun e w' => e = .returned (.bool true) ∧ Below w.heap.size w w' := by
  go_enter Tryd.func6, Tryd.ntmps6
  go_wp2_with (first
    | (go_at_call 16; with_reducible refine (KW _ rfl).mono ?_; rintro e w1 ⟨rfl, hb1⟩)
    | (go_at_call 11; with_reducible refine (KS _ hb1).mono ?_; rintro e w2 ⟨rfl, hb2⟩))
  all_goals go_ret
  all_goals exact ⟨rfl, Below.thenB hb1 hb2⟩
set_option maxHeartbeats 2000000 in
theorem loses_walk (a : Int) (b off c : Nat) (zs out : List Int) (w : World) (hlo : out.length = zs.length) (hn : zs.length ≤ 1000)
    (hc : ∀ i, i < zs.length → w.cell? ⟨b, off + i, none⟩ = some (.int .i64 (zs.getD i 0)))
    (hB : ∀ i (h : i < zs.length), ∃ o, out[i]? = some o ∧ (zs[i] = 0 → o = 0) ∧ (0 ≤ a → 0 ≤ o) ∧ (a ≤ 0 → o ≤ 0) ∧ -1000000000000000 ≤ o ∧ o ≤ 1000000000000000)
    (hM : ∀ i k (h : i < zs.length) (h' : k < zs.length) oi ok, out[i]? = some oi → out[k]? = some ok → zs[i] ≤ zs[k] → (a < 0 → -oi ≤ -ok + 1) ∧ (0 ≤ a → oi ≤ ok + 1))
    (KW : ∀ w', w' = w → Calls Tryd.prog 16 #[] w' fun e w2 => e = .returned (.bool true) ∧ Below w'.heap.size w' w2)
    (KS : ∀ w1, Below w.heap.size w w1 → Calls Tryd.prog 11 #[.int .i64 a, .slice (some ⟨b, off, none⟩) zs.length c] w1 fun e w' => ∃ g, e = .returned (.tuple #[.slice (some ⟨g, 0, none⟩) zs.length zs.length, .int .i64 0]) ∧ Below w1.heap.size w1 w' ∧ Row out zs.length g w')
    (KM : ∀ v w, Sl out v w → Calls Tryd.prog 18 #[v] w fun e w' => e = .returned (.tuple #[.int .i64 a, .int .i64 0]) ∧ w' = w) :
    Calls Tryd.prog 6 #[.int .i64 a, .slice (some ⟨b, off, none⟩) zs.length c] w fun e w' => e = .returned (.bool true) ∧ Below w.heap.size w w' := by
  go_enter Tryd.func6, Tryd.ntmps6
  go_wp2_with (first
    | (go_at_call 16; with_reducible refine (KW _ rfl).mono ?_; rintro e w1 ⟨rfl, hb1⟩)
    | (go_at_call 11; with_reducible refine (KS _ hb1).mono ?_; rintro e w2 ⟨g, rfl, hb2, hrow⟩)
    | (go_at_call 18; with_reducible refine (KM _ _ (by have h := hrow.sl zs.length; rw [hlo] at h; exact h)).mono ?_; rintro e w3 ⟨rfl, rfl⟩))
  · go_ret
    exact ⟨rfl, Below.thenB hb1 hb2⟩
  · have hb12 : Below w.heap.size w w3 := Below.thenB hb1 hb2
    clear KW KS KM hb1 hb2
    go_loopw [66] (fun i w' => ∃ k : Nat, k ≤ zs.length ∧ i = .int .i64 k ∧ Below w.heap.size w w' ∧ Row out zs.length g w') (fun i w' => zs.length - (intOf i).toNat)
    case atStart => exact ⟨0, Nat.zero_le _, rfl, hb12, hrow⟩
    case round =>
      obtain ⟨k, hk, rfl, hb, hr⟩ := hrel
      by_cases hlt : k < zs.length
      · obtain ⟨o, ho, o1, o2, o3, o4, o5⟩ := hB k hlt
        have hcell : wr.cell? ⟨b, off + k, none⟩ = some (.int .i64 zs[k]) := by
          have h0 := hc k hlt
          rw [hb.cell (cell_lt h0), h0]; simp [hlt]
        have hcell2 := hr.cell ho
        have hMk := hM k
        obtain ⟨z, hz⟩ : ∃ z, z = zs[k] := ⟨_, rfl⟩
        rw [← hz] at hcell o1
        have hcs : (a < 0 ∧ ¬ 0 ≤ a ∧ o ≤ 0 ∧ (z = 0 ∧ o = 0 ∨ ¬ z = 0)) ∨ (0 ≤ a ∧ ¬ a ≤ 0 ∧ 0 ≤ o ∧ (z = 0 ∧ o = 0 ∨ ¬ z = 0)) ∨ (0 ≤ a ∧ a ≤ 0 ∧ o = 0 ∧ (z = 0 ∧ o = 0 ∨ ¬ z = 0)) := by
          have : z = 0 ∧ o = 0 ∨ ¬ z = 0 := by
            by_cases h : z = 0
            · exact .inl ⟨h, o1 h⟩
            · exact .inr h
          rcases Int.lt_trichotomy a 0 with h | h | h
          · exact .inl ⟨h, by omega, o3 (by omega), this⟩
          · exact .inr (.inr ⟨by omega, by omega, by have := o2 (by omega); have := o3 (by omega); omega, this⟩)
          · exact .inr (.inl ⟨by omega, by omega, o2 (by omega), this⟩)
        have wo : wrap64 (-o) = -o := wrap_ok _ (by omega) (by omega)
        have hz' := hz
        clear o1 o2 o3 hz o4 o5
        rcases hcs with ⟨g1, g2, g3, ⟨g4, g5⟩ | g4⟩ | ⟨g1, g2, g3, ⟨g4, g5⟩ | g4⟩ | ⟨g1, g2, g3, ⟨g4, g5⟩ | g4⟩
        all_goals go_wp2
        all_goals (try clear g5)
        all_goals clear g4
        all_goals clear g3
        all_goals (
          go_loopw [105] (fun i w' => ∃ k : Nat, k ≤ zs.length ∧ i = .int .i64 k ∧ Below w.heap.size w w' ∧ Row out zs.length g w') (fun i w' => zs.length - (intOf i).toNat)
          case atStart => exact ⟨0, Nat.zero_le _, rfl, hb, hr⟩
          case round =>
            obtain ⟨k2, hk2, rfl, hb, hr⟩ := hrel
            by_cases hlt2 : k2 < zs.length
            · obtain ⟨u, hu, _, _, _, u4, u5⟩ := hB k2 hlt2
              have hcellw : wr.cell? ⟨b, off + k, none⟩ = some (.int .i64 z) := by
                have h0 := hc k hlt
                rw [hb.cell (cell_lt h0), h0, hz']; simp [hlt]
              have hcellw2 : wr.cell? ⟨b, off + k2, none⟩ = some (.int .i64 zs[k2]) := by
                have h0 := hc k2 hlt2
                rw [hb.cell (cell_lt h0), h0]; simp [hlt2]
              have hcello := hr.cell ho
              have hcellu := hr.cell hu
              have hm := hMk k2 hlt hlt2 o u ho hu
              rw [← hz'] at hm
              obtain ⟨y, hy⟩ : ∃ y, y = zs[k2] := ⟨_, rfl⟩
              rw [← hy] at hcellw2 hm
              have wu : wrap64 (-u) = -u := wrap_ok _ (by omega) (by omega)
              have wu1 : wrap64 (u + 1) = u + 1 := wrap_ok _ (by omega) (by omega)
              have wu2 : wrap64 (-u + 1) = -u + 1 := wrap_ok _ (by omega) (by omega)
              clear hc hB hM hMk hy hz' u4 u5 hcell hcell2
              by_cases hle : z ≤ y
              · obtain ⟨m1, m2⟩ := hm hle
                by_cases hneg : a < 0
                · have m3 := m1 hneg
                  clear m1 m2 hm
                  first
                    | (exfalso; omega)
                    | (go_wp2
                       go_quiet (fail)
                       go_wp2
                       go_quiet (fail)
                       go_wp2
                       exact ⟨⟨k2 + 1, hlt2, by go_num, drewN_B hb _, hr⟩, by simp [intOf]; omega⟩)
                · have m3 := m2 (by omega)
                  clear m1 m2 hm
                  first
                    | (exfalso; omega)
                    | (go_wp2
                       go_quiet (fail)
                       go_wp2
                       go_quiet (fail)
                       go_wp2
                       exact ⟨⟨k2 + 1, hlt2, by go_num, drewN_B hb _, hr⟩, by simp [intOf]; omega⟩)
              · clear hm
                have hle2 : decide (z ≤ y) = false := decide_eq_false hle
                go_wp2
                go_quiet (fail)
                go_wp2
                have hle3 : ¬ z ≤ y := by omega
                go_quiet (fail)
                go_wp2
                exact ⟨⟨k2 + 1, hlt2, by go_num, drewN_B hb _, hr⟩, by simp [intOf]; omega⟩
            · have hk' : k2 = zs.length := by omega
              subst hk'
              clear hc hB hM hMk
              go_wp2
              exact ⟨⟨k + 1, hlt, by go_num, hb, hr⟩, by simp [intOf]; omega⟩)
      · have hk' : k = zs.length := by omega
        subst hk'
        clear hc hB hM
        go_wp2
        all_goals go_ret
        all_goals exact ⟨rfl, hb⟩
end Go.Proofs.YtpbgaoodokapeaaDoor
