/- What the document's Share returns; the walk of hopperlaw22.MoneyShares. -/
import Derived.Test.YtpbgaoodokapeaaDoorSH
open Go Go.RowKit
namespace Go.Proofs.YtpbgaoodokapeaaDoor
set_option linter.unusedVariables false
set_option linter.unusedSimpArgs false
set_option maxRecDepth 4000
theorem refShare_any {zs : List Int} {v : Value} {w : World} (a : Int) (h : Sl zs v w) :
    Calls Tryd.prog 12 #[.int .i64 a, v] w fun e w' => ∃ rv, e = .returned (.tuple #[rv, .int .i64 (shE a zs)]) ∧ Below w.heap.size w w' ∧
      (¬ shE a zs = 0 → rv = .slice none 0 0) ∧ (shE a zs = 0 → ∃ g c2, rv = .slice (some ⟨g, 0, none⟩) zs.length c2 ∧ w.heap.size ≤ g ∧ Row (shL a zs) c2 g w') := by
  by_cases hA : InM a
  · have K := may_eq a true (decide_eq_true hA) w
    by_cases hO : shOk zs
    · have e0 : shE a zs = 0 := by unfold shE; rw [if_pos hA, if_pos hO]
      have hO' := hO
      obtain ⟨n1, n2, hR, hS⟩ := hO'
      rcases h with ⟨b, off, cap, rfl, hc⟩ | ⟨rfl, _⟩
      · obtain ⟨a1, a2⟩ := hA
        by_cases ha : a < 0
        · have hsg : sgn a = -1 := if_pos ha
          have hmg : mag a = -a := if_pos ha
          refine (refShare_gon a b off cap zs w hc (by omega) (by omega) K (sumI zs) (-a) ha rfl hR rfl hS (by omega) (by omega)).mono ?_
          rintro e w' ⟨g, c2, rfl, hg, hb, hrow⟩
          rw [e0]
          exact ⟨_, rfl, hb, fun h => absurd rfl h, fun _ => ⟨g, c2, rfl, hg, by unfold shL; rw [hsg, hmg]; exact hrow⟩⟩
        · have hsg : sgn a = 1 := if_neg ha
          have hmg : mag a = a := if_neg ha
          refine (refShare_gop a b off cap zs w hc (by omega) (by omega) K (sumI zs) 0 ha hR rfl hS (by omega) (by omega)).mono ?_
          rintro e w' ⟨g, c2, rfl, hg, hb, hrow⟩
          rw [e0]
          exact ⟨_, rfl, hb, fun h => absurd rfl h, fun _ => ⟨g, c2, rfl, hg, by unfold shL; rw [hsg, hmg]; exact hrow⟩⟩
      · simp at n1
    · have e0 : shE a zs = 1 := by unfold shE; rw [if_pos hA, if_neg hO]
      rw [e0]
      have done : ∀ (e : Ending) (w' : World), (e = .returned (.tuple #[.slice none 0 0, .int .i64 1]) ∧ w' = w) → ∃ rv : Value, e = .returned (.tuple #[rv, .int .i64 1]) ∧ Below w.heap.size w w' ∧
          (¬ (1 : Int) = 0 → rv = .slice none 0 0) ∧ ((1 : Int) = 0 → ∃ g c2, rv = .slice (some ⟨g, 0, none⟩) zs.length c2 ∧ w.heap.size ≤ g ∧ Row (shL a zs) c2 g w') := by
        rintro e w' ⟨rfl, rfl⟩
        exact ⟨_, rfl, Below.refl _ _, fun _ => rfl, fun h => by cases h⟩
      by_cases hn : (zs.length : Int) < 1 ∨ (¬ (zs.length : Int) < 1 ∧ (1000 : Int) < zs.length)
      · rcases h with ⟨b, off, cap, rfl, hc⟩ | ⟨rfl, p, c, rfl, _⟩
        · exact (refShare_bad2 a _ _ _ w hn K).mono done
        · exact (refShare_bad2 a p 0 c w (.inl (by decide)) K).mono done
      · rcases h with ⟨b, off, cap, rfl, hc⟩ | ⟨rfl, _⟩
        · have h1 : ¬ (zs.length : Int) < 1 := fun h => hn (.inl h)
          have h2 : ¬ (1000 : Int) < zs.length := fun h => hn (.inr ⟨h1, h⟩)
          exact (refShare_bad3 a b off cap zs w hc h1 h2 K (fun h => hO ⟨by omega, by omega, h.1, h.2⟩)).mono done
        · simp at hn
  · have e0 : shE a zs = 220 := by unfold shE; rw [if_neg hA]
    rw [e0]
    refine (refShare_bad1 a v w (may_eq a false (decide_eq_false hA) w)).mono ?_
    rintro e w' ⟨rfl, rfl⟩
    exact ⟨_, rfl, Below.refl _ _, fun _ => rfl, fun h => by cases h⟩
theorem Lent.lt {zs : List Int} {v : Value} {base : Nat} {w : World} (h : Lent zs v base w) : ∃ g cap, v = .slice (some ⟨g, 0, none⟩) zs.length cap ∧ g < w.heap.size := by
  obtain ⟨g, cap, rfl, h1, h2, h3, hc⟩ := h
  exact ⟨g, cap, rfl, cell_lt (hc zs.length (.int .i64 (-77)) (by simp))⟩
theorem shares_walk (a E : Int) (v : Value) (zs out : List Int) (w : World) (hV : Sl zs v w)
    (KL : Calls Tryd.prog 10 #[v] w fun e' w' => ∃ u, e' = .returned u ∧ Lent zs u w.heap.size w' ∧ Below w.heap.size w w')
    (KX : ∀ u w, Sl zs u w → Calls Tryd.prog 11 #[.int .i64 a, u] w fun e w' => ∃ x, e = .returned (.tuple #[x, .int .i64 E]) ∧ Below w.heap.size w w' ∧ Sl out x w' ∧
      (x = .slice none 0 0 ∨ ∃ g n c, x = .slice (some ⟨g, 0, none⟩) n c ∧ w.heap.size ≤ g ∧ n ≤ c ∧ c ≤ maxLen ∧ Row [] c g w'))
    (KY : ∀ u w, Sl zs u w → Calls Tryd.prog 12 #[.int .i64 a, u] w fun e w' => ∃ x, e = .returned (.tuple #[x, .int .i64 E]) ∧ Below w.heap.size w w' ∧ Sl out x w')
    (KZ : ∀ u v w, Sl out u w → Sl out v w → Calls Tryd.prog 13 #[u, v] w fun e' w' => e' = .returned (.bool true) ∧ Below w.heap.size w w')
    (KP : ∀ x (m : Nat) w, (x = .slice none 0 0 ∨ ∃ g n c, x = .slice (some ⟨g, 0, none⟩) n c ∧ m ≤ g ∧ n ≤ c ∧ c ≤ maxLen ∧ Row [] c g w) → m ≤ w.heap.size → Calls Tryd.prog 14 #[x, .int .i64 (-7)] w fun e w' => ∃ v, e = .returned v ∧ Below m w w')
    (KK : ∀ u v b w, Lent zs u b w → Sl zs v w → Calls Tryd.prog 15 #[u, v] w fun e' w' => e' = .returned (.bool true) ∧ Below w.heap.size w w')
    (KW : ∀ w', Below w.heap.size w w' → Calls Tryd.prog 16 #[] w' fun e w2 => e = .returned (.bool true) ∧ Below w'.heap.size w' w2) :
    Calls Tryd.prog 3 #[.int .i64 a, v] w fun e w' => e = .returned (.bool true) ∧ Below w.heap.size w w' := by
  go_enter Tryd.func3, Tryd.ntmps3
  go_wp2_with (first
    | (go_at_call 10; with_reducible refine KL.mono ?_; rintro e w1 ⟨u, rfl, hL1, hb1⟩; have hS1 := hV.below hb1)
    | (go_at_call 11; with_reducible refine (KX _ _ hL1.sl).mono ?_; rintro e w2 ⟨x, rfl, hb2, hx2, hxs⟩; have hL2 := hL1.below hb2; have hS2 := hS1.below hb2)
    | (go_at_call 12; with_reducible refine (KY _ _ hS2).mono ?_; rintro e w3 ⟨y, rfl, hb3, hy3⟩; have hL3 := hL2.below hb3; have hS3 := hS2.below hb3; have hx3 := hx2.below hb3)
    | (go_at_call 13; with_reducible refine (KZ _ _ _ hx3 hy3).mono ?_; rintro e w4 ⟨rfl, hb4⟩
       have hb24 : Below w1.heap.size w1 w4 := Below.thenB (Below.thenB hb2 hb3) hb4
       have hb4' : Below w2.heap.size w2 w4 := Below.thenB hb3 hb4
       have hxs4 : x = .slice none 0 0 ∨ ∃ g n c, x = .slice (some ⟨g, 0, none⟩) n c ∧ w1.heap.size ≤ g ∧ n ≤ c ∧ c ≤ maxLen ∧ Row [] c g w4 := by
         rcases hxs with h | ⟨g, n, c, h1, h2, h3, h4, h5⟩
         · exact .inl h
         · exact .inr ⟨g, n, c, h1, h2, h3, h4, h5.below hb4'⟩)
    | (go_at_call 14; with_reducible refine (KP _ w1.heap.size _ hxs4 hb24.size).mono ?_; rintro e w5 ⟨_, rfl, hb5⟩
       have hb15 : Below w1.heap.size w1 w5 := hb24.trans hb5
       have hL5 := hL1.below hb15
       have hS5 := hS1.below hb15
       have hb05 := Below.thenB hb1 hb15)
    | (go_at_call 15; with_reducible refine (KK _ _ _ _ hL5 hS5).mono ?_; rintro e w6 ⟨rfl, hb6⟩; have hb06 := Below.thenB hb05 hb6)
    | (go_at_call 16; with_reducible refine (KW _ hb06).mono ?_; rintro e w7 ⟨rfl, hb7⟩))
  all_goals go_ret
  all_goals exact ⟨rfl, Below.thenB hb06 hb7⟩
end Go.Proofs.YtpbgaoodokapeaaDoor
