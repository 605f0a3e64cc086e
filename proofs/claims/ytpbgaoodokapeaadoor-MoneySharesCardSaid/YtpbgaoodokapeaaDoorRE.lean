import Derived.Test.YtpbgaoodokapeaaDoorRD
open Go Go.RowKit
namespace Go.Proofs.YtpbgaoodokapeaaDoor
set_option linter.unusedVariables false
set_option linter.unusedSimpArgs false
set_option maxRecDepth 4000
theorem Sl.below {zs : List Int} {v : Value} {a b : World} (h : Sl zs v a) (k : Below a.heap.size a b) : Sl zs v b := by
  rcases h with ⟨c, off, cap, rfl, hc⟩ | h
  · exact .inl ⟨c, off, cap, rfl, fun i hi => by rw [k.cell (cell_lt (hc i hi)), hc i hi]⟩
  · exact .inr h
theorem Lent.below {zs : List Int} {v : Value} {base : Nat} {a b : World} (h : Lent zs v base a) (k : Below a.heap.size a b) : Lent zs v base b := by
  obtain ⟨g, cap, rfl, h1, h2, h3, hc⟩ := h
  exact ⟨g, cap, rfl, h1, h2, h3, fun i u hu => by rw [k.cell (cell_lt (hc i u hu)), hc i u hu]⟩
theorem kept_any {zs : List Int} {u v : Value} {base : Nat} {w : World} (h : Lent zs u base w) (h' : Sl zs v w) (hlen : zs.length ≤ 140737488355328) :
    Calls Tryd.prog 15 #[u, v] w fun e' w' => e' = .returned (.bool true) ∧ Below w.heap.size w w' := by
  have K := same_any h.sl h' hlen
  obtain ⟨g, cap, rfl, h1, h2, h3, hc⟩ := h
  refine kept_walk g cap zs.length v w ?_ h2 h3 (hc zs.length _ (by simp)) K
  rcases h' with ⟨b, off, cap, rfl, _⟩ | ⟨rfl, p, c, rfl, _⟩
  · exact ⟨_, _, rfl⟩
  · exact ⟨_, _, rfl⟩
theorem sums_many (p : Option Addr) (n c : Nat) (a m : Int) (w : World) (hn : (5000 : Int) < (n : Int))
    (KW : ∀ w', w' = w → Calls Tryd.prog 16 #[] w' fun e w2 => e = .returned (.bool true) ∧ Below w'.heap.size w' w2) :
    Calls Tryd.prog 5 #[.slice p n c, .int .i64 a, .int .i64 m] w fun e w' => e = .returned (.bool true) ∧ Below w.heap.size w w' := by
  have h2 : decide ((5000 : Int) < (n : Int)) = true := decide_eq_true hn
  clear hn
  go_enter Tryd.func5, Tryd.ntmps5
  go_wp2_with (first
    | (refine wp_cond_true (congrArg Value.bool h2) ?_)
    | (go_at_call 16; with_reducible refine (KW _ rfl).mono ?_; rintro e w1 ⟨rfl, hb1⟩))
  all_goals go_ret
  all_goals exact ⟨rfl, hb1⟩
theorem sums_walk (p : Option Addr) (n c : Nat) (zs : List Int) (a m x e y f q g : Int) (w : World) (hn : ¬ (5000 : Int) < (n : Int)) (hV : Sl zs (.slice p n c) w)
    (KL : Calls Tryd.prog 10 #[.slice p n c] w fun e' w' => ∃ v, e' = .returned v ∧ Lent zs v w.heap.size w' ∧ Below w.heap.size w w')
    (KS : ∀ v w, Sl zs v w → Calls Tryd.prog 18 #[v] w fun e' w' => e' = .returned (.tuple #[.int .i64 x, .int .i64 e]) ∧ w' = w)
    (KRS : ∀ v w, Sl zs v w → Calls Tryd.prog 19 #[v] w fun e' w' => e' = .returned (.tuple #[.int .i64 x, .int .i64 e]) ∧ w' = w)
    (KP : ∀ w, Calls Tryd.prog 17 #[.int .i64 a, .int .i64 m] w fun e' w' => e' = .returned (.tuple #[.int .i64 y, .int .i64 f]) ∧ Below w.heap.size w w')
    (KRP : ∀ w, Calls Tryd.prog 20 #[.int .i64 a, .int .i64 m] w fun e' w' => e' = .returned (.tuple #[.int .i64 y, .int .i64 f]) ∧ w' = w)
    (KQ : ∀ v w, Sl zs v w → Calls Tryd.prog 21 #[.int .i64 a, .int .i64 m, v] w fun e' w' => e' = .returned (.tuple #[.int .i64 q, .int .i64 g]) ∧ Below w.heap.size w w')
    (KRQ : ∀ v w, Sl zs v w → Calls Tryd.prog 22 #[.int .i64 a, .int .i64 m, v] w fun e' w' => e' = .returned (.tuple #[.int .i64 q, .int .i64 g]) ∧ w' = w)
    (KK : ∀ u v b w, Lent zs u b w → Sl zs v w → Calls Tryd.prog 15 #[u, v] w fun e' w' => e' = .returned (.bool true) ∧ Below w.heap.size w w')
    (KW : ∀ w', Below w.heap.size w w' → Calls Tryd.prog 16 #[] w' fun e w2 => e = .returned (.bool true) ∧ Below w'.heap.size w' w2) :
    Calls Tryd.prog 5 #[.slice p n c, .int .i64 a, .int .i64 m] w fun e w' => e = .returned (.bool true) ∧ Below w.heap.size w w' := by
  have h2 : decide ((5000 : Int) < (n : Int)) = false := decide_eq_false hn
  clear hn
  go_enter Tryd.func5, Tryd.ntmps5
  go_wp2_with (first
    | (refine wp_cond_false (congrArg Value.bool h2) ?_)
    | (go_at_call 10; with_reducible refine KL.mono ?_; rintro e w1 ⟨u, rfl, hL1, hb1⟩; have hS1 := hV.below hb1)
    | (go_at_call 18; with_reducible refine (KS _ _ hL1.sl).mono ?_; rintro e w2 ⟨rfl, rfl⟩)
    | (go_at_call 19; with_reducible refine (KRS _ _ hS1).mono ?_; rintro e w3 ⟨rfl, rfl⟩)
    | (go_at_call 17; with_reducible refine (KP _).mono ?_; rintro e w4 ⟨rfl, hb4⟩; have hL4 := hL1.below hb4; have hS4 := hS1.below hb4)
    | (go_at_call 20; with_reducible refine (KRP _).mono ?_; rintro e w5 ⟨rfl, rfl⟩)
    | (go_at_call 21; with_reducible refine (KQ _ _ hL4.sl).mono ?_; rintro e w6 ⟨rfl, hb6⟩; have hL6 := hL4.below hb6; have hS6 := hS4.below hb6)
    | (go_at_call 22; with_reducible refine (KRQ _ _ hS6).mono ?_; rintro e w7 ⟨rfl, rfl⟩)
    | (go_at_call 15; with_reducible refine (KK _ _ _ _ hL6 hS6).mono ?_; rintro e w8 ⟨rfl, hb8⟩; have hb9 := Below.thenB (Below.thenB (Below.thenB hb1 hb4) hb6) hb8)
    | (go_at_call 16; with_reducible refine (KW _ hb9).mono ?_; rintro e w10 ⟨rfl, hb10⟩))
  all_goals go_ret
  all_goals exact ⟨rfl, Below.thenB hb9 hb10⟩
end Go.Proofs.YtpbgaoodokapeaaDoor
