/- The walk of hopperlaw22.MoneyParts, its tests decided. -/
import Derived.Test.YtpbgaoodokapeaaDoorPD
open Go Go.RowKit
namespace Go.Proofs.YtpbgaoodokapeaaDoor
set_option linter.unusedVariables false
set_option linter.unusedSimpArgs false
theorem parts_err1 (a r o x e y f : Int) (w : World) (he : ¬ e = 0)
    (KW : ∀ w', w' = w → Calls Tryd.prog 16 #[] w' fun e w2 => e = .returned (.bool true) ∧ Below w'.heap.size w' w2)
    (K1 : ∀ w, Calls Tryd.prog 17 #[.int .i64 a, .int .i64 r] w fun e' w' => e' = .returned (.tuple #[.int .i64 x, .int .i64 e]) ∧ Below w.heap.size w w')
    (K2 : ∀ w, Calls Tryd.prog 17 #[.int .i64 a, .int .i64 o] w fun e' w' => e' = .returned (.tuple #[.int .i64 y, .int .i64 f]) ∧ Below w.heap.size w w') :
    Calls Tryd.prog 4 #[.int .i64 a, .int .i64 r, .int .i64 o] w fun e w' => e = .returned (.bool true) ∧ Below w.heap.size w w' := by
  go_enter Tryd.func4, Tryd.ntmps4
  go_wp2_with (first
    | (go_at_call 16; with_reducible refine (KW _ rfl).mono ?_; rintro e w1 ⟨rfl, hb1⟩)
    | (go_at_call 17; with_reducible refine (K1 _).mono ?_; rintro e w2 ⟨rfl, hb2⟩)
    | (go_at_call 17; with_reducible refine (K2 _).mono ?_; rintro e w3 ⟨rfl, hb3⟩))
  all_goals go_ret
  all_goals exact ⟨rfl, Below.thenB (Below.thenB hb1 hb2) hb3⟩
theorem parts_err2 (a r o x y f : Int) (w : World) (he : ¬ f = 0)
    (KW : ∀ w', w' = w → Calls Tryd.prog 16 #[] w' fun e w2 => e = .returned (.bool true) ∧ Below w'.heap.size w' w2)
    (K1 : ∀ w, Calls Tryd.prog 17 #[.int .i64 a, .int .i64 r] w fun e' w' => e' = .returned (.tuple #[.int .i64 x, .int .i64 0]) ∧ Below w.heap.size w w')
    (K2 : ∀ w, Calls Tryd.prog 17 #[.int .i64 a, .int .i64 o] w fun e' w' => e' = .returned (.tuple #[.int .i64 y, .int .i64 f]) ∧ Below w.heap.size w w') :
    Calls Tryd.prog 4 #[.int .i64 a, .int .i64 r, .int .i64 o] w fun e w' => e = .returned (.bool true) ∧ Below w.heap.size w w' := by
  go_enter Tryd.func4, Tryd.ntmps4
  go_wp2_with (first
    | (go_at_call 16; with_reducible refine (KW _ rfl).mono ?_; rintro e w1 ⟨rfl, hb1⟩)
    | (go_at_call 17; with_reducible refine (K1 _).mono ?_; rintro e w2 ⟨rfl, hb2⟩)
    | (go_at_call 17; with_reducible refine (K2 _).mono ?_; rintro e w3 ⟨rfl, hb3⟩))
  all_goals go_ret
  all_goals exact ⟨rfl, Below.thenB (Below.thenB hb1 hb2) hb3⟩
theorem parts_ok (a na r o x nx y : Int) (w : World) (hna : wrap64 (-a) = na) (hnx : wrap64 (-x) = nx)
    (KW : ∀ w', w' = w → Calls Tryd.prog 16 #[] w' fun e w2 => e = .returned (.bool true) ∧ Below w'.heap.size w' w2)
    (K1 : ∀ w, Calls Tryd.prog 17 #[.int .i64 a, .int .i64 r] w fun e' w' => e' = .returned (.tuple #[.int .i64 x, .int .i64 0]) ∧ Below w.heap.size w w')
    (K2 : ∀ w, Calls Tryd.prog 17 #[.int .i64 a, .int .i64 o] w fun e' w' => e' = .returned (.tuple #[.int .i64 y, .int .i64 0]) ∧ Below w.heap.size w w')
    (K3 : ∀ w, Calls Tryd.prog 17 #[.int .i64 na, .int .i64 r] w fun e' w' => e' = .returned (.tuple #[.int .i64 nx, .int .i64 0]) ∧ Below w.heap.size w w')
    (K4 : ∀ w, Calls Tryd.prog 17 #[.int .i64 a, .int .i64 10000] w fun e' w' => e' = .returned (.tuple #[.int .i64 a, .int .i64 0]) ∧ Below w.heap.size w w')
    (K5 : ∀ w, Calls Tryd.prog 17 #[.int .i64 a, .int .i64 0] w fun e' w' => e' = .returned (.tuple #[.int .i64 0, .int .i64 0]) ∧ Below w.heap.size w w')
    (hlaw : r ≤ o → (0 ≤ a ∧ x ≤ y) ∨ (a < 0 ∧ y ≤ x)) :
    Calls Tryd.prog 4 #[.int .i64 a, .int .i64 r, .int .i64 o] w fun e w' => e = .returned (.bool true) ∧ Below w.heap.size w w' := by
  by_cases hro : r ≤ o
  · rcases hlaw hro with ⟨l1, l2⟩ | ⟨l1, l2⟩
    all_goals clear hlaw
    all_goals go_enter Tryd.func4, Tryd.ntmps4
    all_goals go_wp2_with (first
      | (go_at_call 16; with_reducible refine (KW _ rfl).mono ?_; rintro e w1 ⟨rfl, hb1⟩)
      | (go_at_call 17; with_reducible refine (K1 _).mono ?_; rintro e w2 ⟨rfl, hb2⟩)
      | (go_at_call 17; with_reducible refine (K2 _).mono ?_; rintro e w3 ⟨rfl, hb3⟩)
      | (go_at_call 17; with_reducible refine (K3 _).mono ?_; rintro e w4 ⟨rfl, hb4⟩)
      | (go_at_call 17; with_reducible refine (K4 _).mono ?_; rintro e w5 ⟨rfl, hb5⟩)
      | (go_at_call 17; with_reducible refine (K5 _).mono ?_; rintro e w6 ⟨rfl, hb6⟩))
    all_goals go_ret
    all_goals exact ⟨rfl, Below.thenB (Below.thenB (Below.thenB (Below.thenB (Below.thenB hb1 hb2) hb3) hb4) hb5) hb6⟩
  · clear hlaw
    go_enter Tryd.func4, Tryd.ntmps4
    go_wp2_with (first
      | (go_at_call 16; with_reducible refine (KW _ rfl).mono ?_; rintro e w1 ⟨rfl, hb1⟩)
      | (go_at_call 17; with_reducible refine (K1 _).mono ?_; rintro e w2 ⟨rfl, hb2⟩)
      | (go_at_call 17; with_reducible refine (K2 _).mono ?_; rintro e w3 ⟨rfl, hb3⟩)
      | (go_at_call 17; with_reducible refine (K3 _).mono ?_; rintro e w4 ⟨rfl, hb4⟩)
      | (go_at_call 17; with_reducible refine (K4 _).mono ?_; rintro e w5 ⟨rfl, hb5⟩)
      | (go_at_call 17; with_reducible refine (K5 _).mono ?_; rintro e w6 ⟨rfl, hb6⟩))
    all_goals go_ret
    all_goals exact ⟨rfl, Below.thenB (Below.thenB (Below.thenB (Below.thenB (Below.thenB hb1 hb2) hb3) hb4) hb5) hb6⟩
end Go.Proofs.YtpbgaoodokapeaaDoor
