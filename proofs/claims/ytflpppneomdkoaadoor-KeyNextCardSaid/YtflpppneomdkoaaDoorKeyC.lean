/- The walks of key.Next and of hopperlaw05.KeyNext: for every two strings the law returns true and turns nothing that was there. -/
import Derived.Test.YtflpppneomdkoaaDoorKeyB
import Derived.WalkKit
import Derived.RowKit3
import Derived.WalkSpells
import Derived.StillTactics
open Go Go.RowKit
set_option linter.unusedSimpArgs false
set_option linter.unusedVariables false
namespace Go.Proofs.YtflpppneomdkoaaDoor
theorem next_long (k : ByteArray) (h : (262144:Int) ≤ ↑k.size) (w : World) : Calls Tryd.prog 5 #[.string k] w fun e w' => e = .returned (.tuple #[.string ⟨#[]⟩, .int .i64 2]) ∧ w' = w := by
  have h2 : decide ((262144:Int) ≤ ↑k.size) = true := decide_eq_true h
  go_enter Tryd.func5, Tryd.ntmps5
  go_wp2_with (refine wp_cond_true (congrArg Value.bool h2) ?_)
  all_goals (simp [bodyPost, results, Tryd.results5, go_sem])
theorem next_short (k : ByteArray) (h : (↑k.size : Int) < 262144) (w : World) : Calls Tryd.prog 5 #[.string k] w fun e w' => e = .returned (.tuple #[.string (k ++ ⟨#[0]⟩), .int .i64 0]) ∧ w' = w := by
  have h2 : decide ((262144:Int) ≤ ↑k.size) = false := decide_eq_false (by omega)
  go_enter Tryd.func5, Tryd.ntmps5
  go_wp2_with (refine wp_cond_false (congrArg Value.bool h2) ?_)
  all_goals (simp [bodyPost, results, Tryd.results5, go_sem])
theorem law_long (k o : ByteArray) (h : (262144:Int) ≤ ↑k.size) (w : World) : Calls Tryd.prog 3 #[.string k, .string o] w fun e w' => e = .returned (.bool true) ∧ Below w.heap.size w w' := by
  go_enter Tryd.func3, Tryd.ntmps3
  go_wp2_with (first
    | (go_at_call 4; refine (works_any _).mono ?_; rintro e w1 ⟨rfl, hb⟩)
    | (go_at_call 5; refine (next_long k h _).mono ?_; rintro e w2 ⟨rfl, rfl⟩))
  all_goals go_ret
  all_goals exact ⟨rfl, hb⟩
theorem leq_run (x y : ByteArray) (w : World) {t : Bool} (h : (Op.bytesLess x.toList y.toList || x.toList == y.toList) = t) : (binOp .leq 9 (.string x) (.string y)).run Tryd.prog w = .ok (.bool t) w := by
  subst h
  simp [binOp, Tryd.underlying9, go_sem, Op.stringOp]
theorem geq_run (x y : ByteArray) (w : World) {t : Bool} (h : (!Op.bytesLess x.toList y.toList) = t) : (binOp .geq 9 (.string x) (.string y)).run Tryd.prog w = .ok (.bool t) w := by
  subst h
  simp [binOp, Tryd.underlying9, go_sem, Op.stringOp]
theorem less_next : ∀ l : List UInt8, Op.bytesLess l (l ++ [0]) = true := by
  intro l
  induction l with
  | nil => rfl
  | cons a l ih => simp [Op.bytesLess, ih]
theorem law_list : ∀ (o k : List UInt8), (Op.bytesLess o k || o == k) = false → Op.bytesLess o (k ++ [0]) = false := by
  intro o
  induction o with
  | nil => intro k h; cases k <;> simp [Op.bytesLess] at h
  | cons a o ih =>
    intro k h
    cases k with
    | nil => simp [Op.bytesLess]
    | cons b k =>
      simp only [Op.bytesLess, Bool.or_eq_false_iff, List.cons_append] at h ⊢
      obtain ⟨⟨h1, h2⟩, h3⟩ := h
      refine ⟨h1, ?_⟩
      cases hab : (a == b) with
      | false => rfl
      | true =>
        rw [hab] at h2
        simp only [Bool.true_and] at h2 ⊢
        refine ih k ?_
        have : a = b := by simpa using hab
        subst this
        rw [h2]
        simpa using h3
theorem law_short (k o : ByteArray) (h : decide ((262144:Int) ≤ ↑k.size) = false) (w : World) : Calls Tryd.prog 3 #[.string k, .string o] w fun e w' => e = .returned (.bool true) ∧ Below w.heap.size w w' := by
  have hn : (k ++ ⟨#[0]⟩ : ByteArray).toList = k.toList ++ [0] := by rw [Go.ByteArray.toList_eq, Go.ByteArray.toList_eq, _root_.ByteArray.toList_data_append]
  have hl : Op.bytesLess k.toList (k ++ ⟨#[0]⟩ : ByteArray).toList = true := by rw [hn]; exact less_next _
  cases h1 : (Op.bytesLess o.toList k.toList || o.toList == k.toList) with
  | true =>
    have e1 := fun w => leq_run o k w h1
    clear h1
    go_enter Tryd.func3, Tryd.ntmps3
    go_wp2_with (first
      | (go_at_call 4; refine (works_any _).mono ?_; rintro e w1 ⟨rfl, hb⟩)
      | (go_at_call 5; refine (next_short k (by have := of_decide_eq_false h; omega) _).mono ?_; rintro e w2 ⟨rfl, rfl⟩)
      | simp only [e1])
    all_goals go_ret
    all_goals first | exact ⟨rfl, hb⟩ | exact absurd (less_next _) (by assumption)
  | false =>
    have e1 := fun w => leq_run o k w h1
    have e2 := fun w => geq_run o (k ++ ⟨#[0]⟩) w (t := true) (by rw [hn, law_list _ _ h1]; rfl)
    clear h1
    go_enter Tryd.func3, Tryd.ntmps3
    go_wp2_with (first
      | (go_at_call 4; refine (works_any _).mono ?_; rintro e w1 ⟨rfl, hb⟩)
      | (go_at_call 5; refine (next_short k (by have := of_decide_eq_false h; omega) _).mono ?_; rintro e w2 ⟨rfl, rfl⟩)
      | simp only [e1]
      | simp only [e2])
    all_goals go_ret
    all_goals first | exact ⟨rfl, hb⟩ | exact absurd (less_next _) (by assumption)
end Go.Proofs.YtflpppneomdkoaaDoor
