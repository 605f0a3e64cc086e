/- A part of an evaluator of the model's code whose answers are proved sound: no statement on the program stands here. -/
import Derived.Below
import Derived.Orders
open Go Go.RowKit
namespace Go.Proofs.YtcmlomjdkjcjpaaGreatDoor.Vai
set_option linter.unusedVariables false

inductive T (α : Type) : Type where
  | nil : T α
  | node (l : T α) (x : Option α) (r : T α) : T α

namespace T
variable {α : Type}
def get : T α → Nat → Option α
  | .nil, _ => none
  | .node l x r, n => bif Nat.beq n 0 then x else bif Nat.beq (Nat.mod n 2) 1 then l.get (Nat.div n 2) else r.get (Nat.sub (Nat.div n 2) 1)

def setF : Nat → T α → Nat → Option α → T α
  | 0, t, _, _ => t
  | f + 1, .nil, n, v => bif Nat.beq n 0 then .node .nil v .nil else bif Nat.beq (Nat.mod n 2) 1 then .node (setF f .nil (Nat.div n 2) v) none .nil else .node .nil none (setF f .nil (Nat.sub (Nat.div n 2) 1) v)
  | f + 1, .node l x r, n, v => bif Nat.beq n 0 then .node l v r else bif Nat.beq (Nat.mod n 2) 1 then .node (setF f l (Nat.div n 2) v) x r else .node l x (setF f r (Nat.sub (Nat.div n 2) 1) v)

def put (t : T α) (n : Nat) (v : Option α) : T α := setF (n + 1) t n v
abbrev set (t : T α) (n : Nat) (v : α) : T α := t.put n (some v)

theorem split (n : Nat) : n = 0 ∨ (∃ m, n = 2 * m + 1) ∨ (∃ m, n = 2 * m + 2) := by
  rcases Nat.lt_or_ge 0 n with h | h
  · right
    rcases Nat.mod_two_eq_zero_or_one n with e | e
    · exact .inr ⟨n / 2 - 1, by omega⟩
    · exact .inl ⟨n / 2, by omega⟩
  · left; omega

theorem b_odd0 (m : Nat) : Nat.beq (2 * m + 1) 0 = false := rfl
theorem b_even0 (m : Nat) : Nat.beq (2 * m + 2) 0 = false := rfl
theorem b_odd (m : Nat) : Nat.beq (Nat.mod (2 * m + 1) 2) 1 = true := by
  have : Nat.mod (2 * m + 1) 2 = 1 := by show (2 * m + 1) % 2 = 1; omega
  rw [this]; rfl
theorem b_even (m : Nat) : Nat.beq (Nat.mod (2 * m + 2) 2) 1 = false := by
  have : Nat.mod (2 * m + 2) 2 = 0 := by show (2 * m + 2) % 2 = 0; omega
  rw [this]; rfl
theorem d_odd (m : Nat) : Nat.div (2 * m + 1) 2 = m := by show (2 * m + 1) / 2 = m; omega
theorem d_even (m : Nat) : Nat.sub (Nat.div (2 * m + 2) 2) 1 = m := by show (2 * m + 2) / 2 - 1 = m; omega

theorem get_setF_same : ∀ (f : Nat) (t : T α) (n : Nat) (v : Option α), n < f → (setF f t n v).get n = v := by
  intro f
  induction f with
  | zero => intro t n v h; omega
  | succ f ih =>
    intro t n v h
    rcases split n with rfl | ⟨m, rfl⟩ | ⟨m, rfl⟩ <;> cases t <;> simp only [setF, get, b_odd0, b_even0, b_odd, b_even, d_odd, d_even, cond_true, cond_false, show Nat.beq 0 0 = true from rfl] <;> first | rfl | (apply ih; omega)

theorem get_setF_other : ∀ (f : Nat) (t : T α) (n k : Nat) (v : Option α), k ≠ n → (setF f t n v).get k = t.get k := by
  intro f
  induction f with
  | zero => intro t n k v h; rfl
  | succ f ih =>
    intro t n k v h
    have hn : ∀ k, (T.nil : T α).get k = none := fun k => rfl
    rcases split n with rfl | ⟨m, rfl⟩ | ⟨m, rfl⟩ <;> rcases split k with rfl | ⟨j, rfl⟩ | ⟨j, rfl⟩ <;> cases t <;>
      simp only [setF, get, b_odd0, b_even0, b_odd, b_even, d_odd, d_even, cond_true, cond_false, show Nat.beq 0 0 = true from rfl] <;>
      first | rfl | (exact absurd rfl h) | (rw [ih _ _ _ _ (by omega)]; first | rfl | exact hn _) | (apply ih; omega)

theorem get_put_same (t : T α) (n : Nat) (v : Option α) : (t.put n v).get n = v := get_setF_same _ _ _ _ (Nat.lt_succ_self n)
theorem get_put_other (t : T α) {n k : Nat} (v : Option α) (h : k ≠ n) : (t.put n v).get k = t.get k := get_setF_other _ _ _ _ _ h

def ofListF : List α → Nat → T α → T α
  | [], _, t => t
  | a :: l, i, t => ofListF l (i + 1) (t.set i a)
def ofList (l : List α) : T α := ofListF l 0 .nil
theorem get_ofListF : ∀ (l : List α) (i : Nat) (t : T α) (k : Nat), (ofListF l i t).get k = if k < i then t.get k else if k - i < l.length then l[k - i]? else t.get k := by
  intro l
  induction l with
  | nil => intro i t k; simp [ofListF]
  | cons a l ih =>
    intro i t k
    simp only [ofListF, ih]
    by_cases h1 : k < i
    · rw [if_pos (by omega), if_pos h1, get_put_other _ _ (by omega)]
    · rw [if_neg h1]
      by_cases h2 : k = i
      · subst h2
        rw [if_pos (by omega), get_put_same, if_pos (by simp)]; simp
      · rw [if_neg (by omega)]
        have e : k - i = (k - (i + 1)) + 1 := by omega
        rw [get_put_other _ _ h2]
        by_cases h3 : k - (i + 1) < l.length
        · rw [if_pos h3, if_pos (by simp; omega), e]; simp
        · rw [if_neg h3, if_neg (by simp; omega)]
theorem get_ofList (l : List α) (k : Nat) : (ofList l).get k = l[k]? := by
  rw [ofList, get_ofListF]
  simp only [Nat.not_lt_zero, if_false, Nat.sub_zero]
  by_cases h : k < l.length
  · rw [if_pos h]
  · rw [if_neg h, List.getElem?_eq_none (by omega)]; rfl
end T
end Go.Proofs.YtcmlomjdkjcjpaaGreatDoor.Vai
