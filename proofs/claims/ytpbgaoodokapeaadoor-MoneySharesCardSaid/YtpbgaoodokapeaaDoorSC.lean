/- What sharing comes to, in plain numbers; a row of a call's own as a list of numbers. -/
import Derived.Test.YtpbgaoodokapeaaDoorSB
import Derived.Deep.OwnRows
import Derived.Laws.OwnMore
open Go Go.RowKit
namespace Go.Proofs.YtpbgaoodokapeaaDoor
set_option linter.unusedVariables false
set_option linter.unusedSimpArgs false
def qv (x S w : Int) : Int := x * w / S
def sumQ (x S : Int) : List Int → Int
  | [] => 0
  | w :: l => qv x S w + sumQ x S l
def posc : List Int → Int
  | [] => 0
  | w :: l => (if 0 < w then 1 else 0) + posc l
def give (x S st : Int) : Int → List Int → List Int
  | _, [] => []
  | L, w :: l => if 0 < w ∧ 0 < L then (qv x S w * st + st) :: give x S st (L - 1) l else (qv x S w * st) :: give x S st L l
theorem posc_nonneg : ∀ l : List Int, 0 ≤ posc l := by
  intro l
  induction l with
  | nil => simp [posc]
  | cons w l ih => simp only [posc]; split <;> omega
theorem give_length (x S st : Int) : ∀ (l : List Int) (L : Int), (give x S st L l).length = l.length := by
  intro l
  induction l with
  | nil => intro L; rfl
  | cons w l ih => intro L; unfold give; split <;> simp [ih]
theorem give_zero (x S st : Int) : ∀ (l : List Int) (L : Int), L ≤ 0 → give x S st L l = l.map fun w => qv x S w * st := by
  intro l
  induction l with
  | nil => intro L _; rfl
  | cons w l ih => intro L h; unfold give; rw [if_neg (by omega), ih L h]; rfl
theorem sumQ_succ (x S : Int) {zs : List Int} {k : Nat} (h : k < zs.length) : sumQ x S (zs.take (k + 1)) = sumQ x S (zs.take k) + qv x S zs[k] := by
  have happ : ∀ l m : List Int, sumQ x S (l ++ m) = sumQ x S l + sumQ x S m := by
    intro l
    induction l with
    | nil => intro m; simp [sumQ]
    | cons a l ih => intro m; simp [sumQ, ih]; omega
  rw [List.take_succ_eq_append_getElem h, happ]; simp [sumQ]
theorem share_sum (x S : Int) (hS : 0 < S) : ∀ l : List Int, (∀ w ∈ l, 0 ≤ w) → ∃ m, x * sumI l = S * sumQ x S l + m ∧ 0 ≤ m ∧ m ≤ posc l * S := by
  intro l
  induction l with
  | nil => intro _; exact ⟨0, by simp [sumI, sumQ], by simp, by simp [posc]⟩
  | cons w l ih =>
    intro h
    obtain ⟨m, h1, h2, h3⟩ := ih (fun z hz => h z (List.mem_cons_of_mem _ hz))
    have hw := h w (List.mem_cons_self ..)
    have e := Int.mul_ediv_add_emod (x * w) S
    have e0 : 0 ≤ x * w % S := Int.emod_nonneg _ (by omega)
    have e1 : x * w % S < S := Int.emod_lt_of_pos _ hS
    refine ⟨m + x * w % S, ?_, by omega, ?_⟩
    · simp only [sumI, sumQ, qv, Int.mul_add]; omega
    · simp only [posc]
      by_cases hp : 0 < w
      · rw [if_pos hp, Int.add_mul]; omega
      · have : w = 0 := by omega
        subst this
        simp at e0 e1 ⊢; exact h3
theorem left_ok (x S : Int) (l : List Int) (hS : 0 < S) (hl : sumI l = S) (hw : ∀ w ∈ l, 0 ≤ w) : 0 ≤ x - sumQ x S l ∧ x - sumQ x S l ≤ posc l := by
  obtain ⟨m, h1, h2, h3⟩ := share_sum x S hS l hw
  rw [hl] at h1
  have h4 : (x - sumQ x S l) * S = m := by rw [Int.sub_mul, Int.mul_comm (sumQ x S l)]; omega
  constructor
  · apply Int.le_of_mul_le_mul_right (a := S) _ hS; rw [h4]; omega
  · apply Int.le_of_mul_le_mul_right (a := S) _ hS; rw [h4]; exact h3
theorem qv_bound (x S w : Int) (h0 : 0 ≤ x) (h1 : x ≤ 1000000000000000) (hS : 0 < S) (hw : 0 ≤ w) (hwS : w ≤ S) : 0 ≤ qv x S w ∧ qv x S w ≤ 1000000000000000 := by
  have p0 : 0 ≤ x * w := Int.mul_nonneg h0 hw
  have p1 : x * w ≤ 1000000000000000 * S := Int.mul_le_mul h1 hwS hw (by decide)
  exact ⟨Int.ediv_nonneg p0 (Int.le_of_lt hS), Int.ediv_le_of_le_mul hS p1⟩
theorem sumI_mem : ∀ (l : List Int), (∀ w ∈ l, 0 ≤ w) → 0 ≤ sumI l ∧ ∀ w ∈ l, w ≤ sumI l := by
  intro l
  induction l with
  | nil => intro _; exact ⟨by simp [sumI], by simp⟩
  | cons a l ih =>
    intro h
    obtain ⟨h1, h2⟩ := ih (fun z hz => h z (List.mem_cons_of_mem _ hz))
    have ha := h a (List.mem_cons_self ..)
    refine ⟨by simp only [sumI]; omega, fun w hw => ?_⟩
    rcases List.mem_cons.1 hw with rfl | hw
    · simp only [sumI]; omega
    · have := h2 w hw; simp only [sumI]; omega
theorem sumR_bound : ∀ (l : List Int), (∀ w ∈ l, InR w) → sumI l ≤ 1000000 * (l.length : Int) := by
  intro l
  induction l with
  | nil => intro _; simp [sumI]
  | cons a l ih =>
    intro h
    have h1 := ih (fun z hz => h z (List.mem_cons_of_mem _ hz))
    have ha := (h a (List.mem_cons_self ..)).2
    simp only [sumI, List.length_cons]; omega
/-- A row of 'cap' numbers, of which the first are 'vals'. -/
def Row (vals : List Int) (cap g : Nat) (w : World) : Prop :=
  ∃ cur, w.heap[g]? = some (.cells cur 3 (0, 0)) ∧ cur.size = cap ∧ vals.length ≤ cap ∧ cur.toList.take vals.length = vals.map (Value.int .i64)
theorem Row.lt {vals : List Int} {cap g : Nat} {w : World} (h : Row vals cap g w) : g < w.heap.size := by
  obtain ⟨cur, h1, _⟩ := h; exact (Array.getElem?_eq_some_iff.1 h1).1
theorem Row.below {vals : List Int} {cap g : Nat} {a b : World} (h : Row vals cap g a) (k : Below a.heap.size a b) : Row vals cap g b := by
  obtain ⟨cur, h1, h2⟩ := h
  exact ⟨cur, by rw [k.block g (Array.getElem?_eq_some_iff.1 h1).1]; exact h1, h2⟩
theorem Row.frozen {vals : List Int} {cap g : Nat} {w : World} (h : Row vals cap g w) (i : Nat) : w.frozen? ⟨g, i, none⟩ = false := by
  obtain ⟨cur, h1, _⟩ := h; exact frozen_of_row w g i cur 3 h1
theorem Row.cell {vals : List Int} {cap g : Nat} {w : World} (h : Row vals cap g w) {i : Nat} {z : Int} (hi : vals[i]? = some z) : w.cell? ⟨g, i, none⟩ = some (.int .i64 z) := by
  obtain ⟨cur, h1, h2, h3, h4⟩ := h
  have hlt : i < vals.length := (List.getElem?_eq_some_iff.1 hi).1
  rw [cell_of_row _ _ _ _ _ _ h1, ← Array.getElem?_toList]
  have : (cur.toList.take vals.length)[i]? = cur.toList[i]? := by rw [List.getElem?_take, if_pos hlt]
  rw [← this, h4, List.getElem?_map, hi]; rfl
theorem Row.set {vals : List Int} {cap g : Nat} {w : World} (h : Row vals cap g w) (i : Nat) (z : Int) : Row (vals.set i z) cap g (w.setCell ⟨g, i, none⟩ (.int .i64 z)) := by
  obtain ⟨cur, h1, h2, h3, h4⟩ := h
  refine ⟨_, heap_setCell_same w g i cur 3 _ h1, by simp [h2], by simpa using h3, ?_⟩
  rw [List.length_set, Array.toList_setIfInBounds, List.take_set, h4, List.map_set]
theorem Row.made (w : World) (n : Nat) : Row (List.replicate n 0) n w.heap.size (w.alloc (.cells (madeCells #[.int .i64 0] n) 3 (0, 0))) :=
  ⟨_, heap_alloc_new w _, size_madeCells _ _, by simp, by rw [toList_madeCells_one]; simp⟩
theorem Row.sl {vals : List Int} {cap g : Nat} {w : World} (h : Row vals cap g w) (c : Nat) : Sl vals (.slice (some ⟨g, 0, none⟩) vals.length c) w :=
  .inl ⟨g, 0, c, rfl, fun i hi => by rw [Nat.zero_add]; exact h.cell (by simp [hi])⟩
theorem set_step {α : Type} (l : List α) (z : α) {n k : Nat} (hn : n = l.length) (h : k < l.length) : (l.take k ++ List.replicate (n - k) z).set k l[k] = l.take (k + 1) ++ List.replicate (n - (k + 1)) z := by
  subst hn
  have e : l.length - k = (l.length - (k + 1)) + 1 := by omega
  rw [e, List.replicate_succ, List.set_append_right _ _ (by simp; omega), List.take_succ_eq_append_getElem h, List.append_assoc]
  congr 1
  rw [List.length_take, Nat.min_eq_left (by omega), Nat.sub_self]; rfl
end Go.Proofs.YtpbgaoodokapeaaDoor
