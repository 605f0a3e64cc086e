/- The closure that lays operations; a table's rows of the data. -/
import Derived.Test.YtbjickdjkgefcaaGreatDoorLLI
import Derived.Outline
section
open Go Go.RowKit Go.Proofs.YtbjickdjkgefcaaGreatDoor.Vai
namespace Go.Proofs.YtbjickdjkgefcaaGreatDoor
set_option linter.unusedVariables false
set_option linter.unusedSimpArgs false
set_option maxRecDepth 20000
attribute [local go_sem ↓] Go.wp_at_zero Go.wp_at_succ
theorem info74' : (Tryz.prog.info? 74).map (fun i => (i.zero, i.size, i.bytes)) = some (some (.agg #[.int .i64 0, .string ⟨#[]⟩, .slice none 0 0, .slice none 0 0, .slice none 0 0, .string ⟨#[]⟩, .int .i64 0, .int .i64 0, .int .i64 0]), 9, 136) := by kernel_rfl
theorem info74 : ∃ i z, Tryz.prog.info? 74 = some i ∧ i.zero = some z ∧ i.size = 9 ∧ i.bytes = 136 ∧ z.cells.size = 9 := by
  have h := info74'
  cases hi : Tryz.prog.info? 74 with
  | none => rw [hi] at h; cases h
  | some i =>
    rw [hi] at h
    simp only [Option.map_some, Option.some.injEq, Prod.mk.injEq] at h
    exact ⟨i, _, rfl, h.1, h.2.1, h.2.2, rfl⟩
def opCells (nm : ByteArray) (rv : Value) : List Value := [.int .i64 2, .string nm, .slice none 0 0, .slice none 0 0, rv, .string ⟨#[]⟩, .int .i64 0, .int .i64 0, .int .i64 0]
/-- Nothing but two blocks has turned. -/
structure Keeps (a : Nat) (g : Option Nat) (w w' : World) : Prop where
  os : w'.os = w.os
  tape : w'.tape = w.tape
  output : w'.output = w.output
  size : w.heap.size ≤ w'.heap.size
  block : ∀ k, k < w.heap.size → k ≠ a → some k ≠ g → w'.heap[k]? = w.heap[k]?
theorem lay_end {w w1 w4 : World} {oc base n : Nat} {v : Value} {xs ys : List Value} {l : List Int} {rv v4 : Value} {o : Obj} (hoc : w.heap[oc]? = some (.cells #[v] 70 (0, 0))) (hown : w.ownsRow base 74 9 v n xs) (hoc2 : oc < base) (hbase : base ≤ w.heap.size) (hl0 : l ≠ [])
    (hb1 : Below w.drew.heap.size w.drew w1) (hv1 : w1.ownsRow w.drew.heap.size 121 4 rv l.length (vcells l)) (hown4 : w4.ownsRow base 74 9 v4 (n + 1) ys) (hgrow : (w1.alloc o).grownBy w4 v.ownBlock) :
    (w4.setCell ⟨oc, 0, none⟩ v4).heap[oc]? = some (.cells #[v4] 70 (0, 0)) ∧ (w4.setCell ⟨oc, 0, none⟩ v4).ownsRow base 74 9 v4 (n + 1) ys ∧ VRow (w4.setCell ⟨oc, 0, none⟩ v4) rv l ∧ Keeps oc v.ownBlock w (w4.setCell ⟨oc, 0, none⟩ v4) := by
  have s1 : w.heap.size ≤ w1.heap.size := hb1.size
  have s2 := hgrow.size
  simp at s2
  have hol := lt_of_heap hoc
  have ne : ∀ q, q < w.heap.size → v.ownBlock ≠ some q → w4.heap[q]? = w.heap[q]? := fun q hq hn => by
    rw [hgrow.block q (by simp; omega) (fun e => hn e.symm), Below.heap_alloc _ _ _ (by omega)]
    exact hb1.block q hq
  have h4 : w4.heap[oc]? = some (.cells #[v] 70 (0, 0)) := (ne oc hol (fun e => by have := (hown.lt _ e).1; omega)).trans hoc
  have hown1 : (w1.alloc o).ownsRow base 74 9 v n _ := (ownsRow_keep hown ((KT.drew _ _).trans (KT.below hb1 (Nat.le_refl _))) (List.mem_singleton.2 rfl : 74 ∈ [74])).alloc _
  refine ⟨heap_setCell_at h4, ownsRow_setCell_below hown4 hoc2 _, ?_, ⟨hgrow.os.trans hb1.os, hgrow.tape.trans hb1.tape, hgrow.output.trans hb1.output, by simp [World.setCell]; omega, fun k hk hka hkg => ?_⟩⟩
  · exact (VRow.of_own hl0 hv1).keep (((KT.alloc [121] _ _).trans (KT.grown hgrow hown1 (by decide))).trans (KT.setCell h4 (by decide))) (by simp)
  · rw [Below.heap_setCell _ _ _ _ hka, ne k hk (fun e => hkg e.symm)]
theorem lay_any (w : World) (oc base n : Nat) (v : Value) (xs : List Value) (nm : ByteArray) (l : List Int) (b o cap : Nat) (hoc : w.heap[oc]? = some (.cells #[v] 70 (0, 0))) (hown : w.ownsRow base 74 9 v n xs) (hoc2 : oc < base) (hbase : base ≤ w.heap.size) (hn : n ≤ 4000) (hl : l.length ≤ 100) (hl0 : l ≠ [])
    (hc : ∀ i n, l[i]? = some n → w.cell? ⟨b, o + i, none⟩ = some (.int .i64 n)) :
    Calls Tryz.prog 26 #[.string nm, .slice (some ⟨b, o, none⟩) l.length cap, .pointer (some ⟨oc, 0, none⟩)] w fun e w' => ∃ v' rv, e = .returned (.tuple #[]) ∧ w'.heap[oc]? = some (.cells #[v'] 70 (0, 0)) ∧ w'.ownsRow base 74 9 v' (n + 1) (xs ++ opCells nm rv) ∧ VRow w' rv l ∧ Keeps oc v.ownBlock w w' := by
  obtain ⟨i0, z0, hi0, hz0, hs0, hb0, hc0⟩ := info74
  have K := fun w' hc' => row_any l b o cap w' hl hc'
  have HC := Lib.hid hc
  have c1 : w.cell? ⟨oc, 0, none⟩ = some v := cell_of_heap hoc 0 _ rfl
  have c2 : w.frozen? ⟨oc, 0, none⟩ = false := frozen_not hoc (by simp)
  have hne : v.ownBlock ≠ some oc := fun e => by have := (hown.lt _ e).1; omega
  have hol : oc < w.heap.size := lt_of_heap hoc
  obtain ⟨pv, nv, cv, rfl⟩ := ownsRow_slice hown
  clear hc
  go_enter Tryz.func26, Tryz.ntmps26
  go_region_law
    ((first
      | (go_simp; go_at_call 27; refine (K (World.drew w) (fun i n h => HC.out i n h)).mono ?_; rintro e w1 ⟨v1, rfl, hv1, hb1⟩; obtain ⟨p1, n1, cc1, rfl⟩ := ownsRow_slice hv1; have c4 : w1.cell? ⟨oc, 0, none⟩ = some (.slice pv nv cv) := (World.cell?_of_block (w := w) (hb1.block _ (by simp; omega))).trans c1; have c6 : ∀ o, (w1.alloc o).cell? ⟨oc, 0, none⟩ = some (.slice pv nv cv) := fun o => by rw [cellA (by have := hb1.size; simp at this; simp; omega), c4]; go_wp2_with fail)
      | (refine step_append_lies _ (by rfl) (.tmp 5) (.tmp 10) _ (by rfl) base 74 i0 _ 9 136 Tryz.underlying70 hi0 hz0 hs0 hb0 hc0 (by omega) (.slice pv nv cv) n xs (by rfl) ((ownsRow_keep hown ((KT.drew _ _).trans (KT.below hb1 (Nat.le_refl _))) (List.mem_singleton.2 rfl : 74 ∈ [74])).alloc _) ⟨w1.heap.size, 0, none⟩ 1 1 (opCells nm (.slice p1 n1 cc1)) (by rfl) (by rfl) (news_lit _ _ _ _ rfl) (by simp [opCells, Value.oneCell']) (by omega) (by simp only [maxLen]; omega) (by omega) (by have := hb1.size; simp at this; simp; omega) (w1.heap.size + 1) (by simp) ?_; intro gg cap4 w4 hown4 hgrow hat hlt4; have c7 : w4.cell? ⟨oc, 0, none⟩ = some (.slice pv nv cv) := by rw [hgrow.cell_far _ (by have := hb1.size; simp at this; simp; omega) (Ne.symm hne)]; exact c6 _
         have f7 : w4.frozen? ⟨oc, 0, none⟩ = false := by rw [hgrow.frozen_far _ (by have := hb1.size; simp at this; simp; omega) (Ne.symm hne), frozA (by have := hb1.size; simp at this; simp; omega), hb1.frozen (by simp; omega)]; exact c2)))
  all_goals (
    have hk : (w4.setCell ⟨oc, 0, none⟩ (.slice (some ⟨gg, 0, none⟩) (n + 1) cap4)).heap[oc]? = some (.cells #[.slice (some ⟨gg, 0, none⟩) (n + 1) cap4] 70 (0, 0)) ∧ (w4.setCell ⟨oc, 0, none⟩ (.slice (some ⟨gg, 0, none⟩) (n + 1) cap4)).ownsRow base 74 9 (.slice (some ⟨gg, 0, none⟩) (n + 1) cap4) (n + 1) (xs ++ opCells nm (.slice p1 n1 cc1)) ∧ VRow (w4.setCell ⟨oc, 0, none⟩ (.slice (some ⟨gg, 0, none⟩) (n + 1) cap4)) (.slice p1 n1 cc1) l ∧ Keeps oc (Value.slice pv nv cv).ownBlock w (w4.setCell ⟨oc, 0, none⟩ (.slice (some ⟨gg, 0, none⟩) (n + 1) cap4)) :=
      lay_end hoc hown hoc2 hbase hl0 hb1 hv1 hown4 hgrow
    go_wp2_with fail
    go_end0
    exact ⟨_, _, rfl, hk⟩)
end Go.Proofs.YtbjickdjkgefcaaGreatDoor
end
section
open Go Go.RowKit Go.Proofs.YtbjickdjkgefcaaGreatDoor.Vai
namespace Go.Proofs.YtbjickdjkgefcaaGreatDoor
set_option linter.unusedVariables false
set_option linter.unusedSimpArgs false
set_option maxRecDepth 20000
def rHouse (w : Nat) : List Int := [(w : Int) + 1, 100 * ((w : Int) + 1), 0]
def rDist (w k : Nat) : List Int := [(w : Int) + 1, (k : Int) + 1, 50 * ((k : Int) + 1), 0, 1]
def rCust (w k c : Nat) : List Int := [(w : Int) + 1, (k : Int) + 1, (c : Int) + 1, 100 * ((c : Int) + 1), 0, 0, 0]
def rStock (w i : Nat) : List Int := [(w : Int) + 1, (i : Int) + 1, 50, 0, 0]
def rItem (i : Nat) : List Int := [(i : Int) + 1, 100 * ((i : Int) + 1) + 1]
def custs (w k C : Nat) : List (Nat × List Int) := (List.range C).map fun c => (2, rCust w k c)
def dist (w C k : Nat) : List (Nat × List Int) := (1, rDist w k) :: custs w k C
def dists (w C D : Nat) : List (Nat × List Int) := (List.range D).flatMap (dist w C)
def stocks (w I : Nat) : List (Nat × List Int) := (List.range I).map fun i => (4, rStock w i)
def house (D C I w : Nat) : List (Nat × List Int) := (0, rHouse w) :: (dists w C D ++ stocks w I)
def houses (D C I W : Nat) : List (Nat × List Int) := (List.range W).flatMap (house D C I)
def items (I : Nat) : List (Nat × List Int) := (List.range I).map fun i => (3, rItem i)
def puts (W D C I : Nat) : List (Nat × List Int) := houses D C I W ++ items I
theorem custs_succ (w k C : Nat) : custs w k (C + 1) = custs w k C ++ [(2, rCust w k C)] := by simp [custs, List.range_succ]
theorem dists_succ (w C D : Nat) : dists w C (D + 1) = dists w C D ++ dist w C D := by simp [dists, List.range_succ]
theorem stocks_succ (w I : Nat) : stocks w (I + 1) = stocks w I ++ [(4, rStock w I)] := by simp [stocks, List.range_succ]
theorem houses_succ (D C I W : Nat) : houses D C I (W + 1) = houses D C I W ++ house D C I W := by simp [houses, List.range_succ]
theorem items_succ (I : Nat) : items (I + 1) = items I ++ [(3, rItem I)] := by simp [items, List.range_succ]
theorem custs_len (w k C : Nat) : (custs w k C).length = C := by simp [custs]
theorem stocks_len (w I : Nat) : (stocks w I).length = I := by simp [stocks]
theorem items_len (I : Nat) : (items I).length = I := by simp [items]
theorem dists_len (w C D : Nat) : (dists w C D).length = D * (C + 1) := by
  induction D with
  | zero => simp [dists]
  | succ D ih => rw [dists_succ, List.length_append, ih, dist, List.length_cons, custs_len, Nat.succ_mul]
theorem houses_len (D C I W : Nat) : (houses D C I W).length = W * (D * (C + 1) + I + 1) := by
  induction W with
  | zero => simp [houses]
  | succ W ih => rw [houses_succ, List.length_append, ih, house, List.length_cons, List.length_append, dists_len, stocks_len, Nat.succ_mul]
theorem mul5 {a b n : Nat} (ha : a ≤ 5) (hb : b ≤ n) : a * b ≤ 5 * n := Nat.mul_le_mul ha hb
theorem dists_le {w C D : Nat} (hD : D ≤ 5) (hC : C ≤ 50) : (dists w C D).length ≤ 255 := by
  rw [dists_len]; have := mul5 hD (show C + 1 ≤ 51 by omega); omega
theorem houses_le {D C I W : Nat} (hW : W ≤ 5) (hD : D ≤ 5) (hC : C ≤ 50) (hI : I ≤ 50) : (houses D C I W).length ≤ 1530 := by
  rw [houses_len]
  have h1 := mul5 hD (show C + 1 ≤ 51 by omega)
  have := mul5 hW (show D * (C + 1) + I + 1 ≤ 306 by omega)
  omega
/-- The cells of operations. -/
def ocells : List (Nat × List Int) → List Value → List Value
  | x :: L, u :: us => opCells (tname x.1) u ++ ocells L us
  | _, _ => []
theorem ocells_append : ∀ (L : List (Nat × List Int)) (us : List Value) (M : List (Nat × List Int)) (vs : List Value), us.length = L.length → ocells (L ++ M) (us ++ vs) = ocells L us ++ ocells M vs := by
  intro L
  induction L with
  | nil => intro us M vs h; obtain rfl := List.eq_nil_of_length_eq_zero h; rfl
  | cons l L ih =>
    intro us M vs h
    cases us with
    | nil => cases h
    | cons u us => simp only [List.cons_append, ocells]; rw [ih us M vs (by simpa using h), List.append_assoc]
theorem ocells_at : ∀ (L : List (Nat × List Int)) (us : List Value) (i q : Nat) (x : Nat × List Int) (u v : Value), L[i]? = some x → us[i]? = some u → (opCells (tname x.1) u)[q]? = some v → (ocells L us)[i * 9 + q]? = some v := by
  intro L
  induction L with
  | nil => intro us i q x u v h; simp at h
  | cons y L ih =>
    intro us i q x u v h1 h2 h3
    cases us with
    | nil => simp at h2
    | cons z us =>
      have hq : q < 9 := (List.getElem?_eq_some_iff.1 h3).1
      cases i with
      | zero =>
        simp at h1 h2; subst h1; subst h2
        rw [Nat.zero_mul, Nat.zero_add]
        simp only [ocells]
        rw [List.getElem?_append_left (by show q < 9; exact hq)]; exact h3
      | succ i =>
        simp only [ocells]
        rw [List.getElem?_append_right (by show 9 ≤ _; omega)]
        have : (i + 1) * 9 + q - (opCells (tname y.1) z).length = i * 9 + q := by show (i + 1) * 9 + q - 9 = _; omega
        rw [this]
        exact ih us i q x u v (by simpa using h1) (by simpa using h2) h3
/-- So many operations have been laid. -/
structure OB (w0 w : World) (oc : Nat) (P : List (Nat × List Int)) : Prop where
  ops : ∃ (v : Value) (us : List Value), us.length = P.length ∧ w.heap[oc]? = some (.cells #[v] 70 (0, 0)) ∧ w.ownsRow (oc + 1) 74 9 v P.length (ocells P us) ∧ ∀ (i : Nat) (u : Value) (x : Nat × List Int), us[i]? = some u → P[i]? = some x → VRow w u x.2
  bel : Below oc w0 w
theorem OB.alloc {w0 w : World} {oc : Nat} {P : List (Nat × List Int)} (h : OB w0 w oc P) (o : Obj) : OB w0 (w.alloc o) oc P := by
  obtain ⟨v, us, h1, h2, h3, h4⟩ := h.ops
  have := lt_of_heap h2
  exact ⟨⟨v, us, h1, (Below.heap_alloc _ _ _ this).trans h2, h3.alloc _, fun i u x hu hx => (h4 i u x hu hx).keep (KT.alloc [121] _ _) (by simp)⟩, h.bel.alloc (by omega) _⟩
/-- One more is laid. -/
theorem OB.lay {w0 w : World} {oc : Nat} {P : List (Nat × List Int)} (h : OB w0 w oc P) (j : Nat) (l : List Int) (b o cap : Nat) (hn : P.length ≤ 4000) (hl : l.length ≤ 100) (hl0 : l ≠ []) (hc : ∀ i n, l[i]? = some n → w.cell? ⟨b, o + i, none⟩ = some (.int .i64 n)) :
    Calls Tryz.prog 26 #[.string (tname j), .slice (some ⟨b, o, none⟩) l.length cap, .pointer (some ⟨oc, 0, none⟩)] w fun e w' => e = .returned (.tuple #[]) ∧ OB w0 w' oc (P ++ [(j, l)]) := by
  obtain ⟨v, us, h1, h2, h3, h4⟩ := h.ops
  have hol := lt_of_heap h2
  refine (lay_any w oc (oc + 1) P.length v (ocells P us) (tname j) l b o cap h2 h3 (by omega) (by omega) hn hl hl0 hc).mono ?_
  rintro e w' ⟨v', rv, rfl, q1, q2, q3, q4⟩
  refine ⟨rfl, ⟨v', us ++ [rv], by simp [h1], q1, ?_, ?_⟩, ?_⟩
  · rw [ocells_append P us [(j, l)] [rv] h1, List.length_append]
    simpa [ocells] using q2
  · have kt : KT [121] w w' := by
      intro q cs ty fr hq hm
      have hm : ty = 121 := by simpa using hm
      subst hm
      rw [q4.block q (lt_of_heap hq) (fun e => by subst e; rw [h2] at hq; cases hq) (fun e => by
        rcases h3.2 with ⟨rfl, _⟩ | ⟨g, c, cur, rfl, _, hg, _⟩
        · cases e
        · simp only [Value.ownBlock, Option.some.injEq] at e; subst e; rw [hg] at hq; cases hq)]
      exact hq
    intro i u x hu hx
    by_cases hi : i < us.length
    · rw [List.getElem?_append_left hi] at hu
      rw [List.getElem?_append_left (by omega)] at hx
      exact (h4 i u x hu hx).keep kt (by simp)
    · rw [List.getElem?_append_right (by omega)] at hu
      rw [List.getElem?_append_right (by omega)] at hx
      have e : i - us.length = 0 := by have := (List.getElem?_eq_some_iff.1 hu).1; simp at this; omega
      rw [e] at hu
      rw [show i - P.length = 0 by omega] at hx
      cases hu; cases hx
      exact q3
  · exact h.bel.trans ⟨q4.os, q4.tape, q4.output, q4.size, fun k hk => q4.block k (by omega) (by omega) (fun e => by have := (h3.lt k e.symm).1; omega)⟩
theorem OB.opsAt {w0 w : World} {oc : Nat} {P : List (Nat × List Int)} (h : OB w0 w oc P) : ∃ p cap, w.cell? ⟨oc, 0, none⟩ = some (.slice p P.length cap) ∧ OpsAt w p P := by
  obtain ⟨v, us, h1, h2, h3, h4⟩ := h.ops
  have c0 := cell_of_heap h2 0 v rfl
  by_cases hP : P = []
  · subst hP
    rcases h3.2 with ⟨rfl, _⟩ | ⟨g, c, cur, rfl, _⟩
    · exact ⟨none, 0, c0, fun i x hx => by simp at hx⟩
    · exact ⟨_, c, c0, fun i x hx => by simp at hx⟩
  · obtain ⟨g, c, rfl, _, _, _, _, hr⟩ := ownsRow_read h3 (List.length_pos_iff.2 hP)
    refine ⟨_, c, c0, fun i x hx => ?_⟩
    have hi : i < us.length := by have := (List.getElem?_eq_some_iff.1 hx).1; omega
    refine ⟨g, us[i], rfl, fun q u hu => ?_, h4 i _ x (List.getElem?_eq_getElem hi) hx⟩
    exact hr _ _ (ocells_at P us i q x us[i] u hx (List.getElem?_eq_getElem hi) (by
      have : (opPut (tname x.1) us[i]).cells = (opCells (tname x.1) us[i]).toArray := rfl
      rw [this] at hu
      simpa using hu))
end Go.Proofs.YtbjickdjkgefcaaGreatDoor
end
section
open Go Go.RowKit Go.Proofs.YtbjickdjkgefcaaGreatDoor.Vai
namespace Go.Proofs.YtbjickdjkgefcaaGreatDoor
set_option linter.unusedVariables false
set_option linter.unusedSimpArgs false
set_option maxRecDepth 20000
/-- What is known of the head of Load: the tables are made, one by one. -/
structure LoadHead (d : Nat) (CS : Nat → World → Prop) (NV : World → Value → Prop) (TV : Nat → World → Nat → Prop) : Prop where
  names : ∀ w, CS 0 w → Calls Tryz.prog 24 #[.pointer (some ⟨d, 0, none⟩)] w fun e w' => ∃ p n c, e = .returned (.slice p n c) ∧ NV w' (.slice p n c) ∧ CS 0 w'
  tabs : ∀ n w, n ≤ 8 → CS n w → Calls Tryz.prog 4 #[] w fun e w' => ∃ tb cap, e = .returned (.slice (some ⟨tb, 0, none⟩) 8 cap) ∧ TV n w' tb ∧ CS n w' ∧ ∀ v, NV w v → NV w' v
  cell : ∀ n w tb k, k < 8 → TV n w tb → ∃ p n c, w.cell? ⟨tb, k * 4, none⟩ = some (.string (tname k)) ∧ w.cell? ⟨tb, k * 4 + 1, none⟩ = some (.slice p n c) ∧ w.cell? ⟨tb, k * 4 + 2, none⟩ = some (.int .i64 (tkey k)) ∧ w.cell? ⟨tb, k * 4 + 3, none⟩ = some (.slice none 0 0)
  cont : ∀ w v tb k, k < 8 → NV w v → CS 0 w → TV 0 w tb → Calls Tryz.prog 25 #[v, .string (tname k)] w fun e w' => e = .returned (.bool false) ∧ CS 0 w' ∧ TV 0 w' tb ∧ NV w' v
  create : ∀ w tb k p n c, k < 8 → CS k w → TV k w tb → w.cell? ⟨tb, k * 4 + 1, none⟩ = some (.slice p n c) → Calls Tryz.prog 10 #[.pointer (some ⟨d, 0, none⟩), .agg #[.string (tname k), .slice p n c, .int .i64 (tkey k), .slice none 0 0]] w fun e w' => e = .returned (.int .i64 0) ∧ CS (k + 1) w' ∧ TV (k + 1) w' tb
  allocC : ∀ n w o, CS n w → CS n (w.alloc o)
  allocN : ∀ w v o, NV w v → NV (w.alloc o) v
  allocT : ∀ n w tb o, TV n w tb → TV n (w.alloc o) tb
theorem inside_any (n most : Int) (w : World) : Calls Tryz.prog 23 #[.int .i64 n, .int .i64 most] w fun e w' => e = .returned (.bool (decide (1 ≤ n) && decide (n ≤ most))) ∧ w' = w := by
  by_cases h1 : 1 ≤ n
  · by_cases h2 : n ≤ most
    · go_enter Tryz.func23, Tryz.ntmps23
      go_wp2
      all_goals go_ret
      all_goals exact ⟨by simp [h1, h2], rfl⟩
    · go_enter Tryz.func23, Tryz.ntmps23
      go_wp2
      all_goals go_ret
      all_goals exact ⟨by simp [h1, h2], rfl⟩
  · have e : (decide (1 ≤ n) && decide (n ≤ most)) = false := by simp [h1]
    rw [e]
    go_enter Tryz.func23, Tryz.ntmps23
    go_wp2
    all_goals go_ret
    all_goals exact ⟨rfl, rfl⟩
theorem ints_lit (w : World) (l : List Int) : ∀ i n, l[i]? = some n → (w.alloc (.cells (l.map (Value.int .i64)).toArray 3)).cell? ⟨w.heap.size, 0 + i, none⟩ = some (.int .i64 n) := by
  intro i n h
  have : (w.alloc (.cells (l.map (Value.int .i64)).toArray 3)).heap[w.heap.size]? = some (.cells (l.map (Value.int .i64)).toArray 3 (0, 0)) := heap_alloc_at
  refine cell_of_heap this _ _ ?_
  rw [Nat.zero_add]; simp [h]
set_option maxHeartbeats 4000000 in
theorem load_walk (d : Nat) (CS : Nat → World → Prop) (NV : World → Value → Prop) (TV : Nat → World → Nat → Prop) (H : LoadHead d CS NV TV) (W D C I : Nat) (w : World) (hW : 1 ≤ W ∧ W ≤ 5) (hD : 1 ≤ D ∧ D ≤ 5) (hC : 1 ≤ C ∧ C ≤ 50) (hI : 1 ≤ I ∧ I ≤ 50) (h0 : CS 0 w) (A : World → Prop)
    (HA : ∀ w8 w' p cap, CS 8 w8 → Below w8.heap.size w8 w' → OpsAt w' p (puts W D C I) → Calls Tryz.prog 28 #[.pointer (some ⟨d, 0, none⟩), .slice p (puts W D C I).length cap] w' fun e w2 => ∃ res, e = .returned (.tuple #[res, .bool true, .int .i64 0]) ∧ A w2) :
    Calls Tryz.prog 9 #[.pointer (some ⟨d, 0, none⟩), .int .i64 W, .int .i64 D, .int .i64 C, .int .i64 I] w fun e w' => e = .returned (.int .i64 0) ∧ A w' := by
  have K1 : ∀ w, Calls Tryz.prog 23 #[.int .i64 W, .int .i64 5] w fun e w' => e = .returned (.bool true) ∧ w' = w := fun w => by have := inside_any W 5 w; simpa [hW.1, hW.2, show (1 : Int) ≤ W by omega, show (W : Int) ≤ 5 by omega] using this
  have K2 : ∀ w, Calls Tryz.prog 23 #[.int .i64 D, .int .i64 5] w fun e w' => e = .returned (.bool true) ∧ w' = w := fun w => by have := inside_any D 5 w; simpa [show (1 : Int) ≤ D by omega, show (D : Int) ≤ 5 by omega] using this
  have K3 : ∀ w, Calls Tryz.prog 23 #[.int .i64 C, .int .i64 50] w fun e w' => e = .returned (.bool true) ∧ w' = w := fun w => by have := inside_any C 50 w; simpa [show (1 : Int) ≤ C by omega, show (C : Int) ≤ 50 by omega] using this
  have K4 : ∀ w, Calls Tryz.prog 23 #[.int .i64 I, .int .i64 50] w fun e w' => e = .returned (.bool true) ∧ w' = w := fun w => by have := inside_any I 50 w; simpa [show (1 : Int) ≤ I by omega, show (I : Int) ≤ 50 by omega] using this
  have HC0 := Lib.hid h0
  have HHA := Lib.hid HA
  obtain ⟨hW1, hW2⟩ := hW
  obtain ⟨hD1, hD2⟩ := hD
  obtain ⟨hC1', hC2'⟩ := hC
  obtain ⟨hI1, hI2⟩ := hI
  clear h0 HA
  go_enter Tryz.func9, Tryz.ntmps9
  go_wp2_with (first
    | (go_at_call 23; with_reducible refine (K1 _).mono ?_; rintro e w1 ⟨rfl, rfl⟩)
    | (go_at_call 23; with_reducible refine (K2 _).mono ?_; rintro e w1 ⟨rfl, rfl⟩)
    | (go_at_call 23; with_reducible refine (K3 _).mono ?_; rintro e w1 ⟨rfl, rfl⟩)
    | (go_at_call 23; with_reducible refine (K4 _).mono ?_; rintro e w1 ⟨rfl, rfl⟩)
    | (go_at_call 24; refine (H.names _ HC0.out).mono ?_; rintro e w1 ⟨pn, nn, cn, rfl, hN1, hC1⟩)
    | (go_at_call 4; refine (H.tabs 0 _ (by omega) hC1).mono ?_; rintro e w2 ⟨tb, tcap, rfl, hT2, hC2, hN2⟩; have hN3 := hN2 _ hN1; clear hN2 hN1 hC1))
  clear K1 K2 K3 K4 HC0
  go_loopw [58] (fun i wr => ∃ k : Nat, i = .int .i64 k ∧ k ≤ 8 ∧ TV 0 wr tb ∧ CS 0 wr ∧ NV wr (.slice pn nn cn)) (fun i _ => 8 - (intOf i).toNat)
  case atStart => exact ⟨0, rfl, Nat.zero_le _, hT2, hC2, hN3⟩
  case round =>
    obtain ⟨k, rfl, hk, hT, hC, hN⟩ := hrel
    clear hT2 hC2 hN3
    by_cases hlt : k < 8
    · obtain ⟨pk, nk, ck, q0, q1, q2, q3⟩ := H.cell _ _ _ k hlt hT
      have KC := fun o => H.cont (wr.alloc o) _ tb k hlt (H.allocN _ _ o hN) (H.allocC _ _ o hC) (H.allocT _ _ _ o hT)
      obtain ⟨nm, hnm⟩ : ∃ n, n = tname k := ⟨_, rfl⟩
      rw [← hnm] at q0 KC
      obtain ⟨kn, hkn⟩ : ∃ n, n = tkey k := ⟨_, rfl⟩
      rw [← hkn] at q2
      clear hnm hkn hT hC hN
      go_wp2_with (first
        | (go_at_call 25; refine (KC _).mono ?_; rintro e w3 ⟨rfl, hC3, hT3, hN3⟩))
      exact ⟨⟨k + 1, by go_num, hlt, hT3, hC3, hN3⟩, by simp [intOf]; omega⟩
    · obtain rfl : k = 8 := by omega
      clear hk hlt
      go_wp2_with (first
        | (go_at_call 4; refine (H.tabs 0 _ (by omega) hC).mono ?_; rintro e w4 ⟨tb2, tcap2, rfl, hT4, hC4, _⟩))
      clear hT hC hN
      go_loopw [69] (fun i wr => ∃ k : Nat, i = .int .i64 k ∧ k ≤ 8 ∧ TV k wr tb2 ∧ CS k wr) (fun i _ => 8 - (intOf i).toNat)
      case atStart => exact ⟨0, rfl, Nat.zero_le _, hT4, hC4⟩
      case round =>
        obtain ⟨k, rfl, hk, hT, hC⟩ := hrel
        clear hT4 hC4
        by_cases hlt : k < 8
        · obtain ⟨pk, nk, ck, q0, q1, q2, q3⟩ := H.cell _ _ _ k hlt hT
          have KC := fun o => H.create (wr.alloc o) tb2 k pk nk ck hlt (H.allocC _ _ o hC) (H.allocT _ _ _ o hT) (by rw [cellA (show tb2 < wr.heap.size from cell_lt q1)]; exact q1)
          obtain ⟨nm, hnm⟩ : ∃ n, n = tname k := ⟨_, rfl⟩
          rw [← hnm] at q0 KC
          obtain ⟨kn, hkn⟩ : ∃ n, n = tkey k := ⟨_, rfl⟩
          rw [← hkn] at q2 KC
          clear hnm hkn hT hC
          go_wp2_with (first
            | (go_at_call 10; refine (KC _).mono ?_; rintro e w3 ⟨rfl, hC3, hT3⟩))
          exact ⟨⟨k + 1, by go_num, hlt, hT3, hC3⟩, by simp [intOf]; omega⟩
        · obtain rfl : k = 8 := by omega
          clear hk hlt
          go_wp2_with fail
          obtain ⟨w8, rfl⟩ : ∃ x : World, x = wr := ⟨_, rfl⟩
          have hB0 : OB w8 (w8.alloc (.cells #[.slice none 0 0] 70)) w8.heap.size [] := ⟨⟨_, [], rfl, heap_alloc_at, World.ownsRow_nil _ _ _ _, fun i u x h => by simp at h⟩, (Below.refl _ _).alloc (Nat.le_refl _) _⟩
          clear hT
          go_loopw [82] (fun i wr => ∃ k : Nat, i = .int .i64 k ∧ k ≤ W ∧ OB w8 wr w8.heap.size (houses D C I k)) (fun i _ => W - (intOf i).toNat)
          case atStart => exact ⟨0, rfl, Nat.zero_le _, hB0⟩
          case round =>
            obtain ⟨wk, rfl, hwk, hB⟩ := hrel
            clear hB0
            by_cases hwlt : wk < W
            · have hlen : (houses D C I wk).length ≤ 1530 := houses_le (by omega) hD2 hC2' hI2
              have KA := hB.alloc (.cells ((rHouse wk).map (Value.int .i64)).toArray 3) |>.lay 0 (rHouse wk) wr.heap.size 0 3 (by omega) (by simp [rHouse]) (by simp [rHouse]) (ints_lit _ _)
              obtain ⟨P1, hP1⟩ : ∃ P, P = houses D C I wk := ⟨_, rfl⟩
              rw [← hP1] at KA hB hlen
              have HP1 := Lib.hid hP1
              clear hP1
              go_wp2_with (first
                | (go_at_call 26; refine KA.mono ?_; rintro e w10 ⟨rfl, hB10⟩))
              clear KA hB
              go_loopw [94] (fun i wr => ∃ k : Nat, i = .int .i64 k ∧ k ≤ D ∧ OB w8 wr w8.heap.size ((P1 ++ [(0, rHouse wk)]) ++ dists wk C k)) (fun i _ => D - (intOf i).toNat)
              case atStart => exact ⟨0, rfl, Nat.zero_le _, by simpa [dists] using hB10⟩
              case round =>
                obtain ⟨k, rfl, hk, hB⟩ := hrel
                clear hB10
                by_cases hlt : k < D
                · have hlen2 : (dists wk C k).length ≤ 255 := dists_le (by omega) hC2'
                  obtain ⟨wo, rfl⟩ : ∃ x : World, x = wr := ⟨_, rfl⟩
                  have KA := hB.alloc (.cells ((rDist wk k).map (Value.int .i64)).toArray 3) |>.lay 1 (rDist wk k) wo.heap.size 0 5 (by simp; omega) (by simp [rDist]) (by simp [rDist]) (ints_lit _ _)
                  obtain ⟨P2, hP2⟩ : ∃ P, P = (P1 ++ [(0, rHouse wk)]) ++ dists wk C k := ⟨_, rfl⟩
                  have hlen3 : P2.length ≤ 1786 := by rw [hP2]; simp; omega
                  rw [← hP2] at KA hB
                  have HP2 := Lib.hid hP2
                  clear hP2
                  go_wp2_with (first
                    | (go_at_call 26; refine KA.mono ?_; rintro e w11 ⟨rfl, hB11⟩))
                  clear KA hB
                  go_loopw [108] (fun i wr => ∃ c : Nat, i = .int .i64 c ∧ c ≤ C ∧ OB w8 wr w8.heap.size ((P2 ++ [(1, rDist wk k)]) ++ custs wk k c)) (fun i _ => C - (intOf i).toNat)
                  case atStart => exact ⟨0, rfl, Nat.zero_le _, by simpa [custs] using hB11⟩
                  case round =>
                    obtain ⟨c, rfl, hc, hB⟩ := hrel
                    clear hB11
                    by_cases hclt : c < C
                    · obtain ⟨wp, rfl⟩ : ∃ x : World, x = wr := ⟨_, rfl⟩
                      have KA := hB.alloc (.cells ((rCust wk k c).map (Value.int .i64)).toArray 3) |>.lay 2 (rCust wk k c) wp.heap.size 0 7 (by simp [custs_len]; omega) (by simp [rCust]) (by simp [rCust]) (ints_lit _ _)
                      obtain ⟨P3, hP3⟩ : ∃ P, P = (P2 ++ [(1, rDist wk k)]) ++ custs wk k c := ⟨_, rfl⟩
                      rw [← hP3] at KA hB
                      have HP3 := Lib.hid hP3
                      clear hP3
                      go_wp2_with (first
                        | (go_at_call 26; refine KA.mono ?_; rintro e w12 ⟨rfl, hB12⟩))
                      exact ⟨⟨c + 1, by go_num, hclt, by rw [custs_succ, ← List.append_assoc, ← HP3.out]; exact hB12⟩, by simp [intOf]; omega⟩
                    · obtain rfl : c = C := by omega
                      go_wp2_with fail
                      exact ⟨⟨k + 1, by go_num, hlt, by rw [dists_succ, ← List.append_assoc, ← HP2.out, dist]; simpa using hB⟩, by simp [intOf]; omega⟩
                · obtain rfl : k = D := by omega
                  obtain ⟨P2, hP2⟩ : ∃ P, P = (P1 ++ [(0, rHouse wk)]) ++ dists wk C k := ⟨_, rfl⟩
                  have hlen2 : (dists wk C k).length ≤ 255 := dists_le (by omega) hC2'
                  have hlen3 : P2.length ≤ 1786 := by rw [hP2]; simp; omega
                  rw [← hP2] at hB
                  have HP2 := Lib.hid hP2
                  clear hP2
                  go_wp2_with fail
                  have hB20 := hB
                  clear hB
                  go_loopw [126] (fun i wr => ∃ c : Nat, i = .int .i64 c ∧ c ≤ I ∧ OB w8 wr w8.heap.size (P2 ++ stocks wk c)) (fun i _ => I - (intOf i).toNat)
                  case atStart => exact ⟨0, rfl, Nat.zero_le _, by simpa [stocks] using hB20⟩
                  case round =>
                    obtain ⟨c, rfl, hc, hB⟩ := hrel
                    clear hB20
                    by_cases hclt : c < I
                    · obtain ⟨wp, rfl⟩ : ∃ x : World, x = wr := ⟨_, rfl⟩
                      have KA := hB.alloc (.cells ((rStock wk c).map (Value.int .i64)).toArray 3) |>.lay 4 (rStock wk c) wp.heap.size 0 5 (by simp [stocks_len]; omega) (by simp [rStock]) (by simp [rStock]) (ints_lit _ _)
                      obtain ⟨P3, hP3⟩ : ∃ P, P = P2 ++ stocks wk c := ⟨_, rfl⟩
                      rw [← hP3] at KA hB
                      have HP3 := Lib.hid hP3
                      clear hP3
                      go_wp2_with (first
                        | (go_at_call 26; refine KA.mono ?_; rintro e w12 ⟨rfl, hB12⟩))
                      exact ⟨⟨c + 1, by go_num, hclt, by rw [stocks_succ, ← List.append_assoc, ← HP3.out]; exact hB12⟩, by simp [intOf]; omega⟩
                    · obtain rfl : c = I := by omega
                      go_wp2_with fail
                      refine ⟨?_, by simp [intOf]; omega⟩
                      repeat apply Exists.intro
                      refine ⟨?_, rfl⟩
                      exact ⟨wk + 1, by go_num, hwlt, by rw [houses_succ, house, ← HP1.out]; rw [HP2.out] at hB; simpa using hB⟩
            · obtain rfl : wk = W := by omega
              obtain ⟨P1, hP1⟩ : ∃ P, P = houses D C I wk := ⟨_, rfl⟩
              have hlen : P1.length ≤ 1530 := by rw [hP1]; exact houses_le (by omega) hD2 hC2' hI2
              rw [← hP1] at hB
              have HP1 := Lib.hid hP1
              clear hP1
              go_wp2_with fail
              have hB20 := hB
              clear hB
              go_loopw [139] (fun i wr => ∃ c : Nat, i = .int .i64 c ∧ c ≤ I ∧ OB w8 wr w8.heap.size (P1 ++ items c)) (fun i _ => I - (intOf i).toNat)
              case atStart => exact ⟨0, rfl, Nat.zero_le _, by simpa [items] using hB20⟩
              case round =>
                obtain ⟨c, rfl, hc, hB⟩ := hrel
                clear hB20
                by_cases hclt : c < I
                · obtain ⟨wp, rfl⟩ : ∃ x : World, x = wr := ⟨_, rfl⟩
                  have KA := hB.alloc (.cells ((rItem c).map (Value.int .i64)).toArray 3) |>.lay 3 (rItem c) wp.heap.size 0 2 (by simp [items_len]; omega) (by simp [rItem]) (by simp [rItem]) (ints_lit _ _)
                  obtain ⟨P3, hP3⟩ : ∃ P, P = P1 ++ items c := ⟨_, rfl⟩
                  rw [← hP3] at KA hB
                  have HP3 := Lib.hid hP3
                  clear hP3
                  go_wp2_with (first
                    | (go_at_call 26; refine KA.mono ?_; rintro e w12 ⟨rfl, hB12⟩))
                  refine ⟨?_, by simp [intOf]; omega⟩
                  repeat apply Exists.intro
                  refine ⟨?_, rfl⟩
                  exact ⟨c + 1, by go_num, hclt, by rw [items_succ, ← List.append_assoc, ← HP3.out]; exact hB12⟩
                · obtain rfl : c = I := by omega
                  have e1 : P1 ++ items c = puts wk D C c := by rw [HP1.out, puts]
                  rw [e1] at hB
                  obtain ⟨pO, capO, hO1, hO2⟩ := hB.opsAt
                  have KA := HHA.out w8 wr pO capO hC (hB.bel) hO2
                  clear hB HHA
                  go_wp2_with (first
                    | (go_at_call 28; refine KA.mono ?_; rintro e w13 ⟨res, rfl, hA13⟩))
                  go_ret
                  exact ⟨rfl, hA13⟩
end Go.Proofs.YtbjickdjkgefcaaGreatDoor
end
section
open Go Go.RowKit Go.Proofs.YtbjickdjkgefcaaGreatDoor.Vai
namespace Go.Proofs.YtbjickdjkgefcaaGreatDoor
set_option linter.unusedVariables false
set_option linter.unusedSimpArgs false
set_option maxRecDepth 20000
theorem VRows_slice {w : World} {v : Value} {L : List (List Int)} (h : VRows w v L) : ∃ p n c, v = .slice p n c := by
  obtain ⟨us, h1, _⟩ := h
  exact ownsRow_slice h1
set_option maxHeartbeats 1000000 in
theorem rowsT_any (w : World) (d m j : Nat) (pre : List MapEntry) (C : Nat → Cols) (b0 clk : Nat) (L : List (Nat × List Int)) (h : PD w d m pre C b0 clk L) (hp : Apart pre) (hj : j < 8) (hn : (rowsOf L j).length ≤ 10000) (hl : ∀ l ∈ rowsOf L j, l.length ≤ 100) :
    Calls Tryz.prog 37 #[.pointer (some ⟨d, 0, none⟩), .string (tname j)] w fun e w' => ∃ v, e = .returned (.tuple #[v, .int .i64 0]) ∧ VRows w' v (rowsOf L j) ∧ (rowsOf L j = [] → v = .slice none 0 0) ∧ Below w.heap.size w w' := by
  obtain ⟨E, hM, hE⟩ := h.tabs
  have hptr := h.ptr
  have KL := run_look hM hp hj
  have hEj := hE j hj
  have K := fun w' (h' : ERows w' (E j) (tkey j) (rowsOf L j)) => rows_any w' (E j) (tkey j) (rowsOf L j) h' hn hl
  have HE := Lib.hid hEj
  obtain ⟨p, cap, hpc, _⟩ := hEj.shape
  rw [hpc] at KL K HE
  obtain ⟨nm, hnm⟩ : ∃ x, x = tname j := ⟨_, rfl⟩
  obtain ⟨kn, hkn⟩ : ∃ x, x = tkey j := ⟨_, rfl⟩
  rw [← hnm, ← hkn] at KL
  rw [← hkn] at K HE
  rw [← hnm]
  obtain ⟨R, hR⟩ : ∃ x, x = rowsOf L j := ⟨_, rfl⟩
  rw [← hR] at K HE KL
  rw [← hR]
  clear hM hE h hEj hpc hnm hkn hn hl hR
  unfold tabV at KL
  have qf : ∀ (w : World) (p : Option Addr) (n c : Nat), (Instr.field 106 (.agg #[.int .i64 0, .slice p n c]) 1).run Tryz.prog w = .ok (.slice p n c) w := fun w p n c => by kernel_rfl
  go_enter Tryz.func37, Tryz.ntmps37
  go_wp2_with (first
    | (go_at_call 67; refine (K _ (HE.out.keep (KT.alloc [121, 183] _ _) (by simp) (by simp))).mono ?_; rintro e w2 ⟨v2, rfl, hv2, hn2, hb2⟩; obtain ⟨p2, n2, c2, rfl⟩ := VRows_slice hv2))
  exact bodyPost_ret (v := .tuple #[.slice p2 n2 c2, .int .i64 0]) (by simp [results, Tryz.results37, go_sem]) rfl ⟨_, rfl, hv2, hn2, ((Below.refl _ _).alloc (Nat.le_refl _) _).trans (hb2.mono (by simp))⟩
end Go.Proofs.YtbjickdjkgefcaaGreatDoor
end
section
open Go Go.RowKit Go.Proofs.YtbjickdjkgefcaaGreatDoor.Vai
namespace Go.Proofs.YtbjickdjkgefcaaGreatDoor
set_option linter.unusedVariables false
set_option linter.unusedSimpArgs false
set_option maxRecDepth 20000
attribute [local go_sem ↓] Go.wp_at_zero Go.wp_at_succ
def iv (n : Int) : Value := .agg #[.int .i64 2, .int .i64 n, .complex .f64 0 0, .string ⟨#[]⟩]
def sgn (a b : Int) : Int := if a < b then -1 else if b < a then 1 else 0
theorem sign_any (w : World) (a b : Bool) : Calls Tryz.prog 232 #[.bool a, .bool b] w fun e w' => e = .returned (.int .i64 (if a then -1 else if b then 1 else 0)) ∧ w' = w := by
  cases a <;> cases b
  all_goals go_enter Tryz.func232, Tryz.ntmps232
  all_goals go_wp2
  all_goals go_ret
  all_goals exact ⟨rfl, rfl⟩
theorem order_any (w : World) (a b : Int) : Calls Tryz.prog 231 #[iv a, iv b] w fun e w' => e = .returned (.int .i64 (sgn a b)) ∧ Below w.heap.size w w' := by
  have K := fun w => sign_any w (decide (a < b)) (decide (b < a))
  have e1 : (if decide (a < b) = true then (-1 : Int) else if decide (b < a) = true then 1 else 0) = sgn a b := by simp [sgn]
  rw [e1] at K
  clear e1
  unfold iv
  go_enter Tryz.func231, Tryz.ntmps231
  go_wp2_with (first
    | (go_at_call 232; refine (K _).mono ?_; rintro e w1 ⟨rfl, rfl⟩))
  all_goals exact bodyPost_ret (v := .int .i64 (sgn a b)) (by simp [results, Tryz.results231, go_sem]) rfl ⟨rfl, ((Below.refl _ _).alloc (Nat.le_refl _) _).alloc (by simp) _⟩
/-- Of two keys the first is less. -/
theorem cmpRows_any (w : World) (ka kb : List Int) (ga gb ca cb : Nat) (hlt : KLt ka kb) (hl : ka.length = kb.length) (hn : ka.length ≤ 100) (h1 : ka.length ≤ ca) (h2 : kb.length ≤ cb) (ha : ∀ j u, (vcells ka)[j]? = some u → w.cell? ⟨ga, j, none⟩ = some u) (hb : ∀ j u, (vcells kb)[j]? = some u → w.cell? ⟨gb, j, none⟩ = some u) :
    Calls Tryz.prog 196 #[.slice (some ⟨ga, 0, none⟩) ka.length ca, .slice (some ⟨gb, 0, none⟩) kb.length cb] w fun e w' => e = .returned (.int .i64 (-1)) ∧ Below w.heap.size w w' := by
  obtain ⟨i0, x0, y0, hx0, hy0, hxy, hsame⟩ := hlt
  have hi0 : i0 < ka.length := (List.getElem?_eq_some_iff.1 hx0).1
  rw [← hl] at h2 ⊢
  obtain ⟨n, hnn⟩ : ∃ n, n = ka.length := ⟨_, rfl⟩
  rw [← hnn] at hn h1 h2 hi0 ⊢
  have HA := Lib.hid ha
  have HB := Lib.hid hb
  have HS := Lib.hid hsame
  have HX := Lib.hid hx0
  have HY := Lib.hid hy0
  have HN := Lib.hid hnn
  have HL := Lib.hid hl
  clear ha hb hsame hx0 hy0 hnn hl
  go_enter Tryz.func196, Tryz.ntmps196
  go_wp2_with fail
  go_loopw [5] (fun i wr => ∃ k : Nat, i = .int .i64 k ∧ k ≤ i0 ∧ Below w.heap.size w wr) (fun i _ => i0 + 1 - (intOf i).toNat)
  case atStart => exact ⟨0, rfl, Nat.zero_le _, Below.refl _ _⟩
  case round =>
    obtain ⟨k, rfl, hk, hbel⟩ := hrel
    have hkn : k < n := by omega
    obtain ⟨x, hx⟩ : ∃ x, ka[k]? = some x := ⟨_, List.getElem?_eq_getElem (by rw [← HN.out]; exact hkn)⟩
    obtain ⟨y, hy⟩ : ∃ y, kb[k]? = some y := ⟨_, List.getElem?_eq_getElem (by rw [← HL.out, ← HN.out]; exact hkn)⟩
    obtain ⟨a0, a1, a2, a3⟩ := vcells_at ka k x hx
    obtain ⟨b0, b1, b2, b3⟩ := vcells_at kb k y hy
    have mv : ∀ {g o : Nat} {v : Value}, w.cell? ⟨g, o, none⟩ = some v → wr.cell? ⟨g, o, none⟩ = some v := fun h => by rw [World.cell?_of_block (w := w) (hbel.block _ (cell_lt h)), h]
    have a0 := mv (HA.out _ _ a0)
    have a1 := mv (HA.out _ _ a1)
    have a2 := mv (HA.out _ _ a2)
    have a3 := mv (HA.out _ _ a3)
    have b0 := mv (HB.out _ _ b0)
    have b1 := mv (HB.out _ _ b1)
    have b2 := mv (HB.out _ _ b2)
    have b3 := mv (HB.out _ _ b3)
    have la := cell_lt a0
    have lb := cell_lt b0
    have K := fun w => order_any w x y
    have s1 := hbel.size
    have i1 : (0 : Int) ≤ (k : Int) := Int.natCast_nonneg _
    have i2 : (k : Int) < (n : Int) := by omega
    have HBEL := Lib.hid hbel
    have HXX := Lib.hid hx
    have HYY := Lib.hid hy
    clear mv hbel hx hy
    obtain ⟨s, hs⟩ : ∃ s, s = sgn x y := ⟨_, rfl⟩
    rw [← hs] at K
    have HSG := Lib.hid hs
    clear hs
    unfold iv at K
    go_wp2_with fail
    go_region_held3 (fun w' => w'.cell? ⟨ga, k * 4, none⟩ = some (.int .i64 2) ∧ w'.cell? ⟨ga, k * 4 + 1, none⟩ = some (.int .i64 x) ∧ w'.cell? ⟨ga, k * 4 + 2, none⟩ = some (.complex .f64 0 0) ∧ w'.cell? ⟨ga, k * 4 + 3, none⟩ = some (.string ⟨#[]⟩) ∧ w'.cell? ⟨gb, k * 4, none⟩ = some (.int .i64 2) ∧ w'.cell? ⟨gb, k * 4 + 1, none⟩ = some (.int .i64 y) ∧ w'.cell? ⟨gb, k * 4 + 2, none⟩ = some (.complex .f64 0 0) ∧ w'.cell? ⟨gb, k * 4 + 3, none⟩ = some (.string ⟨#[]⟩))
      (first
        | exact ⟨a0, a1, a2, a3, b0, b1, b2, b3⟩
        | exact ⟨(hb1.cell la).trans a0, (hb1.cell la).trans a1, (hb1.cell la).trans a2, (hb1.cell la).trans a3, (hb1.cell lb).trans b0, (hb1.cell lb).trans b1, (hb1.cell lb).trans b2, (hb1.cell lb).trans b3⟩)
      ((go_at_call 231; refine (K _).mono ?_; rintro e w1 ⟨rfl, hb1⟩))
    have hbelw : Below w.heap.size w w1 := HBEL.out.drew.trans (hb1.mono s1)
    clear a0 a1 a2 a3 b0 b1 b2 b3 K hb1
    by_cases hki : k < i0
    · have exy : x = y := by
        have h1 := HS.out k hki
        rw [HXX.out, HYY.out] at h1
        cases h1; rfl
      have hs0 : s = 0 := by rw [HSG.out, exy]; simp [sgn]
      subst hs0
      go_wp2_with fail
      exact ⟨⟨k + 1, by go_num, hki, hbelw⟩, by simp [intOf]; omega⟩
    · obtain rfl : k = i0 := by omega
      have hs1 : s = -1 := by
        have h1 := HX.out
        have h2 := HY.out
        rw [HXX.out] at h1
        rw [HYY.out] at h2
        cases h1; cases h2
        rw [HSG.out]; exact if_pos hxy
      subst hs1
      go_wp2_with fail
      exact bodyPost_ret (v := .int .i64 (-1)) (by simp [results, Tryz.results196, go_sem]) rfl ⟨rfl, hbelw⟩
theorem vcells_take (l : List Int) (k : Nat) : ∀ (j : Nat) (u : Value), (vcells (l.take k))[j]? = some u → (vcells l)[j]? = some u := by
  induction l generalizing k with
  | nil => intro j u h; simp [vcells] at h
  | cons x l ih =>
    intro j u h
    cases k with
    | zero => simp [vcells] at h
    | succ k =>
      simp only [List.take_succ_cons, vcells] at h ⊢
      match j with
      | 0 => exact h
      | 1 => exact h
      | 2 => exact h
      | 3 => exact h
      | j + 4 => exact ih k j u h
theorem below_drewN {B : Nat} {a w : World} {n : Nat} (h : Below B a w) : Below B a (w.drewN n) := ⟨h.os, h.tape, h.output, h.size, h.block⟩
/-- The place of a key that is greater than all. -/
theorem find_any (w : World) (nm : ByteArray) (pc : Option Addr) (nc cc kn : Nat) (v : Value) (L : List (List Int)) (k : List Int) (gk ck : Nat) (h : VRows w v L) (hk : Last kn L k) (hkn : kn ≤ 100) (hck : kn ≤ ck) (hc : ∀ j u, (vcells k)[j]? = some u → w.cell? ⟨gk, j, none⟩ = some u) (hl : ∀ l ∈ L, kn ≤ l.length) :
    Calls Tryz.prog 155 #[tabV nm pc nc cc kn v, .slice (some ⟨gk, 0, none⟩) kn ck] w fun e w' => e = .returned (.tuple #[.int .i64 L.length, .bool false]) ∧ Below w.heap.size w w' := by
  obtain ⟨hL1, hL2, hL3, hL4⟩ := hk
  obtain ⟨p, cap, rfl, hcell⟩ : ∃ p cap, v = .slice p L.length cap ∧ ∀ (i : Nat) (l : List Int), L[i]? = some l → ∃ g u, p = some ⟨g, 0, none⟩ ∧ g < w.heap.size ∧ w.cell? ⟨g, i, none⟩ = some u ∧ VRow w u l := by
    by_cases hL : L = []
    · subst hL
      obtain ⟨us, h1, _⟩ := h
      rcases h1.2 with ⟨rfl, _⟩ | ⟨g, cap, cur, rfl, _⟩
      · exact ⟨none, 0, rfl, fun i l h => by simp at h⟩
      · exact ⟨_, cap, rfl, fun i l h => by simp at h⟩
    · obtain ⟨g, cap, e1, e2, e3⟩ := h.read (List.length_pos_iff.2 hL)
      exact ⟨_, cap, e1, fun i l hl => let ⟨u, a, b⟩ := e3 i l hl; ⟨g, u, rfl, e2, a, b⟩⟩
  have HC := Lib.hid hc
  have H4 := Lib.hid hL4
  have HLL := Lib.hid hl
  have H3 := Lib.hid hL3
  have f1 : (0 : Int) ≤ (kn : Int) := Int.natCast_nonneg _
  clear h hc hL4 hL2 hl hL3
  unfold tabV
  go_enter Tryz.func155, Tryz.ntmps155
  go_wp2_with fail
  go_loopw [6] (fun i wr => ∃ a : Nat, i = .int .i64 a ∧ a ≤ L.length ∧ Below w.heap.size w wr ∧ wr.heap[w.heap.size]? = some (.cells #[.string nm, .slice pc nc cc, .int .i64 kn, .slice none 0 0, .slice p L.length cap] 87 (0, 0))) (fun i _ => L.length - (intOf i).toNat)
  case atStart => exact ⟨0, rfl, Nat.zero_le _, (Below.refl _ _).alloc (Nat.le_refl _) _, heap_alloc_at⟩
  case round =>
    obtain ⟨a, rfl, ha, hbel, hbox⟩ := hrel
    have c4 : wr.cell? ⟨w.heap.size, 4, none⟩ = some (.slice p L.length cap) := cell_of_heap hbox 4 _ rfl
    have c2 : wr.cell? ⟨w.heap.size, 2, none⟩ = some (.int .i64 kn) := cell_of_heap hbox 2 _ rfl
    have lbox := lt_of_heap hbox
    have HBX := Lib.hid hbox
    have HBEL := Lib.hid hbel
    clear hbox
    by_cases hlt : a < L.length
    · obtain ⟨l, hx⟩ : ∃ x, L[a]? = some x := ⟨_, List.getElem?_eq_getElem hlt⟩
      obtain ⟨g, u, rfl, hg, hcu, hu⟩ := hcell a l hx
      have hmem := List.mem_of_getElem? hx
      obtain ⟨q1, q2, q3⟩ := H4.out l hmem
      have hll := HLL.out l hmem
      obtain ⟨gu, cu, rfl, hgu, hu1, hu2, hu3⟩ := hu.read
      have hcell1 : wr.cell? ⟨g, a, none⟩ = some (.slice (some ⟨gu, 0, none⟩) l.length cu) := by rw [World.cell?_of_block (w := w) (hbel.block g hg), hcu]
      have i1 : (0 : Int) ≤ (a : Int) := Int.natCast_nonneg _
      have i2 : (a : Int) < (L.length : Int) := by omega
      have f2 : (kn : Int) ≤ (cu : Int) := by omega
      have K : ∀ w1, Below w.heap.size w w1 → Calls Tryz.prog 196 #[.slice (some ⟨gu, 0, none⟩) kn cu, .slice (some ⟨gk, 0, none⟩) kn ck] w1 fun e w' => e = .returned (.int .i64 (-1)) ∧ Below w1.heap.size w1 w' := fun w1 hw1 => by
        have := cmpRows_any w1 (l.take kn) k gu gk cu ck q1 (by rw [q2, H3.out]) (by omega) (by omega) (by rw [H3.out]; exact hck) (fun j u hj => by
          have h1 := hu3 j u (vcells_take l kn j u hj)
          rw [World.cell?_of_block (w := w) (hw1.block _ (cell_lt h1)), h1]) (fun j u hj => by
          have h1 := HC.out j u hj
          rw [World.cell?_of_block (w := w) (hw1.block _ (cell_lt h1)), h1])
        rw [q2, H3.out] at this
        exact this
      have s1 := hbel.size
      clear hcell hx hmem q1 q2 q3 hu hu3 hcu hbel
      go_wp2_with fail
      go_region_held3 (fun w' => w'.cell? ⟨w.heap.size, 4, none⟩ = some (.slice (some ⟨g, 0, none⟩) L.length cap) ∧ w'.cell? ⟨w.heap.size, 2, none⟩ = some (.int .i64 kn) ∧ w'.cell? ⟨g, a, none⟩ = some (.slice (some ⟨gu, 0, none⟩) l.length cu))
        (first
          | exact ⟨c4, c2, hcell1⟩
          | exact ⟨(hb1.cell lbox).trans c4, (hb1.cell lbox).trans c2, (hb1.cell (show g < wr.heap.size by omega)).trans hcell1⟩)
        ((go_at_call 196; refine (K _ HBEL.out.drew).mono ?_; rintro e w1 ⟨rfl, hb1⟩))
      go_wp2_with fail
      exact ⟨⟨a + 1, by go_num, hlt, HBEL.out.drew.trans (hb1.mono s1), (hb1.block _ lbox).trans HBX.out⟩, by simp [intOf]; omega⟩
    · obtain rfl : a = L.length := by omega
      clear hcell hbel
      go_wp2_with fail
      go_quiet (fail)
      go_wp2_with fail
      go_quiet (fail)
      go_wp2_with fail
      exact bodyPost_ret (v := .tuple #[.int .i64 L.length, .bool false]) (by simp [results, Tryz.results155, go_sem]) rfl ⟨rfl, below_drewN (below_drewN HBEL.out)⟩
end Go.Proofs.YtbjickdjkgefcaaGreatDoor
end
