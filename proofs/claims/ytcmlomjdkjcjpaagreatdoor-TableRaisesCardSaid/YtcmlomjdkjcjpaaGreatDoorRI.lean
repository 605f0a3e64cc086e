import Derived.Test.YtcmlomjdkjcjpaaGreatDoorRG
import Derived.Test.YtcmlomjdkjcjpaaGreatDoorRF
open Go Go.RowKit Go.Proofs.YtcmlomjdkjcjpaaGreatDoor.Vai
namespace Go.Proofs.YtcmlomjdkjcjpaaGreatDoor
set_option linter.unusedVariables false
set_option linter.unusedSimpArgs false
set_option maxRecDepth 100000
def opC (kb : Nat) (z : Int) : List Value := [.int .i64 7, .string ⟨#[116]⟩, .slice (some ⟨kb, 0, none⟩) 1 1, .slice none 0 0, .slice none 0 0, .string ⟨#[]⟩, .int .i64 1, .int .i64 z, .int .i64 0]
def opL (kb : Nat) (l : List Int) : List Value := l.flatMap (opC kb)
theorem opL_append (kb : Nat) (a b : List Int) : opL kb (a ++ b) = opL kb a ++ opL kb b := by simp [opL]
theorem opL_one (kb : Nat) (z : Int) : opL kb [z] = opC kb z := by simp [opL]
theorem opL_length (kb : Nat) (l : List Int) : (opL kb l).length = 9 * l.length := by
  induction l with
  | nil => rfl
  | cons z l ih => rw [show z :: l = [z] ++ l from rfl, opL_append, List.length_append, ih, opL_one]; simp [opC]; omega
theorem opL_get (kb : Nat) : ∀ (l : List Int) (i j : Nat) (z : Int) (v : Value), l[i]? = some z → (opC kb z)[j]? = some v → (opL kb l)[i * 9 + j]? = some v := by
  intro l
  induction l with
  | nil => intro i j z v h; simp at h
  | cons a l ih =>
    intro i j z v h hv
    have hj : j < 9 := by have := (List.getElem?_eq_some_iff.1 hv).1; simpa [opC] using this
    rw [show a :: l = [a] ++ l from rfl, opL_append, opL_one]
    cases i with
    | zero =>
      simp at h
      subst h
      rw [List.getElem?_append_left (by simp [opC]; omega), Nat.zero_mul, Nat.zero_add]; exact hv
    | succ i =>
      rw [List.getElem?_append_right (by simp [opC]; omega)]
      have : (i + 1) * 9 + j - (opC kb a).length = i * 9 + j := by simp [opC]; omega
      rw [this]
      exact ih i j z v (by simpa using h) hv
def LoopA (bys : List Int) (kb : Nat) (w7 : World) (k : Nat) (up down : Value) (w : World) : Prop :=
  k ≤ bys.length ∧ k ≤ 30 ∧ Below w7.heap.size w7 w ∧ (∀ j, j < k → bys.getD j 0 ≠ -9223372036854775808) ∧ w.ownsRow w7.heap.size 39 9 up k (opL kb (bys.take k)) ∧ w.ownsRow w7.heap.size 39 9 down k (opL kb (bys.take k).reverse) ∧
    (∀ g, up.ownBlock = some g → down.ownBlock ≠ some g) ∧ (k = 0 → up = .slice none 0 0 ∧ down = .slice none 0 0)
theorem info39' : (Tryz.prog.info? 39).map (fun i => (i.zero, i.size, i.bytes)) = some (some (.agg #[.int .i64 0, .string ⟨#[]⟩, .slice none 0 0, .slice none 0 0, .slice none 0 0, .string ⟨#[]⟩, .int .i64 0, .int .i64 0, .int .i64 0]), 9, 136) := by kernel_rfl
theorem info39 : ∃ i z, Tryz.prog.info? 39 = some i ∧ i.zero = some z ∧ i.size = 9 ∧ i.bytes = 136 ∧ z.cells.size = 9 := by
  have h := info39'
  cases hi : Tryz.prog.info? 39 with
  | none => rw [hi] at h; cases h
  | some i =>
    rw [hi] at h
    simp only [Option.map_some, Option.some.injEq, Prod.mk.injEq] at h
    exact ⟨i, _, rfl, h.1, h.2.1, h.2.2, rfl⟩
theorem take_snoc {bys : List Int} {k : Nat} (h : k < bys.length) : bys.take (k + 1) = bys.take k ++ [bys.getD k 0] := by
  rw [List.take_succ_eq_append_getElem h]; simp [h]
/-- What a round of the first loop leaves, the second list not empty. -/
theorem roundA {bys : List Int} {kb : Nat} {w7 wr w2 w3 : World} {k : Nat} {up down : Value} {o o2 : Obj} {g1 c1 g2 c2 : Nat} (h : LoopA bys kb w7 k up down wr) (hk : k < bys.length) (hk30 : k < 30) (hz : bys.getD k 0 ≠ -9223372036854775808)
    (own1 : w2.ownsRow w7.heap.size 39 9 (.slice (some ⟨g1, 0, none⟩) (k + 1) c1) (k + 1) (opL kb (bys.take k) ++ opC kb (bys.getD k 0))) (gr1 : (wr.alloc o).grownBy w2 up.ownBlock) (at1 : up.ownBlock = some g1 ∨ g1 = wr.heap.size + 1) (lt1 : g1 < w2.heap.size)
    (own2 : w3.ownsRow w7.heap.size 39 9 (.slice (some ⟨g2, 0, none⟩) (1 + k) c2) (1 + k) (opC kb (bys.getD k 0) ++ opL kb (bys.take k).reverse)) (gr2 : (w2.alloc o2).grownBy w3 (some w2.heap.size)) (at2 : g2 = w2.heap.size ∨ g2 = w2.heap.size + 1) :
    LoopA bys kb w7 (k + 1) (.slice (some ⟨g1, 0, none⟩) (k + 1) c1) (.slice (some ⟨g2, 0, none⟩) (1 + k) c2) w3 := by
  obtain ⟨h1, h2, h3, h4, h5, h6, h7, h8⟩ := h
  have hlow : ∀ q, up.ownBlock = some q → w7.heap.size ≤ q ∧ q < wr.heap.size := h5.lt
  have hsz := h3.size
  have B1 : Below w7.heap.size w7 w2 := (h3.alloc hsz o).grown gr1 (by simp; omega) (fun q hq => (hlow q hq).1)
  have hs2 := B1.size
  have B2 : Below w7.heap.size w7 w3 := (B1.alloc hs2 o2).grown gr2 (by simp; omega) (fun q hq => by cases hq; omega)
  have own1' := (own1.alloc o2).kept gr2 (.inr (by simp [Value.ownBlock]; omega))
  refine ⟨hk, by omega, B2, fun j hj => ?_, ?_, ?_, fun g hg => ?_, fun h => by omega⟩
  · by_cases e : j = k
    · rw [e]; exact hz
    · exact h4 j (by omega)
  · rw [take_snoc hk, opL_append, opL_one]; exact own1'
  · rw [take_snoc hk, List.reverse_append, opL_append, List.reverse_singleton, opL_one, Nat.add_comm k 1]; exact own2
  · simp [Value.ownBlock] at hg ⊢
    omega
theorem roundA0 {bys : List Int} {kb : Nat} {w7 wr w2 : World} {k : Nat} {up down : Value} {o : Obj} {g1 c1 : Nat} (hk0 : k = 0) (h : LoopA bys kb w7 k up down wr) (hk : k < bys.length) (hz : bys.getD k 0 ≠ -9223372036854775808)
    (own1 : w2.ownsRow w7.heap.size 39 9 (.slice (some ⟨g1, 0, none⟩) (k + 1) c1) (k + 1) (opL kb (bys.take k) ++ opC kb (bys.getD k 0))) (gr1 : (wr.alloc o).grownBy w2 up.ownBlock) (lt1 : g1 < w2.heap.size) :
    LoopA bys kb w7 (k + 1) (.slice (some ⟨g1, 0, none⟩) (k + 1) c1) (.slice (some ⟨w2.heap.size, 0, none⟩) 1 1) (w2.alloc (.cells (opC kb (bys.getD k 0)).toArray 39 (0, 0))) := by
  subst hk0
  obtain ⟨h1, h2, h3, h4, h5, h6, h7, h8⟩ := h
  have hlow : ∀ q, up.ownBlock = some q → w7.heap.size ≤ q ∧ q < wr.heap.size := h5.lt
  have hsz := h3.size
  have B1 : Below w7.heap.size w7 w2 := (h3.alloc hsz o).grown gr1 (by simp; omega) (fun q hq => (hlow q hq).1)
  have hs2 := B1.size
  refine ⟨hk, by omega, B1.alloc hs2 _, fun j hj => ?_, ?_, ?_, fun g hg => ?_, fun h => by omega⟩
  · rw [show j = 0 by omega]; exact hz
  · rw [take_snoc hk, opL_append, opL_one]; exact own1.alloc _
  · have := World.ownsRow_lit (base := w7.heap.size) (e := 39) (size := 9) w2 (opC kb (bys.getD 0 0)).toArray 1 hs2 (by simp [maxLen]) (by simp [opC])
    rw [take_snoc hk]
    simpa [opL] using this
  · simp [Value.ownBlock] at hg ⊢
    omega
theorem opL_cell {kb : Nat} {l : List Int} {u : Value} (h : u ∈ opL kb l) : u.oneCell' = true := by
  simp only [opL, List.mem_flatMap, opC, List.mem_cons, List.not_mem_nil, or_false] at h
  obtain ⟨z, _, h⟩ := h
  rcases h with rfl | rfl | rfl | rfl | rfl | rfl | rfl | rfl | rfl <;> rfl
theorem own_form0 {w : World} {base : Nat} {e : TypeId} {size : Nat} {v : Value} {n : Nat} {xs : List Value} (h : w.ownsRow base e size v n xs) : ∃ p cap ob, v = .slice p n cap ∧ (0 < n → p = some ⟨ob, 0, none⟩ ∧ base ≤ ob ∧ ob < w.heap.size) := by
  rcases h.2 with ⟨rfl, rfl⟩ | ⟨g, cap, cur, rfl, hb, hg, _⟩
  · exact ⟨none, 0, 0, rfl, fun h => by omega⟩
  · exact ⟨_, cap, g, rfl, fun _ => ⟨rfl, hb, (Array.getElem?_eq_some_iff.1 hg).1⟩⟩
def run_ (n : Int) (l : List Int) (i : Nat) : Int := n + (l.take i).sum
theorem run_zero (n : Int) (l : List Int) : run_ n l 0 = n := by simp [run_]
theorem run_succ (n : Int) (l : List Int) (i : Nat) (h : i < l.length) : run_ n l (i + 1) = run_ n l i + l.getD i 0 := by
  unfold run_
  rw [List.take_succ_eq_append_getElem h, List.sum_append]
  simp [h]; omega
theorem run_all (n : Int) (l : List Int) : run_ n l l.length = n + l.sum := by simp [run_]
theorem apply_list {d m kb base : Nat} {la : List Nat} {n : Int} {l : List Int} {v : Value} {w : World} {k : Nat} (hk : k = l.length) (hl : l.length ≤ 30) (hA : DataAt w d kb m la n) (hown : w.ownsRow base 39 9 v k (opL kb l)) (hm : m < base) (hw : ∀ z ∈ l, word z) (hn : word n) (hlt : ∀ x ∈ la, x < w.heap.size) :
    Calls Tryz.prog 7 #[.pointer (some ⟨d, 0, none⟩), v] w (ApplyPost d kb m l.length la (run_ n l) w) := by
  subst hk
  obtain ⟨p, cap, ob, rfl, hp⟩ := own_form0 hown
  refine apply_any d m kb ob cap l.length p (fun h => (hp h).1) la (fun i => l.getD i 0) (run_ n l) w hl (by rw [run_zero]; exact hA) (run_succ n l) (fun i hi => ?_) (by rw [run_zero]; exact hn) (fun i j u hi hu => ?_) (fun h => by have := (hp h).2.1; omega) hlt
  · have : l.getD i 0 = l[i] := by simp [hi]
    rw [this]; exact hw _ (List.getElem_mem hi)
  · obtain ⟨hp1, hp2, hp3⟩ := hp (by omega)
    subst hp1
    have h1 : l[i]? = some (l.getD i 0) := by simp [hi]
    have := (hown.cells (g := ob) rfl) (i * 9 + j) u (opL_get kb l i j _ u h1 (by
      rw [show (opv kb (l.getD i 0)).cells = (opC kb (l.getD i 0)).toArray from rfl, List.getElem?_toArray] at hu; exact hu))
    unfold Addr.add at this
    split at this
    · rename_i e; rw [e]; simpa using this
    · simpa using this
theorem sum_rev (l : List Int) : l.reverse.sum = l.sum := by
  induction l with
  | nil => rfl
  | cons a l ih => rw [List.reverse_cons, List.sum_append, ih]; simp; omega
def negs (l : List Int) : List Int := l.map (fun z => -z)
theorem negs_sum (l : List Int) : (negs l).sum = -l.sum := by
  induction l with
  | nil => rfl
  | cons a l ih => simp only [negs, List.map_cons, List.sum_cons] at ih ⊢; rw [ih]; omega
/-- Down again by the numbers, the last first: the sums that were. -/
theorem run_back (n : Int) (l : List Int) (i : Nat) (hi : i ≤ l.length) : run_ (run_ n l l.length) (negs l.reverse) i = run_ n l (l.length - i) := by
  have e : (negs l.reverse).take i = negs (l.reverse.take i) := by simp [negs, List.map_take]
  have h2 : l.sum = (l.take (l.length - i)).sum + (l.drop (l.length - i)).sum := by
    conv => lhs; rw [← List.take_append_drop (l.length - i) l, List.sum_append]
  have h3 : l.reverse.take i = (l.drop (l.length - i)).reverse := by
    rw [List.take_reverse]
  unfold run_
  rw [e, negs_sum, h3, sum_rev, List.take_length]
  omega
theorem own_same {w w' : World} {base : Nat} {e : TypeId} {size : Nat} {v : Value} {n : Nat} {xs : List Value} (h : w.ownsRow base e size v n xs) (hw : ∀ g, v.ownBlock = some g → w'.heap[g]? = w.heap[g]?) : w'.ownsRow base e size v n xs := by
  refine ⟨h.1, ?_⟩
  rcases h.2 with h2 | ⟨g, cap, cur, hv, hb, hg, r⟩
  · exact .inl h2
  · exact .inr ⟨g, cap, cur, hv, hb, by rw [hw g (by rw [hv]; rfl)]; exact hg, r⟩
theorem keep2_below {W w w' : World} {d m : Nat} (h : Below W.heap.size W w) (hk : Keep2 d m w w') (hs : Same3 w w') (hd : W.heap.size ≤ d) (hm : W.heap.size ≤ m) : Below W.heap.size W w' :=
  h.trans ⟨hs.os, hs.tape, hs.output, hk.1, fun k hk2 => hk.2 k (by have := h.size; omega) (by omega) (by omega)⟩
theorem grown_keep2 {w w' : World} {d m : Nat} (h : w.grownBy w' (some m)) : Keep2 d m w w' ∧ Same3 w w' := ⟨⟨h.size, fun b hb _ hm => h.block b hb (by simpa using hm)⟩, ⟨h.os, h.tape, h.output⟩⟩
theorem ApplyPost.some_ {d kb m n : Nat} {l : List Nat} {S : Nat → Int} {W : World} {e : Ending} {w' : World} (h : ApplyPost d kb m n l S W e w') : ∃ (res : Value) (q : Bool), e = .returned (.tuple #[res, .bool q, .int .i64 0]) ∧ Keep2 d m W w' ∧ Same3 W w' := by
  obtain ⟨res, h1, h2⟩ := h
  by_cases hF : Fits S n
  · obtain ⟨e1, e2, _⟩ := h1 hF
    exact ⟨res, true, e1, (grown_keep2 (d := d) e2).1, (grown_keep2 (d := d) e2).2⟩
  · obtain ⟨e1, e2, e3⟩ := h2 hF
    exact ⟨res, false, e1, e2, e3⟩
theorem ApplyPost.fit {d kb m n : Nat} {l : List Nat} {S : Nat → Int} {W : World} {e : Ending} {w' : World} (hF : Fits S n) (h : ApplyPost d kb m n l S W e w') : ∃ (res : Value), e = .returned (.tuple #[res, .bool true, .int .i64 0]) ∧ W.grownBy w' (some m) ∧ ∃ l', DataAt w' d kb m l' (S n) ∧ ∀ x ∈ l', x < w'.heap.size ∧ (x ∈ l ∨ W.heap.size ≤ x) := by
  obtain ⟨res, h1, h2⟩ := h
  exact ⟨res, h1 hF⟩
theorem ApplyPost.fail {d kb m n : Nat} {l : List Nat} {S : Nat → Int} {W : World} {e : Ending} {w' : World} (hF : ¬ Fits S n) (h : ApplyPost d kb m n l S W e w') : ∃ (res : Value), e = .returned (.tuple #[res, .bool false, .int .i64 0]) ∧ Keep2 d m W w' ∧ Same3 W w' := by
  obtain ⟨res, h1, h2⟩ := h
  exact ⟨res, h2 hF⟩
theorem opL_set (kb : Nat) (a b : List Int) (z z' : Int) : (opL kb (a ++ z :: b)).set (a.length * 9 + 7) (.int .i64 z') = opL kb (a ++ z' :: b) := by
  rw [show a ++ z :: b = a ++ ([z] ++ b) from rfl, show a ++ z' :: b = a ++ ([z'] ++ b) from rfl, opL_append, opL_append, opL_append, opL_append, opL_one, opL_one]
  rw [List.set_append_right _ _ (by rw [opL_length]; omega), List.set_append_left _ _ (by rw [opL_length]; simp [opC]; omega), opL_length]
  rw [show a.length * 9 + 7 - 9 * a.length = 7 by omega]
  rfl
def mix (r : List Int) (j : Nat) : List Int := negs (r.take j) ++ r.drop j
theorem mix_zero (r : List Int) : mix r 0 = r := by simp [mix, negs]
theorem mix_all (r : List Int) (k : Nat) (h : k = r.length) : mix r k = negs r := by subst h; simp [mix]
theorem mix_at (r : List Int) (j : Nat) (h : j < r.length) : mix r j = negs (r.take j) ++ r.getD j 0 :: r.drop (j + 1) := by
  unfold mix
  rw [List.drop_eq_getElem_cons h]; simp [h]
theorem mix_succ (r : List Int) (j : Nat) (h : j < r.length) : mix r (j + 1) = negs (r.take j) ++ -(r.getD j 0) :: r.drop (j + 1) := by
  unfold mix negs
  rw [List.take_succ_eq_append_getElem h, List.map_append, List.append_assoc]; simp [h, -List.map_take]
theorem negs_length (l : List Int) : (negs l).length = l.length := by simp [negs]
/-- A number of the list is turned. -/
theorem row_neg {w : World} {base kb g k cap : Nat} {r : List Int} {j : Nat} (hk : k = r.length) (hj : j < k) (h : w.ownsRow base 39 9 (.slice (some ⟨g, 0, none⟩) k cap) k (opL kb (mix r j))) :
    w.cell? ⟨g, j * 9 + 7, none⟩ = some (.int .i64 (r.getD j 0)) ∧ w.frozen? ⟨g, j * 9 + 7, none⟩ = false ∧ (w.setCell ⟨g, j * 9 + 7, none⟩ (.int .i64 (-(r.getD j 0)))).ownsRow base 39 9 (.slice (some ⟨g, 0, none⟩) k cap) k (opL kb (mix r (j + 1))) ∧ w.grownBy (w.setCell ⟨g, j * 9 + 7, none⟩ (.int .i64 (-(r.getD j 0)))) (some g) := by
  have hjr : j < r.length := by omega
  have hm := mix_at r j hjr
  have hl : (negs (r.take j)).length = j := by rw [negs_length]; simp; omega
  refine ⟨?_, h.frozenAt _, ?_⟩
  · rw [h.cellAt (j * 9 + 7) (by omega)]
    refine opL_get kb _ j 7 (r.getD j 0) _ ?_ rfl
    rw [hm, List.getElem?_append_right (by omega), hl]; simp
  · have := h.stored (j * 9 + 7) (.int .i64 (-(r.getD j 0)))
    rw [mix_succ r j hjr]
    rw [hm] at this
    have e := opL_set kb (negs (r.take j)) (r.drop (j + 1)) (r.getD j 0) (-(r.getD j 0))
    rw [hl] at e
    rw [e] at this
    exact this
theorem getD_at (r : List Int) (j : Nat) (h : j < r.length) : r.getD j 0 = r[j] := by simp [h]
end Go.Proofs.YtcmlomjdkjcjpaaGreatDoor
