import Derived.Test.YtpbgaoodokapeaaDoorQD
import Derived.OwnWalk
import Derived.Maps.OwnRows
import Derived.Deep.AppendLies
open Go Go.RowKit
namespace Go.Proofs.YtpbgaoodokapeaaDoor
set_option linter.unusedVariables false
set_option linter.unusedSimpArgs false
theorem int_info : (Tryd.prog.info? 3).map (fun i => (i.zero, i.size, i.bytes)) = some (some (.int .i64 0), 1, 8) := by kernel_rfl
theorem cell_new (w : World) (cur : Array Value) (t : TypeId) (i : Nat) (x : Value) (h : cur[i]? = some x) : (w.alloc (.cells cur t (0, 0))).cell? ⟨w.heap.size, i, none⟩ = some x := by
  rw [cell_of_row _ _ _ _ _ _ (heap_alloc_new w _)]; exact h
theorem sl_one (w : World) (x : Int) : Sl [x] (.slice (some ⟨w.heap.size, 0, none⟩) 1 1) (w.alloc (.cells #[.int .i64 x] 3 (0, 0))) :=
  .inl ⟨w.heap.size, 0, 1, rfl, fun i hi => by
    have : i = 0 := by simp at hi; omega
    subst this; exact cell_new _ _ _ _ _ rfl⟩
theorem sl_two (w : World) (x y : Int) : Sl [x, y] (.slice (some ⟨w.heap.size, 0, none⟩) 2 2) (w.alloc (.cells #[.int .i64 x, .int .i64 y] 3 (0, 0))) :=
  .inl ⟨w.heap.size, 0, 2, rfl, fun i hi => by
    have : i = 0 ∨ i = 1 := by simp at hi; omega
    rcases this with rfl | rfl <;> exact cell_new _ _ _ _ _ rfl⟩
theorem sl_own {w : World} {base : Nat} {v : Value} {zs : List Int} (h : w.ownsRow base 3 1 v zs.length (zs.map (Value.int .i64))) : Sl zs v w := by
  rcases h.2 with ⟨rfl, h0⟩ | ⟨g, cap, cur, rfl, _, hh, _, _, _, ht⟩
  · exact .inr ⟨List.length_eq_zero_iff.1 h0, none, 0, rfl, fun _ => rfl⟩
  · refine .inl ⟨g, 0, cap, rfl, fun i hi => ?_⟩
    rw [Nat.zero_add, cell_of_row _ _ _ _ _ _ hh]
    have h1 : cur.toList[i]? = (zs.map (Value.int .i64))[i]? := by rw [← ht, List.getElem?_take]; simp [hi]
    rw [← Array.getElem?_toList, h1]; simp [hi]
theorem ownsRow_one (w : World) (base : Nat) (x : Int) (h : base ≤ w.heap.size) : (w.alloc (.cells #[.int .i64 x] 3 (0, 0))).ownsRow base 3 1 (.slice (some ⟨w.heap.size, 0, none⟩) 1 1) 1 [.int .i64 x] :=
  ⟨rfl, .inr ⟨w.heap.size, 1, #[.int .i64 x], rfl, h, heap_alloc_new w _, Nat.le_refl _, by decide, rfl, rfl⟩⟩
theorem alloc_B {a b : World} (h : Below a.heap.size a b) (o : Obj) : Below a.heap.size a (b.alloc o) := h.alloc h.size o
set_option maxRecDepth 4000 in
set_option maxHeartbeats 2000000 in
theorem prices_walk (a many rate U p e s f x g q h t i : Int) (n : Nat) (w : World)
    (hU : IntKind.u64.wrap many = U) (hM : U.tmod 30 = (n : Int)) (hMw : wrap64 (n : Int) = n) (hM1 : n < 30)
    (KW : ∀ w', w' = w → Calls Tryd.prog 16 #[] w' fun e w2 => e = .returned (.bool true) ∧ Below w'.heap.size w' w2)
    (KP : ∀ w, Calls Tryd.prog 21 #[.int .i64 a, .int .i64 (n : Int), .slice none 0 0] w fun e' w' => e' = .returned (.tuple #[.int .i64 p, .int .i64 e]) ∧ Below w.heap.size w w')
    (KS : ∀ v w, Sl (0 :: List.replicate n a) v w → Calls Tryd.prog 18 #[v] w fun e' w' => e' = .returned (.tuple #[.int .i64 s, .int .i64 f]) ∧ w' = w)
    (KX : ∀ w, Calls Tryd.prog 17 #[.int .i64 p, .int .i64 rate] w fun e' w' => e' = .returned (.tuple #[.int .i64 x, .int .i64 g]) ∧ Below w.heap.size w w')
    (KQ : ∀ v w, Sl [rate] v w → Calls Tryd.prog 21 #[.int .i64 a, .int .i64 (n : Int), v] w fun e' w' => e' = .returned (.tuple #[.int .i64 q, .int .i64 h]) ∧ Below w.heap.size w w')
    (L0 : n = 0 → (e = 0 ∧ f = 0 ∧ p = 0) ∨ e = 220) (L1 : ¬ n = 0 → f = e ∧ s = p)
    (L2 : ¬ n = 0 → e = 0 → ¬ g = 0 → h = g ∧ q = 0) (L3 : ¬ n = 0 → e = 0 → g = 0 → h = i ∧ q = t)
    (KT : ∀ v w, Sl [p, x] v w → Calls Tryd.prog 18 #[v] w fun e' w' => e' = .returned (.tuple #[.int .i64 t, .int .i64 i]) ∧ w' = w) :
    Calls Tryd.prog 7 #[.int .i64 a, .int .i64 many, .int .i64 rate] w fun e w' => e = .returned (.bool true) ∧ Below w.heap.size w w' := by
  obtain ⟨i0, hi0, hz0, hz1, hz2⟩ := info_parts int_info
  go_enter Tryd.func7, Tryd.ntmps7
  go_wp2_with (first
    | (go_at_call 16; with_reducible refine (KW _ rfl).mono ?_; rintro e w1 ⟨rfl, hb1⟩)
    | (go_at_call 21; with_reducible refine (KP _).mono ?_; rintro e w2 ⟨rfl, hb2⟩))
  have hb12 : Below w.heap.size w w2 := Below.thenB hb1 hb2
  go_loopw [9, 32] (fun v i w' => ∃ (k : Nat), k ≤ n ∧ i = .int .i64 k ∧ w'.ownsRow w.heap.size 3 1 v (k + 1) ((0 :: List.replicate k a).map (Value.int .i64)) ∧ Below w.heap.size w w') (fun v i w' => n - (intOf i).toNat)
  case atStart => exact ⟨0, Nat.zero_le _, rfl, ownsRow_one w2 _ 0 hb12.size, hb12.alloc hb12.size _⟩
  case round =>
    obtain ⟨k, hk, rfl, hown, hb⟩ := hrel
    by_cases hlt : k < n
    · have hlt' : (k : Int) < (n : Int) := by omega
      have wk : wrap64 ((k : Int) + 1) = (k : Int) + 1 := wrap_ok _ (by omega) (by omega)
      go_wp2_with (first
        | (at_builtin
           refine wpList_append_lies _ rfl (.tmp 34) (.tmp 36) _ rfl w.heap.size 3 i0 _ 1 8 Tryd.underlying22 hi0 hz0 hz1 hz2 rfl (by omega) _ (k + 1) _ (by rfl) (hown.alloc _) _ 1 1 [.int .i64 a] (by rfl) rfl (World.news_of_block (heap_alloc_new _ _)) (by simp [Value.oneCell']) (by omega) (by simp only [maxLen]; omega) (by omega) (by have := hb.size; simp; omega) (wr.heap.size + 1) (by simp) ?_
           intro g2 cap w4 hown2 hgrow hat hlt2))
      refine ⟨⟨k + 1, hlt, by go_num, ?_, ?_⟩, by simp [intOf]; omega⟩
      · have : (0 :: List.replicate (k + 1) a).map (Value.int .i64) = (0 :: List.replicate k a).map (Value.int .i64) ++ [.int .i64 a] := by
          rw [List.replicate_succ']; simp
        rw [this]; exact hown2
      · exact (hb.alloc hb.size _).grown hgrow (by have := hb.size; simp; omega) (fun j hj => (hown.lt j hj).1)
    · have hk' : k = n := by omega
      subst hk'
      have hsl : Sl (0 :: List.replicate k a) u9 wr := sl_own (by simpa using hown)
      clear hown KW KP hb1 hb2 hb12
      by_cases hn0 : k = 0
      · subst hn0
        clear L1 L2 L3
        rcases L0 rfl with ⟨rfl, rfl, rfl⟩ | rfl
        · clear L0
          go_wp2_with (first
            | (go_at_call 18; with_reducible refine (KS _ _ hsl).mono ?_; rintro e w5 ⟨rfl, rfl⟩)
            | (go_at_call 17; with_reducible refine (KX _).mono ?_; rintro e w6 ⟨rfl, hb6⟩)
            | (go_at_call 21; with_reducible refine (KQ _ _ (sl_one _ _)).mono ?_; rintro e w7 ⟨rfl, hb7⟩)
            | (go_at_call 18; with_reducible refine (KT _ _ (sl_two _ _ _)).mono ?_; rintro e w8 ⟨rfl, rfl⟩))
          all_goals go_ret
          all_goals exact ⟨rfl, hb⟩
        · clear L0
          by_cases hp : p = 0 <;> by_cases hf : f = 0
          all_goals go_wp2_with (first
            | (go_at_call 18; with_reducible refine (KS _ _ hsl).mono ?_; rintro e w5 ⟨rfl, rfl⟩)
            | (go_at_call 17; with_reducible refine (KX _).mono ?_; rintro e w6 ⟨rfl, hb6⟩)
            | (go_at_call 21; with_reducible refine (KQ _ _ (sl_one _ _)).mono ?_; rintro e w7 ⟨rfl, hb7⟩)
            | (go_at_call 18; with_reducible refine (KT _ _ (sl_two _ _ _)).mono ?_; rintro e w8 ⟨rfl, rfl⟩))
          all_goals go_ret
          all_goals exact ⟨rfl, hb⟩
      · obtain ⟨N, hN⟩ : ∃ N : Int, N = (k : Int) := ⟨_, rfl⟩
        have hn1 : ¬ N = 0 := by omega
        rw [← hN] at KQ ⊢
        have hNN : ¬ N < N := by omega
        clear hMw hM hN
        obtain ⟨rfl, rfl⟩ := L1 hn0
        by_cases he : f = 0
        · by_cases hg : g = 0
          · obtain ⟨rfl, rfl⟩ := L3 hn0 he hg
            subst he hg
            clear L0 L1 L2 L3
            go_wp2_with (first
            | (go_at_call 18; with_reducible refine (KS _ _ hsl).mono ?_; rintro e w5 ⟨rfl, rfl⟩)
            | (go_at_call 17; with_reducible refine (KX _).mono ?_; rintro e w6 ⟨rfl, hb6⟩)
            | (go_at_call 21; with_reducible refine (KQ _ _ (sl_one _ _)).mono ?_; rintro e w7 ⟨rfl, hb7⟩)
            | (go_at_call 18; with_reducible refine (KT _ _ (sl_two _ _ _)).mono ?_; rintro e w8 ⟨rfl, rfl⟩))
            all_goals go_ret
            all_goals exact ⟨rfl, alloc_B (Below.thenB (alloc_B (Below.thenB hb hb6) _) hb7) _⟩
          · obtain ⟨rfl, rfl⟩ := L2 hn0 he hg
            subst he
            clear L0 L1 L2 L3
            go_wp2_with (first
            | (go_at_call 18; with_reducible refine (KS _ _ hsl).mono ?_; rintro e w5 ⟨rfl, rfl⟩)
            | (go_at_call 17; with_reducible refine (KX _).mono ?_; rintro e w6 ⟨rfl, hb6⟩)
            | (go_at_call 21; with_reducible refine (KQ _ _ (sl_one _ _)).mono ?_; rintro e w7 ⟨rfl, hb7⟩)
            | (go_at_call 18; with_reducible refine (KT _ _ (sl_two _ _ _)).mono ?_; rintro e w8 ⟨rfl, rfl⟩))
            all_goals go_ret
            all_goals exact ⟨rfl, Below.thenB (alloc_B (Below.thenB hb hb6) _) hb7⟩
        · clear L0 L1 L2 L3
          go_wp2_with (first
            | (go_at_call 18; with_reducible refine (KS _ _ hsl).mono ?_; rintro e w5 ⟨rfl, rfl⟩)
            | (go_at_call 17; with_reducible refine (KX _).mono ?_; rintro e w6 ⟨rfl, hb6⟩)
            | (go_at_call 21; with_reducible refine (KQ _ _ (sl_one _ _)).mono ?_; rintro e w7 ⟨rfl, hb7⟩)
            | (go_at_call 18; with_reducible refine (KT _ _ (sl_two _ _ _)).mono ?_; rintro e w8 ⟨rfl, rfl⟩))
          all_goals go_ret
          all_goals exact ⟨rfl, hb⟩
end Go.Proofs.YtpbgaoodokapeaaDoor
