import Derived.Test.YtpbgaoodokapeaaDoorRA
import Derived.Test.YtpbgaoodokapeaaDoorQF
import Derived.Laws.AppendOwnNone
import Derived.Deep.QuietTactic
import Derived.BigQuiet
open Go Go.RowKit
namespace Go.Proofs.YtpbgaoodokapeaaDoor
set_option linter.unusedVariables false
set_option linter.unusedSimpArgs false
set_option maxRecDepth 4000
/-- What LendInts gives. -/
def Lent (zs : List Int) (v : Value) (base : Nat) (w : World) : Prop :=
  ∃ g cap, v = .slice (some ⟨g, 0, none⟩) zs.length cap ∧ base ≤ g ∧ zs.length < cap ∧ cap ≤ maxLen ∧ ∀ i u, ((zs ++ [-77]).map (Value.int .i64))[i]? = some u → w.cell? ⟨g, i, none⟩ = some u
theorem lent_of {zs : List Int} {base g n cap : Nat} {w : World} (hn : n = zs.length) (h : w.ownsRow base 3 1 (.slice (some ⟨g, 0, none⟩) (n + 1) cap) (n + 1) ((zs ++ [-77]).map (Value.int .i64))) :
    n < cap ∧ cap ≤ maxLen ∧ base ≤ g ∧ ∀ i u, ((zs ++ [-77]).map (Value.int .i64))[i]? = some u → w.cell? ⟨g, i, none⟩ = some u := by
  rcases h.2 with ⟨h0, _⟩ | ⟨g', cap', cur, hv, hb, hh, h1, h2, h3, ht⟩
  · cases h0
  · simp only [Value.slice.injEq, Option.some.injEq, Addr.mk.injEq] at hv
    obtain ⟨⟨rfl, _⟩, _, rfl⟩ := hv
    refine ⟨by omega, h2, hb, fun i u hu => ?_⟩
    rw [cell_of_row _ _ _ _ _ _ hh]
    rw [← ht, List.getElem?_take] at hu
    split at hu
    · rwa [Array.getElem?_toList] at hu
    · cases hu
theorem Addr_add (b off j : Nat) : (⟨b, off, none⟩ : Addr).add j = ⟨b, off + j, none⟩ := by
  unfold Addr.add; split <;> simp_all
theorem news_of {w : World} {b off : Nat} {zs : List Int} (hc : ∀ i, i < zs.length → w.cell? ⟨b, off + i, none⟩ = some (.int .i64 (zs.getD i 0))) : ∀ j u, (zs.map (Value.int .i64))[j]? = some u → w.cell? ((⟨b, off, none⟩ : Addr).add j) = some u := by
  intro j u hu
  rw [Addr_add]
  rw [List.getElem?_map] at hu
  by_cases hj : j < zs.length
  · rw [hc j hj]; simp [hj] at hu; simp [hj, hu]
  · rw [List.getElem?_eq_none (by omega)] at hu; cases hu
theorem new_cell_ne (w : World) (p : Addr) (o : Obj) {v : Value} (h : w.cell? p = some v) : (w.alloc o).cell? p = some v := by
  have := (Below.refl w.heap.size w).alloc (Nat.le_refl _) o
  rw [this.cell (cell_lt h), h]
theorem ownsRow_zero (w : World) (base : Nat) (h : base ≤ w.heap.size) : (w.alloc (.cells #[] 3 (0, 0))).ownsRow base 3 1 (.slice (some ⟨w.heap.size, 0, none⟩) 0 0) 0 [] :=
  ⟨rfl, .inr ⟨w.heap.size, 0, #[], rfl, h, heap_alloc_new w _, Nat.le_refl _, by decide, rfl, rfl⟩⟩
set_option maxHeartbeats 1000000 in
theorem lend_at (ad : Addr) (cap : Nat) (zs : List Int) (w : World) (hlen : zs.length ≤ 17592186043904) (hnews : ∀ j u, (zs.map (Value.int .i64))[j]? = some u → (w.alloc (.cells #[] 3 (0, 0))).cell? (ad.add j) = some u) :
    Calls Tryd.prog 10 #[.slice (some ad) zs.length cap] w fun e' w' => ∃ v, e' = .returned v ∧ Lent zs v w.heap.size w' ∧ Below w.heap.size w w' := by
  obtain ⟨i0, hi0, hz0, hz1, hz2⟩ := info_parts int_info
  obtain ⟨n, hn⟩ : ∃ n, n = zs.length := ⟨_, rfl⟩
  rw [← hn]
  have hone : ∀ u ∈ zs.map (Value.int .i64), u.oneCell' = true := by
    intro u hu; obtain ⟨z, _, rfl⟩ := List.mem_map.1 hu; rfl
  have hl : (zs.map (Value.int .i64)).length = n * 1 := by simp [hn]
  go_enter Tryd.func10, Tryd.ntmps10
  go_wp2_with (first
    | (at_builtin
       refine wpList_append_own_at _ rfl (.tmp 4) (.tmp 5) _ rfl w.heap.size 3 i0 _ 1 8 Tryd.underlying22 hi0 hz0 hz1 hz2 rfl (by omega) _ 0 [] (by rfl) (ownsRow_zero w _ (Nat.le_refl _)) ad n cap (zs.map (Value.int .i64)) (by rfl) hl hnews hone (by simp only [maxLen]; omega) (by omega) (by simp) ?_
       intro v1 w1 hown1 hg1 hnil1 hat1)
    | (at_builtin
       refine wpList_append_lies _ rfl (.tmp 7) (.tmp 8) _ rfl w.heap.size 3 i0 _ 1 8 Tryd.underlying22 hi0 hz0 hz1 hz2 rfl (by omega) _ (0 + n) _ (by rfl) (hown1.alloc _) _ 1 1 [.int .i64 (-77)] (by rfl) rfl (World.news_of_block (heap_alloc_new _ _)) (by simp [Value.oneCell']) (by omega) (by simp only [maxLen]; omega) (by omega) (by have := hg1.size; simp at this; simp; omega) (w1.heap.size + 1) (by simp) ?_
       intro g2 cap2 w4 hown2 hgrow hat hlt2
       obtain ⟨hc1, hc2, hc3, hc4⟩ := lent_of (n := n) (zs := zs) hn (by simpa using hown2)
       rw [hn] at hc1
       have hc5 : (zs.length : Int) ≤ cap2 := by omega))
  all_goals go_ret
  refine ⟨_, rfl, ⟨g2, cap2, rfl, hc3, hc1, hc2, hc4⟩, ?_⟩
  have hb0 : Below w.heap.size w (w.alloc (.cells #[] 3 (0, 0))) := (Below.refl _ _).alloc (Nat.le_refl _) _
  have hb1 : Below w.heap.size w w1 := hb0.grown hg1 (by simp) (fun k hk => by simp [Value.ownBlock] at hk; omega)
  exact (hb1.alloc hb1.size _).grown hgrow (by have := hb1.size; simp; omega) (fun k hk => (hown1.lt k hk).1)
theorem lend_walk (b off cap : Nat) (zs : List Int) (w : World) (hlen : zs.length ≤ 17592186043904) (hc : ∀ i, i < zs.length → w.cell? ⟨b, off + i, none⟩ = some (.int .i64 (zs.getD i 0))) :
    Calls Tryd.prog 10 #[.slice (some ⟨b, off, none⟩) zs.length cap] w fun e' w' => ∃ v, e' = .returned v ∧ Lent zs v w.heap.size w' ∧ Below w.heap.size w w' :=
  lend_at _ cap zs w hlen (news_of (w := w.alloc (.cells #[] 3 (0, 0))) (fun i hi => new_cell_ne w _ _ (hc i hi)))
theorem news_one (w : World) (x : Value) (t : TypeId) (H : Nat) (h : w.heap.size = H) : ∀ j u, [x][j]? = some u → (w.alloc (.cells #[x] t (0, 0))).cell? ((⟨H, 0, none⟩ : Addr).add j) = some u := by
  subst h; exact cell_one_new w x t
theorem lend_nil (w : World) :
    Calls Tryd.prog 10 #[.slice none 0 0] w fun e' w' => ∃ v, e' = .returned v ∧ Lent [] v w.heap.size w' ∧ Below w.heap.size w w' := by
  obtain ⟨i0, hi0, hz0, hz1, hz2⟩ := info_parts int_info
  go_enter Tryd.func10, Tryd.ntmps10
  go_wp2_with (first
    | (at_builtin
       (refine wpList_append_lies _ rfl (.tmp 7) (.tmp 8) _ rfl w.heap.size 3 i0 _ 1 8 Tryd.underlying22 hi0 hz0 hz1 hz2 rfl (by omega) _ 0 [] (by rfl) ((ownsRow_zero w _ (Nat.le_refl _)).alloc _) _ 1 1 [.int .i64 (-77)] (by rfl) rfl (news_one (w.alloc (.cells #[] 3 (0, 0))) _ _ (w.heap.size + 1) (by simp)) (by simp [Value.oneCell']) (by omega) (by simp only [maxLen]; omega) (by omega) (by simp; omega) (w.heap.size + 2) (by simp) ?_)
       intro g2 cap2 w4 hown2 hgrow hat hlt2
       obtain ⟨hc1, hc2, hc3, hc4⟩ := lent_of (n := 0) (zs := []) rfl hown2
       have hc5 : (0 : Int) ≤ cap2 := by omega))
  all_goals go_ret
  refine ⟨_, rfl, ⟨g2, cap2, rfl, hc3, hc1, hc2, hc4⟩, ?_⟩
  have hb0 : Below w.heap.size w (w.alloc (.cells #[] 3 (0, 0))) := (Below.refl _ _).alloc (Nat.le_refl _) _
  exact (hb0.alloc hb0.size _).grown hgrow (by simp; omega) (fun k hk => ((ownsRow_zero w w.heap.size (Nat.le_refl _)).lt k hk).1)
theorem lend_any {zs : List Int} {v : Value} {w : World} (h : Sl zs v w) (hlen : zs.length ≤ 17592186043904) :
    Calls Tryd.prog 10 #[v] w fun e' w' => ∃ v, e' = .returned v ∧ Lent zs v w.heap.size w' ∧ Below w.heap.size w w' := by
  rcases h with ⟨b, off, cap, rfl, hc⟩ | ⟨rfl, p, c, rfl, hp⟩
  · exact lend_walk b off cap zs w hlen hc
  · cases p with
    | none => rw [hp rfl]; exact lend_nil w
    | some ad => exact lend_at ad c [] w hlen (fun j u hu => by simp at hu)
theorem Lent.sl {zs : List Int} {v : Value} {base : Nat} {w : World} (h : Lent zs v base w) : Sl zs v w := by
  obtain ⟨g, cap, rfl, _, _, _, hc⟩ := h
  refine .inl ⟨g, 0, cap, rfl, fun i hi => ?_⟩
  rw [Nat.zero_add]
  exact hc i _ (by rw [List.getElem?_map, List.getElem?_append_left hi]; simp [hi])
theorem drewN_B {B : Nat} {a w : World} (h : Below B a w) (n : Nat) : Below B a (w.drewN n) := h.trans ⟨rfl, rfl, rfl, Nat.le_refl _, fun _ _ => rfl⟩
/-- The loop of SameInts. -/
theorem same_walk (b off cap b2 off2 cap2 : Nat) (zs : List Int) (w : World) (hlen : zs.length ≤ 140737488355328) (hc : ∀ i, i < zs.length → w.cell? ⟨b, off + i, none⟩ = some (.int .i64 (zs.getD i 0)))
    (hd : ∀ i, i < zs.length → w.cell? ⟨b2, off2 + i, none⟩ = some (.int .i64 (zs.getD i 0))) :
    Calls Tryd.prog 13 #[.slice (some ⟨b, off, none⟩) zs.length cap, .slice (some ⟨b2, off2, none⟩) zs.length cap2] w fun e' w' => e' = .returned (.bool true) ∧ Below w.heap.size w w' := by
  go_enter Tryd.func13, Tryd.ntmps13
  go_wp2
  go_loopw [5] (fun i w' => ∃ k : Nat, k ≤ zs.length ∧ i = .int .i64 k ∧ Below w.heap.size w w') (fun i w' => zs.length - (intOf i).toNat)
  case atStart => exact ⟨0, Nat.zero_le _, rfl, Below.refl _ _⟩
  case round =>
    obtain ⟨k, hk, rfl, hb⟩ := hrel
    by_cases hlt : k < zs.length
    · have hc1 : wr.cell? ⟨b, off + k, none⟩ = some (.int .i64 zs[k]) := by
        have h0 := hc k hlt
        rw [hb.cell (cell_lt h0), h0]; simp [hlt]
      have hc2 : wr.cell? ⟨b2, off2 + k, none⟩ = some (.int .i64 zs[k]) := by
        have h0 := hd k hlt
        rw [hb.cell (cell_lt h0), h0]; simp [hlt]
      clear hc hd
      go_wp2
      go_quiet (fail)
      go_wp2
      exact ⟨⟨k + 1, hlt, by go_num, drewN_B hb nq⟩, by simp [intOf]; omega⟩
    · have hk' : k = zs.length := by omega
      subst hk'
      clear hc hd
      go_wp2
      all_goals go_ret
      all_goals exact ⟨rfl, hb⟩
theorem same_zero (p q : Option Addr) (c d : Nat) (w : World) :
    Calls Tryd.prog 13 #[.slice p 0 c, .slice q 0 d] w fun e' w' => e' = .returned (.bool true) ∧ Below w.heap.size w w' := by
  go_enter Tryd.func13, Tryd.ntmps13
  go_wp2_with (refine wp_loop_rounds 1 ?_; rw [rounds_succ])
  all_goals go_ret
  all_goals exact ⟨rfl, Below.refl _ _⟩
theorem same_any {zs : List Int} {u v : Value} {w : World} (h : Sl zs u w) (h' : Sl zs v w) (hlen : zs.length ≤ 140737488355328) :
    Calls Tryd.prog 13 #[u, v] w fun e' w' => e' = .returned (.bool true) ∧ Below w.heap.size w w' := by
  rcases h with ⟨b, off, cap, rfl, hc⟩ | ⟨h0, p, c, rfl, _⟩
  · rcases h' with ⟨b2, off2, cap2, rfl, hd⟩ | ⟨h0, p, c, rfl, _⟩
    · exact same_walk b off cap b2 off2 cap2 zs w hlen hc hd
    · subst h0; exact same_zero _ _ _ _ w
  · subst h0
    rcases h' with ⟨b2, off2, cap2, rfl, hd⟩ | ⟨h0, p, c, rfl, _⟩
    · exact same_zero _ _ _ _ w
    · exact same_zero _ _ _ _ w
theorem kept_walk (g cap n : Nat) (v : Value) (w : World) (hv : ∃ p c, v = .slice p n c) (h1 : n < cap) (h2 : cap ≤ maxLen) (hc : w.cell? ⟨g, n, none⟩ = some (.int .i64 (-77))) 
    (K : Calls Tryd.prog 13 #[.slice (some ⟨g, 0, none⟩) n cap, v] w fun e' w' => e' = .returned (.bool true) ∧ Below w.heap.size w w') :
    Calls Tryd.prog 15 #[.slice (some ⟨g, 0, none⟩) n cap, v] w fun e' w' => e' = .returned (.bool true) ∧ Below w.heap.size w w' := by
  obtain ⟨p, c, rfl⟩ := hv
  have hlt := cell_lt hc
  simp only [maxLen] at h2
  have wk : wrap64 ((n : Int) + 1) = (n : Int) + 1 := wrap_ok _ (by omega) (by omega)
  have h3 : (0 : Int) ≤ (n : Int) + 1 := by omega
  have h4 : (n : Int) + 1 ≤ cap := by omega
  go_enter Tryd.func15, Tryd.ntmps15
  go_wp2_with (go_at_call 13; with_reducible refine K.mono ?_; rintro e w1 ⟨rfl, hb⟩; have hc1 : w1.cell? ⟨g, n, none⟩ = some (.int .i64 (-77)) := (hb.cell hlt).trans hc)
  all_goals go_ret
  all_goals exact ⟨rfl, hb⟩
end Go.Proofs.YtpbgaoodokapeaaDoor
