/- A table with a row more, as the program makes it. -/
import Derived.Test.YtbjickdjkgefcaaGreatDoorLLA
import Derived.Outline
import Derived.StillTailTactics
section
open Go Go.RowKit Go.Proofs.YtbjickdjkgefcaaGreatDoor.Vai
namespace Go.Proofs.YtbjickdjkgefcaaGreatDoor
set_option linter.unusedVariables false
set_option linter.unusedSimpArgs false
set_option maxRecDepth 4000
theorem insert_any (w : World) (base : Nat) (v : Value) (n : Nat) (xs : List Value) (h : w.ownsRow base 183 2 v n xs) (hn : n ≤ 4000) (hbase : base ≤ w.heap.size) (b c : Nat) (x y : Value) (hx : w.cell? ⟨b, 0, none⟩ = some x) (hy : w.cell? ⟨b, 1, none⟩ = some y) (h1 : x.oneCell' = true) (h2 : y.oneCell' = true) :
    Calls Tryz.prog 226 #[v, .int .i64 n, .slice (some ⟨b, 0, none⟩) 1 c] w fun e w' => ∃ v', e = .returned v' ∧ w'.ownsRow base 183 2 v' (n + 1) (xs ++ [x, y]) ∧ w.grownBy w' v.ownBlock := by
  obtain ⟨i0, z0, hi0, hz0, hs0, hb0, hc0⟩ := info183
  have A : Hid (∀ j u, [x, y][j]? = some u → w.cell? ((⟨b, 0, none⟩ : Addr).add j) = some u) := by
    intro j u hj
    rw [Addr.add_lit, Nat.zero_add]
    match j, hj with
    | 0, hj => cases hj; exact hx
    | 1, hj => cases hj; exact hy
    | j + 2, hj => simp at hj
  have B : Hid (∀ u ∈ [x, y], u.oneCell' = true) := by
    intro u hu
    simp only [List.mem_cons, List.not_mem_nil, or_false] at hu
    rcases hu with rfl | rfl
    · exact h1
    · exact h2
  clear hx hy h1 h2
  obtain ⟨p, cap, rfl, hncap⟩ : ∃ p cap, v = .slice p n cap ∧ n ≤ cap := by
    rcases h.2 with ⟨rfl, rfl⟩ | ⟨g, cap, cur, rfl, _, _, h3, _⟩
    · exact ⟨none, 0, rfl, Nat.le_refl _⟩
    · exact ⟨_, cap, rfl, h3⟩
  have f1 : (0 : Int) ≤ (n : Int) := Int.natCast_nonneg _
  have f2 : (n : Int) ≤ (cap : Int) := by omega
  rcases hp : p with _ | a
  · subst hp
    have hn0 : n = 0 := by
      rcases h.2 with ⟨_, h0⟩ | ⟨g, cap, cur, e, _⟩
      · exact h0
      · cases e
    have hc0 : cap = 0 := by
      rcases h.2 with ⟨e, _⟩ | ⟨g, cap, cur, e, _⟩
      · cases e; rfl
      · cases e
    subst hn0
    subst hc0
    go_enter Tryz.func226, Tryz.ntmps226
    go_wp2_with (first
      | (at_builtin
         refine wpList_append_lies _ rfl (.tmp 23) (.tmp 24) _ rfl base 183 i0 z0 2 40 Tryz.underlying81 hi0 hz0 hs0 hb0 hc0 (by omega) _ 0 xs (by rfl) h _ 1 c [x, y] (by rfl) rfl A.out B.out (by omega) (by simp only [maxLen]; omega) (by omega) hbase w.heap.size rfl ?_
         intro g4 cap4 w4 hown4 hgrow hat hlt4))
    exact bodyPost_ret (v := .slice (some ⟨g4, 0, none⟩) (0 + 1) cap4) (by simp [results, Tryz.results226, go_sem]) rfl ⟨_, rfl, hown4, hgrow⟩
  · subst hp
    go_enter Tryz.func226, Tryz.ntmps226
    go_wp2_with (first
      | (at_builtin
         refine wpList_append_lies _ rfl (.tmp 23) (.tmp 24) _ rfl base 183 i0 z0 2 40 Tryz.underlying81 hi0 hz0 hs0 hb0 hc0 (by omega) _ n xs (by rfl) h _ 1 c [x, y] (by rfl) rfl A.out B.out (by omega) (by simp only [maxLen]; omega) (by omega) hbase w.heap.size rfl ?_
         intro g4 cap4 w4 hown4 hgrow hat hlt4))
    all_goals exact bodyPost_ret (v := .slice (some ⟨g4, 0, none⟩) (n + 1) cap4) (by simp [results, Tryz.results226, go_sem]) rfl ⟨_, rfl, hown4, hgrow⟩
theorem new0 (w : World) (x y : Value) (t : TypeId) : (w.alloc (.cells #[x, y] t)).cell? ⟨w.heap.size, 0, none⟩ = some x := by
  have : (w.alloc (.cells #[x, y] t)).heap[w.heap.size]? = some (.cells #[x, y] t (0, 0)) := heap_alloc_at
  unfold World.cell?; rw [this]; rfl
theorem new1 (w : World) (x y : Value) (t : TypeId) : (w.alloc (.cells #[x, y] t)).cell? ⟨w.heap.size, 1, none⟩ = some y := by
  have : (w.alloc (.cells #[x, y] t)).heap[w.heap.size]? = some (.cells #[x, y] t (0, 0)) := heap_alloc_at
  unfold World.cell?; rw [this]; rfl
theorem with_blocks {w w1 w2 : World} {o1 o2 : Obj} (h1 : Below ((w.alloc o1).alloc o2).heap.size ((w.alloc o1).alloc o2) w1) (h2 : Below w1.heap.size w1 w2) : w2.heap[w.heap.size]? = some o1 ∧ w2.heap[w.heap.size + 1]? = some o2 := by
  have s1 := h1.size
  simp at s1
  constructor
  · rw [h2.block _ (by omega), h1.block _ (by simp; omega), Below.heap_alloc _ _ _ (by simp)]; exact heap_alloc_at
  · rw [h2.block _ (by omega), h1.block _ (by simp)]
    have := @heap_alloc_at (w.alloc o1) o2
    simpa using this
theorem with_blocks3 {w2 w3 : World} {o1 o2 o3 : Obj} {b : Nat} (T : w2.heap[b]? = some o1) (Z : w2.heap[b + 1]? = some o2) (h : Below (w2.alloc o3).heap.size (w2.alloc o3) w3) : w3.heap[b]? = some o1 ∧ w3.heap[b + 1]? = some o2 ∧ w3.heap[w2.heap.size]? = some o3 := by
  have s1 := lt_of_heap T
  have s2 := lt_of_heap Z
  refine ⟨?_, ?_, ?_⟩
  · rw [h.block _ (by simp; omega), Below.heap_alloc _ _ _ s1, T]
  · rw [h.block _ (by simp; omega), Below.heap_alloc _ _ _ s2, Z]
  · rw [h.block _ (by simp)]; exact heap_alloc_at
theorem with_blocks4 {w2 w3 w4 : World} {o1 o2 o3 o4 : Obj} {b n size : Nat} {e : TypeId} {v : Value} {xs : List Value} (T : w3.heap[b]? = some o1) (Z : w3.heap[b + 1]? = some o2) (hb : b + 1 ≤ w2.heap.size) (hv : w3.ownsRow (w2.alloc o3).heap.size e size v n xs) (h : (w3.alloc o4).grownBy w4 v.ownBlock) : w4.heap[b]? = some o1 ∧ w4.heap[b + 1]? = some o2 := by
  have s1 := lt_of_heap T
  have s2 := lt_of_heap Z
  have ne : ∀ q, q ≤ b + 1 → some q ≠ v.ownBlock := fun q hq e => by have := (hv.lt q e.symm).1; simp at this; omega
  refine ⟨?_, ?_⟩
  · rw [h.block _ (by simp; omega) (ne _ (by omega)), Below.heap_alloc _ _ _ s1, T]
  · rw [h.block _ (by simp; omega) (ne _ (by omega)), Below.heap_alloc _ _ _ s2, Z]
theorem five_facts {w : World} {b : Nat} {v0 v1 v2 v3 v4 : Value} {t : TypeId} (T : w.heap[b]? = some (.cells #[v0, v1, v2, v3, v4] t (0, 0))) :
    w.cell? ⟨b, 0, none⟩ = some v0 ∧ w.cell? ⟨b, 1, none⟩ = some v1 ∧ w.cell? ⟨b, 2, none⟩ = some v2 ∧ w.cell? ⟨b, 3, none⟩ = some v3 ∧ w.cell? ⟨b, 4, none⟩ = some v4 ∧ ∀ i, w.frozen? ⟨b, i, none⟩ = false :=
  ⟨by unfold World.cell?; rw [T]; rfl, by unfold World.cell?; rw [T]; rfl, by unfold World.cell?; rw [T]; rfl, by unfold World.cell?; rw [T]; rfl, by unfold World.cell?; rw [T]; rfl, fun i => frozen_not T (by simp)⟩
theorem tab_facts {w : World} {b : Nat} {v0 v1 v2 v3 v4 : Value} {t : TypeId} (T : w.heap[b]? = some (.cells #[v0, v1, v2, v3, v4] t (0, 0))) :
    w.cell? ⟨b, 0, none⟩ = some v0 ∧ w.cell? ⟨b, 1, none⟩ = some v1 ∧ w.cell? ⟨b, 2, none⟩ = some v2 ∧ w.cell? ⟨b, 3, none⟩ = some v3 ∧ w.cell? ⟨b, 4, none⟩ = some v4 ∧ ∀ i, w.frozen? ⟨b, i, none⟩ = false := five_facts T
theorem set5 {T : List TypeId} {w : World} {b : Nat} {a0 a1 a2 a3 a4 v0 v1 v2 v3 v4 : Value} {t : TypeId} (Z : w.heap[b]? = some (.cells #[a0, a1, a2, a3, a4] t (0, 0))) (hT : t ∉ T) :
    (((((w.setCell ⟨b, 0, none⟩ v0).setCell ⟨b, 1, none⟩ v1).setCell ⟨b, 2, none⟩ v2).setCell ⟨b, 3, none⟩ v3).setCell ⟨b, 4, none⟩ v4).heap[b]? = some (.cells #[v0, v1, v2, v3, v4] t (0, 0)) ∧
    KT T w (((((w.setCell ⟨b, 0, none⟩ v0).setCell ⟨b, 1, none⟩ v1).setCell ⟨b, 2, none⟩ v2).setCell ⟨b, 3, none⟩ v3).setCell ⟨b, 4, none⟩ v4) ∧
    ∀ B, B ≤ b → Below B w (((((w.setCell ⟨b, 0, none⟩ v0).setCell ⟨b, 1, none⟩ v1).setCell ⟨b, 2, none⟩ v2).setCell ⟨b, 3, none⟩ v3).setCell ⟨b, 4, none⟩ v4) := by
  have z1 := heap_setCell_at (o := 0) (v := v0) Z
  have z2 := heap_setCell_at (o := 1) (v := v1) z1
  have z3 := heap_setCell_at (o := 2) (v := v2) z2
  have z4 := heap_setCell_at (o := 3) (v := v3) z3
  have z5 := heap_setCell_at (o := 4) (v := v4) z4
  refine ⟨by rw [z5]; rfl, ((((KT.setCell Z hT).trans (KT.setCell z1 hT)).trans (KT.setCell z2 hT)).trans (KT.setCell z3 hT)).trans (KT.setCell z4 hT), fun B hB => ?_⟩
  exact ((((Below.refl B w).setCell hB _ |>.setCell hB _).setCell hB _).setCell hB _).setCell hB _
/-- A table with a row behind all others. -/
theorem with_any (w : World) (nm : ByteArray) (pc : Option Addr) (nc cc kn : Nat) (v : Value) (L : List (List Int)) (r : List Int) (rv : Value) (h : ERows w v kn L) (hk : Last kn L (r.take kn)) (hr : VRow w rv r) (hrl : r.length ≤ 100) :
    Calls Tryz.prog 180 #[tabV nm pc nc cc kn v, keyV (r.take kn), rv] w fun e w' => ∃ v', e = .returned (tabV nm pc nc cc kn v') ∧ ERows w' v' kn (L ++ [r]) ∧ Below w.heap.size w w' := by
  have K1 := fun w' (h' : ERows w' v kn L) => place_any w' nm pc nc cc kn v L (r.take kn) h' hk
  have K2 := fun w' (h' : VRow w' rv r) => clone_any w' rv r h' hrl
  have K3 := fun w' (h' : ERows w' v kn L) => cloneE_any w' v kn L h' hk.1
  have K4 := fun w' base v0 xs b c (h' : w'.ownsRow base 183 2 v0 L.length xs) (hb : base ≤ w'.heap.size) x y hx hy h1 h2 => insert_any w' base v0 L.length xs h' hk.1 hb b c x y hx hy h1 h2
  have HE := Lib.hid h
  have HR := Lib.hid hr
  have hne := hr.1
  obtain ⟨p, cap, rfl, _⟩ := h.shape
  obtain ⟨pr, nr, cr, rfl⟩ := ownsRow_slice hr.2
  clear h hr hk
  unfold tabV at *
  unfold keyV at *
  go_enter Tryz.func180, Tryz.ntmps180
  go_wp2_with (first
    | (go_at_call 176; refine (K1 _ ?_).mono ?_; (exact HE.out.keep ((KT.alloc [121, 183] _ _).trans (KT.alloc _ _ _)) (by simp) (by simp)); rintro e w1 ⟨rfl, hb1⟩)
    | (go_at_call 109; refine (K2 _ ?_).mono ?_; (exact HR.out.keep (((KT.alloc [121, 183] _ _).trans (KT.alloc _ _ _)).trans (KT.below hb1 (Nat.le_refl _))) (by simp)); rintro e w2 ⟨v2, rfl, hv2, hb2⟩; obtain ⟨p2, n2, c2, rfl⟩ := ownsRow_slice hv2; obtain ⟨T2, Z2⟩ := with_blocks hb1 hb2; have s2 := lt_of_heap Z2; have c24 : ∀ o, (w2.alloc o).cell? ⟨w.heap.size, 4, none⟩ = some (.slice p L.length cap) := fun o => by rw [cellA (show w.heap.size < w2.heap.size by omega)]; simp [World.cell?, T2])
    | (go_at_call 182; go_loud (refine (K3 _ ?_).mono ?_; (exact HE.out.keep (((((KT.alloc [121, 183] _ _).trans (KT.alloc _ _ _)).trans (KT.below hb1 (Nat.le_refl _))).trans (KT.below hb2 (Nat.le_refl _))).trans (KT.alloc _ _ _)) (by simp) (by simp)); rintro e w3 ⟨v3, us, rfl, hl3, hv3, hu3, hb3⟩; obtain ⟨p3, n3, c3, rfl⟩ := ownsRow_slice hv3); go_loud (obtain ⟨T3, Z3, E3⟩ := with_blocks3 T2 Z2 hb3); have s3 := lt_of_heap E3; go_loud (have c30 : w3.cell? ⟨w2.heap.size, 0, none⟩ = some (.string ⟨(encL (r.take kn)).toArray⟩) := by simp [World.cell?, E3]); have c31 : w3.cell? ⟨w2.heap.size, 1, none⟩ = some (.slice p2 n2 c2) := by simp [World.cell?, E3])
    | (go_at_call 226; go_loud (refine (K4 _ ((w2.alloc (.cells #[.string ⟨(encL (r.take kn)).toArray⟩, .slice p2 n2 c2] 183)).heap.size) _ _ _ _ (hv3.alloc _) (by have := hb3.size; simp at this; simp; omega) _ _ (new0 _ _ _ _) (new1 _ _ _ _) rfl rfl).mono ?_; rintro e w4 ⟨v4, rfl, hv4, hb4⟩; obtain ⟨p4, n4, c4, rfl⟩ := ownsRow_slice hv4); obtain ⟨T4, Z4⟩ := with_blocks4 T3 Z3 (Nat.le_of_lt s2) hv3 hb4; obtain ⟨c40, c41, c42, c43, c44, _⟩ := tab_facts T4; obtain ⟨z40, z41, z42, z43, z44, f40⟩ := five_facts Z4))
  obtain ⟨Z5, kt5, bel5⟩ := set5 (T := [121, 183]) (v0 := .string nm) (v1 := .slice pc nc cc) (v2 := .int .i64 kn) (v3 := .slice none 0 0) (v4 := .slice p4 n4 c4) Z4 (by decide)
  obtain ⟨y0, y1, y2, y3, y4, _⟩ := five_facts Z5
  refine bodyPost_ret (v := .agg #[.string nm, .slice pc nc cc, .int .i64 kn, .slice none 0 0, .slice p4 n4 c4]) (by simp [results, Tryz.results180, go_sem, y0, y1, y2, y3, y4]) rfl ⟨_, rfl, ?_, ?_⟩
  · have kt34 : KT [121] w3 w4 := (KT.alloc _ _ _).trans (KT.grown hb4 (hv3.alloc _) (by decide))
    have kt35 := kt34.trans (kt5.sub (by simp))
    have kt25 : KT [121] w2 _ := ((KT.alloc [121] w2 _).trans (KT.below hb3 (Nat.le_refl _))).trans kt35
    refine ⟨us ++ [.slice p2 n2 c2], by simp [hl3], ?_, ?_⟩
    · rw [ecells_append kn L us [r] [.slice p2 n2 c2] hl3, List.length_append]
      exact ownsRow_keep (ownsRow_base hv4 (Nat.zero_le _)) kt5 (by simp)
    · exact VRows.snoc (w' := w4) (v := .nilIface) (v' := .nilIface) (fun i u l hu hl => (hu3 i u l hu hl).keep kt35 (by simp)) hl3 ((VRow.of_own hne hv2).keep kt25 (by simp))
  · have s1 := hb1.size
    have s3' := hb3.size
    have s4 := hb4.size
    simp at s1 s3' s4
    refine Below.trans ?_ (bel5 _ (by omega))
    have b1 : Below w.heap.size w w1 := (((Below.refl _ _).alloc (Nat.le_refl _) _).alloc (by simp) _).trans (hb1.mono (by simp; omega))
    have b3 : Below w.heap.size w w3 := (((b1.trans (hb2.mono (by omega))).alloc (by omega) _)).trans (hb3.mono (by simp; omega))
    exact (b3.alloc (by omega) _).grown hb4 (by simp; omega) (fun q hq => by have := (hv3.lt q hq).1; simp at this; omega)
end Go.Proofs.YtbjickdjkgefcaaGreatDoor
end
section
open Go Go.RowKit Go.Proofs.YtbjickdjkgefcaaGreatDoor.Vai
namespace Go.Proofs.YtbjickdjkgefcaaGreatDoor
set_option linter.unusedVariables false
set_option linter.unusedSimpArgs false
set_option maxRecDepth 20000
theorem clashes_any (w : World) (nm : ByteArray) (pc : Option Addr) (nc cc kn : Nat) (pv : Option Addr) (nv cv : Nat) (k : ByteArray) (rv : Value) : Calls Tryz.prog 179 #[tabV nm pc nc cc kn (.slice pv nv cv), .string k, rv] w fun e w' => e = .returned (.bool false) ∧ Below w.heap.size w w' := by
  unfold tabV
  go_enter Tryz.func179, Tryz.ntmps179
  go_wp2
  go_loop [15] (fun i => i = .int .i64 0) (fun _ => 1)
  case atStart => rfl
  case round =>
    subst hrel
    go_wp2
    exact bodyPost_ret (v := .bool false) (by simp [results, Tryz.results179, go_sem]) rfl ⟨rfl, ((Below.refl _ _).alloc (Nat.le_refl _) _).alloc (by simp) _⟩
/-- An operation that puts a row. -/
def opPut (nm : ByteArray) (rv : Value) : Value := .agg #[.int .i64 2, .string nm, .slice none 0 0, .slice none 0 0, rv, .string ⟨#[]⟩, .int .i64 0, .int .i64 0, .int .i64 0]
/-- What is known of a table's schema: a row fits it, its key is told. -/
structure FitK (J : World → Prop) (nm : ByteArray) (pc : Option Addr) (nc cc kn : Nat) (r : List Int) : Prop where
  keep : ∀ w w', J w → Below w.heap.size w w' → J w'
  fits : ∀ w rv, J w → VRow w rv r → Calls Tryz.prog 178 #[.agg #[.string nm, .slice pc nc cc, .int .i64 kn, .slice none 0 0], rv] w fun e w' => e = .returned (.int .i64 0) ∧ Below w.heap.size w w'
  keyed : ∀ w g cap, VRow w (.slice (some ⟨g, 0, none⟩) r.length cap) r → Calls Tryz.prog 177 #[.slice (some ⟨g, 0, none⟩) kn cap] w fun e w' => e = .returned (keyV (r.take kn)) ∧ Below w.heap.size w w'
theorem put_bel (w : World) (o1 o2 o3 o4 : Obj) : Below w.heap.size w ((((w.alloc o1).alloc o2).alloc o3).alloc o4) := ((((Below.refl _ _).alloc (Nat.le_refl _) _).alloc (by simp) _).alloc (by simp; omega) _).alloc (by simp; omega) _
/-- The blocks of the call's own. -/
structure PutB (w : World) (b : Nat) (nm : ByteArray) (pc : Option Addr) (nc cc kn : Nat) (v rv : Value) : Prop where
  t : w.heap[b]? = some (.cells #[.string nm, .slice pc nc cc, .int .i64 kn, .slice none 0 0, v] 83 (0, 0))
  x : w.heap[b + 1]? = some (.cells #[.int .i64 2, .string nm, .slice none 0 0, .slice none 0 0, rv, .string ⟨#[]⟩, .int .i64 0, .int .i64 0, .int .i64 0] 74 (0, 0))
  z : w.heap[b + 1 + 1]? = some (.cells #[.string ⟨#[]⟩, .slice none 0 0, .int .i64 0, .slice none 0 0, .slice none 0 0] 83 (0, 0))
  e : w.heap[b + 1 + 1 + 1]? = some (.cells #[.int .i64 0, .slice none 0 0] 106 (0, 0))
theorem PutB.below {w w' : World} {b : Nat} {nm : ByteArray} {pc : Option Addr} {nc cc kn : Nat} {v rv : Value} (h : PutB w b nm pc nc cc kn v rv) (hb : Below w.heap.size w w') : PutB w' b nm pc nc cc kn v rv :=
  ⟨(hb.block _ (lt_of_heap h.t)).trans h.t, (hb.block _ (lt_of_heap h.x)).trans h.x, (hb.block _ (lt_of_heap h.z)).trans h.z, (hb.block _ (lt_of_heap h.e)).trans h.e⟩
theorem PutB.start (w : World) (nm : ByteArray) (pc : Option Addr) (nc cc kn : Nat) (v rv : Value) {o1 o2 o3 o4 : Obj} (h1 : o1 = .cells #[.string nm, .slice pc nc cc, .int .i64 kn, .slice none 0 0, v] 83 (0, 0)) (h2 : o2 = .cells #[.int .i64 2, .string nm, .slice none 0 0, .slice none 0 0, rv, .string ⟨#[]⟩, .int .i64 0, .int .i64 0, .int .i64 0] 74 (0, 0))
    (h3 : o3 = .cells #[.string ⟨#[]⟩, .slice none 0 0, .int .i64 0, .slice none 0 0, .slice none 0 0] 83 (0, 0)) (h4 : o4 = .cells #[.int .i64 0, .slice none 0 0] 106 (0, 0)) : PutB ((((w.alloc o1).alloc o2).alloc o3).alloc o4) w.heap.size nm pc nc cc kn v rv := by
  have a1 : (w.alloc o1).heap[w.heap.size]? = some o1 := heap_alloc_at
  have a2 : ((w.alloc o1).alloc o2).heap[w.heap.size + 1]? = some o2 := by simpa using @heap_alloc_at (w.alloc o1) o2
  have a3 : (((w.alloc o1).alloc o2).alloc o3).heap[w.heap.size + 1 + 1]? = some o3 := by simpa using @heap_alloc_at ((w.alloc o1).alloc o2) o3
  have a4 : ((((w.alloc o1).alloc o2).alloc o3).alloc o4).heap[w.heap.size + 1 + 1 + 1]? = some o4 := by simpa using @heap_alloc_at (((w.alloc o1).alloc o2).alloc o3) o4
  refine ⟨?_, ?_, ?_, ?_⟩
  · rw [Below.heap_alloc _ _ _ (by simp; omega), Below.heap_alloc _ _ _ (by simp; omega), Below.heap_alloc _ _ _ (by simp), a1, h1]
  · rw [Below.heap_alloc _ _ _ (by simp), Below.heap_alloc _ _ _ (by simp), a2, h2]
  · rw [Below.heap_alloc _ _ _ (by simp), a3, h3]
  · rw [a4, h4]
theorem PutB.cells {w : World} {b : Nat} {nm : ByteArray} {pc : Option Addr} {nc cc kn : Nat} {v rv : Value} (h : PutB w b nm pc nc cc kn v rv) :
    (w.cell? ⟨b, 0, none⟩ = some (.string nm) ∧ w.cell? ⟨b, 1, none⟩ = some (.slice pc nc cc) ∧ w.cell? ⟨b, 2, none⟩ = some (.int .i64 kn) ∧ w.cell? ⟨b, 3, none⟩ = some (.slice none 0 0) ∧ w.cell? ⟨b, 4, none⟩ = some v) ∧
    w.cell? ⟨b + 1, 4, none⟩ = some rv ∧
    (w.cell? ⟨b + 1 + 1, 0, none⟩ = some (.string ⟨#[]⟩) ∧ w.cell? ⟨b + 1 + 1, 1, none⟩ = some (.slice none 0 0) ∧ w.cell? ⟨b + 1 + 1, 2, none⟩ = some (.int .i64 0) ∧ w.cell? ⟨b + 1 + 1, 3, none⟩ = some (.slice none 0 0) ∧ w.cell? ⟨b + 1 + 1, 4, none⟩ = some (.slice none 0 0) ∧ ∀ i, w.frozen? ⟨b + 1 + 1, i, none⟩ = false) ∧
    (w.cell? ⟨b + 1 + 1 + 1, 0, none⟩ = some (.int .i64 0) ∧ w.cell? ⟨b + 1 + 1 + 1, 1, none⟩ = some (.slice none 0 0) ∧ ∀ i, w.frozen? ⟨b + 1 + 1 + 1, i, none⟩ = false) := by
  obtain ⟨a0, a1, a2, a3, a4, _⟩ := five_facts h.t
  refine ⟨⟨a0, a1, a2, a3, a4⟩, by unfold World.cell?; rw [h.x]; rfl, five_facts h.z, by unfold World.cell?; rw [h.e]; rfl, by unfold World.cell?; rw [h.e]; rfl, fun i => frozen_not h.e (by simp)⟩
theorem cell_of_heap {w : World} {b : Nat} {cs : Array Value} {t : TypeId} {fr : Nat × Nat} (h : w.heap[b]? = some (.cells cs t fr)) (i : Nat) (v : Value) (hv : cs[i]? = some v) : w.cell? ⟨b, i, none⟩ = some v := by
  unfold World.cell?; rw [h]; exact hv
theorem set2 {T : List TypeId} {w : World} {b : Nat} {a0 a1 v0 v1 : Value} {t : TypeId} (Z : w.heap[b]? = some (.cells #[a0, a1] t (0, 0))) (hT : t ∉ T) :
    ((w.setCell ⟨b, 0, none⟩ v0).setCell ⟨b, 1, none⟩ v1).heap[b]? = some (.cells #[v0, v1] t (0, 0)) ∧ KT T w ((w.setCell ⟨b, 0, none⟩ v0).setCell ⟨b, 1, none⟩ v1) ∧ ∀ B, B ≤ b → Below B w ((w.setCell ⟨b, 0, none⟩ v0).setCell ⟨b, 1, none⟩ v1) := by
  have z1 := heap_setCell_at (o := 0) (v := v0) Z
  have z2 := heap_setCell_at (o := 1) (v := v1) z1
  exact ⟨by rw [z2]; rfl, (KT.setCell Z hT).trans (KT.setCell z1 hT), fun B hB => (Below.refl B w).setCell hB _ |>.setCell hB _⟩
theorem put_end {w : World} {b : Nat} {nm : ByteArray} {pc : Option Addr} {nc cc kn : Nat} {v rv : Value} (h : PutB w b nm pc nc cc kn v rv) {v0 v1 v2 v3 v4 u0 u1 : Value} :
    ∃ wE, (((((((w.setCell ⟨b + 1 + 1, 0, none⟩ v0).setCell ⟨b + 1 + 1, 1, none⟩ v1).setCell ⟨b + 1 + 1, 2, none⟩ v2).setCell ⟨b + 1 + 1, 3, none⟩ v3).setCell ⟨b + 1 + 1, 4, none⟩ v4).setCell ⟨b + 1 + 1 + 1, 0, none⟩ u0).setCell ⟨b + 1 + 1 + 1, 1, none⟩ u1) = wE ∧
      wE.cell? ⟨b + 1 + 1, 0, none⟩ = some v0 ∧ wE.cell? ⟨b + 1 + 1, 1, none⟩ = some v1 ∧ wE.cell? ⟨b + 1 + 1, 2, none⟩ = some v2 ∧ wE.cell? ⟨b + 1 + 1, 3, none⟩ = some v3 ∧ wE.cell? ⟨b + 1 + 1, 4, none⟩ = some v4 ∧ wE.cell? ⟨b + 1 + 1 + 1, 0, none⟩ = some u0 ∧ wE.cell? ⟨b + 1 + 1 + 1, 1, none⟩ = some u1 ∧
      KT [121, 183] w wE ∧ ∀ B, B ≤ b + 1 + 1 → Below B w wE := by
  obtain ⟨Z6, kt6, bel6⟩ := set5 (T := [121, 183]) (v0 := v0) (v1 := v1) (v2 := v2) (v3 := v3) (v4 := v4) h.z (by decide)
  have hZ6 : (((((w.setCell ⟨b + 1 + 1, 0, none⟩ v0).setCell ⟨b + 1 + 1, 1, none⟩ v1).setCell ⟨b + 1 + 1, 2, none⟩ v2).setCell ⟨b + 1 + 1, 3, none⟩ v3).setCell ⟨b + 1 + 1, 4, none⟩ v4).heap[b + 1 + 1 + 1]? = some (.cells #[.int .i64 0, .slice none 0 0] 106 (0, 0)) := by
    rw [Below.heap_setCell _ _ _ _ (by simp), Below.heap_setCell _ _ _ _ (by simp), Below.heap_setCell _ _ _ _ (by simp), Below.heap_setCell _ _ _ _ (by simp), Below.heap_setCell _ _ _ _ (by simp), h.e]
  obtain ⟨Z7, kt7, bel7⟩ := set2 (T := [121, 183]) (v0 := u0) (v1 := u1) hZ6 (by decide)
  have Z67 := (Below.heap_setCell _ (⟨b + 1 + 1 + 1, 1, none⟩ : Addr) u1 (b + 1 + 1) (by simp)).trans ((Below.heap_setCell _ (⟨b + 1 + 1 + 1, 0, none⟩ : Addr) u0 (b + 1 + 1) (by simp)).trans Z6)
  obtain ⟨y0, y1, y2, y3, y4, _⟩ := five_facts Z67
  exact ⟨_, rfl, y0, y1, y2, y3, y4, cell_of_heap Z7 0 u0 rfl, cell_of_heap Z7 1 u1 rfl, kt6.trans kt7, fun B hB => (bel6 B hB).trans (bel7 B (by omega))⟩
theorem put_any (J : World → Prop) (w : World) (nm : ByteArray) (pc : Option Addr) (nc cc kn : Nat) (v : Value) (L : List (List Int)) (r : List Int) (rv : Value) (F : FitK J nm pc nc cc kn r) (hJ : J w) (h : ERows w v kn L) (hk : Last kn L (r.take kn)) (hr : VRow w rv r) (hrl : r.length ≤ 100) (hkl : kn ≤ r.length) :
    Calls Tryz.prog 142 #[tabV nm pc nc cc kn v, opPut nm rv] w fun e w' => ∃ v', e = .returned (.tuple #[tabV nm pc nc cc kn v', .agg #[.int .i64 0, .slice none 0 0]]) ∧ ERows w' v' kn (L ++ [r]) ∧ Below w.heap.size w w' := by
  have K1 := F.fits
  have K2 := F.keyed
  have K3 := fun w' (h' : ERows w' v kn L) => place_any w' nm pc nc cc kn v L (r.take kn) h' hk
  have K4 := fun w' pv nv cv k rv => clashes_any w' nm pc nc cc kn pv nv cv k rv
  have K5 := fun w' (h' : ERows w' v kn L) (hr' : VRow w' rv r) => with_any w' nm pc nc cc kn v L r rv h' hk hr' hrl
  have HJ := Lib.hid hJ
  have HF := Lib.hid F
  have HE := Lib.hid h
  have HR := Lib.hid hr
  have hLn := hk.1
  obtain ⟨p, cap, rfl, _⟩ := h.shape
  obtain ⟨g, cr, rfl, _, hc1, hc2, _⟩ := hr.read
  have f1 : (0 : Int) ≤ (kn : Int) := Int.natCast_nonneg _
  have f2 : (kn : Int) ≤ (cr : Int) := by omega
  clear h hr hk hJ F
  unfold tabV opPut at *
  unfold keyV at *
  go_enter Tryz.func142, Tryz.ntmps142
  go_wp2_with (first
    | (go_at_call 178; refine (K1 _ _ (HF.out.keep _ _ HJ.out (put_bel w _ _ _ _)) (HR.out.keep (KT.below (put_bel w _ _ _ _) (Nat.le_refl _) : KT [121] _ _) (by simp))).mono ?_; rintro e w1 ⟨rfl, hb1⟩; have q1 := (PutB.start w nm pc nc cc kn (.slice p L.length cap) (.slice (some ⟨g, 0, none⟩) r.length cr) rfl rfl rfl rfl).below hb1; obtain ⟨⟨c0, c1, c2, c3, c4⟩, d4, ⟨z0, z1, z2, z3, z4, zf⟩, e0, e1, ef⟩ := q1.cells)
    | (go_at_call 177; refine (K2 _ _ _ (HR.out.keep (((KT.below (put_bel w _ _ _ _) (Nat.le_refl _) : KT [121] _ _)).trans (KT.below hb1 (Nat.le_refl _))) (by simp))).mono ?_; rintro e w2 ⟨rfl, hb2⟩; have q2 := q1.below hb2; obtain ⟨⟨c0, c1, c2, c3, c4⟩, d4, ⟨z0, z1, z2, z3, z4, zf⟩, e0, e1, ef⟩ := q2.cells)
    | (go_at_call 176; refine (K3 _ (HE.out.keep ((((KT.below (put_bel w _ _ _ _) (Nat.le_refl _) : KT [121, 183] _ _)).trans (KT.below hb1 (Nat.le_refl _))).trans (KT.below hb2 (Nat.le_refl _))) (by simp) (by simp))).mono ?_; rintro e w3 ⟨rfl, hb3⟩; have q3 := q2.below hb3; obtain ⟨⟨c0, c1, c2, c3, c4⟩, d4, ⟨z0, z1, z2, z3, z4, zf⟩, e0, e1, ef⟩ := q3.cells)
    | (go_at_call 179; refine (K4 _ _ _ _ _ _).mono ?_; rintro e w4 ⟨rfl, hb4⟩; have q4 := q3.below hb4; obtain ⟨⟨c0, c1, c2, c3, c4⟩, d4, ⟨z0, z1, z2, z3, z4, zf⟩, e0, e1, ef⟩ := q4.cells)
    | (go_at_call 180; refine (K5 _ (HE.out.keep ((((((KT.below (put_bel w _ _ _ _) (Nat.le_refl _) : KT [121, 183] _ _)).trans (KT.below hb1 (Nat.le_refl _))).trans (KT.below hb2 (Nat.le_refl _))).trans (KT.below hb3 (Nat.le_refl _))).trans (KT.below hb4 (Nat.le_refl _))) (by simp) (by simp)) (HR.out.keep ((((((KT.below (put_bel w _ _ _ _) (Nat.le_refl _) : KT [121, 183] _ _)).trans (KT.below hb1 (Nat.le_refl _))).trans (KT.below hb2 (Nat.le_refl _))).trans (KT.below hb3 (Nat.le_refl _))).trans (KT.below hb4 (Nat.le_refl _))) (by simp))).mono ?_; rintro e w5 ⟨v5, rfl, hv5, hb5⟩; obtain ⟨p5, c5, rfl, _⟩ := hv5.shape; have q5 := q4.below hb5; obtain ⟨⟨c0, c1, c2, c3, c4⟩, d4, ⟨z0, z1, z2, z3, z4, zf⟩, e0, e1, ef⟩ := q5.cells))
  obtain ⟨wE, hE, y0, y1, y2, y3, y4, x0, x1, ktE, belE⟩ := put_end q5 (v0 := .string nm) (v1 := .slice pc nc cc) (v2 := .int .i64 kn) (v3 := .slice none 0 0) (v4 := .slice p5 (L.length + 1) c5) (u0 := .int .i64 0) (u1 := .slice none 0 0)
  rw [hE]
  have hv6 : ERows wE (.slice p5 (L.length + 1) c5) kn (L ++ [r]) := by simpa using hv5.keep ktE (by simp) (by simp)
  have s1 := hb1.size
  have s2 := hb2.size
  have s3 := hb3.size
  have s4 := hb4.size
  have b6 : Below w.heap.size w wE := by
    simp at s1
    refine Below.trans ?_ (belE _ (by omega))
    have b1 : Below w.heap.size w w1 := (put_bel w _ _ _ _).trans (hb1.mono (by simp; omega))
    exact (((b1.trans (hb2.mono (by omega))).trans (hb3.mono (by omega))).trans (hb4.mono (by omega))).trans (hb5.mono (by omega))
  clear q1 q2 q3 q4 q5 hb1 hb2 hb3 hb4 hb5 K1 K2 K3 K4 K5 s1 s2 s3 s4 hE ktE belE hv5
  exact bodyPost_ret (v := .tuple #[.agg #[.string nm, .slice pc nc cc, .int .i64 kn, .slice none 0 0, .slice p5 (L.length + 1) c5], .agg #[.int .i64 0, .slice none 0 0]]) (by simp [results, Tryz.results142, go_sem, y0, y1, y2, y3, y4, x0, x1]) rfl ⟨_, rfl, hv6, b6⟩
end Go.Proofs.YtbjickdjkgefcaaGreatDoor
end
section
open Go Go.RowKit Go.Proofs.YtbjickdjkgefcaaGreatDoor.Vai
namespace Go.Proofs.YtbjickdjkgefcaaGreatDoor
set_option linter.unusedVariables false
set_option linter.unusedSimpArgs false
set_option maxRecDepth 20000
def tname : Nat → ByteArray
  | 0 => ⟨#[104,111,117,115,101]⟩
  | 1 => ⟨#[100,105,115,116,114,105,99,116]⟩
  | 2 => ⟨#[99,117,115,116,111,109,101,114]⟩
  | 3 => ⟨#[105,116,101,109]⟩
  | 4 => ⟨#[115,116,111,99,107]⟩
  | 5 => ⟨#[111,114,100,101,114,115]⟩
  | 6 => ⟨#[102,114,101,115,104]⟩
  | _ => ⟨#[108,105,110,101]⟩
def tkey : Nat → Nat
  | 0 => 1
  | 1 => 2
  | 2 => 3
  | 3 => 1
  | 4 => 2
  | 5 => 3
  | 6 => 3
  | _ => 4
structure Cols where
  p : Option Addr
  n : Nat
  c : Nat
def tent (C : Nat → Cols) (E : Nat → Value) (b0 j : Nat) : MapEntry := ⟨.string (tname j), tabV (tname j) (C j).p (C j).n (C j).c (tkey j) (E j), b0 + j⟩
/-- The tables in the map: some ahead, and the eight. -/
def MapIs (w : World) (m : Nat) (pre : List MapEntry) (C : Nat → Cols) (E : Nat → Value) (b0 clk : Nat) : Prop := w.heap[m]? = some (.map ⟨pre ++ (List.range 8).map (tent C E b0)⟩ clk)
/-- Other names than the eight. -/
def Apart (pre : List MapEntry) : Prop := ∀ e ∈ pre, ∃ a, e.key = .string a ∧ ∀ j, j < 8 → (tname j == a) = false
theorem find_pre {d : TypeDesc} {k : Value} {l : List MapEntry} : ∀ (pre : List MapEntry) (i : Nat), (∀ e ∈ pre, Instr.sameNow d k e.key = some false) → Instr.findNow d k (pre ++ l) i = Instr.findNow d k l (i + pre.length) := by
  intro pre
  induction pre with
  | nil => intro i _; rfl
  | cons e pre ih =>
    intro i h
    simp only [List.cons_append, Instr.findNow, h e (List.mem_cons_self ..)]
    rw [ih (i + 1) fun x hx => h x (List.mem_cons_of_mem _ hx), List.length_cons]
    congr 1; omega
theorem find_eight (C : Nat → Cols) (E : Nat → Value) (b0 : Nat) : ∀ (j : Nat), j < 8 → ∀ (i : Nat), Instr.findNow .string (.string (tname j)) ((List.range 8).map (tent C E b0)) i = some (some (i + j, (tent C E b0 j).val)) := by
  intro j hj i
  match j, hj with
  | 0, _ => rfl
  | 1, _ => rfl
  | 2, _ => rfl
  | 3, _ => rfl
  | 4, _ => rfl
  | 5, _ => rfl
  | 6, _ => rfl
  | 7, _ => rfl
theorem find_tab {pre : List MapEntry} (hp : Apart pre) (C : Nat → Cols) (E : Nat → Value) (b0 j : Nat) (hj : j < 8) : Instr.findNow .string (.string (tname j)) (pre ++ (List.range 8).map (tent C E b0)) 0 = some (some (pre.length + j, (tent C E b0 j).val)) := by
  rw [find_pre pre 0 fun e he => ?_, Nat.zero_add, find_eight C E b0 j hj]
  obtain ⟨a, e1, e2⟩ := hp e he
  rw [e1]
  show some (tname j == a) = _
  rw [e2 j hj]
theorem check_str (e : Bool) (s : ByteArray) (w : World) : (Instr.checkKey e 10000 9 (.string s)).run Tryz.prog w = .ok () w := by
  have : ∀ n, (Instr.checkKey e (n + 1) 9 (.string s)).run Tryz.prog w = .ok () w := by
    intro n
    unfold Instr.checkKey
    simp only [Sem.run_bind, run_und Tryz.underlying9, Result.andThen_ok]
    rfl
  exact this 9999
theorem run_look {w : World} {m : Nat} {pre : List MapEntry} {C : Nat → Cols} {E : Nat → Value} {b0 clk j : Nat} (h : MapIs w m pre C E b0 clk) (hp : Apart pre) (hj : j < 8) :
    (Instr.lookup 58 (.map (some m)) (.string (tname j)) true).run Tryz.prog w = .ok (.tuple #[tabV (tname j) (C j).p (C j).n (C j).c (tkey j) (E j), .bool true]) w := by
  have g1 : w.heap[m]? = _ := h
  have e1 : (Instr.findKey 9 (.string (tname j)) (pre ++ (List.range 8).map (tent C E b0))).run Tryz.prog w = .ok (some (pre.length + j, (tent C E b0 j).val)) w := by
    simp [Instr.findKey, run_und Tryz.underlying9, find_tab hp C E b0 j hj]
  simp only [Instr.lookup, Sem.run_bind, run_und Tryz.underlying58, Result.andThen_ok, getObj, Sem.run, g1, Sem.run_pure, check_str, e1]
  rfl
def upd (E : Nat → Value) (j : Nat) (v : Value) (i : Nat) : Value := if i = j then v else E i
theorem modify_eight (C : Nat → Cols) (E : Nat → Value) (b0 j : Nat) (hj : j < 8) (pre : List MapEntry) (v : Value) :
    (pre ++ (List.range 8).map (tent C E b0)).modify (pre.length + j) (fun e => { e with key := .string (tname j), val := tabV (tname j) (C j).p (C j).n (C j).c (tkey j) v }) = pre ++ (List.range 8).map (tent C (upd E j v) b0) := by
  have h8 : ((List.range 8).map (tent C E b0)).modify j (fun e => { e with key := .string (tname j), val := tabV (tname j) (C j).p (C j).n (C j).c (tkey j) v }) = (List.range 8).map (tent C (upd E j v) b0) := by
    match j, hj with
    | 0, _ => rfl
    | 1, _ => rfl
    | 2, _ => rfl
    | 3, _ => rfl
    | 4, _ => rfl
    | 5, _ => rfl
    | 6, _ => rfl
    | 7, _ => rfl
  rw [← h8]
  generalize (List.range 8).map (tent C E b0) = l
  induction pre with
  | nil => simp
  | cons e pre ih => rw [List.length_cons, show pre.length + 1 + j = (pre.length + j) + 1 by omega]; simp only [List.cons_append, List.modify_succ_cons, ih]
theorem run_upd {w : World} {m : Nat} {pre : List MapEntry} {C : Nat → Cols} {E : Nat → Value} {b0 clk j : Nat} (h : MapIs w m pre C E b0 clk) (hp : Apart pre) (hj : j < 8) (v : Value) :
    ∃ w', (Instr.mapUpdate 58 (.map (some m)) (.string (tname j)) (tabV (tname j) (C j).p (C j).n (C j).c (tkey j) v)).run Tryz.prog w = .ok () w' ∧ MapIs w' m pre C (upd E j v) b0 clk ∧ w.grownBy w' (some m) ∧ w'.heap.size = w.heap.size := by
  have g1 : w.heap[m]? = _ := h
  have hml := lt_of_heap g1
  have e1 : (Instr.findKey 9 (.string (tname j)) (pre ++ (List.range 8).map (tent C E b0))).run Tryz.prog w = .ok (some (pre.length + j, (tent C E b0 j).val)) w := by
    simp [Instr.findKey, run_und Tryz.underlying9, find_tab hp C E b0 j hj]
  have hc : (⟨pre ++ (List.range 8).map (tent C E b0)⟩ : Array MapEntry)[pre.length + j]? = some (tent C E b0 j) := by
    simp [List.getElem?_append_right, hj]
  have hsb : Instr.sameBits 10000 (tent C E b0 j).key (.string (tname j)) = true := by
    show Instr.sameBits 10000 (.string (tname j)) (.string (tname j)) = true
    match j, hj with
    | 0, _ => rfl
    | 1, _ => rfl
    | 2, _ => rfl
    | 3, _ => rfl
    | 4, _ => rfl
    | 5, _ => rfl
    | 6, _ => rfl
    | 7, _ => rfl
  refine ⟨{ w with heap := w.heap.setIfInBounds m (.map ((⟨pre ++ (List.range 8).map (tent C E b0)⟩ : Array MapEntry).modify (pre.length + j) fun e => { e with key := .string (tname j), val := tabV (tname j) (C j).p (C j).n (C j).c (tkey j) v }) clk) }, ?_, ?_, ⟨rfl, rfl, rfl, by simp, fun k hk hne => ?_⟩, by simp⟩
  · simp only [Instr.mapUpdate, Sem.run_bind, run_und Tryz.underlying58, Result.andThen_ok, run_getObj_of g1, check_str, e1, Instr.keyThatStays, hc, Option.map_some, Option.getD_some, hsb, if_true, Sem.run_pure, run_setObj_of g1]
  · show (w.heap.setIfInBounds m _)[m]? = _
    rw [Array.getElem?_setIfInBounds_self_of_lt hml]
    congr 2
    apply Array.toList_inj.1
    rw [Array.toList_modify]
    exact modify_eight C E b0 j hj pre v
  · exact Array.getElem?_setIfInBounds_ne (fun e => hne (by rw [e]))
theorem doings_any (w : World) : Calls Tryz.prog 93 #[.int .i64 2] w fun e w' => e = .returned (.tuple #[.func (.func 142) #[] #[], .bool true]) ∧ w' = w := by
  go_enter Tryz.func93, Tryz.ntmps93
  go_wp2
  all_goals go_ret2
  all_goals exact ⟨rfl, rfl⟩
end Go.Proofs.YtbjickdjkgefcaaGreatDoor
end
section
open Go Go.RowKit Go.Proofs.YtbjickdjkgefcaaGreatDoor.Vai
namespace Go.Proofs.YtbjickdjkgefcaaGreatDoor
set_option linter.unusedVariables false
set_option linter.unusedSimpArgs false
set_option maxRecDepth 20000
attribute [local go_sem ↓] Go.wp_at_zero Go.wp_at_succ
theorem do_bel (w : World) (o1 o2 o3 : Obj) : Below w.heap.size w (((w.alloc o1).alloc o2).alloc o3).drew := ((((Below.refl _ _).alloc (Nat.le_refl _) _).alloc (by simp) _).alloc (by simp; omega) _).drew
theorem do_op (w : World) (o1 o2 o3 : Obj) : (((w.alloc o1).alloc o2).alloc o3).drew.heap[w.heap.size]? = some o1 :=
  (Below.heap_alloc _ _ _ (by simp; omega)).trans ((Below.heap_alloc _ _ _ (by simp)).trans heap_alloc_at)
theorem do_res (w : World) (o1 o2 o3 : Obj) : (((w.alloc o1).alloc o2).alloc o3).drew.heap[w.heap.size + 1]? = some o2 :=
  (Below.heap_alloc _ _ _ (by simp)).trans (by simpa using @heap_alloc_at (w.alloc o1) o2)
theorem do_heap {w wX w5 : World} {d m : Nat} {pre : List MapEntry} {C : Nat → Cols} {E : Nat → Value} {b0 clk : Nat} {o1 o2 : Obj} (hd : w.cell? ⟨d, 1, none⟩ = some (.map (some m))) (hM : MapIs w m pre C E b0 clk) (hX : Below w.heap.size w wX) (h1 : wX.heap[w.heap.size]? = some o1) (h2 : wX.heap[w.heap.size + 1]? = some o2) (h5 : Below wX.heap.size wX w5) :
    w5.cell? ⟨d, 1, none⟩ = some (.map (some m)) ∧ MapIs w5 m pre C E b0 clk ∧ w5.heap[w.heap.size]? = some o1 ∧ w5.heap[w.heap.size + 1]? = some o2 := by
  have s1 := hX.size
  have hb : ∀ q, q < w.heap.size → w5.heap[q]? = w.heap[q]? := fun q hq => (h5.block q (by omega)).trans (hX.block q hq)
  have hdl : d < w.heap.size := cell_lt hd
  exact ⟨(World.cell?_of_block (w := w) (hb d hdl)).trans hd, (hb m (lt_of_heap hM)).trans hM, (h5.block _ (lt_of_heap h1)).trans h1, (h5.block _ (lt_of_heap h2)).trans h2⟩
/-- What lies where, as the result is written. -/
structure DoX (w' : World) (d m W q : Nat) (op : Array Value) (v9 : Array Value) : Prop where
  hd : w'.cell? ⟨d, 1, none⟩ = some (.map (some m))
  op : w'.heap[W]? = some (.cells op 74 (0, 0))
  res : w'.heap[W + 1]? = some (.cells #[.int .i64 0, .slice none 0 0] 106 (0, 0))
  tab : w'.heap[q]? = some (.cells v9 83 (0, 0))
  out : w'.heap[q + 1]? = some (.cells #[.int .i64 0, .slice none 0 0] 106 (0, 0))
theorem do_X {w5 : World} {d m W : Nat} {op v9 : Array Value} (hd : w5.cell? ⟨d, 1, none⟩ = some (.map (some m))) (h1 : w5.heap[W]? = some (.cells op 74 (0, 0))) (h2 : w5.heap[W + 1]? = some (.cells #[.int .i64 0, .slice none 0 0] 106 (0, 0))) :
    DoX (World.drew ((w5.alloc (.cells v9 83)).alloc (.cells #[.int .i64 0, .slice none 0 0] 106))) d m W w5.heap.size op v9 := by
  have hdl : d < w5.heap.size := cell_lt hd
  have hb : ∀ q, q < w5.heap.size → (World.drew ((w5.alloc (.cells v9 83)).alloc (.cells #[.int .i64 0, .slice none 0 0] 106))).heap[q]? = w5.heap[q]? := fun q hq => (Below.heap_alloc _ _ _ (by simp; omega)).trans (Below.heap_alloc _ _ _ hq)
  exact ⟨(World.cell?_of_block (w := w5) (hb d hdl)).trans hd, (hb _ (lt_of_heap h1)).trans h1, (hb _ (lt_of_heap h2)).trans h2, (Below.heap_alloc _ _ _ (by simp)).trans heap_alloc_at, (show ((w5.alloc (.cells v9 83)).alloc (.cells #[.int .i64 0, .slice none 0 0] 106)).heap[w5.heap.size + 1]? = _ from by simpa using @heap_alloc_at (w5.alloc (.cells v9 83)) (.cells #[.int .i64 0, .slice none 0 0] 106))⟩
theorem do_U {wX wU : World} {d m W q : Nat} {op v9 : Array Value} {pre : List MapEntry} {C : Nat → Cols} {E : Nat → Value} {b0 clk : Nat} (hM : MapIs wX m pre C E b0 clk) (h : DoX wX d m W q op v9) (hg : wX.grownBy wU (some m)) : DoX wU d m W q op v9 := by
  have hM : wX.heap[m]? = _ := hM
  have hb : ∀ {k : Nat} {cs : Array Value} {t : TypeId} {fr : Nat × Nat}, wX.heap[k]? = some (.cells cs t fr) → wU.heap[k]? = some (.cells cs t fr) := fun {k cs t fr} hk => by
    rw [hg.block k (lt_of_heap hk) (fun e => by cases e; rw [hM] at hk; cases hk)]; exact hk
  have hdl : d < wX.heap.size := cell_lt h.hd
  have hne : some d ≠ some m := fun e => by
    cases e
    have := h.hd
    simp only [World.cell?, hM] at this
    cases this
  exact ⟨(World.cell?_of_block (w := wX) (hg.block d hdl hne)).trans h.hd, hb h.op, hb h.res, hb h.tab, hb h.out⟩
theorem do_S {w' : World} {d m W q : Nat} {nm : ByteArray} {o0 o2 o3 o4 o5 o6 o7 o8 v0 v1 v2 v3 v4 : Value} (h : DoX w' d m W q #[o0, .string nm, o2, o3, o4, o5, o6, o7, o8] #[v0, v1, v2, v3, v4]) :
    w'.cell? ⟨d, 1, none⟩ = some (.map (some m)) ∧ w'.cell? ⟨W, 1, none⟩ = some (.string nm) ∧ w'.cell? ⟨q, 0, none⟩ = some v0 ∧ w'.cell? ⟨q, 1, none⟩ = some v1 ∧ w'.cell? ⟨q, 2, none⟩ = some v2 ∧ w'.cell? ⟨q, 3, none⟩ = some v3 ∧ w'.cell? ⟨q, 4, none⟩ = some v4 ∧
      w'.cell? ⟨q + 1, 0, none⟩ = some (.int .i64 0) ∧ w'.cell? ⟨q + 1, 1, none⟩ = some (.slice none 0 0) ∧ w'.cell? ⟨W + 1, 0, none⟩ = some (.int .i64 0) ∧ w'.cell? ⟨W + 1, 1, none⟩ = some (.slice none 0 0) ∧ w'.frozen? ⟨W + 1, 0, none⟩ = false ∧ w'.frozen? ⟨W + 1, 1, none⟩ = false := by
  obtain ⟨a0, a1, a2, a3, a4, _⟩ := five_facts h.tab
  exact ⟨h.hd, cell_of_heap h.op 1 _ rfl, a0, a1, a2, a3, a4, cell_of_heap h.out 0 _ rfl, cell_of_heap h.out 1 _ rfl, cell_of_heap h.res 0 _ rfl, cell_of_heap h.res 1 _ rfl, frozen_not h.res (by simp), frozen_not h.res (by simp)⟩
theorem do_grown {w wX w5 wU : World} {m : Nat} {o1 o2 : Obj} (hX : Below w.heap.size w wX) (h5 : Below wX.heap.size wX w5) (hg : (World.drew ((w5.alloc o1).alloc o2)).grownBy wU (some m)) : w.grownBy wU (some m) := by
  have s1 := hX.size
  have s2 := h5.size
  have s3 := hg.size
  have s3 : w5.heap.size + 1 + 1 ≤ wU.heap.size := by simpa using s3
  refine ⟨hg.os.trans (h5.os.trans hX.os), hg.tape.trans (h5.tape.trans hX.tape), hg.output.trans (h5.output.trans hX.output), by omega, fun k hk hne => ?_⟩
  rw [hg.block k (by simp; omega) hne]
  exact (Below.heap_alloc _ _ _ (by simp; omega)).trans ((Below.heap_alloc _ _ _ (by omega)).trans ((h5.block k (by omega)).trans (hX.block k hk)))
theorem do_end {w : World} {b : Nat} {a0 a1 v0 v1 : Value} (Z : w.heap[b + 1]? = some (.cells #[a0, a1] 106 (0, 0))) :
    ∃ wE, (w.setCell ⟨b + 1, 0, none⟩ v0).setCell ⟨b + 1, 1, none⟩ v1 = wE ∧ wE.cell? ⟨b + 1, 0, none⟩ = some v0 ∧ wE.cell? ⟨b + 1, 1, none⟩ = some v1 ∧ KT [121, 183] w wE ∧ (∀ q, q ≠ b + 1 → wE.heap[q]? = w.heap[q]?) ∧ wE.os = w.os ∧ wE.tape = w.tape ∧ wE.output = w.output ∧ w.heap.size ≤ wE.heap.size := by
  obtain ⟨Z7, kt7, bel7⟩ := set2 (T := [121, 183]) (v0 := v0) (v1 := v1) Z (by decide)
  have h := bel7 0 (Nat.zero_le _)
  exact ⟨_, rfl, cell_of_heap Z7 0 _ rfl, cell_of_heap Z7 1 _ rfl, kt7, fun q hq => by rw [Below.heap_setCell _ _ _ _ (by simpa using hq), Below.heap_setCell _ _ _ _ (by simpa using hq)], h.os, h.tape, h.output, h.size⟩
set_option maxHeartbeats 1000000 in
theorem do_any (J : World → Prop) (w : World) (d m : Nat) (pre : List MapEntry) (C : Nat → Cols) (E : Nat → Value) (b0 clk j : Nat) (L : List (List Int)) (r : List Int) (rv : Value) (hd : w.cell? ⟨d, 1, none⟩ = some (.map (some m))) (hM : MapIs w m pre C E b0 clk) (hp : Apart pre) (hj : j < 8)
    (F : FitK J (tname j) (C j).p (C j).n (C j).c (tkey j) r) (hJ : J w) (h : ERows w (E j) (tkey j) L) (hk : Last (tkey j) L (r.take (tkey j))) (hr : VRow w rv r) (hrl : r.length ≤ 100) (hkl : tkey j ≤ r.length) :
    Calls Tryz.prog 60 #[.pointer (some ⟨d, 0, none⟩), opPut (tname j) rv] w fun e w' => ∃ v', e = .returned (.agg #[.int .i64 0, .slice none 0 0]) ∧ ERows w' v' (tkey j) (L ++ [r]) ∧ MapIs w' m pre C (upd E j v') b0 clk ∧ w.grownBy w' (some m) := by
  have K1 := doings_any
  have K2 := fun w' hJ' h' hr' => put_any J w' (tname j) (C j).p (C j).n (C j).c (tkey j) (E j) L r rv F hJ' h' hk hr' hrl hkl
  have KL := fun w' (hM' : MapIs w' m pre C E b0 clk) => run_look hM' hp hj
  have KU := fun w' (hM' : MapIs w' m pre C E b0 clk) v => run_upd hM' hp hj v
  have HM := Lib.hid hM
  have HJ := Lib.hid hJ
  have HF := Lib.hid F
  have HE := Lib.hid h
  have HR := Lib.hid hr
  have hml := lt_of_heap hM
  have hdl : d < w.heap.size := cell_lt hd
  obtain ⟨p, cap, hpc, _⟩ := h.shape
  obtain ⟨pr, nr, cr, rfl⟩ := ownsRow_slice hr.2
  clear h hr hk hJ F hM
  obtain ⟨pj, hpj⟩ : ∃ x, x = (C j).p := ⟨_, rfl⟩
  obtain ⟨nj, hnj⟩ : ∃ x, x = (C j).n := ⟨_, rfl⟩
  obtain ⟨cj, hcj⟩ : ∃ x, x = (C j).c := ⟨_, rfl⟩
  obtain ⟨nm, hnm⟩ : ∃ x, x = tname j := ⟨_, rfl⟩
  obtain ⟨kn, hkn⟩ : ∃ x, x = tkey j := ⟨_, rfl⟩
  rw [← hpj, ← hnj, ← hcj, ← hnm, ← hkn] at KL
  rw [← hpj, ← hnj, ← hcj, ← hnm, ← hkn] at K2
  simp only [← hpj, ← hnj, ← hcj, ← hnm, ← hkn] at KU
  rw [← hnm, ← hkn]
  rw [hpc] at KL K2 HE
  rw [← hkn] at HE
  have hA : ∀ o, (w.alloc o).cell? ⟨d, 1, none⟩ = some (.map (some m)) := fun o => by rw [cellA hdl, hd]
  have hA2 : ∀ o o2, ((w.alloc o).alloc o2).cell? ⟨d, 1, none⟩ = some (.map (some m)) := fun o o2 => by rw [cellA (by simp; omega), cellA hdl, hd]
  have HN := Lib.hid hnm
  have HK := Lib.hid hkn
  have HP := Lib.hid hpj
  have HNN := Lib.hid hnj
  have HCC := Lib.hid hcj
  have HPC := Lib.hid hpc
  clear hnm hkn hpj hnj hcj hpc
  unfold tabV opPut at *
  have HM2 : Hid (((w.alloc (.cells #[.int .i64 2, .string nm, .slice none 0 0, .slice none 0 0, .slice pr nr cr, .string ⟨#[]⟩, .int .i64 0, .int .i64 0, .int .i64 0] 74)).alloc (.cells #[.int .i64 0, .slice none 0 0] 106)).heap[m]? = some (.map ⟨pre ++ (List.range 8).map (tent C E b0)⟩ clk)) := (Below.heap_alloc _ _ _ (by simp; omega)).trans ((Below.heap_alloc _ _ _ hml).trans HM.out)
  go_enter Tryz.func60, Tryz.ntmps60
  go_wp2_with (first
    | (go_at_call 93; refine (K1 _).mono ?_; rintro e w1 ⟨rfl, rfl⟩))
  go_region_held3 (fun w' => w'.cell? ⟨d, 1, none⟩ = some (.map (some m)) ∧ w'.cell? ⟨w.heap.size, 1, none⟩ = some (.string nm) ∧ (Instr.lookup 58 (.map (some m)) (.string nm) true).run Tryz.prog w' = .ok (.tuple #[.agg #[.string nm, .slice pj nj cj, .int .i64 kn, .slice none 0 0, .slice p L.length cap], .bool true]) w')
    (((try go_split_ands)
      refine ⟨?_, ?_, ?_⟩ <;> first
      | assumption
      | (exact hA2 _ _)
      | (rw [cellA (by simp; omega)]; exact hA2 _ _)
      | (exact KL _ HM2.out)
      | (exact KL _ ((Below.heap_alloc _ _ _ (by simp; omega)).trans HM2.out))
      | go_keep))
    (fail)
  all_goals go_wp2_with (first
    | (go_at_call 142; refine (K2 _ (HF.out.keep _ _ HJ.out (do_bel w _ _ _)) (HE.out.keep (KT.below (do_bel w _ _ _) (Nat.le_refl _) : KT [121, 183] _ _) (by simp) (by simp)) (HR.out.keep (KT.below (do_bel w _ _ _) (Nat.le_refl _) : KT [121] _ _) (by simp))).mono ?_; rintro e w5 ⟨v5, rfl, hv5, hb5⟩; obtain ⟨p5, c5, rfl, _⟩ := hv5.shape))
  all_goals (
    obtain ⟨hD5, hM5, hO5, hZ5⟩ := do_heap (pre := pre) (C := C) (E := E) (b0 := b0) (clk := clk) hd HM.out (do_bel w _ _ _) (do_op w _ _ _) (do_res w _ _ _) hb5
    have hMX : MapIs (World.drew ((w5.alloc (.cells #[.string nm, .slice pj nj cj, .int .i64 kn, .slice none 0 0, .slice p5 (L.length + 1) c5] 83)).alloc (.cells #[.int .i64 0, .slice none 0 0] 106))) m pre C E b0 clk := (Below.heap_alloc _ _ _ (by have := lt_of_heap hM5; simp; omega)).trans ((Below.heap_alloc _ _ _ (lt_of_heap hM5)).trans hM5)
    obtain ⟨wU, hU, hMU, hgU, hsU⟩ := KU (World.drew ((w5.alloc (.cells #[.string nm, .slice pj nj cj, .int .i64 kn, .slice none 0 0, .slice p5 (L.length + 1) c5] 83)).alloc (.cells #[.int .i64 0, .slice none 0 0] 106))) hMX (.slice p5 (L.length + 1) c5)
    have hX := do_X (v9 := #[.string nm, .slice pj nj cj, .int .i64 kn, .slice none 0 0, .slice p5 (L.length + 1) c5]) hD5 hO5 hZ5
    have hXU := do_U hMX hX hgU
    have SX := Lib.hid (do_S hX)
    have SU := Lib.hid (do_S hXU)
    have HU : Hid (w.grownBy wU (some m)) := do_grown (do_bel w _ _ _) hb5 hgU
    have HV : Hid (ERows wU (.slice p5 (L ++ [r]).length c5) kn (L ++ [r])) := hv5.keep (((KT.alloc [121, 183] _ _).trans (KT.alloc _ _ _)).trans ((KT.drew _ _).trans (KT.grownMap hgU hMX))) (by simp) (by simp)
    have HMU := Lib.hid hMU
    have HRS := Lib.hid hXU.res
    clear KU hX hXU hD5 hO5 hZ5 hgU hsU hMU hM5 hb5 hv5 K1 K2 KL hA hA2 hMX
    go_region_held3 (fun w' => w'.cell? ⟨d, 1, none⟩ = some (.map (some m)) ∧ w'.cell? ⟨w.heap.size, 1, none⟩ = some (.string nm) ∧ w'.cell? ⟨w5.heap.size, 0, none⟩ = some (.string nm) ∧ w'.cell? ⟨w5.heap.size, 1, none⟩ = some (.slice pj nj cj) ∧ w'.cell? ⟨w5.heap.size, 2, none⟩ = some (.int .i64 kn) ∧ w'.cell? ⟨w5.heap.size, 3, none⟩ = some (.slice none 0 0) ∧ w'.cell? ⟨w5.heap.size, 4, none⟩ = some (.slice p5 (L.length + 1) c5) ∧
      w'.cell? ⟨w5.heap.size + 1, 0, none⟩ = some (.int .i64 0) ∧ w'.cell? ⟨w5.heap.size + 1, 1, none⟩ = some (.slice none 0 0) ∧ w'.cell? ⟨w.heap.size + 1, 0, none⟩ = some (.int .i64 0) ∧ w'.cell? ⟨w.heap.size + 1, 1, none⟩ = some (.slice none 0 0) ∧ w'.frozen? ⟨w.heap.size + 1, 0, none⟩ = false ∧ w'.frozen? ⟨w.heap.size + 1, 1, none⟩ = false)
      (first | exact SX.out | exact SU.out)
      (fail))
  all_goals (
    obtain ⟨s0, s1, s2, s3, s4, s5, s6, s7, s8, s9, s10, s11, s12⟩ := SU.out
    clear SX SU hrl hkl
    go_wp2_with fail
    obtain ⟨wE, hE, y0, y1, ktE, keepE, belE⟩ := do_end HRS.out (v0 := .int .i64 0) (v1 := .slice none 0 0)
    rw [hE]
    have hs := HU.out.size
    have hme : wE.heap[m]? = wU.heap[m]? := keepE m (fun e => by have := lt_of_heap HRS.out; omega)
    have hfin : ERows wE (.slice p5 (L ++ [r]).length c5) kn (L ++ [r]) ∧ MapIs wE m pre C (upd E j (.slice p5 (L ++ [r]).length c5)) b0 clk ∧ w.grownBy wE (some m) :=
      ⟨HV.out.keep ktE (by simp) (by simp), hme.trans (by have h := HMU.out; rw [List.length_append]; exact h), ⟨belE.1.trans HU.out.os, belE.2.1.trans HU.out.tape, belE.2.2.1.trans HU.out.output, by have := belE.2.2.2; omega, fun k hk hne => (keepE k (by omega)).trans (HU.out.block k hk hne)⟩⟩
    have HF2 := Lib.hid hfin
    clear hfin hme hs hE ktE keepE belE HRS HMU HV HU
    exact bodyPost_ret (v := .agg #[.int .i64 0, .slice none 0 0]) (by simp [results, Tryz.results60, go_sem, y0, y1]) rfl ⟨_, rfl, HF2.out.1, HF2.out.2.1, HF2.out.2.2⟩)
end Go.Proofs.YtbjickdjkgefcaaGreatDoor
end
section
open Go Go.RowKit Go.Proofs.YtbjickdjkgefcaaGreatDoor.Vai
namespace Go.Proofs.YtbjickdjkgefcaaGreatDoor
set_option linter.unusedVariables false
set_option linter.unusedSimpArgs false
set_option maxRecDepth 20000
theorem run_mclone {w : World} {m : Nat} {cs : Array MapEntry} {clk : Nat} (t : TypeId) (h : w.heap[m]? = some (.map cs clk)) : (callFunc 92 #[.iface t (.map (some m))]).run Tryz.prog w = .ok (.value (.iface t (.map (some w.heap.size)))) (w.alloc (.map cs clk)) := by
  have e : (Extern.MapsClone.clone #[.iface t (.map (some m))]).run Tryz.prog w = .ok (.iface t (.map (some w.heap.size))) (w.alloc (.map cs clk)) := by
    delta Extern.MapsClone.clone
    show (getObj m >>= _).run _ _ = _
    rw [Sem.run_bind, run_getObj_of h]
    rfl
  rw [callFunc_ext e92]
  show (Extern.MapsClone.clone #[.iface t (.map (some m))] >>= _).run _ _ = _
  rw [Sem.run_bind, e]
  rfl
theorem mclone_any {w : World} {m : Nat} {cs : Array MapEntry} {clk : Nat} (h : w.heap[m]? = some (.map cs clk)) : Calls Tryz.prog 59 #[.map (some m)] w fun e w' => e = .returned (.map (some w.heap.size)) ∧ w' = w.alloc (.map cs clk) := by
  have q : ∀ w, (binOp .eql 58 (.map (some m)) (.map none)).run Tryz.prog w = .ok (.bool false) w := fun w => run_eql_map_nil w 58 9 83 (some m) Tryz.underlying58
  have q2 := run_mclone 58 h
  have q3 : ∀ (w : World) (r : Option Nat), (Instr.typeAssert (.iface 58 (.map r)) 20 58 false).run Tryz.prog w = .ok (.map r) w := fun w r => by kernel_rfl
  go_enter Tryz.func59, Tryz.ntmps59
  go_wp2
  go_ret
  exact ⟨rfl, rfl⟩
/-- The rows of a table among rows of all. -/
def rowsOf (L : List (Nat × List Int)) (j : Nat) : List (List Int) := (L.filter fun x => x.1 == j).map (·.2)
theorem rowsOf_snoc (L : List (Nat × List Int)) (x : Nat × List Int) (j : Nat) : rowsOf (L ++ [x]) j = if x.1 = j then rowsOf L j ++ [x.2] else rowsOf L j := by
  unfold rowsOf
  rw [List.filter_append, List.map_append]
  by_cases h : x.1 = j
  · simp [h]
  · simp [h]
/-- What is asked of a list of rows that are put one after the other. -/
def Good (J : World → Prop) (C : Nat → Cols) (L : List (Nat × List Int)) : Prop := ∀ (k : Nat) (x : Nat × List Int), L[k]? = some x → x.1 < 8 ∧ Last (tkey x.1) (rowsOf (L.take k) x.1) (x.2.take (tkey x.1)) ∧ x.2.length ≤ 100 ∧ tkey x.1 ≤ x.2.length ∧ FitK J (tname x.1) (C x.1).p (C x.1).n (C x.1).c (tkey x.1) x.2
/-- The program's data, with rows. -/
structure PD (w : World) (d m : Nat) (pre : List MapEntry) (C : Nat → Cols) (b0 clk : Nat) (L : List (Nat × List Int)) : Prop where
  ptr : w.cell? ⟨d, 1, none⟩ = some (.map (some m))
  tabs : ∃ E, MapIs w m pre C E b0 clk ∧ ∀ j, j < 8 → ERows w (E j) (tkey j) (rowsOf L j)
theorem PD.ne {w : World} {d m : Nat} {pre : List MapEntry} {C : Nat → Cols} {b0 clk : Nat} {L : List (Nat × List Int)} (h : PD w d m pre C b0 clk L) : d ≠ m := by
  rintro rfl
  obtain ⟨E, hM, _⟩ := h.tabs
  have hM : w.heap[d]? = _ := hM
  have := h.ptr
  simp only [World.cell?, hM] at this
  cases this
theorem PD.keep {w w' : World} {d m : Nat} {pre : List MapEntry} {C : Nat → Cols} {b0 clk : Nat} {L : List (Nat × List Int)} (h : PD w d m pre C b0 clk L) (hd : w'.heap[d]? = w.heap[d]?) (hm : w'.heap[m]? = w.heap[m]?) (k : KT [121, 183] w w') : PD w' d m pre C b0 clk L := by
  obtain ⟨E, h1, h2⟩ := h.tabs
  exact ⟨(World.cell?_of_block (w := w) hd).trans h.ptr, E, hm.trans h1, fun j hj => (h2 j hj).keep k (by simp) (by simp)⟩
/-- One row more. -/
theorem PD.next {w w' : World} {d m : Nat} {pre : List MapEntry} {C : Nat → Cols} {E : Nat → Value} {b0 clk : Nat} {L : List (Nat × List Int)} {x : Nat × List Int} {v' : Value} (hptr : w.cell? ⟨d, 1, none⟩ = some (.map (some m))) (hM : MapIs w m pre C E b0 clk) (hE : ∀ j, j < 8 → ERows w (E j) (tkey j) (rowsOf L j)) (hne : d ≠ m)
    (h1 : ERows w' v' (tkey x.1) (rowsOf L x.1 ++ [x.2])) (h2 : MapIs w' m pre C (upd E x.1 v') b0 clk) (hg : w.grownBy w' (some m)) : PD w' d m pre C b0 clk (L ++ [x]) := by
  have kt : KT [121, 183] w w' := KT.grownMap hg hM
  refine ⟨(World.cell?_of_block (w := w) (hg.block d (cell_lt hptr) (fun e => hne (by cases e; rfl)))).trans hptr, _, h2, fun j hj => ?_⟩
  rw [rowsOf_snoc]
  by_cases e : x.1 = j
  · subst e
    rw [if_pos rfl]
    simpa [upd] using h1
  · rw [if_neg e]
    have : upd E x.1 v' j = E j := if_neg (fun h => e h.symm)
    rw [this]
    exact (hE j hj).keep kt (by simp) (by simp)
theorem info106' : (Tryz.prog.info? 106).map (fun i => (i.zero, i.size, i.bytes)) = some (some (.agg #[.int .i64 0, .slice none 0 0]), 2, 32) := by kernel_rfl
theorem info106 : ∃ i z, Tryz.prog.info? 106 = some i ∧ i.zero = some z ∧ i.size = 2 ∧ i.bytes = 32 ∧ z.cells.size = 2 := by
  have h := info106'
  cases hi : Tryz.prog.info? 106 with
  | none => rw [hi] at h; cases h
  | some i =>
    rw [hi] at h
    simp only [Option.map_some, Option.some.injEq, Prod.mk.injEq] at h
    exact ⟨i, _, rfl, h.1, h.2.1, h.2.2, rfl⟩
/-- The operations lie in memory. -/
def OpsAt (w : World) (p : Option Addr) (L : List (Nat × List Int)) : Prop := ∀ (i : Nat) (x : Nat × List Int), L[i]? = some x → ∃ ob rv, p = some ⟨ob, 0, none⟩ ∧ (∀ q u, (opPut (tname x.1) rv).cells[q]? = some u → w.cell? ⟨ob, i * 9 + q, none⟩ = some u) ∧ VRow w rv x.2
theorem cell_not_map {w : World} {b o m : Nat} {v : Value} {cs : Array MapEntry} {k : Nat} (h : w.cell? ⟨b, o, none⟩ = some v) (hm : w.heap[m]? = some (.map cs k)) : b ≠ m := by
  rintro rfl
  simp only [World.cell?, hm] at h
  cases h
theorem apply_round {J : World → Prop} (hJt : ∀ w w', J w → KT [38] w w' → J w') {W : World} {d m : Nat} {pre : List MapEntry} {C : Nat → Cols} {E : Nat → Value} {b0 clk : Nat} {L : List (Nat × List Int)} {k : Nat} {x : Nat × List Int} {res : Value} {wr w2 w4 : World} {xs : List Value} {o o1 o2 : Obj} {g cap : Nat} {ys : List Value} {v' : Value}
    (hx : L[k]? = some x) (hlt : k < L.length) (hptr : wr.cell? ⟨d, 1, none⟩ = some (.map (some m))) (hM : MapIs wr m pre C E b0 clk) (hE : ∀ j, j < 8 → ERows wr (E j) (tkey j) (rowsOf (L.take k) j)) (hne : d ≠ m) (hdW : d < W.heap.size) (hJk : J wr) (hown : wr.ownsRow (W.heap.size + 1) 106 2 res k xs) (hgr : W.grownBy wr (some m))
    (hr2 : ERows w2 v' (tkey x.1) (rowsOf (L.take k) x.1 ++ [x.2])) (hM2 : MapIs w2 m pre C (upd E x.1 v') b0 clk) (hg2 : (wr.alloc o).grownBy w2 (some m)) (hown4 : w4.ownsRow (W.heap.size + 1) 106 2 (.slice (some ⟨g, 0, none⟩) (k + 1) cap) (k + 1) ys) (hgrow : ((w2.alloc o1).alloc o2).grownBy w4 res.ownBlock) :
    PD w4 d m pre C b0 clk (L.take (k + 1)) ∧ J w4 ∧ W.grownBy w4 (some m) ∧ w4.heap[w2.heap.size]? = some o1 := by
  have hml := lt_of_heap hM
  have hdl : d < wr.heap.size := cell_lt hptr
  have s1 := hg2.size
  have s2 := hgrow.size
  have s3 := hgr.size
  simp at s1 s2
  have hlow : ∀ q, res.ownBlock = some q → W.heap.size + 1 ≤ q ∧ q < wr.heap.size := hown.lt
  have hMa : MapIs (wr.alloc o) m pre C E b0 clk := (Below.heap_alloc _ _ _ hml).trans hM
  have hEa : ∀ j, j < 8 → ERows (wr.alloc o) (E j) (tkey j) (rowsOf (L.take k) j) := fun j hj => (hE j hj).keep (KT.alloc [121, 183] _ _) (by simp) (by simp)
  have p2 : PD w2 d m pre C b0 clk (L.take k ++ [x]) := PD.next (by rw [cellA hdl]; exact hptr) hMa hEa hne hr2 hM2 hg2
  have e1 : L.take (k + 1) = L.take k ++ [x] := by
    rw [List.take_succ_eq_append_getElem hlt]; rw [List.getElem?_eq_getElem hlt] at hx; cases hx; rfl
  have own2 : ((w2.alloc o1).alloc o2).ownsRow (W.heap.size + 1) 106 2 res k xs := by
    refine ((ownsRow_keep hown ((KT.alloc [106] _ o).trans (KT.grownMap hg2 hMa)) (by simp)).alloc _).alloc _
  have ne : ∀ q, q < w2.heap.size → (res.ownBlock = some q → False) → w4.heap[q]? = w2.heap[q]? := fun q hq hn => by
    rw [hgrow.block q (by simp; omega) (fun e => hn e.symm), Below.heap_alloc _ _ _ (by simp; omega), Below.heap_alloc _ _ _ hq]
  -- the accumulator is no block of the data
  have hacc : ∀ {q : Nat} {ob : Obj}, w2.heap[q]? = some ob → (∀ cs fr, ob ≠ .cells cs 106 fr) → res.ownBlock = some q → False := by
    intro q ob hq hty e
    rcases own2.2 with ⟨rfl, _⟩ | ⟨g', c', cur, rfl, _, hg', _⟩
    · cases e
    · simp only [Value.ownBlock, Option.some.injEq] at e
      subst e
      rw [Below.heap_alloc _ _ _ (by have := lt_of_heap hq; simp; omega), Below.heap_alloc _ _ _ (lt_of_heap hq), hq] at hg'
      cases hg'
      exact hty _ _ rfl
  obtain ⟨E2, m2, _⟩ := p2.tabs
  have hm4 : w4.heap[m]? = w2.heap[m]? := ne m (lt_of_heap m2) (hacc m2 (fun _ _ h => by cases h))
  have dlt2 : d < w2.heap.size := cell_lt p2.ptr
  have hd4 : w4.heap[d]? = w2.heap[d]? := ne d dlt2 (fun e => by
    have := hlow d e
    omega)
  have kt4 : KT [121, 183] w2 w4 := ((KT.alloc _ _ _).trans (KT.alloc _ _ _)).trans (KT.grown hgrow own2 (by decide))
  refine ⟨by rw [e1]; exact p2.keep hd4 hm4 kt4, ?_, ?_, ?_⟩
  · have k1 : KT [38] wr w2 := (KT.alloc _ _ o).trans (KT.grownMap hg2 hMa)
    have k2 : KT [38] w2 w4 := ((KT.alloc _ _ _).trans (KT.alloc _ _ _)).trans (KT.grown hgrow own2 (by decide))
    exact hJt _ _ hJk (k1.trans k2)
  · refine ⟨hgrow.os.trans (hg2.os.trans hgr.os), hgrow.tape.trans (hg2.tape.trans hgr.tape), hgrow.output.trans (hg2.output.trans hgr.output), by omega, fun q hq hn => ?_⟩
    rw [ne q (by omega) (fun e => by have := (hlow q e).1; omega), hg2.block q (by simp; omega) hn, Below.heap_alloc _ _ _ (by omega), hgr.block q hq hn]
  · rw [hgrow.block _ (by simp; omega) (fun e => by have := (hlow _ e.symm).2; omega), Below.heap_alloc _ _ _ (by simp)]
    exact heap_alloc_at
theorem apply_any (J : World → Prop) (hJt : ∀ w w', J w → KT [38] w w' → J w') (W : World) (d m : Nat) (pre : List MapEntry) (C : Nat → Cols) (b0 clk : Nat) (L : List (Nat × List Int)) (p : Option Addr) (cap : Nat) (hW : PD W d m pre C b0 clk []) (hp : Apart pre) (hJ : J W) (hL : Good J C L) (hn : L.length ≤ 4000) (hO : OpsAt W p L) :
    Calls Tryz.prog 28 #[.pointer (some ⟨d, 0, none⟩), .slice p L.length cap] W fun e w' => ∃ res, e = .returned (.tuple #[res, .bool true, .int .i64 0]) ∧ PD w' d m pre C b0 clk L ∧ W.grownBy w' (some m) := by
  obtain ⟨i0, z0, hi0, hz0, hs0, hb0, hc0⟩ := info106
  obtain ⟨E0, hM0, hE0⟩ := hW.tabs
  have K59 := mclone_any hM0
  have hne := hW.ne
  have hd1 := hW.ptr
  have hdl := cell_lt hd1
  have H0 := Lib.hid hW
  have HM0 := Lib.hid hM0
  have HJ := Lib.hid hJ
  have hml := lt_of_heap hM0
  clear hM0 hE0 hW hJ
  go_enter Tryz.func28, Tryz.ntmps28
  go_wp2_with (first
    | (go_at_call 59; refine K59.mono ?_; rintro e w1 ⟨rfl, rfl⟩))
  clear K59
  go_loopw [4, 21] (fun res i w' => ∃ (k : Nat) (xs : List Value), i = .int .i64 k ∧ k ≤ L.length ∧ PD w' d m pre C b0 clk (L.take k) ∧ J w' ∧ w'.ownsRow (W.heap.size + 1) 106 2 res k xs ∧ W.grownBy w' (some m)) (fun _ i _ => L.length - (intOf i).toNat)
  case atStart =>
    have b1 := KT.alloc [121, 183] W (.map ⟨pre ++ (List.range 8).map (tent C E0 b0)⟩ clk)
    exact ⟨0, [], rfl, Nat.zero_le _, H0.out.keep (Below.heap_alloc _ _ _ hdl) (Below.heap_alloc _ _ _ hml) b1, hJt _ _ HJ.out (KT.alloc _ _ _), World.ownsRow_nil _ _ _ _, ⟨rfl, rfl, rfl, by simp, fun k hk _ => Below.heap_alloc _ _ _ hk⟩⟩
  case round =>
    obtain ⟨k, xs, rfl, hk, hPD, hJk, hown, hgr⟩ := hrel
    by_cases hlt : k < L.length
    · obtain ⟨x, hx⟩ : ∃ x, L[k]? = some x := ⟨_, List.getElem?_eq_getElem hlt⟩
      obtain ⟨hx8, hLast, hxl, hxk, hF⟩ := hL k x hx
      obtain ⟨ob, rv, rfl, hcells, hrv⟩ := hO k x hx
      obtain ⟨E, hM, hE⟩ := hPD.tabs
      have hptr := hPD.ptr
      have hml2 := lt_of_heap hM
      have hdl2 : d < wr.heap.size := cell_lt hptr
      have hobm : ob ≠ m := cell_not_map (hcells 0 (.int .i64 2) rfl) HM0.out
      have hcell : ∀ q u, (opPut (tname x.1) rv).cells[q]? = some u → wr.cell? ⟨ob, k * 9 + q, none⟩ = some u := fun q u hu => by
        have h1 := hcells q u hu
        rw [World.cell?_of_block (w := W) (hgr.block ob (cell_lt h1) (by simpa using hobm)), h1]
      have hrv2 : VRow wr rv x.2 := hrv.keep (KT.grownMap hgr HM0.out : KT [121] _ _) (by simp)
      obtain ⟨pr, nr, cr, rfl⟩ := ownsRow_slice hrv.2
      have c0 : wr.cell? ⟨ob, k * 9, none⟩ = some (.int .i64 2) := hcell 0 _ rfl
      have c1 : wr.cell? ⟨ob, k * 9 + 1, none⟩ = some (.string (tname x.1)) := hcell 1 _ rfl
      have c2 : wr.cell? ⟨ob, k * 9 + 2, none⟩ = some (.slice none 0 0) := hcell 2 _ rfl
      have c3 : wr.cell? ⟨ob, k * 9 + 3, none⟩ = some (.slice none 0 0) := hcell 3 _ rfl
      have c4 : wr.cell? ⟨ob, k * 9 + 4, none⟩ = some (.slice pr nr cr) := hcell 4 _ rfl
      have c5 : wr.cell? ⟨ob, k * 9 + 5, none⟩ = some (.string ⟨#[]⟩) := hcell 5 _ rfl
      have c6 : wr.cell? ⟨ob, k * 9 + 6, none⟩ = some (.int .i64 0) := hcell 6 _ rfl
      have c7 : wr.cell? ⟨ob, k * 9 + 7, none⟩ = some (.int .i64 0) := hcell 7 _ rfl
      have c8 : wr.cell? ⟨ob, k * 9 + 8, none⟩ = some (.int .i64 0) := hcell 8 _ rfl
      have K : ∀ o, Calls Tryz.prog 60 #[.pointer (some ⟨d, 0, none⟩), opPut (tname x.1) (.slice pr nr cr)] (wr.alloc o) _ := fun o =>
        do_any J (wr.alloc o) d m pre C E b0 clk x.1 (rowsOf (L.take k) x.1) x.2 (.slice pr nr cr) (by rw [cellA hdl2]; exact hptr) ((Below.heap_alloc _ _ _ hml2).trans hM) hp hx8 hF (hF.keep _ _ hJk ((Below.refl _ _).alloc (Nat.le_refl _) _)) ((hE x.1 hx8).keep (KT.alloc [121, 183] _ _) (by simp) (by simp)) hLast (hrv2.keep (KT.alloc [121] _ _) (by simp)) hxl hxk
      have hWw := hgr.size
      have hmr : u4.ownBlock = none ∨ u4.ownBlock ≠ some m := .inr fun e => by have := (hown.lt _ e).1; omega
      have RI := fun w2 w4 o o1 o2 g cap ys v' => @apply_round J hJt W d m pre C E b0 clk L k x u4 wr w2 w4 xs o o1 o2 g cap ys v' hx hlt hptr hM hE hne hdl hJk hown hgr
      obtain ⟨nm, hnm⟩ : ∃ n, n = tname x.1 := ⟨_, rfl⟩
      rw [← hnm] at c1 K
      have HN := Lib.hid hnm
      have HX := Lib.hid hx
      clear hO hL hcells hcell hrv hrv2 hE hM hPD hptr hF hLast hx hnm hxl hxk
      unfold opPut at K
      go_wp2_with (first
        | (go_at_call 60; refine (K _).mono ?_; rintro e w2 ⟨v', rfl, hr2, hM2, hg2⟩)
        | (at_builtin
           refine wpList_append_lies _ rfl (.tmp 28) (.tmp 30) _ rfl (W.heap.size + 1) 106 i0 z0 2 32 Tryz.underlying76 hi0 hz0 hs0 hb0 hc0 (by omega) _ k xs (by rfl) (((hown.alloc _).kept hg2 hmr).alloc _ |>.alloc _) _ 1 1 [.int .i64 0, .slice none 0 0] (by rfl) rfl (news_lit _ _ _ _ (by simp)) (by simp [Value.oneCell']) (by omega) (by simp only [maxLen]; omega) (by omega) (by have := hg2.size; simp at this; simp; omega) (w2.heap.size + 2) (by simp) ?_
           intro g4 cap4 w4 hown4 hgrow hat hlt4
           obtain ⟨hP4, hJ4, hG4, hblk⟩ := RI _ _ _ _ _ _ _ _ _ hr2 hM2 hg2 hown4 hgrow
           have hc0 : w4.cell? ⟨w2.heap.size, 0, none⟩ = some (.int .i64 0) := cell_of_heap hblk 0 _ rfl))
      exact ⟨⟨k + 1, _, by go_num, hlt, hP4, hJ4, hown4, hG4⟩, by simp [intOf]; omega⟩
    · have hk' : k = L.length := by omega
      subst hk'
      rw [List.take_length] at hPD
      clear hO hL
      go_wp2
      exact bodyPost_ret (v := .tuple #[u4, .bool true, .int .i64 0]) (by simp [results, Tryz.results28, go_sem]) rfl ⟨_, rfl, hPD, hgr⟩
end Go.Proofs.YtbjickdjkgefcaaGreatDoor
end
