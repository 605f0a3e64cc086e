/- The names of the program's tables: the map's keys, sorted. -/
import Derived.Test.YtbjickdjkgefcaaGreatDoorLSH
import Derived.Test.YtbjickdjkgefcaaGreatDoorLK6
import Derived.Test.YtbjickdjkgefcaaGreatDoorLI1
import Derived.Test.YtbjickdjkgefcaaGreatDoorLN4
import Derived.Outline
import Derived.Test.YtbjickdjkgefcaaGreatDoorLLV
import Derived.Test.YtbjickdjkgefcaaGreatDoorLK7
section
open Go Go.RowKit Go.Maps Go.Sort Go.Shelf
namespace Go.Proofs.YtbjickdjkgefcaaGreatDoor
set_option linter.unusedVariables false
set_option linter.unusedSimpArgs false
set_option maxRecDepth 20000
theorem sortsA (m : Nat) : AnyZ.SortsIn Tryz.prog Tryz.sortedA_ren Fence.wide m :=
  ⟨fun blk off cap ss W hH hblk hsz => callsIn_wide.2 (AnyM.slices_Sort_string Tryz.sortA blk off cap ss W hH hblk hsz),
   fun p cap W => callsIn_wide.2 (AnyM.slices_Sort_string_none Tryz.sortA p cap W)⟩
set_option maxHeartbeats 1000000 in
theorem sorted_keys {H : Type} (c b nn : Nat) (D0 : DataW H) (R : Value → Option (DataW H × List MemPlace)) (w : World) (hc : w.cell? ⟨c, 0, none⟩ = some (.map (some b))) (hown : w.ownsMap Tryz.prog 9 R b nn D0) (hmax : Maps.size D0 ≤ maxLen) (hbytes : Maps.size D0 * 16 ≤ 140737488355328) :
    Calls Tryz.prog 57 #[.pointer (some ⟨c, 0, none⟩)] w fun e w' => ∃ (v : Value) (ss : List (List UInt8)), e = .returned v ∧ ss.Perm (strKeys D0) ∧
      w'.ownsRow w.heap.size 9 1 v ss.length ((ss.mergeSort (fun x y => decide (x ≤ y))).map encStr) ∧ (v = .slice none 0 0 ↔ ss = []) ∧ Below w.heap.size w w' := by
  refine (callsIn_wide (n := 6)).1 ?_
  have hbl := hown.lt
  have hseq : SeqGives Fence.wide 2 Tryz.prog 140 #[.pointer (some ⟨w.heap.size, 0, none⟩)] encStr (fun ss => ss.Perm (strKeys D0)) (Maps.size D0) (w.alloc (.cells #[.map (some b)] 115)) :=
    AnyZ.keys_gives (ρ := Tryz.keysA_ren) { Tryz.keysA with } Fence.wide _ trivial rfl (by omega) w.heap.size b nn D0 _ (by simp) (by simp) (by
      obtain ⟨es, clock, hb, Ft, hs, hD⟩ := hown
      exact ⟨es, clock, (Below.heap_alloc _ _ b hbl).trans hb, Ft, hs, hD⟩)
  have cK : ∀ mb W, CallsIn Fence.wide 5 Tryz.prog 91 #[.map mb] W fun e w' => e = .returned (.func (.func 140) #[] #[.pointer (some ⟨W.heap.size, 0, none⟩)]) ∧ w' = W.alloc (.cells #[.map mb] 115) := fun mb W => AnyZ.keys_in Tryz.keysA Fence.wide 5 trivial rfl mb W
  have cS := AnyZ.sorted_in Tryz.sortedA Fence.wide 5 trivial trivial trivial trivial rfl (by omega) (sortsA _) (enters_of Tryz.func139 (by kernel_rfl) rfl) 140 #[.pointer (some ⟨w.heap.size, 0, none⟩)] trivial (enters_of Tryz.func140 (by kernel_rfl) rfl) _ _ hmax hbytes _ hseq
  change CallsIn _ _ Tryz.prog 90 _ _ _ at cS
  have hfK : Fence.wide.fn 91 := trivial
  have hfS : Fence.wide.fn 90 := trivial
  refine callsIn_of_wp Tryz.func57 rfl trivial ?_ rfl
  simp only [Tryz.ntmps57, List.size_toArray, List.length_cons, List.length_nil, Nat.reduceAdd, Nat.reduceSub, Array.replicate_succ, Array.replicate_zero, List.push_toArray, List.append_toArray, List.nil_append, List.cons_append]
  gi_wp2_with (first
    | (gi_at_call 91; refine (cK _ _).mono ?_; rintro e w' ⟨rfl, rfl⟩)
    | (gi_at_call 90; refine cS.mono ?_; rintro e w' ⟨v, ss, rfl, hS, hrow, hnil, hb⟩))
  go_ret
  exact ⟨v, ss, rfl, hS, ownsRow_base_a hrow (by simp), hnil, ((Below.refl _ w).alloc (Nat.le_refl _) _).trans (hb.mono (by simp))⟩
end Go.Proofs.YtbjickdjkgefcaaGreatDoor
end
section
open Go Go.RowKit Go.Proofs.YtbjickdjkgefcaaGreatDoor.Vai
noncomputable section
namespace Go.Proofs.YtbjickdjkgefcaaGreatDoor
set_option linter.unusedVariables false
set_option linter.unusedSimpArgs false
set_option maxRecDepth 100000
theorem specR8_at (p : Nat) (pre : Bool) (j : Nat) (hj : j < 8) : (lCells 5 (tabsP pre 8))[(offOf pre + j) * 5]? = some (.string (tname j)) ∧ (lCells 5 (tabsP pre 8))[(offOf pre + j) * 5 + 1]? = some (.slice (some ⟨5 + 2 * (offOf pre + j), 0, none⟩) (lenOf j) INF) ∧ (lCells 5 (tabsP pre 8))[(offOf pre + j) * 5 + 2]? = some (.int .i64 (tkey j)) ∧ (lCells 5 (tabsP pre 8))[(offOf pre + j) * 5 + 3]? = some (.slice none 0 0) ∧ (lCells 5 (tabsP pre 8))[(offOf pre + j) * 5 + 4]? = some (.slice none 0 0) ∧ (specR p (tabsP pre 8))[5 + 2 * (offOf pre + j)]? = some (colB j) := by
  match pre, j, hj with
  | false, 0, _ => exact ⟨rfl, rfl, rfl, rfl, rfl, rfl⟩
  | false, 1, _ => exact ⟨rfl, rfl, rfl, rfl, rfl, rfl⟩
  | false, 2, _ => exact ⟨rfl, rfl, rfl, rfl, rfl, rfl⟩
  | false, 3, _ => exact ⟨rfl, rfl, rfl, rfl, rfl, rfl⟩
  | false, 4, _ => exact ⟨rfl, rfl, rfl, rfl, rfl, rfl⟩
  | false, 5, _ => exact ⟨rfl, rfl, rfl, rfl, rfl, rfl⟩
  | false, 6, _ => exact ⟨rfl, rfl, rfl, rfl, rfl, rfl⟩
  | false, 7, _ => exact ⟨rfl, rfl, rfl, rfl, rfl, rfl⟩
  | true, 0, _ => exact ⟨rfl, rfl, rfl, rfl, rfl, rfl⟩
  | true, 1, _ => exact ⟨rfl, rfl, rfl, rfl, rfl, rfl⟩
  | true, 2, _ => exact ⟨rfl, rfl, rfl, rfl, rfl, rfl⟩
  | true, 3, _ => exact ⟨rfl, rfl, rfl, rfl, rfl, rfl⟩
  | true, 4, _ => exact ⟨rfl, rfl, rfl, rfl, rfl, rfl⟩
  | true, 5, _ => exact ⟨rfl, rfl, rfl, rfl, rfl, rfl⟩
  | true, 6, _ => exact ⟨rfl, rfl, rfl, rfl, rfl, rfl⟩
  | true, 7, _ => exact ⟨rfl, rfl, rfl, rfl, rfl, rfl⟩
theorem specR8_ahead : (lCells 5 (tabsP true 8))[0]? = some atomT ∧ (lCells 5 (tabsP true 8))[1]? = some (.slice (some ⟨5, 0, none⟩) 1 INF) ∧ (lCells 5 (tabsP true 8))[2]? = some (.int .i64 1) ∧ (lCells 5 (tabsP true 8))[3]? = some (.slice none 0 0) ∧ (lCells 5 (tabsP true 8))[4]? = some (.slice none 0 0) := ⟨rfl, rfl, rfl, rfl, rfl⟩
def lenP (pre : Bool) : Nat := offOf pre + 8
theorem specR8_head (p : Nat) (pre : Bool) : (specR p (tabsP pre 8))[0]? = some (.cells 66 2 [.pointer (some ⟨1, 0, none⟩), .slice (some ⟨3, 0, none⟩) (lenP pre) INF] false) ∧ (specR p (tabsP pre 8))[3]? = some (.cells 87 5 (lCells 5 (tabsP pre 8)) true) := by
  cases pre with
  | false => exact ⟨rfl, rfl⟩
  | true => exact ⟨rfl, rfl⟩
theorem lCells8_len (pre : Bool) : (lCells 5 (tabsP pre 8)).length = lenP pre * 5 := by cases pre <;> rfl
/-- The catalogue and the columns, as they stay. -/
def specC (p : Nat) (l : List Nat) : List BSpec := .cells 63 1 [.slice (some ⟨1, 0, none⟩) l.length INF] true :: .cells 30 4 (catCells l 2 (sortT p l)) true :: colBs l
def idsC (l : List Nat) : List Nat := [1, 2] ++ upTo (Nat.mul 2 l.length) 4
theorem subC_f : subOk (specR 0 (tabsP false 8)) (specC 0 (tabsP false 8)) (idsC (tabsP false 8)) = true := by kernel_rfl
theorem subC_t : allUp (fun p => subOk (specR p (tabsP true 8)) (specC p (tabsP true 8)) (idsC (tabsP true 8))) 9 = true := by kernel_rfl
theorem subC (pre : Bool) (p : Nat) (hp : MayP pre p) : subOk (specR p (tabsP pre 8)) (specC p (tabsP pre 8)) (idsC (tabsP pre 8)) = true := by
  rcases hp with ⟨rfl, rfl⟩ | ⟨rfl, hp⟩
  · exact subC_f
  · exact allUp_at 9 subC_t p (by omega)
def RCat (pre : Bool) (a : ByteArray) (p : Nat) (q : Two) (w : World) : Prop := ∃ us t0, Lies w (specC p (tabsP pre 8)) us (sg a) ∧ us[0]? = some t0 ∧ t0.blk = q.c ∧ q.d ∉ us.map (·.blk)
/-- The heads of the tables ahead of the eight. -/
def RAhead (pre : Bool) (a : ByteArray) (H : List (ByteArray × Cols × Nat)) : Prop := (pre = false ∧ H = []) ∨ (pre = true ∧ ∃ c, H = [(a, c, 1)])
structure RInv (pre : Bool) (a : ByteArray) (p : Nat) (q : Two) (w0 : World) (H : List (ByteArray × Cols × Nat)) (C : Nat → Cols) (L : List (Nat × List Int)) (w : World) : Prop where
  dat : ∃ l, l.map RTab.hd = heads H C ∧ RDat w q.d (.pointer (some ⟨q.c, 0, none⟩)) l (Rof (offOf pre) L)
  ahead : RAhead pre a H
  cols : JC C w
  cat : RCat pre a p q w
  keep : KeepL q.l w0 w
theorem RAhead.len {pre : Bool} {a : ByteArray} {H : List (ByteArray × Cols × Nat)} (h : RAhead pre a H) : H.length = offOf pre := by
  rcases h with ⟨rfl, rfl⟩ | ⟨rfl, c, rfl⟩ <;> rfl
theorem atom_vr {φ : Emb} {v : Value} (h : VR φ atomT v) : v = .string (φ.sig.str 0) := strOf_sound (i := 0) rfl h
theorem heads_len (H : List (ByteArray × Cols × Nat)) (C : Nat → Cols) : (heads H C).length = H.length + 8 := by simp [heads]
/-- The first 'n' of cells. -/
theorem cells_take {cs : Array Value} {xs : List Value} {n : Nat} (hn : xs.length = n) (h : ∀ (o : Nat) (v : Value), xs[o]? = some v → cs[o]? = some v) : cs.toList.take n = xs := by
  apply List.ext_getElem?
  intro o
  rw [List.getElem?_take]
  by_cases ho : o < n
  · rw [if_pos ho]
    have hxo : o < xs.length := by omega
    have := h o (xs[o]'hxo) (List.getElem?_eq_getElem hxo)
    rw [List.getElem?_eq_getElem hxo]
    simpa using this
  · rw [if_neg ho]
    exact (List.getElem?_eq_none (by omega)).symm
theorem rcells_get {l : List RTab} {o : Nat} {v : Value} (h : (rcells l)[o]? = some v) : ∃ t, l[o / 5]? = some t ∧ t.cells[o % 5]? = some v := by
  have hl : o < l.length * 5 := by rw [← rcells_length]; exact (List.getElem?_eq_some_iff.1 h).1
  have ho : o / 5 < l.length := by omega
  refine ⟨l[o / 5], List.getElem?_eq_getElem ho, ?_⟩
  have hm : o % 5 < 5 := Nat.mod_lt _ (by omega)
  have hc : ∃ u, (l[o / 5]).cells[o % 5]? = some u := by
    have : (l[o / 5]).cells.length = 5 := rfl
    exact ⟨_, List.getElem?_eq_getElem (by omega)⟩
  obtain ⟨u, hu⟩ := hc
  have := rcells_at l (o / 5) (o % 5) _ u (List.getElem?_eq_getElem ho) hu
  rw [show o / 5 * 5 + o % 5 = o by omega, h] at this
  rw [hu, this]
theorem slice_vr {φ : Emb} {b n : Nat} {v : Value} (h : VR φ (.slice (some ⟨b, 0, none⟩) n INF) v) : ∃ (t : Tgt) (c : Nat), φ b = some t ∧ v = .slice (some ⟨t.blk, 0, none⟩) n c ∧ 0 + c * t.es = t.n := by
  cases h with
  | slice v o t l c c' h' g1 g2 => exact ⟨t, c', h', rfl, g2 rfl⟩
theorem int_vr {φ : Emb} {k : IntKind} {n : Int} {v : Value} (h : VR φ (.int k n) v) : v = .int k n := by cases h; rfl
theorem snil_vr {φ : Emb} {n c : Nat} {v : Value} (h : VR φ (.slice none n c) v) : v = .slice none n c := by cases h; rfl
theorem ptr_vr {φ : Emb} {b o : Nat} {v : Value} (h : VR φ (.pointer (some ⟨b, o, none⟩)) v) : ∃ t, φ b = some t ∧ v = .pointer (some ⟨t.blk, o, none⟩) := by
  cases h with
  | ptr v o t h => exact ⟨t, h, rfl⟩
theorem rinv_of {pre : Bool} {a : ByteArray} {p : Nat} {q : Two} {w0 w : World} {ts : List Tgt} (hp : MayP pre p) (h : RCS pre a p q w0 8 w ts) : q.d < w.heap.size ∧ ∃ H C, RInv pre a p q w0 H C [] w := by
  obtain ⟨⟨t0, e0, b0⟩, ⟨t1, e1, b1⟩⟩ := h.at_
  obtain ⟨s0, s3⟩ := specR8_head p pre
  have o0 := h.lies.ok 0 t0 _ e0 s0
  obtain ⟨_, _, cs, fr, g0, rfl, _, gn, gl, gc⟩ := o0
  obtain ⟨cp, a0, r0⟩ := gc 0 _ rfl
  obtain ⟨cl, a1, r1⟩ := gc 1 _ rfl
  obtain ⟨u1, f1, rfl⟩ := ptr_vr r0
  have f1 : ts[1]? = some u1 := f1
  rw [e1] at f1; cases f1
  obtain ⟨t3, cap, f3, rfl, k3⟩ := slice_vr r1
  have f3 : ts[3]? = some t3 := f3
  have o3 := h.lies.ok 3 t3 _ f3 s3
  obtain ⟨_, es3, c3, fr3, g3, rfl, _, gn3, gl3, gc3⟩ := o3
  have hes3 : t3.es = 5 := es3
  have hlen5 := lCells8_len pre
  refine ⟨by rw [← b0]; exact lt_of_heap g0, ?_⟩
  have hj : ∀ j, ∃ c : Cols, j < 8 → (∀ (o : Nat) (v : Value), (RTab.cells ⟨tname j, c, tkey j, .slice none 0 0⟩)[o]? = some v → c3[(offOf pre + j) * 5 + o]? = some v) ∧ ColAt w c j := by
    intro j
    by_cases hj : j < 8
    · obtain ⟨x0, x1, x2, x3, x4, x5⟩ := specR8_at p pre j hj
      obtain ⟨y0, z0, v0⟩ := gc3 _ _ x0
      obtain ⟨y1, z1, v1⟩ := gc3 _ _ x1
      obtain ⟨y2, z2, v2⟩ := gc3 _ _ x2
      obtain ⟨y3, z3, v3⟩ := gc3 _ _ x3
      obtain ⟨y4, z4, v4⟩ := gc3 _ _ x4
      obtain rfl := str_vr v0
      obtain ⟨tc, cc, fc, rfl, kc⟩ := slice_vr v1
      obtain rfl := int_vr v2
      obtain rfl := snil_vr v3
      obtain rfl := snil_vr v4
      have fc : ts[5 + 2 * (offOf pre + j)]? = some tc := fc
      have ok := h.lies.ok _ tc _ fc x5
      refine ⟨⟨some ⟨tc.blk, 0, none⟩, lenOf j, cc⟩, fun _ => ⟨fun o v ho => ?_, tc, rfl, rfl, kc, fun φ => cells_any ok (colCells_plain _) φ⟩⟩
      match o with
      | 0 => cases ho; exact z0
      | 1 => cases ho; exact z1
      | 2 => cases ho; exact z2
      | 3 => cases ho; exact z3
      | 4 => cases ho; exact z4
      | o + 5 => simp [RTab.cells] at ho
    · exact ⟨⟨none, 0, 0⟩, fun h => absurd h hj⟩
  obtain ⟨C, hC⟩ := Classical.axiomOfChoice hj
  have hH : ∃ (H : List (ByteArray × Cols × Nat)) (lh : List RTab), RAhead pre a H ∧ lh.map RTab.hd = H ∧ (∀ t ∈ lh, t.v = .slice none 0 0) ∧ ∀ (o : Nat) (v : Value), (rcells lh)[o]? = some v → c3[o]? = some v := by
    cases pre with
    | false => exact ⟨[], [], .inl ⟨rfl, rfl⟩, rfl, (fun t ht => by cases ht), fun o v h => by simp [rcells] at h⟩
    | true =>
      obtain ⟨x0, x1, x2, x3, x4⟩ := specR8_ahead
      obtain ⟨y0, z0, v0⟩ := gc3 _ _ x0
      obtain ⟨y1, z1, v1⟩ := gc3 _ _ x1
      obtain ⟨y2, z2, v2⟩ := gc3 _ _ x2
      obtain ⟨y3, z3, v3⟩ := gc3 _ _ x3
      obtain ⟨y4, z4, v4⟩ := gc3 _ _ x4
      obtain rfl := atom_vr v0
      obtain ⟨tc, cc, fc, rfl, kc⟩ := slice_vr v1
      obtain rfl := int_vr v2
      obtain rfl := snil_vr v3
      obtain rfl := snil_vr v4
      refine ⟨[(a, ⟨some ⟨tc.blk, 0, none⟩, 1, cc⟩, 1)], [⟨a, ⟨some ⟨tc.blk, 0, none⟩, 1, cc⟩, 1, .slice none 0 0⟩], .inr ⟨rfl, _, rfl⟩, rfl, fun t ht => ?_, fun o v ho => ?_⟩
      · simp at ht; subst ht; rfl
      · match o with
        | 0 => cases ho; exact z0
        | 1 => cases ho; exact z1
        | 2 => cases ho; exact z2
        | 3 => cases ho; exact z3
        | 4 => cases ho; exact z4
        | o + 5 => simp [rcells, RTab.cells] at ho
  obtain ⟨H, lh, hA, hlh, hlv, hlc⟩ := hH
  have hlhl : lh.length = offOf pre := by rw [← hA.len, ← hlh, List.length_map]
  let l8 : List RTab := (List.range 8).map fun j => ⟨tname j, C j, tkey j, .slice none 0 0⟩
  have hlenl : (lh ++ l8).length = lenP pre := by simp [l8, hlhl, lenP]
  have hv : ∀ t ∈ lh ++ l8, t.v = .slice none 0 0 := by
    intro t ht
    rcases List.mem_append.1 ht with ht | ht
    · exact hlv t ht
    · obtain ⟨j, _, rfl⟩ := List.mem_map.1 ht; rfl
  have hcells : ∀ (o : Nat) (v : Value), (rcells (lh ++ l8))[o]? = some v → c3[o]? = some v := by
    intro o v ho
    obtain ⟨t, ht, hto⟩ := rcells_get ho
    by_cases hlt : o / 5 < lh.length
    · rw [List.getElem?_append_left hlt] at ht
      have := rcells_at lh (o / 5) (o % 5) t v ht hto
      rw [show o / 5 * 5 + o % 5 = o by omega] at this
      exact hlc o v this
    · rw [List.getElem?_append_right (by omega)] at ht
      have hj8 : o / 5 - lh.length < 8 := by have := (List.getElem?_eq_some_iff.1 ht).1; simpa [l8] using this
      simp only [l8, List.getElem?_map, List.getElem?_range hj8, Option.map_some, Option.some.injEq] at ht
      subst ht
      have := (hC _ hj8).1 (o % 5) v hto
      rw [← hlhl, show (lh.length + (o / 5 - lh.length)) * 5 + o % 5 = o by omega] at this
      exact this
  refine ⟨H, C, ⟨lh ++ l8, ?_, ⟨.slice (some ⟨t3.blk, 0, none⟩) (lenP pre) cap, ⟨cs, by rw [← b0]; exact g0, by rw [← b1]; exact a0, a1⟩, ?_⟩, ?_⟩, hA, fun j hj => (hC j (by omega)).2, ?_, h.keep⟩
  · rw [List.map_append, hlh]
    show H ++ _ = H ++ _
    congr 1
  · rw [hlenl]
    refine ⟨t3.blk, cap, c3, rfl, g3, ?_, ?_⟩
    · rw [hes3] at k3
      omega
    · exact cells_take (by rw [rcells_length, hlenl]) hcells
  · intro i t hi
    have hm := List.mem_of_getElem? hi
    rw [hv t hm]
    have hR : Rof (offOf pre) [] i = [] := by
      unfold Rof
      split
      · rfl
      · rfl
    rw [hR]
    exact ⟨⟨[], World.ownsRow_nil _ _ _ _, fun i u l h => by simp at h⟩, fun _ => rfl⟩
  · obtain ⟨us, hU, hu⟩ := h.lies.sub (subC pre p hp)
    refine ⟨us, t1, hU, (hu 0 1 rfl).trans e1, b1, fun hm => ?_⟩
    obtain ⟨t, ht, hq⟩ := List.mem_map.1 hm
    obtain ⟨k, hk⟩ := List.getElem?_of_mem ht
    have hk2 : k < (idsC (tabsP pre 8)).length := by
      have := (List.getElem?_eq_some_iff.1 hk).1
      have hl := hU.len
      have e : (specC p (tabsP pre 8)).length = (idsC (tabsP pre 8)).length := by cases pre <;> rfl
      omega
    have h5 := hu k _ (List.getElem?_eq_getElem hk2)
    rw [hk] at h5
    have hid : (idsC (tabsP pre 8))[k] ≠ 0 := fun e => by
      have hmem := List.getElem_mem (l := idsC (tabsP pre 8)) hk2
      rw [e] at hmem
      revert hmem
      cases pre <;> decide
    have hne : (idsC (tabsP pre 8))[k] = 0 := by
      have l1 := (List.getElem?_eq_some_iff.1 h5.symm).1
      refine (List.getElem?_inj (l := ts.map (·.blk)) (by rw [List.length_map]; exact l1) h.lies.nodup).1 ?_
      rw [List.getElem?_map, List.getElem?_map, ← h5, e0]
      simp [hq, b0]
    exact hid hne
theorem RAhead.apart {pre : Bool} {a : ByteArray} {H : List (ByteArray × Cols × Nat)} (h : RAhead pre a H) (ha : Other a) : ∀ h ∈ H, ∀ j, j < 8 → (h.1.toList == (tname j).toList) = false := by
  intro e he j hj
  rcases h with ⟨_, rfl⟩ | ⟨_, c, rfl⟩
  · cases he
  · simp only [List.mem_cons, List.mem_nil_iff, or_false] at he
    subst he
    exact (Lib.bytes_beq_false_iff _ _).2 (ha j hj)
theorem rload_in (pre : Bool) (a : ByteArray) (p : Nat) (hp : MayP pre p) (ha : RPlace a p) (ho : Other a) (q : Two) (w0 w : World) (W D K I : Nat) (hW : 1 ≤ W ∧ W ≤ 5) (hD : 1 ≤ D ∧ D ≤ 5) (hK : 1 ≤ K ∧ K ≤ 50) (hI : 1 ≤ I ∧ I ≤ 50) (h : RCw pre a p q w0 0 w) :
    Calls Tryz.prog 12 #[.pointer (some ⟨q.d, 0, none⟩), .int .i64 W, .int .i64 D, .int .i64 K, .int .i64 I] w fun e w' => e = .returned (.int .i64 0) ∧ ∃ H C, RInv pre a p q w0 H C (puts W D K I) w' := by
  refine (rload_walk (σ := { s : List (ByteArray × Cols × Nat) × (Nat → Cols) // RAhead pre a s.1 }) (fun s => JC s.1.2) (fun s w w' h k => JC.keep h k) q.d (.pointer (some ⟨q.c, 0, none⟩)) (.pointer (some ⟨q.c, 0, none⟩)) (RCw pre a p q w0) (RTw pre a p q w0) (rload_head pre a p hp ha q w0) (fun s => heads s.1.1 s.1.2) (offOf pre) W D K I w hW hD hK hI h ?_).mono ?_
  · rintro w8 ⟨ts, h8⟩
    obtain ⟨hd, H, C, hR⟩ := rinv_of hp h8
    refine ⟨hd, ⟨(H, C), hR.ahead⟩, ?_, hR.cols, fun P y S hS => ?_, hR.dat⟩
    · show (heads H C).length ≤ 100
      rw [heads_len, hR.ahead.len]
      cases pre <;> decide
    · have := rnext_puts (pre := H) (C := C) hW.2 hD.2 hK.2 hI.2 (hR.ahead.apart ho) hS
      rw [hR.ahead.len] at this
      exact this
  · rintro e w' ⟨rfl, w8, ⟨⟨H, C⟩, hs⟩, ⟨ts, h8⟩, hB, hJ⟩
    refine ⟨rfl, H, C, hB.dat, hs, hJ, ?_, h8.keep.trans (KeepL.of_grown hB.bel (by simp [Two.l]))⟩
    obtain ⟨_, H2, C2, hR⟩ := rinv_of hp h8
    obtain ⟨us, t0, hU, e0, b0, hn⟩ := hR.cat
    exact ⟨us, t0, hU.keep hB.bel.size (fun k t ht => hB.bel.block _ (hU.lt k t ht) (fun e => hn (List.mem_map.2 ⟨t, List.mem_of_getElem? ht, (Option.some.inj e)⟩))), e0, b0, hn⟩
end Go.Proofs.YtbjickdjkgefcaaGreatDoor
end
end
section
open Go Go.RowKit Go.Proofs.YtbjickdjkgefcaaGreatDoor.Vai
namespace Go.Proofs.YtbjickdjkgefcaaGreatDoor
set_option linter.unusedVariables false
set_option linter.unusedSimpArgs false
set_option maxRecDepth 100000
def nmB (a : ByteArray) (j : Nat) : ByteArray := if j = 8 then a else tname j
theorem nameV_vr {φ : Emb} {a : ByteArray} (hs : φ.sig.str 0 = a) {j : Nat} (hj : j ≤ 8) {v : Value} (h : VR φ (nameV j) v) : v = .string (nmB a j) := by
  unfold nmB
  by_cases e : j = 8
  · subst e
    rw [if_pos rfl, ← hs]
    exact ahead_vr _ h
  · rw [if_neg e]
    exact name_vr (by omega) _ h
theorem ents_keys {φ : Emb} {a : ByteArray} (hs : φ.sig.str 0 = a) : ∀ (l : List Nat) (b n : Nat) (m : List MapEntry), (∀ j ∈ l, j ≤ 8) → EntsR φ (entsS l b n) m → m.map (·.key) = l.map (fun j => Value.string (nmB a j)) ∧ m.map (·.born) = List.range' n l.length := by
  intro l
  induction l with
  | nil => intro b n m _ h; cases h; exact ⟨rfl, rfl⟩
  | cons j l ih =>
    intro b n m hl h
    cases h with
    | cons x e _ m hk hv hb h =>
      obtain ⟨h1, h2⟩ := ih _ _ m (fun j hj => hl j (List.mem_cons_of_mem _ hj)) h
      refine ⟨?_, ?_⟩
      · rw [List.map_cons, List.map_cons, h1, nameV_vr hs (hl j (List.mem_cons_self ..)) hk]
      · rw [List.map_cons, h2, ← hb]
        rfl
theorem tabs_le (pre : Bool) : ∀ j ∈ tabsP pre 8, j ≤ 8 := by cases pre <;> decide
theorem sortT_f : sortT 0 (tabsP false 8) = sorted8 := by kernel_rfl
theorem sortT_t : allUp (fun p => decide (sortT p (tabsP true 8) = sorted8.take p ++ 8 :: sorted8.drop p)) 9 = true := by kernel_rfl
theorem sortT_perm_f : ((sortT 0 (tabsP false 8)).isPerm (tabsP false 8)) = true := by kernel_rfl
theorem sortT_perm_t : allUp (fun p => (sortT p (tabsP true 8)).isPerm (tabsP true 8)) 9 = true := by kernel_rfl
theorem sortT_perm (pre : Bool) (p : Nat) (hp : MayP pre p) : (sortT p (tabsP pre 8)).Perm (tabsP pre 8) := by
  rcases hp with ⟨rfl, rfl⟩ | ⟨rfl, hp⟩
  · exact List.isPerm_iff.1 sortT_perm_f
  · exact List.isPerm_iff.1 (allUp_at 9 sortT_perm_t p (by omega))
theorem sortT_eq {p : Nat} (hp : p ≤ 8) : sortT p (tabsP true 8) = sorted8.take p ++ 8 :: sorted8.drop p := by
  have := allUp_at 9 sortT_t p (by omega)
  exact of_decide_eq_true this
def bB (a : ByteArray) (j : Nat) : List UInt8 := (nmB a j).data.toList
def ltL (x y : List UInt8) : Prop := x < y
theorem names8_lt : ∀ i j, i < j → j < 8 → ∃ x y, sorted8[i]? = some x ∧ sorted8[j]? = some y ∧ Op.bytesLess (tname x).data.toList (tname y).data.toList = true := by
  have h : allUp (fun j => allUp (fun i => match sorted8[i]?, sorted8[j]? with | some x, some y => Op.bytesLess (tname x).data.toList (tname y).data.toList | _, _ => false) j) 8 = true := by kernel_rfl
  intro i j hij hj
  have := allUp_at j (allUp_at 8 h j hj) i hij
  split at this
  · rename_i x y e1 e2; exact ⟨x, y, e1, e2, this⟩
  · cases this
theorem le_of_bl {x y : List UInt8} (h : Op.bytesLess x y = true) : x < y := by
  rw [bytesLess_eq] at h
  exact of_decide_eq_true h
theorem insAt_parts (p : Nat) (hp : p ≤ 8) : (insAt p).take p = sorted8.take p ∧ (insAt p).drop (p + 1) = sorted8.drop p := by
  match p, hp with
  | 0, _ => exact ⟨rfl, rfl⟩
  | 1, _ => exact ⟨rfl, rfl⟩
  | 2, _ => exact ⟨rfl, rfl⟩
  | 3, _ => exact ⟨rfl, rfl⟩
  | 4, _ => exact ⟨rfl, rfl⟩
  | 5, _ => exact ⟨rfl, rfl⟩
  | 6, _ => exact ⟨rfl, rfl⟩
  | 7, _ => exact ⟨rfl, rfl⟩
  | 8, _ => exact ⟨rfl, rfl⟩
theorem place_below {a : ByteArray} {p : Nat} (hp : p ≤ 8) (h : RPlace a p) : ∀ j ∈ sorted8.take p, (tname j).data.toList < a.data.toList := by
  intro j hj
  have := h (.sgt 0 (tname j) true) (by
    unfold factsR
    rw [(insAt_parts p hp).1]
    refine List.mem_append_left _ (List.mem_append_left _ (List.mem_append_left _ (List.mem_append_right _ (List.mem_map.2 ⟨j, hj, rfl⟩)))))
  have h2 : Op.bytesLess (tname j).toList a.toList = true := this
  rw [ByteArray.toList_eq, ByteArray.toList_eq] at h2
  exact le_of_bl h2
theorem place_above {a : ByteArray} {p : Nat} (hp : p ≤ 8) (h : RPlace a p) : ∀ j ∈ sorted8.drop p, a.data.toList < (tname j).data.toList := by
  intro j hj
  have := h (.slt 0 (tname j) true) (by
    unfold factsR
    rw [(insAt_parts p hp).2]
    refine List.mem_append_left _ (List.mem_append_right _ (List.mem_map.2 ⟨j, hj, rfl⟩)))
  have h2 : Op.bytesLess a.toList (tname j).toList = true := this
  rw [ByteArray.toList_eq, ByteArray.toList_eq] at h2
  exact le_of_bl h2
theorem sorted8_lt : ∀ j ∈ sorted8, j < 8 := by decide
theorem bB_lt {a : ByteArray} {j : Nat} (h : j < 8) : bB a j = (tname j).data.toList := by
  unfold bB nmB
  rw [if_neg (by omega)]
theorem bB_8 {a : ByteArray} : bB a 8 = a.data.toList := rfl
theorem sorted8_pw (a : ByteArray) : sorted8.Pairwise (fun x y => bB a x < bB a y) := by
  rw [List.pairwise_iff_getElem]
  intro i j hi hj hij
  have hj8 : j < 8 := hj
  obtain ⟨x, y, e1, e2, h⟩ := names8_lt i j hij hj8
  rw [List.getElem?_eq_getElem hi] at e1
  rw [List.getElem?_eq_getElem hj] at e2
  cases e1; cases e2
  rw [bB_lt (sorted8_lt _ (List.getElem_mem _)), bB_lt (sorted8_lt _ (List.getElem_mem _))]
  exact le_of_bl h
theorem sortT_pw (pre : Bool) (a : ByteArray) (p : Nat) (hp : MayP pre p) (h : RPlace a p) : (sortT p (tabsP pre 8)).Pairwise (fun x y => bB a x < bB a y) := by
  rcases hp with ⟨rfl, rfl⟩ | ⟨rfl, hp⟩
  · rw [sortT_f]; exact sorted8_pw a
  · rw [sortT_eq hp]
    have h8 := sorted8_pw a
    rw [← List.take_append_drop p sorted8, List.pairwise_append] at h8
    obtain ⟨h1, h2, h3⟩ := h8
    rw [List.pairwise_append, List.pairwise_cons]
    refine ⟨h1, ⟨fun y hy => ?_, h2⟩, fun x hx y hy => ?_⟩
    · rw [bB_8, bB_lt (sorted8_lt y (List.mem_of_mem_drop hy))]
      exact place_above hp h y hy
    · rcases List.mem_cons.1 hy with rfl | hy
      · rw [bB_8, bB_lt (sorted8_lt x (List.mem_of_mem_take hx))]
        exact place_below hp h x hx
      · exact h3 x hx y hy
theorem merged (pre : Bool) (a : ByteArray) (p : Nat) (hp : MayP pre p) (h : RPlace a p) {ss : List (List UInt8)} (hs : ss.Perm ((tabsP pre 8).map (bB a))) : ss.mergeSort (fun x y => decide (x ≤ y)) = (sortT p (tabsP pre 8)).map (bB a) := by
  have h1 : ss.Perm ((sortT p (tabsP pre 8)).map (bB a)) := hs.trans ((sortT_perm pre p hp).symm.map _)
  have h2 : ss.mergeSort (fun x y => decide (x ≤ y)) = ((sortT p (tabsP pre 8)).map (bB a)).mergeSort (fun x y => decide (x ≤ y)) := mergeSort_of_perm h1
  rw [h2]
  refine List.mergeSort_of_pairwise ?_
  rw [List.pairwise_map]
  exact (sortT_pw pre a p hp h).imp fun {x y} hxy => decide_eq_true (List.le_of_lt hxy)
end Go.Proofs.YtbjickdjkgefcaaGreatDoor
end
section
open Go Go.RowKit Go.Proofs.YtbjickdjkgefcaaGreatDoor.Vai Go.Maps Go.Sort
namespace Go.Proofs.YtbjickdjkgefcaaGreatDoor
set_option linter.unusedVariables false
set_option linter.unusedSimpArgs false
set_option maxRecDepth 100000
def RD : Value → Option (DataW Unit × List MemPlace) := fun _ => some (.nil, [])
theorem rg_str {x : MapEntry} {s : ByteArray} (h : x.key = .string s) (hs : s.size ≤ maxLen) : WideElems.rg Tryz.prog 9 RD x = (.string s.data.toList, .nil) := by
  unfold WideElems.rg WideElems.rd
  rw [h]
  simp [Go.keyOf, Go.mapKey, Tryz.underlying9, hs, RD]
theorem rd_str {x : MapEntry} {s : ByteArray} (h : x.key = .string s) (hs : s.size ≤ maxLen) : WideElems.rd Tryz.prog 9 RD x = some (.string s.data.toList, .nil) := by
  unfold WideElems.rd
  rw [h]
  simp [Go.keyOf, Go.mapKey, Tryz.underlying9, hs, RD]
theorem names_of_map (c s : Nat) (w : World) (m : List MapEntry) (N : List ByteArray) (T : List (List UInt8)) (hc : w.cell? ⟨c, 0, none⟩ = some (.map (some s))) (hs : w.heap[s]? = some (.map ⟨m⟩ m.length)) (hk : m.map (·.key) = N.map Value.string) (hb : m.map (·.born) = List.range' 0 m.length) (hl : ∀ x ∈ N, x.size ≤ maxLen) (hnd : N.Nodup) (hn : N.length ≤ 100)
    (hT : ∀ ss : List (List UInt8), ss.Perm (N.map fun x => x.data.toList) → ss.mergeSort (fun x y => decide (x ≤ y)) = T) :
    Calls Tryz.prog 57 #[.pointer (some ⟨c, 0, none⟩)] w fun e w' => ∃ v, e = .returned v ∧ w'.ownsRow 0 9 1 v T.length (T.map fun x => Value.string ⟨x.toArray⟩) ∧ Below w.heap.size w w' := by
  have hlen : m.length = N.length := by have := congrArg List.length hk; simpa using this
  have hkey : ∀ x ∈ m, ∃ y ∈ N, x.key = .string y := by
    intro x hx
    have : x.key ∈ N.map Value.string := by rw [← hk]; exact List.mem_map.2 ⟨x, hx, rfl⟩
    obtain ⟨y, hy, e⟩ := List.mem_map.1 this
    exact ⟨y, hy, e.symm⟩
  have hF : WideElems.Fit Tryz.prog 9 RD ⟨m⟩ m.length := by
    refine ⟨by show m.length ≤ maxLen; simp only [maxLen]; omega, ⟨fun x hx => ?_, ?_, ?_⟩, fun x hx => ?_⟩
    · have : x.born ∈ List.range' 0 m.length := by rw [← hb]; exact List.mem_map.2 ⟨x, hx, rfl⟩
      have := List.mem_range'.1 this
      obtain ⟨i, h1, h2⟩ := this
      omega
    · show (m.map (·.born)).Nodup
      rw [hb]; exact List.nodup_range'
    · show (m.map (·.key)).Nodup
      rw [hk]
      rw [List.nodup_iff_pairwise_ne, List.pairwise_map]
      exact hnd.imp fun {a b} h e => h (by injection e)
    · obtain ⟨y, hy, e⟩ := hkey x hx
      exact ⟨_, rd_str e (hl y hy)⟩
  have hown : w.ownsMap Tryz.prog 9 RD s m.length (.map ((m.map (WideElems.rg Tryz.prog 9 RD)).foldr DataW.insert [])) := ⟨⟨m⟩, m.length, hs, hF, Nat.le_refl _, rfl⟩
  have hperm : (strKeys (.map ((m.map (WideElems.rg Tryz.prog 9 RD)).foldr DataW.insert []))).Perm (N.map fun x => x.data.toList) := by
    show (((m.map (WideElems.rg Tryz.prog 9 RD)).foldr DataW.insert []).map fun p => Go.strOf p.1).Perm _
    refine ((WideShapes.sorted_perm _).map _).trans ?_
    have e : (m.map (WideElems.rg Tryz.prog 9 RD)).map (fun p => Go.strOf p.1) = N.map fun x => x.data.toList := by
      apply List.ext_getElem?
      intro i
      have hi := congrArg (·[i]?) hk
      simp only [List.getElem?_map] at hi ⊢
      cases hm : m[i]? with
      | none => rw [hm] at hi; cases hN : N[i]? with
        | none => rfl
        | some y => rw [hN] at hi; cases hi
      | some x =>
        rw [hm] at hi
        cases hN : N[i]? with
        | none => rw [hN] at hi; cases hi
        | some y =>
          rw [hN] at hi
          have hxy : x.key = .string y := by simpa using hi
          simp [rg_str hxy (hl y (List.mem_of_getElem? hN)), Go.strOf]
    rw [e]
  have hsz : Maps.size (.map ((m.map (WideElems.rg Tryz.prog 9 RD)).foldr DataW.insert [])) = m.length := by
    show ((m.map (WideElems.rg Tryz.prog 9 RD)).foldr DataW.insert []).length = m.length
    rw [(WideShapes.sorted_perm _).length_eq, List.length_map]
  refine (sorted_keys c s m.length _ RD w hc hown (by rw [hsz]; simp only [maxLen]; omega) (by rw [hsz]; omega)).mono ?_
  rintro e w' ⟨v, ss, rfl, h1, h2, h3, h4⟩
  have h5 := hT ss (h1.trans hperm)
  have hl2 : ss.length = T.length := by rw [← h5, List.length_mergeSort]
  rw [h5, hl2] at h2
  exact ⟨v, rfl, ownsRow_base h2 (Nat.zero_le _), h4⟩
end Go.Proofs.YtbjickdjkgefcaaGreatDoor
end
section
open Go Go.RowKit Go.Proofs.YtbjickdjkgefcaaGreatDoor.Vai
namespace Go.Proofs.YtbjickdjkgefcaaGreatDoor
set_option linter.unusedVariables false
set_option linter.unusedSimpArgs false
set_option maxRecDepth 20000
theorem sameTexts_any (w : World) (g1 c1 g2 c2 n : Nat) (N : Nat → ByteArray) (h1 : ∀ i, i < n → w.cell? ⟨g1, i, none⟩ = some (.string (N i))) (h2 : ∀ i, i < n → w.cell? ⟨g2, i, none⟩ = some (.string (N i))) (hn : n ≤ 1000) :
    Calls Tryz.prog 35 #[.slice (some ⟨g1, 0, none⟩) n c1, .slice (some ⟨g2, 0, none⟩) n c2] w fun e w' => e = .returned (.bool true) ∧ Below w.heap.size w w' := by
  have H1 := Lib.hid h1
  have H2 := Lib.hid h2
  clear h1 h2
  go_enter Tryz.func35, Tryz.ntmps35
  go_wp2_with fail
  go_loopw [5] (fun i wr => ∃ k : Nat, i = .int .i64 k ∧ k ≤ n ∧ Below w.heap.size w wr) (fun i _ => n - (intOf i).toNat)
  case atStart => exact ⟨0, rfl, Nat.zero_le _, Below.refl _ _⟩
  case round =>
    obtain ⟨k, rfl, hk, hb⟩ := hrel
    by_cases hlt : k < n
    · have a := H1.out k hlt
      have b := H2.out k hlt
      have a0 := (hb.cell (p := ⟨g1, k, none⟩) (cell_lt a)).trans a
      have b0 := (hb.cell (p := ⟨g2, k, none⟩) (cell_lt b)).trans b
      have s1 := hb.size
      have HB := Lib.hid hb
      obtain ⟨nm, hnm⟩ : ∃ x, x = N k := ⟨_, rfl⟩
      rw [← hnm] at a0 b0
      have hself : (nm.toList == nm.toList) = true := by simp
      clear a b hb hnm
      go_wp2_with fail
      go_region_held3 (fun w' => w'.cell? ⟨g1, k, none⟩ = some (.string nm) ∧ w'.cell? ⟨g2, k, none⟩ = some (.string nm))
        (first
          | exact ⟨a0, b0⟩)
        (fail)
      have hbw : Below w.heap.size w wr.drew := HB.out.drew
      clear a0 b0
      go_wp2_with fail
      exact ⟨⟨k + 1, by go_num, hlt, hbw⟩, by simp [intOf]; omega⟩
    · obtain rfl : k = n := by omega
      go_wp2_with fail
      go_ret
      exact ⟨rfl, hb⟩
end Go.Proofs.YtbjickdjkgefcaaGreatDoor
end
section
open Go Go.RowKit Go.Proofs.YtbjickdjkgefcaaGreatDoor.Vai Go.Maps Go.Sort
namespace Go.Proofs.YtbjickdjkgefcaaGreatDoor
set_option linter.unusedVariables false
set_option linter.unusedSimpArgs false
set_option maxRecDepth 100000
/-- The i-th name in order. -/
def nameAt (a : ByteArray) (p : Nat) (pre : Bool) (i : Nat) : ByteArray := nmB a ((sortT p (tabsP pre 8))[i]?.getD 0)
theorem sortT_len (pre : Bool) (p : Nat) (hp : MayP pre p) : (sortT p (tabsP pre 8)).length = lenP pre := by
  rw [(sortT_perm pre p hp).length_eq]
  cases pre <;> rfl
/-- A slice that tells the names. -/
def NamesAt (a : ByteArray) (p : Nat) (pre : Bool) (w : World) (v : Value) : Prop := ∃ g c, v = .slice (some ⟨g, 0, none⟩) (lenP pre) c ∧ ∀ i, i < lenP pre → w.cell? ⟨g, i, none⟩ = some (.string (nameAt a p pre i))
theorem NamesAt.below {a : ByteArray} {p : Nat} {pre : Bool} {w w' : World} {v : Value} (h : NamesAt a p pre w v) (hb : Below w.heap.size w w') : NamesAt a p pre w' v := by
  obtain ⟨g, c, h1, h2⟩ := h
  exact ⟨g, c, h1, fun i hi => (hb.cell (p := ⟨g, i, none⟩) (cell_lt (h2 i hi))).trans (h2 i hi)⟩
theorem tname_small : ∀ j, (tname j).size ≤ 32 := by
  intro j
  unfold tname
  split <;> decide
theorem nmB_small {a : ByteArray} (h : a.size ≤ 32) (j : Nat) : (nmB a j).size ≤ 32 := by
  unfold nmB
  split
  · exact h
  · exact tname_small j
theorem pnames_any (pre : Bool) (a : ByteArray) (p : Nat) (q : Four) (hp : MayP pre p) (hr : RPlace a p) (ha : a.size ≤ 32) (w : World) (h : CatW pre a q w) :
    Calls Tryz.prog 24 #[.pointer (some ⟨q.d, 0, none⟩)] w fun e w' => ∃ pv nv cv, e = .returned (.slice pv nv cv) ∧ NamesAt a p pre w' (.slice pv nv cv) ∧ Below w.heap.size w w' := by
  obtain ⟨us, t0, t1, t2, hU, e0, b0, e1, b1, e2, b2, _⟩ := h
  obtain ⟨cp, x0, y0⟩ := spec_cell (o := 0) hU e0 rfl rfl
  obtain ⟨u1, f1, rfl⟩ := ptr_vr y0
  have f1 : us[1]? = some u1 := f1
  rw [e1] at f1; cases f1
  obtain ⟨cm, x1, y1⟩ := spec_cell (o := 0) hU e1 rfl rfl
  obtain ⟨_, o, ho, hR⟩ := hU.ok 2 t2 _ e2 rfl
  have hcm : cm = .map (some t2.blk) := by
    cases y1 with
    | map r t ht => have ht : us[2]? = some t := ht; rw [e2] at ht; cases ht; rfl
  subst hcm
  rw [b0, b1] at x0
  rw [b1, b2] at x1
  rw [b2] at ho
  cases hR with
  | map es cs clk hE =>
    obtain ⟨k1, k2⟩ := ents_keys (a := a) rfl _ _ _ _ (tabs_le pre) hE
    have hlen : cs.toList.length = (tabsP pre 8).length := by have := congrArg List.length k1; simpa using this
    have hl8 : (tabsP pre 8).length = lenP pre := by cases pre <;> rfl
    have hTlen : ((sortT p (tabsP pre 8)).map (bB a)).length = lenP pre := by rw [List.length_map, sortT_len pre p hp]
    have hnd : ((tabsP pre 8).map (nmB a)).Nodup := by
      have h1 : ((sortT p (tabsP pre 8)).map (nmB a)).Nodup := by
        rw [List.nodup_iff_pairwise_ne, List.pairwise_map]
        refine (sortT_pw pre a p hp hr).imp fun {x y} hxy e => ?_
        unfold bB at hxy
        rw [e] at hxy
        exact List.lt_irrefl _ hxy
      exact ((sortT_perm pre p hp).map _).nodup_iff.1 h1
    have KN := names_of_map q.c q.s w cs.toList ((tabsP pre 8).map (nmB a)) ((sortT p (tabsP pre 8)).map (bB a)) x1 (by rw [ho, hlen]) (by rw [k1, List.map_map]; rfl) (by rw [k2, hlen]) (fun x hx => by
      obtain ⟨j, _, rfl⟩ := List.mem_map.1 hx
      have := nmB_small ha j
      simp only [maxLen]; omega) hnd (by rw [List.length_map, hl8]; cases pre <;> decide) (fun ss hss => merged pre a p hp hr (by rw [List.map_map] at hss; exact hss))
    rw [hTlen] at KN
    have HT := Lib.hid (And.intro hTlen (sortT_len pre p hp))
    obtain ⟨T, hT⟩ : ∃ T, T = (sortT p (tabsP pre 8)).map (bB a) := ⟨_, rfl⟩
    rw [← hT] at KN
    have HTT := Lib.hid hT
    clear hE k1 k2 hlen hl8 hTlen hnd ho y0 y1 x1 hT hU e0 e1 e2
    go_enter Tryz.func24, Tryz.ntmps24
    go_wp2_with (first
      | (go_at_call 57; refine KN.mono ?_; rintro e w2 ⟨v2, rfl, hv2, hb2⟩; obtain ⟨p2, n2, c2, rfl⟩ := ownsRow_slice hv2))
    go_ret
    refine ⟨_, _, _, rfl, ?_, hb2⟩
    have hpos : 0 < lenP pre := by cases pre <;> decide
    obtain ⟨g, c, e1, _, _, _, _, hread⟩ := ownsRow_read hv2 hpos
    refine ⟨g, c, e1, fun i hi => hread i _ ?_⟩
    rw [HTT.out, List.getElem?_map, List.getElem?_map]
    have hi2 : i < (sortT p (tabsP pre 8)).length := by rw [HT.out.2]; exact hi
    unfold nameAt
    rw [List.getElem?_eq_getElem hi2]
    rfl
end Go.Proofs.YtbjickdjkgefcaaGreatDoor
end
section
open Go Go.RowKit Go.Proofs.YtbjickdjkgefcaaGreatDoor.Vai
noncomputable section
namespace Go.Proofs.YtbjickdjkgefcaaGreatDoor
set_option linter.unusedVariables false
set_option linter.unusedSimpArgs false
set_option maxRecDepth 100000
def nrRun (p : Nat) (pre : Bool) : Option (Value × St) := aFunK Tryz.prog tb0 kn0 1000 100 (.func 36) [.pointer (some ⟨0, 0, none⟩)] (bSt (specC p (tabsP pre 8)) (factsR p))
def nmCells (p : Nat) (pre : Bool) : List Value := (sortT p (tabsP pre 8)).map nameV
theorem nr_f : runCheck (nrRun 0 false) (specC 0 (tabsP false 8)).length (isRow 33 8) [.cells 9 1 (nmCells 0 false) true] [33] noTau [] = true := by kernel_rfl
theorem nr_t : allUp (fun p => runCheck (nrRun p true) (specC p (tabsP true 8)).length (isRow 37 9) [.cells 9 1 (nmCells p true) true] [37] noTau []) 9 = true := by kernel_rfl
theorem nr_all (pre : Bool) (p : Nat) (hp : MayP pre p) : runCheck (nrRun p pre) (specC p (tabsP pre 8)).length (isRow (33 + 4 * offOf pre) (lenP pre)) [.cells 9 1 (nmCells p pre) true] [33 + 4 * offOf pre] noTau [] = true := by
  rcases hp with ⟨rfl, rfl⟩ | ⟨rfl, hp⟩
  · exact nr_f
  · exact allUp_at 9 nr_t p (by omega)
theorem specC_locked (p : Nat) (l : List Nat) : ∀ (k : Nat) (sp : BSpec), (specC p l)[k]? = some sp → sp.owned = false := by
  intro k sp h
  match k with
  | 0 => cases h; rfl
  | 1 => cases h; rfl
  | k + 2 =>
    have hm : sp ∈ colBs l := List.mem_of_getElem? (i := k) (by simpa [specC] using h)
    have : ∀ (l : List Nat), ∀ s ∈ colBs l, s.owned = false := by
      intro l
      induction l with
      | nil => intro s h; simp [colBs] at h
      | cons y l ih =>
        intro s h
        simp only [colBs, List.mem_cons] at h
        rcases h with rfl | rfl | h
        · rfl
        · rfl
        · exact ih s h
    exact this l sp hm
theorem sortT_le (pre : Bool) (p : Nat) (hp : MayP pre p) : ∀ j ∈ sortT p (tabsP pre 8), j ≤ 8 := fun j hj => tabs_le pre j ((sortT_perm pre p hp).mem_iff.1 hj)
theorem rnames_any (pre : Bool) (a : ByteArray) (p : Nat) (q : Two) (hp : MayP pre p) (hr : RPlace a p) (w : World) (h : RCat pre a p q w) :
    Calls Tryz.prog 36 #[.pointer (some ⟨q.c, 0, none⟩)] w fun e w' => ∃ pv nv cv, e = .returned (.slice pv nv cv) ∧ NamesAt a p pre w' (.slice pv nv cv) ∧ Below w.heap.size w w' := by
  obtain ⟨us, t0, hU, e0, b0, _⟩ := h
  refine (run_lock kn0_ok hU hr (specC_locked p _) (ng := 0) (Nat.zero_le _) (fun g t hg => absurd hg (Nat.not_lt_zero _)) (cargs := [.pointer (some ⟨q.c, 0, none⟩)]) (.cons _ _ _ _ (by rw [← b0]; exact .ptr 0 0 t0 e0) .nil) (nr_all pre p hp)).mono ?_
  rintro e w' ⟨ψ, u, c, ts', rfl, hu, hvr, hrn, hs, hb⟩
  obtain rfl := veq_sound _ _ hu
  have hl : ts'.length = 1 := hrn.len
  have h4 : ts'[0]? = some (ts'[0]'(by omega)) := List.getElem?_eq_getElem _
  obtain ⟨q1, _⟩ := hrn.at_ 0 _ _ rfl h4
  obtain ⟨t, cc, h', rfl, _⟩ := slice_vr hvr
  rw [q1] at h'
  cases h'
  refine ⟨_, _, _, rfl, ⟨_, cc, rfl, fun i hi => ?_⟩, hb⟩
  have hi2 : i < (sortT p (tabsP pre 8)).length := by rw [sortT_len pre p hp]; exact hi
  obtain ⟨cv, x, y⟩ := spec_cell (o := i) hrn.lies h4 rfl (val := nameV ((sortT p (tabsP pre 8))[i])) (by
    unfold nmCells
    rw [List.getElem?_map, List.getElem?_eq_getElem hi2]; rfl)
  rw [x, nameV_vr (a := a) rfl (sortT_le pre p hp _ (List.getElem_mem _)) y]
  unfold nameAt
  rw [List.getElem?_eq_getElem hi2]
  rfl
end Go.Proofs.YtbjickdjkgefcaaGreatDoor
end
end
section
open Go Go.RowKit Go.Proofs.YtbjickdjkgefcaaGreatDoor.Vai
namespace Go.Proofs.YtbjickdjkgefcaaGreatDoor
set_option linter.unusedVariables false
set_option linter.unusedSimpArgs false
set_option maxRecDepth 20000
theorem rrows_any (w : World) (d : Nat) (x : Value) (l : List RTab) (R : Nat → List (List Int)) (q : Nat) (t : RTab) (hD : RDat w d x l R) (hq : l[q]? = some t) (hne : ∀ i x, i < q → l[i]? = some x → (x.nm.toList == t.nm.toList) = false) (hl : l.length ≤ 100) (hL : (R q).length ≤ 4000) (hr : ∀ r ∈ R q, r.length ≤ 100) :
    Calls Tryz.prog 38 #[.pointer (some ⟨d, 0, none⟩), .string t.nm] w fun e w' => ∃ v, e = .returned (.tuple #[v, .int .i64 0]) ∧ VRows w' v (R q) ∧ (R q = [] → v = .slice none 0 0) ∧ Below w.heap.size w w' := by
  have K1 := rplace_any w d l q t hq hne hl hD.data
  have hql : q < l.length := (List.getElem?_eq_some_iff.1 hq).1
  obtain ⟨g, gcap, hd1, hd2, hg, hgc, hcell⟩ := hD.data.read (by omega)
  obtain ⟨hv, hnil⟩ := hD.rows q t hq
  have c4 : w.cell? ⟨g, q * 5 + 4, none⟩ = some t.v := hcell q 4 t _ hq rfl
  have K2 := copyRows_any w t.v (R q) hv (by omega) hr hnil
  obtain ⟨p, n, c, e⟩ := VRows_slice hv
  rw [e] at K2 c4
  obtain ⟨L, hL⟩ : ∃ L, L = R q := ⟨_, rfl⟩
  rw [← hL] at K2 ⊢
  obtain ⟨nm, hnm⟩ : ∃ x, x = t.nm := ⟨_, rfl⟩
  rw [← hnm] at K1 ⊢
  clear hD hq hne hcell hv hnil hr hL hd2 e hnm
  go_enter Tryz.func38, Tryz.ntmps38
  go_wp2_with (first
    | (go_at_call 68; refine K1.mono ?_; rintro e w2 ⟨rfl, rfl⟩)
    | (go_at_call 69; refine K2.mono ?_; rintro e w3 ⟨v3, rfl, hv3, hn3, hb3⟩; obtain ⟨p3, n3, c3, rfl⟩ := VRows_slice hv3))
  exact bodyPost_ret (v := .tuple #[.slice p3 n3 c3, .int .i64 0]) (by simp [results, Tryz.results38, go_sem]) rfl ⟨_, rfl, hv3, hn3, hb3⟩
end Go.Proofs.YtbjickdjkgefcaaGreatDoor
end
section
open Go Go.RowKit Go.Proofs.YtbjickdjkgefcaaGreatDoor.Vai
namespace Go.Proofs.YtbjickdjkgefcaaGreatDoor
set_option linter.unusedVariables false
set_option linter.unusedSimpArgs false
set_option maxRecDepth 20000
theorem PInv.below {pre : Bool} {a : ByteArray} {q : Four} {w0 : World} {pm : List MapEntry} {C : Nat → Cols} {clk : Nat} {L : List (Nat × List Int)} {w w' : World} (h : PInv pre a q w0 pm C clk L w) (hb : Below w.heap.size w w') : PInv pre a q w0 pm C clk L w' := by
  have hk : KeepL q.own w w' := KeepL.of_below hb
  obtain ⟨E, hM, _⟩ := h.pd.tabs
  have hM : w.heap[q.m]? = _ := hM
  refine ⟨h.pd.keep (hb.block _ (cell_lt h.pd.ptr)) (hb.block _ (lt_of_heap hM)) (KT.below hb (Nat.le_refl _)), h.ahead, h.cols.keep (KT.below hb (Nat.le_refl _)), ?_, h.keep.trans hk, h.tabs.keepL hk h.own0⟩
  obtain ⟨us, t0, t1, t2, hU, e0, b0, e1, b1, e2, b2, hm⟩ := h.cat
  exact ⟨us, t0, t1, t2, hU.below hb, e0, b0, e1, b1, e2, b2, hm⟩
theorem RInv.below {pre : Bool} {a : ByteArray} {p : Nat} {q : Two} {w0 : World} {H : List (ByteArray × Cols × Nat)} {C : Nat → Cols} {L : List (Nat × List Int)} {w w' : World} (h : RInv pre a p q w0 H C L w) (hb : Below w.heap.size w w') : RInv pre a p q w0 H C L w' := by
  obtain ⟨l, h1, h2⟩ := h.dat
  obtain ⟨us, t0, hU, e0, b0, hm⟩ := h.cat
  exact ⟨⟨l, h1, h2.keep (KT.below hb (Nat.le_refl _) : KT [66, 87, 121, 71] _ _) (by simp) (by simp) (by simp) (by simp)⟩, h.ahead, h.cols.keep (KT.below hb (Nat.le_refl _)), ⟨us, t0, hU.below hb, e0, b0, hm⟩, h.keep.trans (KeepL.of_below hb)⟩
theorem run_lookA {w : World} {m : Nat} {a : ByteArray} {v0 : Value} {b : Nat} {l : List MapEntry} {clk : Nat} (h : w.heap[m]? = some (.map ⟨⟨.string a, v0, b⟩ :: l⟩ clk)) :
    (Instr.lookup 58 (.map (some m)) (.string a) true).run Tryz.prog w = .ok (.tuple #[v0, .bool true]) w := by
  have e1 : (Instr.findKey 9 (.string a) (⟨.string a, v0, b⟩ :: l)).run Tryz.prog w = .ok (some (0, v0)) w := by
    have hs : Instr.sameNow .string (.string a) (.string a) = some true := by
      show some (a == a) = some true
      rw [(Go.MapKept.bytes_beq a a).2 rfl]
    simp [Instr.findKey, run_und Tryz.underlying9, Instr.findNow, hs]
  simp only [Instr.lookup, Sem.run_bind, run_und Tryz.underlying58, Result.andThen_ok, getObj, Sem.run, h, Sem.run_pure, check_str, e1]
  rfl
set_option maxHeartbeats 1000000 in
/-- The table ahead has no rows. -/
theorem rowsA_any (w : World) (q : Four) (a : ByteArray) (pm : List MapEntry) (C : Nat → Cols) (b0 clk : Nat) (L : List (Nat × List Int)) (h : PD w q.d q.m pm C b0 clk L) (hp : Ahead true a pm) :
    Calls Tryz.prog 37 #[.pointer (some ⟨q.d, 0, none⟩), .string a] w fun e w' => ∃ v, e = .returned (.tuple #[v, .int .i64 0]) ∧ VRows w' v [] ∧ v = .slice none 0 0 ∧ Below w.heap.size w w' := by
  rcases hp with ⟨h1, _⟩ | ⟨_, pc, nc, cc, rfl⟩
  · cases h1
  obtain ⟨E, hM, hE⟩ := h.tabs
  have hptr := h.ptr
  have KL := run_lookA (w := w) (m := q.m) (by exact hM)
  have K := fun w' => rows_any w' (.slice none 0 0) 1 [] ⟨[], rfl, World.ownsRow_nil _ _ _ _, fun i u l h => by simp at h⟩ (by simp) (fun l h => by simp at h)
  clear hM hE h
  unfold tabV at KL
  have qf : ∀ (w : World) (p : Option Addr) (n c : Nat), (Instr.field 106 (.agg #[.int .i64 0, .slice p n c]) 1).run Tryz.prog w = .ok (.slice p n c) w := fun w p n c => by kernel_rfl
  go_enter Tryz.func37, Tryz.ntmps37
  go_wp2_with (first
    | (go_at_call 67; refine (K _).mono ?_; rintro e w2 ⟨v2, rfl, hv2, hn2, hb2⟩; obtain rfl := hn2 rfl))
  exact bodyPost_ret (v := .tuple #[.slice none 0 0, .int .i64 0]) (by simp [results, Tryz.results37, go_sem]) rfl ⟨_, rfl, hv2, rfl, ((Below.refl _ _).alloc (Nat.le_refl _) _).trans (hb2.mono (by simp))⟩
/-- The rows of the i-th table in order. -/
def rowsAt (p : Nat) (pre : Bool) (L : List (Nat × List Int)) (i : Nat) : List (List Int) := if (sortT p (tabsP pre 8))[i]?.getD 0 = 8 then [] else rowsOf L ((sortT p (tabsP pre 8))[i]?.getD 0)
/-- What is known of all rows. -/
def RowsOk (L : List (Nat × List Int)) : Prop := L.length ≤ 3000 ∧ ∀ x ∈ L, OkRow x
theorem RowsOk.of (L : List (Nat × List Int)) (h : RowsOk L) (j : Nat) : (rowsOf L j).length ≤ 3000 ∧ ∀ l ∈ rowsOf L j, l.length ≤ 8 := by
  refine ⟨Nat.le_trans (rowsOf_len L j) h.1, fun l hl => ?_⟩
  have := (h.2 _ (mem_rowsOf hl)).len
  rw [this]
  exact lenOf_le
theorem prows_any (pre : Bool) (a : ByteArray) (p : Nat) (hp : MayP pre p) (ha : Other a) {q : Four} {w0 : World} {pm : List MapEntry} {C : Nat → Cols} {clk : Nat} {L : List (Nat × List Int)} (hL : RowsOk L) (w : World) (h : PInv pre a q w0 pm C clk L w) (i : Nat) (hi : i < lenP pre) :
    Calls Tryz.prog 37 #[.pointer (some ⟨q.d, 0, none⟩), .string (nameAt a p pre i)] w fun e w' => ∃ v, e = .returned (.tuple #[v, .int .i64 0]) ∧ VRows w' v (rowsAt p pre L i) ∧ (rowsAt p pre L i = [] → v = .slice none 0 0) ∧ Below w.heap.size w w' := by
  have hi2 : i < (sortT p (tabsP pre 8)).length := by rw [sortT_len pre p hp]; exact hi
  have hle := sortT_le pre p hp _ (List.getElem_mem hi2)
  unfold nameAt rowsAt nmB
  rw [List.getElem?_eq_getElem hi2]
  simp only [Option.getD_some]
  by_cases e : (sortT p (tabsP pre 8))[i] = 8
  · rw [if_pos e, if_pos e]
    have hpre : pre = true := by
      rcases hp with ⟨rfl, rfl⟩ | ⟨h, _⟩
      · exfalso
        have hm := List.getElem_mem hi2
        rw [e, sortT_f] at hm
        exact absurd hm (by decide)
      · exact h
    subst hpre
    refine (rowsA_any w q a pm C _ clk L h.pd h.ahead).mono ?_
    rintro e w' ⟨v, rfl, h1, h2, h3⟩
    exact ⟨v, rfl, h1, fun _ => h2, h3⟩
  · rw [if_neg e, if_neg e]
    obtain ⟨l1, l2⟩ := RowsOk.of L hL (sortT p (tabsP pre 8))[i]
    exact rowsT_any w q.d q.m _ pm C _ clk L h.pd (h.ahead.apart ha) (by omega) (by omega) (fun l hl => by have := l2 l hl; omega)
end Go.Proofs.YtbjickdjkgefcaaGreatDoor
end
section
open Go Go.RowKit Go.Proofs.YtbjickdjkgefcaaGreatDoor.Vai
namespace Go.Proofs.YtbjickdjkgefcaaGreatDoor
set_option linter.unusedVariables false
set_option linter.unusedSimpArgs false
set_option maxRecDepth 20000
theorem specS_ne {l : List Nat} : ∀ (k : Nat) (sp : BSpec), (specS l)[k]? = some sp → (∃ e es c, sp = .cells e es c true ∧ (e = 60 ∨ e = 117 ∨ e = 38)) ∨ (k = 2 ∧ ∃ es n, sp = .obj (.map es n)) := by
  intro k sp h
  match k with
  | 0 => cases h; exact .inl ⟨_, _, _, rfl, .inl rfl⟩
  | 1 => cases h; exact .inl ⟨_, _, _, rfl, .inr (.inl rfl)⟩
  | 2 => cases h; exact .inr ⟨rfl, _, _, rfl⟩
  | k + 3 =>
    have hm : sp ∈ colBs l := List.mem_of_getElem? (i := k) (by simpa [specS] using h)
    have : ∀ (l : List Nat), ∀ s ∈ colBs l, ∃ c, s = .cells 38 2 c true := by
      intro l
      induction l with
      | nil => intro s h; simp [colBs] at h
      | cons y l ih =>
        intro s h
        simp only [colBs, List.mem_cons] at h
        rcases h with rfl | rfl | h
        · exact ⟨_, rfl⟩
        · exact ⟨_, rfl⟩
        · exact ih s h
    obtain ⟨c, rfl⟩ := this l sp hm
    exact .inl ⟨_, _, _, rfl, .inr (.inr rfl)⟩
theorem lies_no0 {w : World} {l : List Nat} {us : List Tgt} {sig : Sig} (h : Lies w (specS l) us sig) (ht : Tabs w) : 0 ∉ us.map (·.blk) := by
  intro hm
  obtain ⟨t, ht2, h0⟩ := List.mem_map.1 hm
  obtain ⟨i, hi⟩ := List.getElem?_of_mem ht2
  have hil := (List.getElem?_eq_some_iff.1 hi).1
  obtain ⟨cs, hz⟩ := tabs_zero ht
  have hsp := List.getElem?_eq_getElem (l := specS l) (i := i) (by rw [← h.len]; exact hil)
  have ok := h.ok i t _ hi hsp
  rcases specS_ne i _ hsp with ⟨e, es, c, e1, e2⟩ | ⟨_, es, n, e1⟩
  · rw [e1] at ok
    obtain ⟨_, _, c2, fr, g, _⟩ := ok
    rw [h0, hz] at g
    cases g
    rcases e2 with h | h | h <;> cases h
  · rw [e1] at ok
    obtain ⟨_, c2, g, r⟩ := ok
    rw [h0, hz] at g
    cases g; cases r
def idsS1 (l : List Nat) : List Nat := (3 + 2 * l.length) :: upTo (3 + 2 * l.length) 0
theorem subS1_f : subOk (specS (tabsP false 8) ++ [spG]) (specS1 (tabsP false 8)) (idsS1 (tabsP false 8)) = true := by kernel_rfl
theorem subS1_t : subOk (specS (tabsP true 8) ++ [spG]) (specS1 (tabsP true 8)) (idsS1 (tabsP true 8)) = true := by kernel_rfl
theorem subS1 (pre : Bool) : subOk (specS (tabsP pre 8) ++ [spG]) (specS1 (tabsP pre 8)) (idsS1 (tabsP pre 8)) = true := by
  cases pre with
  | false => exact subS1_f
  | true => exact subS1_t
theorem whole_ok (pre : Bool) : runCheck (wholeRun pre) (specS1 (tabsP pre 8)).length isTrue (specS (tabsP pre 8)) (idsW (tabsP pre 8)) noTau [] = true := by
  cases pre with
  | false => exact whole_f
  | true => exact whole_t
theorem whole_any (pre : Bool) (a : ByteArray) (ha : Other a) (q : Four) (w : World) (h : CatW pre a q w) (ht : Tabs w) :
    Calls Tryz.prog 40 #[.pointer (some ⟨q.d, 0, none⟩)] w fun e w' => e = .returned (.bool true) ∧ CatW pre a q w' ∧ KeepL [q.s] w w' := by
  obtain ⟨us, t0, t1, t2, hU, e0, b0, e1, b1, e2, b2, hm⟩ := h
  have h0 := lies_no0 hU ht
  have hlt0 : 0 < w.heap.size := lt_of_heap (tabs_zero ht).choose_spec
  have hl : us.length = 3 + 2 * (tabsP pre 8).length := by rw [hU.len]; cases pre <;> rfl
  have hS := hU.snoc (sp := spG) (t := ⟨0, zsp.length, 1⟩) (spG_ok ht _) h0 hlt0
  obtain ⟨vs, hV, hv⟩ := hS.sub (subS1 pre)
  have g0 : vs[0]? = some ⟨0, zsp.length, 1⟩ := by
    rw [hv 0 (3 + 2 * (tabsP pre 8).length) rfl, ← hl, List.getElem?_append_right (Nat.le_refl _)]; simp
  have up : ∀ n b i, i < n → (upTo n b)[i]? = some (b + i) := by
    intro n
    induction n with
    | zero => intro b i h; omega
    | succ n ih =>
      intro b i h
      cases i with
      | zero => rfl
      | succ i =>
        have := ih (b + 1) i (by omega)
        simp only [upTo, List.getElem?_cons_succ, this]
        congr 1; omega
  have g1 : ∀ i, i < us.length → vs[i + 1]? = us[i]? := fun i hi => by
    have h1 : (idsS1 (tabsP pre 8))[i + 1]? = some i := by
      show (upTo (3 + 2 * (tabsP pre 8).length) 0)[i]? = some i
      rw [up _ _ i (by omega)]; simp
    rw [hv _ _ h1, List.getElem?_append_left hi]
  have l0 := (List.getElem?_eq_some_iff.1 e0).1
  have l1 := (List.getElem?_eq_some_iff.1 e1).1
  have l2 := (List.getElem?_eq_some_iff.1 e2).1
  have hlv : (specS1 (tabsP pre 8)).length = 4 + 2 * (tabsP pre 8).length := by cases pre <;> rfl
  refine (run_own kn0_ok [q.s] hV (facts0_ok ha) (fun i t sp ht2 hsp ho => ?_) (ng := 1) (by rw [hlv]; omega) (fun g t hg ht2 => ?_) (args := [.pointer (some ⟨1, 0, none⟩)]) (cargs := [.pointer (some ⟨q.d, 0, none⟩)]) (.cons _ _ _ _ (by rw [← b0]; exact .ptr 1 0 t0 ((g1 0 l0).trans e0)) .nil) (whole_ok pre)).mono ?_
  · cases i with
    | zero => cases hsp; cases ho
    | succ i =>
      have hsp2 : (specS1 (tabsP pre 8))[i + 1]? = some sp := hsp
      have hi3 : i = 2 := by
        match i with
        | 0 => cases hsp2; cases ho
        | 1 => cases hsp2; cases ho
        | 2 => rfl
        | i + 3 =>
          exfalso
          have hm : sp ∈ colBs (tabsP pre 8) := List.mem_of_getElem? (i := i) (by simpa [specS1] using hsp2)
          have : ∀ (l : List Nat), ∀ s ∈ colBs l, s.owned = false := by
            intro l
            induction l with
            | nil => intro s h; simp [colBs] at h
            | cons y l ih =>
              intro s h
              simp only [colBs, List.mem_cons] at h
              rcases h with rfl | rfl | h
              · rfl
              · rfl
              · exact ih s h
          rw [this _ sp hm] at ho; cases ho
      subst hi3
      rw [g1 2 l2, e2] at ht2
      cases ht2
      simp [b2]
  · obtain rfl : g = 0 := by omega
    rw [g0] at ht2; cases ht2; rfl
  · rintro e w' ⟨ψ, u, c, ts', rfl, hu, hvr, hr, hs, hk⟩
    obtain rfl := veq_sound _ _ hu
    cases hvr
    have hl' : ts'.length = us.length := by rw [hr.len, hU.len]
    have at' : ∀ i, i < us.length → ts'[i]? = us[i]? := fun i hi => by
      have h4 : ts'[i]? = some (ts'[i]'(by omega)) := List.getElem?_eq_getElem _
      have h1 : (idsW (tabsP pre 8))[i]? = some (i + 1) := by
        show (upTo (3 + 2 * (tabsP pre 8).length) 1)[i]? = some (i + 1)
        rw [up _ _ i (by omega)]; congr 1; omega
      obtain ⟨_, h5⟩ := hr.at_own h1 h4
      rcases h5 with ⟨_, h5⟩ | ⟨h5, _⟩
      · rw [h4, ← h5, g1 i hi]
      · rw [hlv] at h5; omega
    refine ⟨rfl, ⟨ts', t0, t1, t2, hr.lies, (at' 0 l0).trans e0, b0, (at' 1 l1).trans e1, b1, (at' 2 l2).trans e2, b2, fun hm2 => ?_⟩, hk⟩
    have : ts' = us := List.ext_getElem? fun i => by
      by_cases hi : i < us.length
      · exact at' i hi
      · rw [List.getElem?_eq_none (by omega), List.getElem?_eq_none (by omega)]
    rw [this] at hm2
    exact hm hm2
/-- The catalogue's map alone may have turned. -/
theorem PInv.turned {pre : Bool} {a : ByteArray} {q : Four} {w0 : World} {pm : List MapEntry} {C : Nat → Cols} {clk : Nat} {L : List (Nat × List Int)} {w w' : World} (h : PInv pre a q w0 pm C clk L w) (hk : KeepL [q.s] w w') (hc : CatW pre a q w') : PInv pre a q w0 pm C clk L w' := by
  obtain ⟨us, t0, t1, t2, hU, e0, b0, e1, b1, e2, b2, hm⟩ := h.cat
  obtain ⟨_, o, ho, hR⟩ := hU.ok 2 t2 _ e2 rfl
  rw [b2] at ho
  have hmap : ∃ es clk, w.heap[q.s]? = some (.map es clk) := by
    cases hR with
    | map es cs clk hE => exact ⟨_, _, ho⟩
  obtain ⟨es, clk', hs⟩ := hmap
  have hkt : ∀ T : List TypeId, KT T w w' := fun T b cs ty fr hb _ => by
    rw [hk.block b (lt_of_heap hb) (fun hm => by
      simp only [List.mem_cons, List.mem_nil_iff, or_false] at hm
      subst hm; rw [hs] at hb; cases hb)]
    exact hb
  have hqm : q.m ≠ q.s := fun e => hm (by rw [e, ← b2]; exact List.mem_map.2 ⟨t2, List.mem_of_getElem? e2, rfl⟩)
  obtain ⟨E, hM, _⟩ := h.pd.tabs
  have hM : w.heap[q.m]? = _ := hM
  have hqd : q.d ≠ q.s := fun e => by
    have := h.pd.ptr
    rw [e] at this
    simp only [World.cell?, hs] at this
    cases this
  have hown : KeepL q.own w w' := hk.mono (by intro x hx; simp at hx; subst hx; simp [Four.own])
  exact ⟨h.pd.keep (hk.block _ (cell_lt h.pd.ptr) (by simp [hqd])) (hk.block _ (lt_of_heap hM) (by simp [hqm])) (hkt _), h.ahead, h.cols.keep (hkt _), hc, h.keep.trans hown, h.tabs.keepL hown h.own0⟩
end Go.Proofs.YtbjickdjkgefcaaGreatDoor
end
