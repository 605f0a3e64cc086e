/- The document's side: a table with a row behind all others. -/
import Derived.Test.YtbjickdjkgefcaaGreatDoorLLN
section
open Go Go.RowKit Go.Proofs.YtbjickdjkgefcaaGreatDoor.Vai
namespace Go.Proofs.YtbjickdjkgefcaaGreatDoor
set_option linter.unusedVariables false
set_option linter.unusedSimpArgs false
set_option maxRecDepth 20000
attribute [local go_sem ↓] Go.wp_at_zero Go.wp_at_succ
theorem run_append_empty {w : World} (base : Nat) (t ty e : TypeId) (i : TypeInfo) (size : Nat) (ht : Tryz.prog.underlying t = some (.slice e)) (hi : Tryz.prog.info? e = some i)
    (v : Value) (n : Nat) (xs : List Value) (hown : w.ownsRow base e size v n xs) (p : Option Addr) (c : Nat) :
    (Builtin.append_ #[t, t] ty #[v, .slice p 0 c]).run Tryz.prog w = .ok v w := by
  rcases hown.2 with ⟨rfl, rfl⟩ | ⟨g, cap, cur, rfl, _, _, hnc, _⟩
  · cases p <;> simp [Builtin.append_, run_underlying ht, sizeOf, typeInfo, hi, Builtin.lenOf, Builtin.firstCells, loadCells, loadCellsFrom]
  · cases p <;> simp [Builtin.append_, run_underlying ht, sizeOf, typeInfo, hi, Builtin.lenOf, Builtin.firstCells, hnc, storeCells, loadCells, loadCellsFrom]
/-- At a step of a region that draws its order: nothing is appended. -/
theorem step_append_same {w : World} {ops : Array Oper} {o : Oper} {a : Act} {K : Act → World → Prop} {Q : Exit → Act → World → Prop} {E : Prop} (hgd : o.guard = none) (s x : Operand) (t : TypeId)
    (ho : o.op = .call { callee := .builtin .append, args := #[s, x], argTypes := #[t, t] }) (v xv : Value) (hs : a.eval s = v) (hx : a.eval x = xv) (hr : (Builtin.append_ #[t, t] o.type #[v, xv]).run Tryz.prog w = .ok v w)
    (h : K (a.put o.dst v) w) : if Region.wanted o (yielded ops a.tmps) = true then Oper.wp Tryz.prog o a w K Q else E := by
  have hw : Region.wanted o (yielded ops a.tmps) = true := by simp [Region.wanted, hgd]
  rw [if_pos hw]
  unfold Oper.wp execOp
  simp only [ho, resolve, invoke, builtin, Sem.run_bind, Sem.run_pure, Result.andThen_ok, List.map_toArray, List.map_cons, List.map_nil, hs, hx, hr]
  exact h
theorem wpList_append_same {w : World} {ops : Array Oper} {rest : List Oper} {o : Oper} {a : Act} {Q : Exit → Act → World → Prop} (hgd : o.guard = none) (s x : Operand) (t : TypeId)
    (ho : o.op = .call { callee := .builtin .append, args := #[s, x], argTypes := #[t, t] }) (v xv : Value) (hs : a.eval s = v) (hx : a.eval x = xv) (hr : (Builtin.append_ #[t, t] o.type #[v, xv]).run Tryz.prog w = .ok v w)
    (h : wpList Tryz.prog ops Q rest (a.put o.dst v) w) : wpList Tryz.prog ops Q (o :: rest) a w := by
  refine wpList_plain hgd fun K hK => ?_
  unfold Oper.wp execOp
  simp only [ho, resolve, invoke, builtin, Sem.run_bind, Sem.run_pure, Result.andThen_ok, List.map_toArray, List.map_cons, List.map_nil, hs, hx, hr]
  exact hK _ _ h
theorem wpStill_append_same {w : World} {ops : Array Oper} {rest : List Oper} {o : Oper} {a : Act} {Q : Act → Prop} (hgd : o.guard = none) (s x : Operand) (t : TypeId)
    (ho : o.op = .call { callee := .builtin .append, args := #[s, x], argTypes := #[t, t] }) (v xv : Value) (hs : a.eval s = v) (hx : a.eval x = xv) (hr : (Builtin.append_ #[t, t] o.type #[v, xv]).run Tryz.prog w = .ok v w)
    (h : wpStill Tryz.prog ops w Q rest (a.put o.dst v)) : wpStill Tryz.prog ops w Q (o :: rest) a := by
  have hw : Region.wanted o (yielded ops a.tmps) = true := by simp [Region.wanted, hgd]
  unfold wpStill
  rw [if_pos hw]
  unfold Oper.still execOp
  simp only [ho, resolve, invoke, builtin, Sem.run_bind, Sem.run_pure, Result.andThen_ok, List.map_toArray, List.map_cons, List.map_nil, hs, hx, hr]
  rw [Oper.stillUpon_value]
  exact h
/-- The two blocks of the call's own. -/
structure WithB (w : World) (b : Nat) (nm : ByteArray) (pc : Option Addr) (nc cc kn : Nat) (v : Value) : Prop where
  t : w.heap[b]? = some (.cells #[.string nm, .slice pc nc cc, .int .i64 kn, .slice none 0 0, v] 87 (0, 0))
  z : w.heap[b + 1]? = some (.cells #[.string ⟨#[]⟩, .slice none 0 0, .int .i64 0, .slice none 0 0, .slice none 0 0] 87 (0, 0))
theorem WithB.below {w w' : World} {b : Nat} {nm : ByteArray} {pc : Option Addr} {nc cc kn : Nat} {v : Value} (h : WithB w b nm pc nc cc kn v) (hb : Below w.heap.size w w') : WithB w' b nm pc nc cc kn v :=
  ⟨(hb.block _ (lt_of_heap h.t)).trans h.t, (hb.block _ (lt_of_heap h.z)).trans h.z⟩
theorem WithB.alloc {w : World} {b : Nat} {nm : ByteArray} {pc : Option Addr} {nc cc kn : Nat} {v : Value} (h : WithB w b nm pc nc cc kn v) (o : Obj) : WithB (w.alloc o) b nm pc nc cc kn v :=
  ⟨(Below.heap_alloc _ _ _ (lt_of_heap h.t)).trans h.t, (Below.heap_alloc _ _ _ (lt_of_heap h.z)).trans h.z⟩
theorem WithB.grown {w w' : World} {b : Nat} {nm : ByteArray} {pc : Option Addr} {nc cc kn : Nat} {v : Value} (h : WithB w b nm pc nc cc kn v) {q : Option Nat} (hg : w.grownBy w' q) (h1 : some b ≠ q) (h2 : some (b + 1) ≠ q) : WithB w' b nm pc nc cc kn v :=
  ⟨(hg.block _ (lt_of_heap h.t) h1).trans h.t, (hg.block _ (lt_of_heap h.z) h2).trans h.z⟩
theorem WithB.start (w : World) (nm : ByteArray) (pc : Option Addr) (nc cc kn : Nat) (v : Value) :
    WithB ((w.alloc (.cells #[.string nm, .slice pc nc cc, .int .i64 kn, .slice none 0 0, v] 87)).alloc (.cells #[.string ⟨#[]⟩, .slice none 0 0, .int .i64 0, .slice none 0 0, .slice none 0 0] 87)) w.heap.size nm pc nc cc kn v :=
  ⟨(Below.heap_alloc _ _ _ (by simp)).trans heap_alloc_at, by simpa using @heap_alloc_at (w.alloc (.cells #[.string nm, .slice pc nc cc, .int .i64 kn, .slice none 0 0, v] 87)) (.cells #[.string ⟨#[]⟩, .slice none 0 0, .int .i64 0, .slice none 0 0, .slice none 0 0] 87)⟩
theorem WithB.drew {w : World} {b : Nat} {nm : ByteArray} {pc : Option Addr} {nc cc kn : Nat} {v : Value} (h : WithB w b nm pc nc cc kn v) : WithB w.drew b nm pc nc cc kn v := ⟨h.t, h.z⟩
theorem WithB.cells {w : World} {b : Nat} {nm : ByteArray} {pc : Option Addr} {nc cc kn : Nat} {v : Value} (h : WithB w b nm pc nc cc kn v) :
    w.cell? ⟨b, 0, none⟩ = some (.string nm) ∧ w.cell? ⟨b, 1, none⟩ = some (.slice pc nc cc) ∧ w.cell? ⟨b, 2, none⟩ = some (.int .i64 kn) ∧ w.cell? ⟨b, 3, none⟩ = some (.slice none 0 0) ∧ w.cell? ⟨b, 4, none⟩ = some v := by
  obtain ⟨a0, a1, a2, a3, a4, _⟩ := five_facts h.t
  exact ⟨a0, a1, a2, a3, a4⟩
theorem with_bel (w : World) (o1 o2 : Obj) : Below w.heap.size w ((w.alloc o1).alloc o2).drew := (((Below.refl _ _).alloc (Nat.le_refl _) _).alloc (by simp) _).drew
/-- The rows of the table that comes out. -/
theorem rwith_end {w2 w4 : World} {b base : Nat} {L : List (List Int)} {us : List Value} {r : List Int} {v4 rv2 : Value} {B n : Nat} (hrne : r ≠ []) (hus : ∀ (i : Nat) (u : Value) (l : List Int), us[i]? = some u → L[i]? = some l → VRow w4 u l) (hlen : us.length = L.length) (hv2 : w2.ownsRow B 121 4 rv2 r.length (vcells r)) (kt : KT [121] w2 w4) (hown4 : w4.ownsRow base 71 1 v4 n (us ++ [rv2])) : VRows w4 v4 (L ++ [r]) := by
  have hn : n = (L ++ [r]).length := by have := hown4.1; simp at this; simp; omega
  subst hn
  exact ⟨us ++ [rv2], ownsRow_base hown4 (Nat.zero_le _), VRows.snoc (w' := w4) (v := .nilIface) (v' := .nilIface) hus hlen ((VRow.of_own hrne hv2).keep kt (by simp))⟩
theorem set5E {T : List TypeId} {w : World} {b : Nat} {a0 a1 a2 a3 a4 v0 v1 v2 v3 v4 : Value} {t : TypeId} (Z : w.heap[b]? = some (.cells #[a0, a1, a2, a3, a4] t (0, 0))) (hT : t ∉ T) :
    ∃ wE, (((((w.setCell ⟨b, 0, none⟩ v0).setCell ⟨b, 1, none⟩ v1).setCell ⟨b, 2, none⟩ v2).setCell ⟨b, 3, none⟩ v3).setCell ⟨b, 4, none⟩ v4) = wE ∧
      wE.cell? ⟨b, 0, none⟩ = some v0 ∧ wE.cell? ⟨b, 1, none⟩ = some v1 ∧ wE.cell? ⟨b, 2, none⟩ = some v2 ∧ wE.cell? ⟨b, 3, none⟩ = some v3 ∧ wE.cell? ⟨b, 4, none⟩ = some v4 ∧ KT T w wE ∧ ∀ B, B ≤ b → Below B w wE := by
  obtain ⟨Z6, kt6, bel6⟩ := set5 (T := T) (v0 := v0) (v1 := v1) (v2 := v2) (v3 := v3) (v4 := v4) Z hT
  obtain ⟨y0, y1, y2, y3, y4, _⟩ := five_facts Z6
  exact ⟨_, rfl, y0, y1, y2, y3, y4, kt6, bel6⟩
set_option maxHeartbeats 500000 in
theorem rwith_any (w : World) (nm : ByteArray) (pc : Option Addr) (nc cc kn : Nat) (v : Value) (L : List (List Int)) (r : List Int) (rv : Value) (h : VRows w v L) (hnil : L = [] → v = .slice none 0 0) (hk : Last kn L (r.take kn)) (hr : VRow w rv r) (hrl : r.length ≤ 100) (hkl : kn ≤ r.length) (hl : ∀ l ∈ L, kn ≤ l.length) :
    Calls Tryz.prog 194 #[tabV nm pc nc cc kn v, rv] w fun e w' => ∃ v', e = .returned (tabV nm pc nc cc kn v') ∧ VRows w' v' (L ++ [r]) ∧ Below w.heap.size w w' := by
  obtain ⟨i0, z0, hi0, hz0, hs0, hb0, hc0⟩ := info71
  obtain ⟨g, cr, rfl, hg, hcr, hcm, hrc⟩ := hr.read
  have K1 : ∀ w1, Below w.heap.size w w1 → Calls Tryz.prog 155 #[tabV nm pc nc cc kn v, .slice (some ⟨g, 0, none⟩) kn cr] w1 fun e w' => e = .returned (.tuple #[.int .i64 L.length, .bool false]) ∧ Below w1.heap.size w1 w' := fun w1 hw1 =>
    find_any w1 nm pc nc cc kn v L (r.take kn) g cr (h.keep (KT.below hw1 (Nat.le_refl _) : KT [121, 71] _ _) (by simp) (by simp)) hk (by omega) (by omega) (fun j u hj => by
      have h1 := hrc j u (vcells_take r kn j u hj)
      rw [World.cell?_of_block (w := w) (hw1.block _ (cell_lt h1)), h1]) hl
  have K2 : ∀ w1, Below w.heap.size w w1 → Calls Tryz.prog 110 #[.slice (some ⟨g, 0, none⟩) r.length cr] w1 _ := fun w1 hw1 => copyRow_any w1 (.slice (some ⟨g, 0, none⟩) r.length cr) r (hr.keep (KT.below hw1 (Nat.le_refl _) : KT [121] _ _) (by simp)) hrl
  have HV := Lib.hid h
  have HR := Lib.hid hr
  have hL4 := hk.1
  have f1 : (0 : Int) ≤ (kn : Int) := Int.natCast_nonneg _
  have f2 : (kn : Int) ≤ (cr : Int) := by omega
  have hrne := hr.1
  by_cases hL : L = []
  · subst hL
    obtain rfl := hnil rfl
    clear h hr hk hl hnil hrc
    unfold tabV at *
    go_enter Tryz.func194, Tryz.ntmps194
    go_wp2_with fail
    have q0 := WithB.start w nm pc nc cc kn (.slice none 0 0)
    obtain ⟨c0, c1, c2, c3, c4⟩ := q0.cells
    have lb := lt_of_heap q0.t
    go_region_held3 (fun w' => w'.cell? ⟨w.heap.size, 0, none⟩ = some (.string nm) ∧ w'.cell? ⟨w.heap.size, 1, none⟩ = some (.slice pc nc cc) ∧ w'.cell? ⟨w.heap.size, 2, none⟩ = some (.int .i64 kn) ∧ w'.cell? ⟨w.heap.size, 3, none⟩ = some (.slice none 0 0) ∧ w'.cell? ⟨w.heap.size, 4, none⟩ = some (.slice none 0 0))
      (first
        | exact ⟨c0, c1, c2, c3, c4⟩
        | exact ⟨(hb1.cell lb).trans c0, (hb1.cell lb).trans c1, (hb1.cell lb).trans c2, (hb1.cell lb).trans c3, (hb1.cell lb).trans c4⟩)
      ((go_at_call 155; refine (K1 _ (with_bel w _ _)).mono ?_; rintro e w1 ⟨rfl, hb1⟩))
    have q1 := q0.drew.below hb1
    have b1 := (with_bel w _ _).trans (hb1.mono (with_bel w _ _).size)
    clear c0 c1 c2 c3 c4 K1 q0 lb
    obtain ⟨c0, c1, c2, c3, c4⟩ := q1.cells
    go_wp2_with (first
      | (go_at_call 110; refine (K2 _ b1).mono ?_; rintro e w2 ⟨v2, rfl, hv2, hb2⟩; obtain ⟨p2, n2, c22, rfl⟩ := ownsRow_slice hv2)
      | (at_builtin
         refine wpList_append_lies _ rfl (.tmp 24) (.tmp 27) _ rfl w1.heap.size 71 i0 z0 1 24 Tryz.underlying85 hi0 hz0 hs0 hb0 hc0 (by omega) _ 0 [] (by rfl) (World.ownsRow_nil _ _ _ _) _ 1 1 [.slice p2 n2 c22] (by rfl) rfl (news_lit _ _ _ _ rfl) (ownsRow_one hv2) (by omega) (by simp only [maxLen]; omega) (by omega) (by have := hb2.size; simp; omega) (w2.heap.size + 1) (by simp) ?_
         intro g4 cap4 w4 hown4 hgrow hat hlt4
         have q4 := ((q1.below hb2).alloc (.cells #[.slice p2 n2 c22] 71)).grown hgrow (by simp [Value.ownBlock]) (by simp [Value.ownBlock])
         obtain ⟨d0, d1, d2, d3, d4⟩ := q4.cells))
    have hfin := rwith_end (L := []) (us := []) (r := r) (b := w.heap.size) hrne (fun i u l h => by simp at h) rfl hv2 (by rw [show (KT [121] w2 w4) = (KT [121] w2 w4) from rfl]; exact (KT.alloc [121] w2 (.cells #[.slice p2 n2 c22] 71)).trans (fun q cs ty fr hq hm => by rw [hgrow.block q (lt_of_heap hq) (by simp [Value.ownBlock])]; exact hq)) hown4
    have happ := run_append_empty (ty := 85) w1.heap.size 85 71 i0 1 Tryz.underlying85 hi0 _ _ _ (ownsRow_keep hown4 (KT.drew [71] w4) (by simp)) none 0
    have zz := five_facts q4.z
    obtain ⟨z0, z1, z2, z3, z4, zf⟩ := zz
    have HF := Lib.hid hfin
    have Q4 := Lib.hid q4
    have hb14 : Below w.heap.size w w4 := by
      have s1 := b1.size
      have s2 := hb2.size
      exact ((b1.trans (hb2.mono (by omega))).alloc (by omega) _).grown hgrow (by simp; omega) (fun q hq => by simp [Value.ownBlock] at hq)
    have HB := Lib.hid hb14
    clear q4 hfin hb14 hown4 hgrow hat hv2 hb1 hb2 b1 q1 K2 c0 c1 c2 c3 c4 f1 f2
    refine wp_region_still_tail 9 (by kernel_rfl) (by kernel_rfl) ?_
    simp only [List.take_succ_cons, List.take_zero, List.drop_succ_cons, List.drop_zero]
    iterate 7 still_step
    refine wpStill_append_same (by rfl) (.tmp 34) (.tmp 38) 85 (by rfl) (.slice (some ⟨g4, 0, none⟩) (0 + 1) cap4) (.slice none 0 0) (by rfl) (by rfl) happ ?_
    simp only [Act.put, List.setIfInBounds_toArray, List.set_cons_zero, List.set_cons_succ]
    still_step
    refine wpStill_nil ?_
    change wpList _ _ _ _ _ w4.drew
    go_wp2_with fail
    obtain ⟨wE, hE, y0, y1, y2, y3, y4, kt6, bel6⟩ := set5E (T := [121, 71]) (v0 := .string nm) (v1 := .slice pc nc cc) (v2 := .int .i64 kn) (v3 := .slice none 0 0) (v4 := .slice (some ⟨g4, 0, none⟩) 1 cap4) Q4.out.z (by decide)
    rw [hE]
    have hF2 : Hid (VRows wE.drew (.slice (some ⟨g4, 0, none⟩) 1 cap4) ([] ++ [r]) ∧ Below w.heap.size w wE.drew) := ⟨HF.out.keep (kt6.trans (KT.drew _ _)) (by simp) (by simp), (HB.out.trans (bel6 _ (by omega))).drew⟩
    clear kt6 bel6 HF HB hE Q4 z0 z1 z2 z3 z4 zf d0 d1 d2 d3 d4 happ
    exact bodyPost_ret (v := .agg #[.string nm, .slice pc nc cc, .int .i64 kn, .slice none 0 0, .slice (some ⟨g4, 0, none⟩) 1 cap4]) (by simp [results, Tryz.results194, go_sem, y0, y1, y2, y3, y4]) rfl ⟨_, rfl, hF2.out.1, hF2.out.2⟩
  · have hpos : 0 < L.length := List.length_pos_iff.2 hL
    obtain ⟨us, ho1, ho2⟩ := h
    obtain ⟨gv, capv, rfl, _, hgv, hcv1, hcv2, hrv⟩ := ownsRow_read ho1 hpos
    have hul : us.length = L.length := by have := ho1.1; omega
    have HU1 : Hid (∀ u ∈ us, u.oneCell' = true) := by
      intro u hu
      obtain ⟨i, hi⟩ := List.getElem?_of_mem hu
      have hi2 : i < L.length := by have := (List.getElem?_eq_some_iff.1 hi).1; omega
      obtain ⟨gg, cc2, rfl, _⟩ := (ho2 i u _ hi (List.getElem?_eq_getElem hi2)).read
      rfl
    have HRV := Lib.hid hrv
    have HO2 := Lib.hid ho2
    have i1 : (0 : Int) ≤ (L.length : Int) := Int.natCast_nonneg _
    have i2 : (L.length : Int) ≤ (capv : Int) := by omega
    clear hr hk hl hnil hrc ho1 ho2 hrv hL
    unfold tabV at *
    go_enter Tryz.func194, Tryz.ntmps194
    go_wp2_with fail
    have q0 := WithB.start w nm pc nc cc kn (.slice (some ⟨gv, 0, none⟩) L.length capv)
    obtain ⟨c0, c1, c2, c3, c4⟩ := q0.cells
    have lb := lt_of_heap q0.t
    go_region_held3 (fun w' => w'.cell? ⟨w.heap.size, 0, none⟩ = some (.string nm) ∧ w'.cell? ⟨w.heap.size, 1, none⟩ = some (.slice pc nc cc) ∧ w'.cell? ⟨w.heap.size, 2, none⟩ = some (.int .i64 kn) ∧ w'.cell? ⟨w.heap.size, 3, none⟩ = some (.slice none 0 0) ∧ w'.cell? ⟨w.heap.size, 4, none⟩ = some (.slice (some ⟨gv, 0, none⟩) L.length capv))
      (first
        | exact ⟨c0, c1, c2, c3, c4⟩
        | exact ⟨(hb1.cell lb).trans c0, (hb1.cell lb).trans c1, (hb1.cell lb).trans c2, (hb1.cell lb).trans c3, (hb1.cell lb).trans c4⟩)
      ((go_at_call 155; refine (K1 _ (with_bel w _ _)).mono ?_; rintro e w1 ⟨rfl, hb1⟩))
    have q1 := q0.drew.below hb1
    have b1 := (with_bel w _ _).trans (hb1.mono (with_bel w _ _).size)
    have s1 := b1.size
    clear c0 c1 c2 c3 c4 K1 q0 lb
    obtain ⟨c0, c1, c2, c3, c4⟩ := q1.cells
    have HN1 : Hid (∀ j u, us[j]? = some u → w1.cell? ((⟨gv, 0, none⟩ : Addr).add j) = some u) := by
      intro j u hj
      rw [Addr.add_lit, Nat.zero_add]
      exact (b1.cell (p := ⟨gv, j, none⟩) hgv).trans (HRV.out j u hj)
    go_wp2_with (first
      | (go_at_call 110; refine (K2 _ b3).mono ?_; rintro e w2 ⟨v2, rfl, hv2, hb2⟩; obtain ⟨p2, n2, c22, rfl⟩ := ownsRow_slice hv2)
      | (at_builtin
         refine wpList_append_lies _ rfl (.tmp 18) (.tmp 22) _ rfl w1.heap.size 71 i0 z0 1 24 Tryz.underlying85 hi0 hz0 hs0 hb0 hc0 (by omega) _ 0 [] (by rfl) (World.ownsRow_nil _ _ _ _) _ L.length capv us (by rfl) (by omega) HN1.out HU1.out hpos (by simp only [maxLen]; omega) (by omega) (Nat.le_refl _) w1.heap.size rfl ?_
         intro g3 cap3 w3 hown3 hgrow3 hat3 hlt3
         have q3 := q1.grown hgrow3 (by simp [Value.ownBlock]) (by simp [Value.ownBlock])
         have b3 : Below w.heap.size w w3 := b1.grown hgrow3 s1 (fun q hq => by simp [Value.ownBlock] at hq)
         rw [Nat.zero_add] at hown3
         simp only [Nat.zero_add])
      | (at_builtin
         refine wpList_append_lies _ rfl (.tmp 24) (.tmp 27) _ rfl w1.heap.size 71 i0 z0 1 24 Tryz.underlying85 hi0 hz0 hs0 hb0 hc0 (by omega) _ L.length us (by rfl) ((ownsRow_keep hown3 (KT.below hb2 (Nat.le_refl _)) (by simp : 71 ∈ [71])).alloc _) _ 1 1 [.slice p2 n2 c22] (by rfl) rfl (news_lit _ _ _ _ rfl) (ownsRow_one hv2) (by omega) (by simp only [maxLen]; omega) (by omega) (by have := hb2.size; have := hgrow3.size; simp; omega) (w2.heap.size + 1) (by simp) ?_
         intro g4 cap4 w4 hown4 hgrow hat hlt4))
    have own2 : (w2.alloc (.cells #[.slice p2 n2 c22] 71)).ownsRow w1.heap.size 71 1 (.slice (some ⟨g3, 0, none⟩) L.length cap3) L.length us := (ownsRow_keep hown3 (KT.below hb2 (Nat.le_refl _)) (by simp : 71 ∈ [71])).alloc _
    have s2 := hb2.size
    have s3 := hgrow3.size
    have hlow : ∀ q, (Value.slice (some ⟨g3, 0, none⟩) L.length cap3).ownBlock = some q → w1.heap.size ≤ q := fun q hq => (own2.lt q hq).1
    have q4 := ((q3.below hb2).alloc (.cells #[.slice p2 n2 c22] 71)).grown hgrow (fun e => by have := hlow _ e.symm; have := lt_of_heap q1.t; omega) (fun e => by have := hlow _ e.symm; have := lt_of_heap q1.z; omega)
    obtain ⟨d0, d1, d2, d3, d4⟩ := q4.cells
    have kt24 : KT [121] w2 w4 := (KT.alloc [121] _ _).trans (KT.grown hgrow own2 (by decide))
    have kt04 : KT [121] w w4 := (KT.below b3 (Nat.le_refl _)).trans ((KT.below hb2 (Nat.le_refl _)).trans kt24)
    have hfin := rwith_end (L := L) (us := us) (r := r) (b := w.heap.size) hrne (fun i u l hu hl => (HO2.out i u l hu hl).keep kt04 (by simp)) hul hv2 kt24 hown4
    have happ := fun p c => run_append_empty (ty := 85) w1.heap.size 85 71 i0 1 Tryz.underlying85 hi0 _ _ _ (ownsRow_keep hown4 (KT.drew [71] w4) (by simp)) p c
    obtain ⟨z0, z1, z2, z3, z4, zf⟩ := five_facts q4.z
    have HF := Lib.hid hfin
    have Q4 := Lib.hid q4
    have hb14 : Below w.heap.size w w4 := ((b3.trans (hb2.mono (by omega))).alloc (by omega) _).grown hgrow (by simp; omega) (fun q hq => by have := hlow q hq; omega)
    have HB := Lib.hid hb14
    clear q4 hfin hb14 hown4 hgrow hat hv2 hb1 hb2 b1 b3 q1 q3 K2 c0 c1 c2 c3 c4 f1 f2 own2 s2 s3 hlow kt24 kt04 hown3 hgrow3 hat3 hlt3 HN1 HU1 HO2 HRV s1
    refine wp_region_still_tail 9 (by kernel_rfl) (by kernel_rfl) ?_
    simp only [List.take_succ_cons, List.take_zero, List.drop_succ_cons, List.drop_zero]
    by_cases hcp : capv = L.length
    · subst hcp
      iterate 7 still_step
      refine wpStill_append_same (by rfl) (.tmp 34) (.tmp 38) 85 (by rfl) (.slice (some ⟨g4, 0, none⟩) (L.length + 1) cap4) (.slice _ 0 _) (by rfl) (by rfl) (happ _ _) ?_
      simp only [Act.put, List.setIfInBounds_toArray, List.set_cons_zero, List.set_cons_succ]
      still_step
      refine wpStill_nil ?_
      change wpList _ _ _ _ _ w4.drew
      go_wp2_with fail
      obtain ⟨wE, hE, y0, y1, y2, y3, y4, kt6, bel6⟩ := set5E (T := [121, 71]) (v0 := .string nm) (v1 := .slice pc nc cc) (v2 := .int .i64 kn) (v3 := .slice none 0 0) (v4 := .slice (some ⟨g4, 0, none⟩) (L.length + 1) cap4) Q4.out.z (by decide)
      rw [hE]
      have hF2 : Hid (VRows wE.drew (.slice (some ⟨g4, 0, none⟩) (L.length + 1) cap4) (L ++ [r]) ∧ Below w.heap.size w wE.drew) := ⟨HF.out.keep (kt6.trans (KT.drew _ _)) (by simp) (by simp), (HB.out.trans (bel6 _ (by omega))).drew⟩
      clear kt6 bel6 HF HB hE Q4 z0 z1 z2 z3 z4 zf d0 d1 d2 d3 d4 happ
      exact bodyPost_ret (v := .agg #[.string nm, .slice pc nc cc, .int .i64 kn, .slice none 0 0, .slice (some ⟨g4, 0, none⟩) (L.length + 1) cap4]) (by simp [results, Tryz.results194, go_sem, y0, y1, y2, y3, y4]) rfl ⟨_, rfl, hF2.out.1, hF2.out.2⟩
    · have i3 : (L.length : Int) < (capv : Int) := by omega
      iterate 7 still_step
      refine wpStill_append_same (by rfl) (.tmp 34) (.tmp 38) 85 (by rfl) (.slice (some ⟨g4, 0, none⟩) (L.length + 1) cap4) (.slice _ 0 _) (by rfl) (by rfl) (happ _ _) ?_
      simp only [Act.put, List.setIfInBounds_toArray, List.set_cons_zero, List.set_cons_succ]
      still_step
      refine wpStill_nil ?_
      change wpList _ _ _ _ _ w4.drew
      go_wp2_with fail
      obtain ⟨wE, hE, y0, y1, y2, y3, y4, kt6, bel6⟩ := set5E (T := [121, 71]) (v0 := .string nm) (v1 := .slice pc nc cc) (v2 := .int .i64 kn) (v3 := .slice none 0 0) (v4 := .slice (some ⟨g4, 0, none⟩) (L.length + 1) cap4) Q4.out.z (by decide)
      rw [hE]
      have hF2 : Hid (VRows wE.drew (.slice (some ⟨g4, 0, none⟩) (L.length + 1) cap4) (L ++ [r]) ∧ Below w.heap.size w wE.drew) := ⟨HF.out.keep (kt6.trans (KT.drew _ _)) (by simp) (by simp), (HB.out.trans (bel6 _ (by omega))).drew⟩
      clear kt6 bel6 HF HB hE Q4 z0 z1 z2 z3 z4 zf d0 d1 d2 d3 d4 happ
      exact bodyPost_ret (v := .agg #[.string nm, .slice pc nc cc, .int .i64 kn, .slice none 0 0, .slice (some ⟨g4, 0, none⟩) (L.length + 1) cap4]) (by simp [results, Tryz.results194, go_sem, y0, y1, y2, y3, y4]) rfl ⟨_, rfl, hF2.out.1, hF2.out.2⟩
end Go.Proofs.YtbjickdjkgefcaaGreatDoor
end
section
open Go Go.RowKit Go.Proofs.YtbjickdjkgefcaaGreatDoor.Vai
namespace Go.Proofs.YtbjickdjkgefcaaGreatDoor
set_option linter.unusedVariables false
set_option linter.unusedSimpArgs false
set_option maxRecDepth 20000
attribute [local go_sem ↓] Go.wp_at_zero Go.wp_at_succ
theorem rclashes_any (w : World) (nm : ByteArray) (pc : Option Addr) (nc cc kn : Nat) (pv : Option Addr) (nv cv : Nat) (rv : Value) : Calls Tryz.prog 193 #[tabV nm pc nc cc kn (.slice pv nv cv), rv] w fun e w' => e = .returned (.bool false) ∧ Below w.heap.size w w' := by
  unfold tabV
  go_enter Tryz.func193, Tryz.ntmps193
  go_wp2
  go_loop [5] (fun i => i = .int .i64 0) (fun _ => 1)
  case atStart => rfl
  case round =>
    subst hrel
    go_wp2
    exact bodyPost_ret (v := .bool false) (by simp [results, Tryz.results193, go_sem]) rfl ⟨rfl, (Below.refl _ _).alloc (Nat.le_refl _) _⟩
/-- What is known of a table's schema at the document's side: a row fits it. -/
structure RFitK (J : World → Prop) (nm : ByteArray) (pc : Option Addr) (nc cc kn : Nat) (r : List Int) : Prop where
  keep : ∀ w w', J w → Below w.heap.size w w' → J w'
  fits : ∀ w rv, J w → VRow w rv r → Calls Tryz.prog 192 #[.agg #[.string nm, .slice pc nc cc, .int .i64 kn, .slice none 0 0], rv] w fun e w' => e = .returned (.bool true) ∧ Below w.heap.size w w'
/-- The blocks of the call's own. -/
structure RPutB (w : World) (b : Nat) (nm : ByteArray) (pc : Option Addr) (nc cc kn : Nat) (v rv : Value) : Prop where
  t : w.heap[b]? = some (.cells #[.string nm, .slice pc nc cc, .int .i64 kn, .slice none 0 0, v] 87 (0, 0))
  x : w.heap[b + 1]? = some (.cells #[.int .i64 2, .string nm, .slice none 0 0, .slice none 0 0, rv, .string ⟨#[]⟩, .int .i64 0, .int .i64 0, .int .i64 0] 74 (0, 0))
  z : w.heap[b + 1 + 1]? = some (.cells #[.string ⟨#[]⟩, .slice none 0 0, .int .i64 0, .slice none 0 0, .slice none 0 0] 87 (0, 0))
  e : w.heap[b + 1 + 1 + 1]? = some (.cells #[.int .i64 0, .slice none 0 0] 106 (0, 0))
theorem RPutB.below {w w' : World} {b : Nat} {nm : ByteArray} {pc : Option Addr} {nc cc kn : Nat} {v rv : Value} (h : RPutB w b nm pc nc cc kn v rv) (hb : Below w.heap.size w w') : RPutB w' b nm pc nc cc kn v rv :=
  ⟨(hb.block _ (lt_of_heap h.t)).trans h.t, (hb.block _ (lt_of_heap h.x)).trans h.x, (hb.block _ (lt_of_heap h.z)).trans h.z, (hb.block _ (lt_of_heap h.e)).trans h.e⟩
theorem RPutB.start (w : World) (nm : ByteArray) (pc : Option Addr) (nc cc kn : Nat) (v rv : Value) {o1 o2 o3 o4 : Obj} (h1 : o1 = .cells #[.string nm, .slice pc nc cc, .int .i64 kn, .slice none 0 0, v] 87 (0, 0)) (h2 : o2 = .cells #[.int .i64 2, .string nm, .slice none 0 0, .slice none 0 0, rv, .string ⟨#[]⟩, .int .i64 0, .int .i64 0, .int .i64 0] 74 (0, 0))
    (h3 : o3 = .cells #[.string ⟨#[]⟩, .slice none 0 0, .int .i64 0, .slice none 0 0, .slice none 0 0] 87 (0, 0)) (h4 : o4 = .cells #[.int .i64 0, .slice none 0 0] 106 (0, 0)) : RPutB ((((w.alloc o1).alloc o2).alloc o3).alloc o4) w.heap.size nm pc nc cc kn v rv := by
  have a1 : (w.alloc o1).heap[w.heap.size]? = some o1 := heap_alloc_at
  have a2 : ((w.alloc o1).alloc o2).heap[w.heap.size + 1]? = some o2 := by simpa using @heap_alloc_at (w.alloc o1) o2
  have a3 : (((w.alloc o1).alloc o2).alloc o3).heap[w.heap.size + 1 + 1]? = some o3 := by simpa using @heap_alloc_at ((w.alloc o1).alloc o2) o3
  have a4 : ((((w.alloc o1).alloc o2).alloc o3).alloc o4).heap[w.heap.size + 1 + 1 + 1]? = some o4 := by simpa using @heap_alloc_at (((w.alloc o1).alloc o2).alloc o3) o4
  refine ⟨?_, ?_, ?_, ?_⟩
  · rw [Below.heap_alloc _ _ _ (by simp; omega), Below.heap_alloc _ _ _ (by simp; omega), Below.heap_alloc _ _ _ (by simp), a1, h1]
  · rw [Below.heap_alloc _ _ _ (by simp), Below.heap_alloc _ _ _ (by simp), a2, h2]
  · rw [Below.heap_alloc _ _ _ (by simp), a3, h3]
  · rw [a4, h4]
theorem RPutB.cells {w : World} {b : Nat} {nm : ByteArray} {pc : Option Addr} {nc cc kn : Nat} {v rv : Value} (h : RPutB w b nm pc nc cc kn v rv) :
    (w.cell? ⟨b, 0, none⟩ = some (.string nm) ∧ w.cell? ⟨b, 1, none⟩ = some (.slice pc nc cc) ∧ w.cell? ⟨b, 2, none⟩ = some (.int .i64 kn) ∧ w.cell? ⟨b, 3, none⟩ = some (.slice none 0 0) ∧ w.cell? ⟨b, 4, none⟩ = some v) ∧
    w.cell? ⟨b + 1, 4, none⟩ = some rv ∧
    (w.cell? ⟨b + 1 + 1, 0, none⟩ = some (.string ⟨#[]⟩) ∧ w.cell? ⟨b + 1 + 1, 1, none⟩ = some (.slice none 0 0) ∧ w.cell? ⟨b + 1 + 1, 2, none⟩ = some (.int .i64 0) ∧ w.cell? ⟨b + 1 + 1, 3, none⟩ = some (.slice none 0 0) ∧ w.cell? ⟨b + 1 + 1, 4, none⟩ = some (.slice none 0 0) ∧ ∀ i, w.frozen? ⟨b + 1 + 1, i, none⟩ = false) ∧
    (w.cell? ⟨b + 1 + 1 + 1, 0, none⟩ = some (.int .i64 0) ∧ w.cell? ⟨b + 1 + 1 + 1, 1, none⟩ = some (.slice none 0 0) ∧ ∀ i, w.frozen? ⟨b + 1 + 1 + 1, i, none⟩ = false) := by
  obtain ⟨a0, a1, a2, a3, a4, _⟩ := five_facts h.t
  refine ⟨⟨a0, a1, a2, a3, a4⟩, by unfold World.cell?; rw [h.x]; rfl, five_facts h.z, by unfold World.cell?; rw [h.e]; rfl, by unfold World.cell?; rw [h.e]; rfl, fun i => frozen_not h.e (by simp)⟩
theorem rput_end {w : World} {b : Nat} {nm : ByteArray} {pc : Option Addr} {nc cc kn : Nat} {v rv : Value} (h : RPutB w b nm pc nc cc kn v rv) {v0 v1 v2 v3 v4 u0 u1 : Value} :
    ∃ wE, (((((((w.setCell ⟨b + 1 + 1, 0, none⟩ v0).setCell ⟨b + 1 + 1, 1, none⟩ v1).setCell ⟨b + 1 + 1, 2, none⟩ v2).setCell ⟨b + 1 + 1, 3, none⟩ v3).setCell ⟨b + 1 + 1, 4, none⟩ v4).setCell ⟨b + 1 + 1 + 1, 0, none⟩ u0).setCell ⟨b + 1 + 1 + 1, 1, none⟩ u1) = wE ∧
      wE.cell? ⟨b + 1 + 1, 0, none⟩ = some v0 ∧ wE.cell? ⟨b + 1 + 1, 1, none⟩ = some v1 ∧ wE.cell? ⟨b + 1 + 1, 2, none⟩ = some v2 ∧ wE.cell? ⟨b + 1 + 1, 3, none⟩ = some v3 ∧ wE.cell? ⟨b + 1 + 1, 4, none⟩ = some v4 ∧ wE.cell? ⟨b + 1 + 1 + 1, 0, none⟩ = some u0 ∧ wE.cell? ⟨b + 1 + 1 + 1, 1, none⟩ = some u1 ∧
      KT [121, 71] w wE ∧ ∀ B, B ≤ b + 1 + 1 → Below B w wE := by
  obtain ⟨Z6, kt6, bel6⟩ := set5 (T := [121, 71]) (v0 := v0) (v1 := v1) (v2 := v2) (v3 := v3) (v4 := v4) h.z (by decide)
  have hZ6 : (((((w.setCell ⟨b + 1 + 1, 0, none⟩ v0).setCell ⟨b + 1 + 1, 1, none⟩ v1).setCell ⟨b + 1 + 1, 2, none⟩ v2).setCell ⟨b + 1 + 1, 3, none⟩ v3).setCell ⟨b + 1 + 1, 4, none⟩ v4).heap[b + 1 + 1 + 1]? = some (.cells #[.int .i64 0, .slice none 0 0] 106 (0, 0)) := by
    rw [Below.heap_setCell _ _ _ _ (by simp), Below.heap_setCell _ _ _ _ (by simp), Below.heap_setCell _ _ _ _ (by simp), Below.heap_setCell _ _ _ _ (by simp), Below.heap_setCell _ _ _ _ (by simp), h.e]
  obtain ⟨Z7, kt7, bel7⟩ := set2 (T := [121, 71]) (v0 := u0) (v1 := u1) hZ6 (by decide)
  have Z67 := (Below.heap_setCell _ (⟨b + 1 + 1 + 1, 1, none⟩ : Addr) u1 (b + 1 + 1) (by simp)).trans ((Below.heap_setCell _ (⟨b + 1 + 1 + 1, 0, none⟩ : Addr) u0 (b + 1 + 1) (by simp)).trans Z6)
  obtain ⟨y0, y1, y2, y3, y4, _⟩ := five_facts Z67
  exact ⟨_, rfl, y0, y1, y2, y3, y4, cell_of_heap Z7 0 u0 rfl, cell_of_heap Z7 1 u1 rfl, kt6.trans kt7, fun B hB => (bel6 B hB).trans (bel7 B (by omega))⟩
set_option maxHeartbeats 1000000 in
theorem rput_any (J : World → Prop) (w : World) (nm : ByteArray) (pc : Option Addr) (nc cc kn : Nat) (v : Value) (L : List (List Int)) (r : List Int) (rv : Value) (F : RFitK J nm pc nc cc kn r) (hJ : J w) (h : VRows w v L) (hnil : L = [] → v = .slice none 0 0) (hk : Last kn L (r.take kn)) (hr : VRow w rv r) (hrl : r.length ≤ 100) (hkl : kn ≤ r.length) (hl : ∀ l ∈ L, kn ≤ l.length) :
    Calls Tryz.prog 149 #[tabV nm pc nc cc kn v, opPut nm rv] w fun e w' => ∃ v', e = .returned (.tuple #[tabV nm pc nc cc kn v', .agg #[.int .i64 0, .slice none 0 0]]) ∧ VRows w' v' (L ++ [r]) ∧ Below w.heap.size w w' := by
  obtain ⟨g, cr, hrv, hg, hc1, hc2, hrc⟩ := hr.read
  have K1 := F.fits
  have K2 : ∀ w1, Below w.heap.size w w1 → Calls Tryz.prog 155 #[tabV nm pc nc cc kn v, .slice (some ⟨g, 0, none⟩) kn cr] w1 fun e w' => e = .returned (.tuple #[.int .i64 L.length, .bool false]) ∧ Below w1.heap.size w1 w' := fun w1 hw1 =>
    find_any w1 nm pc nc cc kn v L (r.take kn) g cr (h.keep (KT.below hw1 (Nat.le_refl _) : KT [121, 71] _ _) (by simp) (by simp)) hk (by omega) (by omega) (fun j u hj => by
      have h1 := hrc j u (vcells_take r kn j u hj)
      rw [World.cell?_of_block (w := w) (hw1.block _ (cell_lt h1)), h1]) hl
  have K3 := fun w' pv nv cv rv => rclashes_any w' nm pc nc cc kn pv nv cv rv
  have K4 : ∀ w1, Below w.heap.size w w1 → Calls Tryz.prog 194 #[tabV nm pc nc cc kn v, rv] w1 _ := fun w1 hw1 => rwith_any w1 nm pc nc cc kn v L r rv (h.keep (KT.below hw1 (Nat.le_refl _) : KT [121, 71] _ _) (by simp) (by simp)) hnil hk (hr.keep (KT.below hw1 (Nat.le_refl _) : KT [121] _ _) (by simp)) hrl hkl hl
  have HJ := Lib.hid hJ
  have HF := Lib.hid F
  have HR := Lib.hid hr
  have hLn := hk.1
  obtain ⟨p, cap, rfl⟩ : ∃ p cap, v = .slice p L.length cap := by
    obtain ⟨us, h1, _⟩ := h
    rcases h1.2 with ⟨rfl, h0⟩ | ⟨gg, cap, cur, rfl, _⟩
    · exact ⟨none, 0, by rw [h0]⟩
    · exact ⟨_, cap, rfl⟩
  subst hrv
  have f1 : (0 : Int) ≤ (kn : Int) := Int.natCast_nonneg _
  have f2 : (kn : Int) ≤ (cr : Int) := by omega
  clear h hr hk hJ F hrc hl hnil
  unfold tabV opPut at *
  go_enter Tryz.func149, Tryz.ntmps149
  go_wp2_with (first
    | (go_at_call 192; refine (K1 _ _ (HF.out.keep _ _ HJ.out (put_bel w _ _ _ _)) (HR.out.keep (KT.below (put_bel w _ _ _ _) (Nat.le_refl _) : KT [121] _ _) (by simp))).mono ?_; rintro e w1 ⟨rfl, hb1⟩; have q1 := (RPutB.start w nm pc nc cc kn (.slice p L.length cap) (.slice (some ⟨g, 0, none⟩) r.length cr) rfl rfl rfl rfl).below hb1; have b1 := (put_bel w _ _ _ _).trans (hb1.mono (put_bel w _ _ _ _).size)))
  have s1 := b1.size
  have lb := lt_of_heap q1.t
  have lb2 := lt_of_heap q1.x
  obtain ⟨⟨c0, c1, c2, c3, c4⟩, d4, ⟨z0, z1, z2, z3, z4, zf⟩, e0, e1, ef⟩ := q1.cells
  clear K1 hb1
  go_region_held3 (fun w' => w'.cell? ⟨w.heap.size, 0, none⟩ = some (.string nm) ∧ w'.cell? ⟨w.heap.size, 1, none⟩ = some (.slice pc nc cc) ∧ w'.cell? ⟨w.heap.size, 2, none⟩ = some (.int .i64 kn) ∧ w'.cell? ⟨w.heap.size, 3, none⟩ = some (.slice none 0 0) ∧ w'.cell? ⟨w.heap.size, 4, none⟩ = some (.slice p L.length cap) ∧ w'.cell? ⟨w.heap.size + 1, 4, none⟩ = some (.slice (some ⟨g, 0, none⟩) r.length cr))
    (first
      | exact ⟨c0, c1, c2, c3, c4, d4⟩
      | exact ⟨(hb2.cell lb).trans c0, (hb2.cell lb).trans c1, (hb2.cell lb).trans c2, (hb2.cell lb).trans c3, (hb2.cell lb).trans c4, (hb2.cell lb2).trans d4⟩)
    ((go_at_call 155; refine (K2 _ b1.drew).mono ?_; rintro e w2 ⟨rfl, hb2⟩))
  have q2 := (show RPutB w1.drew w.heap.size nm pc nc cc kn (.slice p L.length cap) (.slice (some ⟨g, 0, none⟩) r.length cr) from ⟨q1.t, q1.x, q1.z, q1.e⟩).below hb2
  have b2 : Below w.heap.size w w2 := b1.drew.trans (hb2.mono s1)
  clear c0 c1 c2 c3 c4 d4 z0 z1 z2 z3 z4 zf e0 e1 ef K2 hb2 q1 b1 s1 lb lb2
  obtain ⟨⟨c0, c1, c2, c3, c4⟩, d4, ⟨z0, z1, z2, z3, z4, zf⟩, e0, e1, ef⟩ := q2.cells
  go_wp2_with (first
    | (go_at_call 193; refine (K3 _ _ _ _ _).mono ?_; rintro e w3 ⟨rfl, hb3⟩; have q3 := q2.below hb3; have b3 := b2.trans (hb3.mono b2.size); obtain ⟨⟨c0, c1, c2, c3, c4⟩, d4, ⟨z0, z1, z2, z3, z4, zf⟩, e0, e1, ef⟩ := q3.cells)
    | (go_at_call 194; refine (K4 _ b3).mono ?_; rintro e w5 ⟨v5, rfl, hv5, hb5⟩; obtain ⟨p5, n5, c5, rfl⟩ := VRows_slice hv5; have q5 := q3.below hb5; obtain ⟨⟨c0, c1, c2, c3, c4⟩, d4, ⟨z0, z1, z2, z3, z4, zf⟩, e0, e1, ef⟩ := q5.cells))
  have b5 := b3.trans (hb5.mono b3.size)
  have s5 := b2.size
  obtain ⟨wE, hE, y0, y1, y2, y3, y4, x0, x1, ktE, belE⟩ := rput_end q5 (v0 := .string nm) (v1 := .slice pc nc cc) (v2 := .int .i64 kn) (v3 := .slice none 0 0) (v4 := .slice p5 n5 c5) (u0 := .int .i64 0) (u1 := .slice none 0 0)
  rw [hE]
  have hfin : Hid (VRows wE (.slice p5 n5 c5) (L ++ [r]) ∧ Below w.heap.size w wE) := ⟨hv5.keep ktE (by simp) (by simp), b5.trans (belE _ (by omega))⟩
  clear q2 q3 q5 hb3 hb5 K3 K4 b2 b3 b5 s5 hE ktE belE hv5
  exact bodyPost_ret (v := .tuple #[.agg #[.string nm, .slice pc nc cc, .int .i64 kn, .slice none 0 0, .slice p5 n5 c5], .agg #[.int .i64 0, .slice none 0 0]]) (by simp [results, Tryz.results149, go_sem, y0, y1, y2, y3, y4, x0, x1]) rfl ⟨_, rfl, hfin.out.1, hfin.out.2⟩
end Go.Proofs.YtbjickdjkgefcaaGreatDoor
end
section
open Go Go.RowKit Go.Proofs.YtbjickdjkgefcaaGreatDoor.Vai
namespace Go.Proofs.YtbjickdjkgefcaaGreatDoor
set_option linter.unusedVariables false
set_option linter.unusedSimpArgs false
set_option maxRecDepth 20000
attribute [local go_sem ↓] Go.wp_at_zero Go.wp_at_succ
structure RTab where
  nm : ByteArray
  c : Cols
  kn : Nat
  v : Value
def RTab.cells (t : RTab) : List Value := [.string t.nm, .slice t.c.p t.c.n t.c.c, .int .i64 t.kn, .slice none 0 0, t.v]
def rcells (l : List RTab) : List Value := l.flatMap RTab.cells
theorem rcells_length (l : List RTab) : (rcells l).length = l.length * 5 := by
  induction l with
  | nil => rfl
  | cons t l ih => simp only [rcells, List.flatMap_cons, List.length_append, List.length_cons] at ih ⊢; rw [ih]; show 5 + _ = _; omega
theorem rcells_at : ∀ (l : List RTab) (i o : Nat) (t : RTab) (v : Value), l[i]? = some t → t.cells[o]? = some v → (rcells l)[i * 5 + o]? = some v := by
  intro l
  induction l with
  | nil => intro i o t v h; simp at h
  | cons x l ih =>
    intro i o t v h1 h2
    have ho : o < 5 := (List.getElem?_eq_some_iff.1 h2).1
    cases i with
    | zero =>
      simp at h1; subst h1
      rw [Nat.zero_mul, Nat.zero_add]
      simp only [rcells, List.flatMap_cons]
      rw [List.getElem?_append_left (by show o < 5; exact ho)]; exact h2
    | succ i =>
      simp only [rcells, List.flatMap_cons]
      rw [List.getElem?_append_right (by show 5 ≤ _; omega)]
      have : (i + 1) * 5 + o - x.cells.length = i * 5 + o := by show (i + 1) * 5 + o - 5 = _; omega
      rw [this]
      exact ih i o t v (by simpa using h1) h2
/-- A row of tables that is read. -/
def RRow (w : World) (v : Value) (n : Nat) (xs : List Value) : Prop := ∃ g cap cur, v = .slice (some ⟨g, 0, none⟩) n cap ∧ w.heap[g]? = some (.cells cur 87 (0, 0)) ∧ n ≤ cap ∧ cur.toList.take (n * 5) = xs
theorem RRow.of_own {w : World} {base : Nat} {v : Value} {n : Nat} {xs : List Value} (h : w.ownsRow base 87 5 v n xs) (hn : 0 < n) : RRow w v n xs := by
  rcases h.2 with ⟨_, h0⟩ | ⟨g, cap, cur, rfl, _, hg, h1, _, _, h4⟩
  · omega
  · exact ⟨g, cap, cur, rfl, hg, h1, h4⟩
theorem RRow.keep {w w' : World} {v : Value} {n : Nat} {xs : List Value} {T : List TypeId} (h : RRow w v n xs) (k : KT T w w') (hT : 87 ∈ T) : RRow w' v n xs := by
  obtain ⟨g, cap, cur, h1, h2, h3, h4⟩ := h
  exact ⟨g, cap, cur, h1, k _ _ _ _ h2 hT, h3, h4⟩
theorem RRow.read {w : World} {v : Value} {n : Nat} {xs : List Value} (h : RRow w v n xs) : ∃ g cap, v = .slice (some ⟨g, 0, none⟩) n cap ∧ g < w.heap.size ∧ n ≤ cap ∧ ∀ j u, xs[j]? = some u → w.cell? ⟨g, j, none⟩ = some u := by
  obtain ⟨g, cap, cur, rfl, hg, h1, h4⟩ := h
  refine ⟨g, cap, rfl, lt_of_heap hg, h1, fun j u hj => ?_⟩
  have h5 : cur.toList[j]? = some u := by
    rw [← h4, List.getElem?_take] at hj
    split at hj
    · exact hj
    · cases hj
  simp only [World.cell?, hg]
  simpa using h5
/-- The document's data: tables in a row. -/
structure RData (w : World) (d : Nat) (l : List RTab) : Prop where
  tabs : ∃ v, w.cell? ⟨d, 1, none⟩ = some v ∧ w.frozen? ⟨d, 1, none⟩ = false ∧ RRow w v l.length (rcells l)
theorem RData.read {w : World} {d : Nat} {l : List RTab} (h : RData w d l) (hn : 0 < l.length) : ∃ g cap, w.cell? ⟨d, 1, none⟩ = some (.slice (some ⟨g, 0, none⟩) l.length cap) ∧ w.frozen? ⟨d, 1, none⟩ = false ∧ g < w.heap.size ∧ l.length ≤ cap ∧ ∀ i o t v, l[i]? = some t → t.cells[o]? = some v → w.cell? ⟨g, i * 5 + o, none⟩ = some v := by
  obtain ⟨v, h1, h2, h3⟩ := h.tabs
  obtain ⟨g, cap, rfl, hg, hc, hr⟩ := h3.read
  exact ⟨g, cap, h1, h2, hg, hc, fun i o t v ht hv => hr _ _ (rcells_at l i o t v ht hv)⟩
/-- The place of a table. -/
theorem rplace_any (w : World) (d : Nat) (l : List RTab) (q : Nat) (t : RTab) (hq : l[q]? = some t) (hne : ∀ i x, i < q → l[i]? = some x → (x.nm.toList == t.nm.toList) = false) (hl : l.length ≤ 100) (h : RData w d l) :
    Calls Tryz.prog 68 #[.pointer (some ⟨d, 0, none⟩), .string t.nm] w fun e w' => e = .returned (.int .i64 q) ∧ w' = w := by
  have hql : q < l.length := (List.getElem?_eq_some_iff.1 hq).1
  obtain ⟨g, cap, hd, _, hg, hcap, hr⟩ := h.read (by omega)
  have HR := Lib.hid hr
  have HN := Lib.hid hne
  have HQ := Lib.hid hq
  obtain ⟨nm, hnm⟩ : ∃ n, n = t.nm := ⟨_, rfl⟩
  rw [← hnm]
  have HNM := Lib.hid hnm
  clear hr hne hq h hnm
  go_enter Tryz.func68, Tryz.ntmps68
  go_wp2_with fail
  go_loop [5] (fun i => ∃ k : Nat, i = .int .i64 k ∧ k ≤ q) (fun i => q + 1 - (intOf i).toNat)
  case atStart => exact ⟨0, rfl, Nat.zero_le _⟩
  case round =>
    obtain ⟨k, rfl, hk⟩ := hrel
    obtain ⟨x, hx⟩ : ∃ x, l[k]? = some x := ⟨_, List.getElem?_eq_getElem (by omega)⟩
    have c0 : w.cell? ⟨g, k * 5, none⟩ = some (.string x.nm) := HR.out k 0 x _ hx rfl
    by_cases hkq : k < q
    · have hf : (x.nm.toList == nm.toList) = false := by rw [HNM.out]; exact HN.out k x hkq hx
      clear hx
      go_wp2_with fail
      exact ⟨⟨k + 1, by go_num, hkq⟩, by simp [intOf]; omega⟩
    · obtain rfl : k = q := by omega
      have : x.nm = nm := by have := HQ.out; rw [hx] at this; cases this; exact HNM.out.symm
      rw [this] at c0
      clear hx this
      go_wp2_with fail
      go_ret
      exact ⟨rfl, rfl⟩
theorem one_bel (w : World) (o1 o2 o3 o4 : Obj) : Below w.heap.size w ((((w.alloc o1).alloc o2).alloc o3).alloc o4) := put_bel w o1 o2 o3 o4
set_option maxHeartbeats 1000000 in
theorem one_any (J : World → Prop) (w : World) (nm : ByteArray) (pc : Option Addr) (nc cc kn : Nat) (v : Value) (L : List (List Int)) (r : List Int) (rv : Value) (F : RFitK J nm pc nc cc kn r) (hJ : J w) (h : VRows w v L) (hnil : L = [] → v = .slice none 0 0) (hk : Last kn L (r.take kn)) (hr : VRow w rv r) (hrl : r.length ≤ 100) (hkl : kn ≤ r.length) (hl : ∀ l ∈ L, kn ≤ l.length) :
    Calls Tryz.prog 108 #[tabV nm pc nc cc kn v, opPut nm rv] w fun e w' => ∃ v', e = .returned (.tuple #[tabV nm pc nc cc kn v', .agg #[.int .i64 0, .slice none 0 0]]) ∧ VRows w' v' (L ++ [r]) ∧ Below w.heap.size w w' := by
  have K : ∀ w1, Below w.heap.size w w1 → Calls Tryz.prog 149 #[tabV nm pc nc cc kn v, opPut nm rv] w1 _ := fun w1 hw1 => rput_any J w1 nm pc nc cc kn v L r rv F (F.keep _ _ hJ hw1) (h.keep (KT.below hw1 (Nat.le_refl _) : KT [121, 71] _ _) (by simp) (by simp)) hnil hk (hr.keep (KT.below hw1 (Nat.le_refl _) : KT [121] _ _) (by simp)) hrl hkl hl
  obtain ⟨p, n, cap, rfl⟩ := VRows_slice h
  obtain ⟨pr, nr, cr, rfl⟩ := ownsRow_slice hr.2
  clear F hJ h hnil hk hr hl
  unfold tabV opPut at *
  go_enter Tryz.func108, Tryz.ntmps108
  go_wp2_with (first
    | (go_at_call 149; refine (K _ (one_bel w _ _ _ _)).mono ?_; rintro e w1 ⟨v1, rfl, hv1, hb1⟩; obtain ⟨p1, n1, c1, rfl⟩ := VRows_slice hv1; have q1 := (RPutB.start w nm pc nc cc kn (.slice p n cap) (.slice pr nr cr) rfl rfl rfl rfl).below hb1; obtain ⟨⟨c0, c1', c2, c3, c4⟩, d4, ⟨z0, z1, z2, z3, z4, zf⟩, e0, e1, ef⟩ := q1.cells))
  obtain ⟨wE, hE, y0, y1, y2, y3, y4, x0, x1, ktE, belE⟩ := rput_end q1 (v0 := .string nm) (v1 := .slice pc nc cc) (v2 := .int .i64 kn) (v3 := .slice none 0 0) (v4 := .slice p1 n1 c1) (u0 := .int .i64 0) (u1 := .slice none 0 0)
  rw [hE]
  have hfin : Hid (VRows wE (.slice p1 n1 c1) (L ++ [r]) ∧ Below w.heap.size w wE) := ⟨hv1.keep ktE (by simp) (by simp), ((one_bel w _ _ _ _).trans (hb1.mono (one_bel w _ _ _ _).size)).trans (belE _ (by omega))⟩
  clear q1 hb1 K hE ktE belE hv1
  exact bodyPost_ret (v := .tuple #[.agg #[.string nm, .slice pc nc cc, .int .i64 kn, .slice none 0 0, .slice p1 n1 c1], .agg #[.int .i64 0, .slice none 0 0]]) (by simp [results, Tryz.results108, go_sem, y0, y1, y2, y3, y4, x0, x1]) rfl ⟨_, rfl, hfin.out.1, hfin.out.2⟩
end Go.Proofs.YtbjickdjkgefcaaGreatDoor
end
section
open Go Go.RowKit Go.Proofs.YtbjickdjkgefcaaGreatDoor.Vai
namespace Go.Proofs.YtbjickdjkgefcaaGreatDoor
set_option linter.unusedVariables false
set_option linter.unusedSimpArgs false
set_option maxRecDepth 20000
theorem info66 : (Tryz.prog.info? 66).map (fun i => i.size) = some 2 := by kernel_rfl
theorem info87' : (Tryz.prog.info? 87).map (fun i => (i.zero, i.size, i.bytes)) = some (some (.agg #[.string ⟨#[]⟩, .slice none 0 0, .int .i64 0, .slice none 0 0, .slice none 0 0]), 5, 96) := by kernel_rfl
theorem info87 : ∃ i z, Tryz.prog.info? 87 = some i ∧ i.zero = some z ∧ i.size = 5 ∧ i.bytes = 96 ∧ z.cells.size = 5 := by
  have h := info87'
  cases hi : Tryz.prog.info? 87 with
  | none => rw [hi] at h; cases h
  | some i =>
    rw [hi] at h
    simp only [Option.map_some, Option.some.injEq, Prod.mk.injEq] at h
    exact ⟨i, _, rfl, h.1, h.2.1, h.2.2, rfl⟩
/-- A block of at least two cells. -/
def TwoAt (w : World) (d : Nat) (x v : Value) : Prop := ∃ cs : Array Value, w.heap[d]? = some (.cells cs 66 (0, 0)) ∧ cs[0]? = some x ∧ cs[1]? = some v
theorem two_of {w : World} {b : Nat} {cs : Array Value} {t : TypeId} {v0 v1 : Value} (h : w.heap[b]? = some (.cells cs t (0, 0))) (h0 : cs[0]? = some v0) (h1 : cs[1]? = some v1) :
    w.cell? ⟨b, 0, none⟩ = some v0 ∧ w.cell? ⟨b, 1, none⟩ = some v1 ∧ ∀ i, w.frozen? ⟨b, i, none⟩ = false :=
  ⟨cell_of_heap h 0 _ h0, cell_of_heap h 1 _ h1, fun i => frozen_not h (by simp)⟩
/-- The document's data: tables in a row, and their rows. -/
structure RDat (w : World) (d : Nat) (x : Value) (l : List RTab) (R : Nat → List (List Int)) : Prop where
  blk : ∃ v, TwoAt w d x v ∧ RRow w v l.length (rcells l)
  rows : ∀ i t, l[i]? = some t → VRows w t.v (R i) ∧ (R i = [] → t.v = .slice none 0 0)
theorem RDat.data {w : World} {d : Nat} {x : Value} {l : List RTab} {R : Nat → List (List Int)} (h : RDat w d x l R) : RData w d l := by
  obtain ⟨v, ⟨cs, h1, _, hv⟩, h2⟩ := h.blk
  exact ⟨⟨v, cell_of_heap h1 1 _ hv, frozen_not h1 (by simp), h2⟩⟩
theorem RDat.keep {w w' : World} {d : Nat} {x : Value} {l : List RTab} {R : Nat → List (List Int)} {T : List TypeId} (h : RDat w d x l R) (k : KT T w w') (h1 : 66 ∈ T) (h2 : 87 ∈ T) (h3 : 121 ∈ T) (h4 : 71 ∈ T) : RDat w' d x l R := by
  obtain ⟨v, ⟨cs, q1, e0, e1⟩, q2⟩ := h.blk
  exact ⟨⟨v, ⟨cs, k _ _ _ _ q1 h1, e0, e1⟩, q2.keep k h2⟩, fun i t hi => ⟨(h.rows i t hi).1.keep k h3 h4, (h.rows i t hi).2⟩⟩
theorem KT.grownAt {T : List TypeId} {w w' : World} {d : Nat} {cs : Array Value} {t : TypeId} {fr : Nat × Nat} (hg : w.grownBy w' (some d)) (h : w.heap[d]? = some (.cells cs t fr)) (hT : t ∉ T) : KT T w w' := by
  intro q c ty f hq hm
  rw [hg.block q (lt_of_heap hq) ?_]; exact hq
  intro e1
  cases e1
  rw [h] at hq; cases hq; exact hT hm
theorem rcells_set : ∀ (l : List RTab) (q : Nat) (t : RTab) (v : Value), l[q]? = some t → rcells (l.set q { t with v := v }) = (rcells l).set (q * 5 + 4) v := by
  intro l
  induction l with
  | nil => intro q t v h; simp at h
  | cons x l ih =>
    intro q t v h
    cases q with
    | zero =>
      simp at h; subst h
      simp [rcells, RTab.cells]
    | succ q =>
      have := ih q t v (by simpa using h)
      simp only [rcells, List.set_cons_succ, List.flatMap_cons] at this ⊢
      rw [this, List.set_append_right _ _ (by show 5 ≤ _; omega)]
      congr 2
      show _ = (q + 1) * 5 + 4 - 5; omega
theorem rcells_same (l : List RTab) (q o : Nat) (t : RTab) (v : Value) (h : l[q]? = some t) (ho : t.cells[o]? = some v) : (rcells l).set (q * 5 + o) v = rcells l := by
  have := rcells_at l q o t v h ho
  apply List.ext_getElem?
  intro i
  rw [List.getElem?_set]
  split
  · rename_i h1; subst h1; split
    · exact this.symm
    · rename_i h2; exact absurd (List.getElem?_eq_some_iff.1 this).1 h2
  · rfl

def updL {α : Type} (R : Nat → α) (q : Nat) (x : α) : Nat → α := fun i => if i = q then x else R i

theorem KT.stored {T : List TypeId} {w : World} {base g n cap size j : Nat} {e : TypeId} {xs : List Value} {u : Value} (h : w.ownsRow base e size (.slice (some ⟨g, 0, none⟩) n cap) n xs) (hn : 0 < n) (hT : e ∉ T) : KT T w (w.setCell ⟨g, j, none⟩ u) := by
  rcases h.2 with ⟨h1, h0⟩ | ⟨g', cap', cur, h1, hb, hg, _⟩
  · cases h1
  · cases h1
    exact KT.setCell hg hT
set_option maxHeartbeats 2000000 in
theorem rdo_end {w w3 : World} {d g cap q b B : Nat} {x u e0 e1 : Value} {l : List RTab} {t : RTab} {R : Nat → List (List Int)} {r : List Int} {p2 : Option Addr} {n2 c2 : Nat} (hq : l[q]? = some t) (hrows : ∀ i t', l[i]? = some t' → VRows w3 t'.v (R i) ∧ (R i = [] → t'.v = .slice none 0 0)) (hv : VRows w3 (.slice p2 n2 c2) (R q ++ [r]))
    (hown : w3.ownsRow B 87 5 (.slice (some ⟨g, 0, none⟩) l.length cap) l.length (rcells l)) (hd : TwoAt w3 d x u) (hres : w3.heap[b]? = some (.cells #[e0, e1] 106 (0, 0))) (hw : w.grownBy w3 (some d)) (hB : w.heap.size ≤ B) (hb : w.heap.size ≤ b) :
    ∃ wE, ((((((((w3.setCell ⟨g, q * 5, none⟩ (.string t.nm)).setCell ⟨g, q * 5 + 1, none⟩ (.slice t.c.p t.c.n t.c.c)).setCell ⟨g, q * 5 + 2, none⟩ (.int .i64 t.kn)).setCell ⟨g, q * 5 + 3, none⟩ (.slice none 0 0)).setCell ⟨g, q * 5 + 4, none⟩ (.slice p2 n2 c2)).setCell ⟨d, 1, none⟩ (.slice (some ⟨g, 0, none⟩) l.length cap)).setCell ⟨b, 0, none⟩ (.int .i64 0)).setCell ⟨b, 1, none⟩ (.slice none 0 0)) = wE ∧
      wE.cell? ⟨b, 0, none⟩ = some (.int .i64 0) ∧ wE.cell? ⟨b, 1, none⟩ = some (.slice none 0 0) ∧ RDat wE d x (l.set q { t with v := .slice p2 n2 c2 }) (updL R q (R q ++ [r])) ∧ w.grownBy wE (some d) := by
  have hn : 0 < l.length := by have := (List.getElem?_eq_some_iff.1 hq).1; omega
  obtain ⟨hgB, hgl⟩ := hown.lt g rfl
  have o1 := (hown.stored (q * 5) (.string t.nm)).1
  have k1 : KT [121, 71, 66, 106] _ _ := KT.stored (j := q * 5) (u := .string t.nm) hown hn (by decide)
  have o2 := (o1.stored (q * 5 + 1) (.slice t.c.p t.c.n t.c.c)).1
  have k2 : KT [121, 71, 66, 106] _ _ := KT.stored (j := q * 5 + 1) (u := .slice t.c.p t.c.n t.c.c) o1 hn (by decide)
  have o3 := (o2.stored (q * 5 + 2) (.int .i64 t.kn)).1
  have k3 : KT [121, 71, 66, 106] _ _ := KT.stored (j := q * 5 + 2) (u := .int .i64 t.kn) o2 hn (by decide)
  have o4 := (o3.stored (q * 5 + 3) (.slice none 0 0)).1
  have k4 : KT [121, 71, 66, 106] _ _ := KT.stored (j := q * 5 + 3) (u := .slice none 0 0) o3 hn (by decide)
  have o5 := (o4.stored (q * 5 + 4) (.slice p2 n2 c2)).1
  have k5 : KT [121, 71, 66, 106] _ _ := KT.stored (j := q * 5 + 4) (u := .slice p2 n2 c2) o4 hn (by decide)
  have r0 := rcells_same l q 0 t (.string t.nm) hq rfl
  rw [Nat.add_zero] at r0
  rw [r0, rcells_same l q 1 t _ hq rfl, rcells_same l q 2 t _ hq rfl, rcells_same l q 3 t _ hq rfl, ← rcells_set l q t _ hq] at o5
  have k15 := (((k1.trans k2).trans k3).trans k4).trans k5
  obtain ⟨cs, hd, hx, hu⟩ := hd
  have d5 := k15 _ _ _ _ hd (by simp)
  have r5 := k15 _ _ _ _ hres (by simp)
  have blk5 : ∀ k, k < B → (((((w3.setCell ⟨g, q * 5, none⟩ (.string t.nm)).setCell ⟨g, q * 5 + 1, none⟩ (.slice t.c.p t.c.n t.c.c)).setCell ⟨g, q * 5 + 2, none⟩ (.int .i64 t.kn)).setCell ⟨g, q * 5 + 3, none⟩ (.slice none 0 0)).setCell ⟨g, q * 5 + 4, none⟩ (.slice p2 n2 c2)).heap[k]? = w3.heap[k]? := fun k hk => by
    have hne : k ≠ g := by omega
    rw [Below.heap_setCell _ _ _ _ hne, Below.heap_setCell _ _ _ _ hne, Below.heap_setCell _ _ _ _ hne, Below.heap_setCell _ _ _ _ hne, Below.heap_setCell _ _ _ _ hne]
  have s5 : w3.heap.size ≤ (((((w3.setCell ⟨g, q * 5, none⟩ (.string t.nm)).setCell ⟨g, q * 5 + 1, none⟩ (.slice t.c.p t.c.n t.c.c)).setCell ⟨g, q * 5 + 2, none⟩ (.int .i64 t.kn)).setCell ⟨g, q * 5 + 3, none⟩ (.slice none 0 0)).setCell ⟨g, q * 5 + 4, none⟩ (.slice p2 n2 c2)).heap.size := by simp
  have t5 : (((((w3.setCell ⟨g, q * 5, none⟩ (.string t.nm)).setCell ⟨g, q * 5 + 1, none⟩ (.slice t.c.p t.c.n t.c.c)).setCell ⟨g, q * 5 + 2, none⟩ (.int .i64 t.kn)).setCell ⟨g, q * 5 + 3, none⟩ (.slice none 0 0)).setCell ⟨g, q * 5 + 4, none⟩ (.slice p2 n2 c2)).os = w3.os ∧ (((((w3.setCell ⟨g, q * 5, none⟩ (.string t.nm)).setCell ⟨g, q * 5 + 1, none⟩ (.slice t.c.p t.c.n t.c.c)).setCell ⟨g, q * 5 + 2, none⟩ (.int .i64 t.kn)).setCell ⟨g, q * 5 + 3, none⟩ (.slice none 0 0)).setCell ⟨g, q * 5 + 4, none⟩ (.slice p2 n2 c2)).tape = w3.tape ∧ (((((w3.setCell ⟨g, q * 5, none⟩ (.string t.nm)).setCell ⟨g, q * 5 + 1, none⟩ (.slice t.c.p t.c.n t.c.c)).setCell ⟨g, q * 5 + 2, none⟩ (.int .i64 t.kn)).setCell ⟨g, q * 5 + 3, none⟩ (.slice none 0 0)).setCell ⟨g, q * 5 + 4, none⟩ (.slice p2 n2 c2)).output = w3.output := ⟨rfl, rfl, rfl⟩
  generalize (((((w3.setCell ⟨g, q * 5, none⟩ (.string t.nm)).setCell ⟨g, q * 5 + 1, none⟩ (.slice t.c.p t.c.n t.c.c)).setCell ⟨g, q * 5 + 2, none⟩ (.int .i64 t.kn)).setCell ⟨g, q * 5 + 3, none⟩ (.slice none 0 0)).setCell ⟨g, q * 5 + 4, none⟩ (.slice p2 n2 c2)) = w5 at *
  have hdb : b ≠ d := fun e => by subst e; rw [d5] at r5; simp at r5
  have d6 : (w5.setCell ⟨d, 1, none⟩ (.slice (some ⟨g, 0, none⟩) l.length cap)).heap[d]? = some (.cells (cs.setIfInBounds 1 (.slice (some ⟨g, 0, none⟩) l.length cap)) 66 (0, 0)) := heap_setCell_at (o := 1) d5
  have k6 : KT [121, 71, 87, 106] w5 (w5.setCell ⟨d, 1, none⟩ (.slice (some ⟨g, 0, none⟩) l.length cap)) := KT.setCell d5 (by decide)
  have o6 := ownsRow_keep o5 k6 (by simp)
  have r6 := k6 _ _ _ _ r5 (by simp)
  have blk6 : ∀ k, k ≠ d → (w5.setCell ⟨d, 1, none⟩ (.slice (some ⟨g, 0, none⟩) l.length cap)).heap[k]? = w5.heap[k]? := fun k hk => Below.heap_setCell _ _ _ _ hk
  have s6 : w5.heap.size ≤ (w5.setCell ⟨d, 1, none⟩ (.slice (some ⟨g, 0, none⟩) l.length cap)).heap.size := by simp
  have t6 : (w5.setCell ⟨d, 1, none⟩ (.slice (some ⟨g, 0, none⟩) l.length cap)).os = w5.os ∧ (w5.setCell ⟨d, 1, none⟩ (.slice (some ⟨g, 0, none⟩) l.length cap)).tape = w5.tape ∧ (w5.setCell ⟨d, 1, none⟩ (.slice (some ⟨g, 0, none⟩) l.length cap)).output = w5.output := ⟨rfl, rfl, rfl⟩
  generalize (w5.setCell ⟨d, 1, none⟩ (.slice (some ⟨g, 0, none⟩) l.length cap)) = w6 at *
  obtain ⟨Z7, k7, bel7⟩ := set2 (T := [121, 71, 87, 66]) (v0 := .int .i64 0) (v1 := .slice none 0 0) r6 (by decide)
  have b7 := bel7 w.heap.size hb
  refine ⟨_, rfl, cell_of_heap Z7 0 _ rfl, cell_of_heap Z7 1 _ rfl, ⟨⟨_, ⟨_, k7 _ _ _ _ d6 (by simp), by rw [Array.getElem?_setIfInBounds_ne (by decide)]; exact hx, Array.getElem?_setIfInBounds_self_of_lt (Array.getElem?_eq_some_iff.1 hu).1⟩, ?_⟩, ?_⟩, ⟨b7.os.trans (t6.1.trans (t5.1.trans hw.os)), b7.tape.trans (t6.2.1.trans (t5.2.1.trans hw.tape)), b7.output.trans (t6.2.2.trans (t5.2.2.trans hw.output)), by have := b7.size; have := hw.size; omega, fun k hk hne => ?_⟩⟩
  · rw [List.length_set]
    exact RRow.of_own (ownsRow_keep o6 k7 (by simp)) hn
  · have kk : KT [121, 71] w3 _ := ((k15.sub (by simp)).trans (k6.sub (by simp))).trans (k7.sub (by simp))
    intro i t' hi
    rw [List.getElem?_set] at hi
    unfold updL
    split at hi
    · rename_i e; subst e
      rw [if_pos rfl]
      split at hi
      · cases hi
        exact ⟨hv.keep kk (by simp) (by simp), fun h => by simp at h⟩
      · cases hi
    · rename_i e
      rw [if_neg (fun e2 => e e2.symm)]
      exact ⟨(hrows i t' hi).1.keep kk (by simp) (by simp), (hrows i t' hi).2⟩
  · rw [b7.block k hk, blk6 k (fun e => hne (by rw [e])), blk5 k (by omega), hw.block k hk hne]
end Go.Proofs.YtbjickdjkgefcaaGreatDoor
end
