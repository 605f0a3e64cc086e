/- The head of the document's Load: its tables, one by one. -/
import Derived.Test.YtbjickdjkgefcaaGreatDoorLH3
import Derived.Test.YtbjickdjkgefcaaGreatDoorLE4a
import Derived.Test.YtbjickdjkgefcaaGreatDoorLE4b
import Derived.Test.YtbjickdjkgefcaaGreatDoorLE4c
import Derived.Test.YtbjickdjkgefcaaGreatDoorLE0
import Derived.Test.YtbjickdjkgefcaaGreatDoorLG3
section
open Go Go.RowKit Go.Proofs.YtbjickdjkgefcaaGreatDoor.Vai
noncomputable section
namespace Go.Proofs.YtbjickdjkgefcaaGreatDoor
set_option linter.unusedVariables false
set_option linter.unusedSimpArgs false
set_option maxRecDepth 100000
/-- Where the document's data lie: data, catalogue. -/
structure Two where
  d : Nat
  c : Nat
def Two.l (q : Two) : List Nat := [q.d, q.c]
/-- The name ahead stands ahead of place p. -/
def RPlace (a : ByteArray) (p : Nat) : Prop := ∀ g ∈ factsR p, g.ok (sg a)
structure RCS (pre : Bool) (a : ByteArray) (p : Nat) (q : Two) (w0 : World) (k : Nat) (w : World) (ts : List Tgt) : Prop where
  lies : Lies w (specR p (tabsP pre k)) ts (sg a)
  two : (ts.map (·.blk)).take 2 = q.l
  keep : KeepL q.l w0 w
theorem specR_owned {p : Nat} {l : List Nat} : ∀ (k : Nat) (sp : BSpec), (specR p l)[k]? = some sp → sp.owned = true → k = 0 ∨ k = 1 := by
  intro k sp h ho
  have hcb : ∀ (l : List Nat), ∀ s ∈ colBs l, s.owned = false := by
    intro l
    induction l with
    | nil => intro s h; simp [colBs] at h
    | cons y l ih =>
      intro s h
      simp only [colBs, List.mem_cons] at h
      rcases h with rfl | rfl | h
      · rfl
      · rfl
      · exact ih s h
  cases l with
  | nil =>
    match k with
    | 0 => exact .inl rfl
    | 1 => exact .inr rfl
    | k + 2 => simp [specR] at h
  | cons x l =>
    match k with
    | 0 => exact .inl rfl
    | 1 => exact .inr rfl
    | 2 => cases h; cases ho
    | 3 => cases h; cases ho
    | k + 4 =>
      have hm : sp ∈ colBs (x :: l) := List.mem_of_getElem? (i := k) (by simpa [specR] using h)
      rw [hcb _ sp hm] at ho; cases ho
theorem RCS.at_ {pre : Bool} {a : ByteArray} {p : Nat} {q : Two} {w0 w : World} {k : Nat} {ts : List Tgt} (h : RCS pre a p q w0 k w ts) : (∃ t, ts[0]? = some t ∧ t.blk = q.d) ∧ ∃ t, ts[1]? = some t ∧ t.blk = q.c := by
  have h4 := h.two
  match ts, h4 with
  | t0 :: t1 :: l, h4 =>
    simp [Two.l] at h4
    exact ⟨⟨t0, rfl, h4.1⟩, ⟨t1, rfl, h4.2⟩⟩
  | [], h4 => simp [Two.l] at h4
  | [_], h4 => simp [Two.l] at h4
theorem RCS.hown {pre : Bool} {a : ByteArray} {p : Nat} {q : Two} {w0 w : World} {k : Nat} {ts : List Tgt} (h : RCS pre a p q w0 k w ts) : ∀ (i : Nat) (t : Tgt) (sp : BSpec), ts[i]? = some t → (specR p (tabsP pre k))[i]? = some sp → sp.owned = true → t.blk ∈ q.l := by
  obtain ⟨⟨t2, e2, b2⟩, t3, e3, b3⟩ := h.at_
  intro i t sp ht hsp ho
  rcases specR_owned i sp hsp ho with rfl | rfl
  · rw [e2] at ht; cases ht; simp [Two.l, b2]
  · rw [e3] at ht; cases ht; simp [Two.l, b3]
theorem RCS.below {pre : Bool} {a : ByteArray} {p : Nat} {q : Two} {w0 w w' : World} {k : Nat} {ts : List Tgt} (h : RCS pre a p q w0 k w ts) (hb : Below w.heap.size w w') : RCS pre a p q w0 k w' ts :=
  ⟨h.lies.below hb, h.two, h.keep.trans (KeepL.of_below hb)⟩
def RCw (pre : Bool) (a : ByteArray) (p : Nat) (q : Two) (w0 : World) (k : Nat) (w : World) : Prop := ∃ ts, RCS pre a p q w0 k w ts
/-- With the schemas that Tables has told. -/
def RTw (pre : Bool) (a : ByteArray) (p : Nat) (q : Two) (w0 : World) (k : Nat) (w : World) (tb : Nat) : Prop :=
  ∃ ts tT t1, RCS pre a p q w0 k w ts ∧ Lies w specT tT (sg a) ∧ tT[0]? = some t1 ∧ t1.blk = tb ∧ ∀ x ∈ tT.map (·.blk), x ∉ ts.map (·.blk)
theorem rtab2_any (sig : Sig) (w : World) : Calls Tryz.prog 5 #[] w fun e w' => ∃ tb cap tT t1, e = .returned (.slice (some ⟨tb, 0, none⟩) 8 cap) ∧ Lies w' specT tT sig ∧ tT[0]? = some t1 ∧ t1.blk = tb ∧ (∀ x ∈ tT.map (·.blk), w.heap.size ≤ x) ∧ Below w.heap.size w w' := by
  have h0 : Lies w [] [] sig := ⟨rfl, by simp, fun k t sp h => by simp at h, fun k t h => by simp at h⟩
  refine (run_own kn0_ok [] h0 (facts := []) (fun g h => by cases h) (fun k t sp ht => by simp at ht) (ng := 0) (Nat.zero_le _) (fun g t hg => absurd hg (Nat.not_lt_zero _)) (args := []) (cargs := []) .nil rtab_ok).mono ?_
  rintro e w' ⟨ψ, u, c, ts', rfl, hu, hvr, hr, hs, hk⟩
  have hl : ts'.length = 9 := hr.len
  obtain rfl := veq_sound _ _ hu
  cases hvr with
  | slice v o t l c c' h' h1 h2 =>
    obtain ⟨q1, _⟩ := hr.at_own (k := 0) (id := 102) rfl (List.getElem?_eq_getElem (by omega))
    rw [h'] at q1
    cases q1
    refine ⟨_, _, ts', _, rfl, hr.lies, List.getElem?_eq_getElem (by omega), rfl, fun x hx => ?_, hk.below⟩
    obtain ⟨t, ht, rfl⟩ := List.mem_map.1 hx
    obtain ⟨i, hi⟩ := List.getElem?_of_mem ht
    have hil := (List.getElem?_eq_some_iff.1 hi).1
    obtain ⟨_, h3⟩ := hr.at_own (k := i) (id := [102, 8, 21, 38, 45, 58, 73, 82, 101][i]'(by simp; omega)) (List.getElem?_eq_getElem _) hi
    rcases h3 with ⟨h3, _⟩ | ⟨_, h3 | h3⟩
    · exact absurd h3 (Nat.not_lt_zero _)
    · exact h3
    · cases h3
theorem rtab_cell {sig : Sig} {w : World} {tT : List Tgt} {t1 : Tgt} (hL : Lies w specT tT sig) (h1 : tT[0]? = some t1) (k : Nat) (hk : k < 8) :
    ∃ (tk : Tgt) (c : Nat), tT[1 + k]? = some tk ∧ 0 + c * tk.es = tk.n ∧ w.cell? ⟨t1.blk, k * 4, none⟩ = some (.string (tname k)) ∧ w.cell? ⟨t1.blk, k * 4 + 1, none⟩ = some (.slice (some ⟨tk.blk, 0, none⟩) (lenOf k) c) ∧ w.cell? ⟨t1.blk, k * 4 + 2, none⟩ = some (.int .i64 (tkey k)) ∧ w.cell? ⟨t1.blk, k * 4 + 3, none⟩ = some (.slice none 0 0) := by
  obtain ⟨e0, e1, e2, e3⟩ := tab_cells k hk
  obtain ⟨c0, a0, b0⟩ := spec_cell hL h1 rfl e0
  obtain ⟨c1, a1, b1⟩ := spec_cell hL h1 rfl e1
  obtain ⟨c2, a2, b2⟩ := spec_cell hL h1 rfl e2
  obtain ⟨c3, a3, b3⟩ := spec_cell hL h1 rfl e3
  cases b0; cases b2; cases b3
  cases b1 with
  | slice v o t l c c' h' g1 g2 => exact ⟨t, c', h', g2 rfl, a0, a1, a2, a3⟩
/-- Which places there are. -/
def MayP (pre : Bool) (p : Nat) : Prop := (pre = false ∧ p = 0) ∨ (pre = true ∧ p ≤ 8)
theorem creR_all (pre : Bool) (p : Nat) (hp : MayP pre p) (k : Nat) (hk : k < 8) : creOkR p pre k = true := by
  rcases hp with ⟨rfl, rfl⟩ | ⟨rfl, hp⟩
  · exact creR_f k hk
  · match p, hp with
    | 0, _ => exact creR_t0 k hk
    | 1, _ => exact creR_t1 k hk
    | 2, _ => exact creR_t2 k hk
    | 3, _ => exact creR_t3 k hk
    | 4, _ => exact creR_t4 k hk
    | 5, _ => exact creR_t5 k hk
    | 6, _ => exact creR_t6 k hk
    | 7, _ => exact creR_t7 k hk
    | 8, _ => exact creR_t8 k hk
def idsRok (p : Nat) (pre : Bool) (k : Nat) : Bool :=
  (idsR p (tabsP pre k) k)[0]? == some 0 && (idsR p (tabsP pre k) k)[1]? == some 1 && Nat.beq (idsR p (tabsP pre k) k).length (specR p (tabsP pre k ++ [k])).length && Nat.beq (baseR (tabsP pre k)) ((specR p (tabsP pre k)).length + 1) && (idsR p (tabsP pre k) k).all fun id => Nat.blt id (specR p (tabsP pre k)).length || Nat.ble (baseR (tabsP pre k)) id
theorem idsR_ok : allUp (fun k => idsRok 0 false k && allUp (fun p => idsRok p true k) 9) 8 = true := by kernel_rfl
theorem idsR_at (pre : Bool) (p : Nat) (hp : MayP pre p) (k : Nat) (hk : k < 8) : (idsR p (tabsP pre k) k)[0]? = some 0 ∧ (idsR p (tabsP pre k) k)[1]? = some 1 ∧ (idsR p (tabsP pre k) k).length = (specR p (tabsP pre k ++ [k])).length ∧ baseR (tabsP pre k) = (specR p (tabsP pre k)).length + 1 ∧ ∀ id ∈ idsR p (tabsP pre k) k, id < (specR p (tabsP pre k)).length ∨ baseR (tabsP pre k) ≤ id := by
  have h := allUp_at 8 idsR_ok k hk
  simp only [Bool.and_eq_true] at h
  have h2 : idsRok p pre k = true := by
    rcases hp with ⟨rfl, rfl⟩ | ⟨rfl, hp⟩
    · exact h.1
    · exact allUp_at 9 h.2 p (by omega)
  unfold idsRok at h2
  simp only [Bool.and_eq_true, List.all_eq_true, Bool.or_eq_true] at h2
  obtain ⟨⟨⟨⟨a1, a2⟩, a3⟩, a4⟩, a5⟩ := h2
  exact ⟨by simpa using a1, by simpa using a2, Nat.eq_of_beq_eq_true a3, Nat.eq_of_beq_eq_true a4, fun id hid => (a5 id hid).imp (fun e => blt_iff.1 e) (fun e => Nat.le_of_ble_eq_true e)⟩
theorem rtabs_any (pre : Bool) (a : ByteArray) (p : Nat) (q : Two) (w0 : World) (n : Nat) (w : World) (h : RCw pre a p q w0 n w) :
    Calls Tryz.prog 5 #[] w fun e w' => ∃ tb cap, e = .returned (.slice (some ⟨tb, 0, none⟩) 8 cap) ∧ RTw pre a p q w0 n w' tb ∧ RCw pre a p q w0 n w' := by
  obtain ⟨ts, h⟩ := h
  refine (rtab2_any (sg a) w).mono ?_
  rintro e w' ⟨tb, cap, tT, t1, rfl, h1, h2, h3, h4, hb⟩
  have h' := h.below hb
  refine ⟨tb, cap, rfl, ⟨ts, tT, t1, h', h1, h2, h3, fun x hx hm => ?_⟩, ⟨ts, h'⟩⟩
  have := h4 x hx
  have := h.lies.ltm x hm
  omega
theorem two_of_at {ts : List Tgt} {q : Two} (h0 : ∃ t, ts[0]? = some t ∧ t.blk = q.d) (h1 : ∃ t, ts[1]? = some t ∧ t.blk = q.c) : (ts.map (·.blk)).take 2 = q.l := by
  obtain ⟨t0, e0, b0⟩ := h0
  obtain ⟨t1, e1, b1⟩ := h1
  match ts with
  | x0 :: x1 :: l =>
    simp at e0 e1
    subst e0; subst e1
    simp [Two.l, b0, b1]
  | [] => simp at e0
  | [_] => simp at e1
set_option maxHeartbeats 1000000 in
theorem rcreate_any (pre : Bool) (a : ByteArray) (p : Nat) (q : Two) (w0 w : World) (hp : MayP pre p) (ha : RPlace a p) (tb k : Nat) (pc : Option Addr) (n c : Nat) (hk : k < 8) (h : RTw pre a p q w0 k w tb) (hc : w.cell? ⟨tb, k * 4 + 1, none⟩ = some (.slice pc n c)) :
    Calls Tryz.prog 11 #[.pointer (some ⟨q.d, 0, none⟩), .agg #[.string (tname k), .slice pc n c, .int .i64 (tkey k), .slice none 0 0]] w fun e w' => (∃ v, e = .returned v) ∧ RCw pre a p q w0 (k + 1) w' ∧ RTw pre a p q w0 (k + 1) w' tb := by
  obtain ⟨ts, tT, t1, h, hT, h1, rfl, hdis⟩ := h
  obtain ⟨tk, c', hk1, hk2, _, hk3, _, _⟩ := rtab_cell hT h1 k hk
  rw [hk3] at hc
  obtain ⟨rfl, rfl, rfl⟩ : some (⟨tk.blk, 0, none⟩ : Addr) = pc ∧ lenOf k = n ∧ c' = c := by
    have := Option.some.inj hc
    injection this with x y z
    exact ⟨x, y, z⟩
  obtain ⟨⟨t0, e0, b0⟩, ⟨u1, e1, b1⟩⟩ := h.at_
  obtain ⟨i0, i1, i2, i3, i4⟩ := idsR_at pre p hp k hk
  have hspk : specT[1 + k]? = some (colB k) := by
    have := colSpecs_at k hk
    rw [Nat.add_comm]
    simpa [specT] using this
  have okk := hT.ok (1 + k) tk _ hk1 hspk
  have hmemk : tk.blk ∈ tT.map (·.blk) := List.mem_map.2 ⟨tk, List.mem_of_getElem? hk1, rfl⟩
  have hlen := h.lies.len
  have hL := h.lies.snoc (sp := colB k) (t := tk) (cells_any okk (colCells_plain _) _) (hdis _ hmemk) (hT.lt _ _ hk1)
  have hchk := creR_all pre p hp k hk
  unfold creOkR creRunR at hchk
  have eL : (specR p (tabsP pre k) ++ [colB k]).length = baseR (tabsP pre k) := by
    rw [List.length_append, i3]; rfl
  rw [← eL] at hchk
  have hargs : VRL (bEmb (ts ++ [tk]) (sg a)) [.pointer (some ⟨0, 0, none⟩), .agg #[nameV k, .slice (some ⟨(specR p (tabsP pre k)).length, 0, none⟩) (lenOf k) INF, .int .i64 (Int.ofNat (keyOf k)), .slice none 0 0]] [.pointer (some ⟨q.d, 0, none⟩), .agg #[.string (tname k), .slice (some ⟨tk.blk, 0, none⟩) (lenOf k) c', .int .i64 (tkey k), .slice none 0 0]] := by
    refine .cons _ _ _ _ ?_ (.cons _ _ _ _ (sch_vr (t := tk) hk ?_ rfl rfl hk2) .nil)
    · rw [← b0]
      refine .ptr 0 0 t0 ?_
      show (ts ++ [tk])[0]? = some t0
      rw [List.getElem?_append_left (List.getElem?_eq_some_iff.1 e0).1]; exact e0
    · show (ts ++ [tk])[(specR p (tabsP pre k)).length]? = some tk
      rw [← hlen, List.getElem?_append_right (Nat.le_refl _)]; simp
  refine (run_own kn0_ok q.l hL ha (fun i t sp ht hsp ho => ?_) (ng := 0) (Nat.zero_le _) (fun g t hg => absurd hg (Nat.not_lt_zero _)) hargs hchk).mono ?_
  · by_cases hi : i < ts.length
    · rw [List.getElem?_append_left hi] at ht
      rw [List.getElem?_append_left (by omega)] at hsp
      exact h.hown i t sp ht hsp ho
    · rw [List.getElem?_append_right (by omega)] at hsp
      have : i - (specR p (tabsP pre k)).length = 0 := by have := (List.getElem?_eq_some_iff.1 hsp).1; simp at this; omega
      rw [this] at hsp
      cases hsp; cases ho
  · rintro e w' ⟨ψ, u, c, ts', rfl, hu, hvr, hr, hs, hkl⟩
    obtain rfl := veq_sound _ _ hu
    have hl' : ts'.length = (specR p (tabsP pre k ++ [k])).length := hr.len
    have old : ∀ id, id < (specR p (tabsP pre k)).length → (ts ++ [tk])[id]? = ts[id]? := fun id hid => by
      rw [List.getElem?_append_left (by rw [hlen]; exact hid)]
    have l2 : 2 ≤ (specR p (tabsP pre k)).length := by
      rw [← hlen]
      have := (List.getElem?_eq_some_iff.1 e1).1
      omega
    have l2' : 2 ≤ ts'.length := by
      rw [hl', ← i2]
      have := (List.getElem?_eq_some_iff.1 i1).1
      omega
    have at' : ∀ i, i < 2 → (idsR p (tabsP pre k) k)[i]? = some i → ts'[i]? = ts[i]? := fun i hi hid => by
      have h4 : ts'[i]? = some (ts'[i]'(by omega)) := List.getElem?_eq_getElem _
      obtain ⟨_, h5⟩ := hr.at_own hid h4
      rcases h5 with ⟨_, h5⟩ | ⟨h5, _⟩
      · rw [h4, ← h5, old i (by omega)]
      · rw [eL, i3] at h5
        omega
    have hmem : ∀ x ∈ ts'.map (·.blk), x ∈ ts.map (·.blk) ∨ w.heap.size ≤ x := by
      intro x hx
      obtain ⟨t, ht, rfl⟩ := List.mem_map.1 hx
      obtain ⟨i, hi⟩ := List.getElem?_of_mem ht
      have hil := (List.getElem?_eq_some_iff.1 hi).1
      obtain ⟨_, h5⟩ := hr.at_own (List.getElem?_eq_getElem (l := idsR p (tabsP pre k) k) (i := i) (by omega)) hi
      rcases h5 with ⟨h5, h6⟩ | ⟨_, h6 | h6⟩
      · rcases i4 _ (List.getElem_mem (l := idsR p (tabsP pre k) k) (n := i) (by omega)) with h7 | h7
        · rw [old _ h7] at h6
          exact .inl (List.mem_map.2 ⟨t, List.mem_of_getElem? h6, rfl⟩)
        · rw [eL] at h5
          omega
      · exact .inr h6
      · left
        simp only [Two.l, List.mem_cons, List.mem_nil_iff, or_false] at h6
        rcases h6 with h6 | h6
        · rw [h6, ← b0]; exact List.mem_map.2 ⟨t0, List.mem_of_getElem? e0, rfl⟩
        · rw [h6, ← b1]; exact List.mem_map.2 ⟨u1, List.mem_of_getElem? e1, rfl⟩
    have hown : ∀ x ∈ tT.map (·.blk), x ∉ q.l := fun x hx hm => by
      refine hdis x hx ?_
      simp only [Two.l, List.mem_cons, List.mem_nil_iff, or_false] at hm
      rcases hm with h6 | h6
      · rw [h6, ← b0]; exact List.mem_map.2 ⟨t0, List.mem_of_getElem? e0, rfl⟩
      · rw [h6, ← b1]; exact List.mem_map.2 ⟨u1, List.mem_of_getElem? e1, rfl⟩
    have hC : RCS pre a p q w0 (k + 1) w' ts' := by
      refine ⟨by rw [tabsP_succ pre k hk]; exact hr.lies, two_of_at ⟨t0, (at' 0 (by omega) i0).trans e0, b0⟩ ⟨u1, (at' 1 (by omega) i1).trans e1, b1⟩, h.keep.trans hkl⟩
    refine ⟨⟨_, rfl⟩, ⟨ts', hC⟩, ts', tT, t1, hC, hT.keepL hkl hown, h1, rfl, fun x hx hm => ?_⟩
    rcases hmem x hm with h7 | h7
    · exact hdis x hx h7
    · have := hT.ltm x hx
      omega
theorem RTw.below {pre : Bool} {a : ByteArray} {p : Nat} {q : Two} {w0 : World} {k : Nat} {w w' : World} {tb : Nat} (h : RTw pre a p q w0 k w tb) (hb : Below w.heap.size w w') : RTw pre a p q w0 k w' tb := by
  obtain ⟨ts, tT, t1, h, hT, h1, rfl, hdis⟩ := h
  exact ⟨ts, tT, t1, h.below hb, hT.below hb, h1, rfl, hdis⟩
theorem allJ_at {p : Nat} {l : List Nat} (h : allJ p l = true) (k : Nat) (hk : k < 8) : findOk p l k = true := by
  unfold allJ at h
  simp only [Bool.and_eq_true] at h
  obtain ⟨⟨⟨⟨⟨⟨⟨h0, h1⟩, h2⟩, h3⟩, h4⟩, h5⟩, h6⟩, h7⟩ := h
  match k, hk with
  | 0, _ => exact h0
  | 1, _ => exact h1
  | 2, _ => exact h2
  | 3, _ => exact h3
  | 4, _ => exact h4
  | 5, _ => exact h5
  | 6, _ => exact h6
  | 7, _ => exact h7
theorem find_all (pre : Bool) (p : Nat) (hp : MayP pre p) : allJ p (tabsP pre 0) = true := by
  rcases hp with ⟨rfl, rfl⟩ | ⟨rfl, hp⟩
  · exact find_f
  · match p, hp with
    | 0, _ => exact find_t0
    | 1, _ => exact find_t1
    | 2, _ => exact find_t2
    | 3, _ => exact find_t3
    | 4, _ => exact find_t4
    | 5, _ => exact find_t5
    | 6, _ => exact find_t6
    | 7, _ => exact find_t7
    | 8, _ => exact find_t8
theorem rfind_any (pre : Bool) (a : ByteArray) (p : Nat) (q : Two) (w0 w : World) (hp : MayP pre p) (ha : RPlace a p) (k : Nat) (hk : k < 8) (h : RCw pre a p q w0 0 w) :
    Calls Tryz.prog 33 #[.pointer (some ⟨q.c, 0, none⟩), .string (tname k)] w fun e w' => e = .returned (.tuple #[.agg #[.string ⟨#[]⟩, .slice none 0 0, .int .i64 0, .slice none 0 0], .int .i64 141]) ∧ Below w.heap.size w w' := by
  obtain ⟨ts, h⟩ := h
  obtain ⟨⟨t0, e0, b0⟩, ⟨u1, e1, b1⟩⟩ := h.at_
  have hchk := allJ_at (find_all pre p hp) k hk
  unfold findOk findRun at hchk
  rw [← List.length_map (f := lockB)] at hchk
  refine (run_lock kn0_ok (Lies.lock h.lies) ha (specR_locked p _) (ng := 0) (Nat.zero_le _) (fun g t hg => absurd hg (Nat.not_lt_zero _)) (cargs := [.pointer (some ⟨q.c, 0, none⟩), .string (tname k)]) (.cons _ _ _ _ (by rw [← b1]; exact .ptr 1 0 u1 e1) (.cons _ _ _ _ (by rw [nameV_of hk]; exact .string _) .nil)) hchk).mono ?_
  rintro e w' ⟨ψ, u, c, ts', rfl, hu, hvr, hr, hs, hb⟩
  obtain rfl := veq_sound _ _ hu
  exact ⟨by rw [hvr.eq_of_plain (by rfl)], hb⟩
theorem rload_head (pre : Bool) (a : ByteArray) (p : Nat) (hp : MayP pre p) (ha : RPlace a p) (q : Two) (w0 : World) : RLoadHead q.d (.pointer (some ⟨q.c, 0, none⟩)) (RCw pre a p q w0) (RTw pre a p q w0) where
  tabs := fun w h => rtabs_any pre a p q w0 0 w h
  cell := fun n w tb k hk h => by
    obtain ⟨ts, tT, t1, h, hT, h1, rfl, hdis⟩ := h
    obtain ⟨tk, c', _, _, a0, a1, a2, a3⟩ := rtab_cell hT h1 k hk
    exact ⟨_, _, _, a0, a1, a2, a3⟩
  ptr := fun w h => by
    obtain ⟨ts, h⟩ := h
    obtain ⟨⟨t0, e0, b0⟩, ⟨u1, e1, b1⟩⟩ := h.at_
    have hL := h.lies
    cases pre with
    | false =>
      obtain ⟨cv, x, y⟩ := spec_cell (o := 0) hL e0 rfl rfl
      rw [b0] at x
      cases y with
      | ptr v o t ht => have ht : ts[1]? = some t := ht; rw [e1] at ht; cases ht; rw [b1] at x; exact x
    | true =>
      obtain ⟨cv, x, y⟩ := spec_cell (o := 0) hL e0 rfl rfl
      rw [b0] at x
      cases y with
      | ptr v o t ht => have ht : ts[1]? = some t := ht; rw [e1] at ht; cases ht; rw [b1] at x; exact x
  find := fun w tb k hk hC hT => rfind_any pre a p q w0 w hp ha k hk hC
  create := fun w tb k pc n c hk hC hT hc => rcreate_any pre a p q w0 w hp ha tb k pc n c hk hT hc
  belC := fun n w w' h hb => let ⟨ts, h⟩ := h; ⟨ts, h.below hb⟩
  belT := fun n w w' tb h hb => h.below hb
end Go.Proofs.YtbjickdjkgefcaaGreatDoor
end
end
section
open Go Go.RowKit Go.Proofs.YtbjickdjkgefcaaGreatDoor.Vai
noncomputable section
namespace Go.Proofs.YtbjickdjkgefcaaGreatDoor
set_option linter.unusedVariables false
set_option linter.unusedSimpArgs false
set_option maxRecDepth 100000
def schA1 (j : Nat) : Value := .agg #[.string (tname j), .slice (some ⟨1, 0, none⟩) (lenOf j) INF, .int .i64 (Int.ofNat (tkey j)), .slice none 0 0]
def sTabRun (j : Nat) : Option (Value × St) := aFunK Tryz.prog tb0 kn0 1000 100 (.func 6) [schA j, schA1 j] (bSt [lockB (colB j), lockB (colB j)] [])
def sTabOk (j : Nat) : Bool := runCheck (sTabRun j) 2 isTrue [] [] noTau []
theorem sTab_all : allUp sTabOk 8 = true := by kernel_rfl
def isFive (u : Value) : Bool := veq u (.int .i64 5)
theorem nil_ok : runCheck (aFunK Tryz.prog tb0 kn0 1000 100 (.func 9) [.pointer none, .int .i64 1, .int .i64 1, .int .i64 1, .int .i64 1] (bSt [] [])) 0 isFive [] [] noTau [] = true := by kernel_rfl
theorem nil_five (w : World) : Calls Tryz.prog 9 #[.pointer none, .int .i64 1, .int .i64 1, .int .i64 1, .int .i64 1] w fun e w' => e = .returned (.int .i64 5) ∧ Below w.heap.size w w' := by
  have h0 : Lies w [] [] (sg ⟨#[]⟩) := ⟨rfl, by simp, fun k t sp h => by simp at h, fun k t h => by simp at h⟩
  refine (run_lock kn0_ok h0 (facts := []) (fun g h => by cases h) (fun k sp h => by simp at h) (ng := 0) (Nat.zero_le _) (fun g t hg => absurd hg (Nat.not_lt_zero _)) (args := [.pointer none, .int .i64 1, .int .i64 1, .int .i64 1, .int .i64 1]) (cargs := [.pointer none, .int .i64 1, .int .i64 1, .int .i64 1, .int .i64 1]) (.cons _ _ _ _ .pnil (.cons _ _ _ _ (.int _ _) (.cons _ _ _ _ (.int _ _) (.cons _ _ _ _ (.int _ _) (.cons _ _ _ _ (.int _ _) .nil))))) nil_ok).mono ?_
  rintro e w' ⟨ψ, u, c, ts', rfl, hu, hvr, hr, hs, hb⟩
  obtain rfl := veq_sound _ _ hu
  exact ⟨by rw [hvr.eq_of_plain (by rfl)], hb⟩
theorem ColAt.lt {w : World} {c : Cols} {j : Nat} (h : ColAt w c j) : ∃ b, c.p = some ⟨b, 0, none⟩ ∧ b < w.heap.size := by
  obtain ⟨t, h1, h2, h3, h4⟩ := h
  obtain ⟨_, q2, cs, fr, q3, _⟩ := h4 (bEmb [] (sg ⟨#[]⟩))
  exact ⟨_, h1, lt_of_heap q3⟩
def tabW (k : Nat) (c : Cols) : Value := .agg #[.string (tname k), .slice c.p c.n c.c, .int .i64 (tkey k), .slice none 0 0]
theorem sameTab_any {j : Nat} (hj : j < 8) {c c' : Cols} (w : World) (h1 : ColAt w c j) (h2 : ColAt w c' j) (hne : c.p ≠ c'.p) : Calls Tryz.prog 6 #[tabW j c, tabW j c'] w fun e w' => e = .returned (.bool true) ∧ Below w.heap.size w w' := by
  obtain ⟨t, a1, a2, a3, a4⟩ := h1
  obtain ⟨u, b1, b2, b3, b4⟩ := h2
  obtain ⟨_, q2, cs, fr, q3, _⟩ := a4 (bEmb [t, u] (sg ⟨#[]⟩))
  obtain ⟨_, r2, ds, gr, r3, _⟩ := b4 (bEmb [t, u] (sg ⟨#[]⟩))
  have hneq : t.blk ≠ u.blk := fun e => hne (by rw [a1, b1, e])
  have hL : Lies w [lockB (colB j), lockB (colB j)] [t, u] (sg ⟨#[]⟩) := lies_two (a4 _) (b4 _) (lt_of_heap q3) (lt_of_heap r3) hneq
  have hro : ∀ (k : Nat) (sp : BSpec), [lockB (colB j), lockB (colB j)][k]? = some sp → sp.owned = false := by
    intro k sp h
    match k with
    | 0 => cases h; rfl
    | 1 => cases h; rfl
    | k + 2 => simp at h
  have hargs : VRL (bEmb [t, u] (sg ⟨#[]⟩)) [schA j, schA1 j] [tabW j c, tabW j c'] := by
    refine .cons _ _ _ _ ?_ (.cons _ _ _ _ ?_ .nil)
    · refine .agg _ _ rfl fun i x y hx hy => ?_
      match i with
      | 0 => cases hx; cases hy; exact .string _
      | 1 =>
        cases hx; cases hy
        rw [a1, a2]
        exact .slice 0 0 t _ _ _ rfl (fun h => absurd rfl h) (fun _ => a3)
      | 2 => cases hx; cases hy; exact .int _ _
      | 3 => cases hx; cases hy; exact .snil _ _
      | i + 4 => simp at hx
    · refine .agg _ _ rfl fun i x y hx hy => ?_
      match i with
      | 0 => cases hx; cases hy; exact .string _
      | 1 =>
        cases hx; cases hy
        rw [b1, b2]
        exact .slice 1 0 u _ _ _ rfl (fun h => absurd rfl h) (fun _ => b3)
      | 2 => cases hx; cases hy; exact .int _ _
      | 3 => cases hx; cases hy; exact .snil _ _
      | i + 4 => simp at hx
  have hc := allUp_at 8 sTab_all j hj
  unfold sTabOk sTabRun at hc
  refine (run_lock kn0_ok hL (facts := []) (fun g h => by cases h) hro (ng := 0) (Nat.zero_le _) (fun g t hg => absurd hg (Nat.not_lt_zero _)) hargs hc).mono ?_
  rintro e w' ⟨ψ, u, c, ts', rfl, hu, hvr, hr, hs, hb⟩
  obtain rfl := veq_sound _ _ hu
  exact ⟨by rw [hvr.eq_of_plain (by rfl)], hb⟩
/-- A schema in its place in a list of schemas. -/
structure TabAt (w : World) (tb k : Nat) (c : Cols) : Prop where
  name : w.cell? ⟨tb, k * 4, none⟩ = some (.string (tname k))
  cols : w.cell? ⟨tb, k * 4 + 1, none⟩ = some (.slice c.p c.n c.c)
  key : w.cell? ⟨tb, k * 4 + 2, none⟩ = some (.int .i64 (tkey k))
  more : w.cell? ⟨tb, k * 4 + 3, none⟩ = some (.slice none 0 0)
  at_ : ColAt w c k
theorem TabAt.below {w w' : World} {tb k : Nat} {c : Cols} (h : TabAt w tb k c) (hb : Below w.heap.size w w') : TabAt w' tb k c :=
  ⟨(hb.cell (p := ⟨tb, k * 4, none⟩) (cell_lt h.name)).trans h.name, (hb.cell (p := ⟨tb, k * 4 + 1, none⟩) (cell_lt h.cols)).trans h.cols, (hb.cell (p := ⟨tb, k * 4 + 2, none⟩) (cell_lt h.key)).trans h.key, (hb.cell (p := ⟨tb, k * 4 + 3, none⟩) (cell_lt h.more)).trans h.more, h.at_.keep (fun b cs ty fr hh _ => by rw [hb.block b (lt_of_heap hh)]; exact hh)⟩
theorem specT_col (k : Nat) (hk : k < 8) : specT[1 + k]? = some (colB k) ∧ specTables[2 + k]? = some (colB k) := by
  match k, hk with
  | 0, _ => exact ⟨rfl, rfl⟩
  | 1, _ => exact ⟨rfl, rfl⟩
  | 2, _ => exact ⟨rfl, rfl⟩
  | 3, _ => exact ⟨rfl, rfl⟩
  | 4, _ => exact ⟨rfl, rfl⟩
  | 5, _ => exact ⟨rfl, rfl⟩
  | 6, _ => exact ⟨rfl, rfl⟩
  | 7, _ => exact ⟨rfl, rfl⟩
theorem ptab_at {sig : Sig} {w : World} {tT : List Tgt} {t1 : Tgt} (hL : Lies w specTables tT sig) (h1 : tT[1]? = some t1) (k : Nat) (hk : k < 8) : ∃ c, TabAt w t1.blk k c := by
  obtain ⟨tk, c, e1, e2, a0, a1, a2, a3⟩ := ptab_cell hL h1 k hk
  exact ⟨⟨some ⟨tk.blk, 0, none⟩, lenOf k, c⟩, a0, a1, a2, a3, tk, rfl, rfl, e2, fun φ => cells_any (hL.ok _ _ _ e1 (specT_col k hk).2) (colCells_plain _) φ⟩
theorem rtab_at {sig : Sig} {w : World} {tT : List Tgt} {t1 : Tgt} {N : Nat} (hL : Lies w specT tT sig) (h1 : tT[0]? = some t1) (hN : ∀ x ∈ tT.map (·.blk), N ≤ x) (k : Nat) (hk : k < 8) : ∃ c, TabAt w t1.blk k c ∧ ∃ b, c.p = some ⟨b, 0, none⟩ ∧ N ≤ b := by
  obtain ⟨tk, c, e1, e2, a0, a1, a2, a3⟩ := rtab_cell hL h1 k hk
  exact ⟨⟨some ⟨tk.blk, 0, none⟩, lenOf k, c⟩, ⟨a0, a1, a2, a3, tk, rfl, rfl, e2, fun φ => cells_any (hL.ok _ _ _ e1 (specT_col k hk).1) (colCells_plain _) φ⟩, _, rfl, hN _ (List.mem_map.2 ⟨tk, List.mem_of_getElem? e1, rfl⟩)⟩
/-- Both lists of schemas. -/
def TwoTabs (w : World) (tb ub : Nat) : Prop := ∀ k, k < 8 → ∃ c c', TabAt w tb k c ∧ TabAt w ub k c' ∧ c.p ≠ c'.p
theorem TwoTabs.below {w w' : World} {tb ub : Nat} (h : TwoTabs w tb ub) (hb : Below w.heap.size w w') : TwoTabs w' tb ub := fun k hk => by
  obtain ⟨c, c', h1, h2, h3⟩ := h k hk
  exact ⟨c, c', h1.below hb, h2.below hb, h3⟩
theorem bothTabs (w : World) (h : Tabs w) : Calls Tryz.prog 4 #[] w fun e w1 => ∃ tb cap, e = .returned (.slice (some ⟨tb, 0, none⟩) 8 cap) ∧ Tabs w1 ∧ Below w.heap.size w w1 ∧
    ∀ w2, Below w1.heap.size w1 w2 → Calls Tryz.prog 5 #[] w2 fun e w3 => ∃ ub cap, e = .returned (.slice (some ⟨ub, 0, none⟩) 8 cap) ∧ Below w2.heap.size w2 w3 ∧ TwoTabs w3 tb ub := by
  refine (ptab_any (sg ⟨#[]⟩) w h).mono ?_
  rintro e w1 ⟨tb, cap, tT, t1, rfl, hT, e1, rfl, hn, hb⟩
  refine ⟨_, _, rfl, h.keepL (KeepL.of_below (l := []) hb) (by simp), hb, fun w2 hb2 => ?_⟩
  refine (rtab2_any (sg ⟨#[]⟩) w2).mono ?_
  rintro e w3 ⟨ub, cap', uT, u1, rfl, hU, g1, rfl, hN, hb3⟩
  refine ⟨_, _, rfl, hb3, fun k hk => ?_⟩
  obtain ⟨c, hc⟩ := ptab_at (hT.below hb2) e1 k hk
  obtain ⟨c', hc', b, hp, hNb⟩ := rtab_at hU g1 hN k hk
  refine ⟨c, c', hc.below hb3, hc', fun e => ?_⟩
  obtain ⟨b0, hb0, hlt⟩ := hc.at_.lt
  rw [hb0, hp] at e
  have e := congrArg (Option.map Addr.block) e
  simp at e
  omega
end Go.Proofs.YtbjickdjkgefcaaGreatDoor
end
end
