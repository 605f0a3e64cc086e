/- The head of the program's Load: Create of each table; all that is asked of the head. -/
import Derived.Test.YtbjickdjkgefcaaGreatDoorLG3
import Derived.Test.YtbjickdjkgefcaaGreatDoorLE0
section
open Go Go.RowKit Go.Proofs.YtbjickdjkgefcaaGreatDoor.Vai
noncomputable section
namespace Go.Proofs.YtbjickdjkgefcaaGreatDoor
set_option linter.unusedVariables false
set_option linter.unusedSimpArgs false
set_option maxRecDepth 100000
theorem tcells2_at (k : Nat) (hk : k < 8) : (tabCells 2 schemas)[k * 4]? = some (.string (tname k)) ∧ (tabCells 2 schemas)[k * 4 + 1]? = some (.slice (some ⟨2 + k, 0, none⟩) (lenOf k) INF) ∧ (tabCells 2 schemas)[k * 4 + 2]? = some (.int .i64 (tkey k)) ∧ (tabCells 2 schemas)[k * 4 + 3]? = some (.slice none 0 0) := by
  match k, hk with
  | 0, _ => exact ⟨rfl, rfl, rfl, rfl⟩
  | 1, _ => exact ⟨rfl, rfl, rfl, rfl⟩
  | 2, _ => exact ⟨rfl, rfl, rfl, rfl⟩
  | 3, _ => exact ⟨rfl, rfl, rfl, rfl⟩
  | 4, _ => exact ⟨rfl, rfl, rfl, rfl⟩
  | 5, _ => exact ⟨rfl, rfl, rfl, rfl⟩
  | 6, _ => exact ⟨rfl, rfl, rfl, rfl⟩
  | 7, _ => exact ⟨rfl, rfl, rfl, rfl⟩
theorem ptab_cell {sig : Sig} {w : World} {tT : List Tgt} {t1 : Tgt} (hL : Lies w specTables tT sig) (h1 : tT[1]? = some t1) (k : Nat) (hk : k < 8) :
    ∃ (tk : Tgt) (c : Nat), tT[2 + k]? = some tk ∧ 0 + c * tk.es = tk.n ∧ w.cell? ⟨t1.blk, k * 4, none⟩ = some (.string (tname k)) ∧ w.cell? ⟨t1.blk, k * 4 + 1, none⟩ = some (.slice (some ⟨tk.blk, 0, none⟩) (lenOf k) c) ∧ w.cell? ⟨t1.blk, k * 4 + 2, none⟩ = some (.int .i64 (tkey k)) ∧ w.cell? ⟨t1.blk, k * 4 + 3, none⟩ = some (.slice none 0 0) := by
  obtain ⟨e0, e1, e2, e3⟩ := tcells2_at k hk
  obtain ⟨c0, a0, b0⟩ := spec_cell hL h1 rfl e0
  obtain ⟨c1, a1, b1⟩ := spec_cell hL h1 rfl e1
  obtain ⟨c2, a2, b2⟩ := spec_cell hL h1 rfl e2
  obtain ⟨c3, a3, b3⟩ := spec_cell hL h1 rfl e3
  cases b0; cases b2; cases b3
  cases b1 with
  | slice v o t l c c' h' g1 g2 => exact ⟨t, c', h', g2 rfl, a0, a1, a2, a3⟩
theorem specP_len (l : List Nat) : (specP l).length = 4 + 2 * l.length := by
  have : ∀ l : List Nat, (colBs l).length = 2 * l.length := by
    intro l
    induction l with
    | nil => rfl
    | cons y l ih => simp only [colBs, List.length_cons, ih]; omega
  simp only [specP, List.length_cons, this]; omega
theorem specP_ne {l : List Nat} : ∀ (k : Nat) (sp : BSpec), (specP l)[k]? = some sp → (∃ e es c, sp = .cells e es c true ∧ (e = 60 ∨ e = 117 ∨ e = 38)) ∨ ∃ es n, sp = .obj (.map es n) := by
  intro k sp h
  match k with
  | 0 => cases h; exact .inl ⟨_, _, _, rfl, .inl rfl⟩
  | 1 => cases h; exact .inl ⟨_, _, _, rfl, .inr (.inl rfl)⟩
  | 2 => cases h; exact .inr ⟨_, _, rfl⟩
  | 3 => cases h; exact .inr ⟨_, _, rfl⟩
  | k + 4 =>
    have hm : sp ∈ colBs l := List.mem_of_getElem? (i := k) (by simpa [specP] using h)
    have : ∀ (l : List Nat), ∀ s ∈ colBs l, ∃ c, s = .cells 38 2 c true := by
      intro l
      induction l with
      | nil => intro s h; simp [colBs] at h
      | cons y l ih =>
        intro s h
        simp only [colBs, List.mem_cons] at h
        rcases h with rfl | rfl | h
        · exact ⟨_, rfl⟩
        · exact ⟨_, rfl⟩
        · exact ih s h
    obtain ⟨c, rfl⟩ := this l sp hm
    exact .inl ⟨_, _, _, rfl, .inr (.inr rfl)⟩
theorem CSP.no0 {pre : Bool} {a : ByteArray} {q : Four} {w0 w : World} {k : Nat} {ts : List Tgt} (h : CSP pre a q w0 k w ts) : 0 ∉ ts.map (·.blk) := by
  intro hm
  obtain ⟨t, ht, h0⟩ := List.mem_map.1 hm
  obtain ⟨i, hi⟩ := List.getElem?_of_mem ht
  have hil := (List.getElem?_eq_some_iff.1 hi).1
  obtain ⟨cs, hz⟩ := tabs_zero h.tabs
  have hsp := List.getElem?_eq_getElem (l := specP (tabsP pre k)) (i := i) (by rw [← h.lies.len]; exact hil)
  have ok := h.lies.ok i t _ hi hsp
  rcases specP_ne i _ hsp with ⟨e, es, c, e1, e2⟩ | ⟨es, n, e1⟩
  · rw [e1] at ok
    obtain ⟨_, _, c2, fr, g, _⟩ := ok
    rw [h0, hz] at g
    cases g
    rcases e2 with h | h | h <;> cases h
  · rw [e1] at ok
    obtain ⟨_, c2, g, r⟩ := ok
    rw [h0, hz] at g
    cases g; cases r
theorem tabs_any (pre : Bool) (a : ByteArray) (q : Four) (w0 : World) (n : Nat) (w : World) (h : CSw pre a q w0 n w) :
    Calls Tryz.prog 4 #[] w fun e w' => ∃ tb cap, e = .returned (.slice (some ⟨tb, 0, none⟩) 8 cap) ∧ TVw pre a q w0 n w' tb ∧ CSw pre a q w0 n w' ∧ ∀ v, NVw pre a w v → NVw pre a w' v := by
  obtain ⟨ts, h⟩ := h
  refine (ptab_any (sg a) w h.tabs).mono ?_
  rintro e w' ⟨tb, cap, tT, t1, rfl, h1, h2, h3, h4, hb⟩
  have h' := h.below hb
  refine ⟨tb, cap, rfl, ⟨ts, tT, t1, h', h1, h2, h3, fun x hx hm => ?_⟩, ⟨ts, h'⟩, fun v hv => hv.below hb⟩
  rcases h4 x hx with rfl | hs
  · exact h.no0 hm
  · have := h.lies.ltm x hm
    omega
theorem idsP_ok : allUp (fun k => allUp (fun i => (idsP (tabsP false k) k)[i]? == some i) 4 && allUp (fun i => (idsP (tabsP true k) k)[i]? == some i) 4 && (idsP (tabsP false k) k).all (fun id => Nat.blt id (4 + 2 * (tabsP false k).length) || Nat.ble (5 + 2 * (tabsP false k).length) id) && (idsP (tabsP true k) k).all (fun id => Nat.blt id (4 + 2 * (tabsP true k).length) || Nat.ble (5 + 2 * (tabsP true k).length) id)) 8 = true := by decide
theorem idsP_at (pre : Bool) (k : Nat) (hk : k < 8) : (∀ i, i < 4 → (idsP (tabsP pre k) k)[i]? = some i) ∧ ∀ id ∈ idsP (tabsP pre k) k, id < 4 + 2 * (tabsP pre k).length ∨ 5 + 2 * (tabsP pre k).length ≤ id := by
  have h := allUp_at 8 idsP_ok k hk
  simp only [Bool.and_eq_true, List.all_eq_true, Bool.or_eq_true] at h
  cases pre with
  | false => exact ⟨fun i hi => by simpa using allUp_at 4 h.1.1.1 i hi, fun id hid => (h.1.2 id hid).imp (fun e => blt_iff.1 e) (fun e => Nat.le_of_ble_eq_true e)⟩
  | true => exact ⟨fun i hi => by simpa using allUp_at 4 h.1.1.2 i hi, fun id hid => (h.2 id hid).imp (fun e => blt_iff.1 e) (fun e => Nat.le_of_ble_eq_true e)⟩
set_option maxHeartbeats 1000000 in
theorem create_any (pre : Bool) (a : ByteArray) (q : Four) (w0 w : World) (ha : Other a) (tb k : Nat) (p : Option Addr) (n c : Nat) (hk : k < 8) (h : TVw pre a q w0 k w tb) (hc : w.cell? ⟨tb, k * 4 + 1, none⟩ = some (.slice p n c)) :
    Calls Tryz.prog 10 #[.pointer (some ⟨q.d, 0, none⟩), .agg #[.string (tname k), .slice p n c, .int .i64 (tkey k), .slice none 0 0]] w fun e w' => e = .returned (.int .i64 0) ∧ CSw pre a q w0 (k + 1) w' ∧ TVw pre a q w0 (k + 1) w' tb := by
  obtain ⟨ts, tT, t1, h, hT, h1, rfl, hdis⟩ := h
  obtain ⟨tk, c', hk1, hk2, _, hk3, _, _⟩ := ptab_cell hT h1 k hk
  rw [hk3] at hc
  obtain ⟨rfl, rfl, rfl⟩ : some (⟨tk.blk, 0, none⟩ : Addr) = p ∧ lenOf k = n ∧ c' = c := by
    have := Option.some.inj hc
    injection this with x y z
    exact ⟨x, y, z⟩
  obtain ⟨⟨t0, e0, b0⟩, ⟨u1, e1, b1⟩, ⟨t2, e2, b2⟩, ⟨t3, e3, b3⟩⟩ := h.at_
  have hspk : specTables[2 + k]? = some (colB k) := by
    have := colSpecs_at k hk
    rw [Nat.add_comm]
    simpa [specTables] using this
  have okk := hT.ok (2 + k) tk _ hk1 hspk
  have hmemk : tk.blk ∈ tT.map (·.blk) := List.mem_map.2 ⟨tk, List.mem_of_getElem? hk1, rfl⟩
  have hlen := h.lies.len
  have hL := h.lies.snoc (sp := colB k) (t := tk) (cells_any okk (colCells_plain _) _) (hdis _ hmemk) (hT.lt _ _ hk1)
  have hchk := creP pre k hk
  unfold creOk creRun at hchk
  have eL : (specP (tabsP pre k) ++ [colB k]).length = Nat.add (Nat.mul 2 (tabsP pre k).length) 5 := by
    rw [List.length_append, specP_len]; show 4 + 2 * _ + 1 = 2 * _ + 5; omega
  rw [← eL] at hchk
  have hargs : VRL (bEmb (ts ++ [tk]) (sg a)) [.pointer (some ⟨0, 0, none⟩), .agg #[nameV k, .slice (some ⟨(specP (tabsP pre k)).length, 0, none⟩) (lenOf k) INF, .int .i64 (Int.ofNat (keyOf k)), .slice none 0 0]] [.pointer (some ⟨q.d, 0, none⟩), .agg #[.string (tname k), .slice (some ⟨tk.blk, 0, none⟩) (lenOf k) c', .int .i64 (tkey k), .slice none 0 0]] := by
    refine .cons _ _ _ _ ?_ (.cons _ _ _ _ (sch_vr (t := tk) hk ?_ rfl rfl hk2) .nil)
    · rw [← b0]
      refine .ptr 0 0 t0 ?_
      show (ts ++ [tk])[0]? = some t0
      rw [List.getElem?_append_left (List.getElem?_eq_some_iff.1 e0).1]; exact e0
    · show (ts ++ [tk])[(specP (tabsP pre k)).length]? = some tk
      rw [← hlen, List.getElem?_append_right (Nat.le_refl _)]; simp
  refine (run_own kn0_ok q.own hL (facts0_ok ha) (fun i t sp ht hsp ho => ?_) (ng := 0) (Nat.zero_le _) (fun g t hg => absurd hg (Nat.not_lt_zero _)) hargs hchk).mono ?_
  · by_cases hi : i < ts.length
    · rw [List.getElem?_append_left hi] at ht
      rw [List.getElem?_append_left (by omega)] at hsp
      exact h.hown i t sp ht hsp ho
    · rw [List.getElem?_append_right (by omega)] at hsp
      have : i - (specP (tabsP pre k)).length = 0 := by have := (List.getElem?_eq_some_iff.1 hsp).1; simp at this; omega
      rw [this] at hsp
      cases hsp; cases ho
  · rintro e w' ⟨ψ, u, c, ts', rfl, hu, hvr, hr, hs, hkl⟩
    obtain rfl := veq_sound _ _ hu
    cases hvr
    obtain ⟨i1, i2⟩ := idsP_at pre k hk
    have hl' : ts'.length = (specP (tabsP pre k ++ [k])).length := hr.len
    have hl4 : 4 ≤ ts'.length := by rw [hl', specP_len]; omega
    have hl4' : 4 ≤ ts.length := by rw [hlen, specP_len]; omega
    have old : ∀ id, id < 4 + 2 * (tabsP pre k).length → (ts ++ [tk])[id]? = ts[id]? := fun id hid => by
      rw [List.getElem?_append_left (by rw [hlen, specP_len]; exact hid)]
    have at' : ∀ i, i < 4 → ts'[i]? = ts[i]? := fun i hi => by
      have h4 : ts'[i]? = some (ts'[i]'(by omega)) := List.getElem?_eq_getElem _
      obtain ⟨_, h5⟩ := hr.at_own (i1 i hi) h4
      rcases h5 with ⟨_, h5⟩ | ⟨h5, _⟩
      · rw [h4, ← h5, old i (by omega)]
      · rw [eL] at h5
        have : 2 * (tabsP pre k).length + 5 ≤ i := h5
        omega
    have hids : (idsP (tabsP pre k) k).length = ts'.length := by
      rw [hl', specP_len, List.length_append]
      have : ∀ n b, (upTo n b).length = n := by
        intro n
        induction n with
        | zero => intro b; rfl
        | succ n ih => intro b; simp [upTo, ih]
      unfold idsP
      rw [List.length_append, this]
      show 4 + 2 * _ + 2 = 4 + 2 * (_ + 1); omega
    have hmem : ∀ x ∈ ts'.map (·.blk), x ∈ ts.map (·.blk) ∨ w.heap.size ≤ x := by
      intro x hx
      obtain ⟨t, ht, rfl⟩ := List.mem_map.1 hx
      obtain ⟨i, hi⟩ := List.getElem?_of_mem ht
      have hil := (List.getElem?_eq_some_iff.1 hi).1
      obtain ⟨_, h5⟩ := hr.at_own (List.getElem?_eq_getElem (l := idsP (tabsP pre k) k) (i := i) (by omega)) hi
      rcases h5 with ⟨h5, h6⟩ | ⟨_, h6 | h6⟩
      · rcases i2 _ (List.getElem_mem (l := idsP (tabsP pre k) k) (n := i) (by omega)) with h7 | h7
        · rw [old _ h7] at h6
          exact .inl (List.mem_map.2 ⟨t, List.mem_of_getElem? h6, rfl⟩)
        · rw [eL] at h5
          have : _ < 2 * (tabsP pre k).length + 5 := h5
          omega
      · exact .inr h6
      · left
        simp only [Four.own, List.mem_cons, List.mem_nil_iff, or_false] at h6
        rcases h6 with h6 | h6
        · rw [h6, ← b2]; exact List.mem_map.2 ⟨t2, List.mem_of_getElem? e2, rfl⟩
        · rw [h6, ← b3]; exact List.mem_map.2 ⟨t3, List.mem_of_getElem? e3, rfl⟩
    have hown : ∀ x ∈ tT.map (·.blk), x ∉ q.own := fun x hx hm => by
      refine hdis x hx ?_
      simp only [Four.own, List.mem_cons, List.mem_nil_iff, or_false] at hm
      rcases hm with h6 | h6
      · rw [h6, ← b2]; exact List.mem_map.2 ⟨t2, List.mem_of_getElem? e2, rfl⟩
      · rw [h6, ← b3]; exact List.mem_map.2 ⟨t3, List.mem_of_getElem? e3, rfl⟩
    have hC : CSP pre a q w0 (k + 1) w' ts' := by
      refine ⟨by rw [tabsP_succ pre k hk]; exact hr.lies, four_of ⟨t0, (at' 0 (by omega)).trans e0, b0⟩ ⟨u1, (at' 1 (by omega)).trans e1, b1⟩ ⟨t2, (at' 2 (by omega)).trans e2, b2⟩ ⟨t3, (at' 3 (by omega)).trans e3, b3⟩, h.keep.trans hkl, h.tabs.keepL hkl h.own0⟩
    refine ⟨rfl, ⟨ts', hC⟩, ts', tT, t1, hC, hT.keepL hkl hown, h1, rfl, fun x hx hm => ?_⟩
    rcases hmem x hm with h7 | h7
    · exact hdis x hx h7
    · have := hT.ltm x hx
      omega
theorem TVw.below {pre : Bool} {a : ByteArray} {q : Four} {w0 : World} {k : Nat} {w w' : World} {tb : Nat} (h : TVw pre a q w0 k w tb) (hb : Below w.heap.size w w') : TVw pre a q w0 k w' tb := by
  obtain ⟨ts, tT, t1, h, hT, h1, rfl, hdis⟩ := h
  exact ⟨ts, tT, t1, h.below hb, hT.below hb, h1, rfl, hdis⟩
theorem load_head (pre : Bool) (a : ByteArray) (ha : Other a) (q : Four) (w0 : World) : LoadHead q.d (CSw pre a q w0) (NVw pre a) (TVw pre a q w0) where
  names := fun w h => names_any pre a q w0 w ha h
  tabs := fun n w _ h => tabs_any pre a q w0 n w h
  cell := fun n w tb k hk h => by
    obtain ⟨ts, tT, t1, h, hT, h1, rfl, hdis⟩ := h
    obtain ⟨tk, c', _, _, a0, a1, a2, a3⟩ := ptab_cell hT h1 k hk
    exact ⟨_, _, _, a0, a1, a2, a3⟩
  cont := fun w v tb k hk hN hC hT => (cont_any pre a w v k hk ha hN).mono fun e w' ⟨h1, hb⟩ => ⟨h1, let ⟨ts, h⟩ := hC; ⟨ts, h.below hb⟩, hT.below hb, hN.below hb⟩
  create := fun w tb k p n c hk hC hT hc => create_any pre a q w0 w ha tb k p n c hk hT hc
  allocC := fun n w o h => let ⟨ts, h⟩ := h; ⟨ts, h.below ((Below.refl _ _).alloc (Nat.le_refl _) _)⟩
  allocN := fun w v o h => h.below ((Below.refl _ _).alloc (Nat.le_refl _) _)
  allocT := fun n w tb o h => h.below ((Below.refl _ _).alloc (Nat.le_refl _) _)
end Go.Proofs.YtbjickdjkgefcaaGreatDoor
end
end
section
open Go Go.RowKit Go.Proofs.YtbjickdjkgefcaaGreatDoor.Vai
namespace Go.Proofs.YtbjickdjkgefcaaGreatDoor
set_option maxRecDepth 100000
theorem creR_f0 : creOkR 0 false 0 = true := by kernel_rfl
theorem creR_f1 : creOkR 0 false 1 = true := by kernel_rfl
theorem creR_f2 : creOkR 0 false 2 = true := by kernel_rfl
theorem creR_f3 : creOkR 0 false 3 = true := by kernel_rfl
theorem creR_f4 : creOkR 0 false 4 = true := by kernel_rfl
theorem creR_f5 : creOkR 0 false 5 = true := by kernel_rfl
theorem creR_f6 : creOkR 0 false 6 = true := by kernel_rfl
theorem creR_f7 : creOkR 0 false 7 = true := by kernel_rfl
theorem creR_f : ∀ k, k < 8 → creOkR 0 false k = true := by
  intro k hk
  match k, hk with
  | 0, _ => exact creR_f0
  | 1, _ => exact creR_f1
  | 2, _ => exact creR_f2
  | 3, _ => exact creR_f3
  | 4, _ => exact creR_f4
  | 5, _ => exact creR_f5
  | 6, _ => exact creR_f6
  | 7, _ => exact creR_f7
end Go.Proofs.YtbjickdjkgefcaaGreatDoor
end
