/- The small data of both sides, side by side: what the calls do. -/
import Derived.Test.YtbjickdjkgefcaaGreatDoorLN5
import Derived.Test.YtbjickdjkgefcaaGreatDoorLN2
import Derived.Test.YtbjickdjkgefcaaGreatDoorLN3
import Derived.Test.YtbjickdjkgefcaaGreatDoorLN4
import Derived.Test.YtbjickdjkgefcaaGreatDoorLJ3
import Derived.Outline
section
open Go Go.RowKit Go.Proofs.YtbjickdjkgefcaaGreatDoor.Vai
noncomputable section
namespace Go.Proofs.YtbjickdjkgefcaaGreatDoor
set_option linter.unusedVariables false
set_option linter.unusedSimpArgs false
set_option maxRecDepth 100000
/-- Both data are small: none, or the table ahead. -/
structure Joint (pre : Bool) (a : ByteArray) (q : Four) (r : Two) (w : World) : Prop where
  both : ∃ ts us, CSP pre a q w 0 w ts ∧ Lies w (specR 0 (tabsP pre 0)) us (sg a) ∧ (us.map (·.blk)).take 2 = r.l ∧ ∀ x ∈ us.map (·.blk), x ∉ ts.map (·.blk)
theorem CSP.rebase {pre : Bool} {a : ByteArray} {q : Four} {w0 w : World} {k : Nat} {ts : List Tgt} (h : CSP pre a q w0 k w ts) : CSP pre a q w k w ts := ⟨h.lies, h.four, KeepL.refl _ _, h.tabs⟩
theorem CSP.mem {pre : Bool} {a : ByteArray} {q : Four} {w0 w : World} {k : Nat} {ts : List Tgt} (h : CSP pre a q w0 k w ts) : ∀ x ∈ q.own, x ∈ ts.map (·.blk) := by
  obtain ⟨_, _, ⟨t2, e2, b2⟩, t3, e3, b3⟩ := h.at_
  intro x hx
  simp only [Four.own, List.mem_cons, List.mem_nil_iff, or_false] at hx
  rcases hx with rfl | rfl
  · rw [← b2]; exact List.mem_map.2 ⟨t2, List.mem_of_getElem? e2, rfl⟩
  · rw [← b3]; exact List.mem_map.2 ⟨t3, List.mem_of_getElem? e3, rfl⟩
theorem Joint.below {pre : Bool} {a : ByteArray} {q : Four} {r : Two} {w w' : World} (h : Joint pre a q r w) (hb : Below w.heap.size w w') : Joint pre a q r w' := by
  obtain ⟨ts, us, h1, h2, h3, h4⟩ := h.both
  exact ⟨ts, us, (h1.below hb).rebase, h2.below hb, h3, h4⟩
theorem two_at {us : List Tgt} {r : Two} (h : (us.map (·.blk)).take 2 = r.l) : (∃ t, us[0]? = some t ∧ t.blk = r.d) ∧ ∃ t, us[1]? = some t ∧ t.blk = r.c := by
  match us, h with
  | t0 :: t1 :: l, h4 =>
    simp [Two.l] at h4
    exact ⟨⟨t0, rfl, h4.1⟩, ⟨t1, rfl, h4.2⟩⟩
  | [], h4 => simp [Two.l] at h4
  | [_], h4 => simp [Two.l] at h4
/-- The program's data has been told again. -/
theorem Joint.again {pre : Bool} {a : ByteArray} {q : Four} {r : Two} {w w' : World} {ts us ts' : List Tgt} (h1 : CSP pre a q w 0 w ts) (h2 : Lies w (specR 0 (tabsP pre 0)) us (sg a)) (h3 : (us.map (·.blk)).take 2 = r.l) (h4 : ∀ x ∈ us.map (·.blk), x ∉ ts.map (·.blk)) (hL : Lies w' (specP (tabsP pre 0)) ts' (sg a)) (he : ts' = ts) (hk : KeepL q.own w w') : Joint pre a q r w' := by
  subst he
  exact ⟨ts', us, ⟨hL, h1.four, KeepL.refl _ _, h1.tabs.keepL hk h1.own0⟩, h2.keepL hk (fun x hx hm => h4 x hx (h1.mem x hm)), h3, h4⟩
def idsQ1 (l : List Nat) : List Nat := (specP l).length :: upTo (specP l).length 0
theorem subP1_f : subOk (specP (tabsP false 0) ++ [spG]) (specP1 (tabsP false 0)) (idsQ1 (tabsP false 0)) = true := by kernel_rfl
theorem subP1_t : subOk (specP (tabsP true 0) ++ [spG]) (specP1 (tabsP true 0)) (idsQ1 (tabsP true 0)) = true := by kernel_rfl
theorem subP1 (pre : Bool) : subOk (specP (tabsP pre 0) ++ [spG]) (specP1 (tabsP pre 0)) (idsQ1 (tabsP pre 0)) = true := by
  cases pre with
  | false => exact subP1_f
  | true => exact subP1_t
theorem upTo_at : ∀ n b i, i < n → (upTo n b)[i]? = some (b + i) := by
  intro n
  induction n with
  | zero => intro b i h; omega
  | succ n ih =>
    intro b i h
    cases i with
    | zero => rfl
    | succ i =>
      have := ih (b + 1) i (by omega)
      simp only [upTo, List.getElem?_cons_succ, this]
      congr 1; omega
/-- A call on the program's small data, the table of spaces ahead, by evaluation. -/
theorem run_small {pre : Bool} {a : ByteArray} {q : Four} {r : Two} {w : World} {facts : List Fact} (h : Joint pre a q r w) (hf : ∀ g ∈ facts, g.ok (sg a)) {f : FuncId} {sargs cargs : List Value} (ha : ∀ φ : Emb, VRL φ sargs cargs) {chk : Value → Bool} {M d : Nat}
    (hc : runCheck (aFunK Tryz.prog tb0 kn0 M d (.func f) (.pointer (some ⟨1, 0, none⟩) :: sargs) (bSt (specP1 (tabsP pre 0)) facts 1)) (specP1 (tabsP pre 0)).length chk (specP (tabsP pre 0)) (idsP1 (tabsP pre 0)) noTau [] = true) :
    Calls Tryz.prog f (.pointer (some ⟨q.d, 0, none⟩) :: cargs).toArray w fun e w' => ∃ φ u c, e = .returned c ∧ chk u = true ∧ VR φ u c ∧ Joint pre a q r w' ∧ KeepL q.own w w' := by
  obtain ⟨ts, us, h1, h2, h3, h4⟩ := h.both
  obtain ⟨⟨t0, e0, b0⟩, ⟨t1, e1, b1⟩, ⟨t2, e2, b2⟩, ⟨t3, e3, b3⟩⟩ := h1.at_
  have hlen := h1.lies.len
  have hlt0 : 0 < w.heap.size := lt_of_heap (tabs_zero h1.tabs).choose_spec
  have hS := h1.lies.snoc (sp := spG) (t := ⟨0, zsp.length, 1⟩) (spG_ok h1.tabs _) h1.no0 hlt0
  obtain ⟨vs, hV, hv⟩ := hS.sub (subP1 pre)
  have g0 : vs[0]? = some ⟨0, zsp.length, 1⟩ := by
    rw [hv 0 (specP (tabsP pre 0)).length rfl, ← hlen, List.getElem?_append_right (Nat.le_refl _)]; simp
  have g1 : ∀ i, i < ts.length → vs[i + 1]? = ts[i]? := fun i hi => by
    have h1 : (idsQ1 (tabsP pre 0))[i + 1]? = some i := by
      show (upTo (specP (tabsP pre 0)).length 0)[i]? = some i
      rw [upTo_at _ _ i (by omega)]; simp
    rw [hv _ _ h1, List.getElem?_append_left hi]
  have l0 := (List.getElem?_eq_some_iff.1 e0).1
  have l2 := (List.getElem?_eq_some_iff.1 e2).1
  have l3 := (List.getElem?_eq_some_iff.1 e3).1
  have hlv : (specP1 (tabsP pre 0)).length = ts.length + 1 := by rw [hlen]; cases pre <;> rfl
  refine (run_own kn0_ok q.own hV hf (fun i t sp ht2 hsp ho => ?_) (ng := 1) (by rw [hlv]; omega) (fun g t hg ht2 => ?_) (args := .pointer (some ⟨1, 0, none⟩) :: sargs) (cargs := .pointer (some ⟨q.d, 0, none⟩) :: cargs) (.cons _ _ _ _ (by rw [← b0]; exact .ptr 1 0 t0 ((g1 0 l0).trans e0)) (ha _)) hc).mono ?_
  · cases i with
    | zero => cases hsp; cases ho
    | succ i =>
      have hsp2 : (specP (tabsP pre 0))[i]? = some sp ∨ (i = 2 ∨ i = 3) := by
        match i with
        | 0 => cases hsp; cases ho
        | 1 => cases hsp; cases ho
        | 2 => exact .inr (.inl rfl)
        | 3 => exact .inr (.inr rfl)
        | i + 4 => exact .inl (by simpa [specP, specP1] using hsp)
      have hi3 : i = 2 ∨ i = 3 := by
        rcases hsp2 with h | h
        · exact specP_owned i sp h ho
        · exact h
      rcases hi3 with rfl | rfl
      · rw [g1 2 l2, e2] at ht2
        cases ht2
        simp [Four.own, b2]
      · rw [g1 3 l3, e3] at ht2
        cases ht2
        simp [Four.own, b3]
  · obtain rfl : g = 0 := by omega
    rw [g0] at ht2; cases ht2; rfl
  · rintro e w' ⟨ψ, u, c, ts', rfl, hu, hvr, hr, hs, hk⟩
    have hl' : ts'.length = ts.length := by rw [hr.len, hlen]
    have hts : ts' = ts := List.ext_getElem? fun i => by
      by_cases hi : i < ts.length
      · have h4 : ts'[i]? = some (ts'[i]'(by omega)) := List.getElem?_eq_getElem _
        have h1 : (idsP1 (tabsP pre 0))[i]? = some (i + 1) := by
          have e : (specP (tabsP pre 0)).length = Nat.add 4 (Nat.mul 2 (tabsP pre 0).length) := by cases pre <;> rfl
          show (upTo _ 1)[i]? = some (i + 1)
          rw [upTo_at _ _ i (by rw [← e, ← hlen]; exact hi)]; congr 1; omega
        obtain ⟨_, h5⟩ := hr.at_own h1 h4
        rcases h5 with ⟨_, h5⟩ | ⟨h5, _⟩
        · rw [h4, ← h5, g1 i hi]
        · rw [hlv] at h5; omega
      · rw [List.getElem?_eq_none (by omega), List.getElem?_eq_none (by omega)]
    exact ⟨ψ, u, c, rfl, hu, hvr, Joint.again h1 h2 h3 h4 hr.lies hts hk, hk⟩
/-- A call on the document's small data, by evaluation. -/
theorem run_rsmall {pre : Bool} {a : ByteArray} {q : Four} {r : Two} {w : World} {facts : List Fact} (p : Nat) (hp : p ≤ 8) (h : Joint pre a q r w) (hf : ∀ g ∈ facts, g.ok (sg a)) {f : FuncId} {sargs cargs : List Value} (ha : ∀ φ : Emb, VRL φ sargs cargs) {chk : Value → Bool} {M d : Nat}
    (hc : runCheck (aFunK Tryz.prog tb0 kn0 M d (.func f) (.pointer (some ⟨0, 0, none⟩) :: sargs) (bSt ((specR p (tabsP pre 0)).map lockB) facts)) ((specR p (tabsP pre 0)).map lockB).length chk [] [] noTau [] = true) :
    Calls Tryz.prog f (.pointer (some ⟨r.d, 0, none⟩) :: cargs).toArray w fun e w' => ∃ φ u c, e = .returned c ∧ chk u = true ∧ VR φ u c ∧ Joint pre a q r w' ∧ Below w.heap.size w w' := by
  obtain ⟨ts, us, h1, h2, h3, h4⟩ := h.both
  obtain ⟨⟨t0, e0, b0⟩, _⟩ := two_at h3
  rw [specR_small pre p hp] at hc
  refine (run_lock kn0_ok (Lies.lock h2) hf (specR_locked 0 _) (ng := 0) (Nat.zero_le _) (fun g t hg => absurd hg (Nat.not_lt_zero _)) (args := .pointer (some ⟨0, 0, none⟩) :: sargs) (cargs := .pointer (some ⟨r.d, 0, none⟩) :: cargs) (.cons _ _ _ _ (by rw [← b0]; exact .ptr 0 0 t0 e0) (ha _)) hc).mono ?_
  rintro e w' ⟨ψ, u, c, ts', rfl, hu, hvr, hr, hs, hb⟩
  exact ⟨ψ, u, c, rfl, hu, hvr, h.below hb, hb⟩
end Go.Proofs.YtbjickdjkgefcaaGreatDoor
end
end
section
open Go Go.RowKit Go.Proofs.YtbjickdjkgefcaaGreatDoor.Vai
namespace Go.Proofs.YtbjickdjkgefcaaGreatDoor
set_option linter.unusedVariables false
set_option linter.unusedSimpArgs false
set_option maxRecDepth 20000
/-- What is known of the text ahead lets the evaluations be. -/
structure SmallOk (pre : Bool) (a : ByteArray) : Prop where
  sound : ∃ facts, (∀ g ∈ facts, g.ok (sg a)) ∧ soundOk (tabsP pre 0) facts = true
  rsound : ∃ facts p, p ≤ 8 ∧ (∀ g ∈ facts, g.ok (sg a)) ∧ rsoundOk p (tabsP pre 0) facts = true
theorem small_none (a : ByteArray) : SmallOk false a := ⟨⟨[], (fun g h => by cases h), snd_n⟩, ⟨[], 0, by omega, (fun g h => by cases h), rsnd_n⟩⟩
theorem small_other {a : ByteArray} (ha : Other a) {p : Nat} (hp : p ≤ 8) (hr : RPlace a p) : SmallOk true a := ⟨⟨facts0, facts0_ok ha, snd_p⟩, ⟨factsR p, p, hp, hr, allUp_at 9 rsnd_p p (by omega)⟩⟩
theorem factsE_ok {j : Nat} (hj : j < 8) : ∀ g ∈ factsE j, g.ok (sg (tname j)) := by
  intro g hg
  unfold factsE at hg
  rcases List.mem_append.1 hg with hg | hg
  · rcases List.mem_append.1 hg with hg | hg
    · obtain ⟨i, hi, rfl⟩ := List.mem_map.1 hg
      have hi := List.mem_range.1 hi
      show decide (tname j = tname i) = Nat.beq i j
      by_cases e : i = j
      · subst e; simp
      · rw [show Nat.beq i j = false from by
          cases hb : Nat.beq i j with
          | false => rfl
          | true => exact absurd (Nat.eq_of_beq_eq_true hb) e]
        exact decide_eq_false fun h => by
          have := tname_ne i j hi hj e
          rw [h] at this
          simp at this
    · obtain ⟨i, hi, rfl⟩ := List.mem_map.1 hg
      show Op.bytesLess (tname j).toList (tname i).toList = _
      rw [ByteArray.toList_eq, ByteArray.toList_eq]
  · obtain ⟨i, hi, rfl⟩ := List.mem_map.1 hg
    show Op.bytesLess (tname i).toList (tname j).toList = _
    rw [ByteArray.toList_eq, ByteArray.toList_eq]
theorem snd_e (j : Nat) (hj : j < 8) : soundOk [8] (factsE j) = true := by
  match j, hj with
  | 0, _ => exact snd_e0
  | 1, _ => exact snd_e1
  | 2, _ => exact snd_e2
  | 3, _ => exact snd_e3
  | 4, _ => exact snd_e4
  | 5, _ => exact snd_e5
  | 6, _ => exact snd_e6
  | 7, _ => exact snd_e7
theorem load_e (j : Nat) (hj : j < 8) : loadOk j = true := by
  match j, hj with
  | 0, _ => exact load_e0
  | 1, _ => exact load_e1
  | 2, _ => exact load_e2
  | 3, _ => exact load_e3
  | 4, _ => exact load_e4
  | 5, _ => exact load_e5
  | 6, _ => exact load_e6
  | 7, _ => exact load_e7
theorem small_eight {j : Nat} (hj : j < 8) : SmallOk true (tname j) := ⟨⟨factsE j, factsE_ok hj, snd_e j hj⟩, ⟨factsE j, 0, by omega, factsE_ok hj, allUp_at 8 rsnd_e j hj⟩⟩
theorem sound_small {pre : Bool} {a : ByteArray} {q : Four} {r : Two} (hs : SmallOk pre a) (w : World) (h : Joint pre a q r w) : Calls Tryz.prog 14 #[.pointer (some ⟨q.d, 0, none⟩)] w fun e w' => e = .returned (.int .i64 141) ∧ Joint pre a q r w' ∧ KeepL q.own w w' := by
  obtain ⟨facts, hf, hc⟩ := hs.sound
  unfold soundOk soundRun at hc
  refine (run_small h hf (f := 14) (sargs := []) (cargs := []) (fun φ => .nil) hc).mono ?_
  rintro e w' ⟨φ, u, c, rfl, hu, hvr, hJ, hk⟩
  obtain rfl := veq_sound _ _ hu
  exact ⟨by rw [hvr.eq_of_plain (by rfl)], hJ, hk⟩
theorem rsound_small {pre : Bool} {a : ByteArray} {q : Four} {r : Two} (hs : SmallOk pre a) (w : World) (h : Joint pre a q r w) : Calls Tryz.prog 15 #[.pointer (some ⟨r.d, 0, none⟩)] w fun e w' => e = .returned (.int .i64 141) ∧ Joint pre a q r w' ∧ Below w.heap.size w w' := by
  obtain ⟨facts, p, hp, hf, hc⟩ := hs.rsound
  unfold rsoundOk rsoundRun at hc
  refine (run_rsmall p hp h hf (f := 15) (sargs := []) (cargs := []) (fun φ => .nil) hc).mono ?_
  rintro e w' ⟨φ, u, c, rfl, hu, hvr, hJ, hb⟩
  obtain rfl := veq_sound _ _ hu
  exact ⟨by rw [hvr.eq_of_plain (by rfl)], hJ, hb⟩
theorem sizes_vr {W D C I : Int} (h : Fits W D C I) (φ : Emb) : VRL φ [w5V, w5V, w50V, w50V] [.int .i64 W, .int .i64 D, .int .i64 C, .int .i64 I] := by
  obtain ⟨h1, h2, h3, h4⟩ := h
  exact .cons _ _ _ _ (VR.range (by decide) (by decide) h1.1 h1.2) (.cons _ _ _ _ (VR.range (by decide) (by decide) h2.1 h2.2) (.cons _ _ _ _ (VR.range (by decide) (by decide) h3.1 h3.2) (.cons _ _ _ _ (VR.range (by decide) (by decide) h4.1 h4.2) .nil)))
theorem load_eight {j : Nat} (hj : j < 8) {q : Four} {r : Two} {W D C I : Int} (hs : Fits W D C I) (w : World) (h : Joint true (tname j) q r w) : Calls Tryz.prog 9 #[.pointer (some ⟨q.d, 0, none⟩), .int .i64 W, .int .i64 D, .int .i64 C, .int .i64 I] w fun e w' => e = .returned (.int .i64 6) ∧ Joint true (tname j) q r w' ∧ KeepL q.own w w' := by
  have hc := load_e j hj
  unfold loadOk loadRun at hc
  refine (run_small h (factsE_ok hj) (f := 9) (sargs := [w5V, w5V, w50V, w50V]) (cargs := [.int .i64 W, .int .i64 D, .int .i64 C, .int .i64 I]) (sizes_vr hs) hc).mono ?_
  rintro e w' ⟨φ, u, c, rfl, hu, hvr, hJ, hk⟩
  obtain rfl := veq_sound _ _ hu
  exact ⟨by rw [hvr.eq_of_plain (by rfl)], hJ, hk⟩
theorem rload_eight {j : Nat} (hj : j < 8) {q : Four} {r : Two} {W D C I : Int} (hs : Fits W D C I) (w : World) (h : Joint true (tname j) q r w) : Calls Tryz.prog 12 #[.pointer (some ⟨r.d, 0, none⟩), .int .i64 W, .int .i64 D, .int .i64 C, .int .i64 I] w fun e w' => e = .returned (.int .i64 6) ∧ Joint true (tname j) q r w' ∧ Below w.heap.size w w' := by
  have hc := allUp_at 8 rload_e j hj
  unfold rloadOk rloadRun at hc
  refine (run_rsmall 0 (by omega) h (factsE_ok hj) (f := 12) (sargs := [w5V, w5V, w50V, w50V]) (cargs := [.int .i64 W, .int .i64 D, .int .i64 C, .int .i64 I]) (sizes_vr hs) hc).mono ?_
  rintro e w' ⟨φ, u, c, rfl, hu, hvr, hJ, hb⟩
  obtain rfl := veq_sound _ _ hu
  exact ⟨by rw [hvr.eq_of_plain (by rfl)], hJ, hb⟩
theorem sm_ok (pre : Bool) : smOk pre = true := by
  cases pre with
  | false => exact sm_f
  | true => exact sm_t
theorem same_small {pre : Bool} {a : ByteArray} {q : Four} {r : Two} (w : World) (h : Joint pre a q r w) : Calls Tryz.prog 13 #[.pointer (some ⟨q.d, 0, none⟩), .pointer (some ⟨r.d, 0, none⟩)] w fun e w' => e = .returned (.bool true) ∧ Joint pre a q r w' ∧ KeepL q.own w w' := by
  obtain ⟨ts, us, h1, h2, h3, h4⟩ := h.both
  obtain ⟨⟨t0, e0, b0⟩, ⟨t1, e1, b1⟩, ⟨t2, e2, b2⟩, ⟨t3, e3, b3⟩⟩ := h1.at_
  obtain ⟨⟨v0, f0, c0⟩, _⟩ := two_at h3
  have hc := sm_ok pre
  unfold smOk smRun at hc
  rw [Bool.and_eq_true] at hc
  obtain ⟨hc, hsp⟩ := hc
  have hlen := h1.lies.len
  have hru : (rUp pre).length = ((specR 0 (tabsP pre 0)).map lockB).length := by cases pre <;> rfl
  have hJ := h1.lies.join (Lies.lock h2) hsp hru h4
  refine (run_own kn0_ok q.own hJ (facts := []) (fun g h => by cases h) (fun i t sp ht hsp2 ho => ?_) (ng := 0) (Nat.zero_le _) (fun g t hg => absurd hg (Nat.not_lt_zero _)) (args := [.pointer (some ⟨0, 0, none⟩), .pointer (some ⟨(specP (tabsP pre 0)).length, 0, none⟩)]) (cargs := [.pointer (some ⟨q.d, 0, none⟩), .pointer (some ⟨r.d, 0, none⟩)]) (.cons _ _ _ _ (by
    rw [← b0]
    refine .ptr 0 0 t0 ?_
    show (ts ++ us)[0]? = some t0
    rw [List.getElem?_append_left (List.getElem?_eq_some_iff.1 e0).1]; exact e0) (.cons _ _ _ _ (by
    rw [← c0]
    refine .ptr _ 0 v0 ?_
    show (ts ++ us)[(specP (tabsP pre 0)).length]? = some v0
    rw [← hlen, List.getElem?_append_right (Nat.le_refl _), Nat.sub_self]; exact f0) .nil)) hc).mono ?_
  · by_cases e : i < ts.length
    · rw [List.getElem?_append_left e] at ht
      rw [List.getElem?_append_left (by omega)] at hsp2
      exact h1.hown i t sp ht hsp2 ho
    · rw [List.getElem?_append_right (by omega)] at hsp2
      exfalso
      have hlk : ∀ (k : Nat) (sp : BSpec), (rUp pre)[k]? = some sp → sp.owned = false := by
        intro k sp h
        cases pre with
        | false =>
          match k with
          | 0 => cases h; rfl
          | 1 => cases h; rfl
          | k + 2 => simp [rUp] at h
        | true =>
          match k with
          | 0 => cases h; rfl
          | 1 => cases h; rfl
          | 2 => cases h; rfl
          | 3 => cases h; rfl
          | 4 => cases h; rfl
          | 5 => cases h; rfl
          | k + 6 => simp [rUp] at h
      rw [hlk _ sp hsp2] at ho; cases ho
  · rintro e w' ⟨ψ, u, c, ts', rfl, hu, hvr, hr, hs, hk⟩
    obtain rfl := veq_sound _ _ hu
    cases hvr
    have hl' : ts'.length = ts.length := by rw [hr.len, hlen]
    have hts : ts' = ts := List.ext_getElem? fun i => by
      by_cases hi : i < ts.length
      · have h4 : ts'[i]? = some (ts'[i]'(by omega)) := List.getElem?_eq_getElem _
        have h1' : (upTo (specP (tabsP pre 0)).length 0)[i]? = some i := by rw [upTo_at _ _ i (by omega)]; simp
        obtain ⟨_, h5⟩ := hr.at_own h1' h4
        rcases h5 with ⟨_, h5⟩ | ⟨h5, _⟩
        · rw [h4, ← h5, List.getElem?_append_left hi]
        · rw [List.length_append, ← hlen] at h5; omega
      · rw [List.getElem?_eq_none (by omega), List.getElem?_eq_none (by omega)]
    exact ⟨rfl, Joint.again h1 h2 h3 h4 hr.lies hts hk, hk⟩
end Go.Proofs.YtbjickdjkgefcaaGreatDoor
end
section
open Go Go.RowKit Go.Proofs.YtbjickdjkgefcaaGreatDoor.Vai
noncomputable section
namespace Go.Proofs.YtbjickdjkgefcaaGreatDoor
set_option linter.unusedVariables false
set_option linter.unusedSimpArgs false
set_option maxRecDepth 100000
theorem ptrTo_sound {i : Nat} {u : Value} (h : isPtrTo i u = true) : u = .pointer (some ⟨i, 0, none⟩) := by
  unfold isPtrTo at h
  split at h
  · rename_i j; rw [Nat.eq_of_beq_eq_true h]
  · cases h
theorem new_p (a : ByteArray) (w : World) : Calls Tryz.prog 7 #[] w fun e w' => ∃ (q : Four) (ts : List Tgt), e = .returned (.pointer (some ⟨q.d, 0, none⟩)) ∧ Lies w' (specP []) ts (sg a) ∧ (ts.map (·.blk)).take 4 = q.l ∧ (∀ x ∈ ts.map (·.blk), w.heap.size ≤ x) ∧ Below w.heap.size w w' := by
  have h0 : Lies w [] [] (sg a) := ⟨rfl, by simp, fun k t sp h => by simp at h, fun k t h => by simp at h⟩
  refine (run_own kn0_ok [] h0 (facts := []) (fun g h => by cases h) (fun k t sp ht => by simp at ht) (ng := 0) (Nat.zero_le _) (fun g t hg => absurd hg (Nat.not_lt_zero _)) (args := []) (cargs := []) .nil newP_ok).mono ?_
  rintro e w' ⟨ψ, u, c, ts', rfl, hu, hvr, hr, hs, hk⟩
  obtain rfl := ptrTo_sound hu
  have hl : ts'.length = 4 := hr.len
  obtain ⟨t, ht, rfl⟩ := ptr_vr hvr
  have h4 : ∀ (i : Nat) (hi : i < 4), ts'[i]? = some (ts'[i]'(by omega)) ∧ w.heap.size ≤ (ts'[i]'(by omega)).blk := fun i hi => by
    refine ⟨List.getElem?_eq_getElem _, ?_⟩
    obtain ⟨_, h5⟩ := hr.at_own (k := i) (id := [3, 1, 2, 0][i]'(by simp; omega)) (List.getElem?_eq_getElem _) (List.getElem?_eq_getElem _)
    rcases h5 with ⟨h5, _⟩ | ⟨_, h5 | h5⟩
    · exact absurd h5 (Nat.not_lt_zero _)
    · exact h5
    · cases h5
  obtain ⟨q1, _⟩ := hr.at_own (k := 0) (id := 3) rfl (h4 0 (by omega)).1
  rw [ht] at q1
  cases q1
  refine ⟨⟨ts'[0].blk, ts'[1].blk, ts'[2].blk, ts'[3].blk⟩, ts', rfl, hr.lies, four_of ⟨_, (h4 0 (by omega)).1, rfl⟩ ⟨_, (h4 1 (by omega)).1, rfl⟩ ⟨_, (h4 2 (by omega)).1, rfl⟩ ⟨_, (h4 3 (by omega)).1, rfl⟩, fun x hx => ?_, hk.below⟩
  obtain ⟨t, ht, rfl⟩ := List.mem_map.1 hx
  obtain ⟨i, hi⟩ := List.getElem?_of_mem ht
  have hil := (List.getElem?_eq_some_iff.1 hi).1
  have := h4 i (by omega)
  rw [this.1] at hi
  cases hi
  exact this.2
theorem new_r (a : ByteArray) (w : World) : Calls Tryz.prog 8 #[] w fun e w' => ∃ (r : Two) (us : List Tgt), e = .returned (.pointer (some ⟨r.d, 0, none⟩)) ∧ Lies w' (specR 0 []) us (sg a) ∧ (us.map (·.blk)).take 2 = r.l ∧ (∀ x ∈ us.map (·.blk), w.heap.size ≤ x) ∧ Below w.heap.size w w' := by
  have h0 : Lies w [] [] (sg a) := ⟨rfl, by simp, fun k t sp h => by simp at h, fun k t h => by simp at h⟩
  refine (run_own kn0_ok [] h0 (facts := []) (fun g h => by cases h) (fun k t sp ht => by simp at ht) (ng := 0) (Nat.zero_le _) (fun g t hg => absurd hg (Nat.not_lt_zero _)) (args := []) (cargs := []) .nil newR_ok).mono ?_
  rintro e w' ⟨ψ, u, c, ts', rfl, hu, hvr, hr, hs, hk⟩
  obtain rfl := ptrTo_sound hu
  have hl : ts'.length = 2 := hr.len
  obtain ⟨t, ht, rfl⟩ := ptr_vr hvr
  have h4 : ∀ (i : Nat) (hi : i < 2), ts'[i]? = some (ts'[i]'(by omega)) ∧ w.heap.size ≤ (ts'[i]'(by omega)).blk := fun i hi => by
    refine ⟨List.getElem?_eq_getElem _, ?_⟩
    obtain ⟨_, h5⟩ := hr.at_own (k := i) (id := [1, 0][i]'(by simp; omega)) (List.getElem?_eq_getElem _) (List.getElem?_eq_getElem _)
    rcases h5 with ⟨h5, _⟩ | ⟨_, h5 | h5⟩
    · exact absurd h5 (Nat.not_lt_zero _)
    · exact h5
    · cases h5
  obtain ⟨q1, _⟩ := hr.at_own (k := 0) (id := 1) rfl (h4 0 (by omega)).1
  rw [ht] at q1
  cases q1
  refine ⟨⟨ts'[0].blk, ts'[1].blk⟩, ts', rfl, hr.lies, two_of_at ⟨_, (h4 0 (by omega)).1, rfl⟩ ⟨_, (h4 1 (by omega)).1, rfl⟩, fun x hx => ?_, hk.below⟩
  obtain ⟨t, ht, rfl⟩ := List.mem_map.1 hx
  obtain ⟨i, hi⟩ := List.getElem?_of_mem ht
  have hil := (List.getElem?_eq_some_iff.1 hi).1
  have := h4 i (by omega)
  rw [this.1] at hi
  cases hi
  exact this.2
/-- The column of the table ahead. -/
def ColW (w : World) (cb : Nat) : Prop := w.heap[cb]? = some (.cells #[.string ⟨#[119]⟩, .int .i64 2] 38 (0, 0))
def tvOf (a : ByteArray) (cb : Nat) : Value := .agg #[.string a, .slice (some ⟨cb, 0, none⟩) 1 1, .int .i64 1, .slice none 0 0]
theorem colW_ok {w : World} {cb : Nat} (h : ColW w cb) (φ : Emb) : (colB 8).ok (Base.free w) φ w ⟨cb, 2, 2⟩ := by
  refine ⟨(fun e => by cases e), rfl, _, (0, 0), h, rfl, Nat.zero_le _, rfl, Nat.le_refl _, fun o val ho => ?_⟩
  match o with
  | 0 => cases ho; exact ⟨_, rfl, .string _⟩
  | 1 => cases ho; exact ⟨_, rfl, .int _ _⟩
  | o + 2 => simp [colCells, colsOf] at ho
theorem tv_vr {φ : Emb} {a : ByteArray} {cb n : Nat} (hs : φ.sig.str 0 = a) (hn : φ n = some ⟨cb, 2, 2⟩) : VR φ (aheadArg n) (tvOf a cb) := by
  refine .agg _ _ rfl fun i x y hx hy => ?_
  match i with
  | 0 => cases hx; cases hy; rw [← hs]; exact .str 27 0 rfl
  | 1 => cases hx; cases hy; exact .slice n 0 ⟨cb, 2, 2⟩ 1 1 1 hn (fun _ => rfl) (fun h => absurd h (by decide))
  | 2 => cases hx; cases hy; exact .int _ _
  | 3 => cases hx; cases hy; exact .snil _ _
  | i + 4 => simp at hx
theorem col_apart {w : World} {cb : Nat} (h : ColW w cb) {L : List BSpec} {ts : List Tgt} {sig : Sig} (hL : Lies w L ts sig) (hne : ∀ (k : Nat) (sp : BSpec), L[k]? = some sp → (∃ e es c ro, sp = .cells e es c ro ∧ e ≠ 38) ∨ ∃ es n, sp = .obj (.map es n)) : cb ∉ ts.map (·.blk) := by
  intro hm
  obtain ⟨t, ht, h0⟩ := List.mem_map.1 hm
  obtain ⟨i, hi⟩ := List.getElem?_of_mem ht
  have hil := (List.getElem?_eq_some_iff.1 hi).1
  have hsp := List.getElem?_eq_getElem (l := L) (i := i) (by rw [← hL.len]; exact hil)
  have ok := hL.ok i t _ hi hsp
  have h : w.heap[cb]? = _ := h
  rcases hne i _ hsp with ⟨e, es, c, ro, e1, e2⟩ | ⟨es, n, e1⟩
  · rw [e1] at ok
    obtain ⟨_, _, c2, fr, g, _⟩ := ok
    rw [h0, h] at g
    cases g
    exact e2 rfl
  · rw [e1] at ok
    obtain ⟨_, c2, g, rr⟩ := ok
    rw [h0, h] at g
    cases g; cases rr
/-- The program has the table ahead, the document not yet. -/
structure Mid (a : ByteArray) (q : Four) (r : Two) (w : World) : Prop where
  both : ∃ ts us, CSP true a q w 0 w ts ∧ Lies w (specR 0 []) us (sg a) ∧ (us.map (·.blk)).take 2 = r.l ∧ ∀ x ∈ us.map (·.blk), x ∉ ts.map (·.blk)
theorem Mid.below {a : ByteArray} {q : Four} {r : Two} {w w' : World} (h : Mid a q r w) (hb : Below w.heap.size w w') : Mid a q r w' := by
  obtain ⟨ts, us, h1, h2, h3, h4⟩ := h.both
  exact ⟨ts, us, (h1.below hb).rebase, h2.below hb, h3, h4⟩
theorem tidy_fact {a : ByteArray} {b : Bool} (h : tidyB a = b) : ∀ g ∈ [Fact.tidy 0 b], g.ok (sg a) := by
  intro g hg
  simp only [List.mem_cons, List.mem_nil_iff, or_false] at hg
  subst hg
  exact h
theorem specP0_ne : ∀ (k : Nat) (sp : BSpec), (specP [])[k]? = some sp → (∃ e es c ro, sp = .cells e es c ro ∧ e ≠ 38) ∨ ∃ es n, sp = .obj (.map es n) := by
  intro k sp h
  match k with
  | 0 => cases h; exact .inl ⟨_, _, _, _, rfl, by decide⟩
  | 1 => cases h; exact .inl ⟨_, _, _, _, rfl, by decide⟩
  | 2 => cases h; exact .inr ⟨_, _, rfl⟩
  | 3 => cases h; exact .inr ⟨_, _, rfl⟩
  | k + 4 => simp [specP, colBs] at h
theorem specR0_ne : ∀ (k : Nat) (sp : BSpec), (specR 0 [])[k]? = some sp → (∃ e es c ro, sp = .cells e es c ro ∧ e ≠ 38) ∨ ∃ es n, sp = .obj (.map es n) := by
  intro k sp h
  match k with
  | 0 => cases h; exact .inl ⟨_, _, _, _, rfl, by decide⟩
  | 1 => cases h; exact .inl ⟨_, _, _, _, rfl, by decide⟩
  | k + 2 => simp [specR] at h
theorem col_lies {w : World} {cb : Nat} (h : ColW w cb) {L : List BSpec} {ts : List Tgt} {sig : Sig} (hL : Lies w L ts sig) (hn : cb ∉ ts.map (·.blk)) : Lies w (L ++ [colB 8]) (ts ++ [⟨cb, 2, 2⟩]) sig :=
  hL.snoc (sp := colB 8) (t := ⟨cb, 2, 2⟩) (colW_ok h _) hn (lt_of_heap h)
theorem hown_snoc {L : List BSpec} {ts : List Tgt} {own : List Nat} {t0 : Tgt} (hlen : ts.length = L.length) (h : ∀ (i : Nat) (t : Tgt) (sp : BSpec), ts[i]? = some t → L[i]? = some sp → sp.owned = true → t.blk ∈ own) : ∀ (i : Nat) (t : Tgt) (sp : BSpec), (ts ++ [t0])[i]? = some t → (L ++ [colB 8])[i]? = some sp → sp.owned = true → t.blk ∈ own := by
  intro i t sp ht hsp ho
  by_cases hi : i < ts.length
  · rw [List.getElem?_append_left hi] at ht
    rw [List.getElem?_append_left (by omega)] at hsp
    exact h i t sp ht hsp ho
  · rw [List.getElem?_append_right (by omega)] at hsp
    have : i - L.length = 0 := by have := (List.getElem?_eq_some_iff.1 hsp).1; simp at this; omega
    rw [this] at hsp
    cases hsp; cases ho
theorem create_no {a : ByteArray} (ht : tidyB a = false) {q : Four} {r : Two} {w : World} {cb : Nat} (h : Joint false a q r w) (hcb : ColW w cb) : Calls Tryz.prog 10 #[.pointer (some ⟨q.d, 0, none⟩), tvOf a cb] w fun e w' => e = .returned (.int .i64 140) ∧ Joint false a q r w' ∧ KeepL q.own w w' := by
  obtain ⟨ts, us, h1, h2, h3, h4⟩ := h.both
  obtain ⟨⟨t0, e0, b0⟩, _⟩ := h1.at_
  have hlen := h1.lies.len
  have hlen4 : ts.length = 4 := hlen
  have hL := col_lies hcb (L := specP []) h1.lies (col_apart hcb (L := specP []) h1.lies specP0_ne)
  refine (run_own knT_ok q.own hL (tidy_fact ht) (hown_snoc hlen h1.hown) (ng := 0) (Nat.zero_le _) (fun g t hg => absurd hg (Nat.not_lt_zero _)) (args := [.pointer (some ⟨0, 0, none⟩), aheadArg 4]) (cargs := [.pointer (some ⟨q.d, 0, none⟩), tvOf a cb]) (.cons _ _ _ _ (by
    rw [← b0]
    refine .ptr 0 0 t0 ?_
    show (ts ++ _)[0]? = some t0
    rw [List.getElem?_append_left (List.getElem?_eq_some_iff.1 e0).1]; exact e0) (.cons _ _ _ _ (tv_vr rfl (by
    show (ts ++ _)[4]? = some _
    rw [List.getElem?_append_right (by omega), hlen4]; rfl)) .nil)) aheadP_no).mono ?_
  rintro e w' ⟨ψ, u, c, ts', rfl, hu, hvr, hr, hs, hk⟩
  obtain rfl := veq_sound _ _ hu
  have hl' : ts'.length = ts.length := by rw [hr.len]; exact hlen.symm
  have hts : ts' = ts := List.ext_getElem? fun i => by
    by_cases hi : i < ts.length
    · have h4 : ts'[i]? = some (ts'[i]'(by omega)) := List.getElem?_eq_getElem _
      have hid : ([0, 1, 2, 3] : List Nat)[i]? = some i := by
        match i, (show i < 4 by omega) with
        | 0, _ => rfl
        | 1, _ => rfl
        | 2, _ => rfl
        | 3, _ => rfl
      obtain ⟨_, h5⟩ := hr.at_own hid h4
      rcases h5 with ⟨_, h5⟩ | ⟨h5, _⟩
      · rw [h4, ← h5, List.getElem?_append_left hi]
      · have : (specP [] ++ [colB 8]).length = 5 := rfl
        omega
    · rw [List.getElem?_eq_none (by omega), List.getElem?_eq_none (by omega)]
  exact ⟨by rw [hvr.eq_of_plain (by rfl)], Joint.again h1 h2 h3 h4 hr.lies hts hk, hk⟩
theorem create_yes {a : ByteArray} (ht : tidyB a = true) {q : Four} {r : Two} {w : World} {cb : Nat} (h : Joint false a q r w) (hcb : ColW w cb) : Calls Tryz.prog 10 #[.pointer (some ⟨q.d, 0, none⟩), tvOf a cb] w fun e w' => e = .returned (.int .i64 0) ∧ Mid a q r w' ∧ KeepL q.own w w' := by
  obtain ⟨ts, us, h1, h2, h3, h4⟩ := h.both
  obtain ⟨⟨t0, e0, b0⟩, ⟨t1, e1, b1⟩, ⟨t2, e2, b2⟩, ⟨t3, e3, b3⟩⟩ := h1.at_
  have hlen := h1.lies.len
  have hlen4 : ts.length = 4 := hlen
  have hL := col_lies hcb (L := specP []) h1.lies (col_apart hcb (L := specP []) h1.lies specP0_ne)
  refine (run_own knT_ok q.own hL (tidy_fact ht) (hown_snoc hlen h1.hown) (ng := 0) (Nat.zero_le _) (fun g t hg => absurd hg (Nat.not_lt_zero _)) (args := [.pointer (some ⟨0, 0, none⟩), aheadArg 4]) (cargs := [.pointer (some ⟨q.d, 0, none⟩), tvOf a cb]) (.cons _ _ _ _ (by
    rw [← b0]
    refine .ptr 0 0 t0 ?_
    show (ts ++ _)[0]? = some t0
    rw [List.getElem?_append_left (List.getElem?_eq_some_iff.1 e0).1]; exact e0) (.cons _ _ _ _ (tv_vr rfl (by
    show (ts ++ _)[4]? = some _
    rw [List.getElem?_append_right (by omega), hlen4]; rfl)) .nil)) aheadP_yes).mono ?_
  rintro e w' ⟨ψ, u, c, ts', rfl, hu, hvr, hr, hs, hk⟩
  obtain rfl := veq_sound _ _ hu
  have hl' : ts'.length = 6 := hr.len
  have old : ∀ i, i < 4 → ts'[i]? = ts[i]? := fun i hi => by
    have h4 : ts'[i]? = some (ts'[i]'(by omega)) := List.getElem?_eq_getElem _
    have hid : ([0, 1, 2, 3, 18, 25] : List Nat)[i]? = some i := by
      match i, hi with
      | 0, _ => rfl
      | 1, _ => rfl
      | 2, _ => rfl
      | 3, _ => rfl
    obtain ⟨_, h5⟩ := hr.at_own hid h4
    rcases h5 with ⟨_, h5⟩ | ⟨h5, _⟩
    · rw [h4, ← h5, List.getElem?_append_left (by omega)]
    · have : (specP [] ++ [colB 8]).length = 5 := rfl
      omega
  have hnew : ∀ i (hi : 4 ≤ i) (hi2 : i < 6), w.heap.size ≤ (ts'[i]'(by omega)).blk ∨ (ts'[i]'(by omega)).blk ∈ q.own := fun i hi hi2 => by
    have h4 : ts'[i]? = some (ts'[i]'(by omega)) := List.getElem?_eq_getElem _
    have hid : ∃ id, ([0, 1, 2, 3, 18, 25] : List Nat)[i]? = some id ∧ 5 ≤ id := by
      match i, hi, hi2 with
      | 4, _, _ => exact ⟨18, rfl, by omega⟩
      | 5, _, _ => exact ⟨25, rfl, by omega⟩
    obtain ⟨id, hid, h5⟩ := hid
    obtain ⟨_, h6⟩ := hr.at_own hid h4
    rcases h6 with ⟨h6, _⟩ | ⟨_, h6⟩
    · have : (specP [] ++ [colB 8]).length = 5 := rfl
      omega
    · exact h6
  have hC : CSP true a q w' 0 w' ts' := ⟨hr.lies, four_of ⟨t0, (old 0 (by omega)).trans e0, b0⟩ ⟨t1, (old 1 (by omega)).trans e1, b1⟩ ⟨t2, (old 2 (by omega)).trans e2, b2⟩ ⟨t3, (old 3 (by omega)).trans e3, b3⟩, KeepL.refl _ _, h1.tabs.keepL hk h1.own0⟩
  refine ⟨by rw [hvr.eq_of_plain (by rfl)], ⟨ts', us, hC, h2.keepL hk (fun x hx hm => h4 x hx (h1.mem x hm)), h3, fun x hx hm => ?_⟩, hk⟩
  obtain ⟨t, ht2, hxt⟩ := List.mem_map.1 hm
  obtain ⟨i, hi⟩ := List.getElem?_of_mem ht2
  have hil := (List.getElem?_eq_some_iff.1 hi).1
  by_cases hi4 : i < 4
  · rw [old i hi4] at hi
    exact h4 x hx (List.mem_map.2 ⟨t, List.mem_of_getElem? hi, hxt⟩)
  · have h5 := hnew i (by omega) (by omega)
    have h6 : ts'[i]'(by omega) = t := by
      rw [List.getElem?_eq_getElem hil] at hi
      exact Option.some.inj hi
    rw [h6, hxt] at h5
    rcases h5 with h5 | h5
    · have := h2.ltm x hx; omega
    · exact h4 x hx (h1.mem x h5)
end Go.Proofs.YtbjickdjkgefcaaGreatDoor
end
end
section
open Go Go.RowKit Go.Proofs.YtbjickdjkgefcaaGreatDoor.Vai
noncomputable section
namespace Go.Proofs.YtbjickdjkgefcaaGreatDoor
set_option linter.unusedVariables false
set_option linter.unusedSimpArgs false
set_option maxRecDepth 100000
theorem rown0 {us : List Tgt} {r : Two} (h3 : (us.map (·.blk)).take 2 = r.l) : ∀ (i : Nat) (t : Tgt) (sp : BSpec), us[i]? = some t → (specR 0 [])[i]? = some sp → sp.owned = true → t.blk ∈ r.l := by
  obtain ⟨⟨t2, e2, b2⟩, t3, e3, b3⟩ := two_at h3
  intro i t sp ht hsp ho
  rcases specR_owned i sp hsp ho with rfl | rfl
  · rw [e2] at ht; cases ht; simp [Two.l, b2]
  · rw [e3] at ht; cases ht; simp [Two.l, b3]
theorem rmem {us : List Tgt} {r : Two} (h3 : (us.map (·.blk)).take 2 = r.l) : ∀ x ∈ r.l, x ∈ us.map (·.blk) := fun x hx => by
  rw [← h3] at hx
  exact List.mem_of_mem_take hx
theorem csp_keep {pre : Bool} {a : ByteArray} {q : Four} {r : Two} {w w' : World} {ts us : List Tgt} (h1 : CSP pre a q w 0 w ts) (h3 : (us.map (·.blk)).take 2 = r.l) (h4 : ∀ x ∈ us.map (·.blk), x ∉ ts.map (·.blk)) (h0 : 0 ∉ r.l) (hk : KeepL r.l w w') : CSP pre a q w' 0 w' ts :=
  ⟨h1.lies.keepL hk (fun x hx hm => h4 x (rmem h3 x hm) hx), h1.four, KeepL.refl _ _, h1.tabs.keepL hk h0⟩
theorem r_no0 {w : World} {us : List Tgt} {a : ByteArray} {r : Two} (ht : Tabs w) (h2 : Lies w (specR 0 []) us (sg a)) (h3 : (us.map (·.blk)).take 2 = r.l) : 0 ∉ r.l := by
  intro hm
  have hm := rmem h3 0 hm
  obtain ⟨t, ht2, h0⟩ := List.mem_map.1 hm
  obtain ⟨i, hi⟩ := List.getElem?_of_mem ht2
  have hil := (List.getElem?_eq_some_iff.1 hi).1
  obtain ⟨cs, hz⟩ := tabs_zero ht
  have hsp := List.getElem?_eq_getElem (l := specR 0 []) (i := i) (by rw [← h2.len]; exact hil)
  have ok := h2.ok i t _ hi hsp
  have h2' : i < 2 := by have := h2.len; have e : (specR 0 []).length = 2 := rfl; omega
  match i, h2' with
  | 0, _ =>
    obtain ⟨_, _, c2, fr, g, _⟩ := ok
    rw [h0, hz] at g
    cases g
  | 1, _ =>
    obtain ⟨_, _, c2, fr, g, _⟩ := ok
    rw [h0, hz] at g
    cases g
theorem rcreate_no {a : ByteArray} (ht : tidyB a = false) {q : Four} {r : Two} {w : World} {cb : Nat} (h : Joint false a q r w) (hcb : ColW w cb) : Calls Tryz.prog 11 #[.pointer (some ⟨r.d, 0, none⟩), tvOf a cb] w fun e w' => e = .returned (.int .i64 140) ∧ Joint false a q r w' ∧ KeepL r.l w w' := by
  obtain ⟨ts, us, h1, h2, h3, h4⟩ := h.both
  have h2 : Lies w (specR 0 []) us (sg a) := h2
  obtain ⟨⟨t0, e0, b0⟩, ⟨t1, e1, b1⟩⟩ := two_at h3
  have hlen := h2.len
  have hlen2 : us.length = 2 := hlen
  have hL := col_lies hcb h2 (col_apart hcb h2 specR0_ne)
  refine (run_own knT_ok r.l hL (tidy_fact ht) (hown_snoc hlen (rown0 h3)) (ng := 0) (Nat.zero_le _) (fun g t hg => absurd hg (Nat.not_lt_zero _)) (args := [.pointer (some ⟨0, 0, none⟩), aheadArg 2]) (cargs := [.pointer (some ⟨r.d, 0, none⟩), tvOf a cb]) (.cons _ _ _ _ (by
    rw [← b0]
    refine .ptr 0 0 t0 ?_
    show (us ++ _)[0]? = some t0
    rw [List.getElem?_append_left (List.getElem?_eq_some_iff.1 e0).1]; exact e0) (.cons _ _ _ _ (tv_vr rfl (by
    show (us ++ _)[2]? = some _
    rw [List.getElem?_append_right (by omega), hlen2]; rfl)) .nil)) aheadR_no).mono ?_
  rintro e w' ⟨ψ, u, c, us', rfl, hu, hvr, hr, hs, hk⟩
  obtain rfl := veq_sound _ _ hu
  have hl' : us'.length = us.length := by rw [hr.len]; exact hlen.symm
  have hts : us' = us := List.ext_getElem? fun i => by
    by_cases hi : i < us.length
    · have h4 : us'[i]? = some (us'[i]'(by omega)) := List.getElem?_eq_getElem _
      have hid : ([0, 1] : List Nat)[i]? = some i := by
        match i, (show i < 2 by omega) with
        | 0, _ => rfl
        | 1, _ => rfl
      obtain ⟨_, h5⟩ := hr.at_own hid h4
      rcases h5 with ⟨_, h5⟩ | ⟨h5, _⟩
      · rw [h4, ← h5, List.getElem?_append_left hi]
      · have : (specR 0 [] ++ [colB 8]).length = 3 := rfl
        omega
    · rw [List.getElem?_eq_none (by omega), List.getElem?_eq_none (by omega)]
  subst hts
  exact ⟨by rw [hvr.eq_of_plain (by rfl)], ⟨ts, us', csp_keep h1 h3 h4 (r_no0 h1.tabs h2 h3) hk, hr.lies, h3, h4⟩, hk⟩
theorem rcreate_yes {a : ByteArray} (ht : tidyB a = true) {q : Four} {r : Two} {w : World} {cb : Nat} (h : Mid a q r w) (hcb : ColW w cb) : Calls Tryz.prog 11 #[.pointer (some ⟨r.d, 0, none⟩), tvOf a cb] w fun e w' => e = .returned (.int .i64 0) ∧ Joint true a q r w' ∧ KeepL r.l w w' := by
  obtain ⟨ts, us, h1, h2, h3, h4⟩ := h.both
  obtain ⟨⟨t0, e0, b0⟩, ⟨t1, e1, b1⟩⟩ := two_at h3
  have hlen := h2.len
  have hlen2 : us.length = 2 := hlen
  have hL := col_lies hcb h2 (col_apart hcb h2 specR0_ne)
  refine (run_own knT_ok r.l hL (tidy_fact ht) (hown_snoc hlen (rown0 h3)) (ng := 0) (Nat.zero_le _) (fun g t hg => absurd hg (Nat.not_lt_zero _)) (args := [.pointer (some ⟨0, 0, none⟩), aheadArg 2]) (cargs := [.pointer (some ⟨r.d, 0, none⟩), tvOf a cb]) (.cons _ _ _ _ (by
    rw [← b0]
    refine .ptr 0 0 t0 ?_
    show (us ++ _)[0]? = some t0
    rw [List.getElem?_append_left (List.getElem?_eq_some_iff.1 e0).1]; exact e0) (.cons _ _ _ _ (tv_vr rfl (by
    show (us ++ _)[2]? = some _
    rw [List.getElem?_append_right (by omega), hlen2]; rfl)) .nil)) aheadR_yes).mono ?_
  rintro e w' ⟨ψ, u, c, us', rfl, hu, hvr, hr, hs, hk⟩
  obtain rfl := veq_sound _ _ hu
  have hl' : us'.length = 6 := hr.len
  have hL3 : (specR 0 [] ++ [colB 8]).length = 3 := rfl
  have old : ∀ i, i < 2 → us'[i]? = us[i]? := fun i hi => by
    have h4 : us'[i]? = some (us'[i]'(by omega)) := List.getElem?_eq_getElem _
    have hid : (idsR 0 [] 8)[i]? = some i := by
      match i, hi with
      | 0, _ => rfl
      | 1, _ => rfl
    obtain ⟨_, h5⟩ := hr.at_own hid h4
    rcases h5 with ⟨_, h5⟩ | ⟨h5, _⟩
    · rw [h4, ← h5, List.getElem?_append_left (by omega)]
    · omega
  have hnew : ∀ (i : Nat) (hi : 2 ≤ i) (hi2 : i < 6), w.heap.size ≤ (us'[i]'(by omega)).blk ∨ (us'[i]'(by omega)).blk ∈ r.l := fun i hi hi2 => by
    have h4 : us'[i]? = some (us'[i]'(by omega)) := List.getElem?_eq_getElem _
    have hid : ∃ id, (idsR 0 [] 8)[i]? = some id ∧ 3 ≤ id := by
      match i, hi, hi2 with
      | 2, _, _ => exact ⟨_, rfl, by decide⟩
      | 3, _, _ => exact ⟨_, rfl, by decide⟩
      | 4, _, _ => exact ⟨_, rfl, by decide⟩
      | 5, _, _ => exact ⟨_, rfl, by decide⟩
    obtain ⟨id, hid, h5⟩ := hid
    obtain ⟨_, h6⟩ := hr.at_own hid h4
    rcases h6 with ⟨h6, _⟩ | ⟨_, h6⟩
    · omega
    · exact h6
  refine ⟨by rw [hvr.eq_of_plain (by rfl)], ⟨ts, us', csp_keep h1 h3 h4 (r_no0 h1.tabs h2 h3) hk, hr.lies, two_of_at ⟨t0, (old 0 (by omega)).trans e0, b0⟩ ⟨t1, (old 1 (by omega)).trans e1, b1⟩, fun x hx hm => ?_⟩, hk⟩
  obtain ⟨t, ht2, hxt⟩ := List.mem_map.1 hx
  obtain ⟨i, hi⟩ := List.getElem?_of_mem ht2
  have hil := (List.getElem?_eq_some_iff.1 hi).1
  by_cases hi4 : i < 2
  · rw [old i hi4] at hi
    exact h4 x (List.mem_map.2 ⟨t, List.mem_of_getElem? hi, hxt⟩) hm
  · have h5 := hnew i (by omega) (by omega)
    have h6 : us'[i]'(by omega) = t := by
      rw [List.getElem?_eq_getElem hil] at hi
      exact Option.some.inj hi
    rw [h6, hxt] at h5
    rcases h5 with h5 | h5
    · have := h1.lies.ltm x hm; omega
    · exact h4 x (rmem h3 x h5) hm
end Go.Proofs.YtbjickdjkgefcaaGreatDoor
end
end
section
open Go Go.RowKit Go.Proofs.YtbjickdjkgefcaaGreatDoor.Vai
namespace Go.Proofs.YtbjickdjkgefcaaGreatDoor
set_option linter.unusedVariables false
set_option linter.unusedSimpArgs false
set_option maxRecDepth 100000
theorem bl_true {x y : List UInt8} (h : x < y) : Op.bytesLess x y = true := by rw [bytesLess_eq]; exact decide_eq_true h
theorem bl_false {x y : List UInt8} (h : ¬ x < y) : Op.bytesLess x y = false := by rw [bytesLess_eq]; exact decide_eq_false h
theorem rplace_of {a : ByteArray} {p : Nat} (hp : p ≤ 8) (ha : Other a) (h1 : ∀ j ∈ sorted8.take p, (tname j).data.toList < a.data.toList) (h2 : ∀ j ∈ sorted8.drop p, a.data.toList < (tname j).data.toList) : RPlace a p := by
  obtain ⟨i1, i2⟩ := insAt_parts p hp
  have asym : ∀ x y : List UInt8, x < y → ¬ y < x := fun x y h h' => List.lt_asymm h h'
  intro g hg
  unfold factsR at hg
  rw [i1, i2] at hg
  rcases List.mem_append.1 hg with hg | hg
  · rcases List.mem_append.1 hg with hg | hg
    · rcases List.mem_append.1 hg with hg | hg
      · rcases List.mem_append.1 hg with hg | hg
        · exact facts0_ok ha g hg
        · obtain ⟨j, hj, rfl⟩ := List.mem_map.1 hg
          show Op.bytesLess (tname j).toList a.toList = true
          rw [ByteArray.toList_eq, ByteArray.toList_eq]
          exact bl_true (h1 j hj)
      · obtain ⟨j, hj, rfl⟩ := List.mem_map.1 hg
        show Op.bytesLess a.toList (tname j).toList = false
        rw [ByteArray.toList_eq, ByteArray.toList_eq]
        exact bl_false (asym _ _ (h1 j hj))
    · obtain ⟨j, hj, rfl⟩ := List.mem_map.1 hg
      show Op.bytesLess a.toList (tname j).toList = true
      rw [ByteArray.toList_eq, ByteArray.toList_eq]
      exact bl_true (h2 j hj)
  · obtain ⟨j, hj, rfl⟩ := List.mem_map.1 hg
    show Op.bytesLess (tname j).toList a.toList = false
    rw [ByteArray.toList_eq, ByteArray.toList_eq]
    exact bl_false (asym _ _ (h2 j hj))
theorem split_at (x : List UInt8) (f : Nat → List UInt8) : ∀ (l : List Nat), l.Pairwise (fun i j => f i < f j) → (∀ j ∈ l, x ≠ f j) → ∃ p, p ≤ l.length ∧ (∀ j ∈ l.take p, f j < x) ∧ ∀ j ∈ l.drop p, x < f j := by
  intro l
  induction l with
  | nil => intro _ _; exact ⟨0, Nat.le_refl _, (fun j h => by cases h), (fun j h => by cases h)⟩
  | cons i l ih =>
    intro hp hne
    rw [List.pairwise_cons] at hp
    by_cases h : f i < x
    · obtain ⟨p, h1, h2, h3⟩ := ih hp.2 (fun j hj => hne j (List.mem_cons_of_mem _ hj))
      refine ⟨p + 1, by simpa using h1, fun j hj => ?_, fun j hj => h3 j (by simpa using hj)⟩
      rcases List.mem_cons.1 (by simpa using hj : j ∈ i :: l.take p) with rfl | hj
      · exact h
      · exact h2 j hj
    · have hlt : x < f i := by
        have hle : x ≤ f i := h
        rcases List.le_iff_lt_or_eq.1 hle with h5 | h5
        · exact h5
        · exact absurd h5 (hne i (List.mem_cons_self ..))
      refine ⟨0, Nat.zero_le _, (fun j h => by cases h), fun j hj => ?_⟩
      rcases List.mem_cons.1 (by simpa using hj : j ∈ i :: l) with rfl | hj
      · exact hlt
      · exact List.lt_trans hlt (hp.1 j hj)
theorem place_ex {a : ByteArray} (ha : Other a) : ∃ p, p ≤ 8 ∧ RPlace a p := by
  have hpw : sorted8.Pairwise (fun i j => (tname i).data.toList < (tname j).data.toList) := by
    refine (sorted8_pw a).imp_of_mem fun {i j} hi hj h => ?_
    rw [bB_lt (sorted8_lt i hi), bB_lt (sorted8_lt j hj)] at h
    exact h
  obtain ⟨p, h1, h2, h3⟩ := split_at a.data.toList (fun j => (tname j).data.toList) sorted8 hpw (fun j hj e => ha j (sorted8_lt j hj) (by
    cases a; cases h : tname j
    rw [h] at e
    simp at e
    rw [e]))
  exact ⟨p, h1, rplace_of h1 ha h2 h3⟩
theorem other_nil : Other ⟨#[]⟩ := by
  intro j hj e
  have h : ∀ j, j < 8 → (tname j).size ≠ 0 := by
    intro j hj
    match j, hj with
    | 0, _ => decide
    | 1, _ => decide
    | 2, _ => decide
    | 3, _ => decide
    | 4, _ => decide
    | 5, _ => decide
    | 6, _ => decide
    | 7, _ => decide
  exact h j hj (by rw [← e]; rfl)
theorem rplace_nil : RPlace ⟨#[]⟩ 0 := by
  refine rplace_of (by omega) other_nil (fun j hj => by cases hj) fun j hj => ?_
  have hj8 := sorted8_lt j (List.mem_of_mem_drop hj)
  match j, hj8 with
  | 0, _ => decide
  | 1, _ => decide
  | 2, _ => decide
  | 3, _ => decide
  | 4, _ => decide
  | 5, _ => decide
  | 6, _ => decide
  | 7, _ => decide
theorem tidy_small {a : ByteArray} (h : tidyB a = true) : a.size ≤ 32 := by
  unfold tidyB at h
  simp only [Bool.and_eq_true] at h
  exact Nat.le_of_ble_eq_true h.1.2
/-- No atom: by whatever texts. -/
theorem lies_p0 {w : World} {ts : List Tgt} {s s' : Sig} (h : Lies w (specP []) ts s) : Lies w (specP []) ts s' := by
  refine ⟨h.len, h.nodup, fun k t sp ht hsp => ?_, h.lt⟩
  have ok := h.ok k t sp ht hsp
  match k with
  | 0 =>
    cases hsp
    obtain ⟨q1, q2, cs, fr, q3, q4, q5, q6, q7, q8⟩ := ok
    refine ⟨q1, q2, cs, fr, q3, q4, q5, q6, q7, fun o val ho => ?_⟩
    obtain ⟨cv, x, y⟩ := q8 o val ho
    refine ⟨cv, x, ?_⟩
    match o with
    | 0 => cases ho; obtain ⟨t1, h1, rfl⟩ := ptr_vr y; exact .ptr _ _ t1 h1
    | 1 => cases ho; cases y with
      | map r t h => exact .map _ t h
    | o + 2 => simp at ho
  | 1 =>
    cases hsp
    obtain ⟨q1, q2, cs, fr, q3, q4, q5, q6, q7, q8⟩ := ok
    refine ⟨q1, q2, cs, fr, q3, q4, q5, q6, q7, fun o val ho => ?_⟩
    obtain ⟨cv, x, y⟩ := q8 o val ho
    refine ⟨cv, x, ?_⟩
    match o with
    | 0 => cases ho; cases y with
      | map r t h => exact .map _ t h
    | o + 1 => simp at ho
  | 2 =>
    cases hsp
    obtain ⟨q1, c, q2, q3⟩ := ok
    refine ⟨q1, c, q2, ?_⟩
    cases q3 with
    | map es cs clk hE =>
      refine .map _ cs _ ?_
      generalize cs.toList = l at hE ⊢
      cases hE
      exact .nil
  | 3 =>
    cases hsp
    obtain ⟨q1, c, q2, q3⟩ := ok
    refine ⟨q1, c, q2, ?_⟩
    cases q3 with
    | map es cs clk hE =>
      refine .map _ cs _ ?_
      generalize cs.toList = l at hE ⊢
      cases hE
      exact .nil
  | k + 4 => simp [specP, colBs] at hsp
theorem lies_r0 {w : World} {us : List Tgt} {s s' : Sig} (h : Lies w (specR 0 []) us s) : Lies w (specR 0 []) us s' := by
  refine ⟨h.len, h.nodup, fun k t sp ht hsp => ?_, h.lt⟩
  have ok := h.ok k t sp ht hsp
  match k with
  | 0 =>
    cases hsp
    obtain ⟨q1, q2, cs, fr, q3, q4, q5, q6, q7, q8⟩ := ok
    refine ⟨q1, q2, cs, fr, q3, q4, q5, q6, q7, fun o val ho => ?_⟩
    obtain ⟨cv, x, y⟩ := q8 o val ho
    refine ⟨cv, x, ?_⟩
    match o with
    | 0 => cases ho; obtain ⟨t1, h1, rfl⟩ := ptr_vr y; exact .ptr _ _ t1 h1
    | 1 => cases ho; rw [snil_vr y]; exact .snil _ _
    | o + 2 => simp at ho
  | 1 =>
    cases hsp
    obtain ⟨q1, q2, cs, fr, q3, q4, q5, q6, q7, q8⟩ := ok
    refine ⟨q1, q2, cs, fr, q3, q4, q5, q6, q7, fun o val ho => ?_⟩
    obtain ⟨cv, x, y⟩ := q8 o val ho
    refine ⟨cv, x, ?_⟩
    match o with
    | 0 => cases ho; rw [snil_vr y]; exact .snil _ _
    | o + 1 => simp at ho
  | k + 2 => simp [specR] at hsp
theorem Joint.resig {a a' : ByteArray} {q : Four} {r : Two} {w : World} (h : Joint false a q r w) : Joint false a' q r w := by
  obtain ⟨ts, us, h1, h2, h3, h4⟩ := h.both
  exact ⟨ts, us, ⟨lies_p0 h1.lies, h1.four, h1.keep, h1.tabs⟩, lies_r0 h2, h3, h4⟩
end Go.Proofs.YtbjickdjkgefcaaGreatDoor
end
section
open Go Go.RowKit Go.Proofs.YtbjickdjkgefcaaGreatDoor.Vai
namespace Go.Proofs.YtbjickdjkgefcaaGreatDoor
set_option linter.unusedVariables false
set_option linter.unusedSimpArgs false
set_option maxRecDepth 20000
theorem catCells_at (l : List Nat) (b : Nat) : ∀ (T : List Nat) (i j : Nat), T[i]? = some j → (catCells l b T)[i * 4]? = some (nameV j) := by
  intro T
  induction T with
  | nil => intro i j h; simp at h
  | cons x T ih =>
    intro i j h
    cases i with
    | zero => simp at h; subst h; rfl
    | succ i =>
      have := ih i j (by simpa using h)
      rw [show (i + 1) * 4 = i * 4 + 4 by omega]
      exact this
/-- The catalogue's row of schemas. -/
def CatAt (a : ByteArray) (p : Nat) (pre : Bool) (q : Two) (w : World) : Prop := ∃ g c, w.cell? ⟨q.c, 0, none⟩ = some (.slice (some ⟨g, 0, none⟩) (lenP pre) c) ∧ ∀ i, i < lenP pre → w.cell? ⟨g, i * 4, none⟩ = some (.string (nameAt a p pre i))
theorem RCat.at_ {pre : Bool} {a : ByteArray} {p : Nat} {q : Two} {w : World} (hp : MayP pre p) (h : RCat pre a p q w) : CatAt a p pre q w := by
  obtain ⟨us, t0, hU, e0, b0, _⟩ := h
  obtain ⟨cv, x, y⟩ := spec_cell (o := 0) hU e0 rfl rfl
  obtain ⟨t1, cc, f1, rfl, _⟩ := slice_vr y
  have f1 : us[1]? = some t1 := f1
  have hl : (tabsP pre 8).length = lenP pre := by cases pre <;> rfl
  rw [b0, hl] at x
  refine ⟨_, _, x, fun i hi => ?_⟩
  have hi2 : i < (sortT p (tabsP pre 8)).length := by rw [sortT_len pre p hp]; exact hi
  obtain ⟨cv, x2, y2⟩ := spec_cell (o := i * 4) hU f1 rfl (catCells_at _ _ _ i _ (List.getElem?_eq_getElem hi2))
  rw [x2, nameV_vr (a := a) rfl (sortT_le pre p hp _ (List.getElem_mem _)) y2]
  unfold nameAt
  rw [List.getElem?_eq_getElem hi2]
  rfl
theorem docrows_any (pre : Bool) (a : ByteArray) (p : Nat) (hp : MayP pre p) (ha : Other a) {q : Two} {w0 : World} {H : List (ByteArray × Cols × Nat)} {C : Nat → Cols} {L : List (Nat × List Int)} (hL : RowsOk L) (w : World) (h : RInv pre a p q w0 H C L w) (i : Nat) (hi : i < lenP pre) :
    Calls Tryz.prog 38 #[.pointer (some ⟨q.d, 0, none⟩), .string (nameAt a p pre i)] w fun e w' => ∃ v, e = .returned (.tuple #[v, .int .i64 0]) ∧ VRows w' v (rowsAt p pre L i) ∧ (rowsAt p pre L i = [] → v = .slice none 0 0) ∧ Below w.heap.size w w' := by
  have hi2 : i < (sortT p (tabsP pre 8)).length := by rw [sortT_len pre p hp]; exact hi
  have hle := sortT_le pre p hp _ (List.getElem_mem hi2)
  obtain ⟨l, hl, hD⟩ := h.dat
  have hlen : l.length ≤ 100 := by
    have := congrArg List.length hl
    rw [List.length_map, heads_len, h.ahead.len] at this
    rw [this]
    cases pre <;> decide
  unfold nameAt rowsAt nmB
  rw [List.getElem?_eq_getElem hi2]
  simp only [Option.getD_some]
  have at_ : ∀ (k : Nat) (x : ByteArray × Cols × Nat), (heads H C)[k]? = some x → ∃ t, l[k]? = some t ∧ t.hd = x := fun k x hx => by
    rw [← hl, List.getElem?_map] at hx
    cases hk : l[k]? with
    | none => rw [hk] at hx; cases hx
    | some t => rw [hk] at hx; exact ⟨t, rfl, by simpa using hx⟩
  have back : ∀ (k : Nat) (t : RTab), l[k]? = some t → (heads H C)[k]? = some t.hd := fun k t ht => by
    rw [← hl, List.getElem?_map, ht]; rfl
  by_cases e : (sortT p (tabsP pre 8))[i] = 8
  · rw [if_pos e, if_pos e]
    have hpre : pre = true := by
      rcases hp with ⟨rfl, rfl⟩ | ⟨h, _⟩
      · exfalso
        have hm := List.getElem_mem hi2
        rw [e, sortT_f] at hm
        exact absurd hm (by decide)
      · exact h
    subst hpre
    rcases h.ahead with ⟨h1, _⟩ | ⟨_, c, rfl⟩
    · cases h1
    obtain ⟨t, ht, hh⟩ := at_ 0 _ rfl
    have en : t.nm = a := congrArg (·.1) hh
    have hR : Rof (offOf true) L 0 = [] := rfl
    have := rrows_any w q.d (.pointer (some ⟨q.c, 0, none⟩)) l (Rof (offOf true) L) 0 t hD ht (fun i x hi => absurd hi (Nat.not_lt_zero _)) hlen (by rw [hR]; decide) (fun r hr => by rw [hR] at hr; cases hr)
    rw [hR, en] at this
    exact this
  · rw [if_neg e, if_neg e]
    obtain ⟨l1, l2⟩ := RowsOk.of L hL (sortT p (tabsP pre 8))[i]
    have hj : (sortT p (tabsP pre 8))[i] < 8 := by omega
    have hoff := h.ahead.len
    have hx := heads_at H C _ hj
    rw [hoff] at hx
    obtain ⟨t, ht, hh⟩ := at_ _ _ hx
    have en : t.nm = tname (sortT p (tabsP pre 8))[i] := congrArg (·.1) hh
    have hR : Rof (offOf pre) L (offOf pre + (sortT p (tabsP pre 8))[i]) = rowsOf L (sortT p (tabsP pre 8))[i] := by
      unfold Rof
      rw [if_neg (by omega), Nat.add_sub_cancel_left]
    have := rrows_any w q.d (.pointer (some ⟨q.c, 0, none⟩)) l (Rof (offOf pre) L) _ t hD ht (fun k x hk hx => by
      rw [en]
      have hb := back k x hx
      by_cases hk2 : k < H.length
      · unfold heads at hb
        rw [List.getElem?_append_left hk2] at hb
        exact h.ahead.apart ha x.hd (List.mem_of_getElem? hb) _ hj
      · have e2 := heads_at H C (k - H.length) (by omega)
        rw [show H.length + (k - H.length) = k by omega, hb] at e2
        have e3 : x.nm = tname (k - H.length) := congrArg (·.1) (Option.some.inj e2)
        rw [e3]
        exact tname_ne _ _ (by omega) hj (by omega)) hlen (by rw [hR]; omega) (fun r hr => by rw [hR] at hr; have := l2 r hr; omega)
    rw [hR, en] at this
    exact this
end Go.Proofs.YtbjickdjkgefcaaGreatDoor
end
section
open Go Go.RowKit Go.Proofs.YtbjickdjkgefcaaGreatDoor.Vai
namespace Go.Proofs.YtbjickdjkgefcaaGreatDoor
set_option linter.unusedVariables false
set_option linter.unusedSimpArgs false
set_option maxRecDepth 20000
theorem same_names (a : ByteArray) (p : Nat) (pre : Bool) (w : World) (v1 v2 : Value) (h1 : NamesAt a p pre w v1) (h2 : NamesAt a p pre w v2) : Calls Tryz.prog 35 #[v1, v2] w fun e w' => e = .returned (.bool true) ∧ Below w.heap.size w w' := by
  obtain ⟨g1, c1, rfl, a1⟩ := h1
  obtain ⟨g2, c2, rfl, a2⟩ := h2
  exact sameTexts_any w g1 c1 g2 c2 (lenP pre) (nameAt a p pre) a1 a2 (by cases pre <;> decide)
theorem rowsAt_small (p : Nat) (pre : Bool) (L : List (Nat × List Int)) (hL : RowsOk L) (i : Nat) : (rowsAt p pre L i).length ≤ 3000 ∧ ∀ l ∈ rowsAt p pre L i, l.length < 9 := by
  unfold rowsAt
  split
  · exact ⟨by simp, fun l h => by cases h⟩
  · obtain ⟨a, b⟩ := RowsOk.of L hL ((sortT p (tabsP pre 8))[i]?.getD 0)
    exact ⟨a, fun l h => by have := b l h; omega⟩
set_option maxHeartbeats 2000000 in
theorem same_data (pre : Bool) (a : ByteArray) (p : Nat) (hp : MayP pre p) (ha : Other a) (hr : RPlace a p) (ha32 : a.size ≤ 32) {q : Four} {r : Two} {w0 w1 : World} {pm : List MapEntry} {C : Nat → Cols} {clk : Nat} {H : List (ByteArray × Cols × Nat)} {C' : Nat → Cols} {L : List (Nat × List Int)} (hL : RowsOk L) (w : World) (hP : PInv pre a q w0 pm C clk L w) (hR : RInv pre a p r w1 H C' L w) :
    Calls Tryz.prog 13 #[.pointer (some ⟨q.d, 0, none⟩), .pointer (some ⟨r.d, 0, none⟩)] w fun e w' => e = .returned (.bool true) ∧ Below w.heap.size w w' := by
  have K24 := fun wX (hb : Below w.heap.size w wX) => pnames_any pre a p q hp hr ha32 wX (hP.below hb).cat
  have K36 := fun wX (hb : Below w.heap.size w wX) => rnames_any pre a p r hp hr wX (hR.below hb).cat
  have K35 := fun wX v1 v2 h1 h2 => same_names a p pre wX v1 v2 h1 h2
  have K37 := fun wX (hb : Below w.heap.size w wX) i hi => prows_any pre a p hp ha hL wX (hP.below hb) i hi
  have K38 := fun wX (hb : Below w.heap.size w wX) i hi => docrows_any pre a p hp ha hL wX (hR.below hb) i hi
  have K39 := fun wX u v i (hu : VRows wX u (rowsAt p pre L i)) (hv : VRows wX v (rowsAt p pre L i)) nu nv => sameRows_any wX u v (rowsAt p pre L i) hu hv (by have := (rowsAt_small p pre L hL i).1; omega) (rowsAt_small p pre L hL i).2 nu nv
  have x0 : w.cell? ⟨r.d, 0, none⟩ = some (.pointer (some ⟨r.c, 0, none⟩)) := by
    obtain ⟨l, _, hD⟩ := hR.dat
    obtain ⟨v, ⟨cs, h1, h2, _⟩, _⟩ := hD.blk
    exact cell_of_heap h1 0 _ h2
  obtain ⟨g, cg, x1, xn⟩ := hR.cat.at_ hp
  have HN := Lib.hid xn
  have HK37 := Lib.hid K37
  have HK38 := Lib.hid K38
  have HK39 := Lib.hid K39
  have hn9 : lenP pre ≤ 9 := by cases pre <;> decide
  have kb : ∀ w', Below w.heap.size w w' → w'.cell? ⟨r.d, 0, none⟩ = some (.pointer (some ⟨r.c, 0, none⟩)) := fun _ h => (h.cell (p := ⟨r.d, 0, none⟩) (cell_lt x0)).trans x0
  have BT : ∀ wX w2, Below w.heap.size w wX → Below wX.heap.size wX w2 → Below w.heap.size w w2 := fun _ _ a b => a.trans (b.mono a.size)
  have BR := Below.refl w.heap.size w
  clear hP hR K37 K38 K39 xn hL hp ha hr
  obtain ⟨N, hN⟩ : ∃ N, N = lenP pre := ⟨_, rfl⟩
  go_enter Tryz.func13, Tryz.ntmps13
  go_wp2_with fail
  go_region_held3 (fun w' => w'.cell? ⟨r.d, 0, none⟩ = some (.pointer (some ⟨r.c, 0, none⟩)))
    (first
      | with_reducible assumption
      | (with_reducible refine kb _ ?_; with_reducible exact BR.drew)
      | (with_reducible refine kb _ ?_; with_reducible exact hb2)
      | (with_reducible refine kb _ ?_; with_reducible exact hb3)
      | (with_reducible refine kb _ ?_; with_reducible exact hb4))
    ((first
      | (go_at_call 24; refine (K24 _ BR.drew).mono ?_; rintro e w2 ⟨p1, n1, c1, rfl, hN1, hb2'⟩; have hb2 := BT _ _ BR.drew hb2')
      | (go_at_call 36; refine (K36 _ hb2).mono ?_; rintro e w3 ⟨p2, n2, c2, rfl, hN2, hb3'⟩; have hb3 := BT _ _ hb2 hb3'; have hN1' := hN1.below hb3')
      | (go_at_call 35; refine (K35 _ _ _ hN1' hN2).mono ?_; rintro e w4 ⟨rfl, hb4'⟩; have hb4 := BT _ _ hb3 hb4')))
  clear K24 K36 K35 hN1 hN2 hN1' hb2 hb3 hb2' hb3' hb4' BR
  go_wp2_with fail
  go_loopw [5] (fun i wr => ∃ k : Nat, i = .int .i64 k ∧ k ≤ lenP pre ∧ Below w.heap.size w wr) (fun i _ => lenP pre - (intOf i).toNat)
  case atStart => exact ⟨0, rfl, Nat.zero_le _, hb4⟩
  case round =>
    obtain ⟨k, rfl, hk, hb⟩ := hrel
    clear hb4
    have y0 := kb _ hb
    have y1 := (hb.cell (p := ⟨r.c, 0, none⟩) (cell_lt x1)).trans x1
    by_cases hlt : k < lenP pre
    · have a2 := HN.out k hlt
      have y2 := (hb.cell (p := ⟨g, k * 4, none⟩) (cell_lt a2)).trans a2
      have K37 := HK37.out wr hb k hlt
      have K38 := fun wX hX => HK38.out wX hX k hlt
      have K39 := fun wX u v => HK39.out wX u v k
      obtain ⟨nm, hnm⟩ : ∃ x, x = nameAt a p pre k := ⟨_, rfl⟩
      rw [← hnm] at y2 K37 K38
      obtain ⟨R, hR⟩ : ∃ x, x = rowsAt p pre L k := ⟨_, rfl⟩
      rw [← hR] at K37 K38 K39
      have s1 := hb.size
      clear a2 hnm hR
      obtain ⟨n9, hn9'⟩ : ∃ n, n = lenP pre := ⟨_, rfl⟩
      rw [← hn9'] at hlt y1 hn9
      have HN9 := Lib.hid hn9'
      clear hn9' hk
      go_wp2_with (first
        | (go_at_call 37; refine K37.mono ?_; rintro e w5 ⟨v5, rfl, hv5, hn5, hb5'⟩; obtain ⟨p5, n5, c5, rfl⟩ := VRows_slice hv5; have hb5 := BT _ _ hb hb5'; have z0 := kb _ hb5)
        | (go_at_call 38; refine (K38 _ hb5).mono ?_; rintro e w6 ⟨v6, rfl, hv6, hn6, hb6'⟩; obtain ⟨p6, n6, c6, rfl⟩ := VRows_slice hv6; have hb6 := BT _ _ hb5 hb6'; have hv5' := hv5.keep (KT.below hb6' (Nat.le_refl _) : KT [121, 71] _ _) (by simp) (by simp))
        | (go_at_call 39; refine (K39 _ _ _ hv5' hv6 hn5 hn6).mono ?_; rintro e w7 ⟨rfl, hb7'⟩; have hb7 := BT _ _ hb6 hb7'))
      exact ⟨⟨k + 1, by go_num, by rw [← HN9.out]; exact hlt, hb7⟩, by rw [← HN9.out]; simp [intOf]; omega⟩
    · obtain rfl : k = lenP pre := by omega
      obtain ⟨n9, hn9'⟩ : ∃ n, n = lenP pre := ⟨_, rfl⟩
      rw [← hn9'] at y1 hn9
      rw [← hn9']
      clear hn9' hlt hk
      go_wp2_with fail
      go_ret
      exact ⟨rfl, hb⟩
end Go.Proofs.YtbjickdjkgefcaaGreatDoor
end
