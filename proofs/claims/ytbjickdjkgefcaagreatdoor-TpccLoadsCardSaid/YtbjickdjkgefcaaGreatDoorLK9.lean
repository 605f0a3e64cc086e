/- The program's Sound of what was loaded: OK, joined. -/
import Derived.Test.YtbjickdjkgefcaaGreatDoorLJ3
import Derived.Test.YtbjickdjkgefcaaGreatDoorLK3
import Derived.Test.YtbjickdjkgefcaaGreatDoorLM3
import Derived.Test.YtbjickdjkgefcaaGreatDoorLN6
section
open Go Go.RowKit Go.Proofs.YtbjickdjkgefcaaGreatDoor.Vai
namespace Go.Proofs.YtbjickdjkgefcaaGreatDoor
set_option linter.unusedVariables false
set_option linter.unusedSimpArgs false
set_option maxRecDepth 20000
theorem puts_rowsOk {W D K I : Nat} (hW : W ≤ 5) (hD : D ≤ 5) (hK : K ≤ 50) (hI : I ≤ 50) : RowsOk (puts W D K I) :=
  ⟨by have := puts_len hW hD hK hI; omega, fun x hx => putAt_ok (puts_at hx) hW hD hK hI⟩
theorem rows_none {L : List (Nat × List Int)} {j : Nat} (h : ∀ x ∈ L, x.1 ≠ j) : rowsOf L j = [] := by
  unfold rowsOf
  rw [List.map_eq_nil_iff, List.filter_eq_nil_iff]
  intro x hx
  simpa using h x hx
theorem puts_laid {W D K I : Nat} (hW : W ≤ 5) (hD : D ≤ 5) (hK : K ≤ 50) (hI : I ≤ 50) : Laid (rowsOf (puts W D K I)) := by
  have ok := puts_rowsOk hW hD hK hI
  have at_ : ∀ j l, l ∈ rowsOf (puts W D K I) j → PutAt W D K I (j, l) := fun j l h => puts_at (mem_rowsOf h)
  refine ⟨fun j => (RowsOk.of _ ok j).1, fun j l hl => (ok.2 _ (mem_rowsOf hl)).len, rows_none fun x hx e => ?_, rows_none fun x hx e => ?_, rows_none fun x hx e => ?_, fun l hl => ?_, fun l hl => ?_, fun l hl => ?_, fun l hl => ?_⟩
  · have := (ok.2 x hx).tab; omega
  · have := (ok.2 x hx).tab; omega
  · have := (ok.2 x hx).tab; omega
  · cases at_ 0 l hl; rfl
  · cases at_ 1 l hl; exact ⟨rfl, rfl⟩
  · cases at_ 2 l hl; exact ⟨rfl, rfl⟩
  · cases at_ 4 l hl; exact ⟨rfl, rfl⟩
/-- 'of', as the books have it. -/
theorem ofK_any {pre : Bool} {a : ByteArray} (ha : Other a) {q : Four} {w0 : World} {pm : List MapEntry} {C : Nat → Cols} {clk : Nat} {L : List (Nat × List Int)} (hL : RowsOk L) {w : World} (h : PInv pre a q w0 pm C clk L w) (bb : Nat) (hb : w.cell? ⟨bb, 0, none⟩ = some (.pointer (some ⟨q.d, 0, none⟩))) (j : Nat) (hj : j < 8) (nm : ByteArray) (hnm : nm = tname j) (N : Nat) (hN : N ≤ lenOf j) :
    OfK 74 (.pointer (some ⟨bb, 0, none⟩)) nm (rowsOf L j) N w := by
  subst hnm
  intro wX vk n hX hn hk
  have hP := h.below hX
  obtain ⟨l1, l2⟩ := RowsOk.of L hL j
  have hlen : ∀ l ∈ rowsOf L j, l.length = lenOf j := fun l hl => (hL.2 _ (mem_rowsOf hl)).len
  have K37 := rowsT_any wX q.d q.m j pm C (offOf pre) clk L hP.pd (hP.ahead.apart ha) hj (by omega) (fun l hl => by have := l2 l hl; omega)
  have hn8 : n ≤ 100 := by have := @lenOf_le j; omega
  refine (of_any wX bb q.d n (tname j) vk (rowsOf L j) ((hX.cell (p := ⟨bb, 0, none⟩) (cell_lt hb)).trans hb) hk hn8 (by omega) (fun l hl => by rw [hlen l hl]; have := @lenOf_le j; omega) K37).mono ?_
  rintro e w' ⟨v, L', rfl, h1, h2, h3, h4⟩
  obtain ⟨p, c, rfl⟩ := h1.slice
  exact ⟨p, c, L', rfl, h1, h2, h3, h4⟩
set_option maxHeartbeats 1000000 in
theorem psound_any {pre : Bool} {a : ByteArray} (ha : Other a) {q : Four} {w0 : World} {pm : List MapEntry} {C : Nat → Cols} {clk : Nat} {W D K I : Nat} (hW : W ≤ 5) (hD : D ≤ 5) (hK : K ≤ 50) (hI : I ≤ 50) {w : World} (h : PInv pre a q w0 pm C clk (puts W D K I) w) :
    Calls Tryz.prog 14 #[.pointer (some ⟨q.d, 0, none⟩)] w fun e w' => e = .returned (.int .i64 0) ∧ KeepL [q.s] w w' := by
  have hL := puts_rowsOk hW hD hK hI
  have hR := puts_laid hW hD hK hI
  have K40 := whole_any pre a ha q w h.cat h.tabs
  have KK : ∀ w2 wb bb, CatW pre a q w2 → KeepL [q.s] w w2 → Below w2.heap.size w2 wb → wb.cell? ⟨bb, 0, none⟩ = some (.pointer (some ⟨q.d, 0, none⟩)) → ∀ (j : Nat) (hj : j < 8) (nm : ByteArray) (hnm : nm = tname j) (N : Nat) (hN : N ≤ lenOf j) wX, Below wb.heap.size wb wX → OfK 74 (.pointer (some ⟨bb, 0, none⟩)) nm (rowsOf (puts W D K I) j) N wX := fun w2 wb bb hc hk hb hcell j hj nm hnm N hN wX hX => (ofK_any ha hL ((h.turned hk hc).below hb) bb hcell j hj nm hnm N hN).mono hX
  have HKK := Lib.hid KK
  have HR := Lib.hid hR
  clear KK h hL hR
  go_enter Tryz.func14, Tryz.ntmps14
  go_wp2_with (first
    | (go_at_call 40; refine K40.mono ?_; rintro e w2 ⟨rfl, hc2, hk2⟩; have HK2 := Lib.hid (And.intro hc2 hk2); clear hc2 hk2))
  have bx : (w2.alloc (.cells #[.pointer (some ⟨q.d, 0, none⟩), .map none, .slice none 0 0, .int .i64 0, .slice none 0 0, .slice none 0 0, .map none] 101)).cell? ⟨w2.heap.size, 0, none⟩ = some (.pointer (some ⟨q.d, 0, none⟩)) := cell_of_heap (@heap_alloc_at w2 _) 0 _ rfl
  have hwb : Below w2.heap.size w2 (w2.alloc (.cells #[.pointer (some ⟨q.d, 0, none⟩), .map none, .slice none 0 0, .int .i64 0, .slice none 0 0, .slice none 0 0, .map none] 101)) := (Below.refl _ _).alloc (Nat.le_refl _) _
  obtain ⟨wb, hwbe⟩ : ∃ x, x = w2.alloc (.cells #[.pointer (some ⟨q.d, 0, none⟩), .map none, .slice none 0 0, .int .i64 0, .slice none 0 0, .slice none 0 0, .map none] 101) := ⟨_, rfl⟩
  rw [← hwbe] at bx hwb ⊢
  clear hwbe
  have KO := Lib.hid (fun j hj nm hnm N hN wX hX => HKK.out w2 wb w2.heap.size HK2.out.1 HK2.out.2 hwb bx j hj nm hnm N hN wX hX)
  have K41 := districts_any wb (.pointer (some ⟨w2.heap.size, 0, none⟩)) w2.heap.size rfl (rowsOf (puts W D K I)) HR.out (KO.out 0 (by omega) _ rfl 1 (by decide) wb (Below.refl _ _)) (KO.out 1 (by omega) _ rfl 1 (by decide) wb (Below.refl _ _)) (KO.out 2 (by omega) _ rfl 2 (by decide) wb (Below.refl _ _)) (KO.out 5 (by omega) _ rfl 2 (by decide) wb (Below.refl _ _))
  have K42 := fun wX (hX : Below wb.heap.size wb wX) => orders_any wX (.pointer (some ⟨w2.heap.size, 0, none⟩)) w2.heap.size rfl (rowsOf (puts W D K I)) HR.out (KO.out 6 (by omega) _ rfl 0 (by decide) wX hX) (KO.out 5 (by omega) _ rfl 2 (by decide) wX hX)
  have K43 := fun wX (hX : Below wb.heap.size wb wX) => customers_any wX (.pointer (some ⟨w2.heap.size, 0, none⟩)) w2.heap.size rfl (rowsOf (puts W D K I)) HR.out (KO.out 2 (by omega) _ rfl 2 (by decide) wX hX) (KO.out 5 (by omega) _ rfl 2 (by decide) wX hX)
  have K44 := fun wX (hX : Below wb.heap.size wb wX) => stocks_any wX (.pointer (some ⟨w2.heap.size, 0, none⟩)) w2.heap.size rfl (rowsOf (puts W D K I)) HR.out (KO.out 4 (by omega) _ rfl 0 (by decide) wX hX) (KO.out 7 (by omega) _ rfl 0 (by decide) wX hX)
  have HWB := Lib.hid hwb
  clear bx hwb K40
  go_wp2_with (first
    | (go_at_call 41; refine K41.mono ?_; rintro e w3 ⟨rfl, hb3⟩)
    | (go_at_call 42; refine (K42 _ hb3).mono ?_; rintro e w4 ⟨rfl, hb4'⟩; have hb4 := hb3.trans (hb4'.mono hb3.size))
    | (go_at_call 43; refine (K43 _ hb4).mono ?_; rintro e w5 ⟨rfl, hb5'⟩; have hb5 := hb4.trans (hb5'.mono hb4.size))
    | (go_at_call 44; refine (K44 _ hb5).mono ?_; rintro e w6 ⟨rfl, hb6'⟩; have hb6 := hb5.trans (hb6'.mono hb5.size)))
  go_ret
  exact ⟨rfl, HK2.out.2.trans (KeepL.of_below (HWB.out.trans (hb6.mono HWB.out.size)))⟩
end Go.Proofs.YtbjickdjkgefcaaGreatDoor
end
section
open Go Go.RowKit Go.Proofs.YtbjickdjkgefcaaGreatDoor.Vai
namespace Go.Proofs.YtbjickdjkgefcaaGreatDoor
set_option linter.unusedVariables false
set_option linter.unusedSimpArgs false
set_option maxRecDepth 20000
theorem has_all (pre : Bool) (p : Nat) (hp : MayP pre p) : hasOk p pre = true := by
  rcases hp with ⟨rfl, rfl⟩ | ⟨rfl, hp⟩
  · exact has_f
  · match p, hp with
    | 0, _ => exact has_t0
    | 1, _ => exact has_t1
    | 2, _ => exact has_t2
    | 3, _ => exact has_t3
    | 4, _ => exact has_t4
    | 5, _ => exact has_t5
    | 6, _ => exact has_t6
    | 7, _ => exact has_t7
    | 8, _ => exact has_t8
theorem rhas_any {pre : Bool} {a : ByteArray} {p : Nat} (hp : MayP pre p) (hr : RPlace a p) {q : Two} {w0 : World} {H : List (ByteArray × Cols × Nat)} {C : Nat → Cols} {L : List (Nat × List Int)} {w : World} (h : RInv pre a p q w0 H C L w) :
    Calls Tryz.prog 45 #[.pointer (some ⟨q.d, 0, none⟩)] w fun e w' => e = .returned (.bool true) ∧ Below w.heap.size w w' := by
  obtain ⟨l, _, hD⟩ := h.dat
  obtain ⟨v, ⟨cs, g1, g2, g3⟩, ⟨gg, cap, cur, ev, _⟩⟩ := hD.blk
  obtain ⟨us, t0, hU, e0, b0, hm⟩ := h.cat
  have h2 := (Array.getElem?_eq_some_iff.1 g3).1
  have hlen := hU.len
  have hL := hU.snoc (sp := datB) (t := ⟨q.d, cs.size, 2⟩) ⟨(fun e => by cases e), rfl, cs, (0, 0), g1, rfl, Nat.zero_le _, rfl, (by show 2 ≤ cs.size; omega), fun o val ho => by
    match o with
    | 0 =>
      cases ho
      refine ⟨_, g2, ?_⟩
      rw [← b0]
      refine .ptr 0 0 t0 ?_
      show (us ++ [_])[0]? = some t0
      rw [List.getElem?_append_left (List.getElem?_eq_some_iff.1 e0).1]; exact e0
    | 1 => cases ho; exact ⟨_, g3, .top 29 _ rfl (by rw [ev]; rfl)⟩
    | o + 2 => simp at ho⟩ hm (lt_of_heap g1)
  have hk := has_all pre p hp
  unfold hasOk hasRun specH at hk
  refine (run_lock kn0_ok hL hr (fun k sp hsp => ?_) (ng := 0) (Nat.zero_le _) (fun g t hg => absurd hg (Nat.not_lt_zero _)) (args := [.pointer (some ⟨(specC p (tabsP pre 8)).length, 0, none⟩)]) (cargs := [.pointer (some ⟨q.d, 0, none⟩)]) (.cons _ _ _ _ (.ptr _ 0 ⟨q.d, cs.size, 2⟩ (by
    show (us ++ [_])[(specC p (tabsP pre 8)).length]? = some _
    rw [← hlen, List.getElem?_append_right (Nat.le_refl _)]; simp)) .nil) hk).mono ?_
  · by_cases hi : k < (specC p (tabsP pre 8)).length
    · rw [List.getElem?_append_left hi] at hsp
      exact specC_locked p _ k sp hsp
    · rw [List.getElem?_append_right (by omega)] at hsp
      have : k - (specC p (tabsP pre 8)).length = 0 := by have := (List.getElem?_eq_some_iff.1 hsp).1; simp at this; omega
      rw [this] at hsp
      cases hsp; rfl
  · rintro e w' ⟨ψ, u, c, ts', rfl, hu, hvr, _, _, hb⟩
    obtain rfl := veq_sound _ _ hu
    cases hvr
    exact ⟨rfl, hb⟩
theorem docrows_j {pre : Bool} {a : ByteArray} {p : Nat} (ha : Other a) {q : Two} {w0 : World} {H : List (ByteArray × Cols × Nat)} {C : Nat → Cols} {L : List (Nat × List Int)} (hL : RowsOk L) {w : World} (h : RInv pre a p q w0 H C L w) (j : Nat) (hj : j < 8) :
    Calls Tryz.prog 38 #[.pointer (some ⟨q.d, 0, none⟩), .string (tname j)] w fun e w' => ∃ v, e = .returned (.tuple #[v, .int .i64 0]) ∧ VRows w' v (rowsOf L j) ∧ (rowsOf L j = [] → v = .slice none 0 0) ∧ Below w.heap.size w w' := by
  obtain ⟨l, hl, hD⟩ := h.dat
  have hlen : l.length ≤ 100 := by
    have := congrArg List.length hl
    rw [List.length_map, heads_len, h.ahead.len] at this
    rw [this]
    cases pre <;> decide
  have back : ∀ (k : Nat) (t : RTab), l[k]? = some t → (heads H C)[k]? = some t.hd := fun k t ht => by
    rw [← hl, List.getElem?_map, ht]; rfl
  obtain ⟨l1, l2⟩ := RowsOk.of L hL j
  have hoff := h.ahead.len
  have hx := heads_at H C j hj
  rw [hoff] at hx
  obtain ⟨t, ht, hh⟩ : ∃ t, l[offOf pre + j]? = some t ∧ t.hd = (tname j, C j, tkey j) := by
    rw [← hl, List.getElem?_map] at hx
    cases hk : l[offOf pre + j]? with
    | none => rw [hk] at hx; cases hx
    | some t => rw [hk] at hx; exact ⟨t, rfl, by simpa using hx⟩
  have en : t.nm = tname j := congrArg (·.1) hh
  have hR : Rof (offOf pre) L (offOf pre + j) = rowsOf L j := by
    unfold Rof
    rw [if_neg (by omega), Nat.add_sub_cancel_left]
  have := rrows_any w q.d (.pointer (some ⟨q.c, 0, none⟩)) l (Rof (offOf pre) L) _ t hD ht (fun k x hk hx => by
    rw [en]
    have hb := back k x hx
    by_cases hk2 : k < H.length
    · unfold heads at hb
      rw [List.getElem?_append_left hk2] at hb
      exact h.ahead.apart ha x.hd (List.mem_of_getElem? hb) _ hj
    · have e2 := heads_at H C (k - H.length) (by omega)
      rw [show H.length + (k - H.length) = k by omega, hb] at e2
      have e3 : x.nm = tname (k - H.length) := congrArg (·.1) (Option.some.inj e2)
      rw [e3]
      exact tname_ne _ _ (by omega) hj (by omega)) hlen (by rw [hR]; omega) (fun r hr => by rw [hR] at hr; have := l2 r hr; omega)
  rw [hR, en] at this
  exact this
theorem allK_any {pre : Bool} {a : ByteArray} {p : Nat} (ha : Other a) {q : Two} {w0 : World} {H : List (ByteArray × Cols × Nat)} {C : Nat → Cols} {L : List (Nat × List Int)} (hL : RowsOk L) {w : World} (h : RInv pre a p q w0 H C L w) (j : Nat) (hj : j < 8) (nm : ByteArray) (hnm : nm = tname j) : AllK (.pointer (some ⟨q.d, 0, none⟩)) nm (rowsOf L j) w := by
  subst hnm
  intro wX hX
  obtain ⟨l1, l2⟩ := RowsOk.of L hL j
  refine (all_any wX q.d (tname j) (rowsOf L j) (by omega) (fun l hl => by have := l2 l hl; omega) (docrows_j ha hL (h.below hX) j hj)).mono ?_
  rintro e w' ⟨v, rfl, h1, h2⟩
  obtain ⟨p, c, rfl⟩ := h1.slice
  exact ⟨p, c, rfl, h1, h2⟩
theorem rofK_any {pre : Bool} {a : ByteArray} {p : Nat} (ha : Other a) {q : Two} {w0 : World} {H : List (ByteArray × Cols × Nat)} {C : Nat → Cols} {L : List (Nat × List Int)} (hL : RowsOk L) {w : World} (h : RInv pre a p q w0 H C L w) (j : Nat) (hj : j < 8) (nm : ByteArray) (hnm : nm = tname j) (N : Nat) (hN : N ≤ lenOf j) : OfK 76 (.pointer (some ⟨q.d, 0, none⟩)) nm (rowsOf L j) N w := by
  intro wX vk n hX hn hk
  obtain ⟨l1, l2⟩ := RowsOk.of L hL j
  have hlen : ∀ l ∈ rowsOf L j, l.length = lenOf j := fun l hl => (hL.2 _ (mem_rowsOf hl)).len
  have KA := allK_any ha hL h j hj nm hnm wX hX
  refine (rof_any wX q.d n nm vk (rowsOf L j) hk (by omega) (fun l hl => ?_) (KA.mono fun e w' ⟨p, c, h1, h2, h3⟩ => ⟨_, h1, h2, h3⟩)).mono ?_
  · have e := hlen l hl
    have := @lenOf_le j
    have := lenOf_pos j
    refine ⟨by omega, by omega, fun e0 => ?_⟩
    rw [e0] at e
    simp at e
    omega
  · rintro e w' ⟨v, L', rfl, h1, h2, h3, h4⟩
    obtain ⟨p, c, rfl⟩ := h1.slice
    exact ⟨p, c, L', rfl, h1, h2, h3, h4⟩
end Go.Proofs.YtbjickdjkgefcaaGreatDoor
end
section
open Go Go.RowKit Go.Proofs.YtbjickdjkgefcaaGreatDoor.Vai
namespace Go.Proofs.YtbjickdjkgefcaaGreatDoor
set_option linter.unusedVariables false
set_option linter.unusedSimpArgs false
set_option maxRecDepth 20000
set_option maxHeartbeats 4000000 in
theorem rsound_walk (w : World) (vb : Value) (bb : Nat) (hvb : vb = .pointer (some ⟨bb, 0, none⟩)) (R : Nat → List (List Int)) (hL : Laid R) (K45 : Calls Tryz.prog 45 #[vb] w fun e w' => e = .returned (.bool true) ∧ Below w.heap.size w w') (A0 : AllK vb ⟨#[104,111,117,115,101]⟩ (R 0) w) (A1 : AllK vb ⟨#[100,105,115,116,114,105,99,116]⟩ (R 1) w) (A2 : AllK vb ⟨#[99,117,115,116,111,109,101,114]⟩ (R 2) w) (A4 : AllK vb ⟨#[115,116,111,99,107]⟩ (R 4) w) (A5 : AllK vb ⟨#[111,114,100,101,114,115]⟩ [] w) (A6 : AllK vb ⟨#[102,114,101,115,104]⟩ [] w) (A7 : AllK vb ⟨#[108,105,110,101]⟩ [] w)
    (K1 : OfK 76 vb ⟨#[100,105,115,116,114,105,99,116]⟩ (R 1) 1 w) (K2 : OfK 76 vb ⟨#[99,117,115,116,111,109,101,114]⟩ (R 2) 2 w) (K5 : OfK 76 vb ⟨#[111,114,100,101,114,115]⟩ [] 2 w) :
    Calls Tryz.prog 15 #[vb] w fun e w' => e = .returned (.int .i64 0) ∧ Below w.heap.size w w' := by
  have K5' : OfK 76 vb ⟨#[111,114,100,101,114,115]⟩ (R 5) 2 w := by rw [hL.none5]; exact K5
  have K46 := fun wX (hX : Below w.heap.size w wX) => rdistricts_any wX vb bb hvb R hL (A0.mono hX) (A1.mono hX) (K1.mono hX) (K2.mono hX) (K5'.mono hX)
  have K47 := fun wX (hX : Below w.heap.size w wX) => rorders_any wX vb bb hvb (A6.mono hX) (A5.mono hX)
  have K49 := fun wX (hX : Below w.heap.size w wX) gu cuu x0 x1 a0 a1 => paid_any wX vb bb hvb gu cuu x0 x1 a0 a1 (K5.mono hX)
  have HL := Lib.hid hL
  have HA2 := Lib.hid A2
  have HA4 := Lib.hid A4
  have HA7 := Lib.hid A7
  have HK49 := Lib.hid K49
  subst hvb
  clear hL A0 A1 A2 A4 A5 A6 A7 K1 K2 K5 K5' K49
  have hLs := HL.out.small 2
  obtain ⟨L, hLe⟩ : ∃ x, x = R 2 := ⟨_, rfl⟩
  have HLE := Lib.hid hLe
  rw [← hLe] at hLs HA2
  clear hLe
  have w00 : IntKind.i64.wrap 0 = 0 := by decide
  have KA : ∀ wX, Below w.heap.size w wX → Calls Tryz.prog 48 _ wX _ := fun wX hX => HA2.out wX hX
  go_enter Tryz.func15, Tryz.ntmps15
  go_wp2_with (first
    | (go_at_call 45; with_reducible refine K45.mono ?_; rintro e w1 ⟨rfl, hb1⟩)
    | (go_at_call 46; with_reducible refine (K46 _ hb1).mono ?_; rintro e w2 ⟨rfl, hb2'⟩; have hb2 := hb1.trans (hb2'.mono hb1.size))
    | (go_at_call 47; with_reducible refine (K47 _ hb2).mono ?_; rintro e w3 ⟨rfl, hb3'⟩; have hb3 := hb2.trans (hb3'.mono hb2.size))
    | (go_at_call 48; with_reducible refine (KA _ hb3).mono ?_; rintro e w4 ⟨p4, c4, rfl, hv4, hb4'⟩; have hb4 := hb3.trans (hb4'.mono hb3.size)))
  have HV4 := Lib.hid hv4
  have HB4 := Lib.hid hb4
  clear K45 K46 K47 KA hb1 hb2 hb2' hb3 hb3' hb4 hb4' hv4
  go_loopw [3, 5] (fun ok i wr => ∃ k : Nat, i = .int .i64 k ∧ ok = .bool true ∧ k ≤ L.length ∧ Below w4.heap.size w4 wr) (fun _ i _ => L.length - (intOf i).toNat)
  case atStart => exact ⟨0, rfl, rfl, Nat.zero_le _, Below.refl _ _⟩
  case round =>
    obtain ⟨k, rfl, rfl, hk, hb⟩ := hrel
    by_cases hlt : k < L.length
    · obtain ⟨l, hx⟩ : ∃ l, L[k]? = some l := ⟨_, List.getElem?_eq_getElem hlt⟩
      obtain ⟨g, cg, e2, _, hr⟩ := HV4.out.read (by omega)
      cases e2
      obtain ⟨u, cu, hu⟩ := hr k l hx
      have hm : l ∈ R 2 := by rw [← HLE.out]; exact List.mem_of_getElem? hx
      have hlen : l.length = 7 := HL.out.len 2 l hm
      obtain ⟨d4, d5⟩ := HL.out.cust l hm
      have hne : l ≠ [] := fun e => by rw [e] at hlen; cases hlen
      obtain ⟨gu, cuu, rfl, _, hlc, hru⟩ := hu.read hne
      rw [hlen] at cu hlc
      have c0 := (hb.cell (p := ⟨g, k, none⟩) (cell_lt cu)).trans cu
      have cells : ∀ j n, l[j]? = some n → wr.cell? ⟨gu, j, none⟩ = some (.int .i64 n) := fun j n h => (hb.cell (p := ⟨gu, j, none⟩) (cell_lt (hru j n h))).trans (hru j n h)
      obtain ⟨x0, hx0⟩ : ∃ x, l[0]? = some x := ⟨_, List.getElem?_eq_getElem (by omega)⟩
      obtain ⟨x1, hx1⟩ : ∃ x, l[1]? = some x := ⟨_, List.getElem?_eq_getElem (by omega)⟩
      have a0 := cells 0 x0 hx0
      have a1 := cells 1 x1 hx1
      have a4 := cells 4 0 d4
      have a5 := cells 5 0 d5
      have la := cell_lt a0
      have lc := cell_lt c0
      have hbw : Below w.heap.size w wr := HB4.out.trans (hb.mono HB4.out.size)
      have kb : Hid (∀ w', Below wr.heap.size wr w' → w'.cell? ⟨g, k, none⟩ = some (.slice (some ⟨gu, 0, none⟩) 7 cuu) ∧ w'.cell? ⟨gu, 4, none⟩ = some (.int .i64 0) ∧ w'.cell? ⟨gu, 5, none⟩ = some (.int .i64 0)) := fun w' h => ⟨(h.cell (p := ⟨g, k, none⟩) lc).trans c0, (h.cell (p := ⟨gu, 4, none⟩) la).trans a4, (h.cell (p := ⟨gu, 5, none⟩) la).trans a5⟩
      have KP := Lib.hid (HK49.out wr.drew hbw.drew gu cuu x0 x1 a0 a1)
      have HB := Lib.hid hb
      clear hx cu hu hru hm d4 d5 hne cells hx0 hx1 hr hb hlen hbw a0 a1
      go_wp2_with fail
      go_region_held3 (fun w' => w'.cell? ⟨g, k, none⟩ = some (.slice (some ⟨gu, 0, none⟩) 7 cuu) ∧ w'.cell? ⟨gu, 4, none⟩ = some (.int .i64 0) ∧ w'.cell? ⟨gu, 5, none⟩ = some (.int .i64 0))
        (first
          | with_reducible exact ⟨c0, a4, a5⟩
          | (refine kb.out _ ?_; (repeat' first | with_reducible exact Below.refl _ _ | with_reducible assumption | with_reducible refine Below.drew ?_ | with_reducible refine Below.alloc ?_ ?_ _ | with_reducible refine Below.setCell ?_ ?_ _ | (simp; done) | (simp; omega)); done))
        ((go_at_call 49; refine KP.out.mono ?_; rintro e w5 ⟨rfl, hb5⟩
          have hb5r : Below wr.heap.size wr w5 := (Below.refl wr.heap.size wr).drew.trans hb5))
      go_wp2_with fail
      exact ⟨⟨k + 1, by go_num, rfl, hlt, HB.out.trans (hb5r.mono HB.out.size)⟩, by simp [intOf]; omega⟩
    · obtain rfl : k = L.length := by omega
      have hbw : Below w.heap.size w wr := HB4.out.trans (hb.mono HB4.out.size)
      have hLs4 := HL.out.small 4
      obtain ⟨S, hSe⟩ : ∃ x, x = R 4 := ⟨_, rfl⟩
      have HSE := Lib.hid hSe
      rw [← hSe] at hLs4 HA4
      clear hSe hb hlt hk
      have KA := HA4.out wr hbw
      have KB := fun wX (hX : Below wr.heap.size wr wX) => HA7.out wX (hbw.trans (hX.mono hbw.size))
      go_wp2_with (first
        | (go_at_call 48; with_reducible refine KA.mono ?_; rintro e w6 ⟨p6, c6, rfl, hv6, hb6⟩)
        | (go_at_call 48; with_reducible refine (KB _ hb6).mono ?_; rintro e w7 ⟨p7, c7, rfl, hv7, hb7⟩))
      have HV7 := Lib.hid (hv6.below hb7)
      have hbf : Below w.heap.size w w7 := hbw.trans ((hb6.trans (hb7.mono hb6.size)).mono hbw.size)
      have HBF := Lib.hid hbf
      clear KA KB hv6 hv7 hb6 hb7 hbf hbw
      go_loopw [3, 8] (fun ok i wl => ∃ k : Nat, i = .int .i64 k ∧ ok = .bool true ∧ k ≤ S.length ∧ wl = w7) (fun _ i _ => S.length - (intOf i).toNat)
      case atStart => exact ⟨0, rfl, rfl, Nat.zero_le _, rfl⟩
      case round =>
        obtain ⟨k, rfl, rfl, hk, rfl⟩ := hrel
        by_cases hlt : k < S.length
        · obtain ⟨l, hx⟩ : ∃ l, S[k]? = some l := ⟨_, List.getElem?_eq_getElem hlt⟩
          obtain ⟨g, cg, e2, _, hr⟩ := HV7.out.read (by omega)
          cases e2
          obtain ⟨u, cu, hu⟩ := hr k l hx
          have hm : l ∈ R 4 := by rw [← HSE.out]; exact List.mem_of_getElem? hx
          have hlen : l.length = 5 := HL.out.len 4 l hm
          obtain ⟨d3, d4⟩ := HL.out.stock l hm
          have hne : l ≠ [] := fun e => by rw [e] at hlen; cases hlen
          obtain ⟨gu, cuu, rfl, _, hlc, hru⟩ := hu.read hne
          rw [hlen] at cu hlc
          have a3 := hru 3 0 d3
          have a4 := hru 4 0 d4
          clear hx hu hru hm d3 d4 hne hr hlen
          go_wp2_with fail
          obtain ⟨w8, rfl⟩ : ∃ x : World, x = wr := ⟨_, rfl⟩
          go_loopw [9, 10, 11] (fun a b i wl => a = .int .i64 0 ∧ b = .int .i64 0 ∧ i = .int .i64 0 ∧ wl = w8) (fun _ _ _ _ => 1)
          case atStart => exact ⟨rfl, rfl, rfl, rfl⟩
          case round =>
            obtain ⟨rfl, rfl, rfl, rfl⟩ := hrel
            go_wp2_with fail
            exact ⟨⟨k + 1, by go_num, rfl, hlt, trivial⟩, by simp [intOf]; omega⟩
        · obtain rfl : k = S.length := by omega
          go_wp2_with fail
          go_ret
          exact ⟨rfl, HBF.out⟩
theorem rsound_any {pre : Bool} {a : ByteArray} {p : Nat} (hp : MayP pre p) (ha : Other a) (hr : RPlace a p) {q : Two} {w0 : World} {H : List (ByteArray × Cols × Nat)} {C : Nat → Cols} {W D K I : Nat} (hW : W ≤ 5) (hD : D ≤ 5) (hK : K ≤ 50) (hI : I ≤ 50) {w : World} (h : RInv pre a p q w0 H C (puts W D K I) w) :
    Calls Tryz.prog 15 #[.pointer (some ⟨q.d, 0, none⟩)] w fun e w' => e = .returned (.int .i64 0) ∧ Below w.heap.size w w' := by
  have hL := puts_rowsOk hW hD hK hI
  have hR := puts_laid hW hD hK hI
  have A := fun j hj nm hnm => allK_any ha hL h j hj nm hnm
  have O := fun j hj nm hnm N hN => rofK_any ha hL h j hj nm hnm N hN
  have A5 := A 5 (by omega) ⟨#[111,114,100,101,114,115]⟩ rfl
  have A6 := A 6 (by omega) ⟨#[102,114,101,115,104]⟩ rfl
  have A7 := A 7 (by omega) ⟨#[108,105,110,101]⟩ rfl
  have O5 := O 5 (by omega) ⟨#[111,114,100,101,114,115]⟩ rfl 2 (by decide)
  rw [hR.none5] at A5 O5
  rw [hR.none6] at A6
  rw [hR.none7] at A7
  exact rsound_walk w _ q.d rfl (rowsOf (puts W D K I)) hR (rhas_any hp hr h) (A 0 (by omega) _ rfl) (A 1 (by omega) _ rfl) (A 2 (by omega) _ rfl) (A 4 (by omega) _ rfl) A5 A6 A7 (O 1 (by omega) _ rfl 1 (by decide)) (O 2 (by omega) _ rfl 2 (by decide)) O5
end Go.Proofs.YtbjickdjkgefcaaGreatDoor
end
section
open Go Go.RowKit Go.Proofs.YtbjickdjkgefcaaGreatDoor.Vai
namespace Go.Proofs.YtbjickdjkgefcaaGreatDoor
set_option linter.unusedVariables false
set_option linter.unusedSimpArgs false
set_option maxRecDepth 20000
theorem PInv.rebase {pre : Bool} {a : ByteArray} {q : Four} {w0 : World} {pm : List MapEntry} {C : Nat → Cols} {clk : Nat} {L : List (Nat × List Int)} {w : World} (h : PInv pre a q w0 pm C clk L w) : PInv pre a q w pm C clk L w := ⟨h.pd, h.ahead, h.cols, h.cat, KeepL.refl _ _, h.tabs⟩
theorem RInv.rebase {pre : Bool} {a : ByteArray} {p : Nat} {q : Two} {w0 : World} {H : List (ByteArray × Cols × Nat)} {C : Nat → Cols} {L : List (Nat × List Int)} {w : World} (h : RInv pre a p q w0 H C L w) : RInv pre a p q w H C L w := ⟨h.dat, h.ahead, h.cols, h.cat, KeepL.refl _ _⟩
/-- Two blocks that are no blocks of the program's data. -/
def Strange (r : Two) (w : World) : Prop := (∃ cs fr, w.heap[r.d]? = some (.cells cs 66 fr)) ∧ ∃ cs fr, w.heap[r.c]? = some (.cells cs 63 fr)
theorem Strange.of_lies {p : Nat} {l : List Nat} {a : ByteArray} {us : List Tgt} {r : Two} {w : World} (h : Lies w (specR p l) us (sg a)) (h3 : (us.map (·.blk)).take 2 = r.l) : Strange r w := by
  obtain ⟨⟨t0, e0, b0⟩, ⟨t1, e1, b1⟩⟩ := two_at h3
  cases l with
  | nil =>
    obtain ⟨_, _, cs, fr, q3, _⟩ := h.ok 0 t0 _ e0 rfl
    obtain ⟨_, _, cs1, fr1, q31, _⟩ := h.ok 1 t1 _ e1 rfl
    rw [b0] at q3
    rw [b1] at q31
    exact ⟨⟨_, _, q3⟩, ⟨_, _, q31⟩⟩
  | cons x l =>
    obtain ⟨_, _, cs, fr, q3, _⟩ := h.ok 0 t0 _ e0 rfl
    obtain ⟨_, _, cs1, fr1, q31, _⟩ := h.ok 1 t1 _ e1 rfl
    rw [b0] at q3
    rw [b1] at q31
    exact ⟨⟨_, _, q3⟩, ⟨_, _, q31⟩⟩
theorem PInv.doc {pre : Bool} {a : ByteArray} {q : Four} {r : Two} {w0 : World} {pm : List MapEntry} {C : Nat → Cols} {clk : Nat} {L : List (Nat × List Int)} {w w' : World} (h : PInv pre a q w0 pm C clk L w) (hs : Strange r w) (hk : KeepL r.l w w') : PInv pre a q w' pm C clk L w' := by
  obtain ⟨⟨cd, fd, hd⟩, ⟨cc, fc, hc⟩⟩ := hs
  have hin : ∀ x, x ∈ r.l → (∃ cs fr, w.heap[x]? = some (.cells cs 66 fr)) ∨ ∃ cs fr, w.heap[x]? = some (.cells cs 63 fr) := by
    intro x hx
    simp only [Two.l, List.mem_cons, List.mem_nil_iff, or_false] at hx
    rcases hx with rfl | rfl
    · exact .inl ⟨_, _, hd⟩
    · exact .inr ⟨_, _, hc⟩
  have hkt : ∀ T : List TypeId, 66 ∉ T → 63 ∉ T → KT T w w' := fun T h1 h2 b cs ty fr hb hm => by
    rw [hk.block b (lt_of_heap hb) (fun hx => by
      rcases hin b hx with ⟨c2, f2, e⟩ | ⟨c2, f2, e⟩ <;> rw [e] at hb <;> cases hb
      · exact h1 hm
      · exact h2 hm)]
    exact hb
  have nomap : ∀ x o, w.heap[x]? = some o → (∀ cs fr, o ≠ .cells cs 66 fr) → (∀ cs fr, o ≠ .cells cs 63 fr) → x ∉ r.l := fun x o ho h1 h2 hx => by
    rcases hin x hx with ⟨c2, f2, e⟩ | ⟨c2, f2, e⟩ <;> rw [ho] at e <;> cases e
    · exact h1 _ _ rfl
    · exact h2 _ _ rfl
  obtain ⟨us, t0, t1, t2, hU, e0, b0, e1, b1, e2, b2, hm⟩ := h.cat
  have hut : ∀ x ∈ us.map (·.blk), x ∉ r.l := by
    intro x hx
    obtain ⟨t, ht, rfl⟩ := List.mem_map.1 hx
    obtain ⟨i, hi⟩ := List.getElem?_of_mem ht
    have hil := (List.getElem?_eq_some_iff.1 hi).1
    have hsp := List.getElem?_eq_getElem (l := specS (tabsP pre 8)) (i := i) (by rw [← hU.len]; exact hil)
    have ok := hU.ok i t _ hi hsp
    rcases specS_ne i _ hsp with ⟨e, es, c, e1, e2⟩ | ⟨_, es, n, e1⟩
    · rw [e1] at ok
      obtain ⟨_, _, c2, fr, g, _⟩ := ok
      refine nomap _ _ g (fun cs fr e => ?_) (fun cs fr e => ?_)
      · cases e; rcases e2 with h | h | h <;> cases h
      · cases e; rcases e2 with h | h | h <;> cases h
    · rw [e1] at ok
      obtain ⟨_, c2, g, rr⟩ := ok
      cases rr
      exact nomap _ _ g (fun cs fr e => by cases e) (fun cs fr e => by cases e)
  obtain ⟨E, hM, _⟩ := h.pd.tabs
  have hM : w.heap[q.m]? = _ := hM
  have hdq : q.d ∉ r.l := hut _ (by rw [← b0]; exact List.mem_map.2 ⟨t0, List.mem_of_getElem? e0, rfl⟩)
  have hmq : q.m ∉ r.l := nomap _ _ hM (fun cs fr e => by cases e) (fun cs fr e => by cases e)
  obtain ⟨c0, hz⟩ := tabs_zero h.tabs
  have h0 : 0 ∉ r.l := nomap _ _ hz (fun cs fr e => by cases e) (fun cs fr e => by cases e)
  exact ⟨h.pd.keep (hk.block _ (cell_lt h.pd.ptr) hdq) (hk.block _ (lt_of_heap hM) hmq) (hkt _ (by decide) (by decide)), h.ahead, h.cols.keep (hkt _ (by decide) (by decide)), ⟨us, t0, t1, t2, hU.keepL hk hut, e0, b0, e1, b1, e2, b2, hm⟩, KeepL.refl _ _, h.tabs.keepL hk h0⟩
theorem PInv.maps {pre : Bool} {a : ByteArray} {q : Four} {w0 : World} {pm : List MapEntry} {C : Nat → Cols} {clk : Nat} {L : List (Nat × List Int)} {w : World} (h : PInv pre a q w0 pm C clk L w) : ∀ x ∈ q.own, ∃ es k, w.heap[x]? = some (.map es k) := by
  obtain ⟨us, t0, t1, t2, hU, _, _, _, _, e2, b2, _⟩ := h.cat
  obtain ⟨_, o, ho, hR⟩ := hU.ok 2 t2 _ e2 rfl
  obtain ⟨E, hM, _⟩ := h.pd.tabs
  have hM : w.heap[q.m]? = _ := hM
  intro x hx
  simp only [Four.own, List.mem_cons, List.mem_nil_iff, or_false] at hx
  rcases hx with rfl | rfl
  · exact ⟨_, _, hM⟩
  · rw [b2] at ho
    cases hR
    exact ⟨_, _, ho⟩
/-- The document's data stay where maps alone turn. -/
theorem RInv.prog {pre : Bool} {a : ByteArray} {p : Nat} {r : Two} {w0 : World} {H : List (ByteArray × Cols × Nat)} {C : Nat → Cols} {L : List (Nat × List Int)} {own : List Nat} {w w' : World} (h : RInv pre a p r w0 H C L w) (hm : ∀ x ∈ own, ∃ es k, w.heap[x]? = some (.map es k)) (hk : KeepL own w w') : RInv pre a p r w' H C L w' := by
  have hkt : ∀ T : List TypeId, KT T w w' := fun T b cs ty fr hb _ => by
    rw [hk.block b (lt_of_heap hb) (fun hx => by obtain ⟨es, k, e⟩ := hm b hx; rw [e] at hb; cases hb)]
    exact hb
  obtain ⟨l, h1, h2⟩ := h.dat
  obtain ⟨us, t0, hU, e0, b0, hn⟩ := h.cat
  refine ⟨⟨l, h1, h2.keep (hkt [66, 87, 121, 71]) (by simp) (by simp) (by simp) (by simp)⟩, h.ahead, h.cols.keep (hkt _), ⟨us, t0, hU.keepL hk (fun x hx ho => ?_), e0, b0, hn⟩, KeepL.refl _ _⟩
  obtain ⟨t, ht, rfl⟩ := List.mem_map.1 hx
  obtain ⟨i, hi⟩ := List.getElem?_of_mem ht
  have hil := (List.getElem?_eq_some_iff.1 hi).1
  have hsp := List.getElem?_eq_getElem (l := specC p (tabsP pre 8)) (i := i) (by rw [← hU.len]; exact hil)
  have ok := hU.ok i t _ hi hsp
  obtain ⟨es, k, e⟩ := hm _ ho
  have hcells : ∃ e2 es2 l2, (specC p (tabsP pre 8))[i]'(by rw [← hU.len]; exact hil) = .cells e2 es2 l2 true := by
    have hmem := List.getElem_mem (l := specC p (tabsP pre 8)) (n := i) (by rw [← hU.len]; exact hil)
    generalize (specC p (tabsP pre 8))[i]'(by rw [← hU.len]; exact hil) = sp at hmem
    have hcb : ∀ (l : List Nat), ∀ s ∈ colBs l, ∃ c, s = .cells 38 2 c true := by
      intro l
      induction l with
      | nil => intro s h; simp [colBs] at h
      | cons y l ih =>
        intro s h
        simp only [colBs, List.mem_cons] at h
        rcases h with rfl | rfl | h
        · exact ⟨_, rfl⟩
        · exact ⟨_, rfl⟩
        · exact ih s h
    simp only [specC, List.mem_cons] at hmem
    rcases hmem with rfl | rfl | hmem
    · exact ⟨_, _, _, rfl⟩
    · exact ⟨_, _, _, rfl⟩
    · obtain ⟨c, rfl⟩ := hcb _ _ hmem
      exact ⟨_, _, _, rfl⟩
  obtain ⟨e2, es2, l2, e3⟩ := hcells
  rw [e3] at ok
  obtain ⟨_, _, cs, fr, g, _⟩ := ok
  rw [e] at g
  cases g
theorem RInv.strange {pre : Bool} {a : ByteArray} {p : Nat} {r : Two} {w0 : World} {H : List (ByteArray × Cols × Nat)} {C : Nat → Cols} {L : List (Nat × List Int)} {w : World} (h : RInv pre a p r w0 H C L w) : Strange r w := by
  obtain ⟨l, _, hD⟩ := h.dat
  obtain ⟨v, ⟨cs, h1, _, _⟩, _⟩ := hD.blk
  obtain ⟨us, t0, hU, e0, b0, hn⟩ := h.cat
  obtain ⟨_, _, cs1, fr1, q31, _⟩ := hU.ok 0 t0 _ e0 rfl
  rw [b0] at q31
  exact ⟨⟨_, _, h1⟩, ⟨_, _, q31⟩⟩
/-- Both data are loaded alike. -/
structure Full (pre : Bool) (a : ByteArray) (p : Nat) (q : Four) (r : Two) (L : List (Nat × List Int)) (w : World) : Prop where
  both : ∃ pm C clk H C', PInv pre a q w pm C clk L w ∧ RInv pre a p r w H C' L w
theorem Full.below {pre : Bool} {a : ByteArray} {p : Nat} {q : Four} {r : Two} {L : List (Nat × List Int)} {w w' : World} (h : Full pre a p q r L w) (hb : Below w.heap.size w w') : Full pre a p q r L w' := by
  obtain ⟨pm, C, clk, H, C', h1, h2⟩ := h.both
  exact ⟨pm, C, clk, H, C', (h1.below hb).rebase, (h2.below hb).rebase⟩
/-- The program's data are loaded, the document's not yet. -/
structure Half (pre : Bool) (a : ByteArray) (q : Four) (r : Two) (L : List (Nat × List Int)) (w : World) : Prop where
  both : ∃ pm C clk us, PInv pre a q w pm C clk L w ∧ Lies w (specR 0 (tabsP pre 0)) us (sg a) ∧ (us.map (·.blk)).take 2 = r.l
theorem Half.below {pre : Bool} {a : ByteArray} {q : Four} {r : Two} {L : List (Nat × List Int)} {w w' : World} (h : Half pre a q r L w) (hb : Below w.heap.size w w') : Half pre a q r L w' := by
  obtain ⟨pm, C, clk, us, h1, h2, h3⟩ := h.both
  exact ⟨pm, C, clk, us, (h1.below hb).rebase, h2.below hb, h3⟩
theorem load_full {pre : Bool} {a : ByteArray} (ha : Other a) {q : Four} {r : Two} {W D K I : Nat} (hW : 1 ≤ W ∧ W ≤ 5) (hD : 1 ≤ D ∧ D ≤ 5) (hK : 1 ≤ K ∧ K ≤ 50) (hI : 1 ≤ I ∧ I ≤ 50) {w : World} (h : Joint pre a q r w) :
    Calls Tryz.prog 9 #[.pointer (some ⟨q.d, 0, none⟩), .int .i64 W, .int .i64 D, .int .i64 K, .int .i64 I] w fun e w' => e = .returned (.int .i64 0) ∧ Half pre a q r (puts W D K I) w' ∧ KeepL q.own w w' := by
  obtain ⟨ts, us, h1, h2, h3, h4⟩ := h.both
  refine (pload_in pre a ha q w w W D K I hW hD hK hI ⟨ts, h1⟩).mono ?_
  rintro e w' ⟨rfl, pm, C, clk, hP⟩
  exact ⟨rfl, ⟨pm, C, clk, us, hP.rebase, h2.keepL hP.keep (fun x hx hm => h4 x hx (h1.mem x hm)), h3⟩, hP.keep⟩
theorem rload_full {pre : Bool} {a : ByteArray} {p : Nat} (hp : MayP pre p) (hr : RPlace a p) (ha : Other a) {q : Four} {r : Two} {W D K I : Nat} (hW : 1 ≤ W ∧ W ≤ 5) (hD : 1 ≤ D ∧ D ≤ 5) (hK : 1 ≤ K ∧ K ≤ 50) (hI : 1 ≤ I ∧ I ≤ 50) {w : World} (h : Half pre a q r (puts W D K I) w) :
    Calls Tryz.prog 12 #[.pointer (some ⟨r.d, 0, none⟩), .int .i64 W, .int .i64 D, .int .i64 K, .int .i64 I] w fun e w' => e = .returned (.int .i64 0) ∧ Full pre a p q r (puts W D K I) w' ∧ KeepL r.l w w' := by
  obtain ⟨pm, C, clk, us, h1, h2, h3⟩ := h.both
  have hp8 : p ≤ 8 := by rcases hp with ⟨_, rfl⟩ | ⟨_, h⟩ <;> omega
  have hst := Strange.of_lies h2 h3
  refine (rload_in pre a p hp hr ha r w w W D K I hW hD hK hI ⟨us, by rw [specR_small pre p hp8]; exact h2, h3, KeepL.refl _ _⟩).mono ?_
  rintro e w' ⟨rfl, H, C', hR⟩
  exact ⟨rfl, ⟨pm, C, clk, H, C', h1.doc hst hR.keep, hR.rebase⟩, hR.keep⟩
theorem same_full {pre : Bool} {a : ByteArray} {p : Nat} (hp : MayP pre p) (hr : RPlace a p) (ha : Other a) (ha32 : a.size ≤ 32) {q : Four} {r : Two} {W D K I : Nat} (hW : W ≤ 5) (hD : D ≤ 5) (hK : K ≤ 50) (hI : I ≤ 50) {w : World} (h : Full pre a p q r (puts W D K I) w) :
    Calls Tryz.prog 13 #[.pointer (some ⟨q.d, 0, none⟩), .pointer (some ⟨r.d, 0, none⟩)] w fun e w' => e = .returned (.bool true) ∧ Full pre a p q r (puts W D K I) w' ∧ Below w.heap.size w w' := by
  obtain ⟨pm, C, clk, H, C', h1, h2⟩ := h.both
  exact (same_data pre a p hp ha hr ha32 (puts_rowsOk hW hD hK hI) w h1 h2).mono fun e w' ⟨e1, hb⟩ => ⟨e1, h.below hb, hb⟩
theorem sound_full {pre : Bool} {a : ByteArray} {p : Nat} (ha : Other a) {q : Four} {r : Two} {W D K I : Nat} (hW : W ≤ 5) (hD : D ≤ 5) (hK : K ≤ 50) (hI : I ≤ 50) {w : World} (h : Full pre a p q r (puts W D K I) w) :
    Calls Tryz.prog 14 #[.pointer (some ⟨q.d, 0, none⟩)] w fun e w' => e = .returned (.int .i64 0) ∧ (∃ H C', RInv pre a p r w' H C' (puts W D K I) w') ∧ Tabs w' ∧ KeepL q.own w w' := by
  obtain ⟨pm, C, clk, H, C', h1, h2⟩ := h.both
  refine (psound_any ha hW hD hK hI h1).mono ?_
  rintro e w' ⟨rfl, hk⟩
  have hk2 : KeepL q.own w w' := hk.mono (by intro x hx; simp at hx; subst hx; simp [Four.own])
  exact ⟨rfl, ⟨H, C', h2.prog h1.maps hk2⟩, h1.tabs.keepL hk2 h1.own0, hk2⟩
end Go.Proofs.YtbjickdjkgefcaaGreatDoor
end
section
open Go Go.RowKit Go.Proofs.YtbjickdjkgefcaaGreatDoor.Vai
namespace Go.Proofs.YtbjickdjkgefcaaGreatDoor
set_option linter.unusedVariables false
set_option linter.unusedSimpArgs false
set_option maxRecDepth 20000
/-- From the Loads on: what each call of the law tells. -/
structure Leg (own : List Nat) (P : Nat → World → Prop) (d r : Nat) (W D C I : Int) (m k : Int) : Prop where
  below : ∀ i w w', P i w → Below w.heap.size w w' → P i w'
  c9 : ∀ w, P 0 w → Calls Tryz.prog 9 #[.pointer (some ⟨d, 0, none⟩), .int .i64 W, .int .i64 D, .int .i64 C, .int .i64 I] w fun e w' => e = .returned (.int .i64 m) ∧ P 1 w' ∧ KeepL own w w'
  c12 : ∀ w, P 1 w → Calls Tryz.prog 12 #[.pointer (some ⟨r, 0, none⟩), .int .i64 W, .int .i64 D, .int .i64 C, .int .i64 I] w fun e w' => e = .returned (.int .i64 m) ∧ P 2 w' ∧ KeepL own w w'
  c13 : ∀ w, P 2 w → Calls Tryz.prog 13 #[.pointer (some ⟨d, 0, none⟩), .pointer (some ⟨r, 0, none⟩)] w fun e w' => e = .returned (.bool true) ∧ P 3 w' ∧ KeepL own w w'
  c14 : ∀ w, P 3 w → Calls Tryz.prog 14 #[.pointer (some ⟨d, 0, none⟩)] w fun e w' => e = .returned (.int .i64 k) ∧ P 4 w' ∧ KeepL own w w'
  c15 : ∀ w, P 4 w → Calls Tryz.prog 15 #[.pointer (some ⟨r, 0, none⟩)] w fun e w' => e = .returned (.int .i64 k) ∧ P 5 w' ∧ KeepL own w w'
  tabs : ∀ w, P 5 w → Tabs w
/-- From the Creates on. -/
structure Road (own : List Nat) (P : Nat → World → Prop) (a : ByteArray) (cb d r : Nat) (W D C I : Int) (n m k : Int) : Prop where
  below : ∀ i w w', P i w → Below w.heap.size w w' → P i w'
  c10 : ∀ w, P 0 w → Calls Tryz.prog 10 #[.pointer (some ⟨d, 0, none⟩), tvOf a cb] w fun e w' => e = .returned (.int .i64 n) ∧ P 1 w' ∧ KeepL own w w'
  c11 : ∀ w, P 1 w → Calls Tryz.prog 11 #[.pointer (some ⟨r, 0, none⟩), tvOf a cb] w fun e w' => e = .returned (.int .i64 n) ∧ P 2 w' ∧ KeepL own w w'
  leg : Leg own (fun i => P (i + 2)) d r W D C I m k
theorem own_q (q : Four) (r : Two) : ∀ x ∈ q.own, x ∈ q.own ++ r.l := fun x h => List.mem_append_left _ h
theorem own_r (q : Four) (r : Two) : ∀ x ∈ r.l, x ∈ q.own ++ r.l := fun x h => List.mem_append_right _ h
theorem Tabs.under {w w' : World} (h : Tabs w) (hb : Below w.heap.size w w') : Tabs w' := h.keepL (KeepL.of_below (l := []) hb) (by simp)
theorem Joint.tabs {pre : Bool} {a : ByteArray} {q : Four} {r : Two} {w : World} (h : Joint pre a q r w) : Tabs w := by
  obtain ⟨ts, us, h1, h2, h3, h4⟩ := h.both
  exact h1.tabs
theorem leg_small {pre : Bool} {a : ByteArray} {q : Four} {r : Two} {W D C I m : Int} (hs : SmallOk pre a)
    (h9 : ∀ w, Joint pre a q r w → Calls Tryz.prog 9 #[.pointer (some ⟨q.d, 0, none⟩), .int .i64 W, .int .i64 D, .int .i64 C, .int .i64 I] w fun e w' => e = .returned (.int .i64 m) ∧ Joint pre a q r w' ∧ KeepL (q.own ++ r.l) w w')
    (h12 : ∀ w, Joint pre a q r w → Calls Tryz.prog 12 #[.pointer (some ⟨r.d, 0, none⟩), .int .i64 W, .int .i64 D, .int .i64 C, .int .i64 I] w fun e w' => e = .returned (.int .i64 m) ∧ Joint pre a q r w' ∧ KeepL (q.own ++ r.l) w w') :
    Leg (q.own ++ r.l) (fun _ w => Joint pre a q r w) q.d r.d W D C I m 141 :=
  ⟨fun _ _ _ h hb => h.below hb, h9, h12, fun w h => (same_small w h).mono fun e w' ⟨e1, h1, h2⟩ => ⟨e1, h1, h2.mono (own_q q r)⟩,
    fun w h => (sound_small hs w h).mono fun e w' ⟨e1, h1, h2⟩ => ⟨e1, h1, h2.mono (own_q q r)⟩,
    fun w h => (rsound_small hs w h).mono fun e w' ⟨e1, h1, h2⟩ => ⟨e1, h1, KeepL.of_below h2⟩, fun w h => h.tabs⟩
theorem leg_out {pre : Bool} {a : ByteArray} {q : Four} {r : Two} {W D C I : Int} (hs : SmallOk pre a) (hn : ¬ Fits W D C I) :
    Leg (q.own ++ r.l) (fun _ w => Joint pre a q r w) q.d r.d W D C I 1 141 :=
  leg_small hs (fun w h => (pload_out q.d W D C I hn w).mono fun e w' ⟨e1, e2⟩ => by subst e2; exact ⟨e1, h, KeepL.refl _ _⟩)
    (fun w h => (rload_out r.d W D C I hn w).mono fun e w' ⟨e1, e2⟩ => by subst e2; exact ⟨e1, h, KeepL.refl _ _⟩)
theorem leg_eight {j : Nat} (hj : j < 8) {q : Four} {r : Two} {W D C I : Int} (hf : Fits W D C I) :
    Leg (q.own ++ r.l) (fun _ w => Joint true (tname j) q r w) q.d r.d W D C I 6 141 :=
  leg_small (small_eight hj) (fun w h => (load_eight hj hf w h).mono fun e w' ⟨e1, h1, h2⟩ => ⟨e1, h1, h2.mono (own_q q r)⟩)
    (fun w h => (rload_eight hj hf w h).mono fun e w' ⟨e1, h1, h2⟩ => ⟨e1, h1, KeepL.of_below h2⟩)
/-- The worlds of the full way. -/
def FullP (pre : Bool) (a : ByteArray) (p : Nat) (q : Four) (r : Two) (L : List (Nat × List Int)) : Nat → World → Prop
  | 0, w => Joint pre a q r w
  | 1, w => Half pre a q r L w
  | 2, w => Full pre a p q r L w
  | 3, w => Full pre a p q r L w
  | 4, w => (∃ H C', RInv pre a p r w H C' L w) ∧ Tabs w
  | _, w => Tabs w
theorem FullP.below {pre : Bool} {a : ByteArray} {p : Nat} {q : Four} {r : Two} {L : List (Nat × List Int)} : ∀ i w w', FullP pre a p q r L i w → Below w.heap.size w w' → FullP pre a p q r L i w'
  | 0, w, w', h, hb => Joint.below h hb
  | 1, w, w', h, hb => Half.below h hb
  | 2, w, w', h, hb => Full.below h hb
  | 3, w, w', h, hb => Full.below h hb
  | 4, w, w', ⟨⟨H, C', h⟩, ht⟩, hb => ⟨⟨H, C', (h.below hb).rebase⟩, ht.under hb⟩
  | _ + 5, w, w', h, hb => Tabs.under h hb
theorem leg_full {pre : Bool} {a : ByteArray} {p : Nat} (hp : MayP pre p) (hr : RPlace a p) (ha : Other a) (ha32 : a.size ≤ 32) {q : Four} {r : Two} {W D K I : Nat} (hW : 1 ≤ W ∧ W ≤ 5) (hD : 1 ≤ D ∧ D ≤ 5) (hK : 1 ≤ K ∧ K ≤ 50) (hI : 1 ≤ I ∧ I ≤ 50) :
    Leg (q.own ++ r.l) (FullP pre a p q r (puts W D K I)) q.d r.d W D K I 0 0 :=
  ⟨FullP.below, fun w h => (load_full ha hW hD hK hI h).mono fun e w' ⟨e1, h1, h2⟩ => ⟨e1, h1, h2.mono (own_q q r)⟩,
    fun w h => (rload_full hp hr ha hW hD hK hI h).mono fun e w' ⟨e1, h1, h2⟩ => ⟨e1, h1, h2.mono (own_r q r)⟩,
    fun w h => (same_full hp hr ha ha32 hW.2 hD.2 hK.2 hI.2 h).mono fun e w' ⟨e1, h1, h2⟩ => ⟨e1, h1, KeepL.of_below h2⟩,
    fun w h => (sound_full ha hW.2 hD.2 hK.2 hI.2 h).mono fun e w' ⟨e1, h1, h2, h3⟩ => ⟨e1, ⟨h1, h2⟩, h3.mono (own_q q r)⟩,
    fun w h => by
      obtain ⟨⟨H, C', h1⟩, h2⟩ := h
      exact (rsound_any hp ha hr hW.2 hD.2 hK.2 hI.2 h1).mono fun e w' ⟨e1, h3⟩ => ⟨e1, h2.under h3, KeepL.of_below h3⟩,
    fun w h => h⟩
theorem Leg.from {own : List Nat} {P : Nat → World → Prop} {X : World → Prop} {d r : Nat} {W D C I m k : Int} (h : Leg own P d r W D C I m k) (hX : ∀ w, X w → P 0 w) (hb : ∀ w w', X w → Below w.heap.size w w' → X w') :
    Leg own (fun i w => match i with | 0 => X w | i + 1 => P (i + 1) w) d r W D C I m k :=
  ⟨fun i w w' => match i with | 0 => hb w w' | i + 1 => h.below (i + 1) w w', fun w x => h.c9 w (hX w x), h.c12, h.c13, h.c14, h.c15, h.tabs⟩
/-- Behind the Creates: some way on, by whatever name and sizes. -/
theorem leg_none (a : ByteArray) (q : Four) (r : Two) (W D C I : Int) : ∃ P m k, Leg (q.own ++ r.l) P q.d r.d W D C I m k ∧ ∀ w, Joint false a q r w → P 0 w := by
  by_cases hf : Fits W D C I
  · obtain ⟨h1, h2, h3, h4⟩ := hf
    obtain ⟨W, rfl⟩ := Int.eq_ofNat_of_zero_le (a := W) (by omega)
    obtain ⟨D, rfl⟩ := Int.eq_ofNat_of_zero_le (a := D) (by omega)
    obtain ⟨C, rfl⟩ := Int.eq_ofNat_of_zero_le (a := C) (by omega)
    obtain ⟨I, rfl⟩ := Int.eq_ofNat_of_zero_le (a := I) (by omega)
    exact ⟨_, _, _, leg_full (pre := false) (.inl ⟨rfl, rfl⟩) rplace_nil other_nil (by decide) (by omega) (by omega) (by omega) (by omega), fun w h => Joint.resig h⟩
  · exact ⟨_, _, _, leg_out (small_none a) hf, fun w h => h⟩
theorem leg_tidy {a : ByteArray} (ht : tidyB a = true) (q : Four) (r : Two) (W D C I : Int) : ∃ P m k, Leg (q.own ++ r.l) P q.d r.d W D C I m k ∧ ∀ w, Joint true a q r w → P 0 w := by
  by_cases ha : Other a
  · obtain ⟨p, hp, hr⟩ := place_ex ha
    by_cases hf : Fits W D C I
    · obtain ⟨h1, h2, h3, h4⟩ := hf
      obtain ⟨W, rfl⟩ := Int.eq_ofNat_of_zero_le (a := W) (by omega)
      obtain ⟨D, rfl⟩ := Int.eq_ofNat_of_zero_le (a := D) (by omega)
      obtain ⟨C, rfl⟩ := Int.eq_ofNat_of_zero_le (a := C) (by omega)
      obtain ⟨I, rfl⟩ := Int.eq_ofNat_of_zero_le (a := I) (by omega)
      exact ⟨_, _, _, leg_full (pre := true) (.inr ⟨rfl, hp⟩) hr ha (tidy_small ht) (by omega) (by omega) (by omega) (by omega), fun w h => h⟩
    · exact ⟨_, _, _, leg_out (small_other ha hp hr) hf, fun w h => h⟩
  · unfold Other at ha
    have ⟨j, hj⟩ : ∃ j, ¬ (j < 8 → a ≠ tname j) := Classical.not_forall.1 ha
    have hj8 : j < 8 := Classical.byContradiction fun h => hj fun h2 => absurd h2 h
    have e : a = tname j := Classical.byContradiction fun h => hj fun _ => h
    subst e
    by_cases hf : Fits W D C I
    · exact ⟨_, _, _, leg_eight hj8 hf, fun w h => h⟩
    · exact ⟨_, _, _, leg_out (small_eight hj8) hf, fun w h => h⟩
/-- The worlds of a road. -/
def RoadP (X0 X1 : World → Prop) (P : Nat → World → Prop) : Nat → World → Prop
  | 0, w => X0 w
  | 1, w => X1 w
  | i + 2, w => P i w
theorem ColW.keep {w w' : World} {cb : Nat} {l : List Nat} (h : ColW w cb) (hk : KeepL l w w') (hn : cb ∉ l) : ColW w' cb := by
  unfold ColW at *
  rw [hk.block cb (lt_of_heap h) hn]; exact h
/-- From the Creates on there is a road. -/
theorem roads (a : ByteArray) (q : Four) (r : Two) (cb : Nat) (W D C I : Int) (hcb : cb ∉ q.own ++ r.l) : ∃ P n m k, Road (q.own ++ r.l) P a cb q.d r.d W D C I n m k ∧ ∀ w, Joint false a q r w → ColW w cb → P 0 w := by
  have hq : cb ∉ q.own := fun h => hcb (List.mem_append_left _ h)
  have hr : cb ∉ r.l := fun h => hcb (List.mem_append_right _ h)
  have hc : ∀ w w', ColW w cb → Below w.heap.size w w' → ColW w' cb := fun w w' h hb => h.keep (KeepL.of_below (l := []) hb) (by simp)
  cases ht : tidyB a with
  | false =>
    obtain ⟨P, m, k, hL, h0⟩ := leg_none a q r W D C I
    refine ⟨RoadP (fun w => Joint false a q r w ∧ ColW w cb) (fun w => Joint false a q r w ∧ ColW w cb) P, 140, m, k, ⟨fun i w w' => ?_, fun w ⟨h, c⟩ => ?_, fun w ⟨h, c⟩ => ?_, hL⟩, fun w h c => ⟨h, c⟩⟩
    · match i with
      | 0 => exact fun ⟨h, c⟩ hb => ⟨h.below hb, hc w w' c hb⟩
      | 1 => exact fun ⟨h, c⟩ hb => ⟨h.below hb, hc w w' c hb⟩
      | i + 2 => exact hL.below i w w'
    · exact (create_no ht h c).mono fun e w' ⟨e1, h1, h2⟩ => ⟨e1, ⟨h1, c.keep h2 hq⟩, h2.mono (own_q q r)⟩
    · exact (rcreate_no ht h c).mono fun e w' ⟨e1, h1, h2⟩ => ⟨e1, h0 _ h1, h2.mono (own_r q r)⟩
  | true =>
    obtain ⟨P, m, k, hL, h0⟩ := leg_tidy ht q r W D C I
    refine ⟨RoadP (fun w => Joint false a q r w ∧ ColW w cb) (fun w => Mid a q r w ∧ ColW w cb) P, 0, m, k, ⟨fun i w w' => ?_, fun w ⟨h, c⟩ => ?_, fun w ⟨h, c⟩ => ?_, hL⟩, fun w h c => ⟨h, c⟩⟩
    · match i with
      | 0 => exact fun ⟨h, c⟩ hb => ⟨h.below hb, hc w w' c hb⟩
      | 1 => exact fun ⟨h, c⟩ hb => ⟨h.below hb, hc w w' c hb⟩
      | i + 2 => exact hL.below i w w'
    · exact (create_yes ht h c).mono fun e w' ⟨e1, h1, h2⟩ => ⟨e1, ⟨h1, c.keep h2 hq⟩, h2.mono (own_q q r)⟩
    · exact (rcreate_yes ht h c).mono fun e w' ⟨e1, h1, h2⟩ => ⟨e1, h0 _ h1, h2.mono (own_r q r)⟩
end Go.Proofs.YtbjickdjkgefcaaGreatDoor
end
