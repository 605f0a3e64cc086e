/- A row's key, as the program tells it: the walk. -/
import Derived.Test.YtbjickdjkgefcaaGreatDoorLG2
import Derived.Outline
import Derived.Test.YtbjickdjkgefcaaGreatDoorLLV
import Derived.Test.YtbjickdjkgefcaaGreatDoorLLN
import Derived.Deep.DeepCutAuto
import Derived.Lib.SlicesS
import Derived.Test.YtbjickdjkgefcaaGreatDoorLE0
section
open Go Go.RowKit Go.Proofs.YtbjickdjkgefcaaGreatDoor.Vai
namespace Go.Proofs.YtbjickdjkgefcaaGreatDoor
set_option linter.unusedVariables false
set_option linter.unusedSimpArgs false
set_option maxRecDepth 20000
theorem tops_at (n o : Nat) (a : Value) (h : (tops n)[o]? = some a) : a = topV ∧ o < n := by
  induction n generalizing o with
  | zero => simp [tops] at h
  | succ n ih =>
    cases o with
    | zero => simp [tops] at h; exact ⟨h.symm, by omega⟩
    | succ o =>
      simp only [tops, List.getElem?_cons_succ] at h
      obtain ⟨h1, h2⟩ := ih o h
      exact ⟨h1, by omega⟩
theorem tops_len (n : Nat) : (tops n).length = n := by
  induction n with
  | zero => rfl
  | succ n ih => simp [tops, ih]
theorem vcells_all (l : List Int) : ∀ (o : Nat) (v : Value), (vcells l)[o]? = some v → oneCell v = true := by
  induction l with
  | nil => intro o v h; simp [vcells] at h
  | cons x l ih =>
    intro o v h
    match o with
    | 0 => simp [vcells] at h; subst h; rfl
    | 1 => simp [vcells] at h; subst h; rfl
    | 2 => simp [vcells] at h; subst h; rfl
    | 3 => simp [vcells] at h; subst h; rfl
    | o + 4 => exact ih o v (by simpa [vcells] using h)
theorem enc_all (i : Nat) (hi : i < 3) (n : Int) (h1 : 1 ≤ n) (h2 : n ≤ 50) : encOk i n = true := by
  obtain ⟨k, rfl⟩ : ∃ k : Nat, n = Int.ofNat (Nat.succ k) := ⟨n.toNat - 1, by simp; omega⟩
  have hk : k < 50 := by simp at h2; omega
  match i, hi with
  | 0, _ => exact allUp_at 50 enc0 k hk
  | 1, _ => exact allUp_at 50 enc1 k hk
  | 2, _ => exact allUp_at 50 enc2 k hk
theorem enc_any (w : World) (g cap i : Nat) (r : List Int) (n : Int) (hr : VRow w (.slice (some ⟨g, 0, none⟩) r.length cap) r) (hi : i < 3) (hx : r[i]? = some n) (h1 : 1 ≤ n) (h2 : n ≤ 50) :
    Calls Tryz.prog 221 #[.slice (some ⟨g, i * 4, none⟩) 1 (cap - i)] w fun e w' => e = .returned (.tuple #[.string ⟨(encL [n]).toArray⟩, .int .i64 0]) ∧ Below w.heap.size w w' := by
  obtain ⟨hne, ho⟩ := hr
  have hir : i < r.length := (List.getElem?_eq_some_iff.1 hx).1
  rcases ho.2 with ⟨e0, _⟩ | ⟨g', cap', cur, e0, _, hg, g1, g2, g3, g4⟩
  · cases e0
  cases e0
  have hc : ∀ (o : Nat) (v : Value), (vcells r)[o]? = some v → cur[o]? = some v := fun o v h => by
    rw [← g4, List.getElem?_take] at h
    split at h
    · simpa using h
    · cases h
  obtain ⟨a0, a1, a2, a3⟩ := vcells_at r i n hx
  rw [Nat.mul_comm] at a0 a1 a2 a3
  have hlen : (tops (Nat.mul 4 i) ++ [.int .i64 2, .int .i64 n, .complex .f64 0 0, .string ⟨#[]⟩] : List Value).length = 4 * i + 4 := by
    rw [List.length_append, tops_len]; rfl
  have hL : Lies w [encB1 i n] [⟨g, cap * 4, 4⟩] (sg ⟨#[]⟩) := by
    refine ⟨rfl, by simp, fun k t sp ht hsp => ?_, fun k t ht => ?_⟩
    · match k with
      | 0 =>
        cases ht; cases hsp
        refine ⟨(fun e => by cases e), rfl, cur, (0, 0), hg, rfl, Nat.zero_le _, g3, ?_, ?_⟩
        · rw [hlen]; show 4 * i + 4 ≤ cap * 4; omega
        · intro o val hov
          by_cases e : o < 4 * i
          · rw [List.getElem?_append_left (by rw [tops_len]; exact e)] at hov
            obtain ⟨rfl, _⟩ := tops_at _ _ _ hov
            have hol : o < (vcells r).length := by rw [vcells_length]; omega
            exact ⟨_, hc o _ (List.getElem?_eq_getElem hol), .top 29 _ rfl (vcells_all r o _ (List.getElem?_eq_getElem hol))⟩
          · rw [List.getElem?_append_right (by rw [tops_len]; exact Nat.le_of_not_lt e), tops_len] at hov
            obtain ⟨q, rfl⟩ : ∃ q, o = 4 * i + q := ⟨o - 4 * i, by omega⟩
            rw [show 4 * i + q - Nat.mul 4 i = q by show 4 * i + q - 4 * i = q; omega] at hov
            match q with
            | 0 => simp at hov; subst hov; exact ⟨_, hc _ _ a0, .int _ _⟩
            | 1 => simp at hov; subst hov; exact ⟨_, hc _ _ a1, .int _ _⟩
            | 2 => simp at hov; subst hov; exact ⟨_, hc _ _ a2, .complex _ _ _⟩
            | 3 => simp at hov; subst hov; exact ⟨_, hc _ _ a3, .string _⟩
            | q + 4 => simp at hov
      | k + 1 => simp at ht
    · match k with
      | 0 => cases ht; exact lt_of_heap hg
      | k + 1 => simp at ht
  have hk := enc_all i hi n h1 h2
  refine (run_lock (L := [encB1 i n]) kn0_ok hL (facts := []) (fun g h => by cases h) (fun k sp h => ?_) (Nat.zero_le _) (fun g t h => absurd h (Nat.not_lt_zero _)) (args := [.slice (some ⟨0, Nat.mul 4 i, none⟩) 1 INF]) (cargs := [.slice (some ⟨g, i * 4, none⟩) 1 (cap - i)]) (.cons _ _ _ _ ?_ .nil) (ng := 0) hk).mono ?_
  · match k with
    | 0 => cases h; rfl
    | k + 1 => simp at h
  · rw [show i * 4 = Nat.mul 4 i from Nat.mul_comm _ _]
    exact .slice 0 _ ⟨g, cap * 4, 4⟩ _ _ _ rfl (fun h => absurd rfl h) (fun _ => by show 4 * i + (cap - i) * 4 = cap * 4; omega)
  · rintro e w' ⟨ψ, u, c, ts', rfl, hu, hvr, _, _, hb⟩
    obtain rfl := veq_sound _ _ hu
    exact ⟨by rw [hvr.eq_of_plain (by rfl)], hb⟩
theorem encL_snoc (l : List Int) (n : Int) : encL (l ++ [n]) = encL l ++ encL [n] := by
  induction l with
  | nil => rfl
  | cons x l ih => simp [encL, ih]
theorem builder_keep {b : Nat} {bs : List Value} {w w' : World} (h : Lib.IsBuilder 286 5 b b bs w) (k : KT [286, 5] w w') : Lib.IsBuilder 286 5 b b bs w' := by
  rcases h with ⟨h1, v, h2, h3, h4⟩ | ⟨h1, v, h2, h3, h4⟩
  · exact .inl ⟨h1, v, k _ _ _ _ h2 (by simp), ownsRow_keep h3 k (by simp), h4⟩
  · exact .inr ⟨h1, v, k _ _ _ _ h2 (by simp), ownsRow_keep h3 k (by simp), h4⟩
theorem write_any (b k : Nat) (n : Int) (r : List Int) (w : World) (h : Lib.IsBuilder 286 5 b b (Lib.byteCells (encL (r.take k))) w) (hk : k < r.length) (hx : r[k]? = some n) (hk3 : k ≤ 100) (hb : b ≤ w.heap.size) :
    Calls Tryz.prog 222 #[.pointer (some ⟨b, 0, none⟩), .string ⟨(encL [n]).toArray⟩] w fun e w' => e = .returned (.tuple #[.int .i64 9, .nilIface]) ∧ Lib.IsBuilder 286 5 b b (Lib.byteCells (encL (r.take (k + 1)))) w' ∧ Below b w w' := by
  have e9 : (encL [n]).length = 9 := rfl
  have hl : (Lib.byteCells (encL (r.take k))).length + (⟨(encL [n]).toArray⟩ : ByteArray).size ≤ 140737488355328 := by
    have e1 : (⟨(encL [n]).toArray⟩ : ByteArray).size = 9 := rfl
    rw [Lib.byteCells_length, encL_length, List.length_take, e1]
    have : min k r.length ≤ k := Nat.min_le_left _ _
    omega
  refine (Any.Builder_WriteString { Tryz.lays154 with } { Tryz.Builder_Extra_154 with } b b (Lib.byteCells (encL (r.take k))) ⟨(encL [n]).toArray⟩ w h hl hb).mono ?_
  rintro e w' ⟨rfl, h1, h2⟩
  refine ⟨rfl, .inr ?_, h2⟩
  have e2 : r.take (k + 1) = r.take k ++ [n] := by
    rw [List.take_succ_eq_append_getElem hk]; rw [List.getElem?_eq_getElem hk] at hx; cases hx; rfl
  rw [e2, encL_snoc, Lib.byteCells_append]
  exact h1
theorem told_any (b : Nat) (l : List UInt8) (w : World) (h : Lib.IsBuilder 286 5 b b (Lib.byteCells l) w) (hb : b ≤ w.heap.size) :
    Calls Tryz.prog 223 #[.pointer (some ⟨b, 0, none⟩)] w fun e w' => e = .returned (.string ⟨l.toArray⟩) ∧ Below b w w' :=
  Any.Builder_String_any Tryz.lays169 Tryz.Builder_Extra_169 b b l w h hb
theorem keyed_any (w : World) (g cap kn : Nat) (r : List Int) (hr : VRow w (.slice (some ⟨g, 0, none⟩) r.length cap) r) (hk : kn ≤ r.length) (hk3 : kn ≤ 3) (hn : ∀ n ∈ r.take kn, 1 ≤ n ∧ n ≤ 50) :
    Calls Tryz.prog 177 #[.slice (some ⟨g, 0, none⟩) kn cap] w fun e w' => e = .returned (keyV (r.take kn)) ∧ Below w.heap.size w w' := by
  have hcap : r.length ≤ cap := by
    rcases hr.2.2 with ⟨e0, _⟩ | ⟨g', cap', cur, e0, _, hg, g1, _⟩
    · cases e0
    · cases e0; exact g1
  have KE : ∀ (w' : World) (i : Nat) (n : Int), Below w.heap.size w w' → i < kn → r[i]? = some n → Calls Tryz.prog 221 #[.slice (some ⟨g, i * 4, none⟩) 1 (cap - i)] w' fun e w2 => e = .returned (.tuple #[.string ⟨(encL [n]).toArray⟩, .int .i64 0]) ∧ Below w'.heap.size w' w2 := by
    intro w' i n hb hi hx
    have hm : n ∈ r.take kn := List.mem_of_getElem? (i := i) (by rw [List.getElem?_take, if_pos hi]; exact hx)
    obtain ⟨h1, h2⟩ := hn n hm
    exact enc_any w' g cap i r n (hr.keep (KT.below hb (Nat.le_refl _) : KT [121] _ _) (by simp)) (by omega) hx h1 h2
  have HK := Lib.hid KE
  have HN := Lib.hid hn
  clear KE hn hr
  go_enter Tryz.func177, Tryz.ntmps177
  go_wp2_with fail
  have hB0 : Lib.IsBuilder 286 5 w.heap.size w.heap.size (Lib.byteCells (encL (r.take 0))) (w.alloc (.cells #[.pointer none, .slice none 0 0] 286)) := .inl ⟨Nat.le_refl _, _, heap_alloc_at, World.ownsRow_nil _ _ _ _, (fun e => by cases e)⟩
  have hb0 : Below w.heap.size w (w.alloc (.cells #[.pointer none, .slice none 0 0] 286)) := (Below.refl _ _).alloc (Nat.le_refl _) _
  go_loopw [9] (fun i wr => ∃ k : Nat, i = .int .i64 k ∧ k ≤ kn ∧ Lib.IsBuilder 286 5 w.heap.size w.heap.size (Lib.byteCells (encL (r.take k))) wr ∧ Below w.heap.size w wr) (fun i _ => kn - (intOf i).toNat)
  case atStart => exact ⟨0, rfl, Nat.zero_le _, hB0, hb0⟩
  case round =>
    obtain ⟨k, rfl, hkk, hB, hb⟩ := hrel
    clear hB0 hb0
    by_cases hlt : k < kn
    · obtain ⟨n, hx⟩ : ∃ n, r[k]? = some n := ⟨_, List.getElem?_eq_getElem (by omega)⟩
      have KE := HK.out wr k n hb hlt hx
      have KW := fun w2 (hb2 : Below wr.heap.size wr w2) => write_any w.heap.size k n r w2 (builder_keep hB (KT.below hb2 (Nat.le_refl _))) (by omega) hx (by omega) (Nat.le_trans hb.size hb2.size)
      have f1 : (k : Int) + 1 ≤ (cap : Int) := by omega
      have HX := Lib.hid hx
      have HB := Lib.hid hB
      clear hB hx
      go_wp2_with (first
        | (go_at_call 221; refine KE.mono ?_; rintro e w2 ⟨rfl, hb2⟩)
        | (go_at_call 222; refine (KW _ hb2).mono ?_; rintro e w3 ⟨rfl, hB3, hb3⟩))
      exact ⟨⟨k + 1, by go_num, hlt, hB3, (hb.trans (hb2.mono hb.size)).trans hb3⟩, by simp [intOf]; omega⟩
    · obtain rfl : k = kn := by omega
      have KS := told_any w.heap.size _ wr hB hb.size
      clear hB
      go_wp2_with (first
        | (go_at_call 223; refine KS.mono ?_; rintro e w2 ⟨rfl, hb2⟩))
      go_ret
      exact ⟨rfl, hb.trans hb2⟩
end Go.Proofs.YtbjickdjkgefcaaGreatDoor
end
section
open Go Go.RowKit Go.Proofs.YtbjickdjkgefcaaGreatDoor.Vai
namespace Go.Proofs.YtbjickdjkgefcaaGreatDoor
set_option linter.unusedVariables false
set_option linter.unusedSimpArgs false
set_option maxRecDepth 20000
/-- What is known of the head of Load: the tables are made, one by one. -/
structure RLoadHead (d : Nat) (x0 : Value) (CS : Nat → World → Prop) (TV : Nat → World → Nat → Prop) : Prop where
  tabs : ∀ w, CS 0 w → Calls Tryz.prog 5 #[] w fun e w' => ∃ tb cap, e = .returned (.slice (some ⟨tb, 0, none⟩) 8 cap) ∧ TV 0 w' tb ∧ CS 0 w'
  cell : ∀ n w tb k, k < 8 → TV n w tb → ∃ p n c, w.cell? ⟨tb, k * 4, none⟩ = some (.string (tname k)) ∧ w.cell? ⟨tb, k * 4 + 1, none⟩ = some (.slice p n c) ∧ w.cell? ⟨tb, k * 4 + 2, none⟩ = some (.int .i64 (tkey k)) ∧ w.cell? ⟨tb, k * 4 + 3, none⟩ = some (.slice none 0 0)
  ptr : ∀ w, CS 0 w → w.cell? ⟨d, 0, none⟩ = some x0
  find : ∀ w tb k, k < 8 → CS 0 w → TV 0 w tb → Calls Tryz.prog 33 #[x0, .string (tname k)] w fun e w' => e = .returned (.tuple #[.agg #[.string ⟨#[]⟩, .slice none 0 0, .int .i64 0, .slice none 0 0], .int .i64 141]) ∧ Below w.heap.size w w'
  create : ∀ w tb k p n c, k < 8 → CS k w → TV k w tb → w.cell? ⟨tb, k * 4 + 1, none⟩ = some (.slice p n c) → Calls Tryz.prog 11 #[.pointer (some ⟨d, 0, none⟩), .agg #[.string (tname k), .slice p n c, .int .i64 (tkey k), .slice none 0 0]] w fun e w' => (∃ v, e = .returned v) ∧ CS (k + 1) w' ∧ TV (k + 1) w' tb
  belC : ∀ n w w', CS n w → Below w.heap.size w w' → CS n w'
  belT : ∀ n w w' tb, TV n w tb → Below w.heap.size w w' → TV n w' tb
/-- Ahead of the first loop's round: what the drawn region leaves. -/
def RlookE (CS : Nat → World → Prop) (TV : Nat → World → Nat → Prop) (tb : Nat) (s14 : Value) (wE : World) : Prop := s14 = .int .i64 141 ∧ CS 0 wE ∧ TV 0 wE tb
theorem four_facts {w : World} {b : Nat} {v0 v1 v2 v3 : Value} {t : TypeId} (T : w.heap[b]? = some (.cells #[v0, v1, v2, v3] t (0, 0))) :
    w.cell? ⟨b, 0, none⟩ = some v0 ∧ w.cell? ⟨b, 1, none⟩ = some v1 ∧ w.cell? ⟨b, 2, none⟩ = some v2 ∧ w.cell? ⟨b, 3, none⟩ = some v3 ∧ ∀ i, w.frozen? ⟨b, i, none⟩ = false :=
  ⟨cell_of_heap T 0 _ rfl, cell_of_heap T 1 _ rfl, cell_of_heap T 2 _ rfl, cell_of_heap T 3 _ rfl, fun i => frozen_not T (by simp)⟩
set_option maxHeartbeats 4000000 in
theorem rload_walk {σ : Type} (J : σ → World → Prop) (hJt : ∀ s w w', J s w → KT [38] w w' → J s w') (d : Nat) (x x0 : Value) (CS : Nat → World → Prop) (TV : Nat → World → Nat → Prop) (RH : RLoadHead d x0 CS TV) (H : σ → List (ByteArray × Cols × Nat)) (off : Nat) (W D C I : Nat) (w : World) (hW : 1 ≤ W ∧ W ≤ 5) (hD : 1 ≤ D ∧ D ≤ 5) (hC : 1 ≤ C ∧ C ≤ 50) (hI : 1 ≤ I ∧ I ≤ 50) (h0 : CS 0 w)
    (HA : ∀ w8, CS 8 w8 → d < w8.heap.size ∧ ∃ s, (H s).length ≤ 100 ∧ J s w8 ∧ (∀ P y S, puts W D C I = P ++ y :: S → RNext (J s) (H s) off P y) ∧ ∃ l, l.map RTab.hd = H s ∧ RDat w8 d x l (Rof off [])) :
    Calls Tryz.prog 12 #[.pointer (some ⟨d, 0, none⟩), .int .i64 W, .int .i64 D, .int .i64 C, .int .i64 I] w fun e w' => e = .returned (.int .i64 0) ∧ ∃ w8 s, CS 8 w8 ∧ RB w8 w' w8.heap.size d x (H s) off (puts W D C I) ∧ J s w' := by
  have HC0 := Lib.hid h0
  have HHA := Lib.hid HA
  obtain ⟨hW1, hW2⟩ := hW
  obtain ⟨hD1, hD2⟩ := hD
  obtain ⟨hC1', hC2'⟩ := hC
  obtain ⟨hI1, hI2⟩ := hI
  clear h0 HA
  go_enter Tryz.func12, Tryz.ntmps12
  go_wp2_with (first
    | (go_at_call 5; refine (RH.tabs _ HC0.out).mono ?_; rintro e w2 ⟨tb, tcap, rfl, hT2, hC2⟩))
  clear HC0
  go_loopw [12] (fun i wr => ∃ k : Nat, i = .int .i64 k ∧ k ≤ 8 ∧ TV 0 wr tb ∧ CS 0 wr) (fun i _ => 8 - (intOf i).toNat)
  case atStart => exact ⟨0, rfl, Nat.zero_le _, hT2, hC2⟩
  case round =>
    obtain ⟨k, rfl, hk, hT, hC⟩ := hrel
    clear hT2 hC2
    by_cases hlt : k < 8
    · obtain ⟨pk, nk, ck, q0, q1, q2, q3⟩ := RH.cell _ _ _ k hlt hT
      have KC := fun wX (hb : Below wr.heap.size wr wX) => RH.find wX tb k hlt (RH.belC _ _ _ hC hb) (RH.belT _ _ _ _ hT hb)
      have KB := fun wX (hb : Below wr.heap.size wr wX) => And.intro (RH.belC _ _ _ hC hb) (RH.belT _ _ _ _ hT hb)
      have x1 := RH.ptr _ hC
      obtain ⟨nm, hnm⟩ : ∃ n, n = tname k := ⟨_, rfl⟩
      rw [← hnm] at q0 KC
      clear hnm hT hC q1 q2 q3
      go_upto_region 7 with fail
      have kb : ∀ w', Below wr.heap.size wr w' → w'.cell? ⟨d, 0, none⟩ = some x0 ∧ w'.cell? ⟨tb, k * 4, none⟩ = some (.string nm) := fun _ h => ⟨(h.cell (p := ⟨d, 0, none⟩) (cell_lt x1)).trans x1, (h.cell (p := ⟨tb, k * 4, none⟩) (cell_lt q0)).trans q0⟩
      have BT : ∀ wX w2, Below wr.heap.size wr wX → Below wX.heap.size wX w2 → Below wr.heap.size wr w2 := fun _ _ a b => a.trans (b.mono a.size)
      clear x1 q0
      go_cut [14] (fun s14 wx => RlookE CS TV tb s14 wx)
      case first =>
       go_region_held3 (fun w' => w'.cell? ⟨d, 0, none⟩ = some x0 ∧ w'.cell? ⟨tb, k * 4, none⟩ = some (.string nm))
        (first
          | with_reducible assumption
          | (refine kb _ ?_; (repeat' first | with_reducible exact Below.refl _ _ | with_reducible assumption | with_reducible refine Below.drew ?_ | with_reducible refine Below.alloc ?_ ?_ _ | with_reducible refine Below.setCell ?_ ?_ _ | (simp; done) | (simp; omega)); done))
        ((go_at_call 33; refine (KC _ ?hbel).mono ?_; ((case hbel => (repeat' first | with_reducible exact Below.refl _ _ | with_reducible assumption | with_reducible refine Below.drew ?_ | with_reducible refine Below.alloc ?_ ?_ _ | with_reducible refine Below.setCell ?_ ?_ _ | (simp; done) | (simp; omega)))); rintro e w2 ⟨rfl, hb2⟩
          have b2 := BT _ _ (by (repeat' first | with_reducible exact Below.refl _ _ | with_reducible assumption | with_reducible refine Below.drew ?_ | with_reducible refine Below.alloc ?_ ?_ _ | with_reducible refine Below.setCell ?_ ?_ _ | (simp; done) | (simp; omega))) hb2
          have s2 := b2.size
          first
          | (obtain ⟨u0, u1, u2, u3, uf⟩ := four_facts (fz1 hb2 rfl rfl))
          | skip))
       all_goals (
        go_wp2_with fail
        go_meet
        refine ⟨rfl, KB _ ?_⟩
        (repeat' first | with_reducible exact Below.refl _ _ | with_reducible assumption | with_reducible refine Below.drew ?_ | with_reducible refine Below.alloc ?_ ?_ _ | with_reducible refine Below.setCell ?_ ?_ _ | (simp; done) | (simp; omega)))
      case rest =>
       obtain ⟨rfl, hC3, hT3⟩ := hcut
       clear KC KB kb BT
       go_wp2_with fail
       exact ⟨⟨k + 1, by go_num, hlt, hT3, hC3⟩, by simp [intOf]; omega⟩
    · obtain rfl : k = 8 := by omega
      clear hk hlt
      go_wp2_with fail
      go_loopw [15] (fun i wr => ∃ k : Nat, i = .int .i64 k ∧ k ≤ 8 ∧ TV k wr tb ∧ CS k wr) (fun i _ => 8 - (intOf i).toNat)
      case atStart => exact ⟨0, rfl, Nat.zero_le _, hT, hC⟩
      case round =>
        obtain ⟨w1, rfl⟩ : ∃ x : World, x = wr := ⟨_, rfl⟩
        obtain ⟨k, rfl, hk, hT3, hC3⟩ := hrel
        clear hT hC
        by_cases hlt : k < 8
        · obtain ⟨pk, nk, ck, q0, q1, q2, q3⟩ := RH.cell _ _ _ k hlt hT3
          have KC := RH.create w1 tb k pk nk ck hlt hC3 hT3 q1
          obtain ⟨nm, hnm⟩ : ∃ n, n = tname k := ⟨_, rfl⟩
          rw [← hnm] at q0 KC
          obtain ⟨kn, hkn⟩ : ∃ n, n = tkey k := ⟨_, rfl⟩
          rw [← hkn] at q2 KC
          clear hnm hkn hT3 hC3
          go_wp2_with (first
            | (go_at_call 11; refine KC.mono ?_; rintro e w3 ⟨⟨v3, rfl⟩, hC3, hT3⟩))
          refine ⟨?_, by simp [intOf]; omega⟩
          repeat apply Exists.intro
          refine ⟨?_, rfl⟩
          exact ⟨k + 1, by go_num, hlt, hT3, hC3⟩
        · obtain rfl : k = 8 := by omega
          clear hk hlt
          go_wp2_with fail
          obtain ⟨w8, rfl⟩ : ∃ x : World, x = w1 := ⟨_, rfl⟩
          obtain ⟨hd8, s8, hH8, hJ8, hN8, l8, hl8, hD8⟩ := HHA.out w8 hC3
          have hB0 : RB w8 (w8.alloc (.cells #[.pointer (some ⟨d, 0, none⟩), .int .i64 0] 90)) w8.heap.size d x (H s8) off [] := ⟨heap_alloc_at, ⟨l8, hl8, hD8.keep (KT.alloc [66, 87, 121, 71] _ _) (by simp) (by simp) (by simp) (by simp)⟩, rfl, rfl, rfl, by simp, fun k hk _ => Below.heap_alloc _ _ _ hk⟩
          have hJ0 : J s8 (w8.alloc (.cells #[.pointer (some ⟨d, 0, none⟩), .int .i64 0] 90)) := hJt _ _ _ hJ8 (KT.alloc _ _ _)
          have HC8 := Lib.hid hC3
          have KP : ∀ (P : List (Nat × List Int)) (y : Nat × List Int) (wr : World), RB w8 wr w8.heap.size d x (H s8) off P → J s8 wr → (∃ S, puts W D C I = P ++ y :: S) → Calls Tryz.prog 34 #[.pointer (some ⟨w8.heap.size, 0, none⟩), .string (tname y.1), .slice (some ⟨wr.heap.size, 0, none⟩) y.2.length y.2.length] (wr.alloc (.cells (y.2.map (Value.int .i64)).toArray 3)) fun e w' => e = .returned (.tuple #[]) ∧ RB w8 w' w8.heap.size d x (H s8) off (P ++ [y]) ∧ J s8 w' :=
            fun P y wr hB hJ ⟨S, hS⟩ => (hB.alloc _).put (hJt s8) (hJt _ _ _ hJ (KT.alloc _ _ _)) (hN8 P y S hS) hH8 hd8 (ints_lit _ _)
          have HKP := Lib.hid KP
          clear hT3 hC3 hD8 KP hl8 hJ8 hN8
          go_loopw [17] (fun i wr => ∃ k : Nat, i = .int .i64 ((k : Int) + 1) ∧ k ≤ W ∧ RB w8 wr w8.heap.size d x (H s8) off (houses D C I k) ∧ J s8 wr) (fun i _ => W + 1 - (intOf i).toNat)
          case atStart => exact ⟨0, rfl, Nat.zero_le _, hB0, hJ0⟩
          case round =>
            obtain ⟨wk, rfl, hwk, hB, hJ⟩ := hrel
            clear hB0 hJ0
            by_cases hwlt : wk < W
            · have KA := HKP.out _ (0, rHouse wk) wr hB hJ (pre_house hwlt)
              obtain ⟨P1, hP1⟩ : ∃ P, P = houses D C I wk := ⟨_, rfl⟩
              rw [← hP1] at KA
              have HP1 := Lib.hid hP1
              clear hP1 hB hJ
              go_wp2_with (first
                | (go_at_call 34; refine KA.mono ?_; rintro e w10 ⟨rfl, hB10, hJ10⟩))
              clear KA
              go_loopw [18] (fun i wr => ∃ k : Nat, i = .int .i64 ((k : Int) + 1) ∧ k ≤ D ∧ RB w8 wr w8.heap.size d x (H s8) off ((P1 ++ [(0, rHouse wk)]) ++ dists wk C k) ∧ J s8 wr) (fun i _ => D + 1 - (intOf i).toNat)
              case atStart => exact ⟨0, rfl, Nat.zero_le _, by simpa [dists] using hB10, hJ10⟩
              case round =>
                obtain ⟨k, rfl, hk, hB, hJ⟩ := hrel
                clear hB10 hJ10
                by_cases hlt : k < D
                · obtain ⟨wo, rfl⟩ : ∃ x : World, x = wr := ⟨_, rfl⟩
                  have KA := HKP.out _ (1, rDist wk k) wo hB hJ (by rw [HP1.out]; exact pre_dist hwlt hlt)
                  obtain ⟨P2, hP2⟩ : ∃ P, P = (P1 ++ [(0, rHouse wk)]) ++ dists wk C k := ⟨_, rfl⟩
                  rw [← hP2] at KA
                  have HP2 := Lib.hid hP2
                  clear hP2 hB hJ
                  go_wp2_with (first
                    | (go_at_call 34; refine KA.mono ?_; rintro e w11 ⟨rfl, hB11, hJ11⟩))
                  clear KA
                  go_loopw [19] (fun i wr => ∃ c : Nat, i = .int .i64 ((c : Int) + 1) ∧ c ≤ C ∧ RB w8 wr w8.heap.size d x (H s8) off ((P2 ++ [(1, rDist wk k)]) ++ custs wk k c) ∧ J s8 wr) (fun i _ => C + 1 - (intOf i).toNat)
                  case atStart => exact ⟨0, rfl, Nat.zero_le _, by simpa [custs] using hB11, hJ11⟩
                  case round =>
                    obtain ⟨c, rfl, hc, hB, hJ⟩ := hrel
                    clear hB11 hJ11
                    by_cases hclt : c < C
                    · obtain ⟨wp, rfl⟩ : ∃ x : World, x = wr := ⟨_, rfl⟩
                      have KA := HKP.out _ (2, rCust wk k c) wp hB hJ (by rw [HP2.out, HP1.out]; exact pre_cust hwlt hlt hclt)
                      obtain ⟨P3, hP3⟩ : ∃ P, P = (P2 ++ [(1, rDist wk k)]) ++ custs wk k c := ⟨_, rfl⟩
                      rw [← hP3] at KA
                      have HP3 := Lib.hid hP3
                      clear hP3 hB hJ
                      go_wp2_with (first
                        | (go_at_call 34; refine KA.mono ?_; rintro e w12 ⟨rfl, hB12, hJ12⟩))
                      exact ⟨⟨c + 1, by go_num, hclt, by rw [custs_succ, ← List.append_assoc, ← HP3.out]; exact hB12, hJ12⟩, by simp [intOf]; omega⟩
                    · obtain rfl : c = C := by omega
                      go_wp2_with fail
                      exact ⟨⟨k + 1, by go_num, hlt, by rw [dists_succ, ← List.append_assoc, ← HP2.out, dist]; simpa using hB, hJ⟩, by simp [intOf]; omega⟩
                · obtain rfl : k = D := by omega
                  obtain ⟨P2, hP2⟩ : ∃ P, P = (P1 ++ [(0, rHouse wk)]) ++ dists wk C k := ⟨_, rfl⟩
                  rw [← hP2] at hB
                  have HP2 := Lib.hid hP2
                  clear hP2
                  go_wp2_with fail
                  have hB20 := hB
                  have hJ20 := hJ
                  clear hB hJ
                  go_loopw [20] (fun i wr => ∃ c : Nat, i = .int .i64 ((c : Int) + 1) ∧ c ≤ I ∧ RB w8 wr w8.heap.size d x (H s8) off (P2 ++ stocks wk c) ∧ J s8 wr) (fun i _ => I + 1 - (intOf i).toNat)
                  case atStart => exact ⟨0, rfl, Nat.zero_le _, by simpa [stocks] using hB20, hJ20⟩
                  case round =>
                    obtain ⟨c, rfl, hc, hB, hJ⟩ := hrel
                    clear hB20 hJ20
                    by_cases hclt : c < I
                    · obtain ⟨wp, rfl⟩ : ∃ x : World, x = wr := ⟨_, rfl⟩
                      have KA := HKP.out _ (4, rStock wk c) wp hB hJ (by rw [HP2.out, HP1.out]; exact pre_stock hwlt hclt)
                      obtain ⟨P3, hP3⟩ : ∃ P, P = P2 ++ stocks wk c := ⟨_, rfl⟩
                      rw [← hP3] at KA
                      have HP3 := Lib.hid hP3
                      clear hP3 hB hJ
                      go_wp2_with (first
                        | (go_at_call 34; refine KA.mono ?_; rintro e w12 ⟨rfl, hB12, hJ12⟩))
                      exact ⟨⟨c + 1, by go_num, hclt, by rw [stocks_succ, ← List.append_assoc, ← HP3.out]; exact hB12, hJ12⟩, by simp [intOf]; omega⟩
                    · obtain rfl : c = I := by omega
                      go_wp2_with fail
                      refine ⟨?_, by simp [intOf]; omega⟩
                      repeat apply Exists.intro
                      refine ⟨?_, rfl⟩
                      exact ⟨wk + 1, by go_num, hwlt, by rw [houses_succ, house, ← HP1.out]; rw [HP2.out] at hB; simpa using hB, hJ⟩
            · obtain rfl : wk = W := by omega
              obtain ⟨P1, hP1⟩ : ∃ P, P = houses D C I wk := ⟨_, rfl⟩
              rw [← hP1] at hB
              have HP1 := Lib.hid hP1
              clear hP1
              go_wp2_with fail
              have hB20 := hB
              have hJ20 := hJ
              clear hB hJ
              go_loopw [21] (fun i wr => ∃ c : Nat, i = .int .i64 ((c : Int) + 1) ∧ c ≤ I ∧ RB w8 wr w8.heap.size d x (H s8) off (P1 ++ items c) ∧ J s8 wr) (fun i _ => I + 1 - (intOf i).toNat)
              case atStart => exact ⟨0, rfl, Nat.zero_le _, by simpa [items] using hB20, hJ20⟩
              case round =>
                obtain ⟨c, rfl, hc, hB, hJ⟩ := hrel
                clear hB20 hJ20
                by_cases hclt : c < I
                · obtain ⟨wp, rfl⟩ : ∃ x : World, x = wr := ⟨_, rfl⟩
                  have KA := HKP.out _ (3, rItem c) wp hB hJ (by rw [HP1.out]; exact pre_item hclt)
                  obtain ⟨P3, hP3⟩ : ∃ P, P = P1 ++ items c := ⟨_, rfl⟩
                  rw [← hP3] at KA
                  have HP3 := Lib.hid hP3
                  clear hP3 hB hJ
                  go_wp2_with (first
                    | (go_at_call 34; refine KA.mono ?_; rintro e w12 ⟨rfl, hB12, hJ12⟩))
                  refine ⟨?_, by simp [intOf]; omega⟩
                  repeat apply Exists.intro
                  refine ⟨?_, rfl⟩
                  exact ⟨c + 1, by go_num, hclt, by rw [items_succ, ← List.append_assoc, ← HP3.out]; exact hB12, hJ12⟩
                · obtain rfl : c = I := by omega
                  have e1 : P1 ++ items c = puts wk D C c := by rw [HP1.out, puts]
                  rw [e1] at hB
                  go_wp2_with fail
                  go_ret
                  exact ⟨rfl, w8, s8, HC8.out, hB, hJ⟩
end Go.Proofs.YtbjickdjkgefcaaGreatDoor
end
section
open Go Go.RowKit Go.Proofs.YtbjickdjkgefcaaGreatDoor.Vai
namespace Go.Proofs.YtbjickdjkgefcaaGreatDoor
set_option linter.unusedVariables false
set_option linter.unusedSimpArgs false
set_option maxRecDepth 20000
/-- The columns of the five tables that get rows lie in memory. -/
def JC (C : Nat → Cols) (w : World) : Prop := ∀ j, j < 5 → ColAt w (C j) j
theorem JC.keep {C : Nat → Cols} {w w' : World} (h : JC C w) (k : KT [38] w w') : JC C w' := fun j hj => (h j hj).keep k
theorem tkey_le {j : Nat} (h : j < 5) : tkey j ≤ 3 := by
  match j, h with
  | 0, _ => decide
  | 1, _ => decide
  | 2, _ => decide
  | 3, _ => decide
  | 4, _ => decide
theorem all_of {x : Nat × List Int} (h : OkRow x) : ∀ n ∈ x.2, 0 ≤ n ∧ n ≤ 5001 := h.all
theorem fitK_of {C : Nat → Cols} {x : Nat × List Int} (h : OkRow x) : FitK (JC C) (tname x.1) (C x.1).p (C x.1).n (C x.1).c (tkey x.1) x.2 :=
  ⟨fun w w' hJ hb => hJ.keep (KT.below hb (Nat.le_refl _)),
   fun w rv hJ hv => (fit_any (J := Unit) h.tab h.len h.all w rv (hJ _ h.tab) hv).1,
   fun w g cap hv => keyed_any w g cap _ _ hv h.key (tkey_le h.tab) h.least⟩
theorem rfitK_of {C : Nat → Cols} {x : Nat × List Int} (h : OkRow x) : RFitK (JC C) (tname x.1) (C x.1).p (C x.1).n (C x.1).c (tkey x.1) x.2 :=
  ⟨fun w w' hJ hb => hJ.keep (KT.below hb (Nat.le_refl _)),
   fun w rv hJ hv => (fit_any (J := Unit) h.tab h.len h.all w rv (hJ _ h.tab) hv).2⟩
theorem lenOf_le {j : Nat} : lenOf j ≤ 8 := by unfold lenOf; split <;> decide
theorem good_puts {C : Nat → Cols} {W D K I : Nat} (hW : W ≤ 5) (hD : D ≤ 5) (hK : K ≤ 50) (hI : I ≤ 50) : Good (JC C) C (puts W D K I) := by
  intro k x hx
  have hk := (List.getElem?_eq_some_iff.1 hx).1
  have e : puts W D K I = (puts W D K I).take k ++ x :: (puts W D K I).drop (k + 1) := by
    have h1 := (List.getElem?_eq_some_iff.1 hx).2
    rw [← h1, List.getElem_cons_drop, List.take_append_drop]
  obtain ⟨h1, h2⟩ := puts_last hW hD hK hI e
  exact ⟨by have := h1.tab; omega, h2, by rw [h1.len]; have := @lenOf_le x.1; omega, h1.key, fitK_of h1⟩
/-- The heads of the document's tables: some ahead, and the eight. -/
def heads (pre : List (ByteArray × Cols × Nat)) (C : Nat → Cols) : List (ByteArray × Cols × Nat) := pre ++ (List.range 8).map fun j => (tname j, C j, tkey j)
theorem heads_at (pre : List (ByteArray × Cols × Nat)) (C : Nat → Cols) (j : Nat) (hj : j < 8) : (heads pre C)[pre.length + j]? = some (tname j, C j, tkey j) := by
  unfold heads
  rw [List.getElem?_append_right (Nat.le_add_right _ _), Nat.add_sub_cancel_left, List.getElem?_map, List.getElem?_range hj]; rfl
theorem tname_check : allUp (fun i => allUp (fun j => Nat.beq i j || !((tname i).data.toList == (tname j).data.toList)) 8) 8 = true := by kernel_rfl
theorem tname_ne : ∀ i j, i < 8 → j < 8 → i ≠ j → ((tname i).toList == (tname j).toList) = false := by
  intro i j hi hj h
  have e : tname i ≠ tname j := fun e => by
    have e2 : (tname i).data.toList = (tname j).data.toList := by rw [e]
    have := allUp_at 8 (allUp_at 8 tname_check i hi) j hj
    rw [e2] at this
    simp [h] at this
  cases hb : ((tname i).toList == (tname j).toList) with
  | false => rfl
  | true => exact absurd ((Lib.bytes_beq_iff _ _).1 hb) e
theorem rnext_puts {pre : List (ByteArray × Cols × Nat)} {C : Nat → Cols} {W D K I : Nat} (hW : W ≤ 5) (hD : D ≤ 5) (hK : K ≤ 50) (hI : I ≤ 50) (hp : ∀ h ∈ pre, ∀ j, j < 8 → (h.1.toList == (tname j).toList) = false) {P S : List (Nat × List Int)} {y : Nat × List Int} (h : puts W D K I = P ++ y :: S) : RNext (JC C) (heads pre C) pre.length P y := by
  obtain ⟨h1, h2⟩ := puts_last hW hD hK hI h
  have h8 : y.1 < 8 := by have := h1.tab; omega
  refine ⟨⟨C y.1, heads_at pre C y.1 h8, rfitK_of h1⟩, fun i z hi hz => ?_, h2, by rw [h1.len]; have := @lenOf_le y.1; omega, ?_, h1.key⟩
  · by_cases e : i < pre.length
    · unfold heads at hz
      rw [List.getElem?_append_left e] at hz
      exact hp z (List.mem_of_getElem? hz) y.1 h8
    · have e2 := heads_at pre C (i - pre.length) (by omega)
      rw [show pre.length + (i - pre.length) = i by omega] at e2
      rw [e2] at hz
      cases hz
      exact tname_ne _ _ (by omega) h8 (by omega)
  · intro e
    have := h1.len
    rw [e] at this
    have := lenOf_pos y.1
    simp at *
    omega
end Go.Proofs.YtbjickdjkgefcaaGreatDoor
end
section
open Go Go.RowKit Go.Proofs.YtbjickdjkgefcaaGreatDoor.Vai
namespace Go.Proofs.YtbjickdjkgefcaaGreatDoor
set_option maxRecDepth 100000
noncomputable section
def isPtrTo (i : Nat) (u : Value) : Bool := match u with | .pointer (some ⟨j, 0, none⟩) => Nat.beq i j | _ => false
def aheadArg (n : Nat) : Value := .agg #[atomT, .slice (some ⟨n, 0, none⟩) 1 1, .int .i64 1, .slice none 0 0]
def is140 (u : Value) : Bool := veq u (.int .i64 140)
def newP : Option (Value × St) := aFunK Tryz.prog tb0 kn0 1000 100 (.func 7) [] (bSt [] [])
theorem newP_ok : runCheck newP 0 (isPtrTo 3) (specP []) [3, 1, 2, 0] noTau [(3, 0, false), (3, 1, false), (1, 0, false)] = true := by kernel_rfl
theorem newR_ok : runCheck newRunR 0 (isPtrTo 1) (specR 0 []) [1, 0] noTau [(1, 0, false)] = true := by kernel_rfl
def aheadP (b : Bool) : Option (Value × St) := aFunK Tryz.prog tb0 knT 1000 100 (.func 10) [.pointer (some ⟨0, 0, none⟩), aheadArg 4] (bSt (specP [] ++ [colB 8]) [.tidy 0 b])
def aheadR (b : Bool) : Option (Value × St) := aFunK Tryz.prog tb0 knT 1000 100 (.func 11) [.pointer (some ⟨0, 0, none⟩), aheadArg 2] (bSt (specR 0 [] ++ [colB 8]) [.tidy 0 b])
theorem aheadP_no : runCheck (aheadP false) 5 is140 (specP []) [0, 1, 2, 3] noTau [] = true := by kernel_rfl
theorem aheadR_no : runCheck (aheadR false) 3 is140 (specR 0 []) [0, 1] noTau [] = true := by kernel_rfl
theorem aheadP_yes : runCheck (aheadP true) 5 isZero (specP [8]) [0, 1, 2, 3, 18, 25] noTau [(2, 0, true), (3, 0, true)] = true := by kernel_rfl
theorem aheadR_yes : runCheck (aheadR true) 3 isZero (specR 0 [8]) (idsR 0 [] 8) noTau (linksR 0 [] 8) = true := by kernel_rfl
end
end Go.Proofs.YtbjickdjkgefcaaGreatDoor
end
section
open Go Go.RowKit Go.Proofs.YtbjickdjkgefcaaGreatDoor.Vai
noncomputable section
namespace Go.Proofs.YtbjickdjkgefcaaGreatDoor.Vai
set_option linter.unusedVariables false
theorem KeepL.refl (l : List Nat) (w : World) : KeepL l w w := ⟨rfl, rfl, rfl, Nat.le_refl _, fun _ _ _ => rfl⟩
theorem KeepL.trans {l : List Nat} {a b c : World} (h : KeepL l a b) (k : KeepL l b c) : KeepL l a c :=
  ⟨k.os.trans h.os, k.tape.trans h.tape, k.output.trans h.output, Nat.le_trans h.size k.size, fun q hq hn => (k.block q (Nat.lt_of_lt_of_le hq h.size) hn).trans (h.block q hq hn)⟩
theorem KeepL.of_below {l : List Nat} {a b : World} (h : Below a.heap.size a b) : KeepL l a b := ⟨h.os, h.tape, h.output, h.size, fun q hq _ => h.block q hq⟩
theorem KeepL.mono {l m : List Nat} {a b : World} (h : KeepL l a b) (hs : ∀ x ∈ l, x ∈ m) : KeepL m a b := ⟨h.os, h.tape, h.output, h.size, fun q hq hn => h.block q hq (fun hm => hn (hs q hm))⟩
/-- Of what came out: where it was, or new. -/
theorem Ran.at_own {w w' : World} {own : List Nat} {L L' : List BSpec} {ids : List Nat} {ts ts' : List Tgt} {sig' : Sig} {ψ : Emb} (h : Ran (butL w own) L L' ids ts ts' sig' ψ w') {k id : Nat} {t : Tgt} (hid : ids[k]? = some id) (ht : ts'[k]? = some t) :
    ψ id = some t ∧ ((id < L.length ∧ ts[id]? = some t) ∨ (L.length ≤ id ∧ (w.heap.size ≤ t.blk ∨ t.blk ∈ own))) := by
  obtain ⟨h1, h2⟩ := h.at_ k id t hid ht
  refine ⟨h1, h2.imp (fun x => x) fun ⟨a, b⟩ => ⟨a, ?_⟩⟩
  by_cases e : t.blk < w.heap.size
  · by_cases m : t.blk ∈ own
    · exact .inr m
    · exact absurd ⟨e, m⟩ b
  · exact .inl (by omega)
/-- Some of the blocks, in another order. -/
def subAt (ρ : Ren) (L : List BSpec) : List BSpec → List Nat → Bool
  | [], [] => true
  | sp :: L', id :: ids => (match L[id]? with
    | some sp0 => spMatch ρ (fun _ => none) sp sp0
    | none => false) && subAt ρ L L' ids
  | _, _ => false
def subOk (L L' : List BSpec) (ids : List Nat) : Bool := nodupB ids && subAt (renOf ids 0) L L' ids
theorem subAt_spec {ρ : Ren} {L : List BSpec} : ∀ (L' : List BSpec) (ids : List Nat), subAt ρ L L' ids = true → L'.length = ids.length ∧ ∀ (k : Nat) (id : Nat) (sp : BSpec), ids[k]? = some id → L'[k]? = some sp → ∃ sp0, L[id]? = some sp0 ∧ spMatch ρ (fun _ => none) sp sp0 = true := by
  intro L'
  induction L' with
  | nil =>
    intro ids h
    cases ids with
    | nil => exact ⟨rfl, fun k id sp h => by simp at h⟩
    | cons => cases h
  | cons x L' ih =>
    intro ids h
    cases ids with
    | nil => cases h
    | cons y ids =>
      simp only [subAt, Bool.and_eq_true] at h
      obtain ⟨h1, h2⟩ := ih ids h.2
      refine ⟨by simp [h1], fun k id sp hi hs => ?_⟩
      cases k with
      | zero =>
        simp at hi hs
        subst hi; subst hs
        have h3 := h.1
        split at h3
        · rename_i sp0 h4; exact ⟨sp0, h4, h3⟩
        · cases h3
      | succ k => exact h2 k id sp (by simpa using hi) (by simpa using hs)
theorem pick_of (ts : List Tgt) : ∀ (ids : List Nat), (∀ id ∈ ids, id < ts.length) → ∃ us : List Tgt, us.length = ids.length ∧ ∀ (k id : Nat) (t : Tgt), ids[k]? = some id → us[k]? = some t → ts[id]? = some t := by
  intro ids h
  obtain ⟨us, h1, h2⟩ := tgts_of (φ := bEmb ts ⟨fun _ => 0, fun _ => ⟨#[]⟩⟩) ids fun x hx => ⟨ts[x]'(h x hx), List.getElem?_eq_getElem _⟩
  exact ⟨us, h1, h2⟩
theorem Lies.sub {w : World} {L L' : List BSpec} {ts : List Tgt} {sig : Sig} {ids : List Nat} (h : Lies w L ts sig) (hc : subOk L L' ids = true) : ∃ us : List Tgt, Lies w L' us sig ∧ ∀ (k id : Nat), ids[k]? = some id → us[k]? = ts[id]? := by
  unfold subOk at hc
  rw [Bool.and_eq_true] at hc
  have hnd := nodupB_spec _ hc.1
  obtain ⟨h1, h2⟩ := subAt_spec _ _ hc.2
  have hlt : ∀ id ∈ ids, id < ts.length := by
    intro id hid
    obtain ⟨k, hk⟩ := List.getElem?_of_mem hid
    have hkl := (List.getElem?_eq_some_iff.1 hk).1
    obtain ⟨sp0, h3, _⟩ := h2 k id (L'[k]'(by omega)) hk (List.getElem?_eq_getElem _)
    rw [h.len]; exact (List.getElem?_eq_some_iff.1 h3).1
  obtain ⟨us, u1, u2⟩ := pick_of ts ids hlt
  have at_ : ∀ (k : Nat) (t : Tgt), us[k]? = some t → ∃ id, ids[k]? = some id ∧ ts[id]? = some t := fun k t ht => by
    have hk := (List.getElem?_eq_some_iff.1 ht).1
    exact ⟨ids[k]'(by omega), List.getElem?_eq_getElem _, u2 k _ t (List.getElem?_eq_getElem _) ht⟩
  have R : RenOk (renOf ids 0) (fun _ => none) (bEmb ts sig) (bEmb us sig) := by
    refine ⟨fun a b t e hb => ?_, fun i j e => (by cases e), rfl⟩
    obtain ⟨k, e1, e2⟩ := rlook_renOf _ _ _ _ e
    rw [Nat.zero_add] at e1
    subst e1
    have hb : ts[b]? = some t := hb
    have hk : a < us.length := by rw [u1]; exact (List.getElem?_eq_some_iff.1 e2).1
    have := u2 a b us[a] e2 (List.getElem?_eq_getElem hk)
    show us[a]? = some t
    rw [List.getElem?_eq_getElem hk, ← this, hb]
  refine ⟨us, ⟨by rw [u1, h1], ?_, fun k t sp ht hsp => ?_, fun k t ht => ?_⟩, fun k id hid => ?_⟩
  · rw [List.nodup_iff_pairwise_ne, List.pairwise_iff_getElem]
    intro i j hi hj hij e
    rw [List.getElem_map, List.getElem_map] at e
    rw [List.length_map] at hi hj
    obtain ⟨a, a1, a2⟩ := at_ i us[i] (List.getElem?_eq_getElem hi)
    obtain ⟨b, b1, b2⟩ := at_ j us[j] (List.getElem?_eq_getElem hj)
    have hab : a = b := by
      have la := (List.getElem?_eq_some_iff.1 a2).1
      refine (List.getElem?_inj (l := ts.map (·.blk)) (by rw [List.length_map]; exact la) h.nodup).1 ?_
      rw [List.getElem?_map, List.getElem?_map, a2, b2]
      simp [e]
    subst hab
    have := (List.getElem?_inj (l := ids) (by have := (List.getElem?_eq_some_iff.1 a1).1; exact this) hnd).1 (a1.trans b1.symm)
    omega
  · obtain ⟨id, i1, i2⟩ := at_ k t ht
    obtain ⟨sp0, s1, s2⟩ := h2 k id sp i1 hsp
    exact (h.ok id t sp0 i2 s1).conv R s2 rfl (fun _ hK => hK)
  · obtain ⟨id, i1, i2⟩ := at_ k t ht
    exact h.lt id t i2
  · have hk : k < us.length := by rw [u1]; exact (List.getElem?_eq_some_iff.1 hid).1
    rw [List.getElem?_eq_getElem hk, u2 k id us[k] hid (List.getElem?_eq_getElem hk)]
end Go.Proofs.YtbjickdjkgefcaaGreatDoor.Vai
namespace Go.Proofs.YtbjickdjkgefcaaGreatDoor
set_option linter.unusedVariables false
set_option linter.unusedSimpArgs false
set_option maxRecDepth 100000
theorem Tabs.keepL {l : List Nat} {a b : World} (h : Tabs a) (k : KeepL l a b) (h0 : 0 ∉ l) : Tabs b := fun x hx => by
  have := h x hx
  have e : x.g = 0 := by simp only [globs, List.mem_cons, List.mem_nil_iff, or_false] at hx; subst hx; rfl
  rw [k.block x.g (Array.getElem?_eq_some_iff.1 this).1 (by rw [e]; exact h0)]; exact this
theorem run_own {kn : Known} (hkn : ∀ b, KnOk Tryz.prog b kn) {f : FuncId} {w : World} {L L' : List BSpec} {ts : List Tgt} {sig : Sig} {facts : List Fact} {args cargs : List Value} {chk : Value → Bool} {ids : List Nat} {links : List (Nat × Nat × Bool)} {M d ng : Nat} (own : List Nat)
    (h : Lies w L ts sig) (hf : ∀ g ∈ facts, g.ok sig) (hown : ∀ (k : Nat) (t : Tgt) (sp : BSpec), ts[k]? = some t → L[k]? = some sp → sp.owned = true → t.blk ∈ own) (hn : ng ≤ L.length) (hng : ∀ (g : Nat) (t : Tgt), g < ng → ts[g]? = some t → t.blk = g) (ha : VRL (bEmb ts sig) args cargs)
    (hc : runCheck (aFunK Tryz.prog tb0 kn M d (.func f) args (bSt L facts ng)) L.length chk L' ids noTau links = true) :
    Calls Tryz.prog f cargs.toArray w fun e w' => ∃ ψ u c ts', e = .returned c ∧ chk u = true ∧ VR ψ u c ∧ Ran (butL w own) L L' ids ts ts' sig ψ w' ∧ ψ.sig = sig ∧ KeepL own w w' := by
  have r := h.rel (b := butL w own) (orc := facts) hf (fun k t sp ht hsp ho hK => hK.2 (hown k t sp ht hsp ho))
  have r2 : Rel (butL w own) (bEmb ts sig) (bSt L facts ng) w := Rel.withNg h.len r hn hng
  refine (run_specs (b := butL w own) tb0_ok mixed (hkn _) r2 h.len ha (sig' := sig) hc (fun i j h => by cases h) rfl).mono ?_
  rintro e w' ⟨ψ, u, c, ts', rfl, hu, hvr, hr, hs⟩
  exact ⟨ψ, u, c, ts', rfl, hu, hvr, hr, hs, butL_keep hr.kept⟩
/-- Cells that are no addresses stand by every reading. -/
theorem cells_any {b : Base} {φ : Emb} {w : World} {t : Tgt} {e : TypeId} {es : Nat} {l : List Value} {ro : Bool} (h : (BSpec.cells e es l ro).ok b φ w t) (hp : ∀ v ∈ l, plain v = true) (ψ : Emb) : (BSpec.cells e es l true).ok (Base.free w) ψ w t := by
  obtain ⟨_, q2, cs, fr, q3, q4, q5, q6, q7, q8⟩ := h
  refine ⟨(fun e => by cases e), q2, cs, fr, q3, q4, q5, q6, q7, fun o val ho => ?_⟩
  obtain ⟨cv, a, b⟩ := q8 o val ho
  have hv := hp val (List.mem_of_getElem? ho)
  exact ⟨cv, a, by rw [b.eq_of_plain hv]; exact VR.of_plain ψ _ hv⟩
theorem colCells_plain (l : List ByteArray) : ∀ v ∈ colCells l, plain v = true := by
  induction l with
  | nil => intro v h; simp [colCells] at h
  | cons n l ih =>
    intro v h
    simp only [colCells, List.mem_cons] at h
    rcases h with rfl | rfl | h
    · rfl
    · rfl
    · exact ih v h
/-- The eight names are other ones. -/
def Other (a : ByteArray) : Prop := ∀ j, j < 8 → a ≠ tname j
theorem facts0_ok {a : ByteArray} (h : Other a) : ∀ g ∈ facts0, g.ok (sg a) := by
  intro g hg
  obtain ⟨j, hj, rfl⟩ := List.mem_map.1 hg
  exact decide_eq_false (h j (List.mem_range.1 hj))
theorem tabsP_succ : ∀ (pre : Bool) (k : Nat), k < 8 → tabsP pre (k + 1) = tabsP pre k ++ [k] := by
  intro pre k hk
  match pre, k, hk with
  | false, 0, _ => rfl
  | false, 1, _ => rfl
  | false, 2, _ => rfl
  | false, 3, _ => rfl
  | false, 4, _ => rfl
  | false, 5, _ => rfl
  | false, 6, _ => rfl
  | false, 7, _ => rfl
  | true, 0, _ => rfl
  | true, 1, _ => rfl
  | true, 2, _ => rfl
  | true, 3, _ => rfl
  | true, 4, _ => rfl
  | true, 5, _ => rfl
  | true, 6, _ => rfl
  | true, 7, _ => rfl
theorem keyOf_eq {j : Nat} (hj : j < 8) : keyOf j = tkey j := by
  match j, hj with
  | 0, _ => rfl
  | 1, _ => rfl
  | 2, _ => rfl
  | 3, _ => rfl
  | 4, _ => rfl
  | 5, _ => rfl
  | 6, _ => rfl
  | 7, _ => rfl
theorem colSpecs_at : ∀ (j : Nat), j < 8 → (colSpecs schemas)[j]? = some (colB j) := by
  intro j hj
  match j, hj with
  | 0, _ => rfl
  | 1, _ => rfl
  | 2, _ => rfl
  | 3, _ => rfl
  | 4, _ => rfl
  | 5, _ => rfl
  | 6, _ => rfl
  | 7, _ => rfl
/-- A schema as a value. -/
theorem sch_vr {φ : Emb} {b k : Nat} {t : Tgt} {p : Option Addr} {n c : Nat} (hk : k < 8) (hb : φ b = some t) (h1 : p = some ⟨t.blk, 0, none⟩) (h2 : n = lenOf k) (h3 : 0 + c * t.es = t.n) :
    VR φ (.agg #[nameV k, .slice (some ⟨b, 0, none⟩) (lenOf k) INF, .int .i64 (Int.ofNat (keyOf k)), .slice none 0 0]) (.agg #[.string (tname k), .slice p n c, .int .i64 (tkey k), .slice none 0 0]) := by
  subst h1; subst h2
  refine .agg _ _ rfl fun i x y hx hy => ?_
  match i with
  | 0 => cases hx; cases hy; rw [nameV_of hk]; exact .string _
  | 1 => cases hx; cases hy; exact .slice b 0 t _ _ _ hb (fun h => absurd rfl h) (fun _ => h3)
  | 2 => cases hx; cases hy; rw [keyOf_eq hk]; exact .int _ _
  | 3 => cases hx; cases hy; exact .snil _ _
  | i + 4 => simp at hx
end Go.Proofs.YtbjickdjkgefcaaGreatDoor
end
end
section
open Go Go.RowKit Go.Proofs.YtbjickdjkgefcaaGreatDoor.Vai
noncomputable section
namespace Go.Proofs.YtbjickdjkgefcaaGreatDoor
set_option linter.unusedVariables false
set_option linter.unusedSimpArgs false
set_option maxRecDepth 100000
/-- Where the program's data lie: data, catalogue, the map of tables, the map of schemas. -/
structure Four where
  d : Nat
  c : Nat
  m : Nat
  s : Nat
def Four.l (q : Four) : List Nat := [q.d, q.c, q.m, q.s]
def Four.own (q : Four) : List Nat := [q.m, q.s]
structure CSP (pre : Bool) (a : ByteArray) (q : Four) (w0 : World) (k : Nat) (w : World) (ts : List Tgt) : Prop where
  lies : Lies w (specP (tabsP pre k)) ts (sg a)
  four : (ts.map (·.blk)).take 4 = q.l
  keep : KeepL q.own w0 w
  tabs : Tabs w
theorem specP_owned {l : List Nat} : ∀ (k : Nat) (sp : BSpec), (specP l)[k]? = some sp → sp.owned = true → k = 2 ∨ k = 3 := by
  intro k sp h ho
  match k with
  | 0 => cases h; cases ho
  | 1 => cases h; cases ho
  | 2 => exact .inl rfl
  | 3 => exact .inr rfl
  | k + 4 =>
    exfalso
    have hm : sp ∈ colBs l := List.mem_of_getElem? (i := k) (by simpa [specP] using h)
    have : ∀ (l : List Nat), ∀ s ∈ colBs l, s.owned = false := by
      intro l
      induction l with
      | nil => intro s h; simp [colBs] at h
      | cons y l ih =>
        intro s h
        simp only [colBs, List.mem_cons] at h
        rcases h with rfl | rfl | h
        · rfl
        · rfl
        · exact ih s h
    rw [this l sp hm] at ho; cases ho
theorem CSP.at_ {pre : Bool} {a : ByteArray} {q : Four} {w0 w : World} {k : Nat} {ts : List Tgt} (h : CSP pre a q w0 k w ts) : (∃ t, ts[0]? = some t ∧ t.blk = q.d) ∧ (∃ t, ts[1]? = some t ∧ t.blk = q.c) ∧ (∃ t, ts[2]? = some t ∧ t.blk = q.m) ∧ ∃ t, ts[3]? = some t ∧ t.blk = q.s := by
  have h4 := h.four
  match ts, h4 with
  | t0 :: t1 :: t2 :: t3 :: l, h4 =>
    simp [Four.l] at h4
    exact ⟨⟨t0, rfl, h4.1⟩, ⟨t1, rfl, h4.2.1⟩, ⟨t2, rfl, h4.2.2.1⟩, ⟨t3, rfl, h4.2.2.2⟩⟩
  | [], h4 => simp [Four.l] at h4
  | [_], h4 => simp [Four.l] at h4
  | [_, _], h4 => simp [Four.l] at h4
  | [_, _, _], h4 => simp [Four.l] at h4
theorem CSP.hown {pre : Bool} {a : ByteArray} {q : Four} {w0 w : World} {k : Nat} {ts : List Tgt} (h : CSP pre a q w0 k w ts) : ∀ (i : Nat) (t : Tgt) (sp : BSpec), ts[i]? = some t → (specP (tabsP pre k))[i]? = some sp → sp.owned = true → t.blk ∈ q.own := by
  obtain ⟨_, _, ⟨t2, e2, b2⟩, t3, e3, b3⟩ := h.at_
  intro i t sp ht hsp ho
  rcases specP_owned i sp hsp ho with rfl | rfl
  · rw [e2] at ht; cases ht; simp [Four.own, b2]
  · rw [e3] at ht; cases ht; simp [Four.own, b3]
theorem tabs_zero {w : World} (h : Tabs w) : ∃ cs, w.heap[0]? = some (.cells cs 112 (0, 0)) := ⟨_, h ⟨0, 112, zsp.map (Value.int .u8)⟩ (by simp [globs])⟩
theorem CSP.own0 {pre : Bool} {a : ByteArray} {q : Four} {w0 w : World} {k : Nat} {ts : List Tgt} (h : CSP pre a q w0 k w ts) : 0 ∉ q.own := by
  obtain ⟨_, _, ⟨t2, e2, b2⟩, t3, e3, b3⟩ := h.at_
  obtain ⟨cs, h0⟩ := tabs_zero h.tabs
  have o2 := h.lies.ok 2 t2 _ e2 rfl
  have o3 := h.lies.ok 3 t3 _ e3 rfl
  obtain ⟨_, c2, g2, r2⟩ := o2
  obtain ⟨_, c3, g3, r3⟩ := o3
  intro hm
  simp only [Four.own, List.mem_cons, List.mem_nil_iff, or_false] at hm
  rcases hm with e | e
  · rw [b2, ← e, h0] at g2; cases g2; cases r2
  · rw [b3, ← e, h0] at g3; cases g3; cases r3
theorem CSP.below {pre : Bool} {a : ByteArray} {q : Four} {w0 w w' : World} {k : Nat} {ts : List Tgt} (h : CSP pre a q w0 k w ts) (hb : Below w.heap.size w w') : CSP pre a q w0 k w' ts :=
  ⟨h.lies.below hb, h.four, h.keep.trans (KeepL.of_below hb), h.tabs.keepL (KeepL.of_below hb) h.own0⟩
def CSw (pre : Bool) (a : ByteArray) (q : Four) (w0 : World) (k : Nat) (w : World) : Prop := ∃ ts, CSP pre a q w0 k w ts
/-- With the schemas that Tables has told. -/
def TVw (pre : Bool) (a : ByteArray) (q : Four) (w0 : World) (k : Nat) (w : World) (tb : Nat) : Prop :=
  ∃ ts tT t1, CSP pre a q w0 k w ts ∧ Lies w specTables tT (sg a) ∧ tT[1]? = some t1 ∧ t1.blk = tb ∧ ∀ x ∈ tT.map (·.blk), x ∉ ts.map (·.blk)
theorem spG_ok {w : World} (h : Tabs w) (φ : Emb) : spG.ok (Base.free w) φ w ⟨0, zsp.length, 1⟩ := by
  have h0 := h ⟨0, 112, zsp.map (Value.int .u8)⟩ (by simp [globs])
  refine ⟨(fun e => by cases e), rfl, _, _, h0, rfl, Nat.zero_le _, by simp, by simp, fun o val hov => ?_⟩
  refine ⟨val, by simpa using hov, ?_⟩
  rw [List.getElem?_map] at hov
  cases hz : zsp[o]? with
  | none => rw [hz] at hov; cases hov
  | some z => rw [hz] at hov; cases hov; exact .int _ _
theorem spG_lies {w : World} (h : Tabs w) (sig : Sig) : Lies w [spG] [⟨0, zsp.length, 1⟩] sig := by
  refine ⟨rfl, by simp, fun k t sp ht hsp => ?_, fun k t ht => ?_⟩
  · match k with
    | 0 => cases ht; cases hsp; exact spG_ok h _
    | k + 1 => simp at ht
  · match k with
    | 0 => cases ht; exact lt_of_heap (tabs_zero h).choose_spec
    | k + 1 => simp at ht
theorem specTables_locked : ∀ (k : Nat) (sp : BSpec), specTables[k]? = some sp → sp.owned = false := by
  intro k sp h
  match k with
  | 0 => cases h; rfl
  | 1 => cases h; rfl
  | 2 => cases h; rfl
  | 3 => cases h; rfl
  | 4 => cases h; rfl
  | 5 => cases h; rfl
  | 6 => cases h; rfl
  | 7 => cases h; rfl
  | 8 => cases h; rfl
  | 9 => cases h; rfl
  | k + 10 => simp [specTables, colSpecs, schemas] at h
/-- The program's Tables, wherever the table of spaces lies. -/
theorem ptab_any (sig : Sig) (w : World) (h : Tabs w) : Calls Tryz.prog 4 #[] w fun e w' => ∃ tb cap tT t1, e = .returned (.slice (some ⟨tb, 0, none⟩) 8 cap) ∧ Lies w' specTables tT sig ∧ tT[1]? = some t1 ∧ t1.blk = tb ∧ (∀ x ∈ tT.map (·.blk), x = 0 ∨ w.heap.size ≤ x) ∧ Below w.heap.size w w' := by
  refine (run_own kn0_ok [] (spG_lies h sig) (facts := []) (fun g h => by cases h) (fun k t sp ht hsp ho => ?_) (ng := 1) (Nat.le_refl _) (fun g t hg ht => ?_) (args := []) (cargs := []) .nil tables_ok).mono ?_
  · match k with
    | 0 => cases hsp; cases ho
    | k + 1 => simp at hsp
  · obtain rfl : g = 0 := by omega
    cases ht; rfl
  · rintro e w' ⟨ψ, u, c, ts', rfl, hu, hvr, hr, hs, hk⟩
    have hl : ts'.length = 10 := hr.len
    obtain rfl := veq_sound _ _ hu
    cases hvr with
    | slice v o t l c c' h' h1 h2 =>
      obtain ⟨q1, _⟩ := hr.at_own (k := 1) (id := 126) rfl (List.getElem?_eq_getElem (by omega))
      rw [h'] at q1
      cases q1
      refine ⟨_, _, ts', _, rfl, hr.lies, List.getElem?_eq_getElem (by omega), rfl, fun x hx => ?_, hk.below⟩
      obtain ⟨t, ht, rfl⟩ := List.mem_map.1 hx
      obtain ⟨i, hi⟩ := List.getElem?_of_mem ht
      have hil := (List.getElem?_eq_some_iff.1 hi).1
      obtain ⟨_, h3⟩ := hr.at_own (k := i) (id := [0, 126, 11, 27, 47, 57, 73, 91, 102, 124][i]'(by simp; omega)) (List.getElem?_eq_getElem _) hi
      rcases h3 with ⟨h3, h4⟩ | ⟨_, h3 | h3⟩
      · left
        have e0 : ([0, 126, 11, 27, 47, 57, 73, 91, 102, 124] : List Nat)[i]'(by simp; omega) = 0 := by simp at h3; omega
        rw [e0] at h4
        cases h4; rfl
      · exact .inr h3
      · cases h3
end Go.Proofs.YtbjickdjkgefcaaGreatDoor
end
end
section
open Go Go.RowKit Go.Proofs.YtbjickdjkgefcaaGreatDoor.Vai
namespace Go.Proofs.YtbjickdjkgefcaaGreatDoor
set_option maxRecDepth 100000
theorem creP_f0 : creOk false 0 = true := by kernel_rfl
theorem creP_f1 : creOk false 1 = true := by kernel_rfl
theorem creP_f2 : creOk false 2 = true := by kernel_rfl
theorem creP_f3 : creOk false 3 = true := by kernel_rfl
theorem creP_f4 : creOk false 4 = true := by kernel_rfl
theorem creP_f5 : creOk false 5 = true := by kernel_rfl
theorem creP_f6 : creOk false 6 = true := by kernel_rfl
theorem creP_f7 : creOk false 7 = true := by kernel_rfl
theorem creP_t0 : creOk true 0 = true := by kernel_rfl
theorem creP_t1 : creOk true 1 = true := by kernel_rfl
theorem creP_t2 : creOk true 2 = true := by kernel_rfl
theorem creP_t3 : creOk true 3 = true := by kernel_rfl
theorem creP_t4 : creOk true 4 = true := by kernel_rfl
theorem creP_t5 : creOk true 5 = true := by kernel_rfl
theorem creP_t6 : creOk true 6 = true := by kernel_rfl
theorem creP_t7 : creOk true 7 = true := by kernel_rfl
theorem creP (pre : Bool) : ∀ k, k < 8 → creOk pre k = true := by
  intro k hk
  match pre, k, hk with
  | false, 0, _ => exact creP_f0
  | false, 1, _ => exact creP_f1
  | false, 2, _ => exact creP_f2
  | false, 3, _ => exact creP_f3
  | false, 4, _ => exact creP_f4
  | false, 5, _ => exact creP_f5
  | false, 6, _ => exact creP_f6
  | false, 7, _ => exact creP_f7
  | true, 0, _ => exact creP_t0
  | true, 1, _ => exact creP_t1
  | true, 2, _ => exact creP_t2
  | true, 3, _ => exact creP_t3
  | true, 4, _ => exact creP_t4
  | true, 5, _ => exact creP_t5
  | true, 6, _ => exact creP_t6
  | true, 7, _ => exact creP_t7
end Go.Proofs.YtbjickdjkgefcaaGreatDoor
end
section
open Go Go.RowKit Go.Proofs.YtbjickdjkgefcaaGreatDoor.Vai
noncomputable section
namespace Go.Proofs.YtbjickdjkgefcaaGreatDoor
set_option linter.unusedVariables false
set_option linter.unusedSimpArgs false
set_option maxRecDepth 100000
def nmRun (l : List Nat) : Option (Value × St) := aFunK Tryz.prog tb0 kn0 1000 100 (.func 24) [.pointer (some ⟨0, 0, none⟩)] (bSt (specP l) facts0)
def strB : BSpec := .cells 9 1 [atomT] true
def isNilS (u : Value) : Bool := veq u (.slice none 0 0)
def isRow (i n : Nat) (u : Value) : Bool := veq u (.slice (some ⟨i, 0, none⟩) n INF)
theorem nm_f : runCheck (nmRun []) 4 isNilS (specP []) [0, 1, 2, 3] noTau [] = true := by kernel_rfl
theorem nm_t : runCheck (nmRun [8]) 6 (isRow 12 1) (specP [8] ++ [strB]) [0, 1, 2, 3, 4, 5, 12] noTau [] = true := by kernel_rfl
def contRun (k : Nat) : Option (Value × St) := aFunK Tryz.prog tb0 kn0 1000 100 (.func 25) [.slice (some ⟨0, 0, none⟩) 1 INF, .string (tname k)] (bSt [strB] facts0)
def contRun0 (k : Nat) : Option (Value × St) := aFunK Tryz.prog tb0 kn0 1000 100 (.func 25) [.slice none 0 0, .string (tname k)] (bSt [] [])
def isFalse (u : Value) : Bool := veq u (.bool false)
theorem cont_t : allUp (fun k => runCheck (contRun k) 1 isFalse [] [] noTau []) 8 = true := by kernel_rfl
theorem cont_f : allUp (fun k => runCheck (contRun0 k) 0 isFalse [] [] noTau []) 8 = true := by kernel_rfl
/-- The names that are there already: none, or the one ahead. -/
def NVw (pre : Bool) (a : ByteArray) (w : World) (v : Value) : Prop :=
  (pre = false ∧ v = .slice none 0 0) ∨ (pre = true ∧ ∃ (t : Tgt) (c : Nat), v = .slice (some ⟨t.blk, 0, none⟩) 1 c ∧ 0 + c * t.es = t.n ∧ strB.ok (Base.free w) ⟨fun _ => none, sg a⟩ w t)
theorem strB_any {w w' : World} {φ ψ : Emb} {t : Tgt} (h : strB.ok (Base.free w) φ w t) (hs : ψ.sig = φ.sig) (hw : w'.heap[t.blk]? = w.heap[t.blk]?) : strB.ok (Base.free w') ψ w' t := by
  obtain ⟨_, q2, cs, fr, q3, q4, q5, q6, q7, q8⟩ := h
  refine ⟨(fun e => by cases e), q2, cs, fr, hw.trans q3, q4, q5, q6, q7, fun o val ho => ?_⟩
  obtain ⟨cv, x, y⟩ := q8 o val ho
  refine ⟨cv, x, ?_⟩
  match o with
  | 0 =>
    cases ho
    have e := strOf_sound (i := 0) rfl y
    rw [e, ← hs]
    exact .str 27 0 rfl
  | o + 1 => simp at ho
theorem NVw.below {pre : Bool} {a : ByteArray} {w w' : World} {v : Value} (h : NVw pre a w v) (hb : Below w.heap.size w w') : NVw pre a w' v := by
  rcases h with h | ⟨h1, t, c, h2, h3, h4⟩
  · exact .inl h
  · refine .inr ⟨h1, t, c, h2, h3, strB_any h4 rfl (hb.block _ ?_)⟩
    obtain ⟨_, _, cs, fr, q3, _⟩ := h4
    exact lt_of_heap q3
theorem sg_other {pre : Bool} {a : ByteArray} (ha : Other a) : ∀ g ∈ facts0, g.ok (sg a) := facts0_ok ha
theorem four_of {ts : List Tgt} {q : Four} (h0 : ∃ t, ts[0]? = some t ∧ t.blk = q.d) (h1 : ∃ t, ts[1]? = some t ∧ t.blk = q.c) (h2 : ∃ t, ts[2]? = some t ∧ t.blk = q.m) (h3 : ∃ t, ts[3]? = some t ∧ t.blk = q.s) : (ts.map (·.blk)).take 4 = q.l := by
  obtain ⟨t0, e0, b0⟩ := h0
  obtain ⟨t1, e1, b1⟩ := h1
  obtain ⟨t2, e2, b2⟩ := h2
  obtain ⟨t3, e3, b3⟩ := h3
  match ts with
  | x0 :: x1 :: x2 :: x3 :: l =>
    simp at e0 e1 e2 e3
    subst e0; subst e1; subst e2; subst e3
    simp [Four.l, b0, b1, b2, b3]
  | [] => simp at e0
  | [_] => simp at e1
  | [_, _] => simp at e2
  | [_, _, _] => simp at e3
theorem sub8 : subOk (specP [8] ++ [strB]) (specP [8]) [0, 1, 2, 3, 4, 5] = true := by kernel_rfl
theorem names_any (pre : Bool) (a : ByteArray) (q : Four) (w0 w : World) (ha : Other a) (h : CSw pre a q w0 0 w) :
    Calls Tryz.prog 24 #[.pointer (some ⟨q.d, 0, none⟩)] w fun e w' => ∃ p n c, e = .returned (.slice p n c) ∧ NVw pre a w' (.slice p n c) ∧ CSw pre a q w0 0 w' := by
  obtain ⟨ts, h⟩ := h
  obtain ⟨⟨t0, e0, b0⟩, ⟨t1, e1, b1⟩, ⟨t2, e2, b2⟩, ⟨t3, e3, b3⟩⟩ := h.at_
  cases pre with
  | false =>
    refine (run_own kn0_ok q.own h.lies (facts0_ok ha) h.hown (ng := 0) (Nat.zero_le _) (fun g t hg => absurd hg (Nat.not_lt_zero _)) (args := [.pointer (some ⟨0, 0, none⟩)]) (cargs := [.pointer (some ⟨q.d, 0, none⟩)]) (.cons _ _ _ _ (by rw [← b0]; exact .ptr 0 0 t0 e0) .nil) nm_f).mono ?_
    rintro e w' ⟨ψ, u, c, ts', rfl, hu, hvr, hr, hs, hk⟩
    obtain rfl := veq_sound _ _ hu
    cases hvr
    have hl : ts'.length = 4 := hr.len
    have at' : ∀ i t, i < 4 → ts[i]? = some t → ts'[i]? = some t := fun i t hi ht => by
      have h4 : ts'[i]? = some (ts'[i]'(by omega)) := List.getElem?_eq_getElem _
      obtain ⟨_, h5⟩ := hr.at_own (k := i) (id := i) (by match i, hi with
        | 0, _ => rfl
        | 1, _ => rfl
        | 2, _ => rfl
        | 3, _ => rfl) h4
      rcases h5 with ⟨_, h5⟩ | ⟨h5, _⟩
      · rw [h4, ← h5, ht]
      · have : (specP (tabsP false 0)).length = 4 := rfl
        omega
    exact ⟨_, _, _, rfl, .inl ⟨rfl, rfl⟩, ts', hr.lies, four_of ⟨t0, at' 0 _ (by omega) e0, b0⟩ ⟨t1, at' 1 _ (by omega) e1, b1⟩ ⟨t2, at' 2 _ (by omega) e2, b2⟩ ⟨t3, at' 3 _ (by omega) e3, b3⟩, h.keep.trans hk, h.tabs.keepL hk h.own0⟩
  | true =>
    refine (run_own kn0_ok q.own h.lies (facts0_ok ha) h.hown (ng := 0) (Nat.zero_le _) (fun g t hg => absurd hg (Nat.not_lt_zero _)) (args := [.pointer (some ⟨0, 0, none⟩)]) (cargs := [.pointer (some ⟨q.d, 0, none⟩)]) (.cons _ _ _ _ (by rw [← b0]; exact .ptr 0 0 t0 e0) .nil) nm_t).mono ?_
    rintro e w' ⟨ψ, u, c, ts', rfl, hu, hvr, hr, hs, hk⟩
    obtain rfl := veq_sound _ _ hu
    have hl : ts'.length = 7 := hr.len
    have at' : ∀ i t, i < 6 → ts[i]? = some t → ts'[i]? = some t := fun i t hi ht => by
      have h4 : ts'[i]? = some (ts'[i]'(by omega)) := List.getElem?_eq_getElem _
      obtain ⟨_, h5⟩ := hr.at_own (k := i) (id := i) (by match i, hi with
        | 0, _ => rfl
        | 1, _ => rfl
        | 2, _ => rfl
        | 3, _ => rfl
        | 4, _ => rfl
        | 5, _ => rfl) h4
      rcases h5 with ⟨_, h5⟩ | ⟨h5, _⟩
      · rw [h4, ← h5, ht]
      · have : (specP (tabsP true 0)).length = 6 := rfl
        omega
    have h6 : ts'[6]? = some (ts'[6]'(by omega)) := List.getElem?_eq_getElem _
    have hL := hr.lies
    have o6 := hL.ok 6 _ _ h6 rfl
    obtain ⟨us, hU, hu⟩ := hL.sub sub8
    obtain ⟨q6, _⟩ := hr.at_own (k := 6) (id := 12) rfl h6
    cases hvr with
    | slice v o t l c c' h' h1 h2 =>
      rw [q6] at h'
      cases h'
      refine ⟨_, _, _, rfl, .inr ⟨rfl, _, _, rfl, h2 rfl, strB_any o6 rfl rfl⟩, us, hU, four_of ⟨t0, (hu 0 0 rfl).trans (at' 0 _ (by omega) e0), b0⟩ ⟨t1, (hu 1 1 rfl).trans (at' 1 _ (by omega) e1), b1⟩ ⟨t2, (hu 2 2 rfl).trans (at' 2 _ (by omega) e2), b2⟩ ⟨t3, (hu 3 3 rfl).trans (at' 3 _ (by omega) e3), b3⟩, h.keep.trans hk, h.tabs.keepL hk h.own0⟩
theorem cont_any (pre : Bool) (a : ByteArray) (w : World) (v : Value) (k : Nat) (hk : k < 8) (ha : Other a) (h : NVw pre a w v) : Calls Tryz.prog 25 #[v, .string (tname k)] w fun e w' => e = .returned (.bool false) ∧ Below w.heap.size w w' := by
  rcases h with ⟨_, rfl⟩ | ⟨_, t, c, rfl, h3, h4⟩
  · have hL : Lies w [] [] (sg a) := ⟨rfl, by simp, fun k t sp h => by simp at h, fun k t h => by simp at h⟩
    refine (run_own kn0_ok [] hL (facts := []) (fun g h => by cases h) (fun i t sp h => by simp at h) (ng := 0) (Nat.zero_le _) (fun g t hg => absurd hg (Nat.not_lt_zero _)) (args := [.slice none 0 0, .string (tname k)]) (cargs := [.slice none 0 0, .string (tname k)]) (.cons _ _ _ _ (.snil _ _) (.cons _ _ _ _ (.string _) .nil)) (allUp_at 8 cont_f k hk)).mono ?_
    rintro e w' ⟨ψ, u, c, ts', rfl, hu, hvr, hr, hs, hk⟩
    obtain rfl := veq_sound _ _ hu
    cases hvr
    exact ⟨rfl, hk.below⟩
  · have hlt : t.blk < w.heap.size := by
      obtain ⟨_, _, cs, fr, q3, _⟩ := h4
      exact lt_of_heap q3
    have hL : Lies w [strB] [t] (sg a) := by
      refine ⟨rfl, by simp, fun k u sp hu hsp => ?_, fun k u hu => ?_⟩
      · match k with
        | 0 => cases hu; cases hsp; exact strB_any h4 rfl rfl
        | k + 1 => simp at hu
      · match k with
        | 0 => cases hu; exact hlt
        | k + 1 => simp at hu
    refine (run_own kn0_ok [] hL (facts0_ok ha) (fun i t sp ht hsp ho => ?_) (ng := 0) (Nat.zero_le _) (fun g t hg => absurd hg (Nat.not_lt_zero _)) (args := [.slice (some ⟨0, 0, none⟩) 1 INF, .string (tname k)]) (cargs := [.slice (some ⟨t.blk, 0, none⟩) 1 c, .string (tname k)]) (.cons _ _ _ _ (.slice 0 0 t _ _ _ rfl (fun h => absurd rfl h) (fun _ => h3)) (.cons _ _ _ _ (.string _) .nil)) (allUp_at 8 cont_t k hk)).mono ?_
    · match i with
      | 0 => cases hsp; cases ho
      | i + 1 => simp at hsp
    · rintro e w' ⟨ψ, u, c, ts', rfl, hu, hvr, hr, hs, hk⟩
      obtain rfl := veq_sound _ _ hu
      cases hvr
      exact ⟨rfl, hk.below⟩
end Go.Proofs.YtbjickdjkgefcaaGreatDoor
end
end
