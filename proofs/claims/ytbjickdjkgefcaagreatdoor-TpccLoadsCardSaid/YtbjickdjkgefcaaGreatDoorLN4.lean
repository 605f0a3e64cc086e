/- Both Loads at sizes that may not be: refused. -/
import Derived.Test.YtbjickdjkgefcaaGreatDoorLLN
import Derived.Test.YtbjickdjkgefcaaGreatDoorLG3
import Derived.Outline
import Derived.Test.YtbjickdjkgefcaaGreatDoorLE0
section
open Go Go.RowKit Go.Proofs.YtbjickdjkgefcaaGreatDoor.Vai
namespace Go.Proofs.YtbjickdjkgefcaaGreatDoor
set_option linter.unusedVariables false
set_option linter.unusedSimpArgs false
set_option maxRecDepth 20000
/-- Sizes that may be. -/
def Fits (W D C I : Int) : Prop := (1 ≤ W ∧ W ≤ 5) ∧ (1 ≤ D ∧ D ≤ 5) ∧ (1 ≤ C ∧ C ≤ 50) ∧ (1 ≤ I ∧ I ≤ 50)
theorem ins_t (n most : Int) (h : 1 ≤ n ∧ n ≤ most) (w : World) : Calls Tryz.prog 23 #[.int .i64 n, .int .i64 most] w fun e w' => e = .returned (.bool true) ∧ w' = w := by
  have := inside_any n most w
  simpa [h.1, h.2] using this
theorem ins_f (n most : Int) (h : ¬ (1 ≤ n ∧ n ≤ most)) (w : World) : Calls Tryz.prog 23 #[.int .i64 n, .int .i64 most] w fun e w' => e = .returned (.bool false) ∧ w' = w := by
  have := inside_any n most w
  have e : (decide (1 ≤ n) && decide (n ≤ most)) = false := by
    cases hb : (decide (1 ≤ n) && decide (n ≤ most)) with
    | false => rfl
    | true => rw [Bool.and_eq_true] at hb; exact absurd ⟨of_decide_eq_true hb.1, of_decide_eq_true hb.2⟩ h
  rw [e] at this
  exact this
set_option maxHeartbeats 1000000 in
theorem pload_out (d : Nat) (W D C I : Int) (h : ¬ Fits W D C I) (w : World) : Calls Tryz.prog 9 #[.pointer (some ⟨d, 0, none⟩), .int .i64 W, .int .i64 D, .int .i64 C, .int .i64 I] w fun e w' => e = .returned (.int .i64 1) ∧ w' = w := by
  by_cases h1 : 1 ≤ W ∧ W ≤ 5
  · have K1 := ins_t W 5 h1
    by_cases h2 : 1 ≤ D ∧ D ≤ 5
    · have K2 := ins_t D 5 h2
      by_cases h3 : 1 ≤ C ∧ C ≤ 50
      · have K3 := ins_t C 50 h3
        have K4 := ins_f I 50 (fun h4 => h ⟨h1, h2, h3, h4⟩)
        clear h h1 h2 h3
        go_enter Tryz.func9, Tryz.ntmps9
        go_wp2_with (first
          | (go_at_call 23; with_reducible refine (K1 _).mono ?_; rintro e w1 ⟨rfl, rfl⟩)
          | (go_at_call 23; with_reducible refine (K2 _).mono ?_; rintro e w1 ⟨rfl, rfl⟩)
          | (go_at_call 23; with_reducible refine (K3 _).mono ?_; rintro e w1 ⟨rfl, rfl⟩)
          | (go_at_call 23; with_reducible refine (K4 _).mono ?_; rintro e w1 ⟨rfl, rfl⟩))
        go_ret
        exact ⟨rfl, rfl⟩
      · have K3 := ins_f C 50 h3
        clear h h1 h2 h3
        go_enter Tryz.func9, Tryz.ntmps9
        go_wp2_with (first
          | (go_at_call 23; with_reducible refine (K1 _).mono ?_; rintro e w1 ⟨rfl, rfl⟩)
          | (go_at_call 23; with_reducible refine (K2 _).mono ?_; rintro e w1 ⟨rfl, rfl⟩)
          | (go_at_call 23; with_reducible refine (K3 _).mono ?_; rintro e w1 ⟨rfl, rfl⟩))
        go_ret
        exact ⟨rfl, rfl⟩
    · have K2 := ins_f D 5 h2
      clear h h1 h2
      go_enter Tryz.func9, Tryz.ntmps9
      go_wp2_with (first
        | (go_at_call 23; with_reducible refine (K1 _).mono ?_; rintro e w1 ⟨rfl, rfl⟩)
        | (go_at_call 23; with_reducible refine (K2 _).mono ?_; rintro e w1 ⟨rfl, rfl⟩))
      go_ret
      exact ⟨rfl, rfl⟩
  · have K1 := ins_f W 5 h1
    clear h h1
    go_enter Tryz.func9, Tryz.ntmps9
    go_wp2_with (first
      | (go_at_call 23; with_reducible refine (K1 _).mono ?_; rintro e w1 ⟨rfl, rfl⟩))
    go_ret
    exact ⟨rfl, rfl⟩
set_option maxHeartbeats 4000000 in
theorem rload_out (d : Nat) (W D C I : Int) (h : ¬ Fits W D C I) (w : World) : Calls Tryz.prog 12 #[.pointer (some ⟨d, 0, none⟩), .int .i64 W, .int .i64 D, .int .i64 C, .int .i64 I] w fun e w' => e = .returned (.int .i64 1) ∧ w' = w := by
  by_cases c1 : W < 1
  · clear h
    go_enter Tryz.func12, Tryz.ntmps12
    go_wp2_with fail
    go_ret
    exact ⟨rfl, rfl⟩
  by_cases c2 : 5 < W
  · clear h
    go_enter Tryz.func12, Tryz.ntmps12
    go_wp2_with fail
    go_ret
    exact ⟨rfl, rfl⟩
  by_cases c3 : D < 1
  · clear h
    go_enter Tryz.func12, Tryz.ntmps12
    go_wp2_with fail
    go_ret
    exact ⟨rfl, rfl⟩
  by_cases c4 : 5 < D
  · clear h
    go_enter Tryz.func12, Tryz.ntmps12
    go_wp2_with fail
    go_ret
    exact ⟨rfl, rfl⟩
  by_cases c5 : C < 1
  · clear h
    go_enter Tryz.func12, Tryz.ntmps12
    go_wp2_with fail
    go_ret
    exact ⟨rfl, rfl⟩
  by_cases c6 : 50 < C
  · clear h
    go_enter Tryz.func12, Tryz.ntmps12
    go_wp2_with fail
    go_ret
    exact ⟨rfl, rfl⟩
  by_cases c7 : I < 1
  · clear h
    go_enter Tryz.func12, Tryz.ntmps12
    go_wp2_with fail
    go_ret
    exact ⟨rfl, rfl⟩
  by_cases c8 : 50 < I
  · clear h
    go_enter Tryz.func12, Tryz.ntmps12
    go_wp2_with fail
    go_ret
    exact ⟨rfl, rfl⟩
  · exact absurd ⟨⟨by omega, by omega⟩, ⟨by omega, by omega⟩, ⟨by omega, by omega⟩, by omega, by omega⟩ h
end Go.Proofs.YtbjickdjkgefcaaGreatDoor
end
section
open Go Go.RowKit Go.Proofs.YtbjickdjkgefcaaGreatDoor.Vai
noncomputable section
namespace Go.Proofs.YtbjickdjkgefcaaGreatDoor
set_option linter.unusedVariables false
set_option linter.unusedSimpArgs false
set_option maxRecDepth 100000
def atomV (i : Nat) : Value := .chan (some (Nat.add (Nat.mul 32 i) 31))
def rowAt : Nat → Nat → List Value
  | 0, _ => []
  | n + 1, i => .int .i64 2 :: atomV i :: .complex .f64 0 0 :: .string ⟨#[]⟩ :: rowAt n (Nat.succ i)
def rowAtB (n : Nat) : BSpec := .cells 121 4 (rowAt n 0) true
def same2Run (n : Nat) : Option (Value × St) := aFunK Tryz.prog tb0 kn0 1000 100 (.func 52) [.slice (some ⟨0, 0, none⟩) n INF, .slice (some ⟨1, 0, none⟩) n INF] (bSt [rowAtB n, rowAtB n] [])
def same1Run (n : Nat) : Option (Value × St) := aFunK Tryz.prog tb0 kn0 1000 100 (.func 52) [.slice (some ⟨0, 0, none⟩) n INF, .slice (some ⟨0, 0, none⟩) n INF] (bSt [rowAtB n] [])
def sameOk (n : Nat) : Bool := runCheck (same2Run n) 2 isTrue [] [] noTau [] && runCheck (same1Run n) 1 isTrue [] [] noTau []
theorem same_ok : allUp sameOk 9 = true := by kernel_rfl
theorem decSy_atom (i : Nat) : decSy (Nat.add (Nat.mul 32 i) 31) = .atom i := by
  have e1 : Nat.add (Nat.mul 32 i) 31 = 32 * i + 31 := rfl
  have e2 : (32 * i + 31) % 2 = 1 := by omega
  have e3 : (32 * i + 31) / 2 % 16 = 15 := by omega
  have e4 : (32 * i + 31) / 32 = i := by omega
  unfold decSy
  rw [e1]
  have f2 : Nat.mod (32 * i + 31) 2 = 1 := e2
  have f3 : Nat.mod (Nat.div (32 * i + 31) 2) 16 = 15 := e3
  have f4 : Nat.div (32 * i + 31) 32 = i := e4
  rw [f2, f3, f4]
  rfl
theorem atom_int {φ : Emb} (i : Nat) (n : Int) (h : φ.sig.int i = n) : VR φ (atomV i) (.int .i64 n) :=
  .sy _ _ _ (by rw [decSy_atom]; exact ⟨rfl, h.symm⟩)
theorem rowAt_vr {φ : Emb} : ∀ (l : List Int) (i : Nat), (∀ k n, l[k]? = some n → φ.sig.int (i + k) = n) → ∀ (o : Nat) (a : Value), (rowAt l.length i)[o]? = some a → ∃ c, (vcells l)[o]? = some c ∧ VR φ a c := by
  intro l
  induction l with
  | nil => intro i _ o a h; simp [rowAt] at h
  | cons n l ih =>
    intro i h o a ho
    simp only [List.length_cons, rowAt, vcells] at ho ⊢
    match o with
    | 0 => simp at ho; subst ho; exact ⟨_, rfl, .int _ _⟩
    | 1 => simp at ho; subst ho; exact ⟨_, rfl, atom_int i n (by simpa using h 0 n rfl)⟩
    | 2 => simp at ho; subst ho; exact ⟨_, rfl, .complex _ _ _⟩
    | 3 => simp at ho; subst ho; exact ⟨_, rfl, .string _⟩
    | o + 4 =>
      simp only [List.getElem?_cons_succ] at ho ⊢
      refine ih (Nat.succ i) (fun k n hk => ?_) o a ho
      have := h (k + 1) n (by simpa using hk)
      rw [← this]
      congr 1
      show i + 1 + k = i + (k + 1)
      omega
theorem rowAt_len (n i : Nat) : (rowAt n i).length = n * 4 := by
  induction n generalizing i with
  | zero => rfl
  | succ n ih => simp only [rowAt, List.length_cons, ih]; omega
/-- A row as a block of atoms. -/
theorem row_ok {w : World} {u : Value} {l : List Int} (h : VRow w u l) (sig : Sig) (hs : ∀ k n, l[k]? = some n → sig.int k = n) : ∃ (g cap : Nat), u = .slice (some ⟨g, 0, none⟩) l.length cap ∧ g < w.heap.size ∧ ∀ φ : Emb, φ.sig = sig → (rowAtB l.length).ok (Base.free w) φ w ⟨g, cap * 4, 4⟩ := by
  obtain ⟨hne, ho⟩ := h
  have hpos : 0 < l.length := List.length_pos_iff.2 hne
  rcases ho.2 with ⟨_, e0⟩ | ⟨g, cap, cur, rfl, _, hg, g1, g2, g3, g4⟩
  · omega
  refine ⟨g, cap, rfl, lt_of_heap hg, fun φ hφ => ⟨(fun e => by cases e), rfl, cur, (0, 0), hg, rfl, Nat.zero_le _, g3, ?_, ?_⟩⟩
  · rw [rowAt_len]; show l.length * 4 ≤ cap * 4; omega
  · intro o val hov
    obtain ⟨cv, e1, e2⟩ := rowAt_vr (φ := φ) l 0 (fun k n hk => by rw [hφ, Nat.zero_add]; exact hs k n hk) o val hov
    refine ⟨cv, ?_, e2⟩
    rw [← g4, List.getElem?_take] at e1
    split at e1
    · simpa using e1
    · cases e1
theorem sameRow_any (w : World) (u v : Value) (l : List Int) (hu : VRow w u l) (hv : VRow w v l) (hl : l.length < 9) : Calls Tryz.prog 52 #[u, v] w fun e w' => e = .returned (.bool true) ∧ Below w.heap.size w w' := by
  have hk := allUp_at 9 same_ok l.length hl
  unfold sameOk at hk
  rw [Bool.and_eq_true] at hk
  let sig : Sig := ⟨fun i => l[i]?.getD 0, fun _ => ⟨#[]⟩⟩
  have hs : ∀ k n, l[k]? = some n → sig.int k = n := fun k n h => by show l[k]?.getD 0 = n; rw [h]; rfl
  obtain ⟨g1, c1, rfl, l1, o1⟩ := row_ok hu sig hs
  obtain ⟨g2, c2, rfl, l2, o2⟩ := row_ok hv sig hs
  by_cases e : g1 = g2
  · subst e
    have hL : Lies w [rowAtB l.length] [⟨g1, c1 * 4, 4⟩] sig := by
      refine ⟨rfl, by simp, fun k t sp ht hsp => ?_, fun k t ht => ?_⟩
      · match k with
        | 0 => cases ht; cases hsp; exact o1 _ rfl
        | k + 1 => simp at ht
      · match k with
        | 0 => cases ht; exact l1
        | k + 1 => simp at ht
    have hc : c1 = c2 := by
      obtain ⟨_, _, cs, _, x, _, _, y, _⟩ := o1 ⟨fun _ => none, sig⟩ rfl
      obtain ⟨_, _, cs2, _, x2, _, _, y2, _⟩ := o2 ⟨fun _ => none, sig⟩ rfl
      rw [x] at x2
      cases x2
      have y : cs.size = c1 * 4 := y
      have y2 : cs.size = c2 * 4 := y2
      omega
    subst hc
    have hargs : VRL (bEmb [⟨g1, c1 * 4, 4⟩] sig) [.slice (some ⟨0, 0, none⟩) l.length INF, .slice (some ⟨0, 0, none⟩) l.length INF] [.slice (some ⟨g1, 0, none⟩) l.length c1, .slice (some ⟨g1, 0, none⟩) l.length c1] :=
      .cons _ _ _ _ (.slice 0 0 ⟨g1, c1 * 4, 4⟩ _ _ _ rfl (fun h => absurd rfl h) (fun _ => by show 0 + c1 * 4 = c1 * 4; omega)) (.cons _ _ _ _ (.slice 0 0 ⟨g1, c1 * 4, 4⟩ _ _ _ rfl (fun h => absurd rfl h) (fun _ => by show 0 + c1 * 4 = c1 * 4; omega)) .nil)
    refine (run_lock (L := [rowAtB l.length]) kn0_ok hL (facts := []) (fun g h => by cases h) (fun k sp h => ?_) (Nat.zero_le _) (fun g t h => absurd h (Nat.not_lt_zero _)) hargs (ng := 0) hk.2).mono ?_
    · match k with
      | 0 => cases h; rfl
      | k + 1 => simp at h
    · rintro e w' ⟨ψ, u, c, ts', rfl, hu, hvr, _, _, hb⟩
      obtain rfl := veq_sound _ _ hu
      cases hvr
      exact ⟨rfl, hb⟩
  · have hL : Lies w [rowAtB l.length, rowAtB l.length] [⟨g1, c1 * 4, 4⟩, ⟨g2, c2 * 4, 4⟩] sig := lies_two (o1 _ rfl) (o2 _ rfl) l1 l2 e
    have hargs : VRL (bEmb [⟨g1, c1 * 4, 4⟩, ⟨g2, c2 * 4, 4⟩] sig) [.slice (some ⟨0, 0, none⟩) l.length INF, .slice (some ⟨1, 0, none⟩) l.length INF] [.slice (some ⟨g1, 0, none⟩) l.length c1, .slice (some ⟨g2, 0, none⟩) l.length c2] :=
      .cons _ _ _ _ (.slice 0 0 ⟨g1, c1 * 4, 4⟩ _ _ _ rfl (fun h => absurd rfl h) (fun _ => by show 0 + c1 * 4 = c1 * 4; omega)) (.cons _ _ _ _ (.slice 1 0 ⟨g2, c2 * 4, 4⟩ _ _ _ rfl (fun h => absurd rfl h) (fun _ => by show 0 + c2 * 4 = c2 * 4; omega)) .nil)
    refine (run_lock (L := [rowAtB l.length, rowAtB l.length]) kn0_ok hL (facts := []) (fun g h => by cases h) (fun k sp h => ?_) (Nat.zero_le _) (fun g t h => absurd h (Nat.not_lt_zero _)) hargs (ng := 0) hk.1).mono ?_
    · match k with
      | 0 => cases h; rfl
      | 1 => cases h; rfl
      | k + 2 => simp at h
    · rintro e w' ⟨ψ, u, c, ts', rfl, hu, hvr, _, _, hb⟩
      obtain rfl := veq_sound _ _ hu
      cases hvr
      exact ⟨rfl, hb⟩
end Go.Proofs.YtbjickdjkgefcaaGreatDoor
end
end
section
open Go Go.RowKit Go.Proofs.YtbjickdjkgefcaaGreatDoor.Vai
namespace Go.Proofs.YtbjickdjkgefcaaGreatDoor
set_option linter.unusedVariables false
set_option linter.unusedSimpArgs false
set_option maxRecDepth 20000
theorem sameRows_any (w : World) (u v : Value) (L : List (List Int)) (hu : VRows w u L) (hv : VRows w v L) (hn : L.length ≤ 10000) (hl : ∀ l ∈ L, l.length < 9) (nu : L = [] → u = .slice none 0 0) (nv : L = [] → v = .slice none 0 0) :
    Calls Tryz.prog 39 #[u, v] w fun e w' => e = .returned (.bool true) ∧ Below w.heap.size w w' := by
  by_cases h0 : L = []
  · rw [nu h0, nv h0]
    clear hu hv hl nu nv
    go_enter Tryz.func39, Tryz.ntmps39
    go_wp2_with fail
    go_loop [5] (fun i => i = .int .i64 0) (fun _ => 1)
    case atStart => rfl
    case round =>
      subst hrel
      go_wp2_with fail
      go_ret
      exact ⟨rfl, Below.refl _ _⟩
  · have hp : 0 < L.length := List.length_pos_iff.2 h0
    obtain ⟨gu, cu, rfl, hgu, hru⟩ := hu.read hp
    obtain ⟨gv, cv, rfl, hgv, hrv⟩ := hv.read hp
    have HU := Lib.hid hru
    have HV := Lib.hid hrv
    have HL := Lib.hid hl
    clear hu hv hru hrv hl nu nv h0
    go_enter Tryz.func39, Tryz.ntmps39
    go_wp2_with fail
    go_loopw [5] (fun i wr => ∃ k : Nat, i = .int .i64 k ∧ k ≤ L.length ∧ Below w.heap.size w wr) (fun i _ => L.length - (intOf i).toNat)
    case atStart => exact ⟨0, rfl, Nat.zero_le _, Below.refl _ _⟩
    case round =>
      obtain ⟨k, rfl, hk, hb⟩ := hrel
      by_cases hlt : k < L.length
      · obtain ⟨l, hx⟩ : ∃ l, L[k]? = some l := ⟨_, List.getElem?_eq_getElem hlt⟩
        have hll := HL.out l (List.mem_of_getElem? hx)
        obtain ⟨x, cx, hxr⟩ := HU.out k l hx
        obtain ⟨y, cy, hyr⟩ := HV.out k l hx
        have K := fun w1 (hb1 : Below w.heap.size w w1) => sameRow_any w1 x y l (hxr.keep (KT.below hb1 (Nat.le_refl _) : KT [121] _ _) (by simp)) (hyr.keep (KT.below hb1 (Nat.le_refl _) : KT [121] _ _) (by simp)) hll
        have a0 : wr.cell? ⟨gu, k, none⟩ = some x := (hb.cell (p := ⟨gu, k, none⟩) hgu).trans cx
        have b0 : wr.cell? ⟨gv, k, none⟩ = some y := (hb.cell (p := ⟨gv, k, none⟩) hgv).trans cy
        have la := cell_lt a0
        have lb := cell_lt b0
        have s1 := hb.size
        have HB := Lib.hid hb
        obtain ⟨gx, cxx, rfl, _⟩ := hxr.read
        obtain ⟨gy, cyy, rfl, _⟩ := hyr.read
        clear hx hll cx cy hxr hyr hb
        go_wp2_with fail
        go_region_held3 (fun w' => w'.cell? ⟨gu, k, none⟩ = some (.slice (some ⟨gx, 0, none⟩) l.length cxx) ∧ w'.cell? ⟨gv, k, none⟩ = some (.slice (some ⟨gy, 0, none⟩) l.length cyy))
          (first
            | exact ⟨a0, b0⟩
            | exact ⟨(hb1.cell la).trans a0, (hb1.cell lb).trans b0⟩)
          ((go_at_call 52; refine (K _ HB.out.drew).mono ?_; rintro e w1 ⟨rfl, hb1⟩))
        have hbw : Below w.heap.size w w1 := HB.out.drew.trans (hb1.mono s1)
        clear a0 b0 K hb1
        go_wp2_with fail
        exact ⟨⟨k + 1, by go_num, hlt, hbw⟩, by simp [intOf]; omega⟩
      · obtain rfl : k = L.length := by omega
        go_wp2_with fail
        go_ret
        exact ⟨rfl, hb⟩
end Go.Proofs.YtbjickdjkgefcaaGreatDoor
end
section
open Go Go.RowKit Go.Proofs.YtbjickdjkgefcaaGreatDoor.Vai
namespace Go.Proofs.YtbjickdjkgefcaaGreatDoor
set_option linter.unusedVariables false
set_option linter.unusedSimpArgs false
set_option maxRecDepth 20000
def icells (l : List Int) : List Value := l.map (Value.int .i64)
/-- A row of plain numbers in memory. -/
def NRow (w : World) (v : Value) (l : List Int) : Prop := w.ownsRow 0 3 1 v l.length (icells l)
def NRows (w : World) (v : Value) (L : List (List Int)) : Prop := ∃ us, w.ownsRow 0 52 1 v L.length us ∧ ∀ (i : Nat) (u : Value) (l : List Int), us[i]? = some u → L[i]? = some l → NRow w u l
theorem NRow.keep {w w' : World} {v : Value} {l : List Int} {T : List TypeId} (h : NRow w v l) (k : KT T w w') (hT : 3 ∈ T) : NRow w' v l := ownsRow_keep h k hT
theorem NRows.keep {w w' : World} {v : Value} {L : List (List Int)} {T : List TypeId} (h : NRows w v L) (k : KT T w w') (hT : 3 ∈ T) (hT2 : 52 ∈ T) : NRows w' v L := by
  obtain ⟨us, h1, h2⟩ := h
  exact ⟨us, ownsRow_keep h1 k hT2, fun i u l hu hl => (h2 i u l hu hl).keep k hT⟩
theorem NRows.below {w w' : World} {v : Value} {L : List (List Int)} (h : NRows w v L) (hb : Below w.heap.size w w') : NRows w' v L := h.keep (KT.below hb (Nat.le_refl _) : KT [3, 52] w w') (by simp) (by simp)
theorem NRow.below {w w' : World} {v : Value} {l : List Int} (h : NRow w v l) (hb : Below w.heap.size w w') : NRow w' v l := h.keep (KT.below hb (Nat.le_refl _) : KT [3] w w') (by simp)
theorem NRow.read {w : World} {v : Value} {l : List Int} (h : NRow w v l) (hn : l ≠ []) : ∃ g cap, v = .slice (some ⟨g, 0, none⟩) l.length cap ∧ g < w.heap.size ∧ l.length ≤ cap ∧ ∀ (j : Nat) (n : Int), l[j]? = some n → w.cell? ⟨g, j, none⟩ = some (.int .i64 n) := by
  obtain ⟨g, cap, e1, _, e2, e3, _, e4⟩ := ownsRow_read h (List.length_pos_iff.2 hn)
  exact ⟨g, cap, e1, e2, e3, fun j n hj => e4 j _ (by unfold icells; rw [List.getElem?_map, hj]; rfl)⟩
theorem NRows.read {w : World} {v : Value} {L : List (List Int)} (h : NRows w v L) (hn : 0 < L.length) : ∃ g cap, v = .slice (some ⟨g, 0, none⟩) L.length cap ∧ g < w.heap.size ∧ ∀ (i : Nat) (l : List Int), L[i]? = some l → ∃ u, w.cell? ⟨g, i, none⟩ = some u ∧ NRow w u l := by
  obtain ⟨us, h1, h2⟩ := h
  obtain ⟨g, cap, e1, _, e2, _, _, e3⟩ := ownsRow_read h1 hn
  refine ⟨g, cap, e1, e2, fun i l hl => ?_⟩
  have hi : i < us.length := by
    have := (List.getElem?_eq_some_iff.1 hl).1
    have := h1.1; omega
  exact ⟨_, e3 i _ (List.getElem?_eq_getElem hi), h2 i _ l (List.getElem?_eq_getElem hi) hl⟩
theorem NRows.slice {w : World} {v : Value} {L : List (List Int)} (h : NRows w v L) : ∃ p c, v = .slice p L.length c := by
  obtain ⟨us, h1, _⟩ := h
  rcases h1.2 with ⟨rfl, h0⟩ | ⟨g, c, cur, rfl, _⟩
  · exact ⟨none, 0, by rw [h0]⟩
  · exact ⟨_, c, rfl⟩
theorem info3' : (Tryz.prog.info? 3).map (fun i => (i.zero, i.size, i.bytes)) = some (some (.int .i64 0), 1, 8) := by kernel_rfl
theorem info3 : ∃ i z, Tryz.prog.info? 3 = some i ∧ i.zero = some z ∧ i.size = 1 ∧ i.bytes = 8 ∧ z.cells.size = 1 := by
  have h := info3'
  cases hi : Tryz.prog.info? 3 with
  | none => rw [hi] at h; cases h
  | some i =>
    rw [hi] at h
    simp only [Option.map_some, Option.some.injEq, Prod.mk.injEq] at h
    exact ⟨i, _, rfl, h.1, h.2.1, h.2.2, rfl⟩
theorem info52' : (Tryz.prog.info? 52).map (fun i => (i.zero, i.size, i.bytes)) = some (some (.slice none 0 0), 1, 24) := by kernel_rfl
theorem info52 : ∃ i z, Tryz.prog.info? 52 = some i ∧ i.zero = some z ∧ i.size = 1 ∧ i.bytes = 24 ∧ z.cells.size = 1 := by
  have h := info52'
  cases hi : Tryz.prog.info? 52 with
  | none => rw [hi] at h; cases h
  | some i =>
    rw [hi] at h
    simp only [Option.map_some, Option.some.injEq, Prod.mk.injEq] at h
    exact ⟨i, _, rfl, h.1, h.2.1, h.2.2, rfl⟩
theorem icells_snoc (l : List Int) (k : Nat) (x : Int) (hlt : k < l.length) (hx : l[k]? = some x) : icells (l.take (k + 1)) = icells (l.take k) ++ [.int .i64 x] := by
  rw [List.take_succ_eq_append_getElem hlt]
  rw [List.getElem?_eq_getElem hlt] at hx; cases hx
  unfold icells
  rw [List.map_append]
  rfl
theorem store_c0 (w : World) (a : Addr) (x y : Nat) : (store a (.complex .f64 x y)).run Tryz.prog w = match w.cell? a with
      | some _ => if w.frozen? a then .halt (.unsupported (.unsafePointer "a write to bytes that a string shares")) w else .ok () (w.setCell a (.complex .f64 x y))
      | none => match w.farStore Tryz.prog a (.complex .f64 x y) (Mode.plain == .atomic) with
        | .ok (w', _) => .ok () w'
        | .error h => .halt h w := run_store _ _ _ _ _ rfl
theorem plain_any (l : List Int) (u : Value) (w : World) (hu : VRow w u l) (hl : l.length ≤ 100) :
    Calls Tryz.prog 82 #[u] w fun e w' => ∃ v, e = .returned v ∧ NRow w' v l ∧ Below w.heap.size w w' := by
  obtain ⟨i0, z0, hi0, hz0, hs0, hb0, hc0⟩ := info3
  obtain ⟨b, cap, rfl, _, hlc, _, hc⟩ := hu.read
  have HC : Hid (∀ i n, l[i]? = some n → w.cell? ⟨b, i * 4, none⟩ = some (.int .i64 2) ∧ w.cell? ⟨b, i * 4 + 1, none⟩ = some (.int .i64 n) ∧ w.cell? ⟨b, i * 4 + 2, none⟩ = some (.complex .f64 0 0) ∧ w.cell? ⟨b, i * 4 + 3, none⟩ = some (.string ⟨#[]⟩)) := fun i n h => by
    obtain ⟨a0, a1, a2, a3⟩ := vcells_at l i n h
    exact ⟨hc _ _ a0, hc _ _ a1, hc _ _ a2, hc _ _ a3⟩
  clear hu hc
  have hst := fun w a => store_c0 w a 0 0
  go_enter Tryz.func82, Tryz.ntmps82
  go_wp2
  go_loopw [3, 8] (fun out i wr => ∃ k : Nat, i = .int .i64 k ∧ k ≤ l.length ∧ wr.ownsRow w.heap.size 3 1 out k (icells (l.take k)) ∧ Below w.heap.size w wr) (fun _ i _ => l.length - (intOf i).toNat)
  case atStart => exact ⟨0, rfl, Nat.zero_le _, World.ownsRow_nil _ _ _ _, Below.refl _ _⟩
  case round =>
    obtain ⟨k, rfl, hk, hown, hbel⟩ := hrel
    by_cases hlt : k < l.length
    · obtain ⟨x, hx⟩ : ∃ x, l[k]? = some x := ⟨_, List.getElem?_eq_getElem hlt⟩
      obtain ⟨q0, q1, q2, q3⟩ := HC.out k x hx
      have lb := cell_lt q0
      have b0 := (hbel.cell (p := ⟨b, k * 4, none⟩) lb).trans q0
      have b1 := (hbel.cell (p := ⟨b, k * 4 + 1, none⟩) lb).trans q1
      have b2 := (hbel.cell (p := ⟨b, k * 4 + 2, none⟩) lb).trans q2
      have b3 := (hbel.cell (p := ⟨b, k * 4 + 3, none⟩) lb).trans q3
      have hn := icells_snoc l k x hlt hx
      have HN := Lib.hid hn
      have hbs := hbel.size
      clear hn hx q0 q1 q2 q3
      go_wp2_with (first
        | (at_builtin
           refine wpList_append_lies _ rfl (.tmp 12) (.tmp 15) _ rfl w.heap.size 3 i0 z0 1 8 Tryz.underlying52 hi0 hz0 hs0 hb0 hc0 (by omega) _ k (icells (l.take k)) (by rfl) ((hown.alloc _).alloc _) _ 1 1 [.int .i64 x] (by rfl) rfl (news_lit _ _ _ _ (by simp)) (by simp [Value.oneCell']) (by omega) (by simp only [maxLen]; omega) (by omega) (by simp; omega) (wr.heap.size + 1 + 1) (by simp) ?_
           intro g4 cap4 w4 hown4 hgrow hat hlt4))
      refine ⟨⟨k + 1, by go_num, hlt, by rw [HN.out]; exact hown4, ?_⟩, by simp [intOf]; omega⟩
      exact ((hbel.alloc (by omega) _).alloc (by simp; omega) _).grown hgrow (by simp; omega) (fun q hq => (hown.lt q hq).1)
    · have hk' : k = l.length := by omega
      subst hk'
      rw [List.take_length] at hown
      go_wp2
      exact bodyPost_ret (by simp [results, Tryz.results82, go_sem]) rfl ⟨_, rfl, ownsRow_base hown (Nat.zero_le _), hbel⟩
end Go.Proofs.YtbjickdjkgefcaaGreatDoor
end
section
open Go Go.RowKit Go.Proofs.YtbjickdjkgefcaaGreatDoor.Vai
namespace Go.Proofs.YtbjickdjkgefcaaGreatDoor
set_option linter.unusedVariables false
set_option linter.unusedSimpArgs false
set_option maxRecDepth 20000
/-- Numbers lie in memory as a slice. -/
def IntsAt (w : World) (v : Value) (n : Nat) : Prop := ∃ p c, v = .slice p n c ∧ ∀ i, i < n → ∃ g x, p = some ⟨g, 0, none⟩ ∧ w.cell? ⟨g, i, none⟩ = some (.int .i64 x)
theorem IntsAt.below {w w' : World} {v : Value} {n : Nat} (h : IntsAt w v n) (hb : Below w.heap.size w w') : IntsAt w' v n := by
  obtain ⟨p, c, h1, h2⟩ := h
  refine ⟨p, c, h1, fun i hi => ?_⟩
  obtain ⟨g, x, h3, h4⟩ := h2 i hi
  exact ⟨g, x, h3, (hb.cell (p := ⟨g, i, none⟩) (cell_lt h4)).trans h4⟩
theorem IntsAt.nil (w : World) : IntsAt w (.slice none 0 0) 0 := ⟨none, 0, rfl, fun i hi => by omega⟩
theorem NRow.ints {w : World} {v : Value} {l : List Int} (h : NRow w v l) (hn : l ≠ []) : IntsAt w v l.length := by
  obtain ⟨g, cap, rfl, _, _, hr⟩ := h.read hn
  exact ⟨_, cap, rfl, fun i hi => ⟨g, l[i], rfl, hr i _ (List.getElem?_eq_getElem hi)⟩⟩
theorem total_any (w : World) (v : Value) (L : List (List Int)) (col : Nat) (hv : NRows w v L) (hc : ∀ l ∈ L, l[col]? = some 0) (hn : L.length ≤ 10000) (hcol : col ≤ 100) :
    Calls Tryz.prog 75 #[v, .int .i64 col] w fun e w' => e = .returned (.int .i64 0) ∧ w' = w := by
  by_cases h0 : L.length = 0
  · obtain ⟨p, c, rfl⟩ := hv.slice
    rw [h0]
    clear hv hc
    go_enter Tryz.func75, Tryz.ntmps75
    go_wp2_with fail
    go_loop [5, 10] (fun n i => i = .int .i64 0 ∧ n = .int .i64 0) (fun _ _ => 1)
    case atStart => exact ⟨rfl, rfl⟩
    case round =>
      obtain ⟨rfl, rfl⟩ := hrel
      go_wp2_with fail
      go_ret
      exact ⟨rfl, rfl⟩
  · obtain ⟨g, cap, rfl, _, hr⟩ := hv.read (by omega)
    have HR := Lib.hid hr
    have HC := Lib.hid hc
    clear hv hr hc h0
    go_enter Tryz.func75, Tryz.ntmps75
    go_wp2_with fail
    go_loop [5, 10] (fun n i => ∃ k : Nat, i = .int .i64 k ∧ n = .int .i64 0 ∧ k ≤ L.length) (fun _ i => L.length - (intOf i).toNat)
    case atStart => exact ⟨0, rfl, rfl, Nat.zero_le _⟩
    case round =>
      obtain ⟨k, rfl, rfl, hk⟩ := hrel
      by_cases hlt : k < L.length
      · obtain ⟨l, hx⟩ : ∃ l, L[k]? = some l := ⟨_, List.getElem?_eq_getElem hlt⟩
        obtain ⟨u, cu, hu⟩ := HR.out k l hx
        have h0 := HC.out l (List.mem_of_getElem? hx)
        have hcl : col < l.length := (List.getElem?_eq_some_iff.1 h0).1
        obtain ⟨gu, cu2, rfl, _, hlc, hru⟩ := hu.read (fun e => by rw [e] at hcl; simp at hcl)
        have c0 := hru col 0 h0
        have i1 : (0 : Int) ≤ (col : Int) := Int.natCast_nonneg _
        have i2 : (col : Int) < (l.length : Int) := by omega
        clear hx hu h0 hru
        go_wp2_with fail
        exact ⟨⟨k + 1, by go_num, rfl, hlt⟩, by simp [intOf]; omega⟩
      · obtain rfl : k = L.length := by omega
        go_wp2_with fail
        go_ret
        exact ⟨rfl, rfl⟩
theorem totals_any (w : World) (v : Value) (L : List (List Int)) (col : Nat) (hv : NRows w v L) (hc : ∀ l ∈ L, l[col]? = some 0) (hn : L.length ≤ 10000) (hcol : col ≤ 100) :
    Calls Tryz.prog 77 #[v, .int .i64 col] w fun e w' => e = .returned (.int .i64 0) ∧ w' = w := by
  by_cases h0 : L.length = 0
  · obtain ⟨p, c, rfl⟩ := hv.slice
    rw [h0]
    clear hv hc
    go_enter Tryz.func77, Tryz.ntmps77
    go_wp2_with fail
    go_loop [5, 6] (fun n i => i = .int .i64 0 ∧ n = .int .i64 0) (fun _ _ => 1)
    case atStart => exact ⟨rfl, rfl⟩
    case round =>
      obtain ⟨rfl, rfl⟩ := hrel
      go_wp2_with fail
      go_ret
      exact ⟨rfl, rfl⟩
  · obtain ⟨g, cap, rfl, _, hr⟩ := hv.read (by omega)
    have HR := Lib.hid hr
    have HC := Lib.hid hc
    clear hv hr hc h0
    go_enter Tryz.func77, Tryz.ntmps77
    go_wp2_with fail
    go_loop [5, 6] (fun n i => ∃ k : Nat, i = .int .i64 k ∧ n = .int .i64 0 ∧ k ≤ L.length) (fun _ i => L.length - (intOf i).toNat)
    case atStart => exact ⟨0, rfl, rfl, Nat.zero_le _⟩
    case round =>
      obtain ⟨k, rfl, rfl, hk⟩ := hrel
      by_cases hlt : k < L.length
      · obtain ⟨l, hx⟩ : ∃ l, L[k]? = some l := ⟨_, List.getElem?_eq_getElem hlt⟩
        obtain ⟨u, cu, hu⟩ := HR.out k l hx
        have h0 := HC.out l (List.mem_of_getElem? hx)
        have hcl : col < l.length := (List.getElem?_eq_some_iff.1 h0).1
        obtain ⟨gu, cu2, rfl, _, hlc, hru⟩ := hu.read (fun e => by rw [e] at hcl; simp at hcl)
        have c0 := hru col 0 h0
        have i1 : (0 : Int) ≤ (col : Int) := Int.natCast_nonneg _
        have i2 : (col : Int) < (l.length : Int) := by omega
        clear hx hu h0 hru
        go_wp2_with fail
        exact ⟨⟨k + 1, by go_num, rfl, hlt⟩, by simp [intOf]; omega⟩
      · obtain rfl : k = L.length := by omega
        go_wp2_with fail
        go_ret
        exact ⟨rfl, rfl⟩
theorem equal_any (w : World) (v1 v2 : Value) (n : Nat) (h1 : IntsAt w v1 n) (h2 : IntsAt w v2 n) (hn : n ≤ 100) :
    Calls Tryz.prog 113 #[v1, v2] w fun e w' => ∃ b, e = .returned (.bool b) ∧ Below w.heap.size w w' := by
  obtain ⟨p1, c1, rfl, h1⟩ := h1
  obtain ⟨p2, c2, rfl, h2⟩ := h2
  have H1 := Lib.hid h1
  have H2 := Lib.hid h2
  clear h1 h2
  go_enter Tryz.func113, Tryz.ntmps113
  go_wp2_with fail
  go_loopw [13] (fun i wr => ∃ k : Nat, i = .int .i64 k ∧ k ≤ n ∧ Below w.heap.size w wr) (fun i _ => n - (intOf i).toNat)
  case atStart => exact ⟨0, rfl, Nat.zero_le _, Below.refl _ _⟩
  case round =>
    obtain ⟨k, rfl, hk, hb⟩ := hrel
    by_cases hlt : k < n
    · obtain ⟨g1, x, rfl, a⟩ := H1.out k hlt
      obtain ⟨g2, y, rfl, b⟩ := H2.out k hlt
      have a0 := (hb.cell (p := ⟨g1, k, none⟩) (cell_lt a)).trans a
      have b0 := (hb.cell (p := ⟨g2, k, none⟩) (cell_lt b)).trans b
      have HB := Lib.hid hb
      clear a b hb
      go_wp2_with fail
      go_region_held3 (fun w' => w'.cell? ⟨g1, k, none⟩ = some (.int .i64 x) ∧ w'.cell? ⟨g2, k, none⟩ = some (.int .i64 y))
        (first
          | exact ⟨a0, b0⟩)
        (fail)
      have hbw : Below w.heap.size w wr.drew := HB.out.drew
      clear a0 b0
      by_cases hxy : x = y
      · subst hxy
        go_wp2_with fail
        exact ⟨⟨k + 1, by go_num, hlt, hbw⟩, by simp [intOf]; omega⟩
      · go_wp2_with fail
        go_ret
        exact ⟨_, rfl, hbw⟩
    · obtain rfl : k = n := by omega
      go_wp2_with fail
      go_ret
      exact ⟨_, rfl, hb⟩
end Go.Proofs.YtbjickdjkgefcaaGreatDoor
end
section
open Go Go.RowKit Go.Proofs.YtbjickdjkgefcaaGreatDoor.Vai
namespace Go.Proofs.YtbjickdjkgefcaaGreatDoor
set_option linter.unusedVariables false
set_option linter.unusedSimpArgs false
set_option maxRecDepth 20000
theorem IntsAt.slice {w : World} {v : Value} {n : Nat} (h : IntsAt w v n) : ∃ p c, v = .slice p n c := by
  obtain ⟨p, c, h1, _⟩ := h
  exact ⟨p, c, h1⟩
theorem IntsAt.pre {w : World} {p : Option Addr} {m n c : Nat} (h : IntsAt w (.slice p m c) m) (hn : n ≤ m) : IntsAt w (.slice p n c) n := by
  obtain ⟨p', c', e, h2⟩ := h
  cases e
  exact ⟨p, c, rfl, fun i hi => h2 i (by omega)⟩
/-- So many rows have been kept. -/
structure Kept2 (w2 wr : World) (R : List (List Int)) (k : Nat) (out : Value) : Prop where
  rows : ∃ (L : List (List Int)) (us : List Value), L.length ≤ k ∧ (∀ l ∈ L, l ∈ R) ∧ wr.ownsRow w2.heap.size 52 1 out L.length us ∧ ∀ (i : Nat) (u : Value) (l : List Int), us[i]? = some u → L[i]? = some l → NRow wr u l
  bel : Below w2.heap.size w2 wr
theorem Kept2.below {w2 wr w' : World} {R : List (List Int)} {k : Nat} {out : Value} (h : Kept2 w2 wr R k out) (hb : Below wr.heap.size wr w') : Kept2 w2 w' R k out := by
  obtain ⟨L, us, h1, h2, h3, h4⟩ := h.rows
  exact ⟨⟨L, us, h1, h2, ownsRow_keep h3 (KT.below (T := [52]) hb (Nat.le_refl _)) (by simp), fun i u l hu hl => (h4 i u l hu hl).below hb⟩, h.bel.trans (hb.mono h.bel.size)⟩
theorem Kept2.more {w2 wr : World} {R : List (List Int)} {k : Nat} {out : Value} (h : Kept2 w2 wr R k out) : Kept2 w2 wr R (k + 1) out := by
  obtain ⟨L, us, h1, h2⟩ := h.rows
  exact ⟨⟨L, us, by omega, h2⟩, h.bel⟩
theorem Kept2.start (w2 : World) (R : List (List Int)) : Kept2 w2 w2 R 0 (.slice none 0 0) := ⟨⟨[], [], Nat.zero_le _, (fun l h => by cases h), World.ownsRow_nil _ _ _ _, fun i u l h => by simp at h⟩, Below.refl _ _⟩
/-- One more is kept. -/
theorem kept_add {w2 wr w4 : World} {R L : List (List Int)} {k : Nat} {out v1 : Value} {us : List Value} {l : List Int} {g cap : Nat} {o : Obj} (h1 : L.length ≤ k) (h2 : ∀ l ∈ L, l ∈ R) (h3 : wr.ownsRow w2.heap.size 52 1 out L.length us) (h4 : ∀ (i : Nat) (u : Value) (l : List Int), us[i]? = some u → L[i]? = some l → NRow wr u l) (hb : Below w2.heap.size w2 wr) (hv : NRow wr v1 l) (hl : l ∈ R)
    (hown4 : w4.ownsRow w2.heap.size 52 1 (.slice (some ⟨g, 0, none⟩) (L.length + 1) cap) (L.length + 1) (us ++ [v1])) (hgrow : (wr.alloc o).grownBy w4 out.ownBlock) : Kept2 w2 w4 R (k + 1) (.slice (some ⟨g, 0, none⟩) (L.length + 1) cap) := by
  have kt : KT [3] wr w4 := (KT.alloc _ _ _).trans (KT.grown hgrow (h3.alloc _) (by decide))
  have hus : us.length = L.length := by have := h3.1; omega
  refine ⟨⟨L ++ [l], us ++ [v1], by simp; omega, fun x hx => ?_, by simpa using hown4, fun i u x hu hx => ?_⟩, ?_⟩
  · rcases List.mem_append.1 hx with hx | hx
    · exact h2 x hx
    · simp at hx; subst hx; exact hl
  · by_cases hi : i < us.length
    · rw [List.getElem?_append_left hi] at hu
      rw [List.getElem?_append_left (by omega)] at hx
      exact (h4 i u x hu hx).keep kt (by simp)
    · rw [List.getElem?_append_right (by omega)] at hu
      rw [List.getElem?_append_right (by omega)] at hx
      have e : i - us.length = 0 := by have := (List.getElem?_eq_some_iff.1 hu).1; simp at this; omega
      rw [e] at hu
      rw [show i - L.length = 0 by omega] at hx
      cases hu; cases hx
      exact hv.keep kt (by simp)
  · exact (hb.alloc hb.size _).grown hgrow (by have := hb.size; simp; omega) (fun q hq => (h3.lt q hq).1)
set_option maxHeartbeats 1000000 in
theorem of_any (w : World) (bb d n : Nat) (nm : ByteArray) (vk : Value) (R : List (List Int)) (hb0 : w.cell? ⟨bb, 0, none⟩ = some (.pointer (some ⟨d, 0, none⟩))) (hk : IntsAt w vk n) (hn : n ≤ 100) (hR : R.length ≤ 10000) (hl : ∀ l ∈ R, n ≤ l.length ∧ l.length ≤ 100)
    (K37 : Calls Tryz.prog 37 #[.pointer (some ⟨d, 0, none⟩), .string nm] w fun e w' => ∃ v, e = .returned (.tuple #[v, .int .i64 0]) ∧ VRows w' v R ∧ (R = [] → v = .slice none 0 0) ∧ Below w.heap.size w w') :
    Calls Tryz.prog 74 #[.pointer (some ⟨bb, 0, none⟩), .string nm, vk] w fun e w' => ∃ v L, e = .returned v ∧ NRows w' v L ∧ (∀ l ∈ L, l ∈ R) ∧ L.length ≤ R.length ∧ Below w.heap.size w w' := by
  obtain ⟨i0, z0, hi0, hz0, hs0, hb0', hc0⟩ := info52
  obtain ⟨pk, ck, rfl⟩ := hk.slice
  have HK := Lib.hid hk
  have HL := Lib.hid hl
  clear hk hl
  go_enter Tryz.func74, Tryz.ntmps74
  go_wp2_with (first
    | (go_at_call 37; refine K37.mono ?_; rintro e w2 ⟨v2, rfl, hv2, hn2, hb2⟩; obtain ⟨p2, n2, c2, rfl⟩ := VRows_slice hv2))
  clear K37
  by_cases h0 : R.length = 0
  · have hR0 : R = [] := List.eq_nil_of_length_eq_zero h0
    have := hn2 hR0
    cases this
    clear hv2 hn2
    go_wp2_with fail
    go_loopw [9, 24] (fun out i wr => out = .slice none 0 0 ∧ i = .int .i64 0 ∧ wr = w2) (fun _ _ _ => 1)
    case atStart => exact ⟨rfl, rfl, rfl⟩
    case round =>
      obtain ⟨rfl, rfl, rfl⟩ := hrel
      go_wp2_with fail
      go_ret
      exact ⟨_, [], rfl, ⟨[], World.ownsRow_nil _ _ _ _, fun i u l h => by simp at h⟩, (fun l h => by cases h), Nat.zero_le _, hb2⟩
  · obtain ⟨g2, c2', e2, hg2, hr2⟩ := hv2.read (by omega)
    cases e2
    have HR2 := Lib.hid hr2
    have HB2 := Lib.hid hb2
    have hK0 := Kept2.start w2 R
    clear hv2 hn2 hr2 hb2 h0
    go_wp2_with fail
    go_loopw [9, 24] (fun out i wr => ∃ k : Nat, i = .int .i64 k ∧ k ≤ R.length ∧ Kept2 w2 wr R k out) (fun _ i _ => R.length - (intOf i).toNat)
    case atStart => exact ⟨0, rfl, Nat.zero_le _, hK0⟩
    case round =>
      obtain ⟨k, rfl, hkk, hK⟩ := hrel
      clear hK0
      by_cases hlt : k < R.length
      · obtain ⟨l, hx⟩ : ∃ l, R[k]? = some l := ⟨_, List.getElem?_eq_getElem hlt⟩
        have hm := List.mem_of_getElem? hx
        obtain ⟨u, cu, hu⟩ := HR2.out k l hx
        have hbw := hK.bel
        have a0 := (hbw.cell (p := ⟨g2, k, none⟩) (cell_lt cu)).trans cu
        have hur := hu.keep (KT.below hbw (Nat.le_refl _) : KT [121] _ _) (by simp)
        have hne := hu.1
        obtain ⟨gu, cuu, rfl, _⟩ := hu.read
        obtain ⟨l1, l2⟩ := HL.out l hm
        have K82 := plain_any l _ wr hur l2
        have HM := Lib.hid hm
        obtain ⟨L, us, q1, q2, q3, q4⟩ := hK.rows
        have HQ := Lib.hid (And.intro q1 (And.intro q2 (And.intro q3 q4)))
        obtain ⟨po, no, co, rfl⟩ := ownsRow_slice q3
        have HKK := Lib.hid hK
        have HNE := Lib.hid hne
        have hs4 := hbw.size
        clear hx cu hu hur hbw hK hm hne q2 q3 q4
        go_wp2_with (first
          | (go_at_call 82; refine K82.mono ?_; rintro e w3 ⟨v3, rfl, hv3, hb3⟩; obtain ⟨g3, c3, rfl, _, hc3, _⟩ := hv3.read HNE.out; have f1 : (n : Int) ≤ (c3 : Int) := (by omega); have f2 : (0 : Int) ≤ (n : Int) := Int.natCast_nonneg _
             have K113 := Lib.hid (equal_any w3 (.slice (some ⟨g3, 0, none⟩) n c3) (.slice pk n ck) n ((hv3.ints HNE.out).pre l1) (((HK.out.below HB2.out).below (HKK.out.bel)).below hb3) hn)
             have HV3 := Lib.hid hv3
             have HB3 := Lib.hid hb3
             have s3 := hb3.size
             clear hv3 hb3)
          | (go_at_call 113; refine K113.out.mono ?_; rintro e w4 ⟨b, rfl, hb4⟩; have HB4 := Lib.hid hb4; have s4 := hb4.size; clear hb4)
          | (at_builtin
             refine wpList_append_lies _ rfl (.tmp 36) (.tmp 38) _ rfl w2.heap.size 52 i0 z0 1 24 Tryz.underlying98 hi0 hz0 hs0 hb0' hc0 (by omega) _ L.length us (by rfl) ((ownsRow_keep HQ.out.2.2.1 ((KT.below (T := [52]) HB3.out (Nat.le_refl _)).trans (KT.below HB4.out (Nat.le_refl _))) (by simp)).alloc _) _ 1 1 [.slice (some ⟨g3, 0, none⟩) l.length c3] (by rfl) rfl (news_lit _ _ _ _ rfl) (by simp [Value.oneCell']) (by omega) (by simp only [maxLen]; omega) (by omega) (by simp; omega) (w4.heap.size + 1) (by simp) ?_
             intro g4 cap4 w5 hown5 hgrow hat hlt5))
        · have hKn := (HKK.out.below HB3.out).below HB4.out
          have kt : KT [3] wr w4 := (KT.below HB3.out (Nat.le_refl _)).trans (KT.below HB4.out (Nat.le_refl _))
          have kt2 : KT [52] wr w4 := (KT.below HB3.out (Nat.le_refl _)).trans (KT.below HB4.out (Nat.le_refl _))
          exact ⟨⟨k + 1, by go_num, hlt, kept_add HQ.out.1 HQ.out.2.1 (ownsRow_keep HQ.out.2.2.1 kt2 (by simp)) (fun i u l hu hl => (HQ.out.2.2.2 i u l hu hl).keep kt (by simp)) hKn.bel (HV3.out.below HB4.out) HM.out hown5 hgrow⟩, by simp [intOf]; omega⟩
        · exact ⟨⟨k + 1, by go_num, hlt, ((HKK.out.below HB3.out).below HB4.out).more⟩, by simp [intOf]; omega⟩
      · obtain rfl : k = R.length := by omega
        obtain ⟨L, us, q1, q2, q3, q4⟩ := hK.rows
        have HQ := Lib.hid (And.intro q2 (And.intro q3 (And.intro q4 (And.intro q1 hK.bel))))
        obtain ⟨po, no, co, rfl⟩ := ownsRow_slice q3
        clear hK q2 q3 q4 q1
        go_wp2_with fail
        go_ret
        exact ⟨_, L, rfl, ⟨us, ownsRow_base HQ.out.2.1 (Nat.zero_le _), HQ.out.2.2.1⟩, HQ.out.1, HQ.out.2.2.2.1, HB2.out.trans (HQ.out.2.2.2.2.mono HB2.out.size)⟩
end Go.Proofs.YtbjickdjkgefcaaGreatDoor
end
section
open Go Go.RowKit Go.Proofs.YtbjickdjkgefcaaGreatDoor.Vai
namespace Go.Proofs.YtbjickdjkgefcaaGreatDoor
set_option linter.unusedVariables false
set_option linter.unusedSimpArgs false
set_option maxRecDepth 20000
/-- What the rows of the tables are, as far as soundness looks at them. -/
structure Laid (R : Nat → List (List Int)) : Prop where
  small : ∀ j, (R j).length ≤ 3000
  len : ∀ j, ∀ l ∈ R j, l.length = lenOf j
  none5 : R 5 = []
  none6 : R 6 = []
  none7 : R 7 = []
  house : ∀ l ∈ R 0, l[2]? = some 0
  dist : ∀ l ∈ R 1, l[3]? = some 0 ∧ l[4]? = some 1
  cust : ∀ l ∈ R 2, l[4]? = some 0 ∧ l[5]? = some 0
  stock : ∀ l ∈ R 4, l[3]? = some 0 ∧ l[4]? = some 0
/-- What 'of' tells: some rows of the table. -/
def OfK (f : FuncId) (vb : Value) (nm : ByteArray) (R : List (List Int)) (N : Nat) (w : World) : Prop := ∀ wX vk n, Below w.heap.size w wX → n ≤ N → IntsAt wX vk n → Calls Tryz.prog f #[vb, .string nm, vk] wX fun e w' => ∃ p c L, e = .returned (.slice p (List.length L) c) ∧ NRows w' (.slice p L.length c) L ∧ (∀ l ∈ L, l ∈ R) ∧ L.length ≤ R.length ∧ Below wX.heap.size wX w'
theorem OfK.mono {f : FuncId} {vb : Value} {nm : ByteArray} {R : List (List Int)} {N : Nat} {w w' : World} (h : OfK f vb nm R N w) (hb : Below w.heap.size w w') : OfK f vb nm R N w' := fun wX vk n hX hn hk => h wX vk n (hb.trans (hX.mono hb.size)) hn hk
def nmHouse : ByteArray := ⟨#[104,111,117,115,101]⟩
theorem ints_two {w : World} {g : Nat} {x y : Int} (h0 : w.cell? ⟨g, 0, none⟩ = some (.int .i64 x)) (h1 : w.cell? ⟨g, 1, none⟩ = some (.int .i64 y)) : IntsAt w (.slice (some ⟨g, 0, none⟩) 2 2) 2 :=
  ⟨_, 2, rfl, fun i hi => by
    match i, hi with
    | 0, _ => exact ⟨g, x, rfl, h0⟩
    | 1, _ => exact ⟨g, y, rfl, h1⟩⟩
theorem ints_one {w : World} {g : Nat} {x : Int} (h0 : w.cell? ⟨g, 0, none⟩ = some (.int .i64 x)) : IntsAt w (.slice (some ⟨g, 0, none⟩) 1 1) 1 :=
  ⟨_, 1, rfl, fun i hi => by
    match i, hi with
    | 0, _ => exact ⟨g, x, rfl, h0⟩⟩
theorem lit_two (w : World) (x y : Int) (t : TypeId) : IntsAt (w.alloc (.cells #[.int .i64 x, .int .i64 y] t)) (.slice (some ⟨w.heap.size, 0, none⟩) 2 2) 2 :=
  ints_two (cell_of_heap (@heap_alloc_at w (.cells #[.int .i64 x, .int .i64 y] t)) 0 _ rfl) (cell_of_heap (@heap_alloc_at w (.cells #[.int .i64 x, .int .i64 y] t)) 1 _ rfl)
theorem lit_one (w : World) (x : Int) (t : TypeId) : IntsAt (w.alloc (.cells #[.int .i64 x] t)) (.slice (some ⟨w.heap.size, 0, none⟩) 1 1) 1 :=
  ints_one (cell_of_heap (@heap_alloc_at w (.cells #[.int .i64 x] t)) 0 _ rfl)
theorem lit_two2 {w : World} {b : Nat} {x y : Int} {t : TypeId} (h : b = w.heap.size) : IntsAt (w.alloc (.cells #[.int .i64 x, .int .i64 y] t)) (.slice (some ⟨b, 0, none⟩) 2 2) 2 := by subst h; exact lit_two _ _ _ _
theorem lit_one2 {w : World} {b : Nat} {x : Int} {t : TypeId} (h : b = w.heap.size) : IntsAt (w.alloc (.cells #[.int .i64 x] t)) (.slice (some ⟨b, 0, none⟩) 1 1) 1 := by subst h; exact lit_one _ _ _
set_option maxHeartbeats 4000000 in
theorem districts_any (w : World) (vb : Value) (bb : Nat) (hvb : vb = .pointer (some ⟨bb, 0, none⟩)) (R : Nat → List (List Int)) (hL : Laid R) (K0 : OfK 74 vb ⟨#[104,111,117,115,101]⟩ (R 0) 1 w) (K1 : OfK 74 vb ⟨#[100,105,115,116,114,105,99,116]⟩ (R 1) 1 w) (K2 : OfK 74 vb ⟨#[99,117,115,116,111,109,101,114]⟩ (R 2) 2 w) (K5 : OfK 74 vb ⟨#[111,114,100,101,114,115]⟩ (R 5) 2 w) :
    Calls Tryz.prog 41 #[vb] w fun e w' => e = .returned (.bool true) ∧ Below w.heap.size w w' := by
  subst hvb
  have HL := Lib.hid hL
  have HK0 := Lib.hid K0
  have HK1 := Lib.hid K1
  have HK2 := Lib.hid K2
  have HK5 := Lib.hid K5
  have KD0 := K1 w (.slice none 0 0) 0 (Below.refl _ _) (by omega) (IntsAt.nil w)
  clear hL K0 K1 K2 K5
  go_enter Tryz.func41, Tryz.ntmps41
  go_wp2_with (first
    | (go_at_call 74; refine KD0.mono ?_; rintro e w2 ⟨p2, c2, L, rfl, hv2, hm2, hl2, hb2⟩))
  clear KD0
  have hLs := HL.out.small 1
  have HV2 := Lib.hid hv2
  have HM2 := Lib.hid hm2
  clear hv2 hm2
  go_loopw [13] (fun i wr => ∃ k : Nat, i = .int .i64 k ∧ k ≤ L.length ∧ Below w2.heap.size w2 wr) (fun i _ => L.length - (intOf i).toNat)
  case atStart => exact ⟨0, rfl, Nat.zero_le _, Below.refl _ _⟩
  case round =>
    obtain ⟨k, rfl, hk, hb⟩ := hrel
    by_cases hlt : k < L.length
    · obtain ⟨l, hx⟩ : ∃ l, L[k]? = some l := ⟨_, List.getElem?_eq_getElem hlt⟩
      obtain ⟨g, cg, e2, _, hr⟩ := HV2.out.read (by omega)
      cases e2
      obtain ⟨u, cu, hu⟩ := hr k l hx
      have hm := HM2.out l (List.mem_of_getElem? hx)
      have hlen : l.length = 5 := HL.out.len 1 l hm
      obtain ⟨d3, d4⟩ := HL.out.dist l hm
      have hne : l ≠ [] := fun e => by rw [e] at hlen; cases hlen
      obtain ⟨gu, cuu, rfl, _, hlc, hru⟩ := hu.read hne
      rw [hlen] at cu hlc
      have c0 := (hb.cell (p := ⟨g, k, none⟩) (cell_lt cu)).trans cu
      have cells : ∀ j n, l[j]? = some n → wr.cell? ⟨gu, j, none⟩ = some (.int .i64 n) := fun j n h => (hb.cell (p := ⟨gu, j, none⟩) (cell_lt (hru j n h))).trans (hru j n h)
      obtain ⟨x0, hx0⟩ : ∃ x, l[0]? = some x := ⟨_, List.getElem?_eq_getElem (by omega)⟩
      obtain ⟨x1, hx1⟩ : ∃ x, l[1]? = some x := ⟨_, List.getElem?_eq_getElem (by omega)⟩
      have a0 := cells 0 x0 hx0
      have a1 := cells 1 x1 hx1
      have a3 := cells 3 0 d3
      have a4 := cells 4 1 d4
      have la := cell_lt a0
      have hbw : Below w.heap.size w wr := hb2.trans (hb.mono hb2.size)
      clear hx cu hu hru hm d3 d4 hne cells hx0 hx1 hr
      have kb : Hid (∀ w', Below wr.heap.size wr w' → w'.cell? ⟨gu, 0, none⟩ = some (.int .i64 x0) ∧ w'.cell? ⟨gu, 1, none⟩ = some (.int .i64 x1) ∧ w'.cell? ⟨gu, 3, none⟩ = some (.int .i64 0) ∧ w'.cell? ⟨gu, 4, none⟩ = some (.int .i64 1)) := fun w' h => ⟨(h.cell (p := ⟨gu, 0, none⟩) la).trans a0, (h.cell (p := ⟨gu, 1, none⟩) la).trans a1, (h.cell (p := ⟨gu, 3, none⟩) la).trans a3, (h.cell (p := ⟨gu, 4, none⟩) la).trans a4⟩
      have KO := HK5.out.mono hbw
      have BR : Hid (∀ wX w2, Below wr.heap.size wr wX → Below wX.heap.size wX w2 → Below wr.heap.size wr w2) := fun _ _ a b => a.trans (b.mono a.size)
      go_wp2_with fail
      go_region_held3 (fun w' => w'.cell? ⟨gu, 0, none⟩ = some (.int .i64 x0) ∧ w'.cell? ⟨gu, 1, none⟩ = some (.int .i64 x1) ∧ w'.cell? ⟨gu, 3, none⟩ = some (.int .i64 0) ∧ w'.cell? ⟨gu, 4, none⟩ = some (.int .i64 1))
        (first
          | with_reducible exact ⟨a0, a1, a3, a4⟩
          | (refine kb.out _ ?_; (repeat' first | with_reducible exact Below.refl _ _ | with_reducible assumption | with_reducible refine Below.drew ?_ | with_reducible refine Below.alloc ?_ ?_ _ | with_reducible refine Below.setCell ?_ ?_ _ | (simp; done) | (simp; omega)); done))
        ((go_at_call 74; refine (KO _ _ _ ?hbel (Nat.le_refl _) ?hin).mono ?_; ((case hbel => (repeat' first | with_reducible exact Below.refl _ _ | with_reducible assumption | with_reducible refine Below.drew ?_ | with_reducible refine Below.alloc ?_ ?_ _ | with_reducible refine Below.setCell ?_ ?_ _ | (simp; done) | (simp; omega)))); ((case hin => exact lit_two2 rfl)); rintro e w5 ⟨p5, c5, L5, rfl, hv5, hm5, hl5, hb5⟩
          have hl0 : L5.length = 0 := by rw [HL.out.none5] at hl5; exact Nat.le_zero.1 hl5
          rw [hl0]
          have hb5r := BR.out _ _ (by (repeat' first | with_reducible exact Below.refl _ _ | with_reducible assumption | with_reducible refine Below.drew ?_ | with_reducible refine Below.alloc ?_ ?_ _ | with_reducible refine Below.setCell ?_ ?_ _ | (simp; done) | (simp; omega))) hb5))
      have s5 := hb5r.size
      have hb5w : Below w.heap.size w w5 := hbw.trans (hb5r.mono hbw.size)
      clear a0 a1 a3 a4 c0 hlen hlc
      obtain ⟨a0, a1, a3, a4⟩ := kb.out w5 hb5r
      have kb5 : Hid (∀ w', Below w5.heap.size w5 w' → w'.cell? ⟨gu, 0, none⟩ = some (.int .i64 x0) ∧ w'.cell? ⟨gu, 1, none⟩ = some (.int .i64 x1) ∧ w'.cell? ⟨gu, 3, none⟩ = some (.int .i64 0) ∧ w'.cell? ⟨gu, 4, none⟩ = some (.int .i64 1)) := fun w' h => kb.out w' (BR.out _ _ hb5r h)
      clear kb
      have BR5 : Hid (∀ wX w2, Below w5.heap.size w5 wX → Below wX.heap.size wX w2 → Below w5.heap.size w5 w2) := fun _ _ a b => a.trans (b.mono a.size)
      have KC := HK2.out.mono hb5w
      have HB5 := Lib.hid hb5w
      have HB25 := Lib.hid (hb.trans (hb5r.mono hb.size))
      clear KO hv5 hm5 hl5 hb5 hl0 hbw hb5w hb5r BR la s5
      go_wp2_with fail
      go_loopw [5, 27] (fun last i wl => last = .int .i64 0 ∧ i = .int .i64 0 ∧ wl = w5) (fun _ _ _ => 1)
      case atStart => exact ⟨rfl, rfl, rfl⟩
      case round =>
        obtain ⟨rfl, rfl, rfl⟩ := hrel
        go_wp2_with fail
        have w01 : IntKind.i64.wrap 1 = 1 := by decide
        have K75 := fun wX v Lc (hv : NRows wX v Lc) (hm : ∀ l ∈ Lc, l ∈ R 2) (hl : Lc.length ≤ (R 2).length) => total_any wX v Lc 5 hv (fun l h => (HL.out.cust l (hm l h)).2) (by have := HL.out.small 2; omega) (by omega)
        go_region_held3 (fun w' => w'.cell? ⟨gu, 0, none⟩ = some (.int .i64 x0) ∧ w'.cell? ⟨gu, 1, none⟩ = some (.int .i64 x1) ∧ w'.cell? ⟨gu, 3, none⟩ = some (.int .i64 0) ∧ w'.cell? ⟨gu, 4, none⟩ = some (.int .i64 1))
          (first
            | with_reducible exact ⟨a0, a1, a3, a4⟩
            | (refine kb5.out _ ?_; (repeat' first | with_reducible exact Below.refl _ _ | with_reducible assumption | with_reducible refine Below.drew ?_ | with_reducible refine Below.alloc ?_ ?_ _ | with_reducible refine Below.setCell ?_ ?_ _ | (simp; done) | (simp; omega)); done))
          ((first
            | (go_at_call 74; refine (KC _ _ _ ?hbel (Nat.le_refl _) ?hin).mono ?_; ((case hbel => (repeat' first | with_reducible exact Below.refl _ _ | with_reducible assumption | with_reducible refine Below.drew ?_ | with_reducible refine Below.alloc ?_ ?_ _ | with_reducible refine Below.setCell ?_ ?_ _ | (simp; done) | (simp; omega)))); ((case hin => exact lit_two2 rfl)); rintro e w6 ⟨p6, c6, L6, rfl, hv6, hm6, hl6, hb6⟩
               have hb6r := BR5.out _ _ (by (repeat' first | with_reducible exact Below.refl _ _ | with_reducible assumption | with_reducible refine Below.drew ?_ | with_reducible refine Below.alloc ?_ ?_ _ | with_reducible refine Below.setCell ?_ ?_ _ | (simp; done) | (simp; omega))) hb6)
            | (go_at_call 75; refine (K75 _ _ _ hv6 hm6 hl6).mono ?_; rintro e w7 ⟨rfl, rfl⟩)))
        go_wp2_with fail
        exact ⟨⟨k + 1, by go_num, hlt, HB25.out.trans (hb6r.mono HB25.out.size)⟩, by simp [intOf]; omega⟩
    · obtain rfl : k = L.length := by omega
      have hbw : Below w.heap.size w wr := hb2.trans (hb.mono hb2.size)
      have KH := HK0.out wr (.slice none 0 0) 0 hbw (by omega) (IntsAt.nil wr)
      have KD := HK1.out
      have hLs0 := HL.out.small 0
      clear hb hlt hk
      go_wp2_with (first
        | (go_at_call 74; refine KH.mono ?_; rintro e w3 ⟨p3, c3, L3, rfl, hv3, hm3, hl3, hb3⟩))
      clear KH
      have hb3w : Below w.heap.size w w3 := hbw.trans (hb3.mono hbw.size)
      have HV3 := Lib.hid hv3
      have HM3 := Lib.hid hm3
      clear hv3 hm3 hb3 hbw
      go_loopw [61] (fun i wl => ∃ k : Nat, i = .int .i64 k ∧ k ≤ L3.length ∧ Below w3.heap.size w3 wl) (fun i _ => L3.length - (intOf i).toNat)
      case atStart => exact ⟨0, rfl, Nat.zero_le _, Below.refl _ _⟩
      case round =>
        obtain ⟨k, rfl, hk, hb⟩ := hrel
        by_cases hlt : k < L3.length
        · obtain ⟨l, hx⟩ : ∃ l, L3[k]? = some l := ⟨_, List.getElem?_eq_getElem hlt⟩
          obtain ⟨g, cg, e2, _, hr⟩ := HV3.out.read (by omega)
          cases e2
          obtain ⟨u, cu, hu⟩ := hr k l hx
          have hm := HM3.out l (List.mem_of_getElem? hx)
          have hlen : l.length = 3 := HL.out.len 0 l hm
          have d2 := HL.out.house l hm
          have hne : l ≠ [] := fun e => by rw [e] at hlen; cases hlen
          obtain ⟨gu, cuu, rfl, _, hlc, hru⟩ := hu.read hne
          rw [hlen] at cu hlc
          have c0 := (hb.cell (p := ⟨g, k, none⟩) (cell_lt cu)).trans cu
          have cells : ∀ j n, l[j]? = some n → wr.cell? ⟨gu, j, none⟩ = some (.int .i64 n) := fun j n h => (hb.cell (p := ⟨gu, j, none⟩) (cell_lt (hru j n h))).trans (hru j n h)
          obtain ⟨x0, hx0⟩ : ∃ x, l[0]? = some x := ⟨_, List.getElem?_eq_getElem (by omega)⟩
          have a0 := cells 0 x0 hx0
          have a2 := cells 2 0 d2
          have la := cell_lt a0
          have hbw : Below w.heap.size w wr := hb3w.trans (hb.mono hb3w.size)
          have KO := HK1.out.mono hbw
          have BR : Hid (∀ wX w2, Below wr.heap.size wr wX → Below wX.heap.size wX w2 → Below wr.heap.size wr w2) := fun _ _ a b => a.trans (b.mono a.size)
          have kb : Hid (∀ w', Below wr.heap.size wr w' → w'.cell? ⟨gu, 0, none⟩ = some (.int .i64 x0) ∧ w'.cell? ⟨gu, 2, none⟩ = some (.int .i64 0)) := fun w' h => ⟨(h.cell (p := ⟨gu, 0, none⟩) la).trans a0, (h.cell (p := ⟨gu, 2, none⟩) la).trans a2⟩
          have K75 := fun wX v Lc (hv : NRows wX v Lc) (hm : ∀ l ∈ Lc, l ∈ R 1) (hl : Lc.length ≤ (R 1).length) => total_any wX v Lc 3 hv (fun l h => (HL.out.dist l (hm l h)).1) (by have := HL.out.small 1; omega) (by omega)
          have HBo := Lib.hid hb
          clear hx cu hu hru hm d2 hne cells hx0 hr hb hlen hbw
          go_wp2_with fail
          go_region_held3 (fun w' => w'.cell? ⟨gu, 0, none⟩ = some (.int .i64 x0) ∧ w'.cell? ⟨gu, 2, none⟩ = some (.int .i64 0))
            (first
              | with_reducible exact ⟨a0, a2⟩
              | (refine kb.out _ ?_; (repeat' first | with_reducible exact Below.refl _ _ | with_reducible assumption | with_reducible refine Below.drew ?_ | with_reducible refine Below.alloc ?_ ?_ _ | with_reducible refine Below.setCell ?_ ?_ _ | (simp; done) | (simp; omega)); done))
            ((first
              | (go_at_call 74; refine (KO _ _ _ ?hbel (Nat.le_refl _) ?hin).mono ?_; ((case hbel => (repeat' first | with_reducible exact Below.refl _ _ | with_reducible assumption | with_reducible refine Below.drew ?_ | with_reducible refine Below.alloc ?_ ?_ _ | with_reducible refine Below.setCell ?_ ?_ _ | (simp; done) | (simp; omega)))); ((case hin => exact lit_one2 rfl)); rintro e w6 ⟨p6, c6, L6, rfl, hv6, hm6, hl6, hb6⟩
                 have hb6r := BR.out _ _ (by (repeat' first | with_reducible exact Below.refl _ _ | with_reducible assumption | with_reducible refine Below.drew ?_ | with_reducible refine Below.alloc ?_ ?_ _ | with_reducible refine Below.setCell ?_ ?_ _ | (simp; done) | (simp; omega))) hb6)
              | (go_at_call 75; refine (K75 _ _ _ hv6 hm6 hl6).mono ?_; rintro e w7 ⟨rfl, rfl⟩)))
          go_wp2_with fail
          exact ⟨⟨k + 1, by go_num, hlt, HBo.out.trans (hb6r.mono HBo.out.size)⟩, by simp [intOf]; omega⟩
        · obtain rfl : k = L3.length := by omega
          have hbw : Below w.heap.size w wr := hb3w.trans (hb.mono hb3w.size)
          clear hb
          go_wp2_with fail
          go_ret
          exact ⟨rfl, hbw⟩
end Go.Proofs.YtbjickdjkgefcaaGreatDoor
end
