/- What money.Text and money.Parse return. -/
import Derived.Test.YtpbgaoodokapeaaDoorTB
import Derived.Lib.ItoaLen
open Go Go.RowKit
namespace Go.Proofs.YtpbgaoodokapeaaDoor
set_option linter.unusedVariables false
set_option linter.unusedSimpArgs false
set_option maxRecDepth 4000
def textL (a : Int) : List UInt8 := (if a < 0 then [45] else []) ++ Lib.decDigits (a.natAbs / 100) ++ [46] ++ (Lib.decDigits (100 + a.natAbs % 100)).drop 1
def textS (a : Int) : ByteArray := if InM a then ⟨(textL a).toArray⟩ else ⟨#[]⟩
def textE (a : Int) : Int := if InM a then 0 else 220
theorem ba_append (l m : List UInt8) : ((⟨l.toArray⟩ : ByteArray) ++ ⟨m.toArray⟩) = ⟨(l ++ m).toArray⟩ := by
  apply ByteArray.ext
  rw [ByteArray.data_append]; simp
theorem ba_drop (l : List UInt8) : (⟨l.toArray⟩ : ByteArray).extract 1 (⟨l.toArray⟩ : ByteArray).size = ⟨(l.drop 1).toArray⟩ := by
  apply ByteArray.ext
  rw [ByteArray.data_extract]
  show l.toArray.extract 1 l.toArray.size = _
  simp
  exact List.take_of_length_le (by simp)
theorem itoa_nat (n : Nat) : Lib.itoa (n : Int) = Lib.decDigits n := by
  unfold Lib.itoa; rw [if_neg (by omega)]; rfl
theorem dd_len (n : Nat) (h : n ≤ 9223372036854775807) : (Lib.decDigits n).length ≤ 21 := by
  have := Lib.itoa_length_le (n : Int) (by omega) (by omega)
  rwa [itoa_nat] at this
theorem dd_pos (n : Nat) : 1 ≤ (Lib.decDigits n).length := by
  rw [Lib.decDigits]; split <;> simp
theorem text_any (a : Int) (w : World) (hT : Tabs w) (h10 : 10 ≤ w.heap.size) : Calls Tryd.prog 23 #[.int .i64 a] w fun e w' => e = .returned (.tuple #[.string (textS a), .int .i64 (textE a)]) ∧ Below w.heap.size w w' := by
  by_cases hA : InM a
  · have K := is_eq a true (decide_eq_true hA) w
    have e1 : textS a = ⟨(textL a).toArray⟩ := if_pos hA
    have e2 : textE a = 0 := if_pos hA
    rw [e1, e2]
    obtain ⟨a1, a2⟩ := hA
    obtain ⟨x, hx⟩ : ∃ x : Nat, x = a.natAbs := ⟨_, rfl⟩
    have hx1 : x ≤ 1000000000000000 := by omega
    have r1 : (100 : Int) + (((x % 100 : Nat)) : Int) = ((100 + x % 100 : Nat) : Int) := by omega
    have KR : ∀ w', w' = w → Calls Tryd.prog 36 #[.int .i64 (100 + ((x % 100 : Nat) : Int))] w' fun e w2 => e = .returned (.string ⟨(Lib.decDigits (100 + x % 100)).toArray⟩) ∧ Below w'.heap.size w' w2 := by
      rintro w' rfl
      have := itoa_any ((100 + x % 100 : Nat) : Int) (by omega) (by omega) w' hT
      rw [itoa_nat] at this; rw [r1]; exact this
    have wq : IntKind.i64.wrap ((x / 100 : Nat) : Int) = ((x / 100 : Nat) : Int) := by rw [IntKind.wrap_i64]; omega
    have KQ : ∀ w', Below w.heap.size w w' → Calls Tryd.prog 36 #[.int .i64 (IntKind.i64.wrap ((x / 100 : Nat) : Int))] w' fun e w2 => e = .returned (.string ⟨(Lib.decDigits (x / 100)).toArray⟩) ∧ Below w'.heap.size w' w2 := by
      intro w' hb
      have := itoa_any ((x / 100 : Nat) : Int) (by omega) (by omega) w' (hT.below h10 hb)
      rw [itoa_nat] at this; rw [wq]; exact this
    have s1 : (1 : Int) ≤ (((⟨(Lib.decDigits (100 + x % 100)).toArray⟩ : ByteArray).size : Nat) : Int) := by
      have := dd_pos (100 + x % 100)
      show (1 : Int) ≤ (((Lib.decDigits (100 + x % 100)).toArray.size : Nat) : Int)
      simp; omega
    have s2 : (⟨(Lib.decDigits (x / 100)).toArray⟩ : ByteArray).size ≤ 100 := by
      have := dd_len (x / 100) (by omega)
      show (Lib.decDigits (x / 100)).toArray.size ≤ 100
      simp; omega
    have s3 : (⟨(Lib.decDigits (100 + x % 100)).toArray⟩ : ByteArray).size ≤ 100 := by
      have := dd_len (100 + x % 100) (by omega)
      show (Lib.decDigits (100 + x % 100)).toArray.size ≤ 100
      simp; omega
    have wr : ∀ z : Int, -9223372036854775808 ≤ z → z < 9223372036854775808 → wrap64 z = z := wrap_ok
    by_cases ha : a < 0
    · have hxa : -a = (x : Int) := by omega
      refine text_neg a (x : Int) ((x % 100 : Nat) : Int) ((x / 100 : Nat) : Int) _ _ _ w ha (by rw [hxa]; exact wr _ (by omega) (by omega)) K (by rw [Int.tmod_eq_emod_of_nonneg (by omega)]; omega) (wr _ (by omega) (by omega)) (by rw [Int.tdiv_eq_ediv_of_nonneg (by omega)]; omega) (wr _ (by omega) (by omega)) (wr _ (by omega) (by omega)) s1 s2 s3 ?_ KR KQ
      rw [ba_drop, show (⟨#[45]⟩ : ByteArray) = ⟨[45].toArray⟩ from rfl, show (⟨#[46]⟩ : ByteArray) = ⟨[46].toArray⟩ from rfl, ba_append, ba_append, ba_append]
      unfold textL; rw [if_pos ha, ← hx]
    · have hxa : a = (x : Int) := by omega
      refine text_pos a 0 ((x % 100 : Nat) : Int) ((x / 100 : Nat) : Int) _ _ _ w ha K (by rw [hxa, Int.tmod_eq_emod_of_nonneg (by omega)]; omega) (wr _ (by omega) (by omega)) (by rw [hxa, Int.tdiv_eq_ediv_of_nonneg (by omega)]; omega) (wr _ (by omega) (by omega)) (wr _ (by omega) (by omega)) s1 s2 s3 ?_ KR KQ
      rw [ba_drop, show (⟨#[]⟩ : ByteArray) = ⟨([] : List UInt8).toArray⟩ from rfl, show (⟨#[46]⟩ : ByteArray) = ⟨[46].toArray⟩ from rfl, ba_append, ba_append, ba_append]
      unfold textL; rw [if_neg ha, ← hx]
  · have e1 : textS a = ⟨#[]⟩ := if_neg hA
    have e2 : textE a = 220 := if_neg hA
    rw [e1, e2]
    refine (text_bad a w (is_eq a false (decide_eq_false hA) w)).mono ?_
    rintro e w' ⟨rfl, rfl⟩
    exact ⟨rfl, Below.refl _ _⟩
def parseR (l : List UInt8) : Int × Int :=
  match Lib.atoiAll (noDot l) with
  | .ok v => if InM v ∧ textL v = l then (v, 0) else (0, 3)
  | _ => (0, 3)
theorem parse_err (s t : ByteArray) (w : World)
    (KR : ∀ w, Calls Tryd.prog 39 #[.string s, .string ⟨#[46]⟩, .string ⟨#[]⟩, .int .i64 1] w fun e w' => e = .returned (.string t) ∧ Below w.heap.size w w')
    (KA : ∀ w', Below w.heap.size w w' → Calls Tryd.prog 38 #[.string t] w' fun e w2 => Below w'.heap.size w' w2 ∧ ∃ v y p, e = .returned (.tuple #[.int .i64 v, .iface y (.pointer (some p))])) :
    Calls Tryd.prog 25 #[.string s] w fun e w' => e = .returned (.tuple #[.int .i64 0, .int .i64 3]) ∧ Below w.heap.size w w' := by
  go_enter Tryd.func25, Tryd.ntmps25
  go_wp2_with (first
    | (go_at_call 39; with_reducible refine (KR _).mono ?_; rintro e w1 ⟨rfl, hb1⟩)
    | (go_at_call 38; with_reducible refine (KA _ hb1).mono ?_; rintro e w2 ⟨hb2, v, y, p, rfl⟩; have hb12 := Below.thenB hb1 hb2))
  all_goals go_ret2
  all_goals exact ⟨rfl, hb12⟩
theorem parse_bad (s t tt : ByteArray) (v E : Int) (w : World) (hE : ¬ E = 0)
    (KR : ∀ w, Calls Tryd.prog 39 #[.string s, .string ⟨#[46]⟩, .string ⟨#[]⟩, .int .i64 1] w fun e w' => e = .returned (.string t) ∧ Below w.heap.size w w')
    (KA : ∀ w', Below w.heap.size w w' → Calls Tryd.prog 38 #[.string t] w' fun e w2 => Below w'.heap.size w' w2 ∧ e = .returned (.tuple #[.int .i64 v, .nilIface]))
    (KT : ∀ w', Below w.heap.size w w' → Calls Tryd.prog 23 #[.int .i64 v] w' fun e w2 => e = .returned (.tuple #[.string tt, .int .i64 E]) ∧ Below w'.heap.size w' w2) :
    Calls Tryd.prog 25 #[.string s] w fun e w' => e = .returned (.tuple #[.int .i64 0, .int .i64 3]) ∧ Below w.heap.size w w' := by
  go_enter Tryd.func25, Tryd.ntmps25
  go_wp2_with (first
    | (go_at_call 39; with_reducible refine (KR _).mono ?_; rintro e w1 ⟨rfl, hb1⟩)
    | (go_at_call 38; with_reducible refine (KA _ hb1).mono ?_; rintro e w2 ⟨hb2, rfl⟩; have hb12 := Below.thenB hb1 hb2)
    | (go_at_call 23; with_reducible refine (KT _ hb12).mono ?_; rintro e w3 ⟨rfl, hb3⟩))
  all_goals go_ret2
  all_goals exact ⟨rfl, Below.thenB hb12 hb3⟩
theorem parse_walk (s t tt : ByteArray) (v : Int) (w : World) (V E : Int) (h1 : (tt.toList == s.toList) = true → V = v ∧ E = 0) (h2 : (tt.toList == s.toList) = false → V = 0 ∧ E = 3)
    (KR : ∀ w, Calls Tryd.prog 39 #[.string s, .string ⟨#[46]⟩, .string ⟨#[]⟩, .int .i64 1] w fun e w' => e = .returned (.string t) ∧ Below w.heap.size w w')
    (KA : ∀ w', Below w.heap.size w w' → Calls Tryd.prog 38 #[.string t] w' fun e w2 => Below w'.heap.size w' w2 ∧ e = .returned (.tuple #[.int .i64 v, .nilIface]))
    (KT : ∀ w', Below w.heap.size w w' → Calls Tryd.prog 23 #[.int .i64 v] w' fun e w2 => e = .returned (.tuple #[.string tt, .int .i64 0]) ∧ Below w'.heap.size w' w2) :
    Calls Tryd.prog 25 #[.string s] w fun e w' => e = .returned (.tuple #[.int .i64 V, .int .i64 E]) ∧ Below w.heap.size w w' := by
  cases hb : tt.toList == s.toList
  · obtain ⟨rfl, rfl⟩ := h2 hb
    clear h1 h2
    go_enter Tryd.func25, Tryd.ntmps25
    go_wp2_with (first
      | (go_at_call 39; with_reducible refine (KR _).mono ?_; rintro e w1 ⟨rfl, hb1⟩)
      | (go_at_call 38; with_reducible refine (KA _ hb1).mono ?_; rintro e w2 ⟨hb2, rfl⟩; have hb12 := Below.thenB hb1 hb2)
      | (go_at_call 23; with_reducible refine (KT _ hb12).mono ?_; rintro e w3 ⟨rfl, hb3⟩))
    all_goals go_ret2
    all_goals exact ⟨rfl, Below.thenB hb12 hb3⟩
  · obtain ⟨rfl, rfl⟩ := h1 hb
    clear h1 h2
    go_enter Tryd.func25, Tryd.ntmps25
    go_wp2_with (first
      | (go_at_call 39; with_reducible refine (KR _).mono ?_; rintro e w1 ⟨rfl, hb1⟩)
      | (go_at_call 38; with_reducible refine (KA _ hb1).mono ?_; rintro e w2 ⟨hb2, rfl⟩; have hb12 := Below.thenB hb1 hb2)
      | (go_at_call 23; with_reducible refine (KT _ hb12).mono ?_; rintro e w3 ⟨rfl, hb3⟩))
    all_goals go_ret2
    all_goals exact ⟨rfl, Below.thenB hb12 hb3⟩
theorem cell_ltT {w : World} {p : Addr} {v : Value} (h : w.cell? p = some v) : p.block < w.heap.size := by
  by_cases hlt : p.block < w.heap.size
  · exact hlt
  · have : w.heap[p.block]? = none := Array.getElem?_eq_none (by omega)
    simp [World.cell?, this] at h
theorem parse_any (s : ByteArray) (hs : s.size ≤ 140737488355328) (w : World) (hT : Tabs w) (h10 : 10 ≤ w.heap.size) (e2 e3 : Value) (c2 : w.cell? ⟨2, 0, none⟩ = some e2) (c3 : w.cell? ⟨3, 0, none⟩ = some e3) (i2 : ∃ te pe, e2 = .iface te pe) (i3 : ∃ te pe, e3 = .iface te pe) :
    Calls Tryd.prog 25 #[.string s] w fun e w' => e = .returned (.tuple #[.int .i64 (parseR s.data.toList).1, .int .i64 (parseR s.data.toList).2]) ∧ Below w.heap.size w w' := by
  have KR : ∀ w, Calls Tryd.prog 39 #[.string s, .string ⟨#[46]⟩, .string ⟨#[]⟩, .int .i64 1] w fun e w' => e = .returned (.string ⟨(noDot s.data.toList).toArray⟩) ∧ Below w.heap.size w w' := fun w => replace_any s w hs
  have hsz : (⟨(noDot s.data.toList).toArray⟩ : ByteArray).size ≤ 281474976710656 := by
    have h1 := noDot_len s.data.toList
    have h2 : s.data.toList.length = s.size := by simp
    show (noDot s.data.toList).toArray.size ≤ _
    simp; omega
  have KA := fun w' (hb : Below w.heap.size w w') => atoi_any ⟨(noDot s.data.toList).toArray⟩ hsz w' e2 e3 ((hb.cell (cell_ltT c2)).trans c2) ((hb.cell (cell_ltT c3)).trans c3) i2 i3
  have hd : (⟨(noDot s.data.toList).toArray⟩ : ByteArray).data.toList = noDot s.data.toList := by simp
  rw [hd] at KA
  cases hat : Lib.atoiAll (noDot s.data.toList) with
  | ok v =>
    have KA2 : ∀ w', Below w.heap.size w w' → Calls Tryd.prog 38 #[.string ⟨(noDot s.data.toList).toArray⟩] w' fun e w2 => Below w'.heap.size w' w2 ∧ e = .returned (.tuple #[.int .i64 v, .nilIface]) := by
      intro w' hb
      refine (KA w' hb).mono ?_
      rintro e w2 ⟨hb2, ⟨u, rfl, hu, _⟩ | ⟨u, y, p, rfl, hu⟩⟩
      · rw [hat] at hu; injection hu with hu; subst hu; exact ⟨hb2, rfl⟩
      · exact absurd hat (hu v)
    have KT := fun w' (hb : Below w.heap.size w w') => text_any v w' (hT.below h10 hb) (Nat.le_trans h10 hb.size)
    by_cases hM : InM v
    · have t1 : textS v = ⟨(textL v).toArray⟩ := if_pos hM
      have t2 : textE v = 0 := if_pos hM
      rw [t1, t2] at KT
      refine parse_walk s _ _ v w _ _ ?_ ?_ KR KA2 KT
      · intro h
        have h3 : textL v = s.data.toList := by
          have := (Lib.bytes_beq_iff _ _).1 h
          rw [← this]
        unfold parseR; rw [hat]; simp only; rw [if_pos ⟨hM, h3⟩]; exact ⟨rfl, rfl⟩
      · intro h
        have h3 : ¬ textL v = s.data.toList := by
          intro h4
          exact (Lib.bytes_beq_false_iff _ _).1 h (ByteArray.ext (by rw [h4]))
        unfold parseR; rw [hat]; simp only; rw [if_neg (fun h => h3 h.2)]; exact ⟨rfl, rfl⟩
    · have t2 : ¬ textE v = 0 := by unfold textE; rw [if_neg hM]; decide
      have e0 : parseR s.data.toList = (0, 3) := by unfold parseR; rw [hat]; simp only; rw [if_neg (fun h => hM h.1)]
      rw [e0]
      exact parse_bad s _ _ v _ w t2 KR KA2 KT
  | _ =>
    have e0 : parseR s.data.toList = (0, 3) := by unfold parseR; rw [hat]
    rw [e0]
    refine parse_err s _ w KR (fun w' hb => (KA w' hb).mono ?_)
    rintro e w2 ⟨hb2, ⟨u, rfl, hu, _⟩ | ⟨u, y, p, rfl, hu⟩⟩
    · rw [hat] at hu; cases hu
    · exact ⟨hb2, u, y, p, rfl⟩
end Go.Proofs.YtpbgaoodokapeaaDoor
