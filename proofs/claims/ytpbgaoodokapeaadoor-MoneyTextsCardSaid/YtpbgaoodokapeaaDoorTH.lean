/- What the document's Text and Parse return. -/
import Derived.Test.YtpbgaoodokapeaaDoorTG
open Go Go.RowKit
namespace Go.Proofs.YtpbgaoodokapeaaDoor
set_option linter.unusedVariables false
set_option linter.unusedSimpArgs false
set_option maxRecDepth 4000
theorem mayT (a : Int) (t : Bool) (h : decide (InM a) = t) (w : World) : Calls Tryd.prog 31 #[.int .i64 a] w fun e w' => e = .returned (.bool t) ∧ w' = w := by
  subst h
  by_cases h1 : -1000000000000000 ≤ a
  · by_cases h2 : a ≤ 1000000000000000
    · go_enter Tryd.func31, Tryd.ntmps31
      go_wp2
      all_goals go_ret
      all_goals exact ⟨by rw [decide_eq_true (show InM a from ⟨h1, h2⟩)]; rfl, rfl⟩
    · go_enter Tryd.func31, Tryd.ntmps31
      go_wp2
      all_goals go_ret
      all_goals exact ⟨by rw [decide_eq_false (show ¬ InM a by unfold InM; omega)]; rfl, rfl⟩
  · go_enter Tryd.func31, Tryd.ntmps31
    go_wp2
    all_goals go_ret
    all_goals exact ⟨by rw [decide_eq_false (show ¬ InM a by unfold InM; omega)]; rfl, rfl⟩
theorem rtext_bad (a : Int) (w : World) (K : Calls Tryd.prog 31 #[.int .i64 a] w fun e w' => e = .returned (.bool false) ∧ w' = w) :
    Calls Tryd.prog 24 #[.int .i64 a] w fun e w' => e = .returned (.tuple #[.string ⟨#[]⟩, .int .i64 220]) ∧ w' = w := by
  go_enter Tryd.func24, Tryd.ntmps24
  go_wp2_with (go_at_call 31; with_reducible refine K.mono ?_; rintro e w1 ⟨rfl, rfl⟩)
  all_goals go_ret2
  all_goals exact ⟨rfl, rfl⟩
theorem rtext_pos (a x r q : Int) (sr sq out : ByteArray) (w : World) (ha : ¬ a < 0) (K : Calls Tryd.prog 31 #[.int .i64 a] w fun e w' => e = .returned (.bool true) ∧ w' = w)
    (hr : a.tmod 100 = r) (wr : wrap64 (r + 100) = r + 100) (hq : a.tdiv 100 = q) (wq : wrap64 q = q) (wr0 : wrap64 r = r) (h1 : (1 : Int) ≤ (sr.size : Int)) (h2 : sq.size ≤ 100) (h3 : sr.size ≤ 100)
    (hout : (⟨#[]⟩ ++ sq ++ ⟨#[46]⟩ ++ sr.extract 1 sr.size : ByteArray) = out)
    (KR : ∀ w', w' = w → Calls Tryd.prog 37 #[.int .i64 (r + 100)] w' fun e w2 => e = .returned (.string sr) ∧ Below w'.heap.size w' w2)
    (KQ : ∀ w', Calls Tryd.prog 37 #[.int .i64 (IntKind.i64.wrap q)] w' fun e w2 => e = .returned (.string sq) ∧ Below w'.heap.size w' w2) :
    Calls Tryd.prog 24 #[.int .i64 a] w fun e w' => e = .returned (.tuple #[.string out, .int .i64 0]) ∧ Below w.heap.size w w' := by
  go_enter Tryd.func24, Tryd.ntmps24
  go_wp2_with (first
    | (go_at_call 31; with_reducible refine K.mono ?_; rintro e w1 ⟨rfl, rfl⟩)
    | (go_at_call 37; with_reducible refine (KR _ rfl).mono ?_; rintro e w2 ⟨rfl, hb2⟩))
  go_region_with (go_at_call 37; refine (KQ _).mono ?_; rintro e w3 ⟨rfl, hb3⟩)
  all_goals (try go_wp2)
  all_goals go_ret2
  all_goals exact ⟨by rw [← hout]; rfl, by repeat (first | (refine Below.thenB ?_ hb3) | exact hb2 | apply Below.drew)⟩
theorem rtext_neg (a x r q : Int) (sr sq out : ByteArray) (w : World) (ha : a < 0) (hx : wrap64 (-a) = x) (K : Calls Tryd.prog 31 #[.int .i64 a] w fun e w' => e = .returned (.bool true) ∧ w' = w)
    (hr : x.tmod 100 = r) (wr : wrap64 (r + 100) = r + 100) (hq : x.tdiv 100 = q) (wq : wrap64 q = q) (wr0 : wrap64 r = r) (h1 : (1 : Int) ≤ (sr.size : Int)) (h2 : sq.size ≤ 100) (h3 : sr.size ≤ 100)
    (hout : (⟨#[45]⟩ ++ sq ++ ⟨#[46]⟩ ++ sr.extract 1 sr.size : ByteArray) = out)
    (KR : ∀ w', w' = w → Calls Tryd.prog 37 #[.int .i64 (r + 100)] w' fun e w2 => e = .returned (.string sr) ∧ Below w'.heap.size w' w2)
    (KQ : ∀ w', Calls Tryd.prog 37 #[.int .i64 (IntKind.i64.wrap q)] w' fun e w2 => e = .returned (.string sq) ∧ Below w'.heap.size w' w2) :
    Calls Tryd.prog 24 #[.int .i64 a] w fun e w' => e = .returned (.tuple #[.string out, .int .i64 0]) ∧ Below w.heap.size w w' := by
  go_enter Tryd.func24, Tryd.ntmps24
  go_wp2_with (first
    | (go_at_call 31; with_reducible refine K.mono ?_; rintro e w1 ⟨rfl, rfl⟩)
    | (go_at_call 37; with_reducible refine (KR _ rfl).mono ?_; rintro e w2 ⟨rfl, hb2⟩))
  go_region_with (go_at_call 37; refine (KQ _).mono ?_; rintro e w3 ⟨rfl, hb3⟩)
  all_goals (try go_wp2)
  all_goals go_ret2
  all_goals exact ⟨by rw [← hout]; rfl, by repeat (first | (refine Below.thenB ?_ hb3) | exact hb2 | apply Below.drew)⟩
theorem rtext_any (a : Int) (w : World) : Calls Tryd.prog 24 #[.int .i64 a] w fun e w' => e = .returned (.tuple #[.string (textS a), .int .i64 (textE a)]) ∧ Below w.heap.size w w' := by
  by_cases hA : InM a
  · have K := mayT a true (decide_eq_true hA) w
    have e1 : textS a = ⟨(textL a).toArray⟩ := if_pos hA
    have e2 : textE a = 0 := if_pos hA
    rw [e1, e2]
    obtain ⟨a1, a2⟩ := hA
    obtain ⟨x, hx⟩ : ∃ x : Nat, x = a.natAbs := ⟨_, rfl⟩
    have hx1 : x ≤ 1000000000000000 := by omega
    have r1 : (((x % 100 : Nat)) : Int) + 100 = ((100 + x % 100 : Nat) : Int) := by omega
    have KR : ∀ w', w' = w → Calls Tryd.prog 37 #[.int .i64 (((x % 100 : Nat) : Int) + 100)] w' fun e w2 => e = .returned (.string ⟨(Lib.decDigits (100 + x % 100)).toArray⟩) ∧ Below w'.heap.size w' w2 := by
      rintro w' rfl
      rw [r1]; exact digits_any (100 + x % 100) w' (by omega)
    have wq : IntKind.i64.wrap ((x / 100 : Nat) : Int) = ((x / 100 : Nat) : Int) := by rw [IntKind.wrap_i64]; omega
    have KQ : ∀ w', Calls Tryd.prog 37 #[.int .i64 (IntKind.i64.wrap ((x / 100 : Nat) : Int))] w' fun e w2 => e = .returned (.string ⟨(Lib.decDigits (x / 100)).toArray⟩) ∧ Below w'.heap.size w' w2 := by
      intro w'
      rw [wq]; exact digits_any (x / 100) w' (by omega)
    have s1 : (1 : Int) ≤ (((⟨(Lib.decDigits (100 + x % 100)).toArray⟩ : ByteArray).size : Nat) : Int) := by
      have := dd_pos (100 + x % 100)
      show (1 : Int) ≤ (((Lib.decDigits (100 + x % 100)).toArray.size : Nat) : Int)
      simp; omega
    have s2 : (⟨(Lib.decDigits (x / 100)).toArray⟩ : ByteArray).size ≤ 100 := by
      have := dd_len (x / 100) (by omega)
      show (Lib.decDigits (x / 100)).toArray.size ≤ 100
      simp; omega
    have s3 : (⟨(Lib.decDigits (100 + x % 100)).toArray⟩ : ByteArray).size ≤ 100 := by
      have := dd_len (100 + x % 100) (by omega)
      show (Lib.decDigits (100 + x % 100)).toArray.size ≤ 100
      simp; omega
    have wr : ∀ z : Int, -9223372036854775808 ≤ z → z < 9223372036854775808 → wrap64 z = z := wrap_ok
    by_cases ha : a < 0
    · have hxa : -a = (x : Int) := by omega
      refine rtext_neg a (x : Int) ((x % 100 : Nat) : Int) ((x / 100 : Nat) : Int) _ _ _ w ha (by rw [hxa]; exact wr _ (by omega) (by omega)) K (by rw [Int.tmod_eq_emod_of_nonneg (by omega)]; omega) (wr _ (by omega) (by omega)) (by rw [Int.tdiv_eq_ediv_of_nonneg (by omega)]; omega) (wr _ (by omega) (by omega)) (wr _ (by omega) (by omega)) s1 s2 s3 ?_ KR KQ
      rw [ba_drop, show (⟨#[45]⟩ : ByteArray) = ⟨[45].toArray⟩ from rfl, show (⟨#[46]⟩ : ByteArray) = ⟨[46].toArray⟩ from rfl, ba_append, ba_append, ba_append]
      unfold textL; rw [if_pos ha, ← hx]
    · have hxa : a = (x : Int) := by omega
      refine rtext_pos a 0 ((x % 100 : Nat) : Int) ((x / 100 : Nat) : Int) _ _ _ w ha K (by rw [hxa, Int.tmod_eq_emod_of_nonneg (by omega)]; omega) (wr _ (by omega) (by omega)) (by rw [hxa, Int.tdiv_eq_ediv_of_nonneg (by omega)]; omega) (wr _ (by omega) (by omega)) (wr _ (by omega) (by omega)) s1 s2 s3 ?_ KR KQ
      rw [ba_drop, show (⟨#[]⟩ : ByteArray) = ⟨([] : List UInt8).toArray⟩ from rfl, show (⟨#[46]⟩ : ByteArray) = ⟨[46].toArray⟩ from rfl, ba_append, ba_append, ba_append]
      unfold textL; rw [if_neg ha, ← hx]
  · have e1 : textS a = ⟨#[]⟩ := if_neg hA
    have e2 : textE a = 220 := if_neg hA
    rw [e1, e2]
    refine (rtext_bad a w (mayT a false (decide_eq_false hA) w)).mono ?_
    rintro e w' ⟨rfl, rfl⟩
    exact ⟨rfl, Below.refl _ _⟩
end Go.Proofs.YtpbgaoodokapeaaDoor
