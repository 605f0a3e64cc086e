/- money.Text and money.Parse. -/
import Derived.Test.YtpbgaoodokapeaaDoorTA
import Derived.Test.YtpbgaoodokapeaaDoorQA
open Go Go.RowKit
namespace Go.Proofs.YtpbgaoodokapeaaDoor
set_option linter.unusedVariables false
set_option linter.unusedSimpArgs false
set_option maxRecDepth 4000
theorem text_bad (a : Int) (w : World) (K : Calls Tryd.prog 27 #[.int .i64 a] w fun e w' => e = .returned (.bool false) ∧ w' = w) :
    Calls Tryd.prog 23 #[.int .i64 a] w fun e w' => e = .returned (.tuple #[.string ⟨#[]⟩, .int .i64 220]) ∧ w' = w := by
  go_enter Tryd.func23, Tryd.ntmps23
  go_wp2_with (go_at_call 27; with_reducible refine K.mono ?_; rintro e w1 ⟨rfl, rfl⟩)
  all_goals go_ret2
  all_goals exact ⟨rfl, rfl⟩
theorem text_pos (a x r q : Int) (sr sq out : ByteArray) (w : World) (ha : ¬ a < 0) (K : Calls Tryd.prog 27 #[.int .i64 a] w fun e w' => e = .returned (.bool true) ∧ w' = w)
    (hr : a.tmod 100 = r) (wr : wrap64 (100 + r) = 100 + r) (hq : a.tdiv 100 = q) (wq : wrap64 q = q) (wr0 : wrap64 r = r) (h1 : (1 : Int) ≤ (sr.size : Int)) (h2 : sq.size ≤ 100) (h3 : sr.size ≤ 100)
    (hout : (⟨#[]⟩ ++ sq ++ ⟨#[46]⟩ ++ sr.extract 1 sr.size : ByteArray) = out)
    (KR : ∀ w', w' = w → Calls Tryd.prog 36 #[.int .i64 (100 + r)] w' fun e w2 => e = .returned (.string sr) ∧ Below w'.heap.size w' w2)
    (KQ : ∀ w', Below w.heap.size w w' → Calls Tryd.prog 36 #[.int .i64 (IntKind.i64.wrap q)] w' fun e w2 => e = .returned (.string sq) ∧ Below w'.heap.size w' w2) :
    Calls Tryd.prog 23 #[.int .i64 a] w fun e w' => e = .returned (.tuple #[.string out, .int .i64 0]) ∧ Below w.heap.size w w' := by
  go_enter Tryd.func23, Tryd.ntmps23
  go_wp2_with (first
    | (go_at_call 27; with_reducible refine K.mono ?_; rintro e w1 ⟨rfl, rfl⟩)
    | (go_at_call 36; with_reducible refine (KR _ rfl).mono ?_; rintro e w2 ⟨rfl, hb2⟩))
  go_region_with (go_at_call 36; refine (KQ _ (by repeat (first | exact hb2 | apply Below.drew))).mono ?_; rintro e w3 ⟨rfl, hb3⟩)
  all_goals (try go_wp2)
  all_goals go_ret2
  all_goals exact ⟨by rw [← hout]; rfl, by repeat (first | (refine Below.thenB ?_ hb3) | exact hb2 | apply Below.drew)⟩
theorem text_neg (a x r q : Int) (sr sq out : ByteArray) (w : World) (ha : a < 0) (hx : wrap64 (-a) = x) (K : Calls Tryd.prog 27 #[.int .i64 a] w fun e w' => e = .returned (.bool true) ∧ w' = w)
    (hr : x.tmod 100 = r) (wr : wrap64 (100 + r) = 100 + r) (hq : x.tdiv 100 = q) (wq : wrap64 q = q) (wr0 : wrap64 r = r) (h1 : (1 : Int) ≤ (sr.size : Int)) (h2 : sq.size ≤ 100) (h3 : sr.size ≤ 100)
    (hout : (⟨#[45]⟩ ++ sq ++ ⟨#[46]⟩ ++ sr.extract 1 sr.size : ByteArray) = out)
    (KR : ∀ w', w' = w → Calls Tryd.prog 36 #[.int .i64 (100 + r)] w' fun e w2 => e = .returned (.string sr) ∧ Below w'.heap.size w' w2)
    (KQ : ∀ w', Below w.heap.size w w' → Calls Tryd.prog 36 #[.int .i64 (IntKind.i64.wrap q)] w' fun e w2 => e = .returned (.string sq) ∧ Below w'.heap.size w' w2) :
    Calls Tryd.prog 23 #[.int .i64 a] w fun e w' => e = .returned (.tuple #[.string out, .int .i64 0]) ∧ Below w.heap.size w w' := by
  go_enter Tryd.func23, Tryd.ntmps23
  go_wp2_with (first
    | (go_at_call 27; with_reducible refine K.mono ?_; rintro e w1 ⟨rfl, rfl⟩)
    | (go_at_call 36; with_reducible refine (KR _ rfl).mono ?_; rintro e w2 ⟨rfl, hb2⟩))
  go_region_with (go_at_call 36; refine (KQ _ (by repeat (first | exact hb2 | apply Below.drew))).mono ?_; rintro e w3 ⟨rfl, hb3⟩)
  all_goals (try go_wp2)
  all_goals go_ret2
  all_goals exact ⟨by rw [← hout]; rfl, by repeat (first | (refine Below.thenB ?_ hb3) | exact hb2 | apply Below.drew)⟩
end Go.Proofs.YtpbgaoodokapeaaDoor
