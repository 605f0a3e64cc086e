/- The law of hopperlaw16.OccStarts, for every three numbers of an int's size. -/
import Derived.Test.YtcaoohbilncoiaaGreatDoorOCa
import Derived.Test.YtcaoohbilncoiaaGreatDoorOCb
import Derived.Test.YtcaoohbilncoiaaGreatDoorOCc
import Derived.Test.YtcaoohbilncoiaaGreatDoorOCd
open Go Go.RowKit Go.Proofs.YtcaoohbilncoiaaGreatDoor.Vai
set_option linter.unusedVariables false
namespace Go.Proofs.YtcaoohbilncoiaaGreatDoor
set_option maxRecDepth 100000
theorem inside_ok : ∀ k, 1 ≤ k → k ≤ 16 → inside k = true
  | 0, h, _ => absurd h (by decide)
  | 1, _, _ => runIn1
  | 2, _, _ => runIn2
  | 3, _, _ => runIn3
  | 4, _, _ => runIn4
  | 5, _, _ => runIn5
  | 6, _, _ => runIn6
  | 7, _, _ => runIn7
  | 8, _, _ => runIn8
  | 9, _, _ => runIn9
  | 10, _, _ => runIn10
  | 11, _, _ => runIn11
  | 12, _, _ => runIn12
  | 13, _, _ => runIn13
  | 14, _, _ => runIn14
  | 15, _, _ => runIn15
  | 16, _, _ => runIn16
  | k + 17, _, h => absurd h (by omega)
theorem outside_ok : ∀ {k : Nat}, 1 ≤ k → k ≤ 16 → outside k = true
  | 0, h, _ => absurd h (by decide)
  | 1, _, _ => runOut1
  | 2, _, _ => runOut2
  | 3, _, _ => runOut3
  | 4, _, _ => runOut4
  | 5, _, _ => runOut5
  | 6, _, _ => runOut6
  | 7, _, _ => runOut7
  | 8, _, _ => runOut8
  | 9, _, _ => runOut9
  | 10, _, _ => runOut10
  | 11, _, _ => runOut11
  | 12, _, _ => runOut12
  | 13, _, _ => runOut13
  | 14, _, _ => runOut14
  | 15, _, _ => runOut15
  | 16, _, _ => runOut16
  | k + 17, _, h => absurd h (by omega)
theorem sm_ok (w : World) (hw : ∀ w, Calls Tryz.prog 5 #[] w fun e w' => e = .returned (.bool true) ∧ Below w.heap.size w w') : SmOk Tryz.prog w sm0 := by
  refine ⟨fun f l a v hf hm w' _ => ?_⟩
  by_cases e : f = 5
  · subst e
    rw [show sm0.get 5 = some [([], .bool true)] from T.get_set_same _ _ _] at hf
    cases hf
    cases hm with
    | head => exact hw w'
    | tail _ h => cases h
  · rw [show sm0.get f = T.nil.get f from T.get_set_other _ _ e] at hf
    cases hf
theorem rng_ok {n lo hi : Int} (h1 : -36893488147419103232 ≤ lo) (h2 : hi < 36893488147419103232) (h3 : lo ≤ n) (h4 : n ≤ hi) : VR (fun _ => none) (rg lo hi) (.int .i64 n) := VR.range h1 h2 h3 h4
theorem occ_of (hw : ∀ w, Calls Tryz.prog 5 #[] w fun e w' => e = .returned (.bool true) ∧ Below w.heap.size w w') {a b c : Value} {x y z : Int} (ha : VR (fun _ => none) a (.int .i64 x)) (hb : VR (fun _ => none) b (.int .i64 y)) (hc : VR (fun _ => none) c (.int .i64 z))
    (h : occRun a b c = true) (w : World) : Calls Tryz.prog 3 #[.int .i64 x, .int .i64 y, .int .i64 z] w fun e w' => e = .returned (.bool true) ∧ Below w.heap.size w w' :=
  calls_of_runS (sm := sm0) tb0_ok mixed (sm_ok w hw) (rel0 w) (L := 1000) (d := 100) (args := [a, b, c]) (cargs := [.int .i64 x, .int .i64 y, .int .i64 z]) (.cons _ _ _ _ ha (.cons _ _ _ _ hb (.cons _ _ _ _ hc .nil))) rfl h
/-- The law, for every three numbers of an int's size. -/
theorem law_any (hw : ∀ w, Calls Tryz.prog 5 #[] w fun e w' => e = .returned (.bool true) ∧ Below w.heap.size w w') (x y z : Int) (x1 : -9223372036854775808 ≤ x) (x2 : x ≤ 9223372036854775807) (y1 : -9223372036854775808 ≤ y) (y2 : y ≤ 9223372036854775807) (z1 : -9223372036854775808 ≤ z) (z2 : z ≤ 9223372036854775807) (w : World) :
    Calls Tryz.prog 3 #[.int .i64 x, .int .i64 y, .int .i64 z] w fun e w' => e = .returned (.bool true) ∧ Below w.heap.size w w' := by
  have all_ : ∀ {n : Int}, -9223372036854775808 ≤ n → n ≤ 9223372036854775807 → VR (fun _ => none) allR (.int .i64 n) := fun h1 h2 => rng_ok (by decide) (by decide) h1 h2
  have mem3 : ∀ {f : Value → Bool} {p q r : Value}, [p, q, r].all f = true → f p = true ∧ f q = true ∧ f r = true := by
    intro f p q r h
    simp only [List.all_cons, List.all_nil, Bool.and_eq_true, Bool.and_true] at h
    exact h
  by_cases c1 : x ≤ 0
  · exact occ_of hw (rng_ok (by decide) (by decide) x1 c1) (all_ y1 y2) (all_ z1 z2) runA w
  by_cases c2 : 17 ≤ x
  · exact occ_of hw (rng_ok (by decide) (by decide) c2 x2) (all_ y1 y2) (all_ z1 z2) runB w
  obtain ⟨k, hk⟩ : ∃ k : Nat, x = Int.ofNat k := ⟨x.toNat, by rw [Int.ofNat_eq_natCast]; omega⟩
  subst hk
  rw [Int.ofNat_eq_natCast] at *
  have hx : VR (fun _ => none) (int_ k) (.int .i64 (k : Int)) := .int _ _
  by_cases c3 : 0 ≤ y ∧ y < k
  · obtain ⟨j, hj⟩ : ∃ j : Nat, y = Int.ofNat j := ⟨y.toNat, by rw [Int.ofNat_eq_natCast]; omega⟩
    subst hj
    rw [Int.ofNat_eq_natCast] at *
    have hy : VR (fun _ => none) (int_ j) (.int .i64 (j : Int)) := .int _ _
    have h := List.all_eq_true.1 (inside_ok k (by omega) (by omega)) j (List.mem_range.2 (by omega))
    obtain ⟨r1, r2, r3⟩ := mem3 h
    by_cases c4 : z ≤ -1
    · exact occ_of hw hx hy (rng_ok (by decide) (by decide) z1 c4) r1 w
    · by_cases c5 : 1 ≤ z
      · exact occ_of hw hx hy (rng_ok (by decide) (by decide) c5 z2) r3 w
      · exact occ_of hw hx hy (rng_ok (by decide) (by decide) (by omega) (by omega)) r2 w
  · have h := outside_ok (k := k) (by omega) (by omega)
    unfold outside at h
    simp only [List.all_cons, List.all_nil, Bool.and_eq_true, Bool.and_true] at h
    obtain ⟨⟨r1, r2, r3⟩, q1, q2, q3⟩ := h
    by_cases c4 : y ≤ -1
    · by_cases c5 : z ≤ -1
      · exact occ_of hw hx (rng_ok (by decide) (by decide) y1 c4) (rng_ok (by decide) (by decide) z1 c5) r1 w
      · by_cases c6 : 2 ≤ z
        · exact occ_of hw hx (rng_ok (by decide) (by decide) y1 c4) (rng_ok (by decide) (by decide) c6 z2) r3 w
        · exact occ_of hw hx (rng_ok (by decide) (by decide) y1 c4) (rng_ok (by decide) (by decide) (by omega) (by omega)) r2 w
    · have hyk : VR (fun _ => none) (rg (Int.ofNat k) topI) (.int .i64 y) := rng_ok (by rw [Int.ofNat_eq_natCast]; omega) (by decide) (by rw [Int.ofNat_eq_natCast]; omega) y2
      by_cases c5 : z ≤ -1
      · exact occ_of hw hx hyk (rng_ok (by decide) (by decide) z1 c5) q1 w
      · by_cases c6 : 2 ≤ z
        · exact occ_of hw hx hyk (rng_ok (by decide) (by decide) c6 z2) q3 w
        · exact occ_of hw hx hyk (rng_ok (by decide) (by decide) (by omega) (by omega)) q2 w
end Go.Proofs.YtcaoohbilncoiaaGreatDoor
