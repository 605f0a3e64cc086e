/- What money.Share returns, for every number and every weights. -/
import Derived.Test.YtpbgaoodokapeaaDoorSD
open Go Go.RowKit
namespace Go.Proofs.YtpbgaoodokapeaaDoor
set_option linter.unusedVariables false
set_option linter.unusedSimpArgs false
set_option maxRecDepth 4000
def shOk (zs : List Int) : Prop := 1 ≤ zs.length ∧ zs.length ≤ 1000 ∧ (∀ z ∈ zs, InR z) ∧ ¬ sumI zs = 0
instance (zs : List Int) : Decidable (shOk zs) := by unfold shOk; infer_instance
def shE (a : Int) (zs : List Int) : Int := if InM a then (if shOk zs then 0 else 1) else 220
def sgn (a : Int) : Int := if a < 0 then -1 else 1
def mag (a : Int) : Int := if a < 0 then -a else a
def shL (a : Int) (zs : List Int) : List Int := give (mag a) (sumI zs) (sgn a) (mag a - sumQ (mag a) (sumI zs) zs) zs
theorem share_any {zs : List Int} {v : Value} {w : World} (a : Int) (h : Sl zs v w) :
    Calls Tryd.prog 11 #[.int .i64 a, v] w fun e w' => ∃ rv, e = .returned (.tuple #[rv, .int .i64 (shE a zs)]) ∧ Below w.heap.size w w' ∧
      (¬ shE a zs = 0 → rv = .slice none 0 0) ∧ (shE a zs = 0 → InM a ∧ shOk zs ∧ rv = .slice (some ⟨w.heap.size, 0, none⟩) zs.length zs.length ∧ Row (shL a zs) zs.length w.heap.size w') := by
  by_cases hA : InM a
  · have K27 := is_eq a true (decide_eq_true hA) w
    by_cases hO : shOk zs
    · have e0 : shE a zs = 0 := by unfold shE; rw [if_pos hA, if_pos hO]
      have hO' := hO
      obtain ⟨n1, n2, hR, hS⟩ := hO'
      rcases h with ⟨b, off, cap, rfl, hc⟩ | ⟨rfl, _⟩
      · have KA := all_rate b off cap zs w (by omega) hc
        have hz : zs.all (fun z => decide (InR z)) = true := List.all_eq_true.2 fun z hz => decide_eq_true (hR z hz)
        rw [hz] at KA
        obtain ⟨a1, a2⟩ := hA
        by_cases ha : a < 0
        · have hsg : sgn a = -1 := if_pos ha
          have hmg : mag a = -a := if_pos ha
          refine (share_gon a b off cap zs w hc (by omega) (by omega) hR K27 KA (sumI zs) (-a) ha (wrap_ok _ (by omega) (by omega)) rfl hS (by omega) (by omega)).mono ?_
          rintro e w' ⟨rfl, hb, hrow⟩
          rw [e0]
          exact ⟨_, rfl, hb, fun h => absurd rfl h, fun _ => ⟨⟨a1, a2⟩, hO, rfl, by unfold shL; rw [hsg, hmg]; exact hrow⟩⟩
        · have hsg : sgn a = 1 := if_neg ha
          have hmg : mag a = a := if_neg ha
          refine (share_gop a b off cap zs w hc (by omega) (by omega) hR K27 KA (sumI zs) 0 ha rfl hS (by omega) (by omega)).mono ?_
          rintro e w' ⟨rfl, hb, hrow⟩
          rw [e0]
          exact ⟨_, rfl, hb, fun h => absurd rfl h, fun _ => ⟨⟨a1, a2⟩, hO, rfl, by unfold shL; rw [hsg, hmg]; exact hrow⟩⟩
      · simp at n1
    · have e0 : shE a zs = 1 := by unfold shE; rw [if_pos hA, if_neg hO]
      rw [e0]
      have done : ∀ (e : Ending) (w' : World), (e = .returned (.tuple #[.slice none 0 0, .int .i64 1]) ∧ w' = w) → ∃ rv : Value, e = .returned (.tuple #[rv, .int .i64 1]) ∧ Below w.heap.size w w' ∧
          (¬ (1 : Int) = 0 → rv = .slice none 0 0) ∧ ((1 : Int) = 0 → InM a ∧ shOk zs ∧ rv = .slice (some ⟨w.heap.size, 0, none⟩) zs.length zs.length ∧ Row (shL a zs) zs.length w.heap.size w') := by
        rintro e w' ⟨rfl, rfl⟩
        exact ⟨_, rfl, Below.refl _ _, fun _ => rfl, fun h => by cases h⟩
      by_cases hn : (zs.length : Int) < 1 ∨ (¬ (zs.length : Int) < 1 ∧ (1000 : Int) < zs.length)
      · rcases h with ⟨b, off, cap, rfl, hc⟩ | ⟨rfl, p, c, rfl, _⟩
        · exact (share_bad2 a _ _ _ w hn K27).mono done
        · exact (share_bad2 a p 0 c w (.inl (by decide)) K27).mono done
      · rcases h with ⟨b, off, cap, rfl, hc⟩ | ⟨rfl, _⟩
        · have h1 : ¬ (zs.length : Int) < 1 := fun h => hn (.inl h)
          have h2 : ¬ (1000 : Int) < zs.length := fun h => hn (.inr ⟨h1, h⟩)
          have KA := all_rate b off cap zs w (by omega) hc
          by_cases hz : zs.all (fun z => decide (InR z)) = true
          · rw [hz] at KA
            have hR : ∀ z ∈ zs, InR z := fun z hz' => of_decide_eq_true (List.all_eq_true.1 hz z hz')
            have hS : sumI zs = 0 := Decidable.byContradiction fun hS => hO ⟨by omega, by omega, hR, hS⟩
            exact (share_bad4 a b off cap zs w hc h1 h2 hR K27 KA hS).mono done
          · rw [Bool.eq_false_iff.2 hz] at KA
            exact (share_bad3 a _ _ _ w h1 h2 K27 KA).mono done
        · simp at hn
  · have e0 : shE a zs = 220 := by unfold shE; rw [if_neg hA]
    rw [e0]
    refine (share_bad1 a v w (is_eq a false (decide_eq_false hA) w)).mono ?_
    rintro e w' ⟨rfl, rfl⟩
    exact ⟨_, rfl, Below.refl _ _, fun _ => rfl, fun h => by cases h⟩
theorem give_sum (x S st : Int) : ∀ (l : List Int) (L : Int), 0 ≤ L → L ≤ posc l → sumI (give x S st L l) = (sumQ x S l + L) * st := by
  intro l
  induction l with
  | nil => intro L h0 h1; simp only [posc] at h1; have : L = 0 := by omega
           subst this; simp [give, sumI, sumQ]
  | cons w l ih =>
    intro L h0 h1
    simp only [posc] at h1
    unfold give
    by_cases hw : 0 < w ∧ 0 < L
    · rw [if_pos hw]
      rw [if_pos hw.1] at h1
      simp only [sumI, sumQ]
      rw [ih (L - 1) (by omega) (by omega)]
      have : (qv x S w + sumQ x S l + L) * st = qv x S w * st + (sumQ x S l + (L - 1)) * st + st := by
        rw [show qv x S w + sumQ x S l + L = qv x S w + (sumQ x S l + (L - 1)) + 1 by omega, Int.add_mul, Int.add_mul, Int.one_mul]
      omega
    · rw [if_neg hw]
      have hL : L ≤ posc l := by
        by_cases hp : 0 < w
        · have : L = 0 := by
            rcases Int.lt_or_le 0 L with h | h
            · exact absurd ⟨hp, h⟩ hw
            · omega
          have := posc_nonneg l; omega
        · rw [if_neg hp] at h1; omega
      simp only [sumI, sumQ]
      rw [ih L h0 hL, show qv x S w + sumQ x S l + L = qv x S w + (sumQ x S l + L) by omega, Int.add_mul (qv x S w)]
theorem give_get (x S st : Int) : ∀ (l : List Int) (L : Int) (i : Nat) (h : i < l.length), ∃ e, (give x S st L l)[i]? = some (e * st) ∧ qv x S l[i] ≤ e ∧ e ≤ qv x S l[i] + 1 ∧ (l[i] ≤ 0 → e = qv x S l[i]) := by
  intro l
  induction l with
  | nil => intro L i h; simp at h
  | cons w l ih =>
    intro L i h
    unfold give
    cases i with
    | zero =>
      by_cases hw : 0 < w ∧ 0 < L
      · rw [if_pos hw]
        exact ⟨qv x S w + 1, by simp [Int.add_mul], by simp; omega, by simp, fun h => by simp at h; omega⟩
      · rw [if_neg hw]
        exact ⟨qv x S w, by simp, by simp, by simp; omega, fun _ => rfl⟩
    | succ i =>
      have hi : i < l.length := by simpa using h
      by_cases hw : 0 < w ∧ 0 < L
      · rw [if_pos hw]; simpa using ih (L - 1) i hi
      · rw [if_neg hw]; simpa using ih L i hi
/-- What is true of shares. -/
theorem shL_get {a : Int} {zs : List Int} (hA : InM a) (hO : shOk zs) {i : Nat} (hi : i < zs.length) : ∃ e, (shL a zs)[i]? = some (e * sgn a) ∧ qv (mag a) (sumI zs) zs[i] ≤ e ∧ e ≤ qv (mag a) (sumI zs) zs[i] + 1 ∧ (zs[i] = 0 → e = 0) ∧ 0 ≤ e := by
  obtain ⟨n1, n2, hR, hS⟩ := hO
  have hmem := sumI_mem zs (fun z hz => (hR z hz).1)
  have hSp : 0 < sumI zs := by have := hmem.1; omega
  have hm : 0 ≤ mag a ∧ mag a ≤ 1000000000000000 := by unfold mag; obtain ⟨a1, a2⟩ := hA; split <;> omega
  obtain ⟨e, h1, h2, h3, h4⟩ := give_get (mag a) (sumI zs) (sgn a) zs (mag a - sumQ (mag a) (sumI zs) zs) i hi
  have hq := qv_bound (mag a) (sumI zs) zs[i] hm.1 hm.2 hSp (hR _ (List.getElem_mem hi)).1 (hmem.2 _ (List.getElem_mem hi))
  refine ⟨e, h1, h2, h3, fun h0 => ?_, by omega⟩
  rw [h4 (by omega), h0]; simp [qv]
theorem shL_length (a : Int) (zs : List Int) : (shL a zs).length = zs.length := give_length _ _ _ _ _
theorem shL_sum {a : Int} {zs : List Int} (hO : shOk zs) : sumI (shL a zs) = a := by
  obtain ⟨n1, n2, hR, hS⟩ := hO
  have hmem := sumI_mem zs (fun z hz => (hR z hz).1)
  have hSp : 0 < sumI zs := by have := hmem.1; omega
  have hl := left_ok (mag a) (sumI zs) zs hSp rfl (fun z hz => (hR z hz).1)
  unfold shL
  rw [give_sum _ _ _ _ _ hl.1 hl.2, show sumQ (mag a) (sumI zs) zs + (mag a - sumQ (mag a) (sumI zs) zs) = mag a by omega]
  unfold mag sgn
  split <;> omega
theorem sum_part : ∀ (l : List Int), (∀ z ∈ l, 0 ≤ z) → ∀ z ∈ l, z ≤ sumI l := fun l h => (sumI_mem l h).2
theorem shL_in {a : Int} {zs : List Int} (hA : InM a) (hO : shOk zs) : ∀ z ∈ shL a zs, InM z := by
  intro z hz
  have hsum := shL_sum (a := a) hO
  have hall : ∀ y ∈ shL a zs, 0 ≤ y * sgn a := by
    intro y hy
    obtain ⟨i, hi, rfl⟩ := List.getElem_of_mem hy
    rw [shL_length] at hi
    obtain ⟨e, h1, h2, h3, h4, h5⟩ := shL_get hA hO hi
    rw [List.getElem?_eq_getElem (by rw [shL_length]; exact hi)] at h1
    rw [Option.some.inj h1]
    unfold sgn; split <;> omega
  have hmap : ∀ l : List Int, sumI (l.map (· * sgn a)) = sumI l * sgn a := by
    intro l
    induction l with
    | nil => simp [sumI]
    | cons y l ih => simp only [List.map_cons, sumI, ih, Int.add_mul]
  have h1 := (sumI_mem ((shL a zs).map (· * sgn a)) (by
    intro y hy
    obtain ⟨u, hu, rfl⟩ := List.mem_map.1 hy
    exact hall u hu)).2 (z * sgn a) (List.mem_map.2 ⟨z, hz, rfl⟩)
  rw [hmap, hsum] at h1
  have h2 := hall z hz
  obtain ⟨a1, a2⟩ := hA
  unfold sgn at h1 h2
  unfold InM
  split at h1 <;> (rename_i hs; first | (rw [if_pos hs] at h2; omega) | (rw [if_neg hs] at h2; omega))
theorem shL_sumV {a : Int} {zs : List Int} (hA : InM a) (hO : shOk zs) : sumV (shL a zs) = a ∧ sumE (shL a zs) = 0 := by
  have hall : (shL a zs).all (fun z => decide (InM z)) = true := List.all_eq_true.2 fun z hz => decide_eq_true (shL_in hA hO z hz)
  have hs := shL_sum (a := a) hO
  unfold sumV sumE
  rw [if_pos hall, hs, if_pos hA, if_pos ⟨hall, hA⟩]
  exact ⟨rfl, rfl⟩
end Go.Proofs.YtpbgaoodokapeaaDoor
