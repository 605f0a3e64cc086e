/- The document's Parse is the program's; the walk of hopperlaw22.MoneyTexts. -/
import Derived.Test.YtpbgaoodokapeaaDoorTI
open Go Go.RowKit
namespace Go.Proofs.YtpbgaoodokapeaaDoor
set_option linter.unusedVariables false
set_option linter.unusedSimpArgs false
set_option maxRecDepth 4000
theorem df_ge : ∀ (l : List UInt8) (acc n : Nat), Lib.decFrom acc l = some n → acc ≤ n := by
  intro l
  induction l with
  | nil => intro acc n h; injection h with h; omega
  | cons b l ih =>
    intro acc n h
    simp only [Lib.decFrom] at h
    cases hd : Lib.digitVal b with
    | none => rw [hd] at h; cases h
    | some d => rw [hd] at h; have := ih _ _ h; omega
theorem fold_dec : ∀ (l : List UInt8) (acc n : Nat), Lib.decFrom acc l = some n → n ≤ 1000000000000000 → l.foldl stepN acc = n := by
  intro l
  induction l with
  | nil => intro acc n h _; injection h
  | cons b l ih =>
    intro acc n h hn
    simp only [Lib.decFrom] at h
    cases hd : Lib.digitVal b with
    | none => rw [hd] at h; cases h
    | some d =>
      rw [hd] at h
      have hge := df_ge _ _ _ h
      unfold Lib.digitVal at hd
      by_cases hb : 48 ≤ b.toNat ∧ b.toNat ≤ 57
      · rw [if_pos hb] at hd
        injection hd with hd
        have hs : stepN acc b = acc * 10 + d := by
          unfold stepN; rw [if_pos hb]; omega
        rw [List.foldl_cons, hs]
        exact ih _ _ h hn
      · rw [if_neg hb] at hd; cases hd
theorem sign_text (v : Int) (hM : InM v) : signN (textL v) = v := by
  obtain ⟨a1, a2⟩ := hM
  obtain ⟨x, hx⟩ : ∃ x : Nat, x = v.natAbs := ⟨_, rfl⟩
  have hx1 : x ≤ 1000000000000000 := by omega
  have hmid : (([46] : List UInt8) ++ (Lib.decDigits (100 + x % 100)).drop 1).foldl stepN (x / 100) = x := by
    rw [cents _ (by omega)]
    show [UInt8.ofNat (48 + x % 100 / 10), UInt8.ofNat (48 + x % 100 % 10)].foldl stepN (stepN (x / 100) 46) = x
    rw [show stepN (x / 100) 46 = x / 100 by unfold stepN; rw [if_neg (by decide)]]
    refine fold_dec _ _ _ ?_ hx1
    simp only [Lib.decFrom, dig_val (x % 100 / 10) (by omega), dig_val (x % 100 % 10) (by omega)]
    congr 1; omega
  have hD : (Lib.decDigits (x / 100)).foldl stepN 0 = x / 100 := fold_dec _ _ _ (df_dd (x / 100)) (by omega)
  have htail : (Lib.decDigits (x / 100) ++ [46] ++ (Lib.decDigits (100 + x % 100)).drop 1).foldl stepN 0 = x := by
    rw [List.append_assoc, List.foldl_append, hD]; exact hmid
  unfold signN scanN textL
  rw [← hx]
  by_cases hv : v < 0
  · rw [if_pos hv]
    rw [show (([45] : List UInt8) ++ Lib.decDigits (x / 100) ++ [46] ++ (Lib.decDigits (100 + x % 100)).drop 1) = 45 :: (Lib.decDigits (x / 100) ++ [46] ++ (Lib.decDigits (100 + x % 100)).drop 1) by simp]
    rw [if_pos (show (45 :: (Lib.decDigits (x / 100) ++ [46] ++ (Lib.decDigits (100 + x % 100)).drop 1)).head? = some 45 from rfl), List.foldl_cons, show stepN 0 45 = 0 by unfold stepN; rw [if_neg (by decide)], htail]
    omega
  · rw [if_neg hv, List.nil_append, htail]
    have hne : ∃ b r, Lib.decDigits (x / 100) = b :: r := by
      have := dd_pos (x / 100)
      cases hdd : Lib.decDigits (x / 100) with
      | nil => rw [hdd] at this; simp at this
      | cons b r => exact ⟨b, r, rfl⟩
    obtain ⟨b, r, hbr⟩ := hne
    have hb := dd_mem (x / 100) b (by rw [hbr]; exact List.mem_cons_self ..)
    rw [hbr]
    rw [if_neg]
    · omega
    · intro h
      have h2 : b = 45 := by simpa using h
      subst h2; exact absurd hb.1 (by decide)
theorem rparse_any (s : ByteArray) (hs : s.size ≤ 140737488355328) (w : World) :
    Calls Tryd.prog 26 #[.string s] w fun e w' => e = .returned (.tuple #[.int .i64 (parseR s.data.toList).1, .int .i64 (parseR s.data.toList).2]) ∧ Below w.heap.size w w' := by
  refine rparse_walk s (textS (signN s.data.toList)) (signN s.data.toList) (textE (signN s.data.toList)) _ _ w hs rfl ?_ ?_ (fun w' => rtext_any _ w')
  · intro hE hb
    have hM : InM (signN s.data.toList) := by
      by_cases h : InM (signN s.data.toList)
      · exact h
      · unfold textE at hE; rw [if_neg h] at hE; cases hE
    have h1 := (Lib.bytes_beq_iff _ _).1 hb
    have h2 : textL (signN s.data.toList) = s.data.toList := by
      have h3 : textS (signN s.data.toList) = ⟨(textL (signN s.data.toList)).toArray⟩ := if_pos hM
      rw [h3] at h1
      have := congrArg (fun b : ByteArray => b.data.toList) h1
      simpa using this
    have h4 := parse_text _ hM
    rw [h2] at h4
    rw [h4]; exact ⟨rfl, rfl⟩
  · intro hbad
    have hno : ∀ v, ¬ (InM v ∧ textL v = s.data.toList) := by
      rintro v ⟨hM, hv⟩
      have hsg : signN s.data.toList = v := by rw [← hv]; exact sign_text v hM
      rw [hsg] at hbad
      rcases hbad with h | h
      · exact h (if_pos hM)
      · refine (Lib.bytes_beq_false_iff _ _).1 h ?_
        unfold textS; rw [if_pos hM, hv]
    have : parseR s.data.toList = (0, 3) := by
      unfold parseR
      split
      · rw [if_neg (hno _)]
      · rfl
    rw [this]; exact ⟨rfl, rfl⟩
theorem texts_walk (a E n g : Int) (s t : ByteArray) (w : World)
    (KT : ∀ w', w' = w → Calls Tryd.prog 23 #[.int .i64 a] w' fun e w2 => e = .returned (.tuple #[.string t, .int .i64 E]) ∧ Below w'.heap.size w' w2)
    (KU : ∀ w', Calls Tryd.prog 24 #[.int .i64 a] w' fun e w2 => e = .returned (.tuple #[.string t, .int .i64 E]) ∧ Below w'.heap.size w' w2)
    (KP : ∀ w', Below w.heap.size w w' → Calls Tryd.prog 25 #[.string s] w' fun e w2 => e = .returned (.tuple #[.int .i64 n, .int .i64 g]) ∧ Below w'.heap.size w' w2)
    (KQ : ∀ w', Calls Tryd.prog 26 #[.string s] w' fun e w2 => e = .returned (.tuple #[.int .i64 n, .int .i64 g]) ∧ Below w'.heap.size w' w2)
    (KW : ∀ w', Below w.heap.size w w' → Calls Tryd.prog 16 #[] w' fun e w2 => e = .returned (.bool true) ∧ Below w'.heap.size w' w2) :
    Calls Tryd.prog 8 #[.int .i64 a, .string s] w fun e w' => e = .returned (.bool true) ∧ Below w.heap.size w w' := by
  have htt : (t.toList == t.toList) = true := beq_self_eq_true _
  go_enter Tryd.func8, Tryd.ntmps8
  go_wp2_with (first
    | (go_at_call 23; with_reducible refine (KT _ rfl).mono ?_; rintro e w1 ⟨rfl, hb1⟩)
    | (go_at_call 24; with_reducible refine (KU _).mono ?_; rintro e w2 ⟨rfl, hb2⟩; have hb12 := Below.thenB hb1 hb2)
    | (go_at_call 25; with_reducible refine (KP _ hb12).mono ?_; rintro e w3 ⟨rfl, hb3⟩; have hb13 := Below.thenB hb12 hb3)
    | (go_at_call 26; with_reducible refine (KQ _).mono ?_; rintro e w4 ⟨rfl, hb4⟩; have hb14 := Below.thenB hb13 hb4)
    | (go_at_call 16; with_reducible refine (KW _ hb14).mono ?_; rintro e w5 ⟨rfl, hb5⟩))
  all_goals go_ret
  all_goals exact ⟨rfl, Below.thenB hb14 hb5⟩
end Go.Proofs.YtpbgaoodokapeaaDoor
