/- What is written is read as the amount; the walk of hopperlaw22.MoneyBack. -/
import Derived.Test.YtpbgaoodokapeaaDoorTC
open Go Go.RowKit
namespace Go.Proofs.YtpbgaoodokapeaaDoor
set_option linter.unusedVariables false
set_option linter.unusedSimpArgs false
set_option maxRecDepth 4000
theorem index_mid : ∀ (l m : List UInt8), (∀ b ∈ l, b ≠ 46) → Lib.indexByte (l ++ 46 :: m) 46 = (l.length : Int) := by
  intro l m
  induction l with
  | nil => intro _; rfl
  | cons b l ih =>
    intro h
    have hb : ¬ (b == 46) = true := fun e => h b (List.mem_cons_self ..) (eq_of_beq e)
    rw [List.cons_append]
    unfold Lib.indexByte
    rw [if_neg hb, ih (fun c hc => h c (List.mem_cons_of_mem _ hc)), if_neg (by simp)]
    simp
theorem noDot_mid (l m : List UInt8) (h : ∀ b ∈ l, b ≠ 46) : noDot (l ++ 46 :: m) = l ++ m := by
  have hc : ¬ Lib.countByte (l ++ 46 :: m) 46 = 0 := by
    unfold Lib.countByte
    rw [List.count_append, List.count_cons]; simp
  unfold noDot
  rw [if_neg hc, index_mid l m h]
  simp
theorem dd_step {u : Nat} (h : ¬ u < 10) : Lib.decDigits u = Lib.decDigits (u / 10) ++ [UInt8.ofNat (48 + u % 10)] := by
  rw [Lib.decDigits, dif_neg h]
theorem dig_nat (d : Nat) (h : d < 10) : (UInt8.ofNat (48 + d)).toNat = 48 + d := by
  show (48 + d) % 256 = 48 + d
  omega
theorem dig_val (d : Nat) (h : d < 10) : Lib.digitVal (UInt8.ofNat (48 + d)) = some d := by
  unfold Lib.digitVal
  rw [dig_nat d h, if_pos ⟨by omega, by omega⟩]; congr 1; omega
theorem dd_mem : ∀ (u : Nat), ∀ b ∈ Lib.decDigits u, 48 ≤ b.toNat ∧ b.toNat ≤ 57 := by
  intro u
  induction u using Nat.strongRecOn with
  | _ u ih =>
    intro b hb
    by_cases h : u < 10
    · rw [Lib.decDigits_one h] at hb
      simp only [List.mem_singleton] at hb
      subst hb; rw [dig_nat u h]; omega
    · rw [dd_step h] at hb
      rcases List.mem_append.1 hb with hb | hb
      · exact ih (u / 10) (by omega) b hb
      · simp only [List.mem_singleton] at hb
        subst hb; rw [dig_nat _ (by omega)]; omega
theorem df_append : ∀ (l m : List UInt8) (acc n : Nat), Lib.decFrom acc l = some n → Lib.decFrom acc (l ++ m) = Lib.decFrom n m := by
  intro l m
  induction l with
  | nil => intro acc n h; injection h with h; subst h; rfl
  | cons b l ih =>
    intro acc n h
    rw [List.cons_append]
    simp only [Lib.decFrom] at h ⊢
    cases hd : Lib.digitVal b with
    | none => rw [hd] at h; cases h
    | some d => rw [hd] at h; exact ih _ _ h
theorem df_dd : ∀ (u : Nat), Lib.decFrom 0 (Lib.decDigits u) = some u := by
  intro u
  induction u using Nat.strongRecOn with
  | _ u ih =>
    by_cases h : u < 10
    · rw [Lib.decDigits_one h]
      simp only [Lib.decFrom, dig_val u h]; congr 1; omega
    · rw [dd_step h, df_append _ _ _ _ (ih (u / 10) (by omega))]
      simp only [Lib.decFrom, dig_val (u % 10) (by omega)]; congr 1; omega
theorem nd_le : ∀ (k u : Nat), u < 10 ^ (k + 1) → (Lib.decDigits u).length ≤ k + 1 := by
  intro k
  induction k with
  | zero => intro u h; rw [Lib.decDigits_one (by omega)]; simp
  | succ k ih =>
    intro u h
    by_cases h1 : u < 10
    · rw [Lib.decDigits_one h1]; simp
    · rw [dd_step h1, List.length_append]
      have := ih (u / 10) (by rw [Nat.pow_succ] at h; omega)
      simp; omega
theorem cents (r : Nat) (h : r < 100) : (Lib.decDigits (100 + r)).drop 1 = [UInt8.ofNat (48 + r / 10), UInt8.ofNat (48 + r % 10)] := by
  rw [dd_step (by omega), Lib.decDigits_two (by omega) (by omega)]
  have e1 : (100 + r) / 10 % 10 = r / 10 := by omega
  have e2 : (100 + r) % 10 = r % 10 := by omega
  rw [e1, e2]; rfl
theorem text_back (a : Int) (hA : InM a) : Lib.atoiAll (noDot (textL a)) = .ok a := by
  obtain ⟨a1, a2⟩ := hA
  obtain ⟨x, hx⟩ : ∃ x : Nat, x = a.natAbs := ⟨_, rfl⟩
  have hx1 : x ≤ 1000000000000000 := by omega
  have hD : ∀ b ∈ Lib.decDigits (x / 100), b ≠ 46 ∧ b.toNat ≠ 43 ∧ b.toNat ≠ 45 := by
    intro b hb
    have := dd_mem _ b hb
    refine ⟨fun e => ?_, by omega, by omega⟩
    subst e; exact absurd this.1 (by decide)
  have hl : (Lib.decDigits (x / 100)).length ≤ 14 := nd_le 13 (x / 100) (by omega)
  have hdec : Lib.decFrom 0 (Lib.decDigits (x / 100) ++ [UInt8.ofNat (48 + x % 100 / 10), UInt8.ofNat (48 + x % 100 % 10)]) = some x := by
    rw [df_append _ _ _ _ (df_dd (x / 100))]
    simp only [Lib.decFrom, dig_val (x % 100 / 10) (by omega), dig_val (x % 100 % 10) (by omega)]
    congr 1; omega
  have hnat : Lib.decNat (Lib.decDigits (x / 100) ++ [UInt8.ofNat (48 + x % 100 / 10), UInt8.ofNat (48 + x % 100 % 10)]) = some x := by
    unfold Lib.decNat
    rw [if_neg (by simp), hdec]
  unfold textL
  rw [← hx, cents _ (by omega)]
  by_cases ha : a < 0
  · rw [if_pos ha]; simp only [List.append_assoc]
    rw [show ([45] : List UInt8) ++ (Lib.decDigits (x / 100) ++ ([46] ++ [UInt8.ofNat (48 + x % 100 / 10), UInt8.ofNat (48 + x % 100 % 10)])) = ([45] ++ Lib.decDigits (x / 100)) ++ 46 :: [UInt8.ofNat (48 + x % 100 / 10), UInt8.ofNat (48 + x % 100 % 10)] by simp]
    rw [noDot_mid _ _ (by
      intro b hb
      rcases List.mem_append.1 hb with hb | hb
      · simp only [List.mem_singleton] at hb; subst hb; decide
      · exact (hD b hb).1)]
    rw [Lib.atoiAll_short _ (by simp; omega), List.append_assoc]
    show Lib.NumEnd.ofOption (Lib.atoi (45 :: (Lib.decDigits (x / 100) ++ _))) = _
    simp only [Lib.atoi]
    rw [if_pos (by decide), hnat]
    show Lib.NumEnd.ok (-(x : Int)) = _
    congr 1; omega
  · rw [if_neg ha, List.nil_append, List.append_assoc]
    rw [show Lib.decDigits (x / 100) ++ ([46] ++ [UInt8.ofNat (48 + x % 100 / 10), UInt8.ofNat (48 + x % 100 % 10)]) = Lib.decDigits (x / 100) ++ 46 :: [UInt8.ofNat (48 + x % 100 / 10), UInt8.ofNat (48 + x % 100 % 10)] from rfl]
    rw [noDot_mid _ _ (fun b hb => (hD b hb).1), Lib.atoiAll_short _ (by simp; omega)]
    have hne : ∃ b r, Lib.decDigits (x / 100) = b :: r := by
      have := dd_pos (x / 100)
      cases hdd : Lib.decDigits (x / 100) with
      | nil => rw [hdd] at this; simp at this
      | cons b r => exact ⟨b, r, rfl⟩
    obtain ⟨b, r, hbr⟩ := hne
    have hb := hD b (by rw [hbr]; exact List.mem_cons_self ..)
    rw [hbr] at hnat ⊢
    rw [List.cons_append] at hnat ⊢
    have k1 : ¬ (b == 45) = true := fun e => hb.2.2 (by rw [eq_of_beq e]; rfl)
    have k2 : ¬ (b == 43) = true := fun e => hb.2.1 (by rw [eq_of_beq e]; rfl)
    simp only [Lib.atoi]
    rw [if_neg k1, if_neg k2, hnat]
    show Lib.NumEnd.ok ((x : Int)) = _
    congr 1; omega
theorem parse_text (a : Int) (hA : InM a) : parseR (textL a) = (a, 0) := by
  unfold parseR; rw [text_back a hA]; simp only; rw [if_pos ⟨hA, trivial⟩]
theorem back_walk (a E n2 f2 : Int) (s t1 t2 : ByteArray) (w : World) (hE : E = 0 ∨ (¬ E = 0 ∧ t1 = ⟨#[]⟩)) (h2 : (¬ f2 = 0 ∧ n2 = 0) ∨ (f2 = 0 ∧ t2 = s))
    (KW : ∀ w', w' = w → Calls Tryd.prog 16 #[] w' fun e w2 => e = .returned (.bool true) ∧ Below w'.heap.size w' w2)
    (KT : ∀ w', Below w.heap.size w w' → Calls Tryd.prog 23 #[.int .i64 a] w' fun e w2 => e = .returned (.tuple #[.string t1, .int .i64 E]) ∧ Below w'.heap.size w' w2)
    (KP : E = 0 → ∀ w', Below w.heap.size w w' → Calls Tryd.prog 25 #[.string t1] w' fun e w2 => e = .returned (.tuple #[.int .i64 a, .int .i64 0]) ∧ Below w'.heap.size w' w2)
    (KS : ∀ w', Below w.heap.size w w' → Calls Tryd.prog 25 #[.string s] w' fun e w2 => e = .returned (.tuple #[.int .i64 n2, .int .i64 f2]) ∧ Below w'.heap.size w' w2)
    (KU : f2 = 0 → ∀ w', Below w.heap.size w w' → Calls Tryd.prog 23 #[.int .i64 n2] w' fun e w2 => e = .returned (.tuple #[.string t2, .int .i64 0]) ∧ Below w'.heap.size w' w2) :
    Calls Tryd.prog 9 #[.int .i64 a, .string s] w fun e w' => e = .returned (.bool true) ∧ Below w.heap.size w w' := by
  have hss : (s.toList == s.toList) = true := beq_self_eq_true _
  rcases hE with hE | ⟨hE, rfl⟩
  · have KP' := KP hE
    subst hE
    clear KP
    rcases h2 with ⟨hf, rfl⟩ | ⟨hf, rfl⟩
    · clear KU
      go_enter Tryd.func9, Tryd.ntmps9
      go_wp2_with (first
        | (go_at_call 16; with_reducible refine (KW _ rfl).mono ?_; rintro e w1 ⟨rfl, hb1⟩)
        | (go_at_call 23; with_reducible refine (KT _ hb1).mono ?_; rintro e w2 ⟨rfl, hb2⟩; have hb12 := Below.thenB hb1 hb2)
        | (go_at_call 25; with_reducible refine (KP' _ hb12).mono ?_; rintro e w3 ⟨rfl, hb3⟩; have hb13 := Below.thenB hb12 hb3)
        | (go_at_call 25; with_reducible refine (KS _ hb13).mono ?_; rintro e w4 ⟨rfl, hb4⟩; have hb14 := Below.thenB hb13 hb4))
      all_goals go_ret
      all_goals exact ⟨rfl, hb14⟩
    · have KU' := KU hf
      subst hf
      clear KU
      go_enter Tryd.func9, Tryd.ntmps9
      go_wp2_with (first
        | (go_at_call 16; with_reducible refine (KW _ rfl).mono ?_; rintro e w1 ⟨rfl, hb1⟩)
        | (go_at_call 23; with_reducible refine (KT _ hb1).mono ?_; rintro e w2 ⟨rfl, hb2⟩; have hb12 := Below.thenB hb1 hb2)
        | (go_at_call 25; with_reducible refine (KP' _ hb12).mono ?_; rintro e w3 ⟨rfl, hb3⟩; have hb13 := Below.thenB hb12 hb3)
        | (go_at_call 25; with_reducible refine (KS _ hb13).mono ?_; rintro e w4 ⟨rfl, hb4⟩; have hb14 := Below.thenB hb13 hb4)
        | (go_at_call 23; with_reducible refine (KU' _ hb14).mono ?_; rintro e w5 ⟨rfl, hb5⟩; have hb15 := Below.thenB hb14 hb5))
      all_goals go_ret
      all_goals exact ⟨rfl, hb15⟩
  · clear KP
    rcases h2 with ⟨hf, rfl⟩ | ⟨hf, rfl⟩
    · clear KU
      go_enter Tryd.func9, Tryd.ntmps9
      go_wp2_with (first
        | (go_at_call 16; with_reducible refine (KW _ rfl).mono ?_; rintro e w1 ⟨rfl, hb1⟩)
        | (go_at_call 23; with_reducible refine (KT _ hb1).mono ?_; rintro e w2 ⟨rfl, hb2⟩; have hb12 := Below.thenB hb1 hb2)
        | (go_at_call 25; with_reducible refine (KS _ hb12).mono ?_; rintro e w4 ⟨rfl, hb4⟩; have hb14 := Below.thenB hb12 hb4))
      all_goals go_ret
      all_goals exact ⟨rfl, hb14⟩
    · have KU' := KU hf
      subst hf
      clear KU
      go_enter Tryd.func9, Tryd.ntmps9
      go_wp2_with (first
        | (go_at_call 16; with_reducible refine (KW _ rfl).mono ?_; rintro e w1 ⟨rfl, hb1⟩)
        | (go_at_call 23; with_reducible refine (KT _ hb1).mono ?_; rintro e w2 ⟨rfl, hb2⟩; have hb12 := Below.thenB hb1 hb2)
        | (go_at_call 25; with_reducible refine (KS _ hb12).mono ?_; rintro e w4 ⟨rfl, hb4⟩; have hb14 := Below.thenB hb12 hb4)
        | (go_at_call 23; with_reducible refine (KU' _ hb14).mono ?_; rintro e w5 ⟨rfl, hb5⟩; have hb15 := Below.thenB hb14 hb5))
      all_goals go_ret
      all_goals exact ⟨rfl, hb15⟩
end Go.Proofs.YtpbgaoodokapeaaDoor
