/- The document's Parse. -/
import Derived.Test.YtpbgaoodokapeaaDoorTH
open Go Go.RowKit
namespace Go.Proofs.YtpbgaoodokapeaaDoor
set_option linter.unusedVariables false
set_option linter.unusedSimpArgs false
set_option maxRecDepth 4000
def stepN (acc : Nat) (b : UInt8) : Nat := if 48 ≤ b.toNat ∧ b.toNat ≤ 57 then min (acc * 10 + (b.toNat - 48)) 1000000000000001 else acc
def scanN (l : List UInt8) : Nat := l.foldl stepN 0
def signN (l : List UInt8) : Int := if l.head? = some 45 then -(scanN l : Int) else scanN l
theorem stepN_le (acc : Nat) (b : UInt8) (h : acc ≤ 1000000000000001) : stepN acc b ≤ 1000000000000001 := by
  unfold stepN; split
  · exact Nat.min_le_right _ _
  · exact h
theorem scanN_succ {l : List UInt8} {k : Nat} (h : k < l.length) : scanN (l.take (k + 1)) = stepN (scanN (l.take k)) l[k] := by
  unfold scanN; rw [List.take_succ_eq_append_getElem h, List.foldl_append]; rfl
theorem scanN_le : ∀ (l : List UInt8), scanN l ≤ 1000000000000001 := by
  intro l
  unfold scanN
  have : ∀ (l : List UInt8) (acc : Nat), acc ≤ 1000000000000001 → l.foldl stepN acc ≤ 1000000000000001 := by
    intro l
    induction l with
    | nil => intro acc h; exact h
    | cons b l ih => intro acc h; exact ih _ (stepN_le acc b h)
  exact this l 0 (by decide)
set_option maxHeartbeats 2000000 in
theorem rparse_walk (s tt : ByteArray) (M E V F : Int) (w : World) (hs : s.size ≤ 140737488355328) (hM : signN s.data.toList = M)
    (h1 : E = 0 → (tt.toList == s.toList) = true → V = M ∧ F = 0) (h2 : ¬ E = 0 ∨ (tt.toList == s.toList) = false → V = 0 ∧ F = 3)
    (KT : ∀ w', Calls Tryd.prog 24 #[.int .i64 M] w' fun e w2 => e = .returned (.tuple #[.string tt, .int .i64 E]) ∧ Below w'.heap.size w' w2) :
    Calls Tryd.prog 26 #[.string s] w fun e w' => e = .returned (.tuple #[.int .i64 V, .int .i64 F]) ∧ Below w.heap.size w w' := by
  have hsl : s.data.toList.length = s.size := by simp
  go_enter Tryd.func26, Tryd.ntmps26
  go_wp2
  go_loop [4, 5] (fun n i => ∃ k : Nat, k ≤ s.size ∧ i = .int .i64 k ∧ n = .int .i64 (scanN (s.data.toList.take k))) (fun n i => s.size - (intOf i).toNat)
  case atStart => exact ⟨0, Nat.zero_le _, rfl, rfl⟩
  case round =>
    obtain ⟨k, hk, rfl, rfl⟩ := hrel
    by_cases hlt : k < s.size
    · have hsn := scanN_succ (l := s.data.toList) (k := k) (by omega)
      have hle := scanN_le (s.data.toList.take k)
      have hbk : s.data.toList[k]'(by omega) = s[k] := by simp; rfl
      rw [hbk] at hsn
      clear h1 h2 hM
      go_wp2
      all_goals refine ⟨⟨k + 1, hlt, by go_num, ?_⟩, by simp [intOf]; omega⟩
      all_goals rw [hsn]
      all_goals unfold stepN
      all_goals (split <;> (first | (congr 1; done) | (congr 1; omega)))
    · have hk' : k = s.size := by omega
      subst hk'
      have htk : s.data.toList.take s.size = s.data.toList := List.take_of_length_le (by omega)
      rw [htk]
      have hle := scanN_le s.data.toList
      obtain ⟨N, hN⟩ : ∃ N : Int, N = (scanN s.data.toList : Int) := ⟨_, rfl⟩
      have hN0 : 0 ≤ N ∧ N ≤ 1000000000000001 := by omega
      have hsg : signN s.data.toList = if s.data.toList.head? = some 45 then -N else N := by unfold signN; rw [← hN]
      rw [← hN]
      have wN : wrap64 (-N) = -N := wrap_ok _ (by omega) (by omega)
      by_cases h0 : 0 < s.size
      · have hhd : s.data.toList.head? = some s[0] := by
          rw [List.head?_eq_getElem?, List.getElem?_eq_getElem (by omega)]
          congr 1
        by_cases h45 : (s[0].toNat : Int) = 45
        · have h46 : s[0] = 45 := by
            apply UInt8.toNat_inj.1; show s[0].toNat = 45; omega
          have hMM : wrap64 (-N) = M := by rw [wN, ← hM, hsg, hhd, h46]; rfl
          clear hM hsg hhd hN hle htk hN0 wN h46
          by_cases hE : E = 0
          · subst hE
            cases hb : tt.toList == s.toList
            · obtain ⟨rfl, rfl⟩ := h2 (.inr hb)
              clear h1 h2
              go_wp2_with (go_at_call 24; with_reducible refine (KT _).mono ?_; rintro e w2 ⟨rfl, hb2⟩)
              all_goals go_ret2
              all_goals exact ⟨rfl, hb2⟩
            · obtain ⟨hV, rfl⟩ := h1 rfl hb
              clear h1 h2
              go_wp2_with (go_at_call 24; with_reducible refine (KT _).mono ?_; rintro e w2 ⟨rfl, hb2⟩)
              all_goals go_ret2
              all_goals exact ⟨by first | (rw [hV]; rfl) | (rw [hV, ← hMM]; rfl), hb2⟩
          · obtain ⟨rfl, rfl⟩ := h2 (.inl hE)
            clear h1 h2
            go_wp2_with (go_at_call 24; with_reducible refine (KT _).mono ?_; rintro e w2 ⟨rfl, hb2⟩)
            all_goals go_ret2
            all_goals exact ⟨rfl, hb2⟩
        · have h46 : ¬ s[0] = 45 := fun h => h45 (by rw [h]; rfl)
          have hMM : N = M := by rw [← hM, hsg, hhd, if_neg (by simpa using h46)]
          clear hM hsg hhd hN hle htk hN0 wN h46
          rw [hMM]
          by_cases hE : E = 0
          · subst hE
            cases hb : tt.toList == s.toList
            · obtain ⟨rfl, rfl⟩ := h2 (.inr hb)
              clear h1 h2
              go_wp2_with (go_at_call 24; with_reducible refine (KT _).mono ?_; rintro e w2 ⟨rfl, hb2⟩)
              all_goals go_ret2
              all_goals exact ⟨rfl, hb2⟩
            · obtain ⟨hV, rfl⟩ := h1 rfl hb
              clear h1 h2
              go_wp2_with (go_at_call 24; with_reducible refine (KT _).mono ?_; rintro e w2 ⟨rfl, hb2⟩)
              all_goals go_ret2
              all_goals exact ⟨by first | (rw [hV]; rfl) | (rw [hV, ← hMM]; rfl), hb2⟩
          · obtain ⟨rfl, rfl⟩ := h2 (.inl hE)
            clear h1 h2
            go_wp2_with (go_at_call 24; with_reducible refine (KT _).mono ?_; rintro e w2 ⟨rfl, hb2⟩)
            all_goals go_ret2
            all_goals exact ⟨rfl, hb2⟩
      · have hnil : s.data.toList = [] := List.length_eq_zero_iff.1 (by omega)
        have hMM : N = M := by rw [← hM, hsg, hnil]; rfl
        clear hM hsg hN hle htk hN0 wN hnil
        rw [hMM]
        by_cases hE : E = 0
        · subst hE
          cases hb : tt.toList == s.toList
          · obtain ⟨rfl, rfl⟩ := h2 (.inr hb)
            clear h1 h2
            go_wp2_with (go_at_call 24; with_reducible refine (KT _).mono ?_; rintro e w2 ⟨rfl, hb2⟩)
            all_goals go_ret2
            all_goals exact ⟨rfl, hb2⟩
          · obtain ⟨hV, rfl⟩ := h1 rfl hb
            clear h1 h2
            go_wp2_with (go_at_call 24; with_reducible refine (KT _).mono ?_; rintro e w2 ⟨rfl, hb2⟩)
            all_goals go_ret2
            all_goals exact ⟨by first | (rw [hV]; rfl) | (rw [hV, ← hMM]; rfl), hb2⟩
        · obtain ⟨rfl, rfl⟩ := h2 (.inl hE)
          clear h1 h2
          go_wp2_with (go_at_call 24; with_reducible refine (KT _).mono ?_; rintro e w2 ⟨rfl, hb2⟩)
          all_goals go_ret2
          all_goals exact ⟨rfl, hb2⟩
end Go.Proofs.YtpbgaoodokapeaaDoor
