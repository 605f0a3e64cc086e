/- The document's digits, Text and Parse. -/
import Derived.Test.YtpbgaoodokapeaaDoorTD
import Derived.LoopTactic
open Go Go.RowKit
namespace Go.Proofs.YtpbgaoodokapeaaDoor
set_option linter.unusedVariables false
set_option linter.unusedSimpArgs false
set_option maxRecDepth 4000
theorem empty_toList : (⟨#[]⟩ : ByteArray).toList = [] := by
  unfold ByteArray.toList ByteArray.toList.loop; rfl
theorem isEmpty_no {T : ByteArray} (h : T ≠ ⟨#[]⟩) : T.toList.isEmpty = false := by
  cases he : T.toList.isEmpty
  · rfl
  · exact absurd ((Lib.bytes_beq_iff T ⟨#[]⟩).1 (by rw [empty_toList, List.isEmpty_iff.1 he]; rfl)) h
def HidP (p : Prop) : Prop := p
def DInv (n : Nat) (N : Nat) (S : List UInt8) : Prop := S.length ≤ 21 ∧ ((S = [] ∧ N = n) ∨ (S ≠ [] ∧ 0 < N ∧ Lib.decDigits n = Lib.decDigits N ++ S) ∨ (S ≠ [] ∧ N = 0 ∧ Lib.decDigits n = S))
def muD (nv sv : Value) : Nat := 2 * (intOf nv).toNat + (match sv with | .string s => if s.size = 0 then 1 else 0 | _ => 0)
theorem DInv.step {n N : Nat} {S : List UInt8} (hn : n ≤ 9223372036854775807) (h : DInv n N S) (hgo : 0 < N ∨ S = []) : DInv n (N / 10) (UInt8.ofNat (48 + N % 10) :: S) := by
  obtain ⟨_, h⟩ := h
  have hlen := dd_len n hn
  have key : (10 ≤ N ∧ Lib.decDigits n = Lib.decDigits (N / 10) ++ UInt8.ofNat (48 + N % 10) :: S) ∨ (N < 10 ∧ Lib.decDigits n = UInt8.ofNat (48 + N % 10) :: S) := by
    rcases h with ⟨h1, h2⟩ | ⟨h1, h2, h3⟩ | ⟨h1, h2, h3⟩
    · subst h1 h2
      by_cases hc : N < 10
      · refine .inr ⟨hc, ?_⟩
        rw [Lib.decDigits_one hc, Nat.mod_eq_of_lt hc]
      · exact .inl ⟨by omega, dd_step hc⟩
    · by_cases hc : N < 10
      · refine .inr ⟨hc, ?_⟩
        rw [h3, Lib.decDigits_one hc, Nat.mod_eq_of_lt hc]; rfl
      · refine .inl ⟨by omega, ?_⟩
        rw [h3, dd_step hc, List.append_assoc]; rfl
    · subst h2
      rcases hgo with hg | hg
      · omega
      · exact absurd hg h1
  rcases key with ⟨k1, k2⟩ | ⟨k1, k2⟩
  · refine ⟨?_, .inr (.inl ⟨by simp, by omega, k2⟩)⟩
    rw [k2, List.length_append] at hlen; simp at hlen ⊢; omega
  · refine ⟨?_, .inr (.inr ⟨by simp, by omega, k2⟩)⟩
    rw [k2] at hlen; exact hlen
theorem conv_one (w : World) (d : Nat) (h : d < 10) (k : Int) (hk : k = 48 + (d : Int)) : (convert 57 9 (.slice (some ⟨w.heap.size, 0, none⟩) 1 1)).run Tryd.prog (w.alloc (.cells #[.int .u8 k] 5 (0, 0))) = .ok (.string ⟨#[UInt8.ofNat (48 + d)]⟩) (w.alloc (.cells #[.int .u8 k] 5 (0, 0))) := by
  refine run_convert_bytes_back (w.alloc (.cells #[.int .u8 k] 5 (0, 0))) 57 9 5 ⟨w.heap.size, 0, none⟩ 1 [UInt8.ofNat (48 + d)] Tryd.underlying57 Tryd.underlying5 Tryd.underlying9 ?_
  intro j hj
  have : j = 0 := by simp at hj; omega
  subst this
  rw [show (⟨w.heap.size, 0, none⟩ : Addr).add 0 = ⟨w.heap.size, 0, none⟩ from rfl, cell_of_row _ _ _ _ _ _ (heap_alloc_new w _)]
  have hd := dig_nat d h
  show some (Value.int .u8 k) = some (.int .u8 ((UInt8.ofNat (48 + d)).toNat : Int))
  rw [hd, hk]; rfl
theorem digits_any (n : Nat) (w : World) (hn : n ≤ 9223372036854775807) :
    Calls Tryd.prog 37 #[.int .i64 n] w fun e w' => e = .returned (.string ⟨(Lib.decDigits n).toArray⟩) ∧ Below w.heap.size w w' := by
  go_enter Tryd.func37, Tryd.ntmps37
  go_wp2
  go_loopw [0, 3] (fun nv sv w' => ∃ (N : Nat) (S : List UInt8), nv = .int .i64 N ∧ sv = .string ⟨S.toArray⟩ ∧ N ≤ n ∧ DInv n N S ∧ Below w.heap.size w w') (fun nv sv w' => muD nv sv)
  case atStart => exact ⟨n, [], rfl, rfl, Nat.le_refl _, ⟨by simp, .inl ⟨rfl, rfl⟩⟩, Below.refl _ _⟩
  case round =>
    obtain ⟨N, S, rfl, rfl, hN, hD, hb⟩ := hrel
    by_cases hgo : 0 < N ∨ S = []
    · have hnext := DInv.step hn hD hgo
      have hrun := conv_one wr (N % 10) (by omega) (48 + (N : Int) % 10) (by omega)
      obtain ⟨B, hB⟩ : ∃ B : ByteArray, B = ⟨#[UInt8.ofNat (48 + N % 10)]⟩ := ⟨_, rfl⟩
      rw [← hB] at hrun
      have hBs : B.size ≤ 1 := by rw [hB]; exact Nat.le_refl _
      have hBT : B ++ (⟨S.toArray⟩ : ByteArray) = ⟨(UInt8.ofNat (48 + N % 10) :: S).toArray⟩ := by
        rw [hB, show (⟨#[UInt8.ofNat (48 + N % 10)]⟩ : ByteArray) = ⟨[UInt8.ofNat (48 + N % 10)].toArray⟩ from rfl, ba_append]; rfl
      have hTe : (S = [] → (⟨S.toArray⟩ : ByteArray) = ⟨#[]⟩) := fun h => by rw [h]
      obtain ⟨T, hT⟩ : ∃ T : ByteArray, T = ⟨S.toArray⟩ := ⟨_, rfl⟩
      rw [← hT] at hBT hTe ⊢
      have hsz : T.size ≤ 100 := by rw [hT]; show S.toArray.size ≤ 100; have := hD.1; simp; omega
      obtain ⟨k, hk⟩ : ∃ k : Int, k = (N : Int) := ⟨_, rfl⟩
      have tm : k.tmod 10 = k % 10 := Int.tmod_eq_emod_of_nonneg (by omega)
      have td : k.tdiv 10 = k / 10 := Int.tdiv_eq_ediv_of_nonneg (by omega)
      have w1 : wrap64 (48 + k % 10) = 48 + k % 10 := by unfold wrap64; omega
      have w2 : wrap64 (k / 10) = k / 10 := by unfold wrap64; omega
      have w3 : IntKind.u8.wrap (48 + k % 10) = 48 + k % 10 := by rw [IntKind.wrap_u8]; omega
      have hk0 : 0 ≤ k := by omega
      have hmu : muD (.int .i64 ((N / 10 : Nat) : Int)) (.string ⟨(UInt8.ofNat (48 + N % 10) :: S).toArray⟩) < muD (.int .i64 (N : Int)) (.string T) := by
        unfold muD
        have e1 : (⟨(UInt8.ofNat (48 + N % 10) :: S).toArray⟩ : ByteArray).size = S.length + 1 := by show (UInt8.ofNat (48 + N % 10) :: S).toArray.size = _; simp
        have e2 : T.size = S.length := by rw [hT]; show S.toArray.size = _; simp
        simp only [e1, e2, intOf, Int.toNat_natCast]
        rw [if_neg (by omega)]
        rcases hgo with h | h
        · omega
        · rw [if_pos (by rw [h]; rfl)]; omega
      have hdiv : k / 10 = ((N / 10 : Nat) : Int) := by omega
      have hN2 : N / 10 ≤ n := by omega
      rw [← hk] at hrun hmu ⊢
      by_cases hp : 0 < k
      · clear hB hgo hD hT hTe hN hk
        change HidP _ at hdiv hBT hmu hnext hN2
        go_wp2
        change _ = _ at hdiv hBT
        change _ < _ at hmu
        go_roundw
        case rel => exact ⟨N / 10, _, by first | (rw [← hdiv, w2]; done) | (rw [← hdiv]), by rw [← hBT], hN2, hnext, hb.alloc hb.size _⟩
        case measure => rw [← hBT, ← hdiv] at hmu; first | (rw [w2]; exact hmu) | exact hmu
      · have hS : S = [] := by
          rcases hgo with h | h
          · omega
          · exact h
        have hT0 := hTe hS
        have hbe : T.toList.isEmpty = true := by rw [hT0, empty_toList]; rfl
        clear hB hgo hD hT hTe hN hk hT0
        change HidP _ at hdiv hBT hmu hnext hN2
        go_wp2
        change _ = _ at hdiv hBT
        change _ < _ at hmu
        go_roundw
        case rel => exact ⟨N / 10, _, by first | (rw [← hdiv, w2]; done) | (rw [← hdiv]), by rw [← hBT], hN2, hnext, hb.alloc hb.size _⟩
        case measure => rw [← hBT, ← hdiv] at hmu; first | (rw [w2]; exact hmu) | exact hmu
    · have h0 : N = 0 := by omega
      have hS : S ≠ [] := fun h => hgo (.inr h)
      subst h0
      have hfin : Lib.decDigits n = S := by
        rcases hD.2 with ⟨h, _⟩ | ⟨_, h, _⟩ | ⟨_, _, h⟩
        · exact absurd h hS
        · omega
        · exact h
      have hbe : (⟨S.toArray⟩ : ByteArray).toList.isEmpty = false := isEmpty_no (fun h => hS (by
        have := congrArg (fun b : ByteArray => b.data.toList) h; simpa using this))
      obtain ⟨T, hT⟩ : ∃ T : ByteArray, T = ⟨S.toArray⟩ := ⟨_, rfl⟩
      rw [← hT] at hbe ⊢
      change HidP _ at hfin hT
      clear hD hgo
      go_wp2
      change _ = _ at hfin hT
      all_goals go_ret
      all_goals exact ⟨by rw [hfin, ← hT]; rfl, hb⟩
end Go.Proofs.YtpbgaoodokapeaaDoor
