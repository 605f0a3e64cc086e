/- strconv's Itoa and Atoi, and strings.Replace of the first point, as this program calls them. -/
import Derived.Test.YtpbgaoodokapeaaDoorPD
import Derived.Test.YtpbgaoodokapeaaDoorShelf
import Derived.Lib.AtoiTie
import Derived.Lib.AppendIntMem
import Derived.ProofKit
import Derived.WalkSmall
open Go Go.RowKit
namespace Go.Proofs.YtpbgaoodokapeaaDoor
set_option linter.unusedVariables false
set_option linter.unusedSimpArgs false
set_option maxRecDepth 4000
theorem tab10 {w : World} (h : Tabs w) : Lib.TabIs Tryd.prog w "internal/strconv.uint64pow10" .u64 Lib.pow10Tab := by
  have h1 := h ⟨7, 97, z10.map (Value.int .u64)⟩ (by simp [globs])
  have hg : Tryd.prog.globalNamed "internal/strconv.uint64pow10" = some 7 := by kernel_rfl
  have hz : z10 = Lib.pow10Tab := by kernel_rfl
  unfold Lib.TabIs
  rw [← hz]
  simp only [World.var?, hg, h1, Option.bind_some]
theorem itoa_any (n : Int) (h0 : -9223372036854775808 ≤ n) (h1 : n ≤ 9223372036854775807) (w : World) (hT : Tabs w) :
    Calls Tryd.prog 36 #[.int .i64 n] w fun e w' => e = .returned (.string ⟨(Lib.itoa n).toArray⟩) ∧ Below w.heap.size w w' := by
  refine (Tryd.strconv_Itoa n h0 h1 w (tab10 hT)).mono ?_
  rintro e w' ⟨rfl, k, os, rfl⟩
  exact ⟨rfl, Lib.below_grow _ w (Nat.le_refl _) k os⟩
theorem below_bw (w : World) (t : ByteArray) : Below w.heap.size w (Lib.bytesWorld w 5 t) := Lib.bytesWorld_below w 5 t
theorem atoi_any (s : ByteArray) (hs : s.size ≤ 281474976710656) (w : World) (e2 e3 : Value) (h2 : w.cell? ⟨2, 0, none⟩ = some e2) (h3 : w.cell? ⟨3, 0, none⟩ = some e3) (i2 : ∃ te pe, e2 = .iface te pe) (i3 : ∃ te pe, e3 = .iface te pe) :
    Calls Tryd.prog 38 #[.string s] w fun e w' => Below w.heap.size w w' ∧ ((∃ v, e = .returned (.tuple #[.int .i64 v, .nilIface]) ∧ Lib.atoiAll s.data.toList = .ok v ∧ -9223372036854775808 ≤ v ∧ v ≤ 9223372036854775807) ∨ (∃ v t p, e = .returned (.tuple #[.int .i64 v, .iface t (.pointer (some p))]) ∧ ∀ u, Lib.atoiAll s.data.toList ≠ .ok u)) := by
  have KB : (∀ u, Lib.atoiAll s.data.toList ≠ .ok u) → Calls Tryd.prog 38 #[.string s] w fun e w' => Below w.heap.size w w' ∧ ∃ v t p, e = .returned (.tuple #[.int .i64 v, .iface t (.pointer (some p))]) := by
    intro hno
    cases h : Lib.atoiAll s.data.toList
    · rename_i v; exact absurd h (hno v)
    · have hc : Calls Tryd.prog 38 #[.string s] w fun e w' => ∃ N, e = .returned (.tuple #[.int .i64 (0), .iface 72 (.pointer (some ⟨N, 0, none⟩))]) ∧ w.heap.size ≤ N ∧ w'.heap[N]? = some (.cells #[.string ⟨#[65, 116, 111, 105]⟩, .string s, e2] 86 (0, 0)) ∧ Below w.heap.size w w' := Any.strconv_Atoi_syntax Tryd.laysC172 s hs h e2 w h2 (.inr i2)
      refine hc.mono ?_
      rintro e w' ⟨N, rfl, _, _, hb⟩
      exact ⟨hb, _, _, _, rfl⟩
    · have hc : Calls Tryd.prog 38 #[.string s] w fun e w' => ∃ N, e = .returned (.tuple #[.int .i64 (Lib.atoiSat s.data.toList), .iface 72 (.pointer (some ⟨N, 0, none⟩))]) ∧ w.heap.size ≤ N ∧ w'.heap[N]? = some (.cells #[.string ⟨#[65, 116, 111, 105]⟩, .string s, e3] 86 (0, 0)) ∧ Below w.heap.size w w' := Any.strconv_Atoi_range Tryd.laysC172 s hs h e3 w h3 (.inr i3)
      refine hc.mono ?_
      rintro e w' ⟨N, rfl, _, _, hb⟩
      exact ⟨hb, _, _, _, rfl⟩
  by_cases hok : ∃ v, Lib.atoiAll s.data.toList = .ok v
  · obtain ⟨v, h⟩ := hok
    refine (Tryd.strconv_Atoi_ok s (by omega) v h w).mono ?_
    rintro e w' ⟨rfl, rfl | ⟨t, rfl⟩⟩
    · exact ⟨Below.refl _ _, .inl ⟨v, rfl, h, Lib.atoiAll_bounds h⟩⟩
    · exact ⟨below_bw w t, .inl ⟨v, rfl, h, Lib.atoiAll_bounds h⟩⟩
  · have hno : ∀ u, Lib.atoiAll s.data.toList ≠ .ok u := fun u h => hok ⟨u, h⟩
    refine (KB hno).mono ?_
    rintro e w' ⟨hb, v, t, p, rfl⟩
    exact ⟨hb, .inr ⟨v, t, p, rfl, hno⟩⟩
theorem string_used (B b : Nat) (bs : List Value) (l : List UInt8) (w : World) (h : Lib.BuilderAt 62 5 B b (.pointer (some ⟨b, 0, none⟩)) bs w) (e : bs = Lib.byteCells l) (hBw : B ≤ w.heap.size) :
    Calls Tryd.prog 50 #[.pointer (some ⟨b, 0, none⟩)] w fun e w' => e = .returned (.string ⟨l.toArray⟩) ∧ Below B w w' := by
  subst e; exact Tryd.Builder_String_any B b l w (Or.inr h) hBw
theorem write_any (B b : Nat) (bs : List Value) (s : ByteArray) (w : World) (h : Lib.BuilderAt 62 5 B b (.pointer (some ⟨b, 0, none⟩)) bs w) (hlen : bs.length + s.size ≤ 140737488355328) (hBw : B ≤ w.heap.size) :
    Calls Tryd.prog 48 #[.pointer (some ⟨b, 0, none⟩), .string s] w fun e w' => e = .returned (.tuple #[.int .i64 s.size, .nilIface]) ∧ (Lib.BuilderAt 62 5 B b (.pointer (some ⟨b, 0, none⟩)) (bs ++ Lib.strCells s) w' ∧ Below B w w') :=
  Any.Builder_WriteString { Tryd.lays154 with } { Tryd.Builder_Extra_154 with } B b bs s w (Or.inr h) hlen hBw
/-- The text without its first point. -/
def noDot (l : List UInt8) : List UInt8 := if Lib.countByte l 46 = 0 then l else l.take (Lib.indexByte l 46).toNat ++ l.drop ((Lib.indexByte l 46).toNat + 1)
theorem grow_any (s : ByteArray) (w : World) (h0 : 1 ≤ s.size) (hs : s.size ≤ 140737488355328) : Calls Tryd.prog 46 #[.pointer (some ⟨w.heap.size, 0, none⟩), .int .i64 ((s.size : Int) + -1)] (w.alloc (.cells #[.pointer none, .slice none 0 0] 62 (0, 0))) fun e w' =>
    e = .returned (.tuple #[]) ∧ Lib.BuilderAt 62 5 w.heap.size w.heap.size (.pointer (some ⟨w.heap.size, 0, none⟩)) [] w' ∧ Below w.heap.size (w.alloc (.cells #[.pointer none, .slice none 0 0] 62 (0, 0))) w' := by
  have e1 : (s.size : Int) + -1 = ((s.size - 1 : Nat) : Int) := by omega
  rw [e1]
  exact Tryd.Builder_Grow_fresh w.heap.size w.heap.size (s.size - 1) _ (Nat.le_refl _) (heap_alloc_new w _) (by simp) (by omega)
theorem alloc_Bz {B : Nat} {a b : World} (h : Below B a b) (hB : B ≤ b.heap.size) (o : Obj) : Below B a (b.alloc o) := h.alloc hB o
theorem replace_try (s : ByteArray) (w : World) (hs : s.size ≤ 140737488355328) (hc : ¬ Lib.countByte s.data.toList 46 = 0) (c i : Nat) (hcc : (c : Int) = Lib.countByte s.data.toList 46) (hc1 : 1 ≤ c) (hi : Lib.indexByte s.data.toList 46 = (i : Int)) (hil : i < s.size) :
    Calls Tryd.prog 39 #[.string s, .string ⟨#[46]⟩, .string ⟨#[]⟩, .int .i64 1] w fun e w' => e = .returned (.string ⟨(noDot s.data.toList).toArray⟩) ∧ Below w.heap.size w w' := by
  have hil2 : (i : Int) ≤ (s.size : Int) := by omega
  have hil3 : (i : Int) + 1 ≤ (s.size : Int) := by omega
  have hil4 : wrap64 ((i : Int) + 1) = (i : Int) + 1 := by unfold wrap64; omega
  have hx1 : (s.extract 0 i).size = i := by simp; omega
  have hx2 : (s.extract (i + 1) s.size).size = s.size - (i + 1) := by simp
  have hl1 : ([] : List Value).length + (s.extract 0 i).size ≤ 140737488355328 := by rw [hx1]; simp; omega
  have hl2 : ([] ++ Lib.strCells (s.extract 0 i)).length + (⟨#[]⟩ : ByteArray).size ≤ 140737488355328 := by
    rw [List.nil_append, Lib.strCells_length, hx1]; show i + 0 ≤ _; omega
  have hl3 : ([] ++ Lib.strCells (s.extract 0 i) ++ Lib.strCells ⟨#[]⟩).length + (s.extract (i + 1) s.size).size ≤ 140737488355328 := by
    rw [List.length_append, List.nil_append, Lib.strCells_length, Lib.strCells_length, hx1, hx2]; show i + 0 + _ ≤ _; omega
  clear hx1 hx2
  have heq : [] ++ Lib.strCells (s.extract 0 i) ++ Lib.strCells ⟨#[]⟩ ++ Lib.strCells (s.extract (i + 1) s.size) = Lib.byteCells (noDot s.data.toList) := by
    unfold noDot
    rw [if_neg hc, hi]
    have x1 : (s.extract 0 i).data.toList = s.data.toList.take i := by rw [ByteArray.data_extract, Array.toList_extract]; simp
    have x2 : (s.extract (i + 1) s.size).data.toList = s.data.toList.drop (i + 1) := by
      rw [ByteArray.data_extract, Array.toList_extract]
      show List.take (s.size - (i + 1)) (List.drop (i + 1) s.data.toList) = _
      rw [List.take_of_length_le]; simp
    simp only [Lib.strCells, Lib.byteCells, List.nil_append, x1, x2, Int.toNat_natCast, List.map_append]
    simp
  go_enter Tryd.func39, Tryd.ntmps39
  go_wp2_with (first
    | (go_at_call 45; with_reducible refine (Tryd.strings_Count_one _ _ _).mono ?_; rintro e w1 ⟨rfl, rfl⟩)
    | (go_at_call 46; with_reducible refine (grow_any s _ (by omega) hs).mono ?_; rintro e w2 ⟨rfl, hB2, hb2⟩; have hs2 : w1.heap.size ≤ w2.heap.size := by have h := hb2.size; simp at h; omega)
    | (refine wp_loop_rounds 2 ?_; rw [rounds_succ])
    | (go_at_call 47; with_reducible refine (Tryd.strings_Index_one _ _ _).mono ?_; rintro e w3 ⟨rfl, rfl⟩)
    | (go_at_call 48; with_reducible refine (write_any _ _ [] _ _ hB2 hl1 hs2).mono ?_; rintro e w4 ⟨rfl, hB4, hb4⟩; have hs4 := Nat.le_trans hs2 hb4.size)
    | (go_at_call 48; with_reducible refine (write_any _ _ _ _ _ hB4 hl2 hs4).mono ?_; rintro e w5 ⟨rfl, hB5, hb5⟩; have hs5 := Nat.le_trans hs4 hb5.size)
    | (go_at_call 48; with_reducible refine (write_any _ _ _ _ _ hB5 hl3 hs5).mono ?_; rintro e w6 ⟨rfl, hB6, hb6⟩; have hs6 := Nat.le_trans hs5 hb6.size)
    | (go_at_call 50; with_reducible refine (string_used _ _ _ _ _ hB6 heq hs6).mono ?_; rintro e w7 ⟨rfl, hb7⟩))
  rw [rounds_succ]
  go_wp2_with (first
    | (go_at_call 48; with_reducible refine (write_any _ _ _ _ _ hB5 hl3 hs5).mono ?_; rintro e w6 ⟨rfl, hB6, hb6⟩; have hs6 := Nat.le_trans hs5 hb6.size)
    | (go_at_call 50; with_reducible refine (string_used _ _ _ _ _ hB6 heq hs6).mono ?_; rintro e w7 ⟨rfl, hb7⟩))
  all_goals go_ret
  all_goals exact ⟨rfl, (((((alloc_Bz (Below.refl _ _) (Nat.le_refl _) _).trans (hb2.mono (Nat.le_refl _))).trans hb4).trans hb5).trans hb6).trans hb7⟩
theorem replace_none (s : ByteArray) (w : World) (hc : Lib.countByte s.data.toList 46 = 0) :
    Calls Tryd.prog 39 #[.string s, .string ⟨#[46]⟩, .string ⟨#[]⟩, .int .i64 1] w fun e w' => e = .returned (.string s) ∧ w' = w := by
  have hc' : (Lib.countByte s.data.toList 46 : Int) = 0 := by omega
  go_enter Tryd.func39, Tryd.ntmps39
  go_wp2_with (first
    | (go_at_call 45; with_reducible refine (Tryd.strings_Count_one _ _ _).mono ?_; rintro e w1 ⟨rfl, rfl⟩))
  all_goals go_ret
  all_goals exact ⟨rfl, rfl⟩
theorem index_lt : ∀ (l : List UInt8) (c : UInt8), ¬ Lib.countByte l c = 0 → ∃ i : Nat, Lib.indexByte l c = i ∧ i < l.length := by
  intro l c
  induction l with
  | nil => intro h; exact absurd rfl h
  | cons b l ih =>
    intro h
    unfold Lib.indexByte
    by_cases hb : (b == c) = true
    · rw [if_pos hb]; exact ⟨0, rfl, by simp⟩
    · rw [if_neg hb]
      have h2 : ¬ Lib.countByte l c = 0 := by
        unfold Lib.countByte at h ⊢
        rw [List.count_cons, if_neg hb] at h; exact h
      obtain ⟨i, hi, hl⟩ := ih h2
      rw [hi, if_neg (by simp)]
      exact ⟨i + 1, by omega, by simp; omega⟩
theorem replace_any (s : ByteArray) (w : World) (hs : s.size ≤ 140737488355328) :
    Calls Tryd.prog 39 #[.string s, .string ⟨#[46]⟩, .string ⟨#[]⟩, .int .i64 1] w fun e w' => e = .returned (.string ⟨(noDot s.data.toList).toArray⟩) ∧ Below w.heap.size w w' := by
  by_cases hc : Lib.countByte s.data.toList 46 = 0
  · refine (replace_none s w hc).mono ?_
    rintro e w' ⟨rfl, rfl⟩
    unfold noDot; rw [if_pos hc]
    exact ⟨by simp, Below.refl _ _⟩
  · obtain ⟨i, hi, hl⟩ := index_lt _ _ hc
    exact replace_try s w hs hc _ i rfl (by omega) hi hl
theorem noDot_len (l : List UInt8) : (noDot l).length ≤ l.length := by
  unfold noDot
  split
  · exact Nat.le_refl _
  · simp; omega
end Go.Proofs.YtpbgaoodokapeaaDoor
