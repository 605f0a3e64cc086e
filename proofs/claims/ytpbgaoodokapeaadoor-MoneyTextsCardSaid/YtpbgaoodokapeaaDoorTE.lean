/- The three laws' tables and the two errors of strconv, as the rows of MoneyTexts and MoneyBack list them; a world in which they lie; hopperlaw22.MoneyBack whole. -/
import Derived.Test.YtpbgaoodokapeaaDoorTD
import Derived.Stop.LaidErr
open Go Go.RowKit Go.Proofs.YtpbgaoodokapeaaDoor.Vai
namespace Go.Proofs.YtpbgaoodokapeaaDoor
set_option linter.unusedVariables false
set_option linter.unusedSimpArgs false
set_option maxRecDepth 100000
theorem tabs7 {W : World} {r : List (String × DataW Unit)} (hs : W.ShapedOpen Tryd.prog) (h : laidMet Tryd.prog (("math/bits.deBruijn32tab", Rows.laid_math_bits_deBruijn32tab) :: ("math/bits.deBruijn64tab", Rows.laid_math_bits_deBruijn64tab) :: ("internal/strconv.uint64pow10", Rows.laid_internal_strconv_uint64pow10) :: r) W) : Tabs W := by
  have h1 : W.var? Tryd.prog "math/bits.deBruijn32tab" = some (z32.map (Value.int .u8)).toArray := Lib.tabIs_of_head (g := 8) (t := 109) (n := 32) (by kernel_rfl) (by kernel_rfl) (by kernel_rfl) Tryd.underlying5 (by kernel_rfl) (by kernel_rfl) h
  have h2 : W.var? Tryd.prog "math/bits.deBruijn64tab" = some (z64.map (Value.int .u8)).toArray := Lib.tabIs_of_head (g := 9) (t := 110) (n := 64) (by kernel_rfl) (by kernel_rfl) (by kernel_rfl) Tryd.underlying5 (by kernel_rfl) (by kernel_rfl) (laidMet.tail h)
  have h3 : W.var? Tryd.prog "internal/strconv.uint64pow10" = some (z10.map (Value.int .u64)).toArray := Lib.tabIs_of_head (g := 7) (t := 97) (n := 20) (by kernel_rfl) (by kernel_rfl) (by kernel_rfl) Tryd.underlying37 (by kernel_rfl) (by kernel_rfl) (laidMet.tail (laidMet.tail h))
  intro x hx
  simp only [globs, List.mem_cons, List.mem_nil_iff, or_false] at hx
  rcases hx with rfl | rfl | rfl
  · exact block_of_var hs (by kernel_rfl) (zero := Array.replicate 20 (.int .u64 0)) (by decide +kernel) (by kernel_rfl) h3
  · exact block_of_var hs (by kernel_rfl) (zero := Array.replicate 32 (.int .u8 0)) (by decide +kernel) (by kernel_rfl) h1
  · exact block_of_var hs (by kernel_rfl) (zero := Array.replicate 64 (.int .u8 0)) (by decide +kernel) (by kernel_rfl) h2
theorem star : "*" ++ "errors.errorString" = "*errors.errorString" := by decide
theorem row103 (u : TypeId) (h : Tryd.prog.typeName? 3 u = some "*errors.errorString") : u = 103 :=
  typeName_ptr_named (nm := "errors.errorString") (by rw [star]; kernel_rfl) (by kernel_rfl) (by decide) u (by rw [star]; exact h)
theorem errs7 {W : World} {r : List (String × DataW Unit)} (h : laidMet Tryd.prog (("strconv.ErrRange", Rows.laid_strconv_ErrRange) :: ("strconv.ErrSyntax", Rows.laid_strconv_ErrSyntax) :: r) W) :
    ∃ e2 e3, W.cell? ⟨2, 0, none⟩ = some e2 ∧ W.cell? ⟨3, 0, none⟩ = some e3 ∧ (∃ te pe, e2 = .iface te pe) ∧ (∃ te pe, e3 = .iface te pe) := by
  obtain ⟨a3, s3, v3, _⟩ := laid_sentinel (g := 3) (ti := 53) (tp := 103) (te := 105) (ts := 9) h (by kernel_rfl) (by kernel_rfl) Tryd.underlying53 row103 Tryd.underlying103 Tryd.underlying105 rfl rfl Tryd.underlying9 (by kernel_rfl) (by kernel_rfl)
  obtain ⟨a2, s2, v2, _⟩ := laid_sentinel (g := 2) (ti := 53) (tp := 103) (te := 105) (ts := 9) (laidMet.tail h) (by kernel_rfl) (by kernel_rfl) Tryd.underlying53 row103 Tryd.underlying103 Tryd.underlying105 rfl rfl Tryd.underlying9 (by kernel_rfl) (by kernel_rfl)
  have c3 : W.cell? ⟨3, 0, none⟩ = some (.iface 103 (.pointer (some a3))) := by simpa using World.var?_cell (show Tryd.prog.globalNamed "strconv.ErrRange" = some 3 by kernel_rfl) v3 0
  have c2 : W.cell? ⟨2, 0, none⟩ = some (.iface 103 (.pointer (some a2))) := by simpa using World.var?_cell (show Tryd.prog.globalNamed "strconv.ErrSyntax" = some 2 by kernel_rfl) v2 0
  exact ⟨_, _, c2, c3, ⟨_, _, rfl⟩, ⟨_, _, rfl⟩⟩
theorem back_any (a : Int) (s : ByteArray) (hs : s.size ≤ 140737488355328) (W : World) (hT : Tabs W) (h10 : 10 ≤ W.heap.size) (e2 e3 : Value) (c2 : W.cell? ⟨2, 0, none⟩ = some e2) (c3 : W.cell? ⟨3, 0, none⟩ = some e3) (i2 : ∃ te pe, e2 = .iface te pe) (i3 : ∃ te pe, e3 = .iface te pe) :
    Calls Tryd.prog 9 #[.int .i64 a, .string s] W fun e w' => e = .returned (.bool true) ∧ Below W.heap.size W w' := by
  have KT := fun (v : Int) w' (hb : Below W.heap.size W w') => text_any v w' (hT.below h10 hb) (Nat.le_trans h10 hb.size)
  have KP := fun (s : ByteArray) (hs : s.size ≤ 140737488355328) w' (hb : Below W.heap.size W w') => parse_any s hs w' (hT.below h10 hb) (Nat.le_trans h10 hb.size) e2 e3 ((hb.cell (cell_ltT c2)).trans c2) ((hb.cell (cell_ltT c3)).trans c3) i2 i3
  have hpr : (¬ (parseR s.data.toList).2 = 0 ∧ (parseR s.data.toList).1 = 0) ∨ ((parseR s.data.toList).2 = 0 ∧ InM (parseR s.data.toList).1 ∧ textL (parseR s.data.toList).1 = s.data.toList) := by
    unfold parseR
    split
    · split
      · rename_i h; exact .inr ⟨rfl, h⟩
      · exact .inl ⟨by decide, rfl⟩
    · exact .inl ⟨by decide, rfl⟩
  refine back_walk a (textE a) (parseR s.data.toList).1 (parseR s.data.toList).2 s (textS a) (textS (parseR s.data.toList).1) W ?_ ?_ (fun w' h => by subst h; exact works_any _ hT) (KT a) ?_ (KP s hs) ?_
  · by_cases hA : InM a
    · exact .inl (if_pos hA)
    · exact .inr ⟨by unfold textE; rw [if_neg hA]; decide, if_neg hA⟩
  · rcases hpr with ⟨h1, h2⟩ | ⟨h1, h2, h3⟩
    · exact .inl ⟨h1, h2⟩
    · refine .inr ⟨h1, ?_⟩
      unfold textS; rw [if_pos h2, h3]
  · intro hE w' hb
    have hA : InM a := by
      by_cases hA : InM a
      · exact hA
      · unfold textE at hE; rw [if_neg hA] at hE; cases hE
    have hts : textS a = ⟨(textL a).toArray⟩ := if_pos hA
    have hlen : (textL a).length ≤ 1000 := by
      unfold textL
      have h1 := dd_len (a.natAbs / 100) (by obtain ⟨a1, a2⟩ := hA; omega)
      have h2 := dd_len (100 + a.natAbs % 100) (by omega)
      simp only [List.length_append, List.length_drop, List.length_cons, List.length_nil]
      split <;> simp <;> omega
    have := KP (textS a) (by rw [hts]; show (textL a).toArray.size ≤ _; simp; omega) w' hb
    rw [show (textS a).data.toList = textL a by rw [hts], parse_text a hA] at this
    exact this
  · intro hf w' hb
    rcases hpr with ⟨h1, h2⟩ | ⟨h1, h2, h3⟩
    · exact absurd hf h1
    · have := KT (parseR s.data.toList).1 w' hb
      rw [show textE (parseR s.data.toList).1 = 0 from if_pos h2] at this
      exact this
end Go.Proofs.YtpbgaoodokapeaaDoor
