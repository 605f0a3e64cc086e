/- What 'works' of hopperlaw22 does, from every world in which the three tables lie: it returns true and turns nothing that was there. -/
import Derived.Test.YtpbgaoodokapeaaDoorPC
import Derived.Lib.LaidTab
import Derived.Stop.LaidErr
open Go Go.RowKit Go.Proofs.YtpbgaoodokapeaaDoor.Vai
namespace Go.Proofs.YtpbgaoodokapeaaDoor
set_option linter.unusedVariables false
set_option linter.unusedSimpArgs false
set_option maxRecDepth 100000
noncomputable def intsOf : List (DataW Unit) → List Int
  | [] => []
  | .lit (.int _ z) :: r => z :: intsOf r
  | _ :: r => intsOf r
noncomputable def tabOf : DataW Unit → List Int
  | .agg p => intsOf p
  | _ => []
noncomputable def z10 : List Int := tabOf Rows.laid_internal_strconv_uint64pow10
noncomputable def z32 : List Int := tabOf Rows.laid_math_bits_deBruijn32tab
noncomputable def z64 : List Int := tabOf Rows.laid_math_bits_deBruijn64tab
noncomputable def globs : List Glob := [⟨7, 97, z10.map (Value.int .u64)⟩, ⟨8, 109, z32.map (Value.int .u8)⟩, ⟨9, 110, z64.map (Value.int .u8)⟩]
/-- The three tables lie in the world. -/
def Tabs (w : World) : Prop := ∀ x ∈ globs, w.heap[x.g]? = some (.cells x.cells.toArray x.t (0, 0))
theorem Tabs.below {a b : World} (h : Tabs a) (hs : 10 ≤ a.heap.size) (k : Below a.heap.size a b) : Tabs b := fun x hx => by
  have := h x hx
  rw [k.block x.g (Array.getElem?_eq_some_iff.1 this).1]; exact this
theorem glob_side : ∀ x ∈ globs, x.g < 10 ∧ plainL x.cells = true := by
  intro x hx
  simp only [globs, List.mem_cons, List.mem_nil_iff, or_false] at hx
  rcases hx with rfl | rfl | rfl
  · exact ⟨by decide, by kernel_rfl⟩
  · exact ⟨by decide, by kernel_rfl⟩
  · exact ⟨by decide, by kernel_rfl⟩
theorem works_any (w : World) (h : Tabs w) : Calls Tryd.prog 16 #[] w fun e w' => e = .returned (.bool true) ∧ Below w.heap.size w w' :=
  calls_of_run tb0_ok mixed (Rel.globs (ng := 10) (l := globs) fun x hx => ⟨(glob_side x hx).1, (glob_side x hx).2, h x hx⟩) (L := 1000) (d := 100) (args := []) (cargs := []) .nil rfl (by kernel_rfl)
theorem tabs_of {W : World} (hs : W.ShapedOpen Tryd.prog) (h : laidMet Tryd.prog [("math/bits.deBruijn32tab", Rows.laid_math_bits_deBruijn32tab), ("math/bits.deBruijn64tab", Rows.laid_math_bits_deBruijn64tab), ("internal/strconv.uint64pow10", Rows.laid_internal_strconv_uint64pow10)] W) : Tabs W := by
  have h1 : W.var? Tryd.prog "math/bits.deBruijn32tab" = some (z32.map (Value.int .u8)).toArray := Lib.tabIs_of_head (g := 8) (t := 109) (n := 32) (by kernel_rfl) (by kernel_rfl) (by kernel_rfl) Tryd.underlying5 (by kernel_rfl) (by kernel_rfl) h
  have h2 : W.var? Tryd.prog "math/bits.deBruijn64tab" = some (z64.map (Value.int .u8)).toArray := Lib.tabIs_of_head (g := 9) (t := 110) (n := 64) (by kernel_rfl) (by kernel_rfl) (by kernel_rfl) Tryd.underlying5 (by kernel_rfl) (by kernel_rfl) (laidMet.tail h)
  have h3 : W.var? Tryd.prog "internal/strconv.uint64pow10" = some (z10.map (Value.int .u64)).toArray := Lib.tabIs_of_head (g := 7) (t := 97) (n := 20) (by kernel_rfl) (by kernel_rfl) (by kernel_rfl) Tryd.underlying37 (by kernel_rfl) (by kernel_rfl) (laidMet.tail (laidMet.tail h))
  intro x hx
  simp only [globs, List.mem_cons, List.mem_nil_iff, or_false] at hx
  rcases hx with rfl | rfl | rfl
  · exact block_of_var hs (by kernel_rfl) (zero := Array.replicate 20 (.int .u64 0)) (by decide +kernel) (by kernel_rfl) h3
  · exact block_of_var hs (by kernel_rfl) (zero := Array.replicate 32 (.int .u8 0)) (by decide +kernel) (by kernel_rfl) h1
  · exact block_of_var hs (by kernel_rfl) (zero := Array.replicate 64 (.int .u8 0)) (by decide +kernel) (by kernel_rfl) h2
end Go.Proofs.YtpbgaoodokapeaaDoor
