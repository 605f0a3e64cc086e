/- A world for the witness: the tables of the row's list laid. -/
import Derived.Test.YtbjickdjkgefcaaGreatDoorLLA
import Derived.SevenTiedAt
import Derived.OpenShut
import Derived.Carry
import Derived.SizedLaws
import Derived.Lib.SmallJoins
import Derived.Deep.DeepHandedRow
import Derived.Deep.DeepWitnessRowRef
open Go Go.Joins Go.ChangeShapes Go.WideShapes Go.ChangeAt Go.RowKit Go.ChangeMaps Go.Proofs.YtbjickdjkgefcaaGreatDoor.Vai
set_option linter.unusedVariables false
set_option linter.unusedSimpArgs false
namespace Go.Proofs.YtbjickdjkgefcaaGreatDoor
set_option maxRecDepth 100000
noncomputable def flatAll : Nat → List (DataW Unit) → List Value
  | 0, _ => []
  | _ + 1, [] => []
  | n + 1, .lit l :: r => l.value :: flatAll n r
  | n + 1, .agg p :: r => flatAll n p ++ flatAll n r
  | n + 1, _ :: r => flatAll n r
noncomputable def partsOf : DataW Unit → List (DataW Unit)
  | .ptr (.agg (.slice l _ :: _)) => l
  | _ => []
noncomputable def layCells (h : Array Obj) (i : Nat) (c : Array Value) : Array Obj := h.modify i fun
  | .cells _ t frozen => .cells c t frozen
  | o => o
/-- A WORLD FOR THE WITNESS: the settled one, the tables laid. -/
noncomputable def laidWorld (os : Os) : World :=
  let w0 := World.holding Tryz.prog os ⟨#[.cells #[.slice (some ⟨18, 0, none⟩) 7 7, .slice none 0 0, .int .i64 2] 205, .cells (flatAll 400 (partsOf Rows.laid_unicode_White_Space)).toArray 208], #[], []⟩
  { w0 with heap := layCells (layCells (layCells (layCells (layCells (layCells (layCells w0.heap 9 (flatAll 400 [Rows.laid_math_bits_deBruijn32tab]).toArray) 10 (flatAll 400 [Rows.laid_math_bits_deBruijn64tab]).toArray) 8 (flatAll 400 [Rows.laid_internal_strconv_uint64pow10]).toArray) 5 (flatAll 400 [Rows.laid_unicode_utf8_acceptRanges]).toArray) 4 (flatAll 400 [Rows.laid_unicode_utf8_first]).toArray) 0 (flatAll 400 [Rows.laid_strings_asciiSpace]).toArray) 1 #[.pointer (some ⟨17, 0, none⟩)] }
/-- Places that rise, by a number for each block, are met once each. -/
def upB : Nat → List Nat → Bool
  | _, [] => true
  | a, x :: r => Nat.blt a x && upB x r
theorem upB_all : ∀ (l : List Nat) (a : Nat), upB a l = true → l.Nodup ∧ ∀ x ∈ l, a < x
  | [], _, _ => ⟨List.nodup_nil, by simp⟩
  | y :: r, a, h => by
    unfold upB at h
    rw [Bool.and_eq_true] at h
    have h1 : a < y := by simpa [Nat.blt_eq] using h.1
    obtain ⟨h2, h3⟩ := upB_all r y h.2
    refine ⟨List.nodup_cons.2 ⟨fun hm => Nat.lt_irrefl _ (h3 y hm), h2⟩, fun x hx => ?_⟩
    rcases List.mem_cons.1 hx with rfl | hx
    · exact h1
    · have := h3 x hx; omega
def rankOf : Nat → Nat
  | 9 => 1
  | 10 => 2
  | 8 => 3
  | 5 => 4
  | 1 => 5
  | 17 => 6
  | 18 => 7
  | 0 => 8
  | 4 => 9
  | _ => 10
def codeOf : MemPlace → Nat
  | .cell b o => rankOf b * 1000 + o
  | .map _ => 0
theorem nodup_of_map {α : Type} {f : α → Nat} : ∀ {l : List α}, (l.map f).Nodup → l.Nodup
  | [], _ => List.nodup_nil
  | x :: r, h => by
    rw [List.map_cons, List.nodup_cons] at h
    exact List.nodup_cons.2 ⟨fun hm => h.1 (List.mem_map.2 ⟨x, hm, rfl⟩), nodup_of_map h.2⟩
theorem laidMet_up {P : Program} {w : World} {l : List (String × DataW Unit)} (fuel : Nat) (h : (DataW.laidRun P w fuel (l.map (·.1))).map (·.1) = some l)
    (hr : (DataW.laidRun P w fuel (l.map (·.1))).map (fun x => upB 0 (x.2.map codeOf) && laidRowsB P w x.2) = some true) : laidMet P l w := by
  cases hx : DataW.laidRun P w fuel (l.map (·.1)) with
  | none => simp [hx] at h
  | some x =>
    obtain ⟨l', ps⟩ := x
    simp only [hx, Option.map_some, Option.some.injEq] at h hr
    subst h
    simp only [Bool.and_eq_true] at hr
    exact laidMet_of_run fuel hx (decide_eq_true (nodup_of_map (upB_all _ _ hr.1).1)) hr.2
theorem laid_met (os : Os) : laidMet Tryz.prog Rows.tpccLoadsRow.laid ((laidWorld os).forCall (fun _ _ => 0) ⟨#[], #[.agg #[.int .i64 0, .int .i64 0, .int .i64 0, .int .i64 0], .string ⟨#[]⟩], []⟩).memory :=
  laidMet_up 10 (by kernel_rfl) (by kernel_rfl)
end Go.Proofs.YtbjickdjkgefcaaGreatDoor
