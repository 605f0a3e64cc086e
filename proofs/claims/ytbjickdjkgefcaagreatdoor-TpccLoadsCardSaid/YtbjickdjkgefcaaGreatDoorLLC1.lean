/- The schemas of both sides, by evaluation: which blocks they lie in. -/
import Derived.Test.YtbjickdjkgefcaaGreatDoorLLC0
open Go Go.RowKit Go.Proofs.YtbjickdjkgefcaaGreatDoor.Vai
noncomputable section
namespace Go.Proofs.YtbjickdjkgefcaaGreatDoor
set_option linter.unusedVariables false
set_option linter.unusedSimpArgs false
set_option maxRecDepth 100000
def bsT (s : String) : ByteArray := ⟨s.toList.toArray.map fun c => UInt8.ofNat c.toNat⟩
def noTau : Nat → Option Nat := fun _ => none
/-- Columns of whole numbers. -/
def colCells : List ByteArray → List Value
  | [] => []
  | n :: l => .string n :: .int .i64 2 :: colCells l
/-- The eight tables: name, columns, how many are the key. -/
def schemas : List (ByteArray × List ByteArray × Nat) := [
  (⟨#[104,111,117,115,101]⟩, [⟨#[119]⟩, ⟨#[116,97,120]⟩, ⟨#[121,116,100]⟩], 1),
  (⟨#[100,105,115,116,114,105,99,116]⟩, [⟨#[119]⟩, ⟨#[100]⟩, ⟨#[116,97,120]⟩, ⟨#[121,116,100]⟩, ⟨#[110,101,120,116]⟩], 2),
  (⟨#[99,117,115,116,111,109,101,114]⟩, [⟨#[119]⟩, ⟨#[100]⟩, ⟨#[99]⟩, ⟨#[111,102,102]⟩, ⟨#[98,97,108,97,110,99,101]⟩, ⟨#[112,97,105,100]⟩, ⟨#[116,105,109,101,115]⟩], 3),
  (⟨#[105,116,101,109]⟩, [⟨#[105]⟩, ⟨#[112,114,105,99,101]⟩], 1),
  (⟨#[115,116,111,99,107]⟩, [⟨#[119]⟩, ⟨#[105]⟩, ⟨#[108,101,102,116]⟩, ⟨#[115,111,108,100]⟩, ⟨#[111,114,100,101,114,115]⟩], 2),
  (⟨#[111,114,100,101,114,115]⟩, [⟨#[119]⟩, ⟨#[100]⟩, ⟨#[111]⟩, ⟨#[99]⟩, ⟨#[108,105,110,101,115]⟩, ⟨#[99,97,114,114,105,101,114]⟩], 3),
  (⟨#[102,114,101,115,104]⟩, [⟨#[119]⟩, ⟨#[100]⟩, ⟨#[111]⟩], 3),
  (⟨#[108,105,110,101]⟩, [⟨#[119]⟩, ⟨#[100]⟩, ⟨#[111]⟩, ⟨#[110]⟩, ⟨#[105]⟩, ⟨#[102,114,111,109]⟩, ⟨#[109,97,110,121]⟩, ⟨#[97,109,111,117,110,116]⟩], 4)]
def colSpecs : List (ByteArray × List ByteArray × Nat) → List BSpec
  | [] => []
  | (_, c, _) :: l => .cells 38 2 (colCells c) true :: colSpecs l
/-- The cells of a list of schemas, whose columns lie in the blocks 'b', 'b+1', .. -/
def tabCells : Nat → List (ByteArray × List ByteArray × Nat) → List Value
  | _, [] => []
  | b, (n, c, k) :: l => .string n :: .slice (some ⟨b, 0, none⟩) c.length INF :: .int .i64 (Int.ofNat k) :: .slice none 0 0 :: tabCells (b + 1) l
def specTables : List BSpec := spG :: .cells 30 4 (tabCells 2 schemas) true :: colSpecs schemas
def isTables (r c : Nat) (u : Value) : Bool := veq u (.slice (some ⟨r, 0, none⟩) 8 c)
def links (r : Nat) : List Nat → Nat → List (Nat × Nat × Bool)
  | [], _ => []
  | _ :: l, k => (r, k, false) :: links r l (k + 4)
theorem tables_ok : runCheck tablesRun 1 (isTables 126 INF) specTables [0, 126, 11, 27, 47, 57, 73, 91, 102, 124] noTau (links 126 [11, 27, 47, 57, 73, 91, 102, 124] 1) = true := by kernel_rfl
theorem rtables_ok : runCheck rtablesRun 1 (isTables 103 8) specTables [0, 103, 9, 22, 39, 46, 59, 74, 83, 102] noTau (links 103 [9, 22, 39, 46, 59, 74, 83, 102] 1) = true := by kernel_rfl
end Go.Proofs.YtbjickdjkgefcaaGreatDoor
