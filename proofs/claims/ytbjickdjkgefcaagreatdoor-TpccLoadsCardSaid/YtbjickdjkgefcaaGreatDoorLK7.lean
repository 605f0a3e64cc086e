/- whole, by evaluation: all tables are there. -/
import Derived.Test.YtbjickdjkgefcaaGreatDoorLK6
open Go Go.RowKit Go.Proofs.YtbjickdjkgefcaaGreatDoor.Vai
noncomputable section
namespace Go.Proofs.YtbjickdjkgefcaaGreatDoor
set_option linter.unusedVariables false
set_option linter.unusedSimpArgs false
set_option maxRecDepth 100000
/-- The table of spaces, the data, the catalogue. -/
def specS1 (l : List Nat) : List BSpec := spG :: .cells 60 2 [.pointer (some ⟨2, 0, none⟩), topV] true :: .cells 117 1 [.map (some 3)] true :: .obj (.map (entsS l 4 0) l.length) :: colBs l
def wholeRun (pre : Bool) : Option (Value × St) := aFunK Tryz.prog tb0 kn0 1000 100 (.func 40) [.pointer (some ⟨1, 0, none⟩)] (bSt (specS1 (tabsP pre 8)) facts0 1)
def idsW (l : List Nat) : List Nat := upTo (Nat.add 3 (Nat.mul 2 l.length)) 1
theorem whole_f : runCheck (wholeRun false) (specS1 (tabsP false 8)).length isTrue (specS (tabsP false 8)) (idsW (tabsP false 8)) noTau [] = true := by kernel_rfl
theorem whole_t : runCheck (wholeRun true) (specS1 (tabsP true 8)).length isTrue (specS (tabsP true 8)) (idsW (tabsP true 8)) noTau [] = true := by kernel_rfl
end Go.Proofs.YtbjickdjkgefcaaGreatDoor
