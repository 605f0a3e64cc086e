/- The small data (none, or one table ahead): sameData, Sound, Load by evaluation. -/
import Derived.Test.YtbjickdjkgefcaaGreatDoorLG3
open Go Go.RowKit Go.Proofs.YtbjickdjkgefcaaGreatDoor.Vai
noncomputable section
namespace Go.Proofs.YtbjickdjkgefcaaGreatDoor
set_option linter.unusedVariables false
set_option linter.unusedSimpArgs false
set_option maxRecDepth 100000
/-- What is known of the text ahead where it is the j-th name. -/
def factsE (j : Nat) : List Fact := ((List.range 8).map fun i => .seq 0 (tname i) (Nat.beq i j)) ++ ((List.range 8).map fun i => .slt 0 (tname i) (Op.bytesLess (tname j).data.toList (tname i).data.toList)) ++ ((List.range 8).map fun i => .sgt 0 (tname i) (Op.bytesLess (tname i).data.toList (tname j).data.toList))
/-- The table of spaces and the program's data. -/
def specP1 (l : List Nat) : List BSpec := spG :: .cells 60 2 [.pointer (some ⟨2, 0, none⟩), .map (some 3)] true :: .cells 117 1 [.map (some 4)] true :: .obj (.map (entsT l 6 0) l.length) :: .obj (.map (entsS l 5 0) l.length) :: colBs l
def idsP1 (l : List Nat) : List Nat := upTo (Nat.add 4 (Nat.mul 2 l.length)) 1
def is141 (u : Value) : Bool := veq u (.int .i64 141)
def is6 (u : Value) : Bool := veq u (.int .i64 6)
def soundRun (l : List Nat) (facts : List Fact) : Option (Value × St) := aFunK Tryz.prog tb0 kn0 1000 100 (.func 14) [.pointer (some ⟨1, 0, none⟩)] (bSt (specP1 l) facts 1)
def soundOk (l : List Nat) (facts : List Fact) : Bool := runCheck (soundRun l facts) (specP1 l).length is141 (specP l) (idsP1 l) noTau []
def rsoundRun (p : Nat) (l : List Nat) (facts : List Fact) : Option (Value × St) := aFunK Tryz.prog tb0 kn0 1000 100 (.func 15) [.pointer (some ⟨0, 0, none⟩)] (bSt ((specR p l).map lockB) facts)
def rsoundOk (p : Nat) (l : List Nat) (facts : List Fact) : Bool := runCheck (rsoundRun p l facts) ((specR p l).map lockB).length is141 [] [] noTau []
theorem rsnd_n : rsoundOk 0 [] [] = true := by kernel_rfl
theorem rsnd_p : allUp (fun p => rsoundOk p [8] (factsR p)) 9 = true := by kernel_rfl
theorem rsnd_e : allUp (fun j => rsoundOk 0 [8] (factsE j)) 8 = true := by kernel_rfl
def w5V : Value := .chan (some (rc 1 5))
def w50V : Value := .chan (some (rc 1 50))
def rloadRun (j : Nat) : Option (Value × St) := aFunK Tryz.prog tb0 kn0 1000 100 (.func 12) [.pointer (some ⟨0, 0, none⟩), w5V, w5V, w50V, w50V] (bSt ((specR 0 [8]).map lockB) (factsE j))
def rloadOk (j : Nat) : Bool := runCheck (rloadRun j) ((specR 0 [8]).map lockB).length is6 [] [] noTau []
theorem rload_e : allUp rloadOk 8 = true := by kernel_rfl
end Go.Proofs.YtbjickdjkgefcaaGreatDoor
