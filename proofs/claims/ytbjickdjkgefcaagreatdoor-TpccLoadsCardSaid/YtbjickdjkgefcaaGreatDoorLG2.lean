/- A row's key, as the program tells it. -/
import Derived.Test.YtbjickdjkgefcaaGreatDoorLE0
import Derived.Test.YtbjickdjkgefcaaGreatDoorLSH
open Go Go.RowKit Go.Proofs.YtbjickdjkgefcaaGreatDoor.Vai
noncomputable section
namespace Go.Proofs.YtbjickdjkgefcaaGreatDoor
set_option linter.unusedVariables false
set_option linter.unusedSimpArgs false
set_option maxRecDepth 100000
def topV : Value := .chan (some 29)
def tops : Nat → List Value
  | 0 => []
  | n + 1 => topV :: tops n
def encB1 (i : Nat) (n : Int) : BSpec := .cells 121 4 (tops (Nat.mul 4 i) ++ [.int .i64 2, .int .i64 n, .complex .f64 0 0, .string ⟨#[]⟩]) true
def encRun (i : Nat) (n : Int) : Option (Value × St) := aFunK Tryz.prog tb0 kn0 1000 100 (.func 221) [.slice (some ⟨0, Nat.mul 4 i, none⟩) 1 INF] (bSt [encB1 i n] [])
def isEnc (n : Int) (u : Value) : Bool := veq u (.tuple #[.string ⟨(encL [n]).toArray⟩, .int .i64 0])
def encOk (i : Nat) (n : Int) : Bool := runCheck (encRun i n) 1 (isEnc n) [] [] noTau []
def allUp (p : Nat → Bool) : Nat → Bool
  | 0 => true
  | n + 1 => p n && allUp p n
theorem allUp_at {p : Nat → Bool} : ∀ (n : Nat), allUp p n = true → ∀ k, k < n → p k = true := by
  intro n
  induction n with
  | zero => intro _ k h; omega
  | succ n ih =>
    intro h k hk
    simp only [allUp, Bool.and_eq_true] at h
    by_cases e : k = n
    · subst e; exact h.1
    · exact ih h.2 k (by omega)
theorem enc0 : allUp (fun n => encOk 0 (Int.ofNat (Nat.succ n))) 50 = true := by kernel_rfl
theorem enc1 : allUp (fun n => encOk 1 (Int.ofNat (Nat.succ n))) 50 = true := by kernel_rfl
theorem enc2 : allUp (fun n => encOk 2 (Int.ofNat (Nat.succ n))) 50 = true := by kernel_rfl
end Go.Proofs.YtbjickdjkgefcaaGreatDoor
