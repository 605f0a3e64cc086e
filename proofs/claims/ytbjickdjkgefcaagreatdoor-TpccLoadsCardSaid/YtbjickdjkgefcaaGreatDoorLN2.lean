/- The small data: the program's Sound by evaluation. -/
import Derived.Test.YtbjickdjkgefcaaGreatDoorLN1
open Go Go.RowKit Go.Proofs.YtbjickdjkgefcaaGreatDoor.Vai
namespace Go.Proofs.YtbjickdjkgefcaaGreatDoor
set_option maxRecDepth 100000
theorem snd_n : soundOk [] [] = true := by kernel_rfl
theorem snd_p : soundOk [8] facts0 = true := by kernel_rfl
theorem snd_e0 : soundOk [8] (factsE 0) = true := by kernel_rfl
theorem snd_e1 : soundOk [8] (factsE 1) = true := by kernel_rfl
theorem snd_e2 : soundOk [8] (factsE 2) = true := by kernel_rfl
theorem snd_e3 : soundOk [8] (factsE 3) = true := by kernel_rfl
theorem snd_e4 : soundOk [8] (factsE 4) = true := by kernel_rfl
theorem snd_e5 : soundOk [8] (factsE 5) = true := by kernel_rfl
theorem snd_e6 : soundOk [8] (factsE 6) = true := by kernel_rfl
theorem snd_e7 : soundOk [8] (factsE 7) = true := by kernel_rfl
end Go.Proofs.YtbjickdjkgefcaaGreatDoor
