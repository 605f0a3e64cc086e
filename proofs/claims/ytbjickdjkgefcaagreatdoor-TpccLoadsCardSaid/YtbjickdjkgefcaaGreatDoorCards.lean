/-
  DERIVED. GIVEN WITH THE SEED: THE CARDS: each row of YtbjickdjkgefcaaGreatDoorRows.lean that lists a variable, with what it lists TIED to the program's text (the seventh form; the later family's looks); each row that meets fmt, with fmt's text TOLD by the authors' own Lean function (tested against real Go, not proved from fmt's source: count such statements apart). THE CARD IS WHAT COUNTS. Prove the row's statement (the work); the ties are given (YtbjickdjkgefcaaGreatDoorTie.lean); close each card by the builder's one call (the guide's Derived/Test/ToyasCard.lean, 'card_holds'). Laid BY PROGRAM, IN A SANDBOX (cutbox-door.mjs). By AI agents, Wed Nov 11 2026. No macro, syntax, notation, axiom, sorry.
-/
import Derived.Test.YtbjickdjkgefcaaGreatDoorRows
import GoSem.ClaimSeven
namespace Go.Proofs.YtbjickdjkgefcaaGreatDoor
namespace Rows

/-- THE TIED CARD OF 'hopperlaw23.TpccLoads'. -/
def tpccLoadsCard : Claim7 := { stood := { row := tpccLoadsRow, standIns := [], harness := (true, "7f1ed719895cc1b1eda31778250e6260c4465d702ee1ad7937a70eb1d0b56907"), looks := true }, kinds := [], alts := [], laidByText := true, laidKinds := [.data, .data, .data, .data, .listed, .data, .pinned], laidTests := true, laidLooks := .later }
def TpccLoadsCardSaid : Prop := Claim7.holds Tryz.pinned (.plain (OpenSpec.ofChange tpccLoadsSpec)) tpccLoadsCard

/-- THE SECOND FORM's CARD OF 'hopperlaw23.TpccLoads'. -/
def tpccLoadsUptoCard : Claim7 := { stood := { row := tpccLoadsUptoRow, standIns := [], harness := (true, "7f1ed719895cc1b1eda31778250e6260c4465d702ee1ad7937a70eb1d0b56907"), looks := true }, kinds := [], alts := [], laidByText := true, laidKinds := [.data, .data, .data, .data, .listed, .data, .pinned], laidTests := true, laidLooks := .later }
def TpccLoadsUptoCardSaid : Prop := Claim7.holds Tryz.pinned (.plain (OpenSpec.upto tpccLoadsSpec)) tpccLoadsUptoCard
end Rows
end Go.Proofs.YtbjickdjkgefcaaGreatDoor
