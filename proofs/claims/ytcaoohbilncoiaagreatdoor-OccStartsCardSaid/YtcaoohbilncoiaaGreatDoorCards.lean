/-
  DERIVED. GIVEN WITH THE SEED: THE CARDS: each row of YtcaoohbilncoiaaGreatDoorRows.lean that lists a variable, with what it lists TIED to the program's text (the seventh form; the later family's looks); each row that meets fmt, with fmt's text TOLD by the authors' own Lean function (tested against real Go, not proved from fmt's source: count such statements apart). THE CARD IS WHAT COUNTS. Prove the row's statement (the work); the ties are given (YtcaoohbilncoiaaGreatDoorTie.lean); close each card by the builder's one call (the guide's Derived/Test/ToyasCard.lean, 'card_holds'). Laid BY PROGRAM, IN A SANDBOX (cutbox-door.mjs). By AI agents, Wed Nov 11 2026. No macro, syntax, notation, axiom, sorry.
-/
import Derived.Test.YtcaoohbilncoiaaGreatDoorRows
import GoSem.ClaimSeven
namespace Go.Proofs.YtcaoohbilncoiaaGreatDoor
namespace Rows

/-- THE TIED CARD OF 'hopperlaw16.OccStarts'. -/
def occStartsCard : Claim7 := { stood := { row := occStartsRow, standIns := [], harness := (true, "cabc745d2baa7ae1b7741603026f88c9c1ed7833102ebdca81a719d13ab8e431"), looks := true }, kinds := [], alts := [], laidByText := true, laidKinds := [.data, .pinned], laidTests := true, laidLooks := .later }
def OccStartsCardSaid : Prop := Claim7.holds Tryz.pinned (.plain (OpenSpec.ofChange occStartsSpec)) occStartsCard

/-- THE SECOND FORM's CARD OF 'hopperlaw16.OccStarts'. -/
def occStartsUptoCard : Claim7 := { stood := { row := occStartsUptoRow, standIns := [], harness := (true, "cabc745d2baa7ae1b7741603026f88c9c1ed7833102ebdca81a719d13ab8e431"), looks := true }, kinds := [], alts := [], laidByText := true, laidKinds := [.data, .pinned], laidTests := true, laidLooks := .later }
def OccStartsUptoCardSaid : Prop := Claim7.holds Tryz.pinned (.plain (OpenSpec.upto occStartsSpec)) occStartsUptoCard
end Rows
end Go.Proofs.YtcaoohbilncoiaaGreatDoor
