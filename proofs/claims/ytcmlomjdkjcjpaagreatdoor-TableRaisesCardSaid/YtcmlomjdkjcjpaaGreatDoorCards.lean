/-
  DERIVED. GIVEN WITH THE SEED: THE CARDS: each row of YtcmlomjdkjcjpaaGreatDoorRows.lean that lists a variable, with what it lists TIED to the program's text (the seventh form; the later family's looks); each row that meets fmt, with fmt's text TOLD by the authors' own Lean function (tested against real Go, not proved from fmt's source: count such statements apart). THE CARD IS WHAT COUNTS. Prove the row's statement (the work); the ties are given (YtcmlomjdkjcjpaaGreatDoorTie.lean); close each card by the builder's one call (the guide's Derived/Test/ToyasCard.lean, 'card_holds'). Laid BY PROGRAM, IN A SANDBOX (cutbox-door.mjs). By AI agents, Wed Nov 11 2026. No macro, syntax, notation, axiom, sorry.
-/
import Derived.Test.YtcmlomjdkjcjpaaGreatDoorRows
import GoSem.ClaimSeven
namespace Go.Proofs.YtcmlomjdkjcjpaaGreatDoor
namespace Rows

/-- THE TIED CARD OF 'hopperlaw15.TableRaises'. -/
def tableRaisesCard : Claim7 := { stood := { row := tableRaisesRow, standIns := [], harness := (true, "26a76575854c28e2a532bb03c4d58a23dbc92050e412cd2006bc6d264c8f9c46"), looks := true }, kinds := [], alts := [], laidByText := true, laidKinds := [.data, .pinned], laidTests := true, laidLooks := .later }
def TableRaisesCardSaid : Prop := Claim7.holds Tryz.pinned (.plain (OpenSpec.ofChange tableRaisesSpec)) tableRaisesCard

/-- THE SECOND FORM's CARD OF 'hopperlaw15.TableRaises'. -/
def tableRaisesUptoCard : Claim7 := { stood := { row := tableRaisesUptoRow, standIns := [], harness := (true, "26a76575854c28e2a532bb03c4d58a23dbc92050e412cd2006bc6d264c8f9c46"), looks := true }, kinds := [], alts := [], laidByText := true, laidKinds := [.data, .pinned], laidTests := true, laidLooks := .later }
def TableRaisesUptoCardSaid : Prop := Claim7.holds Tryz.pinned (.plain (OpenSpec.upto tableRaisesSpec)) tableRaisesUptoCard
end Rows
end Go.Proofs.YtcmlomjdkjcjpaaGreatDoor
