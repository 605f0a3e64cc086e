/-
  DERIVED. GIVEN WITH THE SEED: THE CARDS: each row of YtflpppneomdkoaaDoorRows.lean that lists a variable, with what it lists TIED to the program's text (the seventh form; the later family's looks); each row that meets fmt, with fmt's text TOLD by the authors' own Lean function (tested against real Go, not proved from fmt's source: count such statements apart). THE CARD IS WHAT COUNTS. Prove the row's statement (the work); the ties are given (YtflpppneomdkoaaDoorTie.lean); close each card by the builder's one call (the guide's Derived/Test/ToyasCard.lean, 'card_holds'). Laid BY PROGRAM, IN A SANDBOX (cutbox-door.mjs). By AI agents, Wed Nov 11 2026. No macro, syntax, notation, axiom, sorry.
-/
import Derived.Test.YtflpppneomdkoaaDoorRows
import GoSem.ClaimSeven
namespace Go.Proofs.YtflpppneomdkoaaDoor
namespace Rows

/-- THE TIED CARD OF 'hopperlaw05.KeyNext'. -/
def keyNextCard : Claim7 := { stood := { row := keyNextRow, standIns := [], harness := (true, "57aa67c2ffe26c87660a8cd9296c29dc5ba92cd40162dd3c8f4f99db035c5e33"), looks := false }, kinds := [], alts := [], laidByText := true, laidKinds := [.data, .pinned], laidTests := true, laidLooks := .later }
def KeyNextCardSaid : Prop := Claim7.holds Tryd.pinned (.plain (OpenSpec.ofChange keyNextSpec)) keyNextCard

/-- THE SECOND FORM's CARD OF 'hopperlaw05.KeyNext'. -/
def keyNextUptoCard : Claim7 := { stood := { row := keyNextUptoRow, standIns := [], harness := (true, "57aa67c2ffe26c87660a8cd9296c29dc5ba92cd40162dd3c8f4f99db035c5e33"), looks := false }, kinds := [], alts := [], laidByText := true, laidKinds := [.data, .pinned], laidTests := true, laidLooks := .later }
def KeyNextUptoCardSaid : Prop := Claim7.holds Tryd.pinned (.plain (OpenSpec.upto keyNextSpec)) keyNextUptoCard
end Rows
end Go.Proofs.YtflpppneomdkoaaDoor
