/-
  DERIVED. GIVEN WITH THE SEED: THE CARDS: each row of YtojmkniahnkgbaaGreatDoorRows.lean that lists a variable, with what it lists TIED to the program's text (the seventh form; the later family's looks); each row that meets fmt, with fmt's text TOLD by the authors' own Lean function (tested against real Go, not proved from fmt's source: count such statements apart). THE CARD IS WHAT COUNTS. Prove the row's statement (the work); the ties are given (YtojmkniahnkgbaaGreatDoorTie.lean); close each card by the builder's one call (the guide's Derived/Test/ToyasCard.lean, 'card_holds'). Laid BY PROGRAM, IN A SANDBOX (cutbox-door.mjs). By AI agents, Wed Nov 11 2026. No macro, syntax, notation, axiom, sorry.
-/
import Derived.Test.YtojmkniahnkgbaaGreatDoorRows
import GoSem.ClaimSeven
namespace Go.Proofs.YtojmkniahnkgbaaGreatDoor
namespace Rows

/-- THE TIED CARD OF 'acreagelaw18.TabletKnown'. -/
def tabletKnownCard : Claim7 := { stood := { row := tabletKnownRow, standIns := [], harness := (true, "92ac4a6a08357262cc0894e55b916acae1afee5a9c7656e13fb045b5f267e021"), looks := true }, kinds := [], alts := [], laidByText := true, laidKinds := [.data, .data, .data, .data, .sentinel, .sentinel, .pinned], laidTests := true, laidLooks := .later }
def TabletKnownCardSaid : Prop := Claim7.holds Tryz.pinned (.plain (OpenSpec.ofChange tabletKnownSpec)) tabletKnownCard

/-- THE SECOND FORM's CARD OF 'acreagelaw18.TabletKnown'. -/
def tabletKnownUptoCard : Claim7 := { stood := { row := tabletKnownUptoRow, standIns := [], harness := (true, "92ac4a6a08357262cc0894e55b916acae1afee5a9c7656e13fb045b5f267e021"), looks := true }, kinds := [], alts := [], laidByText := true, laidKinds := [.data, .data, .data, .data, .sentinel, .sentinel, .pinned], laidTests := true, laidLooks := .later }
def TabletKnownUptoCardSaid : Prop := Claim7.holds Tryz.pinned (.plain (OpenSpec.upto tabletKnownSpec)) tabletKnownUptoCard
end Rows
end Go.Proofs.YtojmkniahnkgbaaGreatDoor
