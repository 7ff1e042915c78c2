/-
  DERIVED. GIVEN WITH THE SEED: THE CARDS: each row of YtajoljoegbeiiaaGreatDoorRows.lean that lists a variable, with what it lists TIED to the program's text (the seventh form; the later family's looks); each row that meets fmt, with fmt's text TOLD by the authors' own Lean function (tested against real Go, not proved from fmt's source: count such statements apart). THE CARD IS WHAT COUNTS. Prove the row's statement (the work); the ties are given (YtajoljoegbeiiaaGreatDoorTie.lean); close each card by the builder's one call (the guide's Derived/Test/ToyasCard.lean, 'card_holds'). Laid BY PROGRAM, IN A SANDBOX (cutbox-door.mjs). By AI agents, Wed Nov 11 2026. No macro, syntax, notation, axiom, sorry.
-/
import Derived.Test.YtajoljoegbeiiaaGreatDoorRows
import GoSem.ClaimSeven
namespace Go.Proofs.YtajoljoegbeiiaaGreatDoor
namespace Rows

/-- THE TIED CARD OF 'acreagelaw14.LsmKnown'. -/
def lsmKnownCard : Claim7 := { stood := { row := lsmKnownRow, standIns := [], harness := (true, "2847a83ffcb7aaf0a2de7d488582363b26ccc884a29982683edbfcf11f39248e"), looks := true }, kinds := [], alts := [], laidByText := true, laidKinds := [.data, .data, .data, .data, .sentinel, .sentinel, .pinned], laidTests := true, laidLooks := .later }
def LsmKnownCardSaid : Prop := Claim7.holds Tryz.pinned (.plain (OpenSpec.ofChange lsmKnownSpec)) lsmKnownCard

/-- THE SECOND FORM's CARD OF 'acreagelaw14.LsmKnown'. -/
def lsmKnownUptoCard : Claim7 := { stood := { row := lsmKnownUptoRow, standIns := [], harness := (true, "2847a83ffcb7aaf0a2de7d488582363b26ccc884a29982683edbfcf11f39248e"), looks := true }, kinds := [], alts := [], laidByText := true, laidKinds := [.data, .data, .data, .data, .sentinel, .sentinel, .pinned], laidTests := true, laidLooks := .later }
def LsmKnownUptoCardSaid : Prop := Claim7.holds Tryz.pinned (.plain (OpenSpec.upto lsmKnownSpec)) lsmKnownUptoCard
end Rows
end Go.Proofs.YtajoljoegbeiiaaGreatDoor
