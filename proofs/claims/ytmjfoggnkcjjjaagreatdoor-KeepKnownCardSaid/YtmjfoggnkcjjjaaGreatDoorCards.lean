/-
  DERIVED. GIVEN WITH THE SEED: THE CARDS: each row of YtmjfoggnkcjjjaaGreatDoorRows.lean that lists a variable, with what it lists TIED to the program's text (the seventh form; the later family's looks); each row that meets fmt, with fmt's text TOLD by the authors' own Lean function (tested against real Go, not proved from fmt's source: count such statements apart). THE CARD IS WHAT COUNTS. Prove the row's statement (the work); the ties are given (YtmjfoggnkcjjjaaGreatDoorTie.lean); close each card by the builder's one call (the guide's Derived/Test/ToyasCard.lean, 'card_holds'). Laid BY PROGRAM, IN A SANDBOX (cutbox-door.mjs). By AI agents, Wed Nov 11 2026. No macro, syntax, notation, axiom, sorry.
-/
import Derived.Test.YtmjfoggnkcjjjaaGreatDoorRows
import GoSem.ClaimSeven
namespace Go.Proofs.YtmjfoggnkcjjjaaGreatDoor
namespace Rows

/-- THE TIED CARD OF 'acreagelaw22.KeepKnown'. -/
def keepKnownCard : Claim7 := { stood := { row := keepKnownRow, standIns := [], harness := (true, "1f4babee8321e33e26f24f6f276b997dc83ba15949dcb3a2eb28bd4369014bb4"), looks := true }, kinds := [], alts := [], laidByText := true, laidKinds := [.data, .data, .data, .data, .sentinel, .sentinel, .pinned], laidTests := true, laidLooks := .later }
def KeepKnownCardSaid : Prop := Claim7.holds Tryz.pinned (.plain (OpenSpec.ofChange keepKnownSpec)) keepKnownCard

/-- THE TIED CARD OF 'acreagelaw22.KeepLasts'. -/
def keepLastsCard : Claim7 := { stood := { row := keepLastsRow, standIns := [], harness := (true, "1f4babee8321e33e26f24f6f276b997dc83ba15949dcb3a2eb28bd4369014bb4"), looks := true }, kinds := [], alts := [], laidByText := true, laidKinds := [.data, .data, .data, .data, .sentinel, .sentinel, .pinned], laidTests := true, laidLooks := .later }
def KeepLastsCardSaid : Prop := Claim7.holds Tryz.pinned (.plain (OpenSpec.ofChange keepLastsSpec)) keepLastsCard

/-- THE TIED CARD OF 'acreagelaw22.KeepFull'. -/
def keepFullCard : Claim7 := { stood := { row := keepFullRow, standIns := [], harness := (true, "1f4babee8321e33e26f24f6f276b997dc83ba15949dcb3a2eb28bd4369014bb4"), looks := true }, kinds := [], alts := [], laidByText := true, laidKinds := [.data, .data, .data, .data, .sentinel, .sentinel, .pinned], laidTests := true, laidLooks := .later }
def KeepFullCardSaid : Prop := Claim7.holds Tryz.pinned (.plain (OpenSpec.ofChange keepFullSpec)) keepFullCard

/-- THE SECOND FORM's CARD OF 'acreagelaw22.KeepKnown'. -/
def keepKnownUptoCard : Claim7 := { stood := { row := keepKnownUptoRow, standIns := [], harness := (true, "1f4babee8321e33e26f24f6f276b997dc83ba15949dcb3a2eb28bd4369014bb4"), looks := true }, kinds := [], alts := [], laidByText := true, laidKinds := [.data, .data, .data, .data, .sentinel, .sentinel, .pinned], laidTests := true, laidLooks := .later }
def KeepKnownUptoCardSaid : Prop := Claim7.holds Tryz.pinned (.plain (OpenSpec.upto keepKnownSpec)) keepKnownUptoCard

/-- THE SECOND FORM's CARD OF 'acreagelaw22.KeepLasts'. -/
def keepLastsUptoCard : Claim7 := { stood := { row := keepLastsUptoRow, standIns := [], harness := (true, "1f4babee8321e33e26f24f6f276b997dc83ba15949dcb3a2eb28bd4369014bb4"), looks := true }, kinds := [], alts := [], laidByText := true, laidKinds := [.data, .data, .data, .data, .sentinel, .sentinel, .pinned], laidTests := true, laidLooks := .later }
def KeepLastsUptoCardSaid : Prop := Claim7.holds Tryz.pinned (.plain (OpenSpec.upto keepLastsSpec)) keepLastsUptoCard

/-- THE SECOND FORM's CARD OF 'acreagelaw22.KeepFull'. -/
def keepFullUptoCard : Claim7 := { stood := { row := keepFullUptoRow, standIns := [], harness := (true, "1f4babee8321e33e26f24f6f276b997dc83ba15949dcb3a2eb28bd4369014bb4"), looks := true }, kinds := [], alts := [], laidByText := true, laidKinds := [.data, .data, .data, .data, .sentinel, .sentinel, .pinned], laidTests := true, laidLooks := .later }
def KeepFullUptoCardSaid : Prop := Claim7.holds Tryz.pinned (.plain (OpenSpec.upto keepFullSpec)) keepFullUptoCard
end Rows
end Go.Proofs.YtmjfoggnkcjjjaaGreatDoor
