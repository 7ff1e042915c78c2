/-
  DERIVED. GIVEN WITH THE SEED: THE CARDS: each row of YtjfnkglppldfnaaDoorRows.lean that lists a variable, with what it lists TIED to the program's text (the seventh form; the later family's looks); each row that meets fmt, with fmt's text TOLD by the authors' own Lean function (tested against real Go, not proved from fmt's source: count such statements apart). THE CARD IS WHAT COUNTS. Prove the row's statement (the work); the ties are given (YtjfnkglppldfnaaDoorTie.lean); close each card by the builder's one call (the guide's Derived/Test/ToyasCard.lean, 'card_holds'). Laid BY PROGRAM, IN A SANDBOX (cutbox-door.mjs). By AI agents, Wed Nov 11 2026. No macro, syntax, notation, axiom, sorry.
-/
import Derived.Test.YtjfnkglppldfnaaDoorRows
import GoSem.ClaimSeven
namespace Go.Proofs.YtjfnkglppldfnaaDoor
namespace Rows

/-- THE TIED CARD OF 'acreagelaw33.ScriptPrints'. -/
def scriptPrintsCard : Claim7 := { stood := { row := scriptPrintsRow, standIns := [], harness := (true, "948dbe51163ecb76f8a974a5e2f99b69da0dce219ea68ce792bee7fbccfa0ed9"), looks := true }, kinds := [], alts := [], laidByText := true, laidKinds := [.data, .data, .data, .data, .sentinel, .sentinel, .pinned], laidTests := true, laidLooks := .later }
def ScriptPrintsCardSaid : Prop := Claim7.holds Tryd.pinned (.plain (OpenSpec.ofChange scriptPrintsSpec)) scriptPrintsCard

/-- THE TIED CARD OF 'acreagelaw33.ScriptTold'. -/
def scriptToldCard : Claim7 := { stood := { row := scriptToldRow, standIns := [], harness := (true, "948dbe51163ecb76f8a974a5e2f99b69da0dce219ea68ce792bee7fbccfa0ed9"), looks := true }, kinds := [], alts := [], laidByText := true, laidKinds := [.data, .data, .data, .data, .handle, .sentinel, .sentinel, .pinned], laidTests := true, laidLooks := .later }
def ScriptToldCardSaid : Prop := Claim7.holds Tryd.pinned (.plain (OpenSpec.ofChange scriptToldSpec)) scriptToldCard

/-- THE SECOND FORM's CARD OF 'acreagelaw33.ScriptPrints'. -/
def scriptPrintsUptoCard : Claim7 := { stood := { row := scriptPrintsUptoRow, standIns := [], harness := (true, "948dbe51163ecb76f8a974a5e2f99b69da0dce219ea68ce792bee7fbccfa0ed9"), looks := true }, kinds := [], alts := [], laidByText := true, laidKinds := [.data, .data, .data, .data, .sentinel, .sentinel, .pinned], laidTests := true, laidLooks := .later }
def ScriptPrintsUptoCardSaid : Prop := Claim7.holds Tryd.pinned (.plain (OpenSpec.upto scriptPrintsSpec)) scriptPrintsUptoCard

/-- THE SECOND FORM's CARD OF 'acreagelaw33.ScriptTold'. -/
def scriptToldUptoCard : Claim7 := { stood := { row := scriptToldUptoRow, standIns := [], harness := (true, "948dbe51163ecb76f8a974a5e2f99b69da0dce219ea68ce792bee7fbccfa0ed9"), looks := true }, kinds := [], alts := [], laidByText := true, laidKinds := [.data, .data, .data, .data, .handle, .sentinel, .sentinel, .pinned], laidTests := true, laidLooks := .later }
def ScriptToldUptoCardSaid : Prop := Claim7.holds Tryd.pinned (.plain (OpenSpec.upto scriptToldSpec)) scriptToldUptoCard
end Rows
end Go.Proofs.YtjfnkglppldfnaaDoor
