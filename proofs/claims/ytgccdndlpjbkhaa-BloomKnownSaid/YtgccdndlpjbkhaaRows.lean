/-
  No cell of these rows narrows 'for every input' (looked for: loops, veiled, ifaces, maps, wideKeys, modest, calm, conditions, laid).
  DERIVED. THE GIVEN ROWS OF THIS SEAT. 9 by the template 'for every input the law returns true; each argument reads behind the call as it read before'; 0 by the template 'total and deterministic' (their statements: YtgccdndlpjbkhaaTotals.lean).
  GIVEN WITH THE SEED: the statements are not yours to turn. If you find one false, say at which input.
  Laid BY PROGRAM, IN A SANDBOX (cutbox-rows.mjs): the forced cells as the released guide's own fill.sh prints them over the translation b10df640b6c903de… (all of the seat's roots in one cut). By AI agents, Wed Nov 11 2026. No macro, syntax, notation, axiom, sorry.
-/
import Derived.Test.YtgccdndlpjbkhaaChecked
import GoSem.Claim
import GoSem.ClaimJoined
import GoSem.ClaimMapViews
import Derived.JoinedTies
import Derived.KernelRfl
namespace Go.Proofs.Ytgccdndlpjbkhaa
/- THE CELL 'sum', in the pinned program and in every row, IS THE sha256 OF THE DUMP (.gsa) THAT YtgccdndlpjbkhaaProg.lean LOADS. Nothing in Lean hashes anything: it is a label: what it is worth is what the hold of that sum in a sandbox is worth. -/
noncomputable def Try.pinned : Pinned := { name := "ytgccdndlpjbkhaa", sum := "b10df640b6c903decb836cfa100f6935e3cb96e38198ec97f62088886846aa65", checked := Try.checked }
namespace Rows
def none {H : Type} : Left H := { results := [], args := [] }

/-- 'acreagelaw29.NetOrder': WHATEVER THE INPUT: true; the input reads as it did. -/
def netOrderSpec : ChangeSpec := { name := "netOrder", fn := fun _ => fun
  | [d] => { results := [.lit (.bool true)], args := [d] }
  | _ => none }
def netOrderRow : OpenClaim := { program := "ytgccdndlpjbkhaa", sum := "b10df640b6c903decb836cfa100f6935e3cb96e38198ec97f62088886846aa65", func := "acreage/acreagelaw29.NetOrder", spec := "netOrder", apart := false }
def NetOrderSaid : Prop := netOrderRow.holds Try.pinned (OpenSpec.ofChange netOrderSpec)

/-- ITS FALSE NEIGHBOUR: 'it returns false'. Refute it at one input. -/
def netOrderWrong : ChangeSpec := { name := "netOrder", fn := fun _ => fun
  | [d] => { results := [.lit (.bool false)], args := [d] }
  | _ => none }
def NetOrderWrongFalsely : Prop := netOrderRow.holds Try.pinned (OpenSpec.ofChange netOrderWrong)

/-- 'acreagelaw29.NetOnce': WHATEVER THE INPUT: true; the input reads as it did. -/
def netOnceSpec : ChangeSpec := { name := "netOnce", fn := fun _ => fun
  | [d] => { results := [.lit (.bool true)], args := [d] }
  | _ => none }
def netOnceRow : OpenClaim := { program := "ytgccdndlpjbkhaa", sum := "b10df640b6c903decb836cfa100f6935e3cb96e38198ec97f62088886846aa65", func := "acreage/acreagelaw29.NetOnce", spec := "netOnce", apart := false }
def NetOnceSaid : Prop := netOnceRow.holds Try.pinned (OpenSpec.ofChange netOnceSpec)

/-- ITS FALSE NEIGHBOUR: 'it returns false'. Refute it at one input. -/
def netOnceWrong : ChangeSpec := { name := "netOnce", fn := fun _ => fun
  | [d] => { results := [.lit (.bool false)], args := [d] }
  | _ => none }
def NetOnceWrongFalsely : Prop := netOnceRow.holds Try.pinned (OpenSpec.ofChange netOnceWrong)

/-- 'acreagelaw29.NetPlays': WHATEVER THE INPUT: true; the input reads as it did. -/
def netPlaysSpec : ChangeSpec := { name := "netPlays", fn := fun _ => fun
  | [d] => { results := [.lit (.bool true)], args := [d] }
  | _ => none }
def netPlaysRow : OpenClaim := { program := "ytgccdndlpjbkhaa", sum := "b10df640b6c903decb836cfa100f6935e3cb96e38198ec97f62088886846aa65", func := "acreage/acreagelaw29.NetPlays", spec := "netPlays", apart := false }
def NetPlaysSaid : Prop := netPlaysRow.holds Try.pinned (OpenSpec.ofChange netPlaysSpec)

/-- ITS FALSE NEIGHBOUR: 'it returns false'. Refute it at one input. -/
def netPlaysWrong : ChangeSpec := { name := "netPlays", fn := fun _ => fun
  | [d] => { results := [.lit (.bool false)], args := [d] }
  | _ => none }
def NetPlaysWrongFalsely : Prop := netPlaysRow.holds Try.pinned (OpenSpec.ofChange netPlaysWrong)

/-- 'acreagelaw29.NetKnown': WHATEVER THE INPUT: true; the input reads as it did. -/
def netKnownSpec : ChangeSpec := { name := "netKnown", fn := fun _ => fun
  | [] => { results := [.lit (.bool true)], args := [] }
  | _ => none }
def netKnownRow : OpenClaim := { program := "ytgccdndlpjbkhaa", sum := "b10df640b6c903decb836cfa100f6935e3cb96e38198ec97f62088886846aa65", func := "acreage/acreagelaw29.NetKnown", spec := "netKnown", apart := false }
def NetKnownSaid : Prop := netKnownRow.holds Try.pinned (OpenSpec.ofChange netKnownSpec)

/-- ITS FALSE NEIGHBOUR: 'it returns false'. Refute it at one input. -/
def netKnownWrong : ChangeSpec := { name := "netKnown", fn := fun _ => fun
  | [] => { results := [.lit (.bool false)], args := [] }
  | _ => none }
def NetKnownWrongFalsely : Prop := netKnownRow.holds Try.pinned (OpenSpec.ofChange netKnownWrong)

/-- 'acreagelaw09.BloomMakes': WHATEVER THE INPUT: true; the input reads as it did. -/
def bloomMakesSpec : ChangeSpec := { name := "bloomMakes", fn := fun _ => fun
  | [d1, d2] => { results := [.lit (.bool true)], args := [d1, d2] }
  | _ => none }
def bloomMakesRow : OpenClaim := { program := "ytgccdndlpjbkhaa", sum := "b10df640b6c903decb836cfa100f6935e3cb96e38198ec97f62088886846aa65", func := "acreage/acreagelaw09.BloomMakes", spec := "bloomMakes", unfollowed := true, recurses := true, apart := false }
def BloomMakesSaid : Prop := bloomMakesRow.holds Try.pinned (OpenSpec.ofChange bloomMakesSpec)

/-- ITS FALSE NEIGHBOUR: 'it returns false'. Refute it at one input. -/
def bloomMakesWrong : ChangeSpec := { name := "bloomMakes", fn := fun _ => fun
  | [d1, d2] => { results := [.lit (.bool false)], args := [d1, d2] }
  | _ => none }
def BloomMakesWrongFalsely : Prop := bloomMakesRow.holds Try.pinned (OpenSpec.ofChange bloomMakesWrong)

/-- 'acreagelaw09.BloomAsks': WHATEVER THE INPUT: true; the input reads as it did. -/
def bloomAsksSpec : ChangeSpec := { name := "bloomAsks", fn := fun _ => fun
  | [d1, d2] => { results := [.lit (.bool true)], args := [d1, d2] }
  | _ => none }
def bloomAsksRow : OpenClaim := { program := "ytgccdndlpjbkhaa", sum := "b10df640b6c903decb836cfa100f6935e3cb96e38198ec97f62088886846aa65", func := "acreage/acreagelaw09.BloomAsks", spec := "bloomAsks", unfollowed := true, recurses := true, apart := false }
def BloomAsksSaid : Prop := bloomAsksRow.holds Try.pinned (OpenSpec.ofChange bloomAsksSpec)

/-- ITS FALSE NEIGHBOUR: 'it returns false'. Refute it at one input. -/
def bloomAsksWrong : ChangeSpec := { name := "bloomAsks", fn := fun _ => fun
  | [d1, d2] => { results := [.lit (.bool false)], args := [d1, d2] }
  | _ => none }
def BloomAsksWrongFalsely : Prop := bloomAsksRow.holds Try.pinned (OpenSpec.ofChange bloomAsksWrong)

/-- 'acreagelaw09.BloomNever': WHATEVER THE INPUT: true; the input reads as it did. -/
def bloomNeverSpec : ChangeSpec := { name := "bloomNever", fn := fun _ => fun
  | [d1, d2, d3] => { results := [.lit (.bool true)], args := [d1, d2, d3] }
  | _ => none }
def bloomNeverRow : OpenClaim := { program := "ytgccdndlpjbkhaa", sum := "b10df640b6c903decb836cfa100f6935e3cb96e38198ec97f62088886846aa65", func := "acreage/acreagelaw09.BloomNever", spec := "bloomNever", unfollowed := true, recurses := true, apart := false }
def BloomNeverSaid : Prop := bloomNeverRow.holds Try.pinned (OpenSpec.ofChange bloomNeverSpec)

/-- ITS FALSE NEIGHBOUR: 'it returns false'. Refute it at one input. -/
def bloomNeverWrong : ChangeSpec := { name := "bloomNever", fn := fun _ => fun
  | [d1, d2, d3] => { results := [.lit (.bool false)], args := [d1, d2, d3] }
  | _ => none }
def BloomNeverWrongFalsely : Prop := bloomNeverRow.holds Try.pinned (OpenSpec.ofChange bloomNeverWrong)

/-- 'acreagelaw09.BloomMore': WHATEVER THE INPUT: true; the input reads as it did. -/
def bloomMoreSpec : ChangeSpec := { name := "bloomMore", fn := fun _ => fun
  | [d1, d2, d3] => { results := [.lit (.bool true)], args := [d1, d2, d3] }
  | _ => none }
def bloomMoreRow : OpenClaim := { program := "ytgccdndlpjbkhaa", sum := "b10df640b6c903decb836cfa100f6935e3cb96e38198ec97f62088886846aa65", func := "acreage/acreagelaw09.BloomMore", spec := "bloomMore", unfollowed := true, recurses := true, apart := false }
def BloomMoreSaid : Prop := bloomMoreRow.holds Try.pinned (OpenSpec.ofChange bloomMoreSpec)

/-- ITS FALSE NEIGHBOUR: 'it returns false'. Refute it at one input. -/
def bloomMoreWrong : ChangeSpec := { name := "bloomMore", fn := fun _ => fun
  | [d1, d2, d3] => { results := [.lit (.bool false)], args := [d1, d2, d3] }
  | _ => none }
def BloomMoreWrongFalsely : Prop := bloomMoreRow.holds Try.pinned (OpenSpec.ofChange bloomMoreWrong)

/-- 'acreagelaw09.BloomKnown': WHATEVER THE INPUT: true; the input reads as it did. -/
def bloomKnownSpec : ChangeSpec := { name := "bloomKnown", fn := fun _ => fun
  | [] => { results := [.lit (.bool true)], args := [] }
  | _ => none }
def bloomKnownRow : OpenClaim := { program := "ytgccdndlpjbkhaa", sum := "b10df640b6c903decb836cfa100f6935e3cb96e38198ec97f62088886846aa65", func := "acreage/acreagelaw09.BloomKnown", spec := "bloomKnown", unfollowed := true, recurses := true, apart := false }
def BloomKnownSaid : Prop := bloomKnownRow.holds Try.pinned (OpenSpec.ofChange bloomKnownSpec)

/-- ITS FALSE NEIGHBOUR: 'it returns false'. Refute it at one input. -/
def bloomKnownWrong : ChangeSpec := { name := "bloomKnown", fn := fun _ => fun
  | [] => { results := [.lit (.bool false)], args := [] }
  | _ => none }
def BloomKnownWrongFalsely : Prop := bloomKnownRow.holds Try.pinned (OpenSpec.ofChange bloomKnownWrong)

/- THE SECOND FORM. 'bulk': how many values and letters a reading holds, each counted each time it is reached (what is shared counts as often as it is met; a slice's spare places count too). A statement '..UptoSaid' is the law's where the arguments, and the package variables that the reading takes, are together of bulk at most 1048576: NARROWER than '..Said'. Prove '..Said' where nothing that the law and all that it calls make is longer than what came in: it says more and counts as full. Else prove '..UptoSaid'. A law counts once. -/
mutual
def uptoBulk {H : Type} : DataW H → Nat
  | .lit (.string bytes) => bytes.length + 1
  | .lit _ => 1
  | .nil => 1
  | .ptr d => uptoBulk d + 1
  | .slice elems spare => uptoBulkAll elems + uptoBulkAll spare + 1
  | .agg parts => uptoBulkAll parts + 1
  | .iface _ d => uptoBulk d + 1
  | .map entries => uptoBulkEntries entries + 1
  | .held _ => 1
def uptoBulkAll {H : Type} : List (DataW H) → Nat
  | [] => 0
  | d :: r => uptoBulk d + uptoBulkAll r
def uptoBulkEntries {H : Type} : List (Lit × DataW H) → Nat
  | [] => 0
  | x :: r => uptoBulkEntry x + uptoBulkEntries r
def uptoBulkEntry {H : Type} : Lit × DataW H → Nat
  | (.string bytes, d) => bytes.length + uptoBulk d + 1
  | (_, d) => uptoBulk d + 1
 end
def uptoSmall : (H : Type) → List (DataW H) → Bool := fun _ ds => decide (uptoBulkAll ds ≤ 1048576)
def OpenSpec.upto (s : _root_.Go.ChangeSpec) : _root_.Go.OpenSpec := { _root_.Go.OpenSpec.ofChange s with cond := some uptoSmall }

/-- 'acreagelaw29.NetOrder', WHERE WHAT IT READS IS OF BULK AT MOST 1048576: true; the input reads as it did. -/
def netOrderUptoRow : OpenClaim := { program := "ytgccdndlpjbkhaa", sum := "b10df640b6c903decb836cfa100f6935e3cb96e38198ec97f62088886846aa65", func := "acreage/acreagelaw29.NetOrder", spec := "netOrder", apart := false, narrowed := true }
def NetOrderUptoSaid : Prop := netOrderUptoRow.holds Try.pinned (OpenSpec.upto netOrderSpec)

/-- 'acreagelaw29.NetOnce', WHERE WHAT IT READS IS OF BULK AT MOST 1048576: true; the input reads as it did. -/
def netOnceUptoRow : OpenClaim := { program := "ytgccdndlpjbkhaa", sum := "b10df640b6c903decb836cfa100f6935e3cb96e38198ec97f62088886846aa65", func := "acreage/acreagelaw29.NetOnce", spec := "netOnce", apart := false, narrowed := true }
def NetOnceUptoSaid : Prop := netOnceUptoRow.holds Try.pinned (OpenSpec.upto netOnceSpec)

/-- 'acreagelaw29.NetPlays', WHERE WHAT IT READS IS OF BULK AT MOST 1048576: true; the input reads as it did. -/
def netPlaysUptoRow : OpenClaim := { program := "ytgccdndlpjbkhaa", sum := "b10df640b6c903decb836cfa100f6935e3cb96e38198ec97f62088886846aa65", func := "acreage/acreagelaw29.NetPlays", spec := "netPlays", apart := false, narrowed := true }
def NetPlaysUptoSaid : Prop := netPlaysUptoRow.holds Try.pinned (OpenSpec.upto netPlaysSpec)

/-- 'acreagelaw29.NetKnown', WHERE WHAT IT READS IS OF BULK AT MOST 1048576: true; the input reads as it did. -/
def netKnownUptoRow : OpenClaim := { program := "ytgccdndlpjbkhaa", sum := "b10df640b6c903decb836cfa100f6935e3cb96e38198ec97f62088886846aa65", func := "acreage/acreagelaw29.NetKnown", spec := "netKnown", apart := false, narrowed := true }
def NetKnownUptoSaid : Prop := netKnownUptoRow.holds Try.pinned (OpenSpec.upto netKnownSpec)

/-- 'acreagelaw09.BloomMakes', WHERE WHAT IT READS IS OF BULK AT MOST 1048576: true; the input reads as it did. -/
def bloomMakesUptoRow : OpenClaim := { program := "ytgccdndlpjbkhaa", sum := "b10df640b6c903decb836cfa100f6935e3cb96e38198ec97f62088886846aa65", func := "acreage/acreagelaw09.BloomMakes", spec := "bloomMakes", unfollowed := true, recurses := true, apart := false, narrowed := true }
def BloomMakesUptoSaid : Prop := bloomMakesUptoRow.holds Try.pinned (OpenSpec.upto bloomMakesSpec)

/-- 'acreagelaw09.BloomAsks', WHERE WHAT IT READS IS OF BULK AT MOST 1048576: true; the input reads as it did. -/
def bloomAsksUptoRow : OpenClaim := { program := "ytgccdndlpjbkhaa", sum := "b10df640b6c903decb836cfa100f6935e3cb96e38198ec97f62088886846aa65", func := "acreage/acreagelaw09.BloomAsks", spec := "bloomAsks", unfollowed := true, recurses := true, apart := false, narrowed := true }
def BloomAsksUptoSaid : Prop := bloomAsksUptoRow.holds Try.pinned (OpenSpec.upto bloomAsksSpec)

/-- 'acreagelaw09.BloomNever', WHERE WHAT IT READS IS OF BULK AT MOST 1048576: true; the input reads as it did. -/
def bloomNeverUptoRow : OpenClaim := { program := "ytgccdndlpjbkhaa", sum := "b10df640b6c903decb836cfa100f6935e3cb96e38198ec97f62088886846aa65", func := "acreage/acreagelaw09.BloomNever", spec := "bloomNever", unfollowed := true, recurses := true, apart := false, narrowed := true }
def BloomNeverUptoSaid : Prop := bloomNeverUptoRow.holds Try.pinned (OpenSpec.upto bloomNeverSpec)

/-- 'acreagelaw09.BloomMore', WHERE WHAT IT READS IS OF BULK AT MOST 1048576: true; the input reads as it did. -/
def bloomMoreUptoRow : OpenClaim := { program := "ytgccdndlpjbkhaa", sum := "b10df640b6c903decb836cfa100f6935e3cb96e38198ec97f62088886846aa65", func := "acreage/acreagelaw09.BloomMore", spec := "bloomMore", unfollowed := true, recurses := true, apart := false, narrowed := true }
def BloomMoreUptoSaid : Prop := bloomMoreUptoRow.holds Try.pinned (OpenSpec.upto bloomMoreSpec)

/-- 'acreagelaw09.BloomKnown', WHERE WHAT IT READS IS OF BULK AT MOST 1048576: true; the input reads as it did. -/
def bloomKnownUptoRow : OpenClaim := { program := "ytgccdndlpjbkhaa", sum := "b10df640b6c903decb836cfa100f6935e3cb96e38198ec97f62088886846aa65", func := "acreage/acreagelaw09.BloomKnown", spec := "bloomKnown", unfollowed := true, recurses := true, apart := false, narrowed := true }
def BloomKnownUptoSaid : Prop := bloomKnownUptoRow.holds Try.pinned (OpenSpec.upto bloomKnownSpec)

end Rows
end Go.Proofs.Ytgccdndlpjbkhaa
