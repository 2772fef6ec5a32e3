/-
  No cell of these rows narrows 'for every input' (looked for: loops, veiled, ifaces, maps, wideKeys, modest, calm, conditions, laid).
  DERIVED. THE GIVEN ROWS OF THIS SEAT. 3 by the template 'for every input the law returns true; each argument reads behind the call as it read before'; 0 by the template 'total and deterministic' (their statements: YtbhgadaphmaplaaTotals.lean).
  GIVEN WITH THE SEED: the statements are not yours to turn. If you find one false, say at which input.
  Laid BY PROGRAM, IN A SANDBOX (cutbox-rows.mjs): the forced cells as the released guide's own fill.sh prints them over the translation f0e4b1c274301df0… (all of the seat's roots in one cut). By AI agents, Wed Nov 11 2026. No macro, syntax, notation, axiom, sorry.
-/
import Derived.Test.YtbhgadaphmaplaaChecked
import GoSem.Claim
import GoSem.ClaimJoined
import GoSem.ClaimMapViews
import Derived.JoinedTies
import Derived.KernelRfl
namespace Go.Proofs.Ytbhgadaphmaplaa
/- THE CELL 'sum', in the pinned program and in every row, IS THE sha256 OF THE DUMP (.gsa) THAT YtbhgadaphmaplaaProg.lean LOADS. Nothing in Lean hashes anything: it is a label: what it is worth is what the hold of that sum in a sandbox is worth. -/
noncomputable def Try.pinned : Pinned := { name := "ytbhgadaphmaplaa", sum := "f0e4b1c274301df0ddd7b96c7b53bc16dd829a3abf13a4cedd3ad507ce2cefa9", checked := Try.checked }
namespace Rows
def none {H : Type} : Left H := { results := [], args := [] }

/-- 'laws.FnExactJoin': WHATEVER THE INPUT: true; the input reads as it did. -/
def fnExactJoinSpec : ChangeSpec := { name := "fnExactJoin", fn := fun _ => fun
  | [d1, d2] => { results := [.lit (.bool true)], args := [d1, d2] }
  | _ => none }
def fnExactJoinRow : OpenClaim := { program := "ytbhgadaphmaplaa", sum := "f0e4b1c274301df0ddd7b96c7b53bc16dd829a3abf13a4cedd3ad507ce2cefa9", func := "loop.example/g00512/laws.FnExactJoin", spec := "fnExactJoin", inPlace := ["internal/abi.NoEscape", "internal/bytealg.MakeNoZero"], apart := false }
def FnExactJoinSaid : Prop := fnExactJoinRow.holds Try.pinned (OpenSpec.ofChange fnExactJoinSpec)

/-- ITS FALSE NEIGHBOUR: 'it returns false'. Refute it at one input. -/
def fnExactJoinWrong : ChangeSpec := { name := "fnExactJoin", fn := fun _ => fun
  | [d1, d2] => { results := [.lit (.bool false)], args := [d1, d2] }
  | _ => none }
def FnExactJoinWrongFalsely : Prop := fnExactJoinRow.holds Try.pinned (OpenSpec.ofChange fnExactJoinWrong)

/-- 'laws.FnExactAllDistinct': WHATEVER THE INPUT: true; the input reads as it did. -/
def fnExactAllDistinctSpec : ChangeSpec := { name := "fnExactAllDistinct", fn := fun _ => fun
  | [d] => { results := [.lit (.bool true)], args := [d] }
  | _ => none }
def fnExactAllDistinctRow : OpenClaim := { program := "ytbhgadaphmaplaa", sum := "f0e4b1c274301df0ddd7b96c7b53bc16dd829a3abf13a4cedd3ad507ce2cefa9", func := "loop.example/g00512/laws.FnExactAllDistinct", spec := "fnExactAllDistinct", recurses := true, apart := false }
def FnExactAllDistinctSaid : Prop := fnExactAllDistinctRow.holds Try.pinned (OpenSpec.ofChange fnExactAllDistinctSpec)

/-- ITS FALSE NEIGHBOUR: 'it returns false'. Refute it at one input. -/
def fnExactAllDistinctWrong : ChangeSpec := { name := "fnExactAllDistinct", fn := fun _ => fun
  | [d] => { results := [.lit (.bool false)], args := [d] }
  | _ => none }
def FnExactAllDistinctWrongFalsely : Prop := fnExactAllDistinctRow.holds Try.pinned (OpenSpec.ofChange fnExactAllDistinctWrong)

/-- 'laws.FnExactSortNames': WHATEVER THE INPUT: true; the input reads as it did. -/
def fnExactSortNamesSpec : ChangeSpec := { name := "fnExactSortNames", fn := fun _ => fun
  | [d] => { results := [.lit (.bool true)], args := [d] }
  | _ => none }
def fnExactSortNamesRow : OpenClaim := { program := "ytbhgadaphmaplaa", sum := "f0e4b1c274301df0ddd7b96c7b53bc16dd829a3abf13a4cedd3ad507ce2cefa9", func := "loop.example/g00512/laws.FnExactSortNames", spec := "fnExactSortNames", recurses := true, apart := false }
def FnExactSortNamesSaid : Prop := fnExactSortNamesRow.holds Try.pinned (OpenSpec.ofChange fnExactSortNamesSpec)

/-- ITS FALSE NEIGHBOUR: 'it returns false'. Refute it at one input. -/
def fnExactSortNamesWrong : ChangeSpec := { name := "fnExactSortNames", fn := fun _ => fun
  | [d] => { results := [.lit (.bool false)], args := [d] }
  | _ => none }
def FnExactSortNamesWrongFalsely : Prop := fnExactSortNamesRow.holds Try.pinned (OpenSpec.ofChange fnExactSortNamesWrong)

/- THE SECOND FORM. 'bulk': how many values and letters a reading holds, each counted each time it is reached (what is shared counts as often as it is met; a slice's spare places count too). A statement '..UptoSaid' is the law's where the arguments, and the package variables that the reading takes, are together of bulk at most 1048576: NARROWER than '..Said'. Prove '..Said' where nothing that the law and all that it calls make is longer than what came in: it says more and counts as full. Else prove '..UptoSaid'. A law counts once. -/
mutual
def uptoBulk {H : Type} : DataW H → Nat
  | .lit (.string bytes) => bytes.length + 1
  | .lit _ => 1
  | .nil => 1
  | .ptr d => uptoBulk d + 1
  | .slice elems spare => uptoBulkAll elems + uptoBulkAll spare + 1
  | .agg parts => uptoBulkAll parts + 1
  | .iface _ d => uptoBulk d + 1
  | .map entries => uptoBulkEntries entries + 1
  | .held _ => 1
def uptoBulkAll {H : Type} : List (DataW H) → Nat
  | [] => 0
  | d :: r => uptoBulk d + uptoBulkAll r
def uptoBulkEntries {H : Type} : List (Lit × DataW H) → Nat
  | [] => 0
  | x :: r => uptoBulkEntry x + uptoBulkEntries r
def uptoBulkEntry {H : Type} : Lit × DataW H → Nat
  | (.string bytes, d) => bytes.length + uptoBulk d + 1
  | (_, d) => uptoBulk d + 1
 end
def uptoSmall : (H : Type) → List (DataW H) → Bool := fun _ ds => decide (uptoBulkAll ds ≤ 1048576)
def OpenSpec.upto (s : _root_.Go.ChangeSpec) : _root_.Go.OpenSpec := { _root_.Go.OpenSpec.ofChange s with cond := some uptoSmall }

/-- 'laws.FnExactJoin', WHERE WHAT IT READS IS OF BULK AT MOST 1048576: true; the input reads as it did. -/
def fnExactJoinUptoRow : OpenClaim := { program := "ytbhgadaphmaplaa", sum := "f0e4b1c274301df0ddd7b96c7b53bc16dd829a3abf13a4cedd3ad507ce2cefa9", func := "loop.example/g00512/laws.FnExactJoin", spec := "fnExactJoin", inPlace := ["internal/abi.NoEscape", "internal/bytealg.MakeNoZero"], apart := false, narrowed := true }
def FnExactJoinUptoSaid : Prop := fnExactJoinUptoRow.holds Try.pinned (OpenSpec.upto fnExactJoinSpec)

/-- 'laws.FnExactAllDistinct', WHERE WHAT IT READS IS OF BULK AT MOST 1048576: true; the input reads as it did. -/
def fnExactAllDistinctUptoRow : OpenClaim := { program := "ytbhgadaphmaplaa", sum := "f0e4b1c274301df0ddd7b96c7b53bc16dd829a3abf13a4cedd3ad507ce2cefa9", func := "loop.example/g00512/laws.FnExactAllDistinct", spec := "fnExactAllDistinct", recurses := true, apart := false, narrowed := true }
def FnExactAllDistinctUptoSaid : Prop := fnExactAllDistinctUptoRow.holds Try.pinned (OpenSpec.upto fnExactAllDistinctSpec)

/-- 'laws.FnExactSortNames', WHERE WHAT IT READS IS OF BULK AT MOST 1048576: true; the input reads as it did. -/
def fnExactSortNamesUptoRow : OpenClaim := { program := "ytbhgadaphmaplaa", sum := "f0e4b1c274301df0ddd7b96c7b53bc16dd829a3abf13a4cedd3ad507ce2cefa9", func := "loop.example/g00512/laws.FnExactSortNames", spec := "fnExactSortNames", recurses := true, apart := false, narrowed := true }
def FnExactSortNamesUptoSaid : Prop := fnExactSortNamesUptoRow.holds Try.pinned (OpenSpec.upto fnExactSortNamesSpec)

end Rows
end Go.Proofs.Ytbhgadaphmaplaa
