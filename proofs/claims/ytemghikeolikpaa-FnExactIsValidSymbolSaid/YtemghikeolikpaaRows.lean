/-
  No cell of these rows narrows 'for every input' (looked for: loops, veiled, ifaces, maps, wideKeys, modest, calm, conditions, laid).
  DERIVED. THE GIVEN ROWS OF THIS SEAT. 9 by the template 'for every input the law returns true; each argument reads behind the call as it read before'; 0 by the template 'total and deterministic' (their statements: YtemghikeolikpaaTotals.lean).
  GIVEN WITH THE SEED: the statements are not yours to turn. If you find one false, say at which input.
  Laid BY PROGRAM, IN A SANDBOX (cutbox-rows.mjs): the forced cells as the released guide's own fill.sh prints them over the translation c886f939ef77aba0… (all of the seat's roots in one cut). By AI agents, Wed Nov 11 2026. No macro, syntax, notation, axiom, sorry.
-/
import Derived.Test.YtemghikeolikpaaChecked
import GoSem.Claim
import GoSem.ClaimJoined
import GoSem.ClaimMapViews
import Derived.JoinedTies
import Derived.KernelRfl
namespace Go.Proofs.Ytemghikeolikpaa
/- THE CELL 'sum', in the pinned program and in every row, IS THE sha256 OF THE DUMP (.gsa) THAT YtemghikeolikpaaProg.lean LOADS. Nothing in Lean hashes anything: it is a label: what it is worth is what the hold of that sum in a sandbox is worth. -/
noncomputable def Try.pinned : Pinned := { name := "ytemghikeolikpaa", sum := "c886f939ef77aba0bf58e8ce5e07a8d61f2bb825b9a3f815bf971f3fe5e615d8", checked := Try.checked }
namespace Rows
def none {H : Type} : Left H := { results := [], args := [] }

/-- 'laws.FnExactIsReserved': WHATEVER THE INPUT: true; the input reads as it did. -/
def fnExactIsReservedSpec : ChangeSpec := { name := "fnExactIsReserved", fn := fun _ => fun
  | [d] => { results := [.lit (.bool true)], args := [d] }
  | _ => none }
def fnExactIsReservedRow : OpenClaim := { program := "ytemghikeolikpaa", sum := "c886f939ef77aba0bf58e8ce5e07a8d61f2bb825b9a3f815bf971f3fe5e615d8", func := "loop.example/g00512/laws.FnExactIsReserved", spec := "fnExactIsReserved", apart := false }
def FnExactIsReservedSaid : Prop := fnExactIsReservedRow.holds Try.pinned (OpenSpec.ofChange fnExactIsReservedSpec)

/-- ITS FALSE NEIGHBOUR: 'it returns false'. Refute it at one input. -/
def fnExactIsReservedWrong : ChangeSpec := { name := "fnExactIsReserved", fn := fun _ => fun
  | [d] => { results := [.lit (.bool false)], args := [d] }
  | _ => none }
def FnExactIsReservedWrongFalsely : Prop := fnExactIsReservedRow.holds Try.pinned (OpenSpec.ofChange fnExactIsReservedWrong)

/-- 'laws.FnExactIsWord': WHATEVER THE INPUT: true; the input reads as it did. -/
def fnExactIsWordSpec : ChangeSpec := { name := "fnExactIsWord", fn := fun _ => fun
  | [d1, d2] => { results := [.lit (.bool true)], args := [d1, d2] }
  | _ => none }
def fnExactIsWordRow : OpenClaim := { program := "ytemghikeolikpaa", sum := "c886f939ef77aba0bf58e8ce5e07a8d61f2bb825b9a3f815bf971f3fe5e615d8", func := "loop.example/g00512/laws.FnExactIsWord", spec := "fnExactIsWord", apart := false }
def FnExactIsWordSaid : Prop := fnExactIsWordRow.holds Try.pinned (OpenSpec.ofChange fnExactIsWordSpec)

/-- ITS FALSE NEIGHBOUR: 'it returns false'. Refute it at one input. -/
def fnExactIsWordWrong : ChangeSpec := { name := "fnExactIsWord", fn := fun _ => fun
  | [d1, d2] => { results := [.lit (.bool false)], args := [d1, d2] }
  | _ => none }
def FnExactIsWordWrongFalsely : Prop := fnExactIsWordRow.holds Try.pinned (OpenSpec.ofChange fnExactIsWordWrong)

/-- 'laws.FnExactIsValidName': WHATEVER THE INPUT: true; the input reads as it did. -/
def fnExactIsValidNameSpec : ChangeSpec := { name := "fnExactIsValidName", fn := fun _ => fun
  | [d] => { results := [.lit (.bool true)], args := [d] }
  | _ => none }
def fnExactIsValidNameRow : OpenClaim := { program := "ytemghikeolikpaa", sum := "c886f939ef77aba0bf58e8ce5e07a8d61f2bb825b9a3f815bf971f3fe5e615d8", func := "loop.example/g00512/laws.FnExactIsValidName", spec := "fnExactIsValidName", apart := false }
def FnExactIsValidNameSaid : Prop := fnExactIsValidNameRow.holds Try.pinned (OpenSpec.ofChange fnExactIsValidNameSpec)

/-- ITS FALSE NEIGHBOUR: 'it returns false'. Refute it at one input. -/
def fnExactIsValidNameWrong : ChangeSpec := { name := "fnExactIsValidName", fn := fun _ => fun
  | [d] => { results := [.lit (.bool false)], args := [d] }
  | _ => none }
def FnExactIsValidNameWrongFalsely : Prop := fnExactIsValidNameRow.holds Try.pinned (OpenSpec.ofChange fnExactIsValidNameWrong)

/-- 'laws.FnExactIndexOf': WHATEVER THE INPUT: true; the input reads as it did. -/
def fnExactIndexOfSpec : ChangeSpec := { name := "fnExactIndexOf", fn := fun _ => fun
  | [d1, d2] => { results := [.lit (.bool true)], args := [d1, d2] }
  | _ => none }
def fnExactIndexOfRow : OpenClaim := { program := "ytemghikeolikpaa", sum := "c886f939ef77aba0bf58e8ce5e07a8d61f2bb825b9a3f815bf971f3fe5e615d8", func := "loop.example/g00512/laws.FnExactIndexOf", spec := "fnExactIndexOf", apart := false }
def FnExactIndexOfSaid : Prop := fnExactIndexOfRow.holds Try.pinned (OpenSpec.ofChange fnExactIndexOfSpec)

/-- ITS FALSE NEIGHBOUR: 'it returns false'. Refute it at one input. -/
def fnExactIndexOfWrong : ChangeSpec := { name := "fnExactIndexOf", fn := fun _ => fun
  | [d1, d2] => { results := [.lit (.bool false)], args := [d1, d2] }
  | _ => none }
def FnExactIndexOfWrongFalsely : Prop := fnExactIndexOfRow.holds Try.pinned (OpenSpec.ofChange fnExactIndexOfWrong)

/-- 'laws.FnExactIsValidAttribute': WHATEVER THE INPUT: true; the input reads as it did. -/
def fnExactIsValidAttributeSpec : ChangeSpec := { name := "fnExactIsValidAttribute", fn := fun _ => fun
  | [d] => { results := [.lit (.bool true)], args := [d] }
  | _ => none }
def fnExactIsValidAttributeRow : OpenClaim := { program := "ytemghikeolikpaa", sum := "c886f939ef77aba0bf58e8ce5e07a8d61f2bb825b9a3f815bf971f3fe5e615d8", func := "loop.example/g00512/laws.FnExactIsValidAttribute", spec := "fnExactIsValidAttribute", apart := false }
def FnExactIsValidAttributeSaid : Prop := fnExactIsValidAttributeRow.holds Try.pinned (OpenSpec.ofChange fnExactIsValidAttributeSpec)

/-- ITS FALSE NEIGHBOUR: 'it returns false'. Refute it at one input. -/
def fnExactIsValidAttributeWrong : ChangeSpec := { name := "fnExactIsValidAttribute", fn := fun _ => fun
  | [d] => { results := [.lit (.bool false)], args := [d] }
  | _ => none }
def FnExactIsValidAttributeWrongFalsely : Prop := fnExactIsValidAttributeRow.holds Try.pinned (OpenSpec.ofChange fnExactIsValidAttributeWrong)

/-- 'laws.FnExactWithout': WHATEVER THE INPUT: true; the input reads as it did. -/
def fnExactWithoutSpec : ChangeSpec := { name := "fnExactWithout", fn := fun _ => fun
  | [d1, d2] => { results := [.lit (.bool true)], args := [d1, d2] }
  | _ => none }
def fnExactWithoutRow : OpenClaim := { program := "ytemghikeolikpaa", sum := "c886f939ef77aba0bf58e8ce5e07a8d61f2bb825b9a3f815bf971f3fe5e615d8", func := "loop.example/g00512/laws.FnExactWithout", spec := "fnExactWithout", apart := false }
def FnExactWithoutSaid : Prop := fnExactWithoutRow.holds Try.pinned (OpenSpec.ofChange fnExactWithoutSpec)

/-- ITS FALSE NEIGHBOUR: 'it returns false'. Refute it at one input. -/
def fnExactWithoutWrong : ChangeSpec := { name := "fnExactWithout", fn := fun _ => fun
  | [d1, d2] => { results := [.lit (.bool false)], args := [d1, d2] }
  | _ => none }
def FnExactWithoutWrongFalsely : Prop := fnExactWithoutRow.holds Try.pinned (OpenSpec.ofChange fnExactWithoutWrong)

/-- 'laws.FnExactJoin': WHATEVER THE INPUT: true; the input reads as it did. -/
def fnExactJoinSpec : ChangeSpec := { name := "fnExactJoin", fn := fun _ => fun
  | [d1, d2] => { results := [.lit (.bool true)], args := [d1, d2] }
  | _ => none }
def fnExactJoinRow : OpenClaim := { program := "ytemghikeolikpaa", sum := "c886f939ef77aba0bf58e8ce5e07a8d61f2bb825b9a3f815bf971f3fe5e615d8", func := "loop.example/g00512/laws.FnExactJoin", spec := "fnExactJoin", inPlace := ["internal/abi.NoEscape", "internal/bytealg.MakeNoZero"], apart := false }
def FnExactJoinSaid : Prop := fnExactJoinRow.holds Try.pinned (OpenSpec.ofChange fnExactJoinSpec)

/-- ITS FALSE NEIGHBOUR: 'it returns false'. Refute it at one input. -/
def fnExactJoinWrong : ChangeSpec := { name := "fnExactJoin", fn := fun _ => fun
  | [d1, d2] => { results := [.lit (.bool false)], args := [d1, d2] }
  | _ => none }
def FnExactJoinWrongFalsely : Prop := fnExactJoinRow.holds Try.pinned (OpenSpec.ofChange fnExactJoinWrong)

/-- 'laws.FnExactFindAttribute': WHATEVER THE INPUT: true; the input reads as it did. -/
def fnExactFindAttributeSpec : ChangeSpec := { name := "fnExactFindAttribute", fn := fun _ => fun
  | [d1, d2] => { results := [.lit (.bool true)], args := [d1, d2] }
  | _ => none }
def fnExactFindAttributeRow : OpenClaim := { program := "ytemghikeolikpaa", sum := "c886f939ef77aba0bf58e8ce5e07a8d61f2bb825b9a3f815bf971f3fe5e615d8", func := "loop.example/g00512/laws.FnExactFindAttribute", spec := "fnExactFindAttribute", apart := false }
def FnExactFindAttributeSaid : Prop := fnExactFindAttributeRow.holds Try.pinned (OpenSpec.ofChange fnExactFindAttributeSpec)

/-- ITS FALSE NEIGHBOUR: 'it returns false'. Refute it at one input. -/
def fnExactFindAttributeWrong : ChangeSpec := { name := "fnExactFindAttribute", fn := fun _ => fun
  | [d1, d2] => { results := [.lit (.bool false)], args := [d1, d2] }
  | _ => none }
def FnExactFindAttributeWrongFalsely : Prop := fnExactFindAttributeRow.holds Try.pinned (OpenSpec.ofChange fnExactFindAttributeWrong)

/-- 'laws.FnExactIsValidSymbol': WHATEVER THE INPUT: true; the input reads as it did. -/
def fnExactIsValidSymbolSpec : ChangeSpec := { name := "fnExactIsValidSymbol", fn := fun _ => fun
  | [d] => { results := [.lit (.bool true)], args := [d] }
  | _ => none }
def fnExactIsValidSymbolRow : OpenClaim := { program := "ytemghikeolikpaa", sum := "c886f939ef77aba0bf58e8ce5e07a8d61f2bb825b9a3f815bf971f3fe5e615d8", func := "loop.example/g00512/laws.FnExactIsValidSymbol", spec := "fnExactIsValidSymbol", unfollowed := true, recurses := true, apart := false }
def FnExactIsValidSymbolSaid : Prop := fnExactIsValidSymbolRow.holds Try.pinned (OpenSpec.ofChange fnExactIsValidSymbolSpec)

/-- ITS FALSE NEIGHBOUR: 'it returns false'. Refute it at one input. -/
def fnExactIsValidSymbolWrong : ChangeSpec := { name := "fnExactIsValidSymbol", fn := fun _ => fun
  | [d] => { results := [.lit (.bool false)], args := [d] }
  | _ => none }
def FnExactIsValidSymbolWrongFalsely : Prop := fnExactIsValidSymbolRow.holds Try.pinned (OpenSpec.ofChange fnExactIsValidSymbolWrong)

/- THE SECOND FORM. 'bulk': how many values and letters a reading holds, each counted each time it is reached (what is shared counts as often as it is met; a slice's spare places count too). A statement '..UptoSaid' is the law's where the arguments, and the package variables that the reading takes, are together of bulk at most 1048576: NARROWER than '..Said'. Prove '..Said' where nothing that the law and all that it calls make is longer than what came in: it says more and counts as full. Else prove '..UptoSaid'. A law counts once. -/
mutual
def uptoBulk {H : Type} : DataW H → Nat
  | .lit (.string bytes) => bytes.length + 1
  | .lit _ => 1
  | .nil => 1
  | .ptr d => uptoBulk d + 1
  | .slice elems spare => uptoBulkAll elems + uptoBulkAll spare + 1
  | .agg parts => uptoBulkAll parts + 1
  | .iface _ d => uptoBulk d + 1
  | .map entries => uptoBulkEntries entries + 1
  | .held _ => 1
def uptoBulkAll {H : Type} : List (DataW H) → Nat
  | [] => 0
  | d :: r => uptoBulk d + uptoBulkAll r
def uptoBulkEntries {H : Type} : List (Lit × DataW H) → Nat
  | [] => 0
  | x :: r => uptoBulkEntry x + uptoBulkEntries r
def uptoBulkEntry {H : Type} : Lit × DataW H → Nat
  | (.string bytes, d) => bytes.length + uptoBulk d + 1
  | (_, d) => uptoBulk d + 1
 end
def uptoSmall : (H : Type) → List (DataW H) → Bool := fun _ ds => decide (uptoBulkAll ds ≤ 1048576)
def OpenSpec.upto (s : _root_.Go.ChangeSpec) : _root_.Go.OpenSpec := { _root_.Go.OpenSpec.ofChange s with cond := some uptoSmall }

/-- 'laws.FnExactIsReserved', WHERE WHAT IT READS IS OF BULK AT MOST 1048576: true; the input reads as it did. -/
def fnExactIsReservedUptoRow : OpenClaim := { program := "ytemghikeolikpaa", sum := "c886f939ef77aba0bf58e8ce5e07a8d61f2bb825b9a3f815bf971f3fe5e615d8", func := "loop.example/g00512/laws.FnExactIsReserved", spec := "fnExactIsReserved", apart := false, narrowed := true }
def FnExactIsReservedUptoSaid : Prop := fnExactIsReservedUptoRow.holds Try.pinned (OpenSpec.upto fnExactIsReservedSpec)

/-- 'laws.FnExactIsWord', WHERE WHAT IT READS IS OF BULK AT MOST 1048576: true; the input reads as it did. -/
def fnExactIsWordUptoRow : OpenClaim := { program := "ytemghikeolikpaa", sum := "c886f939ef77aba0bf58e8ce5e07a8d61f2bb825b9a3f815bf971f3fe5e615d8", func := "loop.example/g00512/laws.FnExactIsWord", spec := "fnExactIsWord", apart := false, narrowed := true }
def FnExactIsWordUptoSaid : Prop := fnExactIsWordUptoRow.holds Try.pinned (OpenSpec.upto fnExactIsWordSpec)

/-- 'laws.FnExactIsValidName', WHERE WHAT IT READS IS OF BULK AT MOST 1048576: true; the input reads as it did. -/
def fnExactIsValidNameUptoRow : OpenClaim := { program := "ytemghikeolikpaa", sum := "c886f939ef77aba0bf58e8ce5e07a8d61f2bb825b9a3f815bf971f3fe5e615d8", func := "loop.example/g00512/laws.FnExactIsValidName", spec := "fnExactIsValidName", apart := false, narrowed := true }
def FnExactIsValidNameUptoSaid : Prop := fnExactIsValidNameUptoRow.holds Try.pinned (OpenSpec.upto fnExactIsValidNameSpec)

/-- 'laws.FnExactIndexOf', WHERE WHAT IT READS IS OF BULK AT MOST 1048576: true; the input reads as it did. -/
def fnExactIndexOfUptoRow : OpenClaim := { program := "ytemghikeolikpaa", sum := "c886f939ef77aba0bf58e8ce5e07a8d61f2bb825b9a3f815bf971f3fe5e615d8", func := "loop.example/g00512/laws.FnExactIndexOf", spec := "fnExactIndexOf", apart := false, narrowed := true }
def FnExactIndexOfUptoSaid : Prop := fnExactIndexOfUptoRow.holds Try.pinned (OpenSpec.upto fnExactIndexOfSpec)

/-- 'laws.FnExactIsValidAttribute', WHERE WHAT IT READS IS OF BULK AT MOST 1048576: true; the input reads as it did. -/
def fnExactIsValidAttributeUptoRow : OpenClaim := { program := "ytemghikeolikpaa", sum := "c886f939ef77aba0bf58e8ce5e07a8d61f2bb825b9a3f815bf971f3fe5e615d8", func := "loop.example/g00512/laws.FnExactIsValidAttribute", spec := "fnExactIsValidAttribute", apart := false, narrowed := true }
def FnExactIsValidAttributeUptoSaid : Prop := fnExactIsValidAttributeUptoRow.holds Try.pinned (OpenSpec.upto fnExactIsValidAttributeSpec)

/-- 'laws.FnExactWithout', WHERE WHAT IT READS IS OF BULK AT MOST 1048576: true; the input reads as it did. -/
def fnExactWithoutUptoRow : OpenClaim := { program := "ytemghikeolikpaa", sum := "c886f939ef77aba0bf58e8ce5e07a8d61f2bb825b9a3f815bf971f3fe5e615d8", func := "loop.example/g00512/laws.FnExactWithout", spec := "fnExactWithout", apart := false, narrowed := true }
def FnExactWithoutUptoSaid : Prop := fnExactWithoutUptoRow.holds Try.pinned (OpenSpec.upto fnExactWithoutSpec)

/-- 'laws.FnExactJoin', WHERE WHAT IT READS IS OF BULK AT MOST 1048576: true; the input reads as it did. -/
def fnExactJoinUptoRow : OpenClaim := { program := "ytemghikeolikpaa", sum := "c886f939ef77aba0bf58e8ce5e07a8d61f2bb825b9a3f815bf971f3fe5e615d8", func := "loop.example/g00512/laws.FnExactJoin", spec := "fnExactJoin", inPlace := ["internal/abi.NoEscape", "internal/bytealg.MakeNoZero"], apart := false, narrowed := true }
def FnExactJoinUptoSaid : Prop := fnExactJoinUptoRow.holds Try.pinned (OpenSpec.upto fnExactJoinSpec)

/-- 'laws.FnExactFindAttribute', WHERE WHAT IT READS IS OF BULK AT MOST 1048576: true; the input reads as it did. -/
def fnExactFindAttributeUptoRow : OpenClaim := { program := "ytemghikeolikpaa", sum := "c886f939ef77aba0bf58e8ce5e07a8d61f2bb825b9a3f815bf971f3fe5e615d8", func := "loop.example/g00512/laws.FnExactFindAttribute", spec := "fnExactFindAttribute", apart := false, narrowed := true }
def FnExactFindAttributeUptoSaid : Prop := fnExactFindAttributeUptoRow.holds Try.pinned (OpenSpec.upto fnExactFindAttributeSpec)

/-- 'laws.FnExactIsValidSymbol', WHERE WHAT IT READS IS OF BULK AT MOST 1048576: true; the input reads as it did. -/
def fnExactIsValidSymbolUptoRow : OpenClaim := { program := "ytemghikeolikpaa", sum := "c886f939ef77aba0bf58e8ce5e07a8d61f2bb825b9a3f815bf971f3fe5e615d8", func := "loop.example/g00512/laws.FnExactIsValidSymbol", spec := "fnExactIsValidSymbol", unfollowed := true, recurses := true, apart := false, narrowed := true }
def FnExactIsValidSymbolUptoSaid : Prop := fnExactIsValidSymbolUptoRow.holds Try.pinned (OpenSpec.upto fnExactIsValidSymbolSpec)

end Rows
end Go.Proofs.Ytemghikeolikpaa
