/-
  No cell of these rows narrows 'for every input' (looked for: loops, veiled, ifaces, maps, wideKeys, modest, calm, conditions, laid).
  DERIVED. THE GIVEN ROWS OF THIS SEAT. 12 by the template 'for every input the law returns true; each argument reads behind the call as it read before'; 0 by the template 'total and deterministic' (their statements: YtekojohhjnklkaaTotals.lean).
  GIVEN WITH THE SEED: the statements are not yours to turn. If you find one false, say at which input.
  Laid BY PROGRAM, IN A SANDBOX (cutbox-rows.mjs): the forced cells as the released guide's own fill.sh prints them over the translation 57ca7efa7dcf7124… (all of the seat's roots in one cut). By AI agents, Wed Nov 11 2026. No macro, syntax, notation, axiom, sorry.
-/
import Derived.Test.YtekojohhjnklkaaChecked
import GoSem.Claim
import GoSem.ClaimJoined
import GoSem.ClaimMapViews
import Derived.JoinedTies
import Derived.KernelRfl
namespace Go.Proofs.Ytekojohhjnklkaa
/- THE CELL 'sum', in the pinned program and in every row, IS THE sha256 OF THE DUMP (.gsa) THAT YtekojohhjnklkaaProg.lean LOADS. Nothing in Lean hashes anything: it is a label: what it is worth is what the hold of that sum in a sandbox is worth. -/
noncomputable def Try.pinned : Pinned := { name := "ytekojohhjnklkaa", sum := "57ca7efa7dcf71249b895d3782fbd9af4cc9f4bc303914daf7438e84fade107a", checked := Try.checked }
namespace Rows
def none {H : Type} : Left H := { results := [], args := [] }

/-- 'laws.FnExactTableauOk': WHATEVER THE INPUT: true; the input reads as it did. -/
def fnExactTableauOkSpec : ChangeSpec := { name := "fnExactTableauOk", fn := fun _ => fun
  | [d] => { results := [.lit (.bool true)], args := [d] }
  | _ => none }
def fnExactTableauOkRow : OpenClaim := { program := "ytekojohhjnklkaa", sum := "57ca7efa7dcf71249b895d3782fbd9af4cc9f4bc303914daf7438e84fade107a", func := "loop.example/g03110/laws.FnExactTableauOk", spec := "fnExactTableauOk", apart := false }
def FnExactTableauOkSaid : Prop := fnExactTableauOkRow.holds Try.pinned (OpenSpec.ofChange fnExactTableauOkSpec)

/-- ITS FALSE NEIGHBOUR: 'it returns false'. Refute it at one input. -/
def fnExactTableauOkWrong : ChangeSpec := { name := "fnExactTableauOk", fn := fun _ => fun
  | [d] => { results := [.lit (.bool false)], args := [d] }
  | _ => none }
def FnExactTableauOkWrongFalsely : Prop := fnExactTableauOkRow.holds Try.pinned (OpenSpec.ofChange fnExactTableauOkWrong)

/-- 'laws.FnExactRadauNodes': WHATEVER THE INPUT: true; the input reads as it did. -/
def fnExactRadauNodesSpec : ChangeSpec := { name := "fnExactRadauNodes", fn := fun _ => fun
  | [d] => { results := [.lit (.bool true)], args := [d] }
  | _ => none }
def fnExactRadauNodesRow : OpenClaim := { program := "ytekojohhjnklkaa", sum := "57ca7efa7dcf71249b895d3782fbd9af4cc9f4bc303914daf7438e84fade107a", func := "loop.example/g03110/laws.FnExactRadauNodes", spec := "fnExactRadauNodes", apart := false }
def FnExactRadauNodesSaid : Prop := fnExactRadauNodesRow.holds Try.pinned (OpenSpec.ofChange fnExactRadauNodesSpec)

/-- ITS FALSE NEIGHBOUR: 'it returns false'. Refute it at one input. -/
def fnExactRadauNodesWrong : ChangeSpec := { name := "fnExactRadauNodes", fn := fun _ => fun
  | [d] => { results := [.lit (.bool false)], args := [d] }
  | _ => none }
def FnExactRadauNodesWrongFalsely : Prop := fnExactRadauNodesRow.holds Try.pinned (OpenSpec.ofChange fnExactRadauNodesWrong)

/-- 'laws.FnExactLobattoNodes': WHATEVER THE INPUT: true; the input reads as it did. -/
def fnExactLobattoNodesSpec : ChangeSpec := { name := "fnExactLobattoNodes", fn := fun _ => fun
  | [d] => { results := [.lit (.bool true)], args := [d] }
  | _ => none }
def fnExactLobattoNodesRow : OpenClaim := { program := "ytekojohhjnklkaa", sum := "57ca7efa7dcf71249b895d3782fbd9af4cc9f4bc303914daf7438e84fade107a", func := "loop.example/g03110/laws.FnExactLobattoNodes", spec := "fnExactLobattoNodes", apart := false }
def FnExactLobattoNodesSaid : Prop := fnExactLobattoNodesRow.holds Try.pinned (OpenSpec.ofChange fnExactLobattoNodesSpec)

/-- ITS FALSE NEIGHBOUR: 'it returns false'. Refute it at one input. -/
def fnExactLobattoNodesWrong : ChangeSpec := { name := "fnExactLobattoNodes", fn := fun _ => fun
  | [d] => { results := [.lit (.bool false)], args := [d] }
  | _ => none }
def FnExactLobattoNodesWrongFalsely : Prop := fnExactLobattoNodesRow.holds Try.pinned (OpenSpec.ofChange fnExactLobattoNodesWrong)

/-- 'laws.FnExactKindOf': WHATEVER THE INPUT: true; the input reads as it did. -/
def fnExactKindOfSpec : ChangeSpec := { name := "fnExactKindOf", fn := fun _ => fun
  | [d] => { results := [.lit (.bool true)], args := [d] }
  | _ => none }
def fnExactKindOfRow : OpenClaim := { program := "ytekojohhjnklkaa", sum := "57ca7efa7dcf71249b895d3782fbd9af4cc9f4bc303914daf7438e84fade107a", func := "loop.example/g03110/laws.FnExactKindOf", spec := "fnExactKindOf", apart := false }
def FnExactKindOfSaid : Prop := fnExactKindOfRow.holds Try.pinned (OpenSpec.ofChange fnExactKindOfSpec)

/-- ITS FALSE NEIGHBOUR: 'it returns false'. Refute it at one input. -/
def fnExactKindOfWrong : ChangeSpec := { name := "fnExactKindOf", fn := fun _ => fun
  | [d] => { results := [.lit (.bool false)], args := [d] }
  | _ => none }
def FnExactKindOfWrongFalsely : Prop := fnExactKindOfRow.holds Try.pinned (OpenSpec.ofChange fnExactKindOfWrong)

/-- 'laws.FnExactGaussNodes': WHATEVER THE INPUT: true; the input reads as it did. -/
def fnExactGaussNodesSpec : ChangeSpec := { name := "fnExactGaussNodes", fn := fun _ => fun
  | [d] => { results := [.lit (.bool true)], args := [d] }
  | _ => none }
def fnExactGaussNodesRow : OpenClaim := { program := "ytekojohhjnklkaa", sum := "57ca7efa7dcf71249b895d3782fbd9af4cc9f4bc303914daf7438e84fade107a", func := "loop.example/g03110/laws.FnExactGaussNodes", spec := "fnExactGaussNodes", apart := false }
def FnExactGaussNodesSaid : Prop := fnExactGaussNodesRow.holds Try.pinned (OpenSpec.ofChange fnExactGaussNodesSpec)

/-- ITS FALSE NEIGHBOUR: 'it returns false'. Refute it at one input. -/
def fnExactGaussNodesWrong : ChangeSpec := { name := "fnExactGaussNodes", fn := fun _ => fun
  | [d] => { results := [.lit (.bool false)], args := [d] }
  | _ => none }
def FnExactGaussNodesWrongFalsely : Prop := fnExactGaussNodesRow.holds Try.pinned (OpenSpec.ofChange fnExactGaussNodesWrong)

/-- 'laws.FnExactNodesOf': WHATEVER THE INPUT: true; the input reads as it did. -/
def fnExactNodesOfSpec : ChangeSpec := { name := "fnExactNodesOf", fn := fun _ => fun
  | [d] => { results := [.lit (.bool true)], args := [d] }
  | _ => none }
def fnExactNodesOfRow : OpenClaim := { program := "ytekojohhjnklkaa", sum := "57ca7efa7dcf71249b895d3782fbd9af4cc9f4bc303914daf7438e84fade107a", func := "loop.example/g03110/laws.FnExactNodesOf", spec := "fnExactNodesOf", apart := false }
def FnExactNodesOfSaid : Prop := fnExactNodesOfRow.holds Try.pinned (OpenSpec.ofChange fnExactNodesOfSpec)

/-- ITS FALSE NEIGHBOUR: 'it returns false'. Refute it at one input. -/
def fnExactNodesOfWrong : ChangeSpec := { name := "fnExactNodesOf", fn := fun _ => fun
  | [d] => { results := [.lit (.bool false)], args := [d] }
  | _ => none }
def FnExactNodesOfWrongFalsely : Prop := fnExactNodesOfRow.holds Try.pinned (OpenSpec.ofChange fnExactNodesOfWrong)

/-- 'laws.FnExactScaleTableau': WHATEVER THE INPUT: true; the input reads as it did. -/
def fnExactScaleTableauSpec : ChangeSpec := { name := "fnExactScaleTableau", fn := fun _ => fun
  | [d1, d2] => { results := [.lit (.bool true)], args := [d1, d2] }
  | _ => none }
def fnExactScaleTableauRow : OpenClaim := { program := "ytekojohhjnklkaa", sum := "57ca7efa7dcf71249b895d3782fbd9af4cc9f4bc303914daf7438e84fade107a", func := "loop.example/g03110/laws.FnExactScaleTableau", spec := "fnExactScaleTableau", apart := false }
def FnExactScaleTableauSaid : Prop := fnExactScaleTableauRow.holds Try.pinned (OpenSpec.ofChange fnExactScaleTableauSpec)

/-- ITS FALSE NEIGHBOUR: 'it returns false'. Refute it at one input. -/
def fnExactScaleTableauWrong : ChangeSpec := { name := "fnExactScaleTableau", fn := fun _ => fun
  | [d1, d2] => { results := [.lit (.bool false)], args := [d1, d2] }
  | _ => none }
def FnExactScaleTableauWrongFalsely : Prop := fnExactScaleTableauRow.holds Try.pinned (OpenSpec.ofChange fnExactScaleTableauWrong)

/-- 'laws.FnExactAdjointTableau': WHATEVER THE INPUT: true; the input reads as it did. -/
def fnExactAdjointTableauSpec : ChangeSpec := { name := "fnExactAdjointTableau", fn := fun _ => fun
  | [d] => { results := [.lit (.bool true)], args := [d] }
  | _ => none }
def fnExactAdjointTableauRow : OpenClaim := { program := "ytekojohhjnklkaa", sum := "57ca7efa7dcf71249b895d3782fbd9af4cc9f4bc303914daf7438e84fade107a", func := "loop.example/g03110/laws.FnExactAdjointTableau", spec := "fnExactAdjointTableau", apart := false }
def FnExactAdjointTableauSaid : Prop := fnExactAdjointTableauRow.holds Try.pinned (OpenSpec.ofChange fnExactAdjointTableauSpec)

/-- ITS FALSE NEIGHBOUR: 'it returns false'. Refute it at one input. -/
def fnExactAdjointTableauWrong : ChangeSpec := { name := "fnExactAdjointTableau", fn := fun _ => fun
  | [d] => { results := [.lit (.bool false)], args := [d] }
  | _ => none }
def FnExactAdjointTableauWrongFalsely : Prop := fnExactAdjointTableauRow.holds Try.pinned (OpenSpec.ofChange fnExactAdjointTableauWrong)

/-- 'laws.FnExactComposeTableaus': WHATEVER THE INPUT: true; the input reads as it did. -/
def fnExactComposeTableausSpec : ChangeSpec := { name := "fnExactComposeTableaus", fn := fun _ => fun
  | [d1, d2] => { results := [.lit (.bool true)], args := [d1, d2] }
  | _ => none }
def fnExactComposeTableausRow : OpenClaim := { program := "ytekojohhjnklkaa", sum := "57ca7efa7dcf71249b895d3782fbd9af4cc9f4bc303914daf7438e84fade107a", func := "loop.example/g03110/laws.FnExactComposeTableaus", spec := "fnExactComposeTableaus", apart := false }
def FnExactComposeTableausSaid : Prop := fnExactComposeTableausRow.holds Try.pinned (OpenSpec.ofChange fnExactComposeTableausSpec)

/-- ITS FALSE NEIGHBOUR: 'it returns false'. Refute it at one input. -/
def fnExactComposeTableausWrong : ChangeSpec := { name := "fnExactComposeTableaus", fn := fun _ => fun
  | [d1, d2] => { results := [.lit (.bool false)], args := [d1, d2] }
  | _ => none }
def FnExactComposeTableausWrongFalsely : Prop := fnExactComposeTableausRow.holds Try.pinned (OpenSpec.ofChange fnExactComposeTableausWrong)

/-- 'laws.FnExactPermuteTableau': WHATEVER THE INPUT: true; the input reads as it did. -/
def fnExactPermuteTableauSpec : ChangeSpec := { name := "fnExactPermuteTableau", fn := fun _ => fun
  | [d1, d2] => { results := [.lit (.bool true)], args := [d1, d2] }
  | _ => none }
def fnExactPermuteTableauRow : OpenClaim := { program := "ytekojohhjnklkaa", sum := "57ca7efa7dcf71249b895d3782fbd9af4cc9f4bc303914daf7438e84fade107a", func := "loop.example/g03110/laws.FnExactPermuteTableau", spec := "fnExactPermuteTableau", apart := false }
def FnExactPermuteTableauSaid : Prop := fnExactPermuteTableauRow.holds Try.pinned (OpenSpec.ofChange fnExactPermuteTableauSpec)

/-- ITS FALSE NEIGHBOUR: 'it returns false'. Refute it at one input. -/
def fnExactPermuteTableauWrong : ChangeSpec := { name := "fnExactPermuteTableau", fn := fun _ => fun
  | [d1, d2] => { results := [.lit (.bool false)], args := [d1, d2] }
  | _ => none }
def FnExactPermuteTableauWrongFalsely : Prop := fnExactPermuteTableauRow.holds Try.pinned (OpenSpec.ofChange fnExactPermuteTableauWrong)

/-- 'laws.FnExactJumpTableau': WHATEVER THE INPUT: true; the input reads as it did. -/
def fnExactJumpTableauSpec : ChangeSpec := { name := "fnExactJumpTableau", fn := fun _ => fun
  | [d] => { results := [.lit (.bool true)], args := [d] }
  | _ => none }
def fnExactJumpTableauRow : OpenClaim := { program := "ytekojohhjnklkaa", sum := "57ca7efa7dcf71249b895d3782fbd9af4cc9f4bc303914daf7438e84fade107a", func := "loop.example/g03110/laws.FnExactJumpTableau", spec := "fnExactJumpTableau", apart := false }
def FnExactJumpTableauSaid : Prop := fnExactJumpTableauRow.holds Try.pinned (OpenSpec.ofChange fnExactJumpTableauSpec)

/-- ITS FALSE NEIGHBOUR: 'it returns false'. Refute it at one input. -/
def fnExactJumpTableauWrong : ChangeSpec := { name := "fnExactJumpTableau", fn := fun _ => fun
  | [d] => { results := [.lit (.bool false)], args := [d] }
  | _ => none }
def FnExactJumpTableauWrongFalsely : Prop := fnExactJumpTableauRow.holds Try.pinned (OpenSpec.ofChange fnExactJumpTableauWrong)

/-- 'laws.FnExactReduceTableau': WHATEVER THE INPUT: true; the input reads as it did. -/
def fnExactReduceTableauSpec : ChangeSpec := { name := "fnExactReduceTableau", fn := fun _ => fun
  | [d] => { results := [.lit (.bool true)], args := [d] }
  | _ => none }
def fnExactReduceTableauRow : OpenClaim := { program := "ytekojohhjnklkaa", sum := "57ca7efa7dcf71249b895d3782fbd9af4cc9f4bc303914daf7438e84fade107a", func := "loop.example/g03110/laws.FnExactReduceTableau", spec := "fnExactReduceTableau", unfollowed := true, recurses := true, apart := false }
def FnExactReduceTableauSaid : Prop := fnExactReduceTableauRow.holds Try.pinned (OpenSpec.ofChange fnExactReduceTableauSpec)

/-- ITS FALSE NEIGHBOUR: 'it returns false'. Refute it at one input. -/
def fnExactReduceTableauWrong : ChangeSpec := { name := "fnExactReduceTableau", fn := fun _ => fun
  | [d] => { results := [.lit (.bool false)], args := [d] }
  | _ => none }
def FnExactReduceTableauWrongFalsely : Prop := fnExactReduceTableauRow.holds Try.pinned (OpenSpec.ofChange fnExactReduceTableauWrong)

/- THE SECOND FORM. 'bulk': how many values and letters a reading holds, each counted each time it is reached (what is shared counts as often as it is met; a slice's spare places count too). A statement '..UptoSaid' is the law's where the arguments, and the package variables that the reading takes, are together of bulk at most 1048576: NARROWER than '..Said'. Prove '..Said' where nothing that the law and all that it calls make is longer than what came in: it says more and counts as full. Else prove '..UptoSaid'. A law counts once. -/
mutual
def uptoBulk {H : Type} : DataW H → Nat
  | .lit (.string bytes) => bytes.length + 1
  | .lit _ => 1
  | .nil => 1
  | .ptr d => uptoBulk d + 1
  | .slice elems spare => uptoBulkAll elems + uptoBulkAll spare + 1
  | .agg parts => uptoBulkAll parts + 1
  | .iface _ d => uptoBulk d + 1
  | .map entries => uptoBulkEntries entries + 1
  | .held _ => 1
def uptoBulkAll {H : Type} : List (DataW H) → Nat
  | [] => 0
  | d :: r => uptoBulk d + uptoBulkAll r
def uptoBulkEntries {H : Type} : List (Lit × DataW H) → Nat
  | [] => 0
  | x :: r => uptoBulkEntry x + uptoBulkEntries r
def uptoBulkEntry {H : Type} : Lit × DataW H → Nat
  | (.string bytes, d) => bytes.length + uptoBulk d + 1
  | (_, d) => uptoBulk d + 1
 end
def uptoSmall : (H : Type) → List (DataW H) → Bool := fun _ ds => decide (uptoBulkAll ds ≤ 1048576)
def OpenSpec.upto (s : _root_.Go.ChangeSpec) : _root_.Go.OpenSpec := { _root_.Go.OpenSpec.ofChange s with cond := some uptoSmall }

/-- 'laws.FnExactTableauOk', WHERE WHAT IT READS IS OF BULK AT MOST 1048576: true; the input reads as it did. -/
def fnExactTableauOkUptoRow : OpenClaim := { program := "ytekojohhjnklkaa", sum := "57ca7efa7dcf71249b895d3782fbd9af4cc9f4bc303914daf7438e84fade107a", func := "loop.example/g03110/laws.FnExactTableauOk", spec := "fnExactTableauOk", apart := false, narrowed := true }
def FnExactTableauOkUptoSaid : Prop := fnExactTableauOkUptoRow.holds Try.pinned (OpenSpec.upto fnExactTableauOkSpec)

/-- 'laws.FnExactRadauNodes', WHERE WHAT IT READS IS OF BULK AT MOST 1048576: true; the input reads as it did. -/
def fnExactRadauNodesUptoRow : OpenClaim := { program := "ytekojohhjnklkaa", sum := "57ca7efa7dcf71249b895d3782fbd9af4cc9f4bc303914daf7438e84fade107a", func := "loop.example/g03110/laws.FnExactRadauNodes", spec := "fnExactRadauNodes", apart := false, narrowed := true }
def FnExactRadauNodesUptoSaid : Prop := fnExactRadauNodesUptoRow.holds Try.pinned (OpenSpec.upto fnExactRadauNodesSpec)

/-- 'laws.FnExactLobattoNodes', WHERE WHAT IT READS IS OF BULK AT MOST 1048576: true; the input reads as it did. -/
def fnExactLobattoNodesUptoRow : OpenClaim := { program := "ytekojohhjnklkaa", sum := "57ca7efa7dcf71249b895d3782fbd9af4cc9f4bc303914daf7438e84fade107a", func := "loop.example/g03110/laws.FnExactLobattoNodes", spec := "fnExactLobattoNodes", apart := false, narrowed := true }
def FnExactLobattoNodesUptoSaid : Prop := fnExactLobattoNodesUptoRow.holds Try.pinned (OpenSpec.upto fnExactLobattoNodesSpec)

/-- 'laws.FnExactKindOf', WHERE WHAT IT READS IS OF BULK AT MOST 1048576: true; the input reads as it did. -/
def fnExactKindOfUptoRow : OpenClaim := { program := "ytekojohhjnklkaa", sum := "57ca7efa7dcf71249b895d3782fbd9af4cc9f4bc303914daf7438e84fade107a", func := "loop.example/g03110/laws.FnExactKindOf", spec := "fnExactKindOf", apart := false, narrowed := true }
def FnExactKindOfUptoSaid : Prop := fnExactKindOfUptoRow.holds Try.pinned (OpenSpec.upto fnExactKindOfSpec)

/-- 'laws.FnExactGaussNodes', WHERE WHAT IT READS IS OF BULK AT MOST 1048576: true; the input reads as it did. -/
def fnExactGaussNodesUptoRow : OpenClaim := { program := "ytekojohhjnklkaa", sum := "57ca7efa7dcf71249b895d3782fbd9af4cc9f4bc303914daf7438e84fade107a", func := "loop.example/g03110/laws.FnExactGaussNodes", spec := "fnExactGaussNodes", apart := false, narrowed := true }
def FnExactGaussNodesUptoSaid : Prop := fnExactGaussNodesUptoRow.holds Try.pinned (OpenSpec.upto fnExactGaussNodesSpec)

/-- 'laws.FnExactNodesOf', WHERE WHAT IT READS IS OF BULK AT MOST 1048576: true; the input reads as it did. -/
def fnExactNodesOfUptoRow : OpenClaim := { program := "ytekojohhjnklkaa", sum := "57ca7efa7dcf71249b895d3782fbd9af4cc9f4bc303914daf7438e84fade107a", func := "loop.example/g03110/laws.FnExactNodesOf", spec := "fnExactNodesOf", apart := false, narrowed := true }
def FnExactNodesOfUptoSaid : Prop := fnExactNodesOfUptoRow.holds Try.pinned (OpenSpec.upto fnExactNodesOfSpec)

/-- 'laws.FnExactScaleTableau', WHERE WHAT IT READS IS OF BULK AT MOST 1048576: true; the input reads as it did. -/
def fnExactScaleTableauUptoRow : OpenClaim := { program := "ytekojohhjnklkaa", sum := "57ca7efa7dcf71249b895d3782fbd9af4cc9f4bc303914daf7438e84fade107a", func := "loop.example/g03110/laws.FnExactScaleTableau", spec := "fnExactScaleTableau", apart := false, narrowed := true }
def FnExactScaleTableauUptoSaid : Prop := fnExactScaleTableauUptoRow.holds Try.pinned (OpenSpec.upto fnExactScaleTableauSpec)

/-- 'laws.FnExactAdjointTableau', WHERE WHAT IT READS IS OF BULK AT MOST 1048576: true; the input reads as it did. -/
def fnExactAdjointTableauUptoRow : OpenClaim := { program := "ytekojohhjnklkaa", sum := "57ca7efa7dcf71249b895d3782fbd9af4cc9f4bc303914daf7438e84fade107a", func := "loop.example/g03110/laws.FnExactAdjointTableau", spec := "fnExactAdjointTableau", apart := false, narrowed := true }
def FnExactAdjointTableauUptoSaid : Prop := fnExactAdjointTableauUptoRow.holds Try.pinned (OpenSpec.upto fnExactAdjointTableauSpec)

/-- 'laws.FnExactComposeTableaus', WHERE WHAT IT READS IS OF BULK AT MOST 1048576: true; the input reads as it did. -/
def fnExactComposeTableausUptoRow : OpenClaim := { program := "ytekojohhjnklkaa", sum := "57ca7efa7dcf71249b895d3782fbd9af4cc9f4bc303914daf7438e84fade107a", func := "loop.example/g03110/laws.FnExactComposeTableaus", spec := "fnExactComposeTableaus", apart := false, narrowed := true }
def FnExactComposeTableausUptoSaid : Prop := fnExactComposeTableausUptoRow.holds Try.pinned (OpenSpec.upto fnExactComposeTableausSpec)

/-- 'laws.FnExactPermuteTableau', WHERE WHAT IT READS IS OF BULK AT MOST 1048576: true; the input reads as it did. -/
def fnExactPermuteTableauUptoRow : OpenClaim := { program := "ytekojohhjnklkaa", sum := "57ca7efa7dcf71249b895d3782fbd9af4cc9f4bc303914daf7438e84fade107a", func := "loop.example/g03110/laws.FnExactPermuteTableau", spec := "fnExactPermuteTableau", apart := false, narrowed := true }
def FnExactPermuteTableauUptoSaid : Prop := fnExactPermuteTableauUptoRow.holds Try.pinned (OpenSpec.upto fnExactPermuteTableauSpec)

/-- 'laws.FnExactJumpTableau', WHERE WHAT IT READS IS OF BULK AT MOST 1048576: true; the input reads as it did. -/
def fnExactJumpTableauUptoRow : OpenClaim := { program := "ytekojohhjnklkaa", sum := "57ca7efa7dcf71249b895d3782fbd9af4cc9f4bc303914daf7438e84fade107a", func := "loop.example/g03110/laws.FnExactJumpTableau", spec := "fnExactJumpTableau", apart := false, narrowed := true }
def FnExactJumpTableauUptoSaid : Prop := fnExactJumpTableauUptoRow.holds Try.pinned (OpenSpec.upto fnExactJumpTableauSpec)

/-- 'laws.FnExactReduceTableau', WHERE WHAT IT READS IS OF BULK AT MOST 1048576: true; the input reads as it did. -/
def fnExactReduceTableauUptoRow : OpenClaim := { program := "ytekojohhjnklkaa", sum := "57ca7efa7dcf71249b895d3782fbd9af4cc9f4bc303914daf7438e84fade107a", func := "loop.example/g03110/laws.FnExactReduceTableau", spec := "fnExactReduceTableau", unfollowed := true, recurses := true, apart := false, narrowed := true }
def FnExactReduceTableauUptoSaid : Prop := fnExactReduceTableauUptoRow.holds Try.pinned (OpenSpec.upto fnExactReduceTableauSpec)

end Rows
end Go.Proofs.Ytekojohhjnklkaa
