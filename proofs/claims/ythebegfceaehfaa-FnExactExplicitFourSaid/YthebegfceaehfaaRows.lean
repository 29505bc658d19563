/-
  No cell of these rows narrows 'for every input' (looked for: loops, veiled, ifaces, maps, wideKeys, modest, calm, conditions, laid).
  DERIVED. THE GIVEN ROWS OF THIS SEAT. 5 by the template 'for every input the law returns true; each argument reads behind the call as it read before'; 0 by the template 'total and deterministic' (their statements: YthebegfceaehfaaTotals.lean).
  GIVEN WITH THE SEED: the statements are not yours to turn. If you find one false, say at which input.
  Laid BY PROGRAM, IN A SANDBOX (cutbox-rows.mjs): the forced cells as the released guide's own fill.sh prints them over the translation 9ec476414be4600f… (all of the seat's roots in one cut). By AI agents, Wed Nov 11 2026. No macro, syntax, notation, axiom, sorry.
-/
import Derived.Test.YthebegfceaehfaaChecked
import GoSem.Claim
import GoSem.ClaimJoined
import GoSem.ClaimMapViews
import Derived.JoinedTies
import Derived.KernelRfl
namespace Go.Proofs.Ythebegfceaehfaa
/- THE CELL 'sum', in the pinned program and in every row, IS THE sha256 OF THE DUMP (.gsa) THAT YthebegfceaehfaaProg.lean LOADS. Nothing in Lean hashes anything: it is a label: what it is worth is what the hold of that sum in a sandbox is worth. -/
noncomputable def Try.pinned : Pinned := { name := "ythebegfceaehfaa", sum := "9ec476414be4600f3456947ddf6c32340a723a435a425051b6ac2566a9a0cbaa", checked := Try.checked }
namespace Rows
def none {H : Type} : Left H := { results := [], args := [] }

/-- 'laws.FnExactFormatTableau': WHATEVER THE INPUT: true; the input reads as it did. -/
def fnExactFormatTableauSpec : ChangeSpec := { name := "fnExactFormatTableau", fn := fun _ => fun
  | [d] => { results := [.lit (.bool true)], args := [d] }
  | _ => none }
def fnExactFormatTableauRow : OpenClaim := { program := "ythebegfceaehfaa", sum := "9ec476414be4600f3456947ddf6c32340a723a435a425051b6ac2566a9a0cbaa", func := "loop.example/g03110/laws.FnExactFormatTableau", spec := "fnExactFormatTableau", inPlace := ["internal/abi.NoEscape", "internal/bytealg.MakeNoZero"], recurses := true, apart := false }
def FnExactFormatTableauSaid : Prop := fnExactFormatTableauRow.holds Try.pinned (OpenSpec.ofChange fnExactFormatTableauSpec)

/-- ITS FALSE NEIGHBOUR: 'it returns false'. Refute it at one input. -/
def fnExactFormatTableauWrong : ChangeSpec := { name := "fnExactFormatTableau", fn := fun _ => fun
  | [d] => { results := [.lit (.bool false)], args := [d] }
  | _ => none }
def FnExactFormatTableauWrongFalsely : Prop := fnExactFormatTableauRow.holds Try.pinned (OpenSpec.ofChange fnExactFormatTableauWrong)

/-- 'laws.FnExactSimplifyingOf': WHATEVER THE INPUT: true; the input reads as it did. -/
def fnExactSimplifyingOfSpec : ChangeSpec := { name := "fnExactSimplifyingOf", fn := fun _ => fun
  | [d] => { results := [.lit (.bool true)], args := [d] }
  | _ => none }
def fnExactSimplifyingOfRow : OpenClaim := { program := "ythebegfceaehfaa", sum := "9ec476414be4600f3456947ddf6c32340a723a435a425051b6ac2566a9a0cbaa", func := "loop.example/g03110/laws.FnExactSimplifyingOf", spec := "fnExactSimplifyingOf", unfollowed := true, recurses := true, apart := false }
def FnExactSimplifyingOfSaid : Prop := fnExactSimplifyingOfRow.holds Try.pinned (OpenSpec.ofChange fnExactSimplifyingOfSpec)

/-- ITS FALSE NEIGHBOUR: 'it returns false'. Refute it at one input. -/
def fnExactSimplifyingOfWrong : ChangeSpec := { name := "fnExactSimplifyingOf", fn := fun _ => fun
  | [d] => { results := [.lit (.bool false)], args := [d] }
  | _ => none }
def FnExactSimplifyingOfWrongFalsely : Prop := fnExactSimplifyingOfRow.holds Try.pinned (OpenSpec.ofChange fnExactSimplifyingOfWrong)

/-- 'laws.FnExactExplicitThree': WHATEVER THE INPUT: true; the input reads as it did. -/
def fnExactExplicitThreeSpec : ChangeSpec := { name := "fnExactExplicitThree", fn := fun _ => fun
  | [d1, d2] => { results := [.lit (.bool true)], args := [d1, d2] }
  | _ => none }
def fnExactExplicitThreeRow : OpenClaim := { program := "ythebegfceaehfaa", sum := "9ec476414be4600f3456947ddf6c32340a723a435a425051b6ac2566a9a0cbaa", func := "loop.example/g03110/laws.FnExactExplicitThree", spec := "fnExactExplicitThree", unfollowed := true, recurses := true, apart := false }
def FnExactExplicitThreeSaid : Prop := fnExactExplicitThreeRow.holds Try.pinned (OpenSpec.ofChange fnExactExplicitThreeSpec)

/-- ITS FALSE NEIGHBOUR: 'it returns false'. Refute it at one input. -/
def fnExactExplicitThreeWrong : ChangeSpec := { name := "fnExactExplicitThree", fn := fun _ => fun
  | [d1, d2] => { results := [.lit (.bool false)], args := [d1, d2] }
  | _ => none }
def FnExactExplicitThreeWrongFalsely : Prop := fnExactExplicitThreeRow.holds Try.pinned (OpenSpec.ofChange fnExactExplicitThreeWrong)

/-- 'laws.FnExactCollocationTableau': WHATEVER THE INPUT: true; the input reads as it did. -/
def fnExactCollocationTableauSpec : ChangeSpec := { name := "fnExactCollocationTableau", fn := fun _ => fun
  | [d] => { results := [.lit (.bool true)], args := [d] }
  | _ => none }
def fnExactCollocationTableauRow : OpenClaim := { program := "ythebegfceaehfaa", sum := "9ec476414be4600f3456947ddf6c32340a723a435a425051b6ac2566a9a0cbaa", func := "loop.example/g03110/laws.FnExactCollocationTableau", spec := "fnExactCollocationTableau", unfollowed := true, recurses := true, apart := false }
def FnExactCollocationTableauSaid : Prop := fnExactCollocationTableauRow.holds Try.pinned (OpenSpec.ofChange fnExactCollocationTableauSpec)

/-- ITS FALSE NEIGHBOUR: 'it returns false'. Refute it at one input. -/
def fnExactCollocationTableauWrong : ChangeSpec := { name := "fnExactCollocationTableau", fn := fun _ => fun
  | [d] => { results := [.lit (.bool false)], args := [d] }
  | _ => none }
def FnExactCollocationTableauWrongFalsely : Prop := fnExactCollocationTableauRow.holds Try.pinned (OpenSpec.ofChange fnExactCollocationTableauWrong)

/-- 'laws.FnExactExplicitFour': WHATEVER THE INPUT: true; the input reads as it did. -/
def fnExactExplicitFourSpec : ChangeSpec := { name := "fnExactExplicitFour", fn := fun _ => fun
  | [d1, d2] => { results := [.lit (.bool true)], args := [d1, d2] }
  | _ => none }
def fnExactExplicitFourRow : OpenClaim := { program := "ythebegfceaehfaa", sum := "9ec476414be4600f3456947ddf6c32340a723a435a425051b6ac2566a9a0cbaa", func := "loop.example/g03110/laws.FnExactExplicitFour", spec := "fnExactExplicitFour", unfollowed := true, recurses := true, apart := false }
def FnExactExplicitFourSaid : Prop := fnExactExplicitFourRow.holds Try.pinned (OpenSpec.ofChange fnExactExplicitFourSpec)

/-- ITS FALSE NEIGHBOUR: 'it returns false'. Refute it at one input. -/
def fnExactExplicitFourWrong : ChangeSpec := { name := "fnExactExplicitFour", fn := fun _ => fun
  | [d1, d2] => { results := [.lit (.bool false)], args := [d1, d2] }
  | _ => none }
def FnExactExplicitFourWrongFalsely : Prop := fnExactExplicitFourRow.holds Try.pinned (OpenSpec.ofChange fnExactExplicitFourWrong)

/- THE SECOND FORM. 'bulk': how many values and letters a reading holds, each counted each time it is reached (what is shared counts as often as it is met; a slice's spare places count too). A statement '..UptoSaid' is the law's where the arguments, and the package variables that the reading takes, are together of bulk at most 1048576: NARROWER than '..Said'. Prove '..Said' where nothing that the law and all that it calls make is longer than what came in: it says more and counts as full. Else prove '..UptoSaid'. A law counts once. -/
mutual
def uptoBulk {H : Type} : DataW H → Nat
  | .lit (.string bytes) => bytes.length + 1
  | .lit _ => 1
  | .nil => 1
  | .ptr d => uptoBulk d + 1
  | .slice elems spare => uptoBulkAll elems + uptoBulkAll spare + 1
  | .agg parts => uptoBulkAll parts + 1
  | .iface _ d => uptoBulk d + 1
  | .map entries => uptoBulkEntries entries + 1
  | .held _ => 1
def uptoBulkAll {H : Type} : List (DataW H) → Nat
  | [] => 0
  | d :: r => uptoBulk d + uptoBulkAll r
def uptoBulkEntries {H : Type} : List (Lit × DataW H) → Nat
  | [] => 0
  | x :: r => uptoBulkEntry x + uptoBulkEntries r
def uptoBulkEntry {H : Type} : Lit × DataW H → Nat
  | (.string bytes, d) => bytes.length + uptoBulk d + 1
  | (_, d) => uptoBulk d + 1
 end
def uptoSmall : (H : Type) → List (DataW H) → Bool := fun _ ds => decide (uptoBulkAll ds ≤ 1048576)
def OpenSpec.upto (s : _root_.Go.ChangeSpec) : _root_.Go.OpenSpec := { _root_.Go.OpenSpec.ofChange s with cond := some uptoSmall }

/-- 'laws.FnExactFormatTableau', WHERE WHAT IT READS IS OF BULK AT MOST 1048576: true; the input reads as it did. -/
def fnExactFormatTableauUptoRow : OpenClaim := { program := "ythebegfceaehfaa", sum := "9ec476414be4600f3456947ddf6c32340a723a435a425051b6ac2566a9a0cbaa", func := "loop.example/g03110/laws.FnExactFormatTableau", spec := "fnExactFormatTableau", inPlace := ["internal/abi.NoEscape", "internal/bytealg.MakeNoZero"], recurses := true, apart := false, narrowed := true }
def FnExactFormatTableauUptoSaid : Prop := fnExactFormatTableauUptoRow.holds Try.pinned (OpenSpec.upto fnExactFormatTableauSpec)

/-- 'laws.FnExactSimplifyingOf', WHERE WHAT IT READS IS OF BULK AT MOST 1048576: true; the input reads as it did. -/
def fnExactSimplifyingOfUptoRow : OpenClaim := { program := "ythebegfceaehfaa", sum := "9ec476414be4600f3456947ddf6c32340a723a435a425051b6ac2566a9a0cbaa", func := "loop.example/g03110/laws.FnExactSimplifyingOf", spec := "fnExactSimplifyingOf", unfollowed := true, recurses := true, apart := false, narrowed := true }
def FnExactSimplifyingOfUptoSaid : Prop := fnExactSimplifyingOfUptoRow.holds Try.pinned (OpenSpec.upto fnExactSimplifyingOfSpec)

/-- 'laws.FnExactExplicitThree', WHERE WHAT IT READS IS OF BULK AT MOST 1048576: true; the input reads as it did. -/
def fnExactExplicitThreeUptoRow : OpenClaim := { program := "ythebegfceaehfaa", sum := "9ec476414be4600f3456947ddf6c32340a723a435a425051b6ac2566a9a0cbaa", func := "loop.example/g03110/laws.FnExactExplicitThree", spec := "fnExactExplicitThree", unfollowed := true, recurses := true, apart := false, narrowed := true }
def FnExactExplicitThreeUptoSaid : Prop := fnExactExplicitThreeUptoRow.holds Try.pinned (OpenSpec.upto fnExactExplicitThreeSpec)

/-- 'laws.FnExactCollocationTableau', WHERE WHAT IT READS IS OF BULK AT MOST 1048576: true; the input reads as it did. -/
def fnExactCollocationTableauUptoRow : OpenClaim := { program := "ythebegfceaehfaa", sum := "9ec476414be4600f3456947ddf6c32340a723a435a425051b6ac2566a9a0cbaa", func := "loop.example/g03110/laws.FnExactCollocationTableau", spec := "fnExactCollocationTableau", unfollowed := true, recurses := true, apart := false, narrowed := true }
def FnExactCollocationTableauUptoSaid : Prop := fnExactCollocationTableauUptoRow.holds Try.pinned (OpenSpec.upto fnExactCollocationTableauSpec)

/-- 'laws.FnExactExplicitFour', WHERE WHAT IT READS IS OF BULK AT MOST 1048576: true; the input reads as it did. -/
def fnExactExplicitFourUptoRow : OpenClaim := { program := "ythebegfceaehfaa", sum := "9ec476414be4600f3456947ddf6c32340a723a435a425051b6ac2566a9a0cbaa", func := "loop.example/g03110/laws.FnExactExplicitFour", spec := "fnExactExplicitFour", unfollowed := true, recurses := true, apart := false, narrowed := true }
def FnExactExplicitFourUptoSaid : Prop := fnExactExplicitFourUptoRow.holds Try.pinned (OpenSpec.upto fnExactExplicitFourSpec)

end Rows
end Go.Proofs.Ythebegfceaehfaa
