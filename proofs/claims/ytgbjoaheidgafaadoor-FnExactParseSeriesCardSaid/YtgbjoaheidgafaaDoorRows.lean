/-
  NARROWER THAN 'FOR EVERY INPUT', by the rows' own cells (each row's printed sentence says how): FnExactFieldSeries: laid · FnExactAddSeries: laid · FnExactFormatSeries: laid · FnExactParseSeries: laid.
  DERIVED. THE GIVEN ROWS OF THIS SEAT. 4 by the template 'for every input the law returns true; each argument reads behind the call as it read before'; 0 by the template 'total and deterministic' (their statements: YtgbjoaheidgafaaDoorTotals.lean).
  GIVEN WITH THE SEED: the statements are not yours to turn. If you find one false, say at which input.
  Laid BY PROGRAM, IN A SANDBOX (cutbox-rows.mjs): the forced cells as the released guide's own fill.sh prints them over the translation 22e0b4f47c731673… (all of the seat's roots in one cut). By AI agents, Wed Nov 11 2026. No macro, syntax, notation, axiom, sorry.
-/
import Derived.Test.YtgbjoaheidgafaaDoorChecked
import GoSem.PinnedTables
import GoSem.Claim
import GoSem.ClaimJoined
import GoSem.ClaimMapViews
import Derived.JoinedTies
import Derived.KernelRfl
namespace Go.Proofs.YtgbjoaheidgafaaDoor
/- THE CELL 'sum', in the pinned program and in every row, IS THE sha256 OF THE DUMP (.gsa) THAT YtgbjoaheidgafaaDoorProg.lean LOADS. Nothing in Lean hashes anything: it is a label: what it is worth is what the hold of that sum in a sandbox is worth. -/
noncomputable def Tryd.pinned : Pinned := { name := "ytgbjoaheidgafaadoor", sum := "22e0b4f47c73167318e51658df9cb9855d6df197cfc1b32ea8fa748a7c2b077a", checked := Tryd.checked }
namespace Rows
def none {H : Type} : Left H := { results := [], args := [] }

/- WHAT THE LISTED PACKAGE-LEVEL VARIABLES READ AS WHEN THE CALL BEGINS. Each datum BY PROGRAM (the guide's laid-datum.mjs) off the statement by which the dump's own 'gosem.cut.vars' lays the variable. In a bare row this is a premise. The card (YtgbjoaheidgafaaDoorCards.lean) ties it to the program's text. -/
def laid_loop_example_g03110_impl_treeCounts {H : Type} : DataW H := .slice [.lit (.int .i64 0), .lit (.int .i64 1), .lit (.int .i64 2), .lit (.int .i64 4), .lit (.int .i64 8), .lit (.int .i64 17), .lit (.int .i64 37)] []
def laid_unicode_utf8_acceptRanges {H : Type} : DataW H := .agg [.agg [.lit (.int .u8 128), .lit (.int .u8 191)], .agg [.lit (.int .u8 160), .lit (.int .u8 191)], .agg [.lit (.int .u8 128), .lit (.int .u8 159)], .agg [.lit (.int .u8 144), .lit (.int .u8 191)], .agg [.lit (.int .u8 128), .lit (.int .u8 143)], .agg [.lit (.int .u8 0), .lit (.int .u8 0)], .agg [.lit (.int .u8 0), .lit (.int .u8 0)], .agg [.lit (.int .u8 0), .lit (.int .u8 0)], .agg [.lit (.int .u8 0), .lit (.int .u8 0)], .agg [.lit (.int .u8 0), .lit (.int .u8 0)], .agg [.lit (.int .u8 0), .lit (.int .u8 0)], .agg [.lit (.int .u8 0), .lit (.int .u8 0)], .agg [.lit (.int .u8 0), .lit (.int .u8 0)], .agg [.lit (.int .u8 0), .lit (.int .u8 0)], .agg [.lit (.int .u8 0), .lit (.int .u8 0)], .agg [.lit (.int .u8 0), .lit (.int .u8 0)]]
/-- One of Go's own tables, pinned by name: the form's constant. -/
def laid_unicode_utf8_first : DataW Unit := Go.Pinned.utf8First

/-- 'laws.FnExactFieldSeries': WHATEVER THE INPUT: true; the input reads as it did. -/
def fnExactFieldSeriesSpec : ChangeSpec := { name := "fnExactFieldSeries", vars := ["loop.example/g03110/impl.treeCounts"], fn := fun _ => fun
  | [d, g1] => { results := [.lit (.bool true)], args := [d], vars := [g1] }
  | _ => none }
def fnExactFieldSeriesRow : OpenClaim := { program := "ytgbjoaheidgafaadoor", sum := "22e0b4f47c73167318e51658df9cb9855d6df197cfc1b32ea8fa748a7c2b077a", func := "loop.example/g03110/laws.FnExactFieldSeries", spec := "fnExactFieldSeries", named := ["loop.example/g03110/impl.treeCounts"], apart := false, laid := [("loop.example/g03110/impl.treeCounts", laid_loop_example_g03110_impl_treeCounts)] }
def FnExactFieldSeriesSaid : Prop := fnExactFieldSeriesRow.holds Tryd.pinned (OpenSpec.ofChange fnExactFieldSeriesSpec)

/-- ITS FALSE NEIGHBOUR: 'it returns false'. Refute it at one input. -/
def fnExactFieldSeriesWrong : ChangeSpec := { name := "fnExactFieldSeries", vars := ["loop.example/g03110/impl.treeCounts"], fn := fun _ => fun
  | [d, g1] => { results := [.lit (.bool false)], args := [d], vars := [g1] }
  | _ => none }
def FnExactFieldSeriesWrongFalsely : Prop := fnExactFieldSeriesRow.holds Tryd.pinned (OpenSpec.ofChange fnExactFieldSeriesWrong)

/-- 'laws.FnExactAddSeries': WHATEVER THE INPUT: true; the input reads as it did. -/
def fnExactAddSeriesSpec : ChangeSpec := { name := "fnExactAddSeries", vars := ["loop.example/g03110/impl.treeCounts"], fn := fun _ => fun
  | [d1, d2, g1] => { results := [.lit (.bool true)], args := [d1, d2], vars := [g1] }
  | _ => none }
def fnExactAddSeriesRow : OpenClaim := { program := "ytgbjoaheidgafaadoor", sum := "22e0b4f47c73167318e51658df9cb9855d6df197cfc1b32ea8fa748a7c2b077a", func := "loop.example/g03110/laws.FnExactAddSeries", spec := "fnExactAddSeries", named := ["loop.example/g03110/impl.treeCounts"], apart := false, laid := [("loop.example/g03110/impl.treeCounts", laid_loop_example_g03110_impl_treeCounts)] }
def FnExactAddSeriesSaid : Prop := fnExactAddSeriesRow.holds Tryd.pinned (OpenSpec.ofChange fnExactAddSeriesSpec)

/-- ITS FALSE NEIGHBOUR: 'it returns false'. Refute it at one input. -/
def fnExactAddSeriesWrong : ChangeSpec := { name := "fnExactAddSeries", vars := ["loop.example/g03110/impl.treeCounts"], fn := fun _ => fun
  | [d1, d2, g1] => { results := [.lit (.bool false)], args := [d1, d2], vars := [g1] }
  | _ => none }
def FnExactAddSeriesWrongFalsely : Prop := fnExactAddSeriesRow.holds Tryd.pinned (OpenSpec.ofChange fnExactAddSeriesWrong)

/-- 'laws.FnExactFormatSeries': WHATEVER THE INPUT: true; the input reads as it did. -/
def fnExactFormatSeriesSpec : ChangeSpec := { name := "fnExactFormatSeries", vars := ["loop.example/g03110/impl.treeCounts"], fn := fun _ => fun
  | [d, g1] => { results := [.lit (.bool true)], args := [d], vars := [g1] }
  | _ => none }
def fnExactFormatSeriesRow : OpenClaim := { program := "ytgbjoaheidgafaadoor", sum := "22e0b4f47c73167318e51658df9cb9855d6df197cfc1b32ea8fa748a7c2b077a", func := "loop.example/g03110/laws.FnExactFormatSeries", spec := "fnExactFormatSeries", inPlace := ["internal/abi.NoEscape", "internal/bytealg.MakeNoZero"], recurses := true, named := ["loop.example/g03110/impl.treeCounts"], apart := false, laid := [("loop.example/g03110/impl.treeCounts", laid_loop_example_g03110_impl_treeCounts)] }
def FnExactFormatSeriesSaid : Prop := fnExactFormatSeriesRow.holds Tryd.pinned (OpenSpec.ofChange fnExactFormatSeriesSpec)

/-- ITS FALSE NEIGHBOUR: 'it returns false'. Refute it at one input. -/
def fnExactFormatSeriesWrong : ChangeSpec := { name := "fnExactFormatSeries", vars := ["loop.example/g03110/impl.treeCounts"], fn := fun _ => fun
  | [d, g1] => { results := [.lit (.bool false)], args := [d], vars := [g1] }
  | _ => none }
def FnExactFormatSeriesWrongFalsely : Prop := fnExactFormatSeriesRow.holds Tryd.pinned (OpenSpec.ofChange fnExactFormatSeriesWrong)

/-- 'laws.FnExactParseSeries': WHATEVER THE INPUT: true; the input reads as it did. -/
def fnExactParseSeriesSpec : ChangeSpec := { name := "fnExactParseSeries", vars := ["loop.example/g03110/impl.treeCounts"], fn := fun _ => fun
  | [d, g1] => { results := [.lit (.bool true)], args := [d], vars := [g1] }
  | _ => none }
def fnExactParseSeriesRow : OpenClaim := { program := "ytgbjoaheidgafaadoor", sum := "22e0b4f47c73167318e51658df9cb9855d6df197cfc1b32ea8fa748a7c2b077a", func := "loop.example/g03110/laws.FnExactParseSeries", spec := "fnExactParseSeries", inPlace := ["internal/bytealg.CountString", "internal/bytealg.IndexByteString", "internal/bytealg.IndexString"], recurses := true, named := ["unicode/utf8.first", "unicode/utf8.acceptRanges", "internal/bytealg.MaxLen", "loop.example/g03110/impl.treeCounts"], apart := false, laid := [("unicode/utf8.acceptRanges", laid_unicode_utf8_acceptRanges), ("loop.example/g03110/impl.treeCounts", laid_loop_example_g03110_impl_treeCounts), ("unicode/utf8.first", laid_unicode_utf8_first)] }
def FnExactParseSeriesSaid : Prop := fnExactParseSeriesRow.holds Tryd.pinned (OpenSpec.ofChange fnExactParseSeriesSpec)

/-- ITS FALSE NEIGHBOUR: 'it returns false'. Refute it at one input. -/
def fnExactParseSeriesWrong : ChangeSpec := { name := "fnExactParseSeries", vars := ["loop.example/g03110/impl.treeCounts"], fn := fun _ => fun
  | [d, g1] => { results := [.lit (.bool false)], args := [d], vars := [g1] }
  | _ => none }
def FnExactParseSeriesWrongFalsely : Prop := fnExactParseSeriesRow.holds Tryd.pinned (OpenSpec.ofChange fnExactParseSeriesWrong)

/- THE SECOND FORM. 'bulk': how many values and letters a reading holds, each counted each time it is reached (what is shared counts as often as it is met; a slice's spare places count too). A statement '..UptoSaid' is the law's where the arguments, and the package variables that the reading takes, are together of bulk at most 1048576: NARROWER than '..Said'. Prove '..Said' where nothing that the law and all that it calls make is longer than what came in: it says more and counts as full. Else prove '..UptoSaid'. A law counts once. -/
mutual
def uptoBulk {H : Type} : DataW H → Nat
  | .lit (.string bytes) => bytes.length + 1
  | .lit _ => 1
  | .nil => 1
  | .ptr d => uptoBulk d + 1
  | .slice elems spare => uptoBulkAll elems + uptoBulkAll spare + 1
  | .agg parts => uptoBulkAll parts + 1
  | .iface _ d => uptoBulk d + 1
  | .map entries => uptoBulkEntries entries + 1
  | .held _ => 1
def uptoBulkAll {H : Type} : List (DataW H) → Nat
  | [] => 0
  | d :: r => uptoBulk d + uptoBulkAll r
def uptoBulkEntries {H : Type} : List (Lit × DataW H) → Nat
  | [] => 0
  | x :: r => uptoBulkEntry x + uptoBulkEntries r
def uptoBulkEntry {H : Type} : Lit × DataW H → Nat
  | (.string bytes, d) => bytes.length + uptoBulk d + 1
  | (_, d) => uptoBulk d + 1
 end
def uptoSmall : (H : Type) → List (DataW H) → Bool := fun _ ds => decide (uptoBulkAll ds ≤ 1048576)
def OpenSpec.upto (s : _root_.Go.ChangeSpec) : _root_.Go.OpenSpec := { _root_.Go.OpenSpec.ofChange s with cond := some uptoSmall }

/-- 'laws.FnExactFieldSeries', WHERE WHAT IT READS IS OF BULK AT MOST 1048576: true; the input reads as it did. -/
def fnExactFieldSeriesUptoRow : OpenClaim := { program := "ytgbjoaheidgafaadoor", sum := "22e0b4f47c73167318e51658df9cb9855d6df197cfc1b32ea8fa748a7c2b077a", func := "loop.example/g03110/laws.FnExactFieldSeries", spec := "fnExactFieldSeries", named := ["loop.example/g03110/impl.treeCounts"], apart := false, laid := [("loop.example/g03110/impl.treeCounts", laid_loop_example_g03110_impl_treeCounts)], narrowed := true }
def FnExactFieldSeriesUptoSaid : Prop := fnExactFieldSeriesUptoRow.holds Tryd.pinned (OpenSpec.upto fnExactFieldSeriesSpec)

/-- 'laws.FnExactAddSeries', WHERE WHAT IT READS IS OF BULK AT MOST 1048576: true; the input reads as it did. -/
def fnExactAddSeriesUptoRow : OpenClaim := { program := "ytgbjoaheidgafaadoor", sum := "22e0b4f47c73167318e51658df9cb9855d6df197cfc1b32ea8fa748a7c2b077a", func := "loop.example/g03110/laws.FnExactAddSeries", spec := "fnExactAddSeries", named := ["loop.example/g03110/impl.treeCounts"], apart := false, laid := [("loop.example/g03110/impl.treeCounts", laid_loop_example_g03110_impl_treeCounts)], narrowed := true }
def FnExactAddSeriesUptoSaid : Prop := fnExactAddSeriesUptoRow.holds Tryd.pinned (OpenSpec.upto fnExactAddSeriesSpec)

/-- 'laws.FnExactFormatSeries', WHERE WHAT IT READS IS OF BULK AT MOST 1048576: true; the input reads as it did. -/
def fnExactFormatSeriesUptoRow : OpenClaim := { program := "ytgbjoaheidgafaadoor", sum := "22e0b4f47c73167318e51658df9cb9855d6df197cfc1b32ea8fa748a7c2b077a", func := "loop.example/g03110/laws.FnExactFormatSeries", spec := "fnExactFormatSeries", inPlace := ["internal/abi.NoEscape", "internal/bytealg.MakeNoZero"], recurses := true, named := ["loop.example/g03110/impl.treeCounts"], apart := false, laid := [("loop.example/g03110/impl.treeCounts", laid_loop_example_g03110_impl_treeCounts)], narrowed := true }
def FnExactFormatSeriesUptoSaid : Prop := fnExactFormatSeriesUptoRow.holds Tryd.pinned (OpenSpec.upto fnExactFormatSeriesSpec)

/-- 'laws.FnExactParseSeries', WHERE WHAT IT READS IS OF BULK AT MOST 1048576: true; the input reads as it did. -/
def fnExactParseSeriesUptoRow : OpenClaim := { program := "ytgbjoaheidgafaadoor", sum := "22e0b4f47c73167318e51658df9cb9855d6df197cfc1b32ea8fa748a7c2b077a", func := "loop.example/g03110/laws.FnExactParseSeries", spec := "fnExactParseSeries", inPlace := ["internal/bytealg.CountString", "internal/bytealg.IndexByteString", "internal/bytealg.IndexString"], recurses := true, named := ["unicode/utf8.first", "unicode/utf8.acceptRanges", "internal/bytealg.MaxLen", "loop.example/g03110/impl.treeCounts"], apart := false, laid := [("unicode/utf8.acceptRanges", laid_unicode_utf8_acceptRanges), ("loop.example/g03110/impl.treeCounts", laid_loop_example_g03110_impl_treeCounts), ("unicode/utf8.first", laid_unicode_utf8_first)], narrowed := true }
def FnExactParseSeriesUptoSaid : Prop := fnExactParseSeriesUptoRow.holds Tryd.pinned (OpenSpec.upto fnExactParseSeriesSpec)

end Rows
end Go.Proofs.YtgbjoaheidgafaaDoor
