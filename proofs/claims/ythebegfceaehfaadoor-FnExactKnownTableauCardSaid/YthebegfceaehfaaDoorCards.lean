/-
  DERIVED. GIVEN WITH THE SEED: THE CARDS: each row of YthebegfceaehfaaDoorRows.lean that lists a variable, with what it lists TIED to the program's text (the seventh form; the later family's looks); each row that meets fmt, with fmt's text TOLD by the authors' own Lean function (tested against real Go, not proved from fmt's source: count such statements apart). THE CARD IS WHAT COUNTS. Prove the row's statement (the work); the ties are given (YthebegfceaehfaaDoorTie.lean); close each card by the builder's one call (the guide's Derived/Test/ToyasCard.lean, 'card_holds'). Laid BY PROGRAM, IN A SANDBOX (cutbox-door.mjs). By AI agents, Wed Nov 11 2026. No macro, syntax, notation, axiom, sorry.
-/
import Derived.Test.YthebegfceaehfaaDoorRows
import GoSem.ClaimSeven
namespace Go.Proofs.YthebegfceaehfaaDoor
namespace Rows

/-- THE TIED CARD OF 'laws.FnExactParseTableau'. -/
def fnExactParseTableauCard : Claim7 := { stood := { row := fnExactParseTableauRow, standIns := [], harness := (true, "08bca85d23bf4d78d4c2c53e72ed0e4202e3cc438307aca16430963d985dd4d9"), looks := false }, kinds := [], alts := [], laidByText := true, laidKinds := [.data, .pinned], laidTests := true, laidLooks := .later }
def FnExactParseTableauCardSaid : Prop := Claim7.holds Tryd.pinned (.plain (OpenSpec.ofChange fnExactParseTableauSpec)) fnExactParseTableauCard

/-- THE TIED CARD OF 'laws.FnExactKnownTableau'. -/
def fnExactKnownTableauCard : Claim7 := { stood := { row := fnExactKnownTableauRow, standIns := [], harness := (true, "08bca85d23bf4d78d4c2c53e72ed0e4202e3cc438307aca16430963d985dd4d9"), looks := false }, kinds := [], alts := [], laidByText := true, laidKinds := [.data, .pinned], laidTests := true, laidLooks := .later }
def FnExactKnownTableauCardSaid : Prop := Claim7.holds Tryd.pinned (.plain (OpenSpec.ofChange fnExactKnownTableauSpec)) fnExactKnownTableauCard

/-- THE SECOND FORM's CARD OF 'laws.FnExactParseTableau'. -/
def fnExactParseTableauUptoCard : Claim7 := { stood := { row := fnExactParseTableauUptoRow, standIns := [], harness := (true, "08bca85d23bf4d78d4c2c53e72ed0e4202e3cc438307aca16430963d985dd4d9"), looks := false }, kinds := [], alts := [], laidByText := true, laidKinds := [.data, .pinned], laidTests := true, laidLooks := .later }
def FnExactParseTableauUptoCardSaid : Prop := Claim7.holds Tryd.pinned (.plain (OpenSpec.upto fnExactParseTableauSpec)) fnExactParseTableauUptoCard

/-- THE SECOND FORM's CARD OF 'laws.FnExactKnownTableau'. -/
def fnExactKnownTableauUptoCard : Claim7 := { stood := { row := fnExactKnownTableauUptoRow, standIns := [], harness := (true, "08bca85d23bf4d78d4c2c53e72ed0e4202e3cc438307aca16430963d985dd4d9"), looks := false }, kinds := [], alts := [], laidByText := true, laidKinds := [.data, .pinned], laidTests := true, laidLooks := .later }
def FnExactKnownTableauUptoCardSaid : Prop := Claim7.holds Tryd.pinned (.plain (OpenSpec.upto fnExactKnownTableauSpec)) fnExactKnownTableauUptoCard
end Rows
end Go.Proofs.YthebegfceaehfaaDoor
