/-
  DERIVED. GIVEN WITH THE SEED: THE CARDS: each row of YtgbjoaheidgafaaDoorRows.lean that lists a variable, with what it lists TIED to the program's text (the seventh form; the later family's looks); each row that meets fmt, with fmt's text TOLD by the authors' own Lean function (tested against real Go, not proved from fmt's source: count such statements apart). THE CARD IS WHAT COUNTS. Prove the row's statement (the work); the ties are given (YtgbjoaheidgafaaDoorTie.lean); close each card by the builder's one call (the guide's Derived/Test/ToyasCard.lean, 'card_holds'). Laid BY PROGRAM, IN A SANDBOX (cutbox-door.mjs). By AI agents, Wed Nov 11 2026. No macro, syntax, notation, axiom, sorry.
-/
import Derived.Test.YtgbjoaheidgafaaDoorRows
import GoSem.ClaimSeven
namespace Go.Proofs.YtgbjoaheidgafaaDoor
namespace Rows

/-- THE TIED CARD OF 'laws.FnExactFieldSeries'. -/
def fnExactFieldSeriesCard : Claim7 := { stood := { row := fnExactFieldSeriesRow, standIns := [], harness := (true, "288f68874fece40679ec130bccb16d0de3cc6561f78547bf79a71e3dac242409"), looks := false }, kinds := [], alts := [], laidByText := true, laidKinds := [.data], laidTests := true, laidLooks := .later }
def FnExactFieldSeriesCardSaid : Prop := Claim7.holds Tryd.pinned (.plain (OpenSpec.ofChange fnExactFieldSeriesSpec)) fnExactFieldSeriesCard

/-- THE TIED CARD OF 'laws.FnExactAddSeries'. -/
def fnExactAddSeriesCard : Claim7 := { stood := { row := fnExactAddSeriesRow, standIns := [], harness := (true, "288f68874fece40679ec130bccb16d0de3cc6561f78547bf79a71e3dac242409"), looks := false }, kinds := [], alts := [], laidByText := true, laidKinds := [.data], laidTests := true, laidLooks := .later }
def FnExactAddSeriesCardSaid : Prop := Claim7.holds Tryd.pinned (.plain (OpenSpec.ofChange fnExactAddSeriesSpec)) fnExactAddSeriesCard

/-- THE TIED CARD OF 'laws.FnExactFormatSeries'. -/
def fnExactFormatSeriesCard : Claim7 := { stood := { row := fnExactFormatSeriesRow, standIns := [], harness := (true, "288f68874fece40679ec130bccb16d0de3cc6561f78547bf79a71e3dac242409"), looks := false }, kinds := [], alts := [], laidByText := true, laidKinds := [.data], laidTests := true, laidLooks := .later }
def FnExactFormatSeriesCardSaid : Prop := Claim7.holds Tryd.pinned (.plain (OpenSpec.ofChange fnExactFormatSeriesSpec)) fnExactFormatSeriesCard

/-- THE TIED CARD OF 'laws.FnExactParseSeries'. -/
def fnExactParseSeriesCard : Claim7 := { stood := { row := fnExactParseSeriesRow, standIns := [], harness := (true, "288f68874fece40679ec130bccb16d0de3cc6561f78547bf79a71e3dac242409"), looks := false }, kinds := [], alts := [], laidByText := true, laidKinds := [.data, .data, .pinned], laidTests := true, laidLooks := .later }
def FnExactParseSeriesCardSaid : Prop := Claim7.holds Tryd.pinned (.plain (OpenSpec.ofChange fnExactParseSeriesSpec)) fnExactParseSeriesCard

/-- THE SECOND FORM's CARD OF 'laws.FnExactFieldSeries'. -/
def fnExactFieldSeriesUptoCard : Claim7 := { stood := { row := fnExactFieldSeriesUptoRow, standIns := [], harness := (true, "288f68874fece40679ec130bccb16d0de3cc6561f78547bf79a71e3dac242409"), looks := false }, kinds := [], alts := [], laidByText := true, laidKinds := [.data], laidTests := true, laidLooks := .later }
def FnExactFieldSeriesUptoCardSaid : Prop := Claim7.holds Tryd.pinned (.plain (OpenSpec.upto fnExactFieldSeriesSpec)) fnExactFieldSeriesUptoCard

/-- THE SECOND FORM's CARD OF 'laws.FnExactAddSeries'. -/
def fnExactAddSeriesUptoCard : Claim7 := { stood := { row := fnExactAddSeriesUptoRow, standIns := [], harness := (true, "288f68874fece40679ec130bccb16d0de3cc6561f78547bf79a71e3dac242409"), looks := false }, kinds := [], alts := [], laidByText := true, laidKinds := [.data], laidTests := true, laidLooks := .later }
def FnExactAddSeriesUptoCardSaid : Prop := Claim7.holds Tryd.pinned (.plain (OpenSpec.upto fnExactAddSeriesSpec)) fnExactAddSeriesUptoCard

/-- THE SECOND FORM's CARD OF 'laws.FnExactFormatSeries'. -/
def fnExactFormatSeriesUptoCard : Claim7 := { stood := { row := fnExactFormatSeriesUptoRow, standIns := [], harness := (true, "288f68874fece40679ec130bccb16d0de3cc6561f78547bf79a71e3dac242409"), looks := false }, kinds := [], alts := [], laidByText := true, laidKinds := [.data], laidTests := true, laidLooks := .later }
def FnExactFormatSeriesUptoCardSaid : Prop := Claim7.holds Tryd.pinned (.plain (OpenSpec.upto fnExactFormatSeriesSpec)) fnExactFormatSeriesUptoCard

/-- THE SECOND FORM's CARD OF 'laws.FnExactParseSeries'. -/
def fnExactParseSeriesUptoCard : Claim7 := { stood := { row := fnExactParseSeriesUptoRow, standIns := [], harness := (true, "288f68874fece40679ec130bccb16d0de3cc6561f78547bf79a71e3dac242409"), looks := false }, kinds := [], alts := [], laidByText := true, laidKinds := [.data, .data, .pinned], laidTests := true, laidLooks := .later }
def FnExactParseSeriesUptoCardSaid : Prop := Claim7.holds Tryd.pinned (.plain (OpenSpec.upto fnExactParseSeriesSpec)) fnExactParseSeriesUptoCard
end Rows
end Go.Proofs.YtgbjoaheidgafaaDoor
