/-
  DERIVED. GIVEN WITH THE SEED: THE CARDS: each row of YtmbbedleimajcaaDoorRows.lean that lists a variable, with what it lists TIED to the program's text (the seventh form; the later family's looks); each row that meets fmt, with fmt's text TOLD by the authors' own Lean function (tested against real Go, not proved from fmt's source: count such statements apart). THE CARD IS WHAT COUNTS. Prove the row's statement (the work); the ties are given (YtmbbedleimajcaaDoorTie.lean); close each card by the builder's one call (the guide's Derived/Test/ToyasCard.lean, 'card_holds'). Laid BY PROGRAM, IN A SANDBOX (cutbox-door.mjs). By AI agents, Wed Nov 11 2026. No macro, syntax, notation, axiom, sorry.
-/
import Derived.Test.YtmbbedleimajcaaDoorRows
import GoSem.ClaimSeven
namespace Go.Proofs.YtmbbedleimajcaaDoor
namespace Rows

/-- THE TIED CARD OF 'laws.FnExactFormatReport'. -/
def fnExactFormatReportCard : Claim7 := { stood := { row := fnExactFormatReportRow, standIns := [], harness := (true, "281e7cdf73933270807c49c8a4b9c24738165a724e8c903eec0a24bbd7c695f5"), looks := false }, kinds := [], alts := [], laidByText := true, laidKinds := [.data, .data, .data], laidTests := true, laidLooks := .later }
def FnExactFormatReportCardSaid : Prop := Claim7.holds Tryd.pinned (.plain (OpenSpec.ofChange fnExactFormatReportSpec)) fnExactFormatReportCard

/-- THE TIED CARD OF 'laws.FnExactFormatSummary'. -/
def fnExactFormatSummaryCard : Claim7 := { stood := { row := fnExactFormatSummaryRow, standIns := [], harness := (true, "281e7cdf73933270807c49c8a4b9c24738165a724e8c903eec0a24bbd7c695f5"), looks := false }, kinds := [], alts := [], laidByText := true, laidKinds := [.data, .data, .data], laidTests := true, laidLooks := .later }
def FnExactFormatSummaryCardSaid : Prop := Claim7.holds Tryd.pinned (.plain (OpenSpec.ofChange fnExactFormatSummarySpec)) fnExactFormatSummaryCard

/-- THE TIED CARD OF 'laws.FnExactFormatScript'. -/
def fnExactFormatScriptCard : Claim7 := { stood := { row := fnExactFormatScriptRow, standIns := [], harness := (true, "281e7cdf73933270807c49c8a4b9c24738165a724e8c903eec0a24bbd7c695f5"), looks := false }, kinds := [], alts := [], laidByText := true, laidKinds := [.data, .data, .data], laidTests := true, laidLooks := .later }
def FnExactFormatScriptCardSaid : Prop := Claim7.holds Tryd.pinned (.plain (OpenSpec.ofChange fnExactFormatScriptSpec)) fnExactFormatScriptCard

/-- THE SECOND FORM's CARD OF 'laws.FnExactFormatReport'. -/
def fnExactFormatReportUptoCard : Claim7 := { stood := { row := fnExactFormatReportUptoRow, standIns := [], harness := (true, "281e7cdf73933270807c49c8a4b9c24738165a724e8c903eec0a24bbd7c695f5"), looks := false }, kinds := [], alts := [], laidByText := true, laidKinds := [.data, .data, .data], laidTests := true, laidLooks := .later }
def FnExactFormatReportUptoCardSaid : Prop := Claim7.holds Tryd.pinned (.plain (OpenSpec.upto fnExactFormatReportSpec)) fnExactFormatReportUptoCard

/-- THE SECOND FORM's CARD OF 'laws.FnExactFormatSummary'. -/
def fnExactFormatSummaryUptoCard : Claim7 := { stood := { row := fnExactFormatSummaryUptoRow, standIns := [], harness := (true, "281e7cdf73933270807c49c8a4b9c24738165a724e8c903eec0a24bbd7c695f5"), looks := false }, kinds := [], alts := [], laidByText := true, laidKinds := [.data, .data, .data], laidTests := true, laidLooks := .later }
def FnExactFormatSummaryUptoCardSaid : Prop := Claim7.holds Tryd.pinned (.plain (OpenSpec.upto fnExactFormatSummarySpec)) fnExactFormatSummaryUptoCard

/-- THE SECOND FORM's CARD OF 'laws.FnExactFormatScript'. -/
def fnExactFormatScriptUptoCard : Claim7 := { stood := { row := fnExactFormatScriptUptoRow, standIns := [], harness := (true, "281e7cdf73933270807c49c8a4b9c24738165a724e8c903eec0a24bbd7c695f5"), looks := false }, kinds := [], alts := [], laidByText := true, laidKinds := [.data, .data, .data], laidTests := true, laidLooks := .later }
def FnExactFormatScriptUptoCardSaid : Prop := Claim7.holds Tryd.pinned (.plain (OpenSpec.upto fnExactFormatScriptSpec)) fnExactFormatScriptUptoCard
end Rows
end Go.Proofs.YtmbbedleimajcaaDoor
