/-
  DERIVED. GIVEN WITH THE SEED: THE CARDS: each row of YtffbcfaahegglaaDoorRows.lean that lists a variable, with what it lists TIED to the program's text (the seventh form; the later family's looks); each row that meets fmt, with fmt's text TOLD by the authors' own Lean function (tested against real Go, not proved from fmt's source: count such statements apart). THE CARD IS WHAT COUNTS. Prove the row's statement (the work); the ties are given (YtffbcfaahegglaaDoorTie.lean); close each card by the builder's one call (the guide's Derived/Test/ToyasCard.lean, 'card_holds'). Laid BY PROGRAM, IN A SANDBOX (cutbox-door.mjs). By AI agents, Wed Nov 11 2026. No macro, syntax, notation, axiom, sorry.
-/
import Derived.Test.YtffbcfaahegglaaDoorRows
import GoSem.ClaimSeven
namespace Go.Proofs.YtffbcfaahegglaaDoor
namespace Rows

/-- THE TIED CARD OF 'laws.FnExactFormatReport'. -/
def fnExactFormatReportCard : Claim7 := { stood := { row := fnExactFormatReportRow, standIns := [], harness := (true, "dacef3565e6a04d01305aac7912de91cdb306dbe16ea8dbfc283829689f9a886"), looks := false }, kinds := [], alts := [], laidByText := true, laidKinds := [.data, .data, .data], laidTests := true, laidLooks := .later }
def FnExactFormatReportCardSaid : Prop := Claim7.holds Tryd.pinned (.plain (OpenSpec.ofChange fnExactFormatReportSpec)) fnExactFormatReportCard

/-- THE TIED CARD OF 'laws.FnRulesText'. -/
def fnRulesTextCard : Claim7 := { stood := { row := fnRulesTextRow, standIns := [], harness := (true, "dacef3565e6a04d01305aac7912de91cdb306dbe16ea8dbfc283829689f9a886"), looks := false }, kinds := [], alts := [], laidByText := true, laidKinds := [.data, .pinned], laidTests := true, laidLooks := .later }
def FnRulesTextCardSaid : Prop := Claim7.holds Tryd.pinned (.plain (OpenSpec.ofChange fnRulesTextSpec)) fnRulesTextCard

/-- THE TIED CARD OF 'laws.FnExactParseNetwork'. -/
def fnExactParseNetworkCard : Claim7 := { stood := { row := fnExactParseNetworkRow, standIns := [], harness := (true, "dacef3565e6a04d01305aac7912de91cdb306dbe16ea8dbfc283829689f9a886"), looks := false }, kinds := [], alts := [], laidByText := true, laidKinds := [.data, .pinned], laidTests := true, laidLooks := .later }
def FnExactParseNetworkCardSaid : Prop := Claim7.holds Tryd.pinned (.plain (OpenSpec.ofChange fnExactParseNetworkSpec)) fnExactParseNetworkCard

/-- THE TIED CARD OF 'laws.FnNetworkText'. -/
def fnNetworkTextCard : Claim7 := { stood := { row := fnNetworkTextRow, standIns := [], harness := (true, "dacef3565e6a04d01305aac7912de91cdb306dbe16ea8dbfc283829689f9a886"), looks := false }, kinds := [], alts := [], laidByText := true, laidKinds := [.data, .pinned], laidTests := true, laidLooks := .later }
def FnNetworkTextCardSaid : Prop := Claim7.holds Tryd.pinned (.plain (OpenSpec.ofChange fnNetworkTextSpec)) fnNetworkTextCard

/-- THE TIED CARD OF 'laws.FnReportText'. -/
def fnReportTextCard : Claim7 := { stood := { row := fnReportTextRow, standIns := [], harness := (true, "dacef3565e6a04d01305aac7912de91cdb306dbe16ea8dbfc283829689f9a886"), looks := false }, kinds := [], alts := [], laidByText := true, laidKinds := [.data, .data, .data], laidTests := true, laidLooks := .later }
def FnReportTextCardSaid : Prop := Claim7.holds Tryd.pinned (.plain (OpenSpec.ofChange fnReportTextSpec)) fnReportTextCard

/-- THE SECOND FORM's CARD OF 'laws.FnExactFormatReport'. -/
def fnExactFormatReportUptoCard : Claim7 := { stood := { row := fnExactFormatReportUptoRow, standIns := [], harness := (true, "dacef3565e6a04d01305aac7912de91cdb306dbe16ea8dbfc283829689f9a886"), looks := false }, kinds := [], alts := [], laidByText := true, laidKinds := [.data, .data, .data], laidTests := true, laidLooks := .later }
def FnExactFormatReportUptoCardSaid : Prop := Claim7.holds Tryd.pinned (.plain (OpenSpec.upto fnExactFormatReportSpec)) fnExactFormatReportUptoCard

/-- THE SECOND FORM's CARD OF 'laws.FnRulesText'. -/
def fnRulesTextUptoCard : Claim7 := { stood := { row := fnRulesTextUptoRow, standIns := [], harness := (true, "dacef3565e6a04d01305aac7912de91cdb306dbe16ea8dbfc283829689f9a886"), looks := false }, kinds := [], alts := [], laidByText := true, laidKinds := [.data, .pinned], laidTests := true, laidLooks := .later }
def FnRulesTextUptoCardSaid : Prop := Claim7.holds Tryd.pinned (.plain (OpenSpec.upto fnRulesTextSpec)) fnRulesTextUptoCard

/-- THE SECOND FORM's CARD OF 'laws.FnExactParseNetwork'. -/
def fnExactParseNetworkUptoCard : Claim7 := { stood := { row := fnExactParseNetworkUptoRow, standIns := [], harness := (true, "dacef3565e6a04d01305aac7912de91cdb306dbe16ea8dbfc283829689f9a886"), looks := false }, kinds := [], alts := [], laidByText := true, laidKinds := [.data, .pinned], laidTests := true, laidLooks := .later }
def FnExactParseNetworkUptoCardSaid : Prop := Claim7.holds Tryd.pinned (.plain (OpenSpec.upto fnExactParseNetworkSpec)) fnExactParseNetworkUptoCard

/-- THE SECOND FORM's CARD OF 'laws.FnNetworkText'. -/
def fnNetworkTextUptoCard : Claim7 := { stood := { row := fnNetworkTextUptoRow, standIns := [], harness := (true, "dacef3565e6a04d01305aac7912de91cdb306dbe16ea8dbfc283829689f9a886"), looks := false }, kinds := [], alts := [], laidByText := true, laidKinds := [.data, .pinned], laidTests := true, laidLooks := .later }
def FnNetworkTextUptoCardSaid : Prop := Claim7.holds Tryd.pinned (.plain (OpenSpec.upto fnNetworkTextSpec)) fnNetworkTextUptoCard

/-- THE SECOND FORM's CARD OF 'laws.FnReportText'. -/
def fnReportTextUptoCard : Claim7 := { stood := { row := fnReportTextUptoRow, standIns := [], harness := (true, "dacef3565e6a04d01305aac7912de91cdb306dbe16ea8dbfc283829689f9a886"), looks := false }, kinds := [], alts := [], laidByText := true, laidKinds := [.data, .data, .data], laidTests := true, laidLooks := .later }
def FnReportTextUptoCardSaid : Prop := Claim7.holds Tryd.pinned (.plain (OpenSpec.upto fnReportTextSpec)) fnReportTextUptoCard
end Rows
end Go.Proofs.YtffbcfaahegglaaDoor
