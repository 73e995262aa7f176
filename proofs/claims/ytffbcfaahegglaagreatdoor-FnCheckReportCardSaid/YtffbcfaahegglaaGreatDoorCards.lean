/-
  DERIVED. GIVEN WITH THE SEED: THE CARDS: each row of YtffbcfaahegglaaGreatDoorRows.lean that lists a variable, with what it lists TIED to the program's text (the seventh form; the later family's looks); each row that meets fmt, with fmt's text TOLD by the authors' own Lean function (tested against real Go, not proved from fmt's source: count such statements apart). THE CARD IS WHAT COUNTS. Prove the row's statement (the work); the ties are given (YtffbcfaahegglaaGreatDoorTie.lean); close each card by the builder's one call (the guide's Derived/Test/ToyasCard.lean, 'card_holds'). Laid BY PROGRAM, IN A SANDBOX (cutbox-door.mjs). By AI agents, Wed Nov 11 2026. No macro, syntax, notation, axiom, sorry.
-/
import Derived.Test.YtffbcfaahegglaaGreatDoorRows
import GoSem.ClaimSeven
namespace Go.Proofs.YtffbcfaahegglaaGreatDoor
namespace Rows

/-- THE TIED CARD OF 'laws.FnCheckReport'. -/
def fnCheckReportCard : Claim7 := { stood := { row := fnCheckReportRow, standIns := [], harness := (true, "a7c144cadbd638cbd34420483bc25326278853b2ccb71936a1a7ddbba5ed5652"), looks := false }, kinds := [], alts := [], laidByText := true, laidKinds := [.data, .data, .data], laidTests := true, laidLooks := .later }
def FnCheckReportCardSaid : Prop := Claim7.holds Tryz.pinned (.plain (OpenSpec.ofChange fnCheckReportSpec)) fnCheckReportCard

/-- THE TIED CARD OF 'laws.FnExactCheckReport'. -/
def fnExactCheckReportCard : Claim7 := { stood := { row := fnExactCheckReportRow, standIns := [], harness := (true, "a7c144cadbd638cbd34420483bc25326278853b2ccb71936a1a7ddbba5ed5652"), looks := false }, kinds := [], alts := [], laidByText := true, laidKinds := [.data, .data, .data], laidTests := true, laidLooks := .later }
def FnExactCheckReportCardSaid : Prop := Claim7.holds Tryz.pinned (.plain (OpenSpec.ofChange fnExactCheckReportSpec)) fnExactCheckReportCard

/-- THE SECOND FORM's CARD OF 'laws.FnCheckReport'. -/
def fnCheckReportUptoCard : Claim7 := { stood := { row := fnCheckReportUptoRow, standIns := [], harness := (true, "a7c144cadbd638cbd34420483bc25326278853b2ccb71936a1a7ddbba5ed5652"), looks := false }, kinds := [], alts := [], laidByText := true, laidKinds := [.data, .data, .data], laidTests := true, laidLooks := .later }
def FnCheckReportUptoCardSaid : Prop := Claim7.holds Tryz.pinned (.plain (OpenSpec.upto fnCheckReportSpec)) fnCheckReportUptoCard

/-- THE SECOND FORM's CARD OF 'laws.FnExactCheckReport'. -/
def fnExactCheckReportUptoCard : Claim7 := { stood := { row := fnExactCheckReportUptoRow, standIns := [], harness := (true, "a7c144cadbd638cbd34420483bc25326278853b2ccb71936a1a7ddbba5ed5652"), looks := false }, kinds := [], alts := [], laidByText := true, laidKinds := [.data, .data, .data], laidTests := true, laidLooks := .later }
def FnExactCheckReportUptoCardSaid : Prop := Claim7.holds Tryz.pinned (.plain (OpenSpec.upto fnExactCheckReportSpec)) fnExactCheckReportUptoCard
end Rows
end Go.Proofs.YtffbcfaahegglaaGreatDoor
