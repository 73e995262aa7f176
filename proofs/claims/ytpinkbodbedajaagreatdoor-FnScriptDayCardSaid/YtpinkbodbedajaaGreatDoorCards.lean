/-
  DERIVED. GIVEN WITH THE SEED: THE CARDS: each row of YtpinkbodbedajaaGreatDoorRows.lean that lists a variable, with what it lists TIED to the program's text (the seventh form; the later family's looks); each row that meets fmt, with fmt's text TOLD by the authors' own Lean function (tested against real Go, not proved from fmt's source: count such statements apart). THE CARD IS WHAT COUNTS. Prove the row's statement (the work); the ties are given (YtpinkbodbedajaaGreatDoorTie.lean); close each card by the builder's one call (the guide's Derived/Test/ToyasCard.lean, 'card_holds'). Laid BY PROGRAM, IN A SANDBOX (cutbox-door.mjs). By AI agents, Wed Nov 11 2026. No macro, syntax, notation, axiom, sorry.
-/
import Derived.Test.YtpinkbodbedajaaGreatDoorRows
import GoSem.ClaimSeven
namespace Go.Proofs.YtpinkbodbedajaaGreatDoor
namespace Rows

/-- THE TIED CARD OF 'laws.FnScriptDay'. -/
def fnScriptDayCard : Claim7 := { stood := { row := fnScriptDayRow, standIns := [], harness := (true, "d1cafa588c159c972b1ac6da067cb6790cd34fe1db0ea192c2fa15cde984554d"), looks := false }, kinds := [], alts := [], laidByText := true, laidKinds := [.data, .data, .data, .data, .data, .pinned], laidTests := true, laidLooks := .later }
def FnScriptDayCardSaid : Prop := Claim7.holds Tryz.pinned (.plain (OpenSpec.ofChange fnScriptDaySpec)) fnScriptDayCard

/-- THE TIED CARD OF 'laws.FnScriptCode'. -/
def fnScriptCodeCard : Claim7 := { stood := { row := fnScriptCodeRow, standIns := [], harness := (true, "d1cafa588c159c972b1ac6da067cb6790cd34fe1db0ea192c2fa15cde984554d"), looks := false }, kinds := [], alts := [], laidByText := true, laidKinds := [.data, .data, .data, .data, .data, .pinned], laidTests := true, laidLooks := .later }
def FnScriptCodeCardSaid : Prop := Claim7.holds Tryz.pinned (.plain (OpenSpec.ofChange fnScriptCodeSpec)) fnScriptCodeCard

/-- THE TIED CARD OF 'laws.FnScriptNet'. -/
def fnScriptNetCard : Claim7 := { stood := { row := fnScriptNetRow, standIns := [], harness := (true, "d1cafa588c159c972b1ac6da067cb6790cd34fe1db0ea192c2fa15cde984554d"), looks := false }, kinds := [], alts := [], laidByText := true, laidKinds := [.data, .data, .data, .data, .data, .pinned], laidTests := true, laidLooks := .later }
def FnScriptNetCardSaid : Prop := Claim7.holds Tryz.pinned (.plain (OpenSpec.ofChange fnScriptNetSpec)) fnScriptNetCard

/-- THE TIED CARD OF 'laws.FnScriptSort'. -/
def fnScriptSortCard : Claim7 := { stood := { row := fnScriptSortRow, standIns := [], harness := (true, "d1cafa588c159c972b1ac6da067cb6790cd34fe1db0ea192c2fa15cde984554d"), looks := false }, kinds := [], alts := [], laidByText := true, laidKinds := [.data, .data, .data, .data, .data, .pinned], laidTests := true, laidLooks := .later }
def FnScriptSortCardSaid : Prop := Claim7.holds Tryz.pinned (.plain (OpenSpec.ofChange fnScriptSortSpec)) fnScriptSortCard

/-- THE SECOND FORM's CARD OF 'laws.FnScriptDay'. -/
def fnScriptDayUptoCard : Claim7 := { stood := { row := fnScriptDayUptoRow, standIns := [], harness := (true, "d1cafa588c159c972b1ac6da067cb6790cd34fe1db0ea192c2fa15cde984554d"), looks := false }, kinds := [], alts := [], laidByText := true, laidKinds := [.data, .data, .data, .data, .data, .pinned], laidTests := true, laidLooks := .later }
def FnScriptDayUptoCardSaid : Prop := Claim7.holds Tryz.pinned (.plain (OpenSpec.upto fnScriptDaySpec)) fnScriptDayUptoCard

/-- THE SECOND FORM's CARD OF 'laws.FnScriptCode'. -/
def fnScriptCodeUptoCard : Claim7 := { stood := { row := fnScriptCodeUptoRow, standIns := [], harness := (true, "d1cafa588c159c972b1ac6da067cb6790cd34fe1db0ea192c2fa15cde984554d"), looks := false }, kinds := [], alts := [], laidByText := true, laidKinds := [.data, .data, .data, .data, .data, .pinned], laidTests := true, laidLooks := .later }
def FnScriptCodeUptoCardSaid : Prop := Claim7.holds Tryz.pinned (.plain (OpenSpec.upto fnScriptCodeSpec)) fnScriptCodeUptoCard

/-- THE SECOND FORM's CARD OF 'laws.FnScriptNet'. -/
def fnScriptNetUptoCard : Claim7 := { stood := { row := fnScriptNetUptoRow, standIns := [], harness := (true, "d1cafa588c159c972b1ac6da067cb6790cd34fe1db0ea192c2fa15cde984554d"), looks := false }, kinds := [], alts := [], laidByText := true, laidKinds := [.data, .data, .data, .data, .data, .pinned], laidTests := true, laidLooks := .later }
def FnScriptNetUptoCardSaid : Prop := Claim7.holds Tryz.pinned (.plain (OpenSpec.upto fnScriptNetSpec)) fnScriptNetUptoCard

/-- THE SECOND FORM's CARD OF 'laws.FnScriptSort'. -/
def fnScriptSortUptoCard : Claim7 := { stood := { row := fnScriptSortUptoRow, standIns := [], harness := (true, "d1cafa588c159c972b1ac6da067cb6790cd34fe1db0ea192c2fa15cde984554d"), looks := false }, kinds := [], alts := [], laidByText := true, laidKinds := [.data, .data, .data, .data, .data, .pinned], laidTests := true, laidLooks := .later }
def FnScriptSortUptoCardSaid : Prop := Claim7.holds Tryz.pinned (.plain (OpenSpec.upto fnScriptSortSpec)) fnScriptSortUptoCard
end Rows
end Go.Proofs.YtpinkbodbedajaaGreatDoor
