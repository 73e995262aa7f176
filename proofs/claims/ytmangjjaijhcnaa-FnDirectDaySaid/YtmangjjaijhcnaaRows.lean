/-
  No cell of these rows narrows 'for every input' (looked for: loops, veiled, ifaces, maps, wideKeys, modest, calm, conditions, laid).
  DERIVED. THE GIVEN ROWS OF THIS SEAT. 7 by the template 'for every input the law returns true; each argument reads behind the call as it read before'; 0 by the template 'total and deterministic' (their statements: YtmangjjaijhcnaaTotals.lean).
  GIVEN WITH THE SEED: the statements are not yours to turn. If you find one false, say at which input.
  Laid BY PROGRAM, IN A SANDBOX (cutbox-rows.mjs): the forced cells as the released guide's own fill.sh prints them over the translation 3df8081ba18ec52c… (all of the seat's roots in one cut). By AI agents, Wed Nov 11 2026. No macro, syntax, notation, axiom, sorry.
-/
import Derived.Test.YtmangjjaijhcnaaChecked
import GoSem.Claim
import GoSem.ClaimJoined
import GoSem.ClaimMapViews
import Derived.JoinedTies
import Derived.KernelRfl
namespace Go.Proofs.Ytmangjjaijhcnaa
/- THE CELL 'sum', in the pinned program and in every row, IS THE sha256 OF THE DUMP (.gsa) THAT YtmangjjaijhcnaaProg.lean LOADS. Nothing in Lean hashes anything: it is a label: what it is worth is what the hold of that sum in a sandbox is worth. -/
noncomputable def Try.pinned : Pinned := { name := "ytmangjjaijhcnaa", sum := "3df8081ba18ec52c80fc0af466c7a22c4dba87b92521783bca6051538d826fbe", checked := Try.checked }
namespace Rows
def none {H : Type} : Left H := { results := [], args := [] }

/-- 'laws.FnDirectDay': WHATEVER THE INPUT: true; the input reads as it did. -/
def fnDirectDaySpec : ChangeSpec := { name := "fnDirectDay", fn := fun _ => fun
  | [d] => { results := [.lit (.bool true)], args := [d] }
  | _ => none }
def fnDirectDayRow : OpenClaim := { program := "ytmangjjaijhcnaa", sum := "3df8081ba18ec52c80fc0af466c7a22c4dba87b92521783bca6051538d826fbe", func := "loop.example/sortingoffice/laws.FnDirectDay", spec := "fnDirectDay", inPlace := ["internal/bytealg.abigen_runtime_cmpstring"], unfollowed := true, recurses := true, apart := false }
def FnDirectDaySaid : Prop := fnDirectDayRow.holds Try.pinned (OpenSpec.ofChange fnDirectDaySpec)

/-- ITS FALSE NEIGHBOUR: 'it returns false'. Refute it at one input. -/
def fnDirectDayWrong : ChangeSpec := { name := "fnDirectDay", fn := fun _ => fun
  | [d] => { results := [.lit (.bool false)], args := [d] }
  | _ => none }
def FnDirectDayWrongFalsely : Prop := fnDirectDayRow.holds Try.pinned (OpenSpec.ofChange fnDirectDayWrong)

/-- 'laws.FnExactTransitCount': WHATEVER THE INPUT: true; the input reads as it did. -/
def fnExactTransitCountSpec : ChangeSpec := { name := "fnExactTransitCount", fn := fun _ => fun
  | [d1, d2, d3] => { results := [.lit (.bool true)], args := [d1, d2, d3] }
  | _ => none }
def fnExactTransitCountRow : OpenClaim := { program := "ytmangjjaijhcnaa", sum := "3df8081ba18ec52c80fc0af466c7a22c4dba87b92521783bca6051538d826fbe", func := "loop.example/sortingoffice/laws.FnExactTransitCount", spec := "fnExactTransitCount", apart := false }
def FnExactTransitCountSaid : Prop := fnExactTransitCountRow.holds Try.pinned (OpenSpec.ofChange fnExactTransitCountSpec)

/-- ITS FALSE NEIGHBOUR: 'it returns false'. Refute it at one input. -/
def fnExactTransitCountWrong : ChangeSpec := { name := "fnExactTransitCount", fn := fun _ => fun
  | [d1, d2, d3] => { results := [.lit (.bool false)], args := [d1, d2, d3] }
  | _ => none }
def FnExactTransitCountWrongFalsely : Prop := fnExactTransitCountRow.holds Try.pinned (OpenSpec.ofChange fnExactTransitCountWrong)

/-- 'laws.FnTransit': WHATEVER THE INPUT: true; the input reads as it did. -/
def fnTransitSpec : ChangeSpec := { name := "fnTransit", fn := fun _ => fun
  | [d1, d2] => { results := [.lit (.bool true)], args := [d1, d2] }
  | _ => none }
def fnTransitRow : OpenClaim := { program := "ytmangjjaijhcnaa", sum := "3df8081ba18ec52c80fc0af466c7a22c4dba87b92521783bca6051538d826fbe", func := "loop.example/sortingoffice/laws.FnTransit", spec := "fnTransit", recurses := true, apart := false }
def FnTransitSaid : Prop := fnTransitRow.holds Try.pinned (OpenSpec.ofChange fnTransitSpec)

/-- ITS FALSE NEIGHBOUR: 'it returns false'. Refute it at one input. -/
def fnTransitWrong : ChangeSpec := { name := "fnTransit", fn := fun _ => fun
  | [d1, d2] => { results := [.lit (.bool false)], args := [d1, d2] }
  | _ => none }
def FnTransitWrongFalsely : Prop := fnTransitRow.holds Try.pinned (OpenSpec.ofChange fnTransitWrong)

/-- 'laws.FnFaultsShort': WHATEVER THE INPUT: true; the input reads as it did. -/
def fnFaultsShortSpec : ChangeSpec := { name := "fnFaultsShort", fn := fun _ => fun
  | [d] => { results := [.lit (.bool true)], args := [d] }
  | _ => none }
def fnFaultsShortRow : OpenClaim := { program := "ytmangjjaijhcnaa", sum := "3df8081ba18ec52c80fc0af466c7a22c4dba87b92521783bca6051538d826fbe", func := "loop.example/sortingoffice/laws.FnFaultsShort", spec := "fnFaultsShort", recurses := true, apart := false }
def FnFaultsShortSaid : Prop := fnFaultsShortRow.holds Try.pinned (OpenSpec.ofChange fnFaultsShortSpec)

/-- ITS FALSE NEIGHBOUR: 'it returns false'. Refute it at one input. -/
def fnFaultsShortWrong : ChangeSpec := { name := "fnFaultsShort", fn := fun _ => fun
  | [d] => { results := [.lit (.bool false)], args := [d] }
  | _ => none }
def FnFaultsShortWrongFalsely : Prop := fnFaultsShortRow.holds Try.pinned (OpenSpec.ofChange fnFaultsShortWrong)

/-- 'laws.FnFaults': WHATEVER THE INPUT: true; the input reads as it did. -/
def fnFaultsSpec : ChangeSpec := { name := "fnFaults", fn := fun _ => fun
  | [d] => { results := [.lit (.bool true)], args := [d] }
  | _ => none }
def fnFaultsRow : OpenClaim := { program := "ytmangjjaijhcnaa", sum := "3df8081ba18ec52c80fc0af466c7a22c4dba87b92521783bca6051538d826fbe", func := "loop.example/sortingoffice/laws.FnFaults", spec := "fnFaults", recurses := true, apart := false }
def FnFaultsSaid : Prop := fnFaultsRow.holds Try.pinned (OpenSpec.ofChange fnFaultsSpec)

/-- ITS FALSE NEIGHBOUR: 'it returns false'. Refute it at one input. -/
def fnFaultsWrong : ChangeSpec := { name := "fnFaults", fn := fun _ => fun
  | [d] => { results := [.lit (.bool false)], args := [d] }
  | _ => none }
def FnFaultsWrongFalsely : Prop := fnFaultsRow.holds Try.pinned (OpenSpec.ofChange fnFaultsWrong)

/-- 'laws.FnExactFaultyPrefixes': WHATEVER THE INPUT: true; the input reads as it did. -/
def fnExactFaultyPrefixesSpec : ChangeSpec := { name := "fnExactFaultyPrefixes", fn := fun _ => fun
  | [d1, d2] => { results := [.lit (.bool true)], args := [d1, d2] }
  | _ => none }
def fnExactFaultyPrefixesRow : OpenClaim := { program := "ytmangjjaijhcnaa", sum := "3df8081ba18ec52c80fc0af466c7a22c4dba87b92521783bca6051538d826fbe", func := "loop.example/sortingoffice/laws.FnExactFaultyPrefixes", spec := "fnExactFaultyPrefixes", recurses := true, apart := false }
def FnExactFaultyPrefixesSaid : Prop := fnExactFaultyPrefixesRow.holds Try.pinned (OpenSpec.ofChange fnExactFaultyPrefixesSpec)

/-- ITS FALSE NEIGHBOUR: 'it returns false'. Refute it at one input. -/
def fnExactFaultyPrefixesWrong : ChangeSpec := { name := "fnExactFaultyPrefixes", fn := fun _ => fun
  | [d1, d2] => { results := [.lit (.bool false)], args := [d1, d2] }
  | _ => none }
def FnExactFaultyPrefixesWrongFalsely : Prop := fnExactFaultyPrefixesRow.holds Try.pinned (OpenSpec.ofChange fnExactFaultyPrefixesWrong)

/-- 'laws.FnSeal': WHATEVER THE INPUT: true; the input reads as it did. -/
def fnSealSpec : ChangeSpec := { name := "fnSeal", fn := fun _ => fun
  | [d] => { results := [.lit (.bool true)], args := [d] }
  | _ => none }
def fnSealRow : OpenClaim := { program := "ytmangjjaijhcnaa", sum := "3df8081ba18ec52c80fc0af466c7a22c4dba87b92521783bca6051538d826fbe", func := "loop.example/sortingoffice/laws.FnSeal", spec := "fnSeal", inPlace := ["internal/bytealg.abigen_runtime_cmpstring"], unfollowed := true, recurses := true, apart := false }
def FnSealSaid : Prop := fnSealRow.holds Try.pinned (OpenSpec.ofChange fnSealSpec)

/-- ITS FALSE NEIGHBOUR: 'it returns false'. Refute it at one input. -/
def fnSealWrong : ChangeSpec := { name := "fnSeal", fn := fun _ => fun
  | [d] => { results := [.lit (.bool false)], args := [d] }
  | _ => none }
def FnSealWrongFalsely : Prop := fnSealRow.holds Try.pinned (OpenSpec.ofChange fnSealWrong)

/- THE SECOND FORM. 'bulk': how many values and letters a reading holds, each counted each time it is reached (what is shared counts as often as it is met; a slice's spare places count too). A statement '..UptoSaid' is the law's where the arguments, and the package variables that the reading takes, are together of bulk at most 1048576: NARROWER than '..Said'. Prove '..Said' where nothing that the law and all that it calls make is longer than what came in: it says more and counts as full. Else prove '..UptoSaid'. A law counts once. -/
mutual
def uptoBulk {H : Type} : DataW H → Nat
  | .lit (.string bytes) => bytes.length + 1
  | .lit _ => 1
  | .nil => 1
  | .ptr d => uptoBulk d + 1
  | .slice elems spare => uptoBulkAll elems + uptoBulkAll spare + 1
  | .agg parts => uptoBulkAll parts + 1
  | .iface _ d => uptoBulk d + 1
  | .map entries => uptoBulkEntries entries + 1
  | .held _ => 1
def uptoBulkAll {H : Type} : List (DataW H) → Nat
  | [] => 0
  | d :: r => uptoBulk d + uptoBulkAll r
def uptoBulkEntries {H : Type} : List (Lit × DataW H) → Nat
  | [] => 0
  | x :: r => uptoBulkEntry x + uptoBulkEntries r
def uptoBulkEntry {H : Type} : Lit × DataW H → Nat
  | (.string bytes, d) => bytes.length + uptoBulk d + 1
  | (_, d) => uptoBulk d + 1
 end
def uptoSmall : (H : Type) → List (DataW H) → Bool := fun _ ds => decide (uptoBulkAll ds ≤ 1048576)
def OpenSpec.upto (s : _root_.Go.ChangeSpec) : _root_.Go.OpenSpec := { _root_.Go.OpenSpec.ofChange s with cond := some uptoSmall }

/-- 'laws.FnDirectDay', WHERE WHAT IT READS IS OF BULK AT MOST 1048576: true; the input reads as it did. -/
def fnDirectDayUptoRow : OpenClaim := { program := "ytmangjjaijhcnaa", sum := "3df8081ba18ec52c80fc0af466c7a22c4dba87b92521783bca6051538d826fbe", func := "loop.example/sortingoffice/laws.FnDirectDay", spec := "fnDirectDay", inPlace := ["internal/bytealg.abigen_runtime_cmpstring"], unfollowed := true, recurses := true, apart := false, narrowed := true }
def FnDirectDayUptoSaid : Prop := fnDirectDayUptoRow.holds Try.pinned (OpenSpec.upto fnDirectDaySpec)

/-- 'laws.FnExactTransitCount', WHERE WHAT IT READS IS OF BULK AT MOST 1048576: true; the input reads as it did. -/
def fnExactTransitCountUptoRow : OpenClaim := { program := "ytmangjjaijhcnaa", sum := "3df8081ba18ec52c80fc0af466c7a22c4dba87b92521783bca6051538d826fbe", func := "loop.example/sortingoffice/laws.FnExactTransitCount", spec := "fnExactTransitCount", apart := false, narrowed := true }
def FnExactTransitCountUptoSaid : Prop := fnExactTransitCountUptoRow.holds Try.pinned (OpenSpec.upto fnExactTransitCountSpec)

/-- 'laws.FnTransit', WHERE WHAT IT READS IS OF BULK AT MOST 1048576: true; the input reads as it did. -/
def fnTransitUptoRow : OpenClaim := { program := "ytmangjjaijhcnaa", sum := "3df8081ba18ec52c80fc0af466c7a22c4dba87b92521783bca6051538d826fbe", func := "loop.example/sortingoffice/laws.FnTransit", spec := "fnTransit", recurses := true, apart := false, narrowed := true }
def FnTransitUptoSaid : Prop := fnTransitUptoRow.holds Try.pinned (OpenSpec.upto fnTransitSpec)

/-- 'laws.FnFaultsShort', WHERE WHAT IT READS IS OF BULK AT MOST 1048576: true; the input reads as it did. -/
def fnFaultsShortUptoRow : OpenClaim := { program := "ytmangjjaijhcnaa", sum := "3df8081ba18ec52c80fc0af466c7a22c4dba87b92521783bca6051538d826fbe", func := "loop.example/sortingoffice/laws.FnFaultsShort", spec := "fnFaultsShort", recurses := true, apart := false, narrowed := true }
def FnFaultsShortUptoSaid : Prop := fnFaultsShortUptoRow.holds Try.pinned (OpenSpec.upto fnFaultsShortSpec)

/-- 'laws.FnFaults', WHERE WHAT IT READS IS OF BULK AT MOST 1048576: true; the input reads as it did. -/
def fnFaultsUptoRow : OpenClaim := { program := "ytmangjjaijhcnaa", sum := "3df8081ba18ec52c80fc0af466c7a22c4dba87b92521783bca6051538d826fbe", func := "loop.example/sortingoffice/laws.FnFaults", spec := "fnFaults", recurses := true, apart := false, narrowed := true }
def FnFaultsUptoSaid : Prop := fnFaultsUptoRow.holds Try.pinned (OpenSpec.upto fnFaultsSpec)

/-- 'laws.FnExactFaultyPrefixes', WHERE WHAT IT READS IS OF BULK AT MOST 1048576: true; the input reads as it did. -/
def fnExactFaultyPrefixesUptoRow : OpenClaim := { program := "ytmangjjaijhcnaa", sum := "3df8081ba18ec52c80fc0af466c7a22c4dba87b92521783bca6051538d826fbe", func := "loop.example/sortingoffice/laws.FnExactFaultyPrefixes", spec := "fnExactFaultyPrefixes", recurses := true, apart := false, narrowed := true }
def FnExactFaultyPrefixesUptoSaid : Prop := fnExactFaultyPrefixesUptoRow.holds Try.pinned (OpenSpec.upto fnExactFaultyPrefixesSpec)

/-- 'laws.FnSeal', WHERE WHAT IT READS IS OF BULK AT MOST 1048576: true; the input reads as it did. -/
def fnSealUptoRow : OpenClaim := { program := "ytmangjjaijhcnaa", sum := "3df8081ba18ec52c80fc0af466c7a22c4dba87b92521783bca6051538d826fbe", func := "loop.example/sortingoffice/laws.FnSeal", spec := "fnSeal", inPlace := ["internal/bytealg.abigen_runtime_cmpstring"], unfollowed := true, recurses := true, apart := false, narrowed := true }
def FnSealUptoSaid : Prop := fnSealUptoRow.holds Try.pinned (OpenSpec.upto fnSealSpec)

end Rows
end Go.Proofs.Ytmangjjaijhcnaa
