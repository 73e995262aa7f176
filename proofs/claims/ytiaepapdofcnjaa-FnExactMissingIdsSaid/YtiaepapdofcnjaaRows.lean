/-
  No cell of these rows narrows 'for every input' (looked for: loops, veiled, ifaces, maps, wideKeys, modest, calm, conditions, laid).
  DERIVED. THE GIVEN ROWS OF THIS SEAT. 10 by the template 'for every input the law returns true; each argument reads behind the call as it read before'; 0 by the template 'total and deterministic' (their statements: YtiaepapdofcnjaaTotals.lean).
  GIVEN WITH THE SEED: the statements are not yours to turn. If you find one false, say at which input.
  Laid BY PROGRAM, IN A SANDBOX (cutbox-rows.mjs): the forced cells as the released guide's own fill.sh prints them over the translation 51defd3bdd75fb87… (all of the seat's roots in one cut). By AI agents, Wed Nov 11 2026. No macro, syntax, notation, axiom, sorry.
-/
import Derived.Test.YtiaepapdofcnjaaChecked
import GoSem.Claim
import GoSem.ClaimJoined
import GoSem.ClaimMapViews
import Derived.JoinedTies
import Derived.KernelRfl
namespace Go.Proofs.Ytiaepapdofcnjaa
/- THE CELL 'sum', in the pinned program and in every row, IS THE sha256 OF THE DUMP (.gsa) THAT YtiaepapdofcnjaaProg.lean LOADS. Nothing in Lean hashes anything: it is a label: what it is worth is what the hold of that sum in a sandbox is worth. -/
noncomputable def Try.pinned : Pinned := { name := "ytiaepapdofcnjaa", sum := "51defd3bdd75fb87d0e4545430d162a509c24356bf59bef658c53201f856634a", checked := Try.checked }
namespace Rows
def none {H : Type} : Left H := { results := [], args := [] }

/-- 'laws.FnExactRepairBins': WHATEVER THE INPUT: true; the input reads as it did. -/
def fnExactRepairBinsSpec : ChangeSpec := { name := "fnExactRepairBins", fn := fun _ => fun
  | [d1, d2, d3] => { results := [.lit (.bool true)], args := [d1, d2, d3] }
  | _ => none }
def fnExactRepairBinsRow : OpenClaim := { program := "ytiaepapdofcnjaa", sum := "51defd3bdd75fb87d0e4545430d162a509c24356bf59bef658c53201f856634a", func := "loop.example/sortingoffice/laws.FnExactRepairBins", spec := "fnExactRepairBins", apart := false }
def FnExactRepairBinsSaid : Prop := fnExactRepairBinsRow.holds Try.pinned (OpenSpec.ofChange fnExactRepairBinsSpec)

/-- ITS FALSE NEIGHBOUR: 'it returns false'. Refute it at one input. -/
def fnExactRepairBinsWrong : ChangeSpec := { name := "fnExactRepairBins", fn := fun _ => fun
  | [d1, d2, d3] => { results := [.lit (.bool false)], args := [d1, d2, d3] }
  | _ => none }
def FnExactRepairBinsWrongFalsely : Prop := fnExactRepairBinsRow.holds Try.pinned (OpenSpec.ofChange fnExactRepairBinsWrong)

/-- 'laws.FnExactFaultyPass': WHATEVER THE INPUT: true; the input reads as it did. -/
def fnExactFaultyPassSpec : ChangeSpec := { name := "fnExactFaultyPass", fn := fun _ => fun
  | [d1, d2, d3, d4] => { results := [.lit (.bool true)], args := [d1, d2, d3, d4] }
  | _ => none }
def fnExactFaultyPassRow : OpenClaim := { program := "ytiaepapdofcnjaa", sum := "51defd3bdd75fb87d0e4545430d162a509c24356bf59bef658c53201f856634a", func := "loop.example/sortingoffice/laws.FnExactFaultyPass", spec := "fnExactFaultyPass", apart := false }
def FnExactFaultyPassSaid : Prop := fnExactFaultyPassRow.holds Try.pinned (OpenSpec.ofChange fnExactFaultyPassSpec)

/-- ITS FALSE NEIGHBOUR: 'it returns false'. Refute it at one input. -/
def fnExactFaultyPassWrong : ChangeSpec := { name := "fnExactFaultyPass", fn := fun _ => fun
  | [d1, d2, d3, d4] => { results := [.lit (.bool false)], args := [d1, d2, d3, d4] }
  | _ => none }
def FnExactFaultyPassWrongFalsely : Prop := fnExactFaultyPassRow.holds Try.pinned (OpenSpec.ofChange fnExactFaultyPassWrong)

/-- 'laws.FnExactRunRestarted': WHATEVER THE INPUT: true; the input reads as it did. -/
def fnExactRunRestartedSpec : ChangeSpec := { name := "fnExactRunRestarted", fn := fun _ => fun
  | [d1, d2, d3, d4] => { results := [.lit (.bool true)], args := [d1, d2, d3, d4] }
  | _ => none }
def fnExactRunRestartedRow : OpenClaim := { program := "ytiaepapdofcnjaa", sum := "51defd3bdd75fb87d0e4545430d162a509c24356bf59bef658c53201f856634a", func := "loop.example/sortingoffice/laws.FnExactRunRestarted", spec := "fnExactRunRestarted", apart := false }
def FnExactRunRestartedSaid : Prop := fnExactRunRestartedRow.holds Try.pinned (OpenSpec.ofChange fnExactRunRestartedSpec)

/-- ITS FALSE NEIGHBOUR: 'it returns false'. Refute it at one input. -/
def fnExactRunRestartedWrong : ChangeSpec := { name := "fnExactRunRestarted", fn := fun _ => fun
  | [d1, d2, d3, d4] => { results := [.lit (.bool false)], args := [d1, d2, d3, d4] }
  | _ => none }
def FnExactRunRestartedWrongFalsely : Prop := fnExactRunRestartedRow.holds Try.pinned (OpenSpec.ofChange fnExactRunRestartedWrong)

/-- 'laws.FnExactRunRepaired': WHATEVER THE INPUT: true; the input reads as it did. -/
def fnExactRunRepairedSpec : ChangeSpec := { name := "fnExactRunRepaired", fn := fun _ => fun
  | [d1, d2, d3, d4] => { results := [.lit (.bool true)], args := [d1, d2, d3, d4] }
  | _ => none }
def fnExactRunRepairedRow : OpenClaim := { program := "ytiaepapdofcnjaa", sum := "51defd3bdd75fb87d0e4545430d162a509c24356bf59bef658c53201f856634a", func := "loop.example/sortingoffice/laws.FnExactRunRepaired", spec := "fnExactRunRepaired", apart := false }
def FnExactRunRepairedSaid : Prop := fnExactRunRepairedRow.holds Try.pinned (OpenSpec.ofChange fnExactRunRepairedSpec)

/-- ITS FALSE NEIGHBOUR: 'it returns false'. Refute it at one input. -/
def fnExactRunRepairedWrong : ChangeSpec := { name := "fnExactRunRepaired", fn := fun _ => fun
  | [d1, d2, d3, d4] => { results := [.lit (.bool false)], args := [d1, d2, d3, d4] }
  | _ => none }
def FnExactRunRepairedWrongFalsely : Prop := fnExactRunRepairedRow.holds Try.pinned (OpenSpec.ofChange fnExactRunRepairedWrong)

/-- 'laws.FnExactRunDay': WHATEVER THE INPUT: true; the input reads as it did. -/
def fnExactRunDaySpec : ChangeSpec := { name := "fnExactRunDay", fn := fun _ => fun
  | [d1, d2] => { results := [.lit (.bool true)], args := [d1, d2] }
  | _ => none }
def fnExactRunDayRow : OpenClaim := { program := "ytiaepapdofcnjaa", sum := "51defd3bdd75fb87d0e4545430d162a509c24356bf59bef658c53201f856634a", func := "loop.example/sortingoffice/laws.FnExactRunDay", spec := "fnExactRunDay", apart := false }
def FnExactRunDaySaid : Prop := fnExactRunDayRow.holds Try.pinned (OpenSpec.ofChange fnExactRunDaySpec)

/-- ITS FALSE NEIGHBOUR: 'it returns false'. Refute it at one input. -/
def fnExactRunDayWrong : ChangeSpec := { name := "fnExactRunDay", fn := fun _ => fun
  | [d1, d2] => { results := [.lit (.bool false)], args := [d1, d2] }
  | _ => none }
def FnExactRunDayWrongFalsely : Prop := fnExactRunDayRow.holds Try.pinned (OpenSpec.ofChange fnExactRunDayWrong)

/-- 'laws.FnExactDayTrays': WHATEVER THE INPUT: true; the input reads as it did. -/
def fnExactDayTraysSpec : ChangeSpec := { name := "fnExactDayTrays", fn := fun _ => fun
  | [d1, d2] => { results := [.lit (.bool true)], args := [d1, d2] }
  | _ => none }
def fnExactDayTraysRow : OpenClaim := { program := "ytiaepapdofcnjaa", sum := "51defd3bdd75fb87d0e4545430d162a509c24356bf59bef658c53201f856634a", func := "loop.example/sortingoffice/laws.FnExactDayTrays", spec := "fnExactDayTrays", apart := false }
def FnExactDayTraysSaid : Prop := fnExactDayTraysRow.holds Try.pinned (OpenSpec.ofChange fnExactDayTraysSpec)

/-- ITS FALSE NEIGHBOUR: 'it returns false'. Refute it at one input. -/
def fnExactDayTraysWrong : ChangeSpec := { name := "fnExactDayTrays", fn := fun _ => fun
  | [d1, d2] => { results := [.lit (.bool false)], args := [d1, d2] }
  | _ => none }
def FnExactDayTraysWrongFalsely : Prop := fnExactDayTraysRow.holds Try.pinned (OpenSpec.ofChange fnExactDayTraysWrong)

/-- 'laws.FnExactTransitCount': WHATEVER THE INPUT: true; the input reads as it did. -/
def fnExactTransitCountSpec : ChangeSpec := { name := "fnExactTransitCount", fn := fun _ => fun
  | [d1, d2, d3] => { results := [.lit (.bool true)], args := [d1, d2, d3] }
  | _ => none }
def fnExactTransitCountRow : OpenClaim := { program := "ytiaepapdofcnjaa", sum := "51defd3bdd75fb87d0e4545430d162a509c24356bf59bef658c53201f856634a", func := "loop.example/sortingoffice/laws.FnExactTransitCount", spec := "fnExactTransitCount", apart := false }
def FnExactTransitCountSaid : Prop := fnExactTransitCountRow.holds Try.pinned (OpenSpec.ofChange fnExactTransitCountSpec)

/-- ITS FALSE NEIGHBOUR: 'it returns false'. Refute it at one input. -/
def fnExactTransitCountWrong : ChangeSpec := { name := "fnExactTransitCount", fn := fun _ => fun
  | [d1, d2, d3] => { results := [.lit (.bool false)], args := [d1, d2, d3] }
  | _ => none }
def FnExactTransitCountWrongFalsely : Prop := fnExactTransitCountRow.holds Try.pinned (OpenSpec.ofChange fnExactTransitCountWrong)

/-- 'laws.FnExactFaultyPrefixes': WHATEVER THE INPUT: true; the input reads as it did. -/
def fnExactFaultyPrefixesSpec : ChangeSpec := { name := "fnExactFaultyPrefixes", fn := fun _ => fun
  | [d1, d2] => { results := [.lit (.bool true)], args := [d1, d2] }
  | _ => none }
def fnExactFaultyPrefixesRow : OpenClaim := { program := "ytiaepapdofcnjaa", sum := "51defd3bdd75fb87d0e4545430d162a509c24356bf59bef658c53201f856634a", func := "loop.example/sortingoffice/laws.FnExactFaultyPrefixes", spec := "fnExactFaultyPrefixes", recurses := true, apart := false }
def FnExactFaultyPrefixesSaid : Prop := fnExactFaultyPrefixesRow.holds Try.pinned (OpenSpec.ofChange fnExactFaultyPrefixesSpec)

/-- ITS FALSE NEIGHBOUR: 'it returns false'. Refute it at one input. -/
def fnExactFaultyPrefixesWrong : ChangeSpec := { name := "fnExactFaultyPrefixes", fn := fun _ => fun
  | [d1, d2] => { results := [.lit (.bool false)], args := [d1, d2] }
  | _ => none }
def FnExactFaultyPrefixesWrongFalsely : Prop := fnExactFaultyPrefixesRow.holds Try.pinned (OpenSpec.ofChange fnExactFaultyPrefixesWrong)

/-- 'laws.FnExactMissingIds': WHATEVER THE INPUT: true; the input reads as it did. -/
def fnExactMissingIdsSpec : ChangeSpec := { name := "fnExactMissingIds", fn := fun _ => fun
  | [d1, d2] => { results := [.lit (.bool true)], args := [d1, d2] }
  | _ => none }
def fnExactMissingIdsRow : OpenClaim := { program := "ytiaepapdofcnjaa", sum := "51defd3bdd75fb87d0e4545430d162a509c24356bf59bef658c53201f856634a", func := "loop.example/sortingoffice/laws.FnExactMissingIds", spec := "fnExactMissingIds", recurses := true, apart := false }
def FnExactMissingIdsSaid : Prop := fnExactMissingIdsRow.holds Try.pinned (OpenSpec.ofChange fnExactMissingIdsSpec)

/-- ITS FALSE NEIGHBOUR: 'it returns false'. Refute it at one input. -/
def fnExactMissingIdsWrong : ChangeSpec := { name := "fnExactMissingIds", fn := fun _ => fun
  | [d1, d2] => { results := [.lit (.bool false)], args := [d1, d2] }
  | _ => none }
def FnExactMissingIdsWrongFalsely : Prop := fnExactMissingIdsRow.holds Try.pinned (OpenSpec.ofChange fnExactMissingIdsWrong)

/-- 'laws.FnMissortsValid': WHATEVER THE INPUT: true; the input reads as it did. -/
def fnMissortsValidSpec : ChangeSpec := { name := "fnMissortsValid", fn := fun _ => fun
  | [d] => { results := [.lit (.bool true)], args := [d] }
  | _ => none }
def fnMissortsValidRow : OpenClaim := { program := "ytiaepapdofcnjaa", sum := "51defd3bdd75fb87d0e4545430d162a509c24356bf59bef658c53201f856634a", func := "loop.example/sortingoffice/laws.FnMissortsValid", spec := "fnMissortsValid", recurses := true, apart := false }
def FnMissortsValidSaid : Prop := fnMissortsValidRow.holds Try.pinned (OpenSpec.ofChange fnMissortsValidSpec)

/-- ITS FALSE NEIGHBOUR: 'it returns false'. Refute it at one input. -/
def fnMissortsValidWrong : ChangeSpec := { name := "fnMissortsValid", fn := fun _ => fun
  | [d] => { results := [.lit (.bool false)], args := [d] }
  | _ => none }
def FnMissortsValidWrongFalsely : Prop := fnMissortsValidRow.holds Try.pinned (OpenSpec.ofChange fnMissortsValidWrong)

/- THE SECOND FORM. 'bulk': how many values and letters a reading holds, each counted each time it is reached (what is shared counts as often as it is met; a slice's spare places count too). A statement '..UptoSaid' is the law's where the arguments, and the package variables that the reading takes, are together of bulk at most 1048576: NARROWER than '..Said'. Prove '..Said' where nothing that the law and all that it calls make is longer than what came in: it says more and counts as full. Else prove '..UptoSaid'. A law counts once. -/
mutual
def uptoBulk {H : Type} : DataW H → Nat
  | .lit (.string bytes) => bytes.length + 1
  | .lit _ => 1
  | .nil => 1
  | .ptr d => uptoBulk d + 1
  | .slice elems spare => uptoBulkAll elems + uptoBulkAll spare + 1
  | .agg parts => uptoBulkAll parts + 1
  | .iface _ d => uptoBulk d + 1
  | .map entries => uptoBulkEntries entries + 1
  | .held _ => 1
def uptoBulkAll {H : Type} : List (DataW H) → Nat
  | [] => 0
  | d :: r => uptoBulk d + uptoBulkAll r
def uptoBulkEntries {H : Type} : List (Lit × DataW H) → Nat
  | [] => 0
  | x :: r => uptoBulkEntry x + uptoBulkEntries r
def uptoBulkEntry {H : Type} : Lit × DataW H → Nat
  | (.string bytes, d) => bytes.length + uptoBulk d + 1
  | (_, d) => uptoBulk d + 1
 end
def uptoSmall : (H : Type) → List (DataW H) → Bool := fun _ ds => decide (uptoBulkAll ds ≤ 1048576)
def OpenSpec.upto (s : _root_.Go.ChangeSpec) : _root_.Go.OpenSpec := { _root_.Go.OpenSpec.ofChange s with cond := some uptoSmall }

/-- 'laws.FnExactRepairBins', WHERE WHAT IT READS IS OF BULK AT MOST 1048576: true; the input reads as it did. -/
def fnExactRepairBinsUptoRow : OpenClaim := { program := "ytiaepapdofcnjaa", sum := "51defd3bdd75fb87d0e4545430d162a509c24356bf59bef658c53201f856634a", func := "loop.example/sortingoffice/laws.FnExactRepairBins", spec := "fnExactRepairBins", apart := false, narrowed := true }
def FnExactRepairBinsUptoSaid : Prop := fnExactRepairBinsUptoRow.holds Try.pinned (OpenSpec.upto fnExactRepairBinsSpec)

/-- 'laws.FnExactFaultyPass', WHERE WHAT IT READS IS OF BULK AT MOST 1048576: true; the input reads as it did. -/
def fnExactFaultyPassUptoRow : OpenClaim := { program := "ytiaepapdofcnjaa", sum := "51defd3bdd75fb87d0e4545430d162a509c24356bf59bef658c53201f856634a", func := "loop.example/sortingoffice/laws.FnExactFaultyPass", spec := "fnExactFaultyPass", apart := false, narrowed := true }
def FnExactFaultyPassUptoSaid : Prop := fnExactFaultyPassUptoRow.holds Try.pinned (OpenSpec.upto fnExactFaultyPassSpec)

/-- 'laws.FnExactRunRestarted', WHERE WHAT IT READS IS OF BULK AT MOST 1048576: true; the input reads as it did. -/
def fnExactRunRestartedUptoRow : OpenClaim := { program := "ytiaepapdofcnjaa", sum := "51defd3bdd75fb87d0e4545430d162a509c24356bf59bef658c53201f856634a", func := "loop.example/sortingoffice/laws.FnExactRunRestarted", spec := "fnExactRunRestarted", apart := false, narrowed := true }
def FnExactRunRestartedUptoSaid : Prop := fnExactRunRestartedUptoRow.holds Try.pinned (OpenSpec.upto fnExactRunRestartedSpec)

/-- 'laws.FnExactRunRepaired', WHERE WHAT IT READS IS OF BULK AT MOST 1048576: true; the input reads as it did. -/
def fnExactRunRepairedUptoRow : OpenClaim := { program := "ytiaepapdofcnjaa", sum := "51defd3bdd75fb87d0e4545430d162a509c24356bf59bef658c53201f856634a", func := "loop.example/sortingoffice/laws.FnExactRunRepaired", spec := "fnExactRunRepaired", apart := false, narrowed := true }
def FnExactRunRepairedUptoSaid : Prop := fnExactRunRepairedUptoRow.holds Try.pinned (OpenSpec.upto fnExactRunRepairedSpec)

/-- 'laws.FnExactRunDay', WHERE WHAT IT READS IS OF BULK AT MOST 1048576: true; the input reads as it did. -/
def fnExactRunDayUptoRow : OpenClaim := { program := "ytiaepapdofcnjaa", sum := "51defd3bdd75fb87d0e4545430d162a509c24356bf59bef658c53201f856634a", func := "loop.example/sortingoffice/laws.FnExactRunDay", spec := "fnExactRunDay", apart := false, narrowed := true }
def FnExactRunDayUptoSaid : Prop := fnExactRunDayUptoRow.holds Try.pinned (OpenSpec.upto fnExactRunDaySpec)

/-- 'laws.FnExactDayTrays', WHERE WHAT IT READS IS OF BULK AT MOST 1048576: true; the input reads as it did. -/
def fnExactDayTraysUptoRow : OpenClaim := { program := "ytiaepapdofcnjaa", sum := "51defd3bdd75fb87d0e4545430d162a509c24356bf59bef658c53201f856634a", func := "loop.example/sortingoffice/laws.FnExactDayTrays", spec := "fnExactDayTrays", apart := false, narrowed := true }
def FnExactDayTraysUptoSaid : Prop := fnExactDayTraysUptoRow.holds Try.pinned (OpenSpec.upto fnExactDayTraysSpec)

/-- 'laws.FnExactTransitCount', WHERE WHAT IT READS IS OF BULK AT MOST 1048576: true; the input reads as it did. -/
def fnExactTransitCountUptoRow : OpenClaim := { program := "ytiaepapdofcnjaa", sum := "51defd3bdd75fb87d0e4545430d162a509c24356bf59bef658c53201f856634a", func := "loop.example/sortingoffice/laws.FnExactTransitCount", spec := "fnExactTransitCount", apart := false, narrowed := true }
def FnExactTransitCountUptoSaid : Prop := fnExactTransitCountUptoRow.holds Try.pinned (OpenSpec.upto fnExactTransitCountSpec)

/-- 'laws.FnExactFaultyPrefixes', WHERE WHAT IT READS IS OF BULK AT MOST 1048576: true; the input reads as it did. -/
def fnExactFaultyPrefixesUptoRow : OpenClaim := { program := "ytiaepapdofcnjaa", sum := "51defd3bdd75fb87d0e4545430d162a509c24356bf59bef658c53201f856634a", func := "loop.example/sortingoffice/laws.FnExactFaultyPrefixes", spec := "fnExactFaultyPrefixes", recurses := true, apart := false, narrowed := true }
def FnExactFaultyPrefixesUptoSaid : Prop := fnExactFaultyPrefixesUptoRow.holds Try.pinned (OpenSpec.upto fnExactFaultyPrefixesSpec)

/-- 'laws.FnExactMissingIds', WHERE WHAT IT READS IS OF BULK AT MOST 1048576: true; the input reads as it did. -/
def fnExactMissingIdsUptoRow : OpenClaim := { program := "ytiaepapdofcnjaa", sum := "51defd3bdd75fb87d0e4545430d162a509c24356bf59bef658c53201f856634a", func := "loop.example/sortingoffice/laws.FnExactMissingIds", spec := "fnExactMissingIds", recurses := true, apart := false, narrowed := true }
def FnExactMissingIdsUptoSaid : Prop := fnExactMissingIdsUptoRow.holds Try.pinned (OpenSpec.upto fnExactMissingIdsSpec)

/-- 'laws.FnMissortsValid', WHERE WHAT IT READS IS OF BULK AT MOST 1048576: true; the input reads as it did. -/
def fnMissortsValidUptoRow : OpenClaim := { program := "ytiaepapdofcnjaa", sum := "51defd3bdd75fb87d0e4545430d162a509c24356bf59bef658c53201f856634a", func := "loop.example/sortingoffice/laws.FnMissortsValid", spec := "fnMissortsValid", recurses := true, apart := false, narrowed := true }
def FnMissortsValidUptoSaid : Prop := fnMissortsValidUptoRow.holds Try.pinned (OpenSpec.upto fnMissortsValidSpec)

end Rows
end Go.Proofs.Ytiaepapdofcnjaa
