/-
  No cell of these rows narrows 'for every input' (looked for: loops, veiled, ifaces, maps, wideKeys, modest, calm, conditions, laid).
  DERIVED. THE GIVEN ROWS OF THIS SEAT. 12 by the template 'for every input the law returns true; each argument reads behind the call as it read before'; 0 by the template 'total and deterministic' (their statements: YtekjjgnokjhleaaTotals.lean).
  GIVEN WITH THE SEED: the statements are not yours to turn. If you find one false, say at which input.
  Laid BY PROGRAM, IN A SANDBOX (cutbox-rows.mjs): the forced cells as the released guide's own fill.sh prints them over the translation e31063c5f35fa8e2… (all of the seat's roots in one cut). By AI agents, Wed Nov 11 2026. No macro, syntax, notation, axiom, sorry.
-/
import Derived.Test.YtekjjgnokjhleaaChecked
import GoSem.Claim
import GoSem.ClaimJoined
import GoSem.ClaimMapViews
import Derived.JoinedTies
import Derived.KernelRfl
namespace Go.Proofs.Ytekjjgnokjhleaa
/- THE CELL 'sum', in the pinned program and in every row, IS THE sha256 OF THE DUMP (.gsa) THAT YtekjjgnokjhleaaProg.lean LOADS. Nothing in Lean hashes anything: it is a label: what it is worth is what the hold of that sum in a sandbox is worth. -/
noncomputable def Try.pinned : Pinned := { name := "ytekjjgnokjhleaa", sum := "e31063c5f35fa8e2e52a2028f8c22667f3e5a3db7b3f3ae597fc9144c3539d71", checked := Try.checked }
namespace Rows
def none {H : Type} : Left H := { results := [], args := [] }

/-- 'laws.FnMissortsValid': WHATEVER THE INPUT: true; the input reads as it did. -/
def fnMissortsValidSpec : ChangeSpec := { name := "fnMissortsValid", fn := fun _ => fun
  | [d] => { results := [.lit (.bool true)], args := [d] }
  | _ => none }
def fnMissortsValidRow : OpenClaim := { program := "ytekjjgnokjhleaa", sum := "e31063c5f35fa8e2e52a2028f8c22667f3e5a3db7b3f3ae597fc9144c3539d71", func := "loop.example/sortingoffice/laws.FnMissortsValid", spec := "fnMissortsValid", recurses := true, apart := false }
def FnMissortsValidSaid : Prop := fnMissortsValidRow.holds Try.pinned (OpenSpec.ofChange fnMissortsValidSpec)

/-- ITS FALSE NEIGHBOUR: 'it returns false'. Refute it at one input. -/
def fnMissortsValidWrong : ChangeSpec := { name := "fnMissortsValid", fn := fun _ => fun
  | [d] => { results := [.lit (.bool false)], args := [d] }
  | _ => none }
def FnMissortsValidWrongFalsely : Prop := fnMissortsValidRow.holds Try.pinned (OpenSpec.ofChange fnMissortsValidWrong)

/-- 'laws.FnFaultyPass': WHATEVER THE INPUT: true; the input reads as it did. -/
def fnFaultyPassSpec : ChangeSpec := { name := "fnFaultyPass", fn := fun _ => fun
  | [d] => { results := [.lit (.bool true)], args := [d] }
  | _ => none }
def fnFaultyPassRow : OpenClaim := { program := "ytekjjgnokjhleaa", sum := "e31063c5f35fa8e2e52a2028f8c22667f3e5a3db7b3f3ae597fc9144c3539d71", func := "loop.example/sortingoffice/laws.FnFaultyPass", spec := "fnFaultyPass", recurses := true, apart := false }
def FnFaultyPassSaid : Prop := fnFaultyPassRow.holds Try.pinned (OpenSpec.ofChange fnFaultyPassSpec)

/-- ITS FALSE NEIGHBOUR: 'it returns false'. Refute it at one input. -/
def fnFaultyPassWrong : ChangeSpec := { name := "fnFaultyPass", fn := fun _ => fun
  | [d] => { results := [.lit (.bool false)], args := [d] }
  | _ => none }
def FnFaultyPassWrongFalsely : Prop := fnFaultyPassRow.holds Try.pinned (OpenSpec.ofChange fnFaultyPassWrong)

/-- 'laws.FnWrong': WHATEVER THE INPUT: true; the input reads as it did. -/
def fnWrongSpec : ChangeSpec := { name := "fnWrong", fn := fun _ => fun
  | [d] => { results := [.lit (.bool true)], args := [d] }
  | _ => none }
def fnWrongRow : OpenClaim := { program := "ytekjjgnokjhleaa", sum := "e31063c5f35fa8e2e52a2028f8c22667f3e5a3db7b3f3ae597fc9144c3539d71", func := "loop.example/sortingoffice/laws.FnWrong", spec := "fnWrong", recurses := true, apart := false }
def FnWrongSaid : Prop := fnWrongRow.holds Try.pinned (OpenSpec.ofChange fnWrongSpec)

/-- ITS FALSE NEIGHBOUR: 'it returns false'. Refute it at one input. -/
def fnWrongWrong : ChangeSpec := { name := "fnWrong", fn := fun _ => fun
  | [d] => { results := [.lit (.bool false)], args := [d] }
  | _ => none }
def FnWrongWrongFalsely : Prop := fnWrongRow.holds Try.pinned (OpenSpec.ofChange fnWrongWrong)

/-- 'laws.FnFinish': WHATEVER THE INPUT: true; the input reads as it did. -/
def fnFinishSpec : ChangeSpec := { name := "fnFinish", fn := fun _ => fun
  | [d] => { results := [.lit (.bool true)], args := [d] }
  | _ => none }
def fnFinishRow : OpenClaim := { program := "ytekjjgnokjhleaa", sum := "e31063c5f35fa8e2e52a2028f8c22667f3e5a3db7b3f3ae597fc9144c3539d71", func := "loop.example/sortingoffice/laws.FnFinish", spec := "fnFinish", recurses := true, apart := false }
def FnFinishSaid : Prop := fnFinishRow.holds Try.pinned (OpenSpec.ofChange fnFinishSpec)

/-- ITS FALSE NEIGHBOUR: 'it returns false'. Refute it at one input. -/
def fnFinishWrong : ChangeSpec := { name := "fnFinish", fn := fun _ => fun
  | [d] => { results := [.lit (.bool false)], args := [d] }
  | _ => none }
def FnFinishWrongFalsely : Prop := fnFinishRow.holds Try.pinned (OpenSpec.ofChange fnFinishWrong)

/-- 'laws.FnRepair': WHATEVER THE INPUT: true; the input reads as it did. -/
def fnRepairSpec : ChangeSpec := { name := "fnRepair", fn := fun _ => fun
  | [d] => { results := [.lit (.bool true)], args := [d] }
  | _ => none }
def fnRepairRow : OpenClaim := { program := "ytekjjgnokjhleaa", sum := "e31063c5f35fa8e2e52a2028f8c22667f3e5a3db7b3f3ae597fc9144c3539d71", func := "loop.example/sortingoffice/laws.FnRepair", spec := "fnRepair", recurses := true, apart := false }
def FnRepairSaid : Prop := fnRepairRow.holds Try.pinned (OpenSpec.ofChange fnRepairSpec)

/-- ITS FALSE NEIGHBOUR: 'it returns false'. Refute it at one input. -/
def fnRepairWrong : ChangeSpec := { name := "fnRepair", fn := fun _ => fun
  | [d] => { results := [.lit (.bool false)], args := [d] }
  | _ => none }
def FnRepairWrongFalsely : Prop := fnRepairRow.holds Try.pinned (OpenSpec.ofChange fnRepairWrong)

/-- 'laws.FnRestarted': WHATEVER THE INPUT: true; the input reads as it did. -/
def fnRestartedSpec : ChangeSpec := { name := "fnRestarted", fn := fun _ => fun
  | [d] => { results := [.lit (.bool true)], args := [d] }
  | _ => none }
def fnRestartedRow : OpenClaim := { program := "ytekjjgnokjhleaa", sum := "e31063c5f35fa8e2e52a2028f8c22667f3e5a3db7b3f3ae597fc9144c3539d71", func := "loop.example/sortingoffice/laws.FnRestarted", spec := "fnRestarted", recurses := true, apart := false }
def FnRestartedSaid : Prop := fnRestartedRow.holds Try.pinned (OpenSpec.ofChange fnRestartedSpec)

/-- ITS FALSE NEIGHBOUR: 'it returns false'. Refute it at one input. -/
def fnRestartedWrong : ChangeSpec := { name := "fnRestarted", fn := fun _ => fun
  | [d] => { results := [.lit (.bool false)], args := [d] }
  | _ => none }
def FnRestartedWrongFalsely : Prop := fnRestartedRow.holds Try.pinned (OpenSpec.ofChange fnRestartedWrong)

/-- 'laws.FnRepairedFirst': WHATEVER THE INPUT: true; the input reads as it did. -/
def fnRepairedFirstSpec : ChangeSpec := { name := "fnRepairedFirst", fn := fun _ => fun
  | [d] => { results := [.lit (.bool true)], args := [d] }
  | _ => none }
def fnRepairedFirstRow : OpenClaim := { program := "ytekjjgnokjhleaa", sum := "e31063c5f35fa8e2e52a2028f8c22667f3e5a3db7b3f3ae597fc9144c3539d71", func := "loop.example/sortingoffice/laws.FnRepairedFirst", spec := "fnRepairedFirst", recurses := true, apart := false }
def FnRepairedFirstSaid : Prop := fnRepairedFirstRow.holds Try.pinned (OpenSpec.ofChange fnRepairedFirstSpec)

/-- ITS FALSE NEIGHBOUR: 'it returns false'. Refute it at one input. -/
def fnRepairedFirstWrong : ChangeSpec := { name := "fnRepairedFirst", fn := fun _ => fun
  | [d] => { results := [.lit (.bool false)], args := [d] }
  | _ => none }
def FnRepairedFirstWrongFalsely : Prop := fnRepairedFirstRow.holds Try.pinned (OpenSpec.ofChange fnRepairedFirstWrong)

/-- 'laws.FnRepairedLast': WHATEVER THE INPUT: true; the input reads as it did. -/
def fnRepairedLastSpec : ChangeSpec := { name := "fnRepairedLast", fn := fun _ => fun
  | [d] => { results := [.lit (.bool true)], args := [d] }
  | _ => none }
def fnRepairedLastRow : OpenClaim := { program := "ytekjjgnokjhleaa", sum := "e31063c5f35fa8e2e52a2028f8c22667f3e5a3db7b3f3ae597fc9144c3539d71", func := "loop.example/sortingoffice/laws.FnRepairedLast", spec := "fnRepairedLast", recurses := true, apart := false }
def FnRepairedLastSaid : Prop := fnRepairedLastRow.holds Try.pinned (OpenSpec.ofChange fnRepairedLastSpec)

/-- ITS FALSE NEIGHBOUR: 'it returns false'. Refute it at one input. -/
def fnRepairedLastWrong : ChangeSpec := { name := "fnRepairedLast", fn := fun _ => fun
  | [d] => { results := [.lit (.bool false)], args := [d] }
  | _ => none }
def FnRepairedLastWrongFalsely : Prop := fnRepairedLastRow.holds Try.pinned (OpenSpec.ofChange fnRepairedLastWrong)

/-- 'laws.FnMissing': WHATEVER THE INPUT: true; the input reads as it did. -/
def fnMissingSpec : ChangeSpec := { name := "fnMissing", fn := fun _ => fun
  | [d] => { results := [.lit (.bool true)], args := [d] }
  | _ => none }
def fnMissingRow : OpenClaim := { program := "ytekjjgnokjhleaa", sum := "e31063c5f35fa8e2e52a2028f8c22667f3e5a3db7b3f3ae597fc9144c3539d71", func := "loop.example/sortingoffice/laws.FnMissing", spec := "fnMissing", recurses := true, apart := false }
def FnMissingSaid : Prop := fnMissingRow.holds Try.pinned (OpenSpec.ofChange fnMissingSpec)

/-- ITS FALSE NEIGHBOUR: 'it returns false'. Refute it at one input. -/
def fnMissingWrong : ChangeSpec := { name := "fnMissing", fn := fun _ => fun
  | [d] => { results := [.lit (.bool false)], args := [d] }
  | _ => none }
def FnMissingWrongFalsely : Prop := fnMissingRow.holds Try.pinned (OpenSpec.ofChange fnMissingWrong)

/-- 'laws.FnFinishFirst': WHATEVER THE INPUT: true; the input reads as it did. -/
def fnFinishFirstSpec : ChangeSpec := { name := "fnFinishFirst", fn := fun _ => fun
  | [d] => { results := [.lit (.bool true)], args := [d] }
  | _ => none }
def fnFinishFirstRow : OpenClaim := { program := "ytekjjgnokjhleaa", sum := "e31063c5f35fa8e2e52a2028f8c22667f3e5a3db7b3f3ae597fc9144c3539d71", func := "loop.example/sortingoffice/laws.FnFinishFirst", spec := "fnFinishFirst", recurses := true, apart := false }
def FnFinishFirstSaid : Prop := fnFinishFirstRow.holds Try.pinned (OpenSpec.ofChange fnFinishFirstSpec)

/-- ITS FALSE NEIGHBOUR: 'it returns false'. Refute it at one input. -/
def fnFinishFirstWrong : ChangeSpec := { name := "fnFinishFirst", fn := fun _ => fun
  | [d] => { results := [.lit (.bool false)], args := [d] }
  | _ => none }
def FnFinishFirstWrongFalsely : Prop := fnFinishFirstRow.holds Try.pinned (OpenSpec.ofChange fnFinishFirstWrong)

/-- 'laws.FnKept': WHATEVER THE INPUT: true; the input reads as it did. -/
def fnKeptSpec : ChangeSpec := { name := "fnKept", fn := fun _ => fun
  | [d] => { results := [.lit (.bool true)], args := [d] }
  | _ => none }
def fnKeptRow : OpenClaim := { program := "ytekjjgnokjhleaa", sum := "e31063c5f35fa8e2e52a2028f8c22667f3e5a3db7b3f3ae597fc9144c3539d71", func := "loop.example/sortingoffice/laws.FnKept", spec := "fnKept", recurses := true, apart := false }
def FnKeptSaid : Prop := fnKeptRow.holds Try.pinned (OpenSpec.ofChange fnKeptSpec)

/-- ITS FALSE NEIGHBOUR: 'it returns false'. Refute it at one input. -/
def fnKeptWrong : ChangeSpec := { name := "fnKept", fn := fun _ => fun
  | [d] => { results := [.lit (.bool false)], args := [d] }
  | _ => none }
def FnKeptWrongFalsely : Prop := fnKeptRow.holds Try.pinned (OpenSpec.ofChange fnKeptWrong)

/-- 'laws.FnKeptMany': WHATEVER THE INPUT: true; the input reads as it did. -/
def fnKeptManySpec : ChangeSpec := { name := "fnKeptMany", fn := fun _ => fun
  | [d] => { results := [.lit (.bool true)], args := [d] }
  | _ => none }
def fnKeptManyRow : OpenClaim := { program := "ytekjjgnokjhleaa", sum := "e31063c5f35fa8e2e52a2028f8c22667f3e5a3db7b3f3ae597fc9144c3539d71", func := "loop.example/sortingoffice/laws.FnKeptMany", spec := "fnKeptMany", recurses := true, apart := false }
def FnKeptManySaid : Prop := fnKeptManyRow.holds Try.pinned (OpenSpec.ofChange fnKeptManySpec)

/-- ITS FALSE NEIGHBOUR: 'it returns false'. Refute it at one input. -/
def fnKeptManyWrong : ChangeSpec := { name := "fnKeptMany", fn := fun _ => fun
  | [d] => { results := [.lit (.bool false)], args := [d] }
  | _ => none }
def FnKeptManyWrongFalsely : Prop := fnKeptManyRow.holds Try.pinned (OpenSpec.ofChange fnKeptManyWrong)

/- THE SECOND FORM. 'bulk': how many values and letters a reading holds, each counted each time it is reached (what is shared counts as often as it is met; a slice's spare places count too). A statement '..UptoSaid' is the law's where the arguments, and the package variables that the reading takes, are together of bulk at most 1048576: NARROWER than '..Said'. Prove '..Said' where nothing that the law and all that it calls make is longer than what came in: it says more and counts as full. Else prove '..UptoSaid'. A law counts once. -/
mutual
def uptoBulk {H : Type} : DataW H → Nat
  | .lit (.string bytes) => bytes.length + 1
  | .lit _ => 1
  | .nil => 1
  | .ptr d => uptoBulk d + 1
  | .slice elems spare => uptoBulkAll elems + uptoBulkAll spare + 1
  | .agg parts => uptoBulkAll parts + 1
  | .iface _ d => uptoBulk d + 1
  | .map entries => uptoBulkEntries entries + 1
  | .held _ => 1
def uptoBulkAll {H : Type} : List (DataW H) → Nat
  | [] => 0
  | d :: r => uptoBulk d + uptoBulkAll r
def uptoBulkEntries {H : Type} : List (Lit × DataW H) → Nat
  | [] => 0
  | x :: r => uptoBulkEntry x + uptoBulkEntries r
def uptoBulkEntry {H : Type} : Lit × DataW H → Nat
  | (.string bytes, d) => bytes.length + uptoBulk d + 1
  | (_, d) => uptoBulk d + 1
 end
def uptoSmall : (H : Type) → List (DataW H) → Bool := fun _ ds => decide (uptoBulkAll ds ≤ 1048576)
def OpenSpec.upto (s : _root_.Go.ChangeSpec) : _root_.Go.OpenSpec := { _root_.Go.OpenSpec.ofChange s with cond := some uptoSmall }

/-- 'laws.FnMissortsValid', WHERE WHAT IT READS IS OF BULK AT MOST 1048576: true; the input reads as it did. -/
def fnMissortsValidUptoRow : OpenClaim := { program := "ytekjjgnokjhleaa", sum := "e31063c5f35fa8e2e52a2028f8c22667f3e5a3db7b3f3ae597fc9144c3539d71", func := "loop.example/sortingoffice/laws.FnMissortsValid", spec := "fnMissortsValid", recurses := true, apart := false, narrowed := true }
def FnMissortsValidUptoSaid : Prop := fnMissortsValidUptoRow.holds Try.pinned (OpenSpec.upto fnMissortsValidSpec)

/-- 'laws.FnFaultyPass', WHERE WHAT IT READS IS OF BULK AT MOST 1048576: true; the input reads as it did. -/
def fnFaultyPassUptoRow : OpenClaim := { program := "ytekjjgnokjhleaa", sum := "e31063c5f35fa8e2e52a2028f8c22667f3e5a3db7b3f3ae597fc9144c3539d71", func := "loop.example/sortingoffice/laws.FnFaultyPass", spec := "fnFaultyPass", recurses := true, apart := false, narrowed := true }
def FnFaultyPassUptoSaid : Prop := fnFaultyPassUptoRow.holds Try.pinned (OpenSpec.upto fnFaultyPassSpec)

/-- 'laws.FnWrong', WHERE WHAT IT READS IS OF BULK AT MOST 1048576: true; the input reads as it did. -/
def fnWrongUptoRow : OpenClaim := { program := "ytekjjgnokjhleaa", sum := "e31063c5f35fa8e2e52a2028f8c22667f3e5a3db7b3f3ae597fc9144c3539d71", func := "loop.example/sortingoffice/laws.FnWrong", spec := "fnWrong", recurses := true, apart := false, narrowed := true }
def FnWrongUptoSaid : Prop := fnWrongUptoRow.holds Try.pinned (OpenSpec.upto fnWrongSpec)

/-- 'laws.FnFinish', WHERE WHAT IT READS IS OF BULK AT MOST 1048576: true; the input reads as it did. -/
def fnFinishUptoRow : OpenClaim := { program := "ytekjjgnokjhleaa", sum := "e31063c5f35fa8e2e52a2028f8c22667f3e5a3db7b3f3ae597fc9144c3539d71", func := "loop.example/sortingoffice/laws.FnFinish", spec := "fnFinish", recurses := true, apart := false, narrowed := true }
def FnFinishUptoSaid : Prop := fnFinishUptoRow.holds Try.pinned (OpenSpec.upto fnFinishSpec)

/-- 'laws.FnRepair', WHERE WHAT IT READS IS OF BULK AT MOST 1048576: true; the input reads as it did. -/
def fnRepairUptoRow : OpenClaim := { program := "ytekjjgnokjhleaa", sum := "e31063c5f35fa8e2e52a2028f8c22667f3e5a3db7b3f3ae597fc9144c3539d71", func := "loop.example/sortingoffice/laws.FnRepair", spec := "fnRepair", recurses := true, apart := false, narrowed := true }
def FnRepairUptoSaid : Prop := fnRepairUptoRow.holds Try.pinned (OpenSpec.upto fnRepairSpec)

/-- 'laws.FnRestarted', WHERE WHAT IT READS IS OF BULK AT MOST 1048576: true; the input reads as it did. -/
def fnRestartedUptoRow : OpenClaim := { program := "ytekjjgnokjhleaa", sum := "e31063c5f35fa8e2e52a2028f8c22667f3e5a3db7b3f3ae597fc9144c3539d71", func := "loop.example/sortingoffice/laws.FnRestarted", spec := "fnRestarted", recurses := true, apart := false, narrowed := true }
def FnRestartedUptoSaid : Prop := fnRestartedUptoRow.holds Try.pinned (OpenSpec.upto fnRestartedSpec)

/-- 'laws.FnRepairedFirst', WHERE WHAT IT READS IS OF BULK AT MOST 1048576: true; the input reads as it did. -/
def fnRepairedFirstUptoRow : OpenClaim := { program := "ytekjjgnokjhleaa", sum := "e31063c5f35fa8e2e52a2028f8c22667f3e5a3db7b3f3ae597fc9144c3539d71", func := "loop.example/sortingoffice/laws.FnRepairedFirst", spec := "fnRepairedFirst", recurses := true, apart := false, narrowed := true }
def FnRepairedFirstUptoSaid : Prop := fnRepairedFirstUptoRow.holds Try.pinned (OpenSpec.upto fnRepairedFirstSpec)

/-- 'laws.FnRepairedLast', WHERE WHAT IT READS IS OF BULK AT MOST 1048576: true; the input reads as it did. -/
def fnRepairedLastUptoRow : OpenClaim := { program := "ytekjjgnokjhleaa", sum := "e31063c5f35fa8e2e52a2028f8c22667f3e5a3db7b3f3ae597fc9144c3539d71", func := "loop.example/sortingoffice/laws.FnRepairedLast", spec := "fnRepairedLast", recurses := true, apart := false, narrowed := true }
def FnRepairedLastUptoSaid : Prop := fnRepairedLastUptoRow.holds Try.pinned (OpenSpec.upto fnRepairedLastSpec)

/-- 'laws.FnMissing', WHERE WHAT IT READS IS OF BULK AT MOST 1048576: true; the input reads as it did. -/
def fnMissingUptoRow : OpenClaim := { program := "ytekjjgnokjhleaa", sum := "e31063c5f35fa8e2e52a2028f8c22667f3e5a3db7b3f3ae597fc9144c3539d71", func := "loop.example/sortingoffice/laws.FnMissing", spec := "fnMissing", recurses := true, apart := false, narrowed := true }
def FnMissingUptoSaid : Prop := fnMissingUptoRow.holds Try.pinned (OpenSpec.upto fnMissingSpec)

/-- 'laws.FnFinishFirst', WHERE WHAT IT READS IS OF BULK AT MOST 1048576: true; the input reads as it did. -/
def fnFinishFirstUptoRow : OpenClaim := { program := "ytekjjgnokjhleaa", sum := "e31063c5f35fa8e2e52a2028f8c22667f3e5a3db7b3f3ae597fc9144c3539d71", func := "loop.example/sortingoffice/laws.FnFinishFirst", spec := "fnFinishFirst", recurses := true, apart := false, narrowed := true }
def FnFinishFirstUptoSaid : Prop := fnFinishFirstUptoRow.holds Try.pinned (OpenSpec.upto fnFinishFirstSpec)

/-- 'laws.FnKept', WHERE WHAT IT READS IS OF BULK AT MOST 1048576: true; the input reads as it did. -/
def fnKeptUptoRow : OpenClaim := { program := "ytekjjgnokjhleaa", sum := "e31063c5f35fa8e2e52a2028f8c22667f3e5a3db7b3f3ae597fc9144c3539d71", func := "loop.example/sortingoffice/laws.FnKept", spec := "fnKept", recurses := true, apart := false, narrowed := true }
def FnKeptUptoSaid : Prop := fnKeptUptoRow.holds Try.pinned (OpenSpec.upto fnKeptSpec)

/-- 'laws.FnKeptMany', WHERE WHAT IT READS IS OF BULK AT MOST 1048576: true; the input reads as it did. -/
def fnKeptManyUptoRow : OpenClaim := { program := "ytekjjgnokjhleaa", sum := "e31063c5f35fa8e2e52a2028f8c22667f3e5a3db7b3f3ae597fc9144c3539d71", func := "loop.example/sortingoffice/laws.FnKeptMany", spec := "fnKeptMany", recurses := true, apart := false, narrowed := true }
def FnKeptManyUptoSaid : Prop := fnKeptManyUptoRow.holds Try.pinned (OpenSpec.upto fnKeptManySpec)

end Rows
end Go.Proofs.Ytekjjgnokjhleaa
