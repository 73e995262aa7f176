/-
  No cell of these rows narrows 'for every input' (looked for: loops, veiled, ifaces, maps, wideKeys, modest, calm, conditions, laid).
  DERIVED. THE GIVEN ROWS OF THIS SEAT. 12 by the template 'for every input the law returns true; each argument reads behind the call as it read before'; 0 by the template 'total and deterministic' (their statements: YtlmbegajocmnpaaTotals.lean).
  GIVEN WITH THE SEED: the statements are not yours to turn. If you find one false, say at which input.
  Laid BY PROGRAM, IN A SANDBOX (cutbox-rows.mjs): the forced cells as the released guide's own fill.sh prints them over the translation 436efe35e8927729… (all of the seat's roots in one cut). By AI agents, Wed Nov 11 2026. No macro, syntax, notation, axiom, sorry.
-/
import Derived.Test.YtlmbegajocmnpaaChecked
import GoSem.Claim
import GoSem.ClaimJoined
import GoSem.ClaimMapViews
import Derived.JoinedTies
import Derived.KernelRfl
namespace Go.Proofs.Ytlmbegajocmnpaa
/- THE CELL 'sum', in the pinned program and in every row, IS THE sha256 OF THE DUMP (.gsa) THAT YtlmbegajocmnpaaProg.lean LOADS. Nothing in Lean hashes anything: it is a label: what it is worth is what the hold of that sum in a sandbox is worth. -/
noncomputable def Try.pinned : Pinned := { name := "ytlmbegajocmnpaa", sum := "436efe35e892772909f6e3359a163fb8c4966339ef730bd7187a3b7d2a96eb02", checked := Try.checked }
namespace Rows
def none {H : Type} : Left H := { results := [], args := [] }

/-- 'laws.FnExactMissortsValid': WHATEVER THE INPUT: true; the input reads as it did. -/
def fnExactMissortsValidSpec : ChangeSpec := { name := "fnExactMissortsValid", fn := fun _ => fun
  | [d1, d2] => { results := [.lit (.bool true)], args := [d1, d2] }
  | _ => none }
def fnExactMissortsValidRow : OpenClaim := { program := "ytlmbegajocmnpaa", sum := "436efe35e892772909f6e3359a163fb8c4966339ef730bd7187a3b7d2a96eb02", func := "loop.example/sortingoffice/laws.FnExactMissortsValid", spec := "fnExactMissortsValid", apart := false }
def FnExactMissortsValidSaid : Prop := fnExactMissortsValidRow.holds Try.pinned (OpenSpec.ofChange fnExactMissortsValidSpec)

/-- ITS FALSE NEIGHBOUR: 'it returns false'. Refute it at one input. -/
def fnExactMissortsValidWrong : ChangeSpec := { name := "fnExactMissortsValid", fn := fun _ => fun
  | [d1, d2] => { results := [.lit (.bool false)], args := [d1, d2] }
  | _ => none }
def FnExactMissortsValidWrongFalsely : Prop := fnExactMissortsValidRow.holds Try.pinned (OpenSpec.ofChange fnExactMissortsValidWrong)

/-- 'laws.FnExactKeptLetters': WHATEVER THE INPUT: true; the input reads as it did. -/
def fnExactKeptLettersSpec : ChangeSpec := { name := "fnExactKeptLetters", fn := fun _ => fun
  | [d1, d2] => { results := [.lit (.bool true)], args := [d1, d2] }
  | _ => none }
def fnExactKeptLettersRow : OpenClaim := { program := "ytlmbegajocmnpaa", sum := "436efe35e892772909f6e3359a163fb8c4966339ef730bd7187a3b7d2a96eb02", func := "loop.example/sortingoffice/laws.FnExactKeptLetters", spec := "fnExactKeptLetters", apart := false }
def FnExactKeptLettersSaid : Prop := fnExactKeptLettersRow.holds Try.pinned (OpenSpec.ofChange fnExactKeptLettersSpec)

/-- ITS FALSE NEIGHBOUR: 'it returns false'. Refute it at one input. -/
def fnExactKeptLettersWrong : ChangeSpec := { name := "fnExactKeptLetters", fn := fun _ => fun
  | [d1, d2] => { results := [.lit (.bool false)], args := [d1, d2] }
  | _ => none }
def FnExactKeptLettersWrongFalsely : Prop := fnExactKeptLettersRow.holds Try.pinned (OpenSpec.ofChange fnExactKeptLettersWrong)

/-- 'laws.FnMissortsValid': WHATEVER THE INPUT: true; the input reads as it did. -/
def fnMissortsValidSpec : ChangeSpec := { name := "fnMissortsValid", fn := fun _ => fun
  | [d] => { results := [.lit (.bool true)], args := [d] }
  | _ => none }
def fnMissortsValidRow : OpenClaim := { program := "ytlmbegajocmnpaa", sum := "436efe35e892772909f6e3359a163fb8c4966339ef730bd7187a3b7d2a96eb02", func := "loop.example/sortingoffice/laws.FnMissortsValid", spec := "fnMissortsValid", recurses := true, apart := false }
def FnMissortsValidSaid : Prop := fnMissortsValidRow.holds Try.pinned (OpenSpec.ofChange fnMissortsValidSpec)

/-- ITS FALSE NEIGHBOUR: 'it returns false'. Refute it at one input. -/
def fnMissortsValidWrong : ChangeSpec := { name := "fnMissortsValid", fn := fun _ => fun
  | [d] => { results := [.lit (.bool false)], args := [d] }
  | _ => none }
def FnMissortsValidWrongFalsely : Prop := fnMissortsValidRow.holds Try.pinned (OpenSpec.ofChange fnMissortsValidWrong)

/-- 'laws.FnExactMovedLetters': WHATEVER THE INPUT: true; the input reads as it did. -/
def fnExactMovedLettersSpec : ChangeSpec := { name := "fnExactMovedLetters", fn := fun _ => fun
  | [d1, d2] => { results := [.lit (.bool true)], args := [d1, d2] }
  | _ => none }
def fnExactMovedLettersRow : OpenClaim := { program := "ytlmbegajocmnpaa", sum := "436efe35e892772909f6e3359a163fb8c4966339ef730bd7187a3b7d2a96eb02", func := "loop.example/sortingoffice/laws.FnExactMovedLetters", spec := "fnExactMovedLetters", apart := false }
def FnExactMovedLettersSaid : Prop := fnExactMovedLettersRow.holds Try.pinned (OpenSpec.ofChange fnExactMovedLettersSpec)

/-- ITS FALSE NEIGHBOUR: 'it returns false'. Refute it at one input. -/
def fnExactMovedLettersWrong : ChangeSpec := { name := "fnExactMovedLetters", fn := fun _ => fun
  | [d1, d2] => { results := [.lit (.bool false)], args := [d1, d2] }
  | _ => none }
def FnExactMovedLettersWrongFalsely : Prop := fnExactMovedLettersRow.holds Try.pinned (OpenSpec.ofChange fnExactMovedLettersWrong)

/-- 'laws.FnExactDayValid': WHATEVER THE INPUT: true; the input reads as it did. -/
def fnExactDayValidSpec : ChangeSpec := { name := "fnExactDayValid", fn := fun _ => fun
  | [d] => { results := [.lit (.bool true)], args := [d] }
  | _ => none }
def fnExactDayValidRow : OpenClaim := { program := "ytlmbegajocmnpaa", sum := "436efe35e892772909f6e3359a163fb8c4966339ef730bd7187a3b7d2a96eb02", func := "loop.example/sortingoffice/laws.FnExactDayValid", spec := "fnExactDayValid", apart := false }
def FnExactDayValidSaid : Prop := fnExactDayValidRow.holds Try.pinned (OpenSpec.ofChange fnExactDayValidSpec)

/-- ITS FALSE NEIGHBOUR: 'it returns false'. Refute it at one input. -/
def fnExactDayValidWrong : ChangeSpec := { name := "fnExactDayValid", fn := fun _ => fun
  | [d] => { results := [.lit (.bool false)], args := [d] }
  | _ => none }
def FnExactDayValidWrongFalsely : Prop := fnExactDayValidRow.holds Try.pinned (OpenSpec.ofChange fnExactDayValidWrong)

/-- 'laws.FnSeal': WHATEVER THE INPUT: true; the input reads as it did. -/
def fnSealSpec : ChangeSpec := { name := "fnSeal", fn := fun _ => fun
  | [d] => { results := [.lit (.bool true)], args := [d] }
  | _ => none }
def fnSealRow : OpenClaim := { program := "ytlmbegajocmnpaa", sum := "436efe35e892772909f6e3359a163fb8c4966339ef730bd7187a3b7d2a96eb02", func := "loop.example/sortingoffice/laws.FnSeal", spec := "fnSeal", inPlace := ["internal/bytealg.abigen_runtime_cmpstring"], unfollowed := true, recurses := true, apart := false }
def FnSealSaid : Prop := fnSealRow.holds Try.pinned (OpenSpec.ofChange fnSealSpec)

/-- ITS FALSE NEIGHBOUR: 'it returns false'. Refute it at one input. -/
def fnSealWrong : ChangeSpec := { name := "fnSeal", fn := fun _ => fun
  | [d] => { results := [.lit (.bool false)], args := [d] }
  | _ => none }
def FnSealWrongFalsely : Prop := fnSealRow.holds Try.pinned (OpenSpec.ofChange fnSealWrong)

/-- 'laws.FnExactFateOf': WHATEVER THE INPUT: true; the input reads as it did. -/
def fnExactFateOfSpec : ChangeSpec := { name := "fnExactFateOf", fn := fun _ => fun
  | [d1, d2] => { results := [.lit (.bool true)], args := [d1, d2] }
  | _ => none }
def fnExactFateOfRow : OpenClaim := { program := "ytlmbegajocmnpaa", sum := "436efe35e892772909f6e3359a163fb8c4966339ef730bd7187a3b7d2a96eb02", func := "loop.example/sortingoffice/laws.FnExactFateOf", spec := "fnExactFateOf", apart := false }
def FnExactFateOfSaid : Prop := fnExactFateOfRow.holds Try.pinned (OpenSpec.ofChange fnExactFateOfSpec)

/-- ITS FALSE NEIGHBOUR: 'it returns false'. Refute it at one input. -/
def fnExactFateOfWrong : ChangeSpec := { name := "fnExactFateOf", fn := fun _ => fun
  | [d1, d2] => { results := [.lit (.bool false)], args := [d1, d2] }
  | _ => none }
def FnExactFateOfWrongFalsely : Prop := fnExactFateOfRow.holds Try.pinned (OpenSpec.ofChange fnExactFateOfWrong)

/-- 'laws.FnFateOf': WHATEVER THE INPUT: true; the input reads as it did. -/
def fnFateOfSpec : ChangeSpec := { name := "fnFateOf", fn := fun _ => fun
  | [d] => { results := [.lit (.bool true)], args := [d] }
  | _ => none }
def fnFateOfRow : OpenClaim := { program := "ytlmbegajocmnpaa", sum := "436efe35e892772909f6e3359a163fb8c4966339ef730bd7187a3b7d2a96eb02", func := "loop.example/sortingoffice/laws.FnFateOf", spec := "fnFateOf", recurses := true, apart := false }
def FnFateOfSaid : Prop := fnFateOfRow.holds Try.pinned (OpenSpec.ofChange fnFateOfSpec)

/-- ITS FALSE NEIGHBOUR: 'it returns false'. Refute it at one input. -/
def fnFateOfWrong : ChangeSpec := { name := "fnFateOf", fn := fun _ => fun
  | [d] => { results := [.lit (.bool false)], args := [d] }
  | _ => none }
def FnFateOfWrongFalsely : Prop := fnFateOfRow.holds Try.pinned (OpenSpec.ofChange fnFateOfWrong)

/-- 'laws.FnKeptMany': WHATEVER THE INPUT: true; the input reads as it did. -/
def fnKeptManySpec : ChangeSpec := { name := "fnKeptMany", fn := fun _ => fun
  | [d] => { results := [.lit (.bool true)], args := [d] }
  | _ => none }
def fnKeptManyRow : OpenClaim := { program := "ytlmbegajocmnpaa", sum := "436efe35e892772909f6e3359a163fb8c4966339ef730bd7187a3b7d2a96eb02", func := "loop.example/sortingoffice/laws.FnKeptMany", spec := "fnKeptMany", recurses := true, apart := false }
def FnKeptManySaid : Prop := fnKeptManyRow.holds Try.pinned (OpenSpec.ofChange fnKeptManySpec)

/-- ITS FALSE NEIGHBOUR: 'it returns false'. Refute it at one input. -/
def fnKeptManyWrong : ChangeSpec := { name := "fnKeptMany", fn := fun _ => fun
  | [d] => { results := [.lit (.bool false)], args := [d] }
  | _ => none }
def FnKeptManyWrongFalsely : Prop := fnKeptManyRow.holds Try.pinned (OpenSpec.ofChange fnKeptManyWrong)

/-- 'laws.FnExactWrongLetters': WHATEVER THE INPUT: true; the input reads as it did. -/
def fnExactWrongLettersSpec : ChangeSpec := { name := "fnExactWrongLetters", fn := fun _ => fun
  | [d1, d2, d3] => { results := [.lit (.bool true)], args := [d1, d2, d3] }
  | _ => none }
def fnExactWrongLettersRow : OpenClaim := { program := "ytlmbegajocmnpaa", sum := "436efe35e892772909f6e3359a163fb8c4966339ef730bd7187a3b7d2a96eb02", func := "loop.example/sortingoffice/laws.FnExactWrongLetters", spec := "fnExactWrongLetters", apart := false }
def FnExactWrongLettersSaid : Prop := fnExactWrongLettersRow.holds Try.pinned (OpenSpec.ofChange fnExactWrongLettersSpec)

/-- ITS FALSE NEIGHBOUR: 'it returns false'. Refute it at one input. -/
def fnExactWrongLettersWrong : ChangeSpec := { name := "fnExactWrongLetters", fn := fun _ => fun
  | [d1, d2, d3] => { results := [.lit (.bool false)], args := [d1, d2, d3] }
  | _ => none }
def FnExactWrongLettersWrongFalsely : Prop := fnExactWrongLettersRow.holds Try.pinned (OpenSpec.ofChange fnExactWrongLettersWrong)

/-- 'laws.FnFinishFirst': WHATEVER THE INPUT: true; the input reads as it did. -/
def fnFinishFirstSpec : ChangeSpec := { name := "fnFinishFirst", fn := fun _ => fun
  | [d] => { results := [.lit (.bool true)], args := [d] }
  | _ => none }
def fnFinishFirstRow : OpenClaim := { program := "ytlmbegajocmnpaa", sum := "436efe35e892772909f6e3359a163fb8c4966339ef730bd7187a3b7d2a96eb02", func := "loop.example/sortingoffice/laws.FnFinishFirst", spec := "fnFinishFirst", recurses := true, apart := false }
def FnFinishFirstSaid : Prop := fnFinishFirstRow.holds Try.pinned (OpenSpec.ofChange fnFinishFirstSpec)

/-- ITS FALSE NEIGHBOUR: 'it returns false'. Refute it at one input. -/
def fnFinishFirstWrong : ChangeSpec := { name := "fnFinishFirst", fn := fun _ => fun
  | [d] => { results := [.lit (.bool false)], args := [d] }
  | _ => none }
def FnFinishFirstWrongFalsely : Prop := fnFinishFirstRow.holds Try.pinned (OpenSpec.ofChange fnFinishFirstWrong)

/-- 'laws.FnExactFinishPasses': WHATEVER THE INPUT: true; the input reads as it did. -/
def fnExactFinishPassesSpec : ChangeSpec := { name := "fnExactFinishPasses", fn := fun _ => fun
  | [d1, d2, d3] => { results := [.lit (.bool true)], args := [d1, d2, d3] }
  | _ => none }
def fnExactFinishPassesRow : OpenClaim := { program := "ytlmbegajocmnpaa", sum := "436efe35e892772909f6e3359a163fb8c4966339ef730bd7187a3b7d2a96eb02", func := "loop.example/sortingoffice/laws.FnExactFinishPasses", spec := "fnExactFinishPasses", apart := false }
def FnExactFinishPassesSaid : Prop := fnExactFinishPassesRow.holds Try.pinned (OpenSpec.ofChange fnExactFinishPassesSpec)

/-- ITS FALSE NEIGHBOUR: 'it returns false'. Refute it at one input. -/
def fnExactFinishPassesWrong : ChangeSpec := { name := "fnExactFinishPasses", fn := fun _ => fun
  | [d1, d2, d3] => { results := [.lit (.bool false)], args := [d1, d2, d3] }
  | _ => none }
def FnExactFinishPassesWrongFalsely : Prop := fnExactFinishPassesRow.holds Try.pinned (OpenSpec.ofChange fnExactFinishPassesWrong)

/- THE SECOND FORM. 'bulk': how many values and letters a reading holds, each counted each time it is reached (what is shared counts as often as it is met; a slice's spare places count too). A statement '..UptoSaid' is the law's where the arguments, and the package variables that the reading takes, are together of bulk at most 1048576: NARROWER than '..Said'. Prove '..Said' where nothing that the law and all that it calls make is longer than what came in: it says more and counts as full. Else prove '..UptoSaid'. A law counts once. -/
mutual
def uptoBulk {H : Type} : DataW H → Nat
  | .lit (.string bytes) => bytes.length + 1
  | .lit _ => 1
  | .nil => 1
  | .ptr d => uptoBulk d + 1
  | .slice elems spare => uptoBulkAll elems + uptoBulkAll spare + 1
  | .agg parts => uptoBulkAll parts + 1
  | .iface _ d => uptoBulk d + 1
  | .map entries => uptoBulkEntries entries + 1
  | .held _ => 1
def uptoBulkAll {H : Type} : List (DataW H) → Nat
  | [] => 0
  | d :: r => uptoBulk d + uptoBulkAll r
def uptoBulkEntries {H : Type} : List (Lit × DataW H) → Nat
  | [] => 0
  | x :: r => uptoBulkEntry x + uptoBulkEntries r
def uptoBulkEntry {H : Type} : Lit × DataW H → Nat
  | (.string bytes, d) => bytes.length + uptoBulk d + 1
  | (_, d) => uptoBulk d + 1
 end
def uptoSmall : (H : Type) → List (DataW H) → Bool := fun _ ds => decide (uptoBulkAll ds ≤ 1048576)
def OpenSpec.upto (s : _root_.Go.ChangeSpec) : _root_.Go.OpenSpec := { _root_.Go.OpenSpec.ofChange s with cond := some uptoSmall }

/-- 'laws.FnExactMissortsValid', WHERE WHAT IT READS IS OF BULK AT MOST 1048576: true; the input reads as it did. -/
def fnExactMissortsValidUptoRow : OpenClaim := { program := "ytlmbegajocmnpaa", sum := "436efe35e892772909f6e3359a163fb8c4966339ef730bd7187a3b7d2a96eb02", func := "loop.example/sortingoffice/laws.FnExactMissortsValid", spec := "fnExactMissortsValid", apart := false, narrowed := true }
def FnExactMissortsValidUptoSaid : Prop := fnExactMissortsValidUptoRow.holds Try.pinned (OpenSpec.upto fnExactMissortsValidSpec)

/-- 'laws.FnExactKeptLetters', WHERE WHAT IT READS IS OF BULK AT MOST 1048576: true; the input reads as it did. -/
def fnExactKeptLettersUptoRow : OpenClaim := { program := "ytlmbegajocmnpaa", sum := "436efe35e892772909f6e3359a163fb8c4966339ef730bd7187a3b7d2a96eb02", func := "loop.example/sortingoffice/laws.FnExactKeptLetters", spec := "fnExactKeptLetters", apart := false, narrowed := true }
def FnExactKeptLettersUptoSaid : Prop := fnExactKeptLettersUptoRow.holds Try.pinned (OpenSpec.upto fnExactKeptLettersSpec)

/-- 'laws.FnMissortsValid', WHERE WHAT IT READS IS OF BULK AT MOST 1048576: true; the input reads as it did. -/
def fnMissortsValidUptoRow : OpenClaim := { program := "ytlmbegajocmnpaa", sum := "436efe35e892772909f6e3359a163fb8c4966339ef730bd7187a3b7d2a96eb02", func := "loop.example/sortingoffice/laws.FnMissortsValid", spec := "fnMissortsValid", recurses := true, apart := false, narrowed := true }
def FnMissortsValidUptoSaid : Prop := fnMissortsValidUptoRow.holds Try.pinned (OpenSpec.upto fnMissortsValidSpec)

/-- 'laws.FnExactMovedLetters', WHERE WHAT IT READS IS OF BULK AT MOST 1048576: true; the input reads as it did. -/
def fnExactMovedLettersUptoRow : OpenClaim := { program := "ytlmbegajocmnpaa", sum := "436efe35e892772909f6e3359a163fb8c4966339ef730bd7187a3b7d2a96eb02", func := "loop.example/sortingoffice/laws.FnExactMovedLetters", spec := "fnExactMovedLetters", apart := false, narrowed := true }
def FnExactMovedLettersUptoSaid : Prop := fnExactMovedLettersUptoRow.holds Try.pinned (OpenSpec.upto fnExactMovedLettersSpec)

/-- 'laws.FnExactDayValid', WHERE WHAT IT READS IS OF BULK AT MOST 1048576: true; the input reads as it did. -/
def fnExactDayValidUptoRow : OpenClaim := { program := "ytlmbegajocmnpaa", sum := "436efe35e892772909f6e3359a163fb8c4966339ef730bd7187a3b7d2a96eb02", func := "loop.example/sortingoffice/laws.FnExactDayValid", spec := "fnExactDayValid", apart := false, narrowed := true }
def FnExactDayValidUptoSaid : Prop := fnExactDayValidUptoRow.holds Try.pinned (OpenSpec.upto fnExactDayValidSpec)

/-- 'laws.FnSeal', WHERE WHAT IT READS IS OF BULK AT MOST 1048576: true; the input reads as it did. -/
def fnSealUptoRow : OpenClaim := { program := "ytlmbegajocmnpaa", sum := "436efe35e892772909f6e3359a163fb8c4966339ef730bd7187a3b7d2a96eb02", func := "loop.example/sortingoffice/laws.FnSeal", spec := "fnSeal", inPlace := ["internal/bytealg.abigen_runtime_cmpstring"], unfollowed := true, recurses := true, apart := false, narrowed := true }
def FnSealUptoSaid : Prop := fnSealUptoRow.holds Try.pinned (OpenSpec.upto fnSealSpec)

/-- 'laws.FnExactFateOf', WHERE WHAT IT READS IS OF BULK AT MOST 1048576: true; the input reads as it did. -/
def fnExactFateOfUptoRow : OpenClaim := { program := "ytlmbegajocmnpaa", sum := "436efe35e892772909f6e3359a163fb8c4966339ef730bd7187a3b7d2a96eb02", func := "loop.example/sortingoffice/laws.FnExactFateOf", spec := "fnExactFateOf", apart := false, narrowed := true }
def FnExactFateOfUptoSaid : Prop := fnExactFateOfUptoRow.holds Try.pinned (OpenSpec.upto fnExactFateOfSpec)

/-- 'laws.FnFateOf', WHERE WHAT IT READS IS OF BULK AT MOST 1048576: true; the input reads as it did. -/
def fnFateOfUptoRow : OpenClaim := { program := "ytlmbegajocmnpaa", sum := "436efe35e892772909f6e3359a163fb8c4966339ef730bd7187a3b7d2a96eb02", func := "loop.example/sortingoffice/laws.FnFateOf", spec := "fnFateOf", recurses := true, apart := false, narrowed := true }
def FnFateOfUptoSaid : Prop := fnFateOfUptoRow.holds Try.pinned (OpenSpec.upto fnFateOfSpec)

/-- 'laws.FnKeptMany', WHERE WHAT IT READS IS OF BULK AT MOST 1048576: true; the input reads as it did. -/
def fnKeptManyUptoRow : OpenClaim := { program := "ytlmbegajocmnpaa", sum := "436efe35e892772909f6e3359a163fb8c4966339ef730bd7187a3b7d2a96eb02", func := "loop.example/sortingoffice/laws.FnKeptMany", spec := "fnKeptMany", recurses := true, apart := false, narrowed := true }
def FnKeptManyUptoSaid : Prop := fnKeptManyUptoRow.holds Try.pinned (OpenSpec.upto fnKeptManySpec)

/-- 'laws.FnExactWrongLetters', WHERE WHAT IT READS IS OF BULK AT MOST 1048576: true; the input reads as it did. -/
def fnExactWrongLettersUptoRow : OpenClaim := { program := "ytlmbegajocmnpaa", sum := "436efe35e892772909f6e3359a163fb8c4966339ef730bd7187a3b7d2a96eb02", func := "loop.example/sortingoffice/laws.FnExactWrongLetters", spec := "fnExactWrongLetters", apart := false, narrowed := true }
def FnExactWrongLettersUptoSaid : Prop := fnExactWrongLettersUptoRow.holds Try.pinned (OpenSpec.upto fnExactWrongLettersSpec)

/-- 'laws.FnFinishFirst', WHERE WHAT IT READS IS OF BULK AT MOST 1048576: true; the input reads as it did. -/
def fnFinishFirstUptoRow : OpenClaim := { program := "ytlmbegajocmnpaa", sum := "436efe35e892772909f6e3359a163fb8c4966339ef730bd7187a3b7d2a96eb02", func := "loop.example/sortingoffice/laws.FnFinishFirst", spec := "fnFinishFirst", recurses := true, apart := false, narrowed := true }
def FnFinishFirstUptoSaid : Prop := fnFinishFirstUptoRow.holds Try.pinned (OpenSpec.upto fnFinishFirstSpec)

/-- 'laws.FnExactFinishPasses', WHERE WHAT IT READS IS OF BULK AT MOST 1048576: true; the input reads as it did. -/
def fnExactFinishPassesUptoRow : OpenClaim := { program := "ytlmbegajocmnpaa", sum := "436efe35e892772909f6e3359a163fb8c4966339ef730bd7187a3b7d2a96eb02", func := "loop.example/sortingoffice/laws.FnExactFinishPasses", spec := "fnExactFinishPasses", apart := false, narrowed := true }
def FnExactFinishPassesUptoSaid : Prop := fnExactFinishPassesUptoRow.holds Try.pinned (OpenSpec.upto fnExactFinishPassesSpec)

end Rows
end Go.Proofs.Ytlmbegajocmnpaa
