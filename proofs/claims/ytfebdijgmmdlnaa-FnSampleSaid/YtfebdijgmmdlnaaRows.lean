/-
  No cell of these rows narrows 'for every input' (looked for: loops, veiled, ifaces, maps, wideKeys, modest, calm, conditions, laid).
  DERIVED. THE GIVEN ROWS OF THIS SEAT. 5 by the template 'for every input the law returns true; each argument reads behind the call as it read before'; 0 by the template 'total and deterministic' (their statements: YtfebdijgmmdlnaaTotals.lean).
  GIVEN WITH THE SEED: the statements are not yours to turn. If you find one false, say at which input.
  Laid BY PROGRAM, IN A SANDBOX (cutbox-rows.mjs): the forced cells as the released guide's own fill.sh prints them over the translation 67318588bda51b7d… (all of the seat's roots in one cut). By AI agents, Wed Nov 11 2026. No macro, syntax, notation, axiom, sorry.
-/
import Derived.Test.YtfebdijgmmdlnaaChecked
import GoSem.Claim
import GoSem.ClaimJoined
import GoSem.ClaimMapViews
import Derived.JoinedTies
import Derived.KernelRfl
namespace Go.Proofs.Ytfebdijgmmdlnaa
/- THE CELL 'sum', in the pinned program and in every row, IS THE sha256 OF THE DUMP (.gsa) THAT YtfebdijgmmdlnaaProg.lean LOADS. Nothing in Lean hashes anything: it is a label: what it is worth is what the hold of that sum in a sandbox is worth. -/
noncomputable def Try.pinned : Pinned := { name := "ytfebdijgmmdlnaa", sum := "67318588bda51b7dc355c597e493aae85d2d00231c06ae3144d183696f754d8b", checked := Try.checked }
namespace Rows
def none {H : Type} : Left H := { results := [], args := [] }

/-- 'laws.FnExactOrderSeal': WHATEVER THE INPUT: true; the input reads as it did. -/
def fnExactOrderSealSpec : ChangeSpec := { name := "fnExactOrderSeal", fn := fun _ => fun
  | [d] => { results := [.lit (.bool true)], args := [d] }
  | _ => none }
def fnExactOrderSealRow : OpenClaim := { program := "ytfebdijgmmdlnaa", sum := "67318588bda51b7dc355c597e493aae85d2d00231c06ae3144d183696f754d8b", func := "loop.example/sortingoffice/laws.FnExactOrderSeal", spec := "fnExactOrderSeal", apart := false }
def FnExactOrderSealSaid : Prop := fnExactOrderSealRow.holds Try.pinned (OpenSpec.ofChange fnExactOrderSealSpec)

/-- ITS FALSE NEIGHBOUR: 'it returns false'. Refute it at one input. -/
def fnExactOrderSealWrong : ChangeSpec := { name := "fnExactOrderSeal", fn := fun _ => fun
  | [d] => { results := [.lit (.bool false)], args := [d] }
  | _ => none }
def FnExactOrderSealWrongFalsely : Prop := fnExactOrderSealRow.holds Try.pinned (OpenSpec.ofChange fnExactOrderSealWrong)

/-- 'laws.FnExactSealOf': WHATEVER THE INPUT: true; the input reads as it did. -/
def fnExactSealOfSpec : ChangeSpec := { name := "fnExactSealOf", fn := fun _ => fun
  | [d] => { results := [.lit (.bool true)], args := [d] }
  | _ => none }
def fnExactSealOfRow : OpenClaim := { program := "ytfebdijgmmdlnaa", sum := "67318588bda51b7dc355c597e493aae85d2d00231c06ae3144d183696f754d8b", func := "loop.example/sortingoffice/laws.FnExactSealOf", spec := "fnExactSealOf", apart := false }
def FnExactSealOfSaid : Prop := fnExactSealOfRow.holds Try.pinned (OpenSpec.ofChange fnExactSealOfSpec)

/-- ITS FALSE NEIGHBOUR: 'it returns false'. Refute it at one input. -/
def fnExactSealOfWrong : ChangeSpec := { name := "fnExactSealOf", fn := fun _ => fun
  | [d] => { results := [.lit (.bool false)], args := [d] }
  | _ => none }
def FnExactSealOfWrongFalsely : Prop := fnExactSealOfRow.holds Try.pinned (OpenSpec.ofChange fnExactSealOfWrong)

/-- 'laws.FnExactSampleLetters': WHATEVER THE INPUT: true; the input reads as it did. -/
def fnExactSampleLettersSpec : ChangeSpec := { name := "fnExactSampleLetters", fn := fun _ => fun
  | [d1, d2] => { results := [.lit (.bool true)], args := [d1, d2] }
  | _ => none }
def fnExactSampleLettersRow : OpenClaim := { program := "ytfebdijgmmdlnaa", sum := "67318588bda51b7dc355c597e493aae85d2d00231c06ae3144d183696f754d8b", func := "loop.example/sortingoffice/laws.FnExactSampleLetters", spec := "fnExactSampleLetters", apart := false }
def FnExactSampleLettersSaid : Prop := fnExactSampleLettersRow.holds Try.pinned (OpenSpec.ofChange fnExactSampleLettersSpec)

/-- ITS FALSE NEIGHBOUR: 'it returns false'. Refute it at one input. -/
def fnExactSampleLettersWrong : ChangeSpec := { name := "fnExactSampleLetters", fn := fun _ => fun
  | [d1, d2] => { results := [.lit (.bool false)], args := [d1, d2] }
  | _ => none }
def FnExactSampleLettersWrongFalsely : Prop := fnExactSampleLettersRow.holds Try.pinned (OpenSpec.ofChange fnExactSampleLettersWrong)

/-- 'laws.FnOrderSeal': WHATEVER THE INPUT: true; the input reads as it did. -/
def fnOrderSealSpec : ChangeSpec := { name := "fnOrderSeal", fn := fun _ => fun
  | [d] => { results := [.lit (.bool true)], args := [d] }
  | _ => none }
def fnOrderSealRow : OpenClaim := { program := "ytfebdijgmmdlnaa", sum := "67318588bda51b7dc355c597e493aae85d2d00231c06ae3144d183696f754d8b", func := "loop.example/sortingoffice/laws.FnOrderSeal", spec := "fnOrderSeal", recurses := true, apart := false }
def FnOrderSealSaid : Prop := fnOrderSealRow.holds Try.pinned (OpenSpec.ofChange fnOrderSealSpec)

/-- ITS FALSE NEIGHBOUR: 'it returns false'. Refute it at one input. -/
def fnOrderSealWrong : ChangeSpec := { name := "fnOrderSeal", fn := fun _ => fun
  | [d] => { results := [.lit (.bool false)], args := [d] }
  | _ => none }
def FnOrderSealWrongFalsely : Prop := fnOrderSealRow.holds Try.pinned (OpenSpec.ofChange fnOrderSealWrong)

/-- 'laws.FnSample': WHATEVER THE INPUT: true; the input reads as it did. -/
def fnSampleSpec : ChangeSpec := { name := "fnSample", fn := fun _ => fun
  | [d] => { results := [.lit (.bool true)], args := [d] }
  | _ => none }
def fnSampleRow : OpenClaim := { program := "ytfebdijgmmdlnaa", sum := "67318588bda51b7dc355c597e493aae85d2d00231c06ae3144d183696f754d8b", func := "loop.example/sortingoffice/laws.FnSample", spec := "fnSample", recurses := true, apart := false }
def FnSampleSaid : Prop := fnSampleRow.holds Try.pinned (OpenSpec.ofChange fnSampleSpec)

/-- ITS FALSE NEIGHBOUR: 'it returns false'. Refute it at one input. -/
def fnSampleWrong : ChangeSpec := { name := "fnSample", fn := fun _ => fun
  | [d] => { results := [.lit (.bool false)], args := [d] }
  | _ => none }
def FnSampleWrongFalsely : Prop := fnSampleRow.holds Try.pinned (OpenSpec.ofChange fnSampleWrong)

/- THE SECOND FORM. 'bulk': how many values and letters a reading holds, each counted each time it is reached (what is shared counts as often as it is met; a slice's spare places count too). A statement '..UptoSaid' is the law's where the arguments, and the package variables that the reading takes, are together of bulk at most 1048576: NARROWER than '..Said'. Prove '..Said' where nothing that the law and all that it calls make is longer than what came in: it says more and counts as full. Else prove '..UptoSaid'. A law counts once. -/
mutual
def uptoBulk {H : Type} : DataW H → Nat
  | .lit (.string bytes) => bytes.length + 1
  | .lit _ => 1
  | .nil => 1
  | .ptr d => uptoBulk d + 1
  | .slice elems spare => uptoBulkAll elems + uptoBulkAll spare + 1
  | .agg parts => uptoBulkAll parts + 1
  | .iface _ d => uptoBulk d + 1
  | .map entries => uptoBulkEntries entries + 1
  | .held _ => 1
def uptoBulkAll {H : Type} : List (DataW H) → Nat
  | [] => 0
  | d :: r => uptoBulk d + uptoBulkAll r
def uptoBulkEntries {H : Type} : List (Lit × DataW H) → Nat
  | [] => 0
  | x :: r => uptoBulkEntry x + uptoBulkEntries r
def uptoBulkEntry {H : Type} : Lit × DataW H → Nat
  | (.string bytes, d) => bytes.length + uptoBulk d + 1
  | (_, d) => uptoBulk d + 1
 end
def uptoSmall : (H : Type) → List (DataW H) → Bool := fun _ ds => decide (uptoBulkAll ds ≤ 1048576)
def OpenSpec.upto (s : _root_.Go.ChangeSpec) : _root_.Go.OpenSpec := { _root_.Go.OpenSpec.ofChange s with cond := some uptoSmall }

/-- 'laws.FnExactOrderSeal', WHERE WHAT IT READS IS OF BULK AT MOST 1048576: true; the input reads as it did. -/
def fnExactOrderSealUptoRow : OpenClaim := { program := "ytfebdijgmmdlnaa", sum := "67318588bda51b7dc355c597e493aae85d2d00231c06ae3144d183696f754d8b", func := "loop.example/sortingoffice/laws.FnExactOrderSeal", spec := "fnExactOrderSeal", apart := false, narrowed := true }
def FnExactOrderSealUptoSaid : Prop := fnExactOrderSealUptoRow.holds Try.pinned (OpenSpec.upto fnExactOrderSealSpec)

/-- 'laws.FnExactSealOf', WHERE WHAT IT READS IS OF BULK AT MOST 1048576: true; the input reads as it did. -/
def fnExactSealOfUptoRow : OpenClaim := { program := "ytfebdijgmmdlnaa", sum := "67318588bda51b7dc355c597e493aae85d2d00231c06ae3144d183696f754d8b", func := "loop.example/sortingoffice/laws.FnExactSealOf", spec := "fnExactSealOf", apart := false, narrowed := true }
def FnExactSealOfUptoSaid : Prop := fnExactSealOfUptoRow.holds Try.pinned (OpenSpec.upto fnExactSealOfSpec)

/-- 'laws.FnExactSampleLetters', WHERE WHAT IT READS IS OF BULK AT MOST 1048576: true; the input reads as it did. -/
def fnExactSampleLettersUptoRow : OpenClaim := { program := "ytfebdijgmmdlnaa", sum := "67318588bda51b7dc355c597e493aae85d2d00231c06ae3144d183696f754d8b", func := "loop.example/sortingoffice/laws.FnExactSampleLetters", spec := "fnExactSampleLetters", apart := false, narrowed := true }
def FnExactSampleLettersUptoSaid : Prop := fnExactSampleLettersUptoRow.holds Try.pinned (OpenSpec.upto fnExactSampleLettersSpec)

/-- 'laws.FnOrderSeal', WHERE WHAT IT READS IS OF BULK AT MOST 1048576: true; the input reads as it did. -/
def fnOrderSealUptoRow : OpenClaim := { program := "ytfebdijgmmdlnaa", sum := "67318588bda51b7dc355c597e493aae85d2d00231c06ae3144d183696f754d8b", func := "loop.example/sortingoffice/laws.FnOrderSeal", spec := "fnOrderSeal", recurses := true, apart := false, narrowed := true }
def FnOrderSealUptoSaid : Prop := fnOrderSealUptoRow.holds Try.pinned (OpenSpec.upto fnOrderSealSpec)

/-- 'laws.FnSample', WHERE WHAT IT READS IS OF BULK AT MOST 1048576: true; the input reads as it did. -/
def fnSampleUptoRow : OpenClaim := { program := "ytfebdijgmmdlnaa", sum := "67318588bda51b7dc355c597e493aae85d2d00231c06ae3144d183696f754d8b", func := "loop.example/sortingoffice/laws.FnSample", spec := "fnSample", recurses := true, apart := false, narrowed := true }
def FnSampleUptoSaid : Prop := fnSampleUptoRow.holds Try.pinned (OpenSpec.upto fnSampleSpec)

end Rows
end Go.Proofs.Ytfebdijgmmdlnaa
