/- How the arguments of the laws are opened: rows of letters. -/
import Derived.Test.YtiaepapdofcnjaaR3
import Derived.Test.YtiaepapdofcnjaaR1
import Derived.Test.YtiaepapdofcnjaaN0
namespace Go.Proofs.Ytiaepapdofcnjaa
open Go.ChangeShapes Go.WideShapes Go.ChangeAt Go.RowKit Go.Deep

set_option maxRecDepth 100000 in
theorem opensLtrs : Opens Try.prog 42 (List Ltr) := by
  intro H enc w spare held fuel cs x h
  have hl : ∃ v, cs = [v] := by
    rcases open_slice Try.underlying42 h with ⟨h0, _⟩ | ⟨a, len, cap, m, n, D, Pl, hcs, _⟩
    · exact ⟨_, h0⟩
    · exact ⟨_, hcs⟩
  obtain ⟨v, rfl⟩ := hl
  obtain ⟨xs, hx⟩ := opens_row (α := Ltr) Try.underlying42 (by kernel_rfl) (by decide) opensLtr h
  exact ⟨xs, v, rfl, hx⟩

end Go.Proofs.Ytiaepapdofcnjaa
