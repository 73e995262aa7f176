/- GMis -/
import Derived.Test.YtffbcfaahegglaaDoorQ5
import Derived.Test.YtffbcfaahegglaaDoorQ4
import Derived.StillTailTactics
import Derived.Handy
namespace Go.Proofs.YtffbcfaahegglaaDoor
open Go.RowKit


def misEq (x y : Mis) : Bool := (x.id == y.id) && (x.bin == y.bin)
theorem misEq_iff (x y : Mis) : misEq x y = true ↔ x = y := by
  cases x; cases y; simp [misEq, sEq_iff]

end Go.Proofs.YtffbcfaahegglaaDoor
