/- UD -/
import Derived.Test.YtffbcfaahegglaaDoorQ16
import Derived.Test.YtffbcfaahegglaaDoorQ24
import Derived.Test.YtffbcfaahegglaaDoorQ9
import Derived.Test.YtffbcfaahegglaaDoorQ6
namespace Go.Proofs.YtffbcfaahegglaaDoor
open Go.RowKit

def sumFw (fs : List Fwd) : Nat := (fs.map fun x => x.src.size + x.dst.size).sum
theorem sumFw_succ (xs : List Fwd) (k : Nat) (h : k < xs.length) : sumFw (xs.take (k + 1)) = sumFw (xs.take k) + (xs[k].src.size + xs[k].dst.size) := by
  unfold sumFw; rw [List.take_succ_eq_append_getElem h, List.map_append, List.sum_append]; simp
theorem sumFw_le (xs : List Fwd) (k : Nat) : sumFw (xs.take k) ≤ sumFw xs := by
  unfold sumFw
  conv => rhs; rw [← List.take_append_drop k xs, List.map_append, List.sum_append]
  omega


def szD (d : Dy) : Nat := szP d.plan + (d.fwds.length + sumFw d.fwds) + (d.held.length + sumStr d.held)




end Go.Proofs.YtffbcfaahegglaaDoor
