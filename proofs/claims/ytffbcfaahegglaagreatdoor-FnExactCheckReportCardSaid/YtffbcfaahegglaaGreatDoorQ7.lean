/- GMis -/
import Derived.Test.YtffbcfaahegglaaGreatDoorQ5
import Derived.Test.YtffbcfaahegglaaGreatDoorQ4
import Derived.StillTailTactics
import Derived.Handy
namespace Go.Proofs.YtffbcfaahegglaaGreatDoor
open Go.RowKit


def misEq (x y : Mis) : Bool := (x.id == y.id) && (x.bin == y.bin)
theorem misEq_iff (x y : Mis) : misEq x y = true ↔ x = y := by
  cases x; cases y; simp [misEq, sEq_iff]

theorem Tryz.infoMis : (Tryz.prog.info? 147).map (fun i => (i.zero, i.size, i.bytes)) = some (some (.agg #[.int .i64 0, .int .i64 0]), 2, 16) := by kernel_rfl



end Go.Proofs.YtffbcfaahegglaaGreatDoor
