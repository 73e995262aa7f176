/- Parts. -/
import Derived.Test.YtfadhdacjpmmeaaGreatDoorZ
import Derived.OpenVars
import Derived.Test.YtfadhdacjpmmeaaGreatDoorTie
import Derived.Test.YtfadhdacjpmmeaaGreatDoorCards
import Derived.Lay
import Derived.Stop.LaidErr
import Derived.Lib.LaidTab
namespace Go.Proofs.YtfadhdacjpmmeaaGreatDoor.lawFnExactRunScript
set_option maxHeartbeats 4000000
open Go.ChangeShapes Go.WideShapes Go.RowKit
theorem Bc4:joinedFacts Tryz.prog 3 Tryz.f3 Rows.fnExactRunScriptSpec Rows.fnExactRunScriptRow=true:=by
 simp only[joinedFacts,Bool.and_eq_true]
 repeat' apply And.intro
 all_goals as_aux_lemma=>kernel_rfl
end Go.Proofs.YtfadhdacjpmmeaaGreatDoor.lawFnExactRunScript
