/- Parts. -/
import Derived.Test.YtfadhdacjpmmeaaGreatDoorY
import Derived.OpenVars
import Derived.Test.YtfadhdacjpmmeaaGreatDoorTie
import Derived.Test.YtfadhdacjpmmeaaGreatDoorCards
import Derived.Lay
import Derived.Stop.LaidErr
import Derived.Lib.LaidTab
namespace Go.Proofs.YtfadhdacjpmmeaaGreatDoor.lawFnScriptPrefix
set_option maxHeartbeats 16000000
open Go.ChangeShapes Go.WideShapes Go.RowKit
theorem Bc4:joinedFacts Tryz.prog 4 Tryz.f4 Rows.fnScriptPrefixSpec Rows.fnScriptPrefixRow=true:=by
 simp only[joinedFacts,Bool.and_eq_true]
 repeat' apply And.intro
 all_goals as_aux_lemma=>kernel_rfl
end Go.Proofs.YtfadhdacjpmmeaaGreatDoor.lawFnScriptPrefix
