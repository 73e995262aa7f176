/- Parts. -/
import Derived.Test.YtfadhdacjpmmeaaGreatDoorPFnExactRunScriptA
import Derived.Test.YtfadhdacjpmmeaaGreatDoorPFnExactRunScriptB
namespace Go.Proofs.YtfadhdacjpmmeaaGreatDoor.lawFnExactRunScript
open Go.ChangeShapes Go.WideShapes Go.ChangeAt Go.RowKit
open Go.ChangeMaps (open_string shut_string)
theorem AuT:Rows.fnExactRunScriptRow.holds Tryz.pinned (OpenSpec.ofChange Rows.fnExactRunScriptSpec):=
 OpenClaim.holds_of_wide 3 Tryz.f3 rfl rfl rfl rfl rfl rfl rfl ⟨rfl,rfl,rfl,rfl,rfl⟩ rfl rfl rfl rfl rfl (by as_aux_lemma=>kernel_rfl) Tryz.func3 Bc4
  (of_decide_eq_true (by as_aux_lemma=>kernel_rfl)) (by unfold Func.isWrapper;first|(rw[if_pos (by decide+kernel)];kernel_rfl)|(rw[if_neg (by decide+kernel)];exact⟨rfl,rfl⟩))
  (fun os pn H enc _=>BbR os pn H enc)
end Go.Proofs.YtfadhdacjpmmeaaGreatDoor.lawFnExactRunScript
