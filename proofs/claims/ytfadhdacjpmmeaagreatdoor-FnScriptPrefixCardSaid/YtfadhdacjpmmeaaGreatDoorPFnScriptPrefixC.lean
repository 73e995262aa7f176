/- Parts. -/
import Derived.Test.YtfadhdacjpmmeaaGreatDoorPFnScriptPrefixA
import Derived.Test.YtfadhdacjpmmeaaGreatDoorPFnScriptPrefixB
namespace Go.Proofs.YtfadhdacjpmmeaaGreatDoor.lawFnScriptPrefix
open Go.ChangeShapes Go.WideShapes Go.ChangeAt Go.RowKit
open Go.ChangeMaps (open_string shut_string)
theorem AuT:Rows.fnScriptPrefixRow.holds Tryz.pinned (OpenSpec.ofChange Rows.fnScriptPrefixSpec):=
 OpenClaim.holds_of_wide 4 Tryz.f4 rfl rfl rfl rfl rfl rfl rfl ⟨rfl,rfl,rfl,rfl,rfl⟩ rfl rfl rfl rfl rfl (by as_aux_lemma=>kernel_rfl) Tryz.func4 Bc4
  (of_decide_eq_true (by as_aux_lemma=>kernel_rfl)) (by unfold Func.isWrapper;first|(rw[if_pos (by decide+kernel)];kernel_rfl)|(rw[if_neg (by decide+kernel)];exact⟨rfl,rfl⟩))
  (fun os qB H enc _=>BbR os qB H enc)
end Go.Proofs.YtfadhdacjpmmeaaGreatDoor.lawFnScriptPrefix
