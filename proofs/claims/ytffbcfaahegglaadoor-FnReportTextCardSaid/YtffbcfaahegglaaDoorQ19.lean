/- DA -/
import Derived.Test.YtffbcfaahegglaaDoorQ17
import Derived.Test.YtffbcfaahegglaaDoorQ18
import Derived.Test.YtffbcfaahegglaaDoorQ12
namespace Go.Proofs.YtffbcfaahegglaaDoor
open Go.RowKit

theorem isCode_len {c : ByteArray} (h : isCode c = true) : c.size ≤ maxLen := by
  unfold isCode at h
  simp only [Bool.and_eq_true, beq_iff_eq] at h
  unfold maxLen; omega
theorem okB_code {xs : List Ltr} (h : okB xs = true) {k : Nat} (hk : k < xs.length) : isCode xs[k].code = true := ((okB_iff.1 h).2 k hk).2.2.1
theorem follow_len {fs : List Fwd} {c : ByteArray} (h : fwdsOk fs = true) (hc : c.size ≤ maxLen) : (follow fs c).1.size ≤ maxLen := by
  refine (followN_size (fun x hx => ?_) _ _ _ hc).1
  obtain ⟨k, hk, rfl⟩ := List.getElem_of_mem hx
  exact isCode_len ((fwdsOk_iff.1 h).2 k hk).2.1
theorem fwOk_iff {fs : List Fwd} {xs : List Ltr} : fwOk fs xs = true ↔ fwdsOk fs = true ∧ okB xs = true := by unfold fwOk; rw [Bool.and_eq_true]
theorem hbOk_iff {hs : List ByteArray} {xs : List Ltr} : hbOk hs xs = true ↔ okB xs = true ∧ heldOk hs = true := by unfold hbOk; rw [Bool.and_eq_true]

end Go.Proofs.YtffbcfaahegglaaDoor
