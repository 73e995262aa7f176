/- ULL -/
import Derived.Test.YtmangjjaijhcnaaQ11
import Derived.Test.YtmangjjaijhcnaaQ13
import Derived.Test.YtmangjjaijhcnaaQ10
namespace Go.Proofs.Ytmangjjaijhcnaa
open Go.RowKit

theorem finished_len (p : Pln) (xss : List (List Ltr)) (k : Int) : (finished p xss k).length ≤ 60 := by
  unfold finished
  split
  · rename_i h
    unfold binsOk at h
    simp only [Bool.and_eq_true] at h
    exact Nat.le_trans (passesN_len _ _ _ _) (okB_len' h.2)
  · simp
theorem wrongL_len (p : Pln) (xss : List (List Ltr)) (k : Int) : (wrongL p xss k).length ≤ 60 := by
  unfold wrongL
  split
  · rename_i h
    unfold binsOk at h
    simp only [Bool.and_eq_true] at h
    have h1 := wrongTo_len (fun x => binI p x.code k.toNat) xss xss.length (Nat.le_refl _)
    rw [List.take_length] at h1
    exact Nat.le_trans h1 (okB_len' h.2)
  · simp
def sumLL (xss : List (List Ltr)) : Nat := (xss.map szL).sum
def szLL (xss : List (List Ltr)) : Nat := xss.length + sumLL xss
theorem sumLL_succ (xss : List (List Ltr)) (k : Nat) (h : k < xss.length) : sumLL (xss.take (k + 1)) = sumLL (xss.take k) + szL xss[k] := by
  unfold sumLL; rw [List.take_succ_eq_append_getElem h, List.map_append, List.sum_append]; simp
theorem sumLL_le (xss : List (List Ltr)) (k : Nat) : sumLL (xss.take k) ≤ sumLL xss := by
  unfold sumLL
  conv => rhs; rw [← List.take_append_drop k xss, List.map_append, List.sum_append]
  omega
theorem flatten_le_szLL (xss : List (List Ltr)) : xss.flatten.length ≤ szLL xss := by
  unfold szLL sumLL
  induction xss with
  | nil => simp
  | cons x xss ih =>
    simp only [List.flatten_cons, List.length_append, List.map_cons, List.sum_cons, List.length_cons]
    have : x.length ≤ szL x := by unfold szL; omega
    omega
theorem row_le_szLL {xss : List (List Ltr)} {k : Nat} (h : k < xss.length) : szL xss[k] ≤ szLL xss := by
  have h1 := sumLL_succ xss k h
  have h2 := sumLL_le xss (k + 1)
  unfold szLL; omega


/-- The first k rows laid, the others empty. -/
def laidTo (xss : List (List Ltr)) (k : Nat) : List (List Ltr) := xss.take k ++ List.replicate (xss.length - k) []
theorem laidTo_len {xss : List (List Ltr)} {k : Nat} (h : k ≤ xss.length) : (laidTo xss k).length = xss.length := by
  simp [laidTo]; omega
theorem laidTo_step {xss : List (List Ltr)} {k : Nat} (h : k < xss.length) : (laidTo xss k).set k xss[k] = laidTo xss (k + 1) := by
  unfold laidTo
  have hl : (xss.take k).length = k := by rw [List.length_take]; omega
  rw [List.set_append_right _ _ (by omega), hl, Nat.sub_self, show xss.length - k = (xss.length - (k + 1)) + 1 by omega, List.replicate_succ, List.set_cons_zero, List.take_succ_eq_append_getElem h, List.append_assoc]
  rfl
theorem laidTo_all (xss : List (List Ltr)) : laidTo xss xss.length = xss := by simp [laidTo]
theorem laidTo_nil (xss : List (List Ltr)) : laidTo xss 0 = List.replicate xss.length [] := by simp [laidTo]





end Go.Proofs.Ytmangjjaijhcnaa
