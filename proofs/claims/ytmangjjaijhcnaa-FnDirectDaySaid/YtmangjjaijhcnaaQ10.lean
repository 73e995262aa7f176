/- B9 U0 E3 -/
import Derived.Test.YtmangjjaijhcnaaQ9
import Derived.Test.YtmangjjaijhcnaaQ35
import Derived.Test.YtmangjjaijhcnaaQ5
import Derived.Test.YtmangjjaijhcnaaQ3
namespace Go.Proofs.Ytmangjjaijhcnaa
open Go.RowKit

/-- The numbers of the letters in wrong bins, of the first n bins. -/
def wrongRow (f : Ltr → Int) (i : Nat) (ys : List Ltr) : List Int := (ys.filter fun x => f x != (i : Int)).map Ltr.id
def wrongTo (f : Ltr → Int) (xss : List (List Ltr)) (n : Nat) : List Int := (List.range n).flatMap fun i => wrongRow f i (xss.getD i [])
theorem wrongTo_succ {f : Ltr → Int} {xss : List (List Ltr)} {n : Nat} (h : n < xss.length) : wrongTo f xss (n + 1) = wrongTo f xss n ++ wrongRow f n xss[n] := by
  unfold wrongTo
  rw [List.range_succ, List.flatMap_append]
  simp [h]
theorem wrongRow_len (f : Ltr → Int) (i : Nat) (ys : List Ltr) : (wrongRow f i ys).length ≤ ys.length := by
  unfold wrongRow; rw [List.length_map]; exact List.length_filter_le _ _
theorem wrongTo_len (f : Ltr → Int) (xss : List (List Ltr)) : ∀ n, n ≤ xss.length → (wrongTo f xss n).length ≤ (xss.take n).flatten.length
  | 0, _ => by simp [wrongTo]
  | n + 1, h => by
    rw [wrongTo_succ (by omega), List.length_append, List.take_succ_eq_append_getElem (by omega), List.flatten_append, List.length_append]
    have h1 := wrongTo_len f xss n (by omega)
    have h2 := wrongRow_len f n xss[n]
    simp only [List.flatten_cons, List.flatten_nil, List.append_nil]
    omega
theorem wrongRow_step {f : Ltr → Int} {i : Nat} {ys : List Ltr} {m : Nat} (h : m < ys.length) : wrongRow f i (ys.take (m + 1)) = if f ys[m] = (i : Int) then wrongRow f i (ys.take m) else wrongRow f i (ys.take m) ++ [ys[m].id] := by
  unfold wrongRow
  rw [List.take_succ_eq_append_getElem h, List.filter_append, List.map_append]
  by_cases hf : f ys[m] = (i : Int)
  · simp [hf]
  · simp [hf]
def wrongL (p : Pln) (xss : List (List Ltr)) (k : Int) : List Int := if binsOk p xss k then wrongTo (fun x => binI p x.code k.toNat) xss xss.length else []
theorem wrongL_no {p : Pln} {xss : List (List Ltr)} {k : Int} (h : binsOk p xss k = false) : wrongL p xss k = [] := by unfold wrongL; rw [h]; rfl
theorem wrongL_yes {p : Pln} {xss : List (List Ltr)} {k : Int} (h : binsOk p xss k = true) : wrongL p xss k = wrongTo (fun x => binI p x.code k.toNat) xss xss.length := by unfold wrongL; rw [if_pos h]


end Go.Proofs.Ytmangjjaijhcnaa

namespace Go.Proofs.Ytmangjjaijhcnaa
open Go.RowKit

theorem leftOf_ok {l : Int} {n : Nat} (h : 0 ≤ leftOf l n) (hl : l ≤ 1048576) : 0 ≤ leftOf l n ∧ leftOf l n ≤ 1048576 ∧ n ≤ 1048576 := by
  unfold leftOf at *
  split at h <;> rename_i h1
  · omega
  · rw [if_neg h1]; omega
theorem lessOr_eq (l n : Int) : lessOr l n = leftOf l n := rfl
theorem leftOf_leftOf (l : Int) (m n : Nat) (hl : 0 ≤ l) : (if leftOf l m < 0 then -1 else leftOf (leftOf l m) n) = leftOf l ((m + n : Nat) : Int) := by
  unfold leftOf
  by_cases h : l < (m : Int)
  · rw [if_pos h]; simp only [show (-1 : Int) < 0 by omega, if_true]; rw [if_pos (by omega)]
  · rw [if_neg h, if_neg (by omega)]
    by_cases h2 : l - m < (n : Int)
    · rw [if_pos h2, if_pos (by omega)]
    · rw [if_neg h2, if_neg (by omega)]; omega

/-! plans -/
def szP (p : Pln) : Nat := p.order.length + sumStr p.order
/-! letters -/
def szL (xs : List Ltr) : Nat := xs.length + sumSz xs
theorem u_szL (v : Value) (xs : List Ltr) (l : Int) (w : World) (hv : rd w w.heap.size v xs) (h0 : 0 ≤ l) (h1 : l ≤ 1048576) :
    Calls Try.prog 17 #[v, .int .i64 l] w fun e w' => e = .returned (.int .i64 (leftOf l (szL xs : Nat))) ∧ Below w.heap.size w w' := by
  rw [show leftOf l (szL xs : Nat) = lessOr l (xs.length + sumSz xs) by unfold szL; rw [Int.natCast_add, lessOr_eq]]
  exact laws_szLetterS v xs l w hv h0 h1
theorem u_toL (v : Value) (xs : List Ltr) (w : World) (hv : rd w w.heap.size v xs) (hs : szL xs ≤ 1048576) :
    Calls Try.prog 20 #[v] w fun e w' => ∃ v', e = .returned v' ∧ own 55 w.heap.size w' v' xs ∧ Below w.heap.size w w' :=
  laws_toLetterS v xs w hv (by unfold szL at hs; omega)
theorem u_eqL (v v' : Value) (xs : List Ltr) (w : World) (hv : rd w w.heap.size v xs) (hv' : rd w w.heap.size v' xs) :
    Calls Try.prog 23 #[v, v'] w fun e w' => e = .returned (.bool true) ∧ Below w.heap.size w w' := by
  have h := laws_eqLetterS v v' xs xs w hv hv'
  rw [show eqBy ltrEq xs xs = true from (eqBy_iff ltrEq_iff).2 rfl] at h
  exact h


end Go.Proofs.Ytmangjjaijhcnaa

namespace Go.Proofs.Ytmangjjaijhcnaa
open Go.RowKit

/-- The marks that 'markLetterS' leaves in n letters. -/
def marksL (k n : Nat) : List Ltr := (List.range n).map fun i => ⟨((k + 2 * i : Nat) : Int), markB (k + 2 * i + 1)⟩
theorem marksL_len (k n : Nat) : (marksL k n).length = n := by simp [marksL]
theorem marksL_get (k n i : Nat) (h : i < (marksL k n).length) : (marksL k n)[i] = ⟨((k + 2 * i : Nat) : Int), markB (k + 2 * i + 1)⟩ := by simp [marksL]
theorem markB_size (k : Nat) (hk : k ≤ 1099511627776) : (markB k).size ≤ maxLen := by
  unfold markB
  have := dec10_len k
  split
  · show 2 ≤ maxLen
    unfold maxLen; omega
  · show (109 :: dec10 k).toArray.size ≤ maxLen
    rw [List.size_toArray, List.length_cons]
    unfold maxLen; omega

/-- The first k letters marked. -/
def markedTo (k0 : Nat) (xs : List Ltr) (k : Nat) : List Ltr := marksL k0 k ++ xs.drop k
theorem markedTo_len {k0 : Nat} {xs : List Ltr} {k : Nat} (h : k ≤ xs.length) : (markedTo k0 xs k).length = xs.length := by
  simp [markedTo, marksL_len]; omega
theorem markedTo_step {k0 : Nat} {xs : List Ltr} {k : Nat} (h : k < xs.length) : (markedTo k0 xs k).set k ⟨((k0 + 2 * k : Nat) : Int), markB (k0 + 2 * k + 1)⟩ = markedTo k0 xs (k + 1) := by
  unfold markedTo
  rw [List.set_append_right _ _ (by rw [marksL_len]; exact Nat.le_refl _), marksL_len, Nat.sub_self, List.drop_eq_getElem_cons h, List.set_cons_zero]
  unfold marksL
  rw [List.range_succ, List.map_append]
  simp



end Go.Proofs.Ytmangjjaijhcnaa
