/- What the laws do with their arguments, in one form for all kinds: sizes. -/
import Derived.Test.YtiaepapdofcnjaaG2
import Derived.Test.YtiaepapdofcnjaaW3
namespace Go.Proofs.Ytiaepapdofcnjaa
open Go.RowKit

theorem leftOf_ok {l : Int} {n : Nat} (h : 0 ≤ leftOf l n) (hl : l ≤ 1048576) : 0 ≤ leftOf l n ∧ leftOf l n ≤ 1048576 ∧ n ≤ 1048576 := by
  unfold leftOf at *
  split at h <;> rename_i h1
  · omega
  · rw [if_neg h1]; omega
theorem lessOr_eq (l n : Int) : lessOr l n = leftOf l n := rfl
theorem leftOf_leftOf (l : Int) (m n : Nat) (hl : 0 ≤ l) : (if leftOf l m < 0 then -1 else leftOf (leftOf l m) n) = leftOf l ((m + n : Nat) : Int) := by
  unfold leftOf
  by_cases h : l < (m : Int)
  · rw [if_pos h]; simp only [show (-1 : Int) < 0 by omega, if_true]; rw [if_pos (by omega)]
  · rw [if_neg h, if_neg (by omega)]
    by_cases h2 : l - m < (n : Int)
    · rw [if_pos h2, if_pos (by omega)]
    · rw [if_neg h2, if_neg (by omega)]; omega

/-! plans -/
def szP (p : Pln) : Nat := p.order.length + sumStr p.order
theorem u_szP (v : Value) (p : Pln) (l : Int) (w : World) (hv : rdP w w.heap.size v p) (h0 : 0 ≤ l) (h1 : l ≤ 1048576) :
    Calls Try.prog 13 #[v, .int .i64 l] w fun e w' => e = .returned (.int .i64 (leftOf l (szP p : Nat))) ∧ Below w.heap.size w w' := by
  rw [show leftOf l (szP p : Nat) = leftOf l (planSz p) by unfold szP planSz; rw [Int.natCast_add]]
  exact laws_szPlan v p l w hv h0 h1
theorem u_toP (v : Value) (p : Pln) (w : World) (hv : rdP w w.heap.size v p) (hs : szP p ≤ 1048576) :
    Calls Try.prog 16 #[v] w fun e w' => ∃ v', e = .returned v' ∧ ownP 9 w.heap.size w' v' p ∧ Below w.heap.size w w' :=
  laws_toPlan v p w hv (by unfold szP at hs; omega)
theorem u_eqP (v v' : Value) (p : Pln) (w : World) (hv : rdP w w.heap.size v p) (hv' : rdP w w.heap.size v' p) :
    Calls Try.prog 21 #[v, v'] w fun e w' => e = .returned (.bool true) ∧ Below w.heap.size w w' := laws_eqPlan v v' p w hv hv'
/-! letters -/
def szL (xs : List Ltr) : Nat := xs.length + sumSz xs
theorem u_szL (v : Value) (xs : List Ltr) (l : Int) (w : World) (hv : rd w w.heap.size v xs) (h0 : 0 ≤ l) (h1 : l ≤ 1048576) :
    Calls Try.prog 27 #[v, .int .i64 l] w fun e w' => e = .returned (.int .i64 (leftOf l (szL xs : Nat))) ∧ Below w.heap.size w w' := by
  rw [show leftOf l (szL xs : Nat) = lessOr l (xs.length + sumSz xs) by unfold szL; rw [Int.natCast_add, lessOr_eq]]
  exact laws_szLetterS v xs l w hv h0 h1
theorem u_toL (v : Value) (xs : List Ltr) (w : World) (hv : rd w w.heap.size v xs) (hs : szL xs ≤ 1048576) :
    Calls Try.prog 30 #[v] w fun e w' => ∃ v', e = .returned v' ∧ own 103 w.heap.size w' v' xs ∧ Below w.heap.size w w' :=
  laws_toLetterS v xs w hv (by unfold szL at hs; omega)
theorem u_eqL (v v' : Value) (xs : List Ltr) (w : World) (hv : rd w w.heap.size v xs) (hv' : rd w w.heap.size v' xs) :
    Calls Try.prog 20 #[v, v'] w fun e w' => e = .returned (.bool true) ∧ Below w.heap.size w w' := by
  have h := laws_eqLetterS v v' xs xs w hv hv'
  rw [show eqBy ltrEq xs xs = true from (eqBy_iff ltrEq_iff).2 rfl] at h
  exact h

/-! missorts -/
def szM (xs : List Mis) : Nat := xs.length
theorem u_szM (v : Value) (xs : List Mis) (l : Int) (w : World) (hv : rd w w.heap.size v xs) (h0 : 0 ≤ l) (h1 : l ≤ 1048576) :
    Calls Try.prog 28 #[v, .int .i64 l] w fun e w' => e = .returned (.int .i64 (leftOf l (szM xs : Nat))) ∧ Below w.heap.size w w' :=
  (laws_szMissortS v xs l w hv h0 h1).mono fun e w' ⟨h, hw⟩ => ⟨h, by subst hw; exact Below.refl _ _⟩
theorem u_toM (v : Value) (xs : List Mis) (w : World) (hv : rd w w.heap.size v xs) (hs : szM xs ≤ 1048576) :
    Calls Try.prog 31 #[v] w fun e w' => ∃ v', e = .returned v' ∧ own 97 w.heap.size w' v' xs ∧ Below w.heap.size w w' :=
  laws_toMissortS v xs w hv hs
theorem u_eqM (v v' : Value) (xs : List Mis) (w : World) (hv : rd w w.heap.size v xs) (hv' : rd w w.heap.size v' xs) :
    Calls Try.prog 33 #[v, v'] w fun e w' => e = .returned (.bool true) ∧ Below w.heap.size w w' := by
  have h := laws_eqMissortS v v' xs xs w hv hv'
  rw [show eqBy misEq xs xs = true from (eqBy_iff misEq_iff).2 rfl] at h
  exact h

end Go.Proofs.Ytiaepapdofcnjaa
