/- G2 U0 E3 -/
import Derived.Test.YtnlljekijlkigaaQ8
import Derived.Test.YtnlljekijlkigaaQ5
import Derived.Deep.QuietTactic
import Derived.BigQuiet
import Derived.Test.YtnlljekijlkigaaQ4
import Derived.Test.YtnlljekijlkigaaQ2
namespace Go.Proofs.Ytnlljekijlkigaa
open Go.RowKit

/-- What is left of l when n is taken; -1 if that is too much. -/
def leftOf (l n : Int) : Int := if l < n then -1 else l - n
def sumStr (xs : List ByteArray) : Nat := (xs.map fun x => x.size).sum
theorem sumStr_succ (xs : List ByteArray) (k : Nat) (h : k < xs.length) : sumStr (xs.take (k + 1)) = sumStr (xs.take k) + xs[k].size := by
  unfold sumStr; rw [List.take_succ_eq_append_getElem h, List.map_append, List.sum_append]; simp
theorem sumStr_le (xs : List ByteArray) (k : Nat) : sumStr (xs.take k) ≤ sumStr xs := by
  unfold sumStr
  conv => rhs; rw [← List.take_append_drop k xs, List.map_append, List.sum_append]
  omega



def planSz (p : Pln) : Int := p.order.length + sumStr p.order
theorem leftOf_range {l n : Int} (h1 : l ≤ 1048576) (hn : 0 ≤ n) : -1 ≤ leftOf l n ∧ leftOf l n ≤ 1048576 ∨ l < 0 := by
  unfold leftOf
  split <;> omega

theorem Try.infoStr : (Try.prog.info? 9).map (fun i => (i.zero, i.size, i.bytes)) = some (some (.string ⟨#[]⟩), 1, 16) := by kernel_rfl


set_option maxHeartbeats 400000 in
theorem laws_eqStringS (v v' : Value) (xs ys : List ByteArray) (w : World) (hv : rd w w.heap.size v xs) (hv' : rd w w.heap.size v' ys) :
    Calls Try.prog 62 #[v, v'] w fun e w' => e = .returned (.bool (eqBy sEq xs ys)) ∧ Below w.heap.size w w' := by
  obtain ⟨A, n, c, rfl, hn, hc, hm, hr⟩ := hv
  obtain ⟨A', n', c', rfl, hn', hc', hm', hr'⟩ := hv'
  subst hn hn'
  unfold maxLen at hm hm'
  have HR := Lib.hid hr; clear hr
  have HR' := Lib.hid hr'; clear hr'
  go_enter Try.func62, Try.ntmps62
  by_cases hl : xs.length = ys.length
  · have hl1 : ((xs.length : Int) != (ys.length : Int)) = false := by simp [hl]
    have HL := Lib.hid hl; clear hl
    go_wp2
    go_loopw [5] (fun i wr => ∃ k : Nat, k ≤ xs.length ∧ i = .int .i64 k ∧ Below w.heap.size w wr ∧ Hid (∀ j (h1 : j < xs.length) (h2 : j < ys.length), j < k → sEq xs[j] ys[j] = true)) (fun i _ => xs.length - (intOf i).toNat)
    case atStart => exact ⟨0, Nat.zero_le _, rfl, Below.refl _ _, fun j _ _ hj => absurd hj (Nat.not_lt_zero j)⟩
    case round =>
      obtain ⟨k, hk, rfl, hbl, HG⟩ := hrel
      obtain ⟨w1, rfl⟩ : ∃ w1 : World, w1 = wr := ⟨_, rfl⟩
      by_cases hlt : k < xs.length
      · have hlt' : k < ys.length := by rw [← HL.out]; exact hlt
        obtain ⟨b, o, rfl, hb, _, c1⟩ := HR.out.str k hlt
        obtain ⟨b', o', rfl, hb', _, d1⟩ := HR'.out.str k hlt'
        have hbad := Lib.hid (fun h => eqBy_bad (p := sEq) k hlt hlt' h)
        have HX : Hid (∀ h : sEq xs[k] ys[k] = true, ∀ j (h1 : j < xs.length) (h2 : j < ys.length), j < k + 1 → sEq xs[j] ys[j] = true) := fun h j h1 h2 hj => by
          by_cases hjk : j < k
          · exact HG.out j h1 h2 hjk
          · obtain rfl : j = k := by omega
            exact h
        generalize xs[k] = x at *
        generalize ys[k] = y at *
        have c1' : w1.cell? ⟨b, o + k, none⟩ = some (.string x) := (hbl.cell (p := ⟨b, o + k, none⟩) hb).trans c1
        have d1' : w1.cell? ⟨b', o' + k, none⟩ = some (.string y) := (hbl.cell (p := ⟨b', o' + k, none⟩) hb').trans d1
        clear c1 d1
        have hki : (k : Int) < (xs.length : Int) := by omega
        have hki' : (k : Int) < (ys.length : Int) := by omega
        cases he : sEq x y
        · have he' := Lib.hid he
          have hq : (x.toList == y.toList) = false := he
          clear he
          go_wp2
          go_quiet (fail)
          go_wp2
          go_ret
          exact ⟨ret_bool (hbad.out he'.out).symm, below_drewN hbl _⟩
        · have he' := Lib.hid he
          have hq : (x.toList == y.toList) = true := he
          clear he
          go_wp2
          go_quiet (fail)
          go_wp2
          go_roundw
          case rel => exact ⟨k + 1, by omega, by go_num, below_drewN hbl _, HX.out he'.out⟩
          case measure => simp [intOf]; omega
      · have HE := Lib.hid (show k = xs.length by omega)
        go_wp2
        go_ret
        exact ⟨ret_bool (eqBy_good HL.out fun j h1 h2 => HG.out j h1 h2 (by rw [HE.out]; exact h1)).symm, hbl⟩
  · have hl1 : ((xs.length : Int) != (ys.length : Int)) = true := by simp; omega
    have HL := Lib.hid hl; clear hl
    go_wp2
    go_ret
    exact ⟨ret_bool (eqBy_len HL.out).symm, Below.refl _ _⟩



end Go.Proofs.Ytnlljekijlkigaa

namespace Go.Proofs.Ytnlljekijlkigaa
open Go.RowKit

theorem leftOf_ok {l : Int} {n : Nat} (h : 0 ≤ leftOf l n) (hl : l ≤ 1048576) : 0 ≤ leftOf l n ∧ leftOf l n ≤ 1048576 ∧ n ≤ 1048576 := by
  unfold leftOf at *
  split at h <;> rename_i h1
  · omega
  · rw [if_neg h1]; omega
theorem lessOr_eq (l n : Int) : lessOr l n = leftOf l n := rfl
theorem leftOf_leftOf (l : Int) (m n : Nat) (hl : 0 ≤ l) : (if leftOf l m < 0 then -1 else leftOf (leftOf l m) n) = leftOf l ((m + n : Nat) : Int) := by
  unfold leftOf
  by_cases h : l < (m : Int)
  · rw [if_pos h]; simp only [show (-1 : Int) < 0 by omega, if_true]; rw [if_pos (by omega)]
  · rw [if_neg h, if_neg (by omega)]
    by_cases h2 : l - m < (n : Int)
    · rw [if_pos h2, if_pos (by omega)]
    · rw [if_neg h2, if_neg (by omega)]; omega

/-! plans -/
def szP (p : Pln) : Nat := p.order.length + sumStr p.order
/-! letters -/
def szL (xs : List Ltr) : Nat := xs.length + sumSz xs
theorem u_szL (v : Value) (xs : List Ltr) (l : Int) (w : World) (hv : rd w w.heap.size v xs) (h0 : 0 ≤ l) (h1 : l ≤ 1048576) :
    Calls Try.prog 46 #[v, .int .i64 l] w fun e w' => e = .returned (.int .i64 (leftOf l (szL xs : Nat))) ∧ Below w.heap.size w w' := by
  rw [show leftOf l (szL xs : Nat) = lessOr l (xs.length + sumSz xs) by unfold szL; rw [Int.natCast_add, lessOr_eq]]
  exact laws_szLetterS v xs l w hv h0 h1
theorem u_toL (v : Value) (xs : List Ltr) (w : World) (hv : rd w w.heap.size v xs) (hs : szL xs ≤ 1048576) :
    Calls Try.prog 49 #[v] w fun e w' => ∃ v', e = .returned v' ∧ own 49 w.heap.size w' v' xs ∧ Below w.heap.size w w' :=
  laws_toLetterS v xs w hv (by unfold szL at hs; omega)
theorem u_eqL (v v' : Value) (xs : List Ltr) (w : World) (hv : rd w w.heap.size v xs) (hv' : rd w w.heap.size v' xs) :
    Calls Try.prog 52 #[v, v'] w fun e w' => e = .returned (.bool true) ∧ Below w.heap.size w w' := by
  have h := laws_eqLetterS v v' xs xs w hv hv'
  rw [show eqBy ltrEq xs xs = true from (eqBy_iff ltrEq_iff).2 rfl] at h
  exact h


end Go.Proofs.Ytnlljekijlkigaa

namespace Go.Proofs.Ytnlljekijlkigaa
open Go.RowKit

/-- The marks that 'markLetterS' leaves in n letters. -/
def marksL (k n : Nat) : List Ltr := (List.range n).map fun i => ⟨((k + 2 * i : Nat) : Int), markB (k + 2 * i + 1)⟩
theorem marksL_len (k n : Nat) : (marksL k n).length = n := by simp [marksL]
theorem marksL_get (k n i : Nat) (h : i < (marksL k n).length) : (marksL k n)[i] = ⟨((k + 2 * i : Nat) : Int), markB (k + 2 * i + 1)⟩ := by simp [marksL]
theorem markB_size (k : Nat) (hk : k ≤ 1099511627776) : (markB k).size ≤ maxLen := by
  unfold markB
  have := dec10_len k
  split
  · show 2 ≤ maxLen
    unfold maxLen; omega
  · show (109 :: dec10 k).toArray.size ≤ maxLen
    rw [List.size_toArray, List.length_cons]
    unfold maxLen; omega

/-- The first k letters marked. -/
def markedTo (k0 : Nat) (xs : List Ltr) (k : Nat) : List Ltr := marksL k0 k ++ xs.drop k
theorem markedTo_len {k0 : Nat} {xs : List Ltr} {k : Nat} (h : k ≤ xs.length) : (markedTo k0 xs k).length = xs.length := by
  simp [markedTo, marksL_len]; omega
theorem markedTo_step {k0 : Nat} {xs : List Ltr} {k : Nat} (h : k < xs.length) : (markedTo k0 xs k).set k ⟨((k0 + 2 * k : Nat) : Int), markB (k0 + 2 * k + 1)⟩ = markedTo k0 xs (k + 1) := by
  unfold markedTo
  rw [List.set_append_right _ _ (by rw [marksL_len]; exact Nat.le_refl _), marksL_len, Nat.sub_self, List.drop_eq_getElem_cons h, List.set_cons_zero]
  unfold marksL
  rw [List.range_succ, List.map_append]
  simp



end Go.Proofs.Ytnlljekijlkigaa
