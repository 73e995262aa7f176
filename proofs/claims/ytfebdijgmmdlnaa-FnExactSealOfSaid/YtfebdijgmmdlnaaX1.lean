/- FnExactOrderSeal, FnExactSealOf: the walk of the law. -/
import Derived.Test.YtfebdijgmmdlnaaM1
import Derived.Test.YtfebdijgmmdlnaaE3
namespace Go.Proofs.Ytfebdijgmmdlnaa
open Go.RowKit

set_option maxHeartbeats 400000 in
theorem walk_FnExactOrderSeal (w : World) (v : Value) (xs : List Ltr) (hv : rd w w.heap.size v xs) :
    Calls Try.prog 3 #[v] w fun e w' => e = .returned (.bool true) ∧ Below w.heap.size w w' := by
  go_enter Try.func3, Try.ntmps3
  go_wp2_with fail
  refine (laws_szLetterS _ xs 1048576 _ hv (by omega) (by omega)).mono ?_
  rintro e w1 ⟨rfl, b1⟩
  by_cases hsz : (1048576 : Int) < xs.length + sumSz xs
  · have hl : lessOr 1048576 (xs.length + sumSz xs) = -1 := by unfold lessOr; rw [if_pos hsz]
    rw [hl]
    go_wp2_with fail
    go_ret
    exact ⟨rfl, b1⟩
  · have hl : lessOr 1048576 (xs.length + sumSz xs) = 1048576 - (xs.length + sumSz xs) := by unfold lessOr; rw [if_neg hsz]
    rw [hl]
    clear hl
    have hx : xs.length ≤ 1048576 := by omega
    have hn : ¬ (1048576 - ((xs.length : Int) + (sumSz xs : Int)) < 0) := by omega
    go_wp2_with fail
    have hv1 := hv.on b1
    refine (laws_toLetterS _ xs _ hv1 hx).mono ?_
    rintro e w2 ⟨v2, rfl, o2, b2⟩
    have B2 := b1.trans (b2.mono b1.size)
    go_wp2_with fail
    refine (spec_OrderSeal _ xs _ o2.rd).mono ?_
    rintro e w3 ⟨rfl, b3⟩
    have B3 := B2.trans (b3.mono B2.size)
    go_wp2_with fail
    refine (laws_toLetterS _ xs _ (hv.on B3) hx).mono ?_
    rintro e w4 ⟨v4, rfl, o4, b4⟩
    have B4 := B3.trans (b4.mono B3.size)
    go_wp2_with fail
    refine (impl_OrderSeal _ xs _ o4.rd).mono ?_
    rintro e w5 ⟨rfl, b5⟩
    have B5 := B4.trans (b5.mono B4.size)
    generalize orOf (okB xs) (osL xs) = r
    have hrr : (r != r) = false := by simp
    go_wp2_with fail
    refine (laws_toLetterS _ xs _ (hv.on B5) hx).mono ?_
    rintro e w6 ⟨v6, rfl, o6, b6⟩
    have B6 := B5.trans (b6.mono B5.size)
    go_wp2_with fail
    have hq : eqBy ltrEq xs xs = true := (eqBy_iff ltrEq_iff).2 rfl
    refine (laws_eqLetterS _ _ xs xs _ (o4.rdB (b5.trans (b6.mono b5.size))) o6.rd).mono ?_
    rw [hq]
    rintro e w7 ⟨rfl, b7⟩
    have B7 := B6.trans (b7.mono B6.size)
    go_wp2_with fail
    go_ret
    exact ⟨rfl, B7⟩

set_option maxHeartbeats 400000 in
theorem walk_FnExactSealOf (w : World) (v : Value) (xs : List Ltr) (hv : rd w w.heap.size v xs) :
    Calls Try.prog 4 #[v] w fun e w' => e = .returned (.bool true) ∧ Below w.heap.size w w' := by
  go_enter Try.func4, Try.ntmps4
  go_wp2_with fail
  refine (laws_szLetterS _ xs 1048576 _ hv (by omega) (by omega)).mono ?_
  rintro e w1 ⟨rfl, b1⟩
  by_cases hsz : (1048576 : Int) < xs.length + sumSz xs
  · have hl : lessOr 1048576 (xs.length + sumSz xs) = -1 := by unfold lessOr; rw [if_pos hsz]
    rw [hl]
    go_wp2_with fail
    go_ret
    exact ⟨rfl, b1⟩
  · have hl : lessOr 1048576 (xs.length + sumSz xs) = 1048576 - (xs.length + sumSz xs) := by unfold lessOr; rw [if_neg hsz]
    rw [hl]
    clear hl
    have hx : xs.length ≤ 1048576 := by omega
    have hn : ¬ (1048576 - ((xs.length : Int) + (sumSz xs : Int)) < 0) := by omega
    go_wp2_with fail
    have hv1 := hv.on b1
    refine (laws_toLetterS _ xs _ hv1 hx).mono ?_
    rintro e w2 ⟨v2, rfl, o2, b2⟩
    have B2 := b1.trans (b2.mono b1.size)
    go_wp2_with fail
    refine (spec_SealOf _ xs _ o2.rd).mono ?_
    rintro e w3 ⟨rfl, b3⟩
    have B3 := B2.trans (b3.mono B2.size)
    go_wp2_with fail
    refine (laws_toLetterS _ xs _ (hv.on B3) hx).mono ?_
    rintro e w4 ⟨v4, rfl, o4, b4⟩
    have B4 := B3.trans (b4.mono B3.size)
    go_wp2_with fail
    refine (impl_SealOf _ xs _ o4.rd).mono ?_
    rintro e w5 ⟨rfl, b5⟩
    have B5 := B4.trans (b5.mono B4.size)
    generalize orOf (okB xs) (sL xs) = r
    have hrr : (r != r) = false := by simp
    go_wp2_with fail
    refine (laws_toLetterS _ xs _ (hv.on B5) hx).mono ?_
    rintro e w6 ⟨v6, rfl, o6, b6⟩
    have B6 := B5.trans (b6.mono B5.size)
    go_wp2_with fail
    have hq : eqBy ltrEq xs xs = true := (eqBy_iff ltrEq_iff).2 rfl
    refine (laws_eqLetterS _ _ xs xs _ (o4.rdB (b5.trans (b6.mono b5.size))) o6.rd).mono ?_
    rw [hq]
    rintro e w7 ⟨rfl, b7⟩
    have B7 := B6.trans (b7.mono B6.size)
    go_wp2_with fail
    go_ret
    exact ⟨rfl, B7⟩

end Go.Proofs.Ytfebdijgmmdlnaa
