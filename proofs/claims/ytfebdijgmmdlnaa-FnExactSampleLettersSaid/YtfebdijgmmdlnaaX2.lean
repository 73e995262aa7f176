/- FnExactSampleLetters: the walk of the law. -/
import Derived.Test.YtfebdijgmmdlnaaM2
import Derived.Test.YtfebdijgmmdlnaaE3
namespace Go.Proofs.Ytfebdijgmmdlnaa
open Go.RowKit

theorem smp_len (xs : List Ltr) (k : Int) : (smp xs k).length ≤ xs.length := by
  unfold smp
  split
  · have h : ∀ (m : Nat) (ys : List Ltr) (n : Nat), (every m ys n).length ≤ ys.length := by
      intro m ys
      induction ys with
      | nil => intro n; simp [every]
      | cons y ys ih =>
        intro n
        cases n with
        | zero => have := ih m; simp [every]; omega
        | succ n => have := ih n; simp [every]; omega
    exact h _ _ _
  · simp

set_option maxHeartbeats 400000 in
theorem walk_FnExactSampleLetters (w : World) (v : Value) (xs : List Ltr) (hv : rd w w.heap.size v xs) (k : Int) (_hk : isI64 k) :
    Calls Try.prog 5 #[v, .int .i64 k] w fun e w' => e = .returned (.bool true) ∧ Below w.heap.size w w' := by
  go_enter Try.func5, Try.ntmps5
  go_wp2_with fail
  refine (laws_szLetterS _ xs 1048576 _ hv (by omega) (by omega)).mono ?_
  rintro e w1 ⟨rfl, b1⟩
  by_cases hsz : (1048576 : Int) < xs.length + sumSz xs
  · have hl : lessOr 1048576 (xs.length + sumSz xs) = -1 := by unfold lessOr; rw [if_pos hsz]
    rw [hl]
    go_wp2_with fail
    go_ret
    exact ⟨rfl, b1⟩
  · have hl : lessOr 1048576 (xs.length + sumSz xs) = 1048576 - (xs.length + sumSz xs) := by unfold lessOr; rw [if_neg hsz]
    rw [hl]
    clear hl
    have hx : xs.length ≤ 1048576 := by omega
    have hn : ¬ (1048576 - ((xs.length : Int) + (sumSz xs : Int)) < 0) := by omega
    go_wp2_with fail
    refine (laws_toLetterS _ xs _ (hv.on b1) hx).mono ?_
    rintro e w2 ⟨v2, rfl, o2, b2⟩
    have B2 := b1.trans (b2.mono b1.size)
    go_wp2_with fail
    refine (spec_SampleLetters _ xs _ _ o2.rd).mono ?_
    rintro e w3 ⟨v3, rfl, o3, b3⟩
    have B3 := B2.trans (b3.mono B2.size)
    go_wp2_with fail
    refine (laws_toLetterS _ xs _ (hv.on B3) hx).mono ?_
    rintro e w4 ⟨v4, rfl, o4, b4⟩
    have B4 := B3.trans (b4.mono B3.size)
    go_wp2_with fail
    refine (impl_SampleLetters _ xs _ _ o4.rd).mono ?_
    rintro e w5 ⟨v5, rfl, o5, b5⟩
    have B5 := B4.trans (b5.mono B4.size)
    have hsl := smp_len xs k
    obtain ⟨ok, hF1⟩ : ∃ ok, Hid (smpOk xs k = ok) := ⟨_, rfl⟩
    obtain ⟨ys, hF2⟩ : ∃ ys, Hid (smp xs k = ys) := ⟨_, rfl⟩
    rw [hF2.out] at o3 o5 hsl
    rw [hF1.out]
    have hoo : (ok != ok) = false := by simp
    have hq : eqBy ltrEq ys ys = true := (eqBy_iff ltrEq_iff).2 rfl
    have hqx : eqBy ltrEq xs xs = true := (eqBy_iff ltrEq_iff).2 rfl
    go_wp2_with fail
    refine (laws_eqLetterS _ _ ys ys _ o5.rd (o3.rdB (b4.trans (b5.mono b4.size)))).mono ?_
    rw [hq]
    rintro e w6 ⟨rfl, b6⟩
    have B6 := B5.trans (b6.mono B5.size)
    go_wp2_with fail
    refine (laws_toLetterS _ xs _ (hv.on B6) hx).mono ?_
    rintro e w7 ⟨v7, rfl, o7, b7⟩
    have B7 := B6.trans (b7.mono B6.size)
    go_wp2_with fail
    have oX := (o4.below b5).below (b6.mono (Nat.le_refl _)) |>.below b7
    refine (laws_eqLetterS _ _ xs xs _ oX.rd o7.rd).mono ?_
    rw [hqx]
    rintro e w8 ⟨rfl, b8⟩
    have B8 := B7.trans (b8.mono B7.size)
    replace oX := oX.below b8
    have oG := (o5.below b6).below b7 |>.below b8
    have oW := ((o3.below b4).below b5).below b6 |>.below b7 |>.below b8
    have aXG := apart_lt o4 o5 (Nat.le_refl _)
    have aGX := apart_gt o5 o4 (Nat.le_refl _)
    have aWX := apart_lt o3 o4 (Nat.le_refl _)
    have aWG := apart_lt o3 o5 b4.size
    go_wp2_with fail
    refine (laws_markLetterS _ _ v4 xs 1 _ oX (by omega) hx).mono ?_
    rintro e w9 ⟨rfl, oX9, g9⟩
    have B9 := below_mark oX g9 B3.size B8
    replace oG := oG.grown g9 aGX
    replace oW := oW.grown g9 aWX
    go_wp2_with fail
    refine (laws_eqLetterS _ _ ys ys _ oG.rd oW.rd).mono ?_
    rw [hq]
    rintro e w10 ⟨rfl, b10⟩
    have B10 := B9.trans (b10.mono B9.size)
    replace oG := oG.below b10
    replace oW := oW.below b10
    go_wp2_with fail
    refine (laws_markLetterS _ _ v5 ys 1 _ oG (by omega) (by omega)).mono ?_
    rintro e w11 ⟨rfl, oG11, g11⟩
    have B11 := below_mark oG g11 B4.size B10
    replace oW := oW.grown g11 aWG
    go_wp2_with fail
    refine (laws_heldLetterS v5 ys.length 1 _ oG11.rd (by omega) (by omega)).mono ?_
    rintro e w12 ⟨rfl, b12⟩
    have B12 := B11.trans (b12.mono B11.size)
    replace oG := oG11.below b12
    replace oW := oW.below b12
    have hmm : (((1 + 2 * ys.length : Nat) : Int) != ((1 + 2 * ys.length : Nat) : Int)) = false := by simp
    have hmn : ¬ (((1 + 2 * ys.length : Nat) : Int) < 0) := by omega
    go_wp2_with fail
    refine (laws_toLetterS _ xs _ (hv.on B12) hx).mono ?_
    rintro e w13 ⟨v13, rfl, o13, b13⟩
    have B13 := B12.trans (b13.mono B12.size)
    replace oG := oG.below b13
    replace oW := oW.below b13
    go_wp2_with fail
    refine (impl_SampleLetters _ xs _ _ o13.rd).mono ?_
    rintro e w14 ⟨v14, rfl, o14, b14⟩
    have B14 := B13.trans (b14.mono B13.size)
    replace oG := oG.below b14
    replace oW := oW.below b14
    rw [hF2.out] at o14
    rw [hF1.out]
    go_wp2_with fail
    refine (laws_eqLetterS _ _ ys ys _ o14.rd oW.rd).mono ?_
    rw [hq]
    rintro e w15 ⟨rfl, b15⟩
    have B15 := B14.trans (b15.mono B14.size)
    replace oG := oG.below b15
    go_wp2_with fail
    refine (laws_heldLetterS v5 ys.length 1 _ oG.rd (by omega) (by omega)).mono ?_
    rintro e w16 ⟨rfl, b16⟩
    have B16 := B15.trans (b16.mono B15.size)
    go_wp2_with fail
    go_ret
    exact ⟨rfl, B16⟩

end Go.Proofs.Ytfebdijgmmdlnaa
