/- M3 -/
import Derived.Test.YtnlljekijlkigaaQ7
import Derived.Test.YtnlljekijlkigaaQ12
namespace Go.Proofs.Ytnlljekijlkigaa
open Go.RowKit

theorem ranks_get (p : Pln) (xs : List Ltr) (k : Nat) (h : k < xs.length) : (ranksOf p xs)[k]'(by unfold ranksOf; simpa using h) = rkI p.order xs[k].code := by simp [ranksOf]
theorem ranks_len (p : Pln) (xs : List Ltr) : (ranksOf p xs).length = xs.length := by simp [ranksOf]
/-- What one letter more does to the choice. -/
theorem ranks_step (p : Pln) (xs : List Ltr) (k : Nat) (h : k < xs.length) : runK ((ranksOf p xs).take (k + 1)) = stepK (runK ((ranksOf p xs).take k)) (rkI p.order xs[k].code) := by
  rw [runK_succ _ _ (by rw [ranks_len]; exact h), ranks_get p xs k h]
theorem stepK_neg {L : List (Nat × Nat)} {r : Int} (h : r < 0) : stepK L r = L := by unfold stepK; rw [if_pos h]
theorem stepK_pos {L : List (Nat × Nat)} (r : Nat) : stepK L (r : Int) = L ++ [(r, topLe L r + 1)] := by
  unfold stepK; rw [if_neg (by omega), Int.toNat_natCast]


def movedI (p : Pln) (xs : List Ltr) : Int := if keptI p xs < 0 then -1 else xs.length - keptI p xs
theorem keptI_range (p : Pln) (xs : List Ltr) : -1 ≤ keptI p xs ∧ keptI p xs ≤ xs.length := by
  unfold keptI keptN
  split
  · have h := (topLe_bound (ranksOf p xs) 0).2
    rw [ranks_len] at h
    omega
  · omega


end Go.Proofs.Ytnlljekijlkigaa
