/- How many letters can stay: the longest ascending choice, reckoned by rank and by place. Plain facts. -/
import Derived.Test.YtiaepapdofcnjaaL2
namespace Go.Proofs.Ytiaepapdofcnjaa
open Go.RowKit

/-- The greatest length among those whose rank is at most n. -/
def topLe (L : List (Nat × Nat)) (n : Nat) : Nat := L.foldl (fun a x => if x.1 ≤ n then max a x.2 else a) 0
/-- The greatest length among those of rank n. -/
def topEq (L : List (Nat × Nat)) (n : Nat) : Nat := L.foldl (fun a x => if x.1 = n then max a x.2 else a) 0
def bestK (L : List (Nat × Nat)) : Nat := L.foldl (fun a x => max a x.2) 0
def stepK (L : List (Nat × Nat)) (r : Int) : List (Nat × Nat) := if r < 0 then L else L ++ [(r.toNat, topLe L r.toNat + 1)]
def runK (rs : List Int) : List (Nat × Nat) := rs.foldl stepK []
theorem topLe_snoc (L : List (Nat × Nat)) (x : Nat × Nat) (n : Nat) : topLe (L ++ [x]) n = if x.1 ≤ n then max (topLe L n) x.2 else topLe L n := by
  unfold topLe; rw [List.foldl_append]; rfl
theorem topEq_snoc (L : List (Nat × Nat)) (x : Nat × Nat) (n : Nat) : topEq (L ++ [x]) n = if x.1 = n then max (topEq L n) x.2 else topEq L n := by
  unfold topEq; rw [List.foldl_append]; rfl
theorem bestK_snoc (L : List (Nat × Nat)) (x : Nat × Nat) : bestK (L ++ [x]) = max (bestK L) x.2 := by
  unfold bestK; rw [List.foldl_append]; rfl
theorem runK_snoc (rs : List Int) (r : Int) : runK (rs ++ [r]) = stepK (runK rs) r := by
  unfold runK; rw [List.foldl_append]; rfl
theorem runK_succ (rs : List Int) (k : Nat) (h : k < rs.length) : runK (rs.take (k + 1)) = stepK (runK (rs.take k)) rs[k] := by
  rw [List.take_succ_eq_append_getElem h, runK_snoc]
/-- The greatest of g 0 .. g n. -/
def maxTo (g : Nat → Nat) : Nat → Nat
  | 0 => g 0
  | n + 1 => max (maxTo g n) (g (n + 1))
theorem maxTo_congr {g g' : Nat → Nat} : ∀ n, (∀ j, j ≤ n → g j = g' j) → maxTo g n = maxTo g' n
  | 0, h => h 0 (Nat.le_refl _)
  | n + 1, h => by unfold maxTo; rw [maxTo_congr n fun j hj => h j (by omega), h (n + 1) (Nat.le_refl _)]
theorem maxTo_set (g : Nat → Nat) (r f : Nat) : ∀ n, maxTo (fun j => if r = j then max (g j) f else g j) n = if r ≤ n then max (maxTo g n) f else maxTo g n
  | 0 => by
    unfold maxTo
    by_cases h : r = 0
    · simp [h]
    · simp [h]
  | n + 1 => by
    unfold maxTo
    rw [maxTo_set g r f n]
    by_cases h1 : r ≤ n
    · rw [if_pos h1, if_neg (by omega), if_pos (by omega)]; omega
    · rw [if_neg h1]
      by_cases h2 : r = n + 1
      · rw [if_pos h2, if_pos (by omega)]; omega
      · rw [if_neg h2, if_neg (by omega)]
theorem maxTo_zero : ∀ n, maxTo (fun _ => 0) n = 0
  | 0 => rfl
  | n + 1 => by unfold maxTo; rw [maxTo_zero n]; rfl
theorem snoc_ind {α : Type} {p : List α → Prop} (h0 : p []) (h1 : ∀ l a, p l → p (l ++ [a])) (l : List α) : p l := by
  have : ∀ n (l : List α), l.length = n → p l := fun n => by
    induction n with
    | zero => intro l hl; rw [List.length_eq_zero_iff.1 hl]; exact h0
    | succ n ih =>
      intro l hl
      have hne : l ≠ [] := by intro h; rw [h] at hl; simp at hl
      rw [← List.dropLast_concat_getLast hne]
      exact h1 _ _ (ih _ (by simp [hl]))
  exact this _ l rfl
theorem topLe_eq (L : List (Nat × Nat)) (n : Nat) : maxTo (topEq L) n = topLe L n := by
  induction L using snoc_ind with
  | h0 => exact maxTo_zero n
  | h1 L x ih =>
    rw [topLe_snoc, ← ih, ← maxTo_set]
    exact maxTo_congr n fun j _ => topEq_snoc L x j
theorem topEq_le_maxTo (g : Nat → Nat) : ∀ n j, j ≤ n → g j ≤ maxTo g n
  | 0, j, h => by obtain rfl : j = 0 := by omega
                  exact Nat.le_refl _
  | n + 1, j, h => by
    unfold maxTo
    by_cases hj : j = n + 1
    · rw [hj]; omega
    · have := topEq_le_maxTo g n j (by omega); omega
theorem topEq_step (L : List (Nat × Nat)) (r j : Nat) : topEq (L ++ [(r, topLe L r + 1)]) j = if r = j then topLe L r + 1 else topEq L j := by
  rw [topEq_snoc]
  by_cases h : r = j
  · subst h
    simp only [if_true]
    have := topEq_le_maxTo (topEq L) r r (Nat.le_refl _)
    rw [topLe_eq] at this
    omega
  · rw [if_neg h, if_neg h]
theorem runK_len (rs : List Int) : (runK rs).length ≤ rs.length := by
  induction rs using snoc_ind with
  | h0 => exact Nat.le_refl _
  | h1 rs r ih =>
    rw [runK_snoc]
    unfold stepK
    split
    · simp; omega
    · simp; omega
theorem topLe_bound (rs : List Int) (n : Nat) : topLe (runK rs) n ≤ rs.length ∧ bestK (runK rs) ≤ rs.length := by
  induction rs using snoc_ind generalizing n with
  | h0 => exact ⟨Nat.le_refl _, Nat.le_refl _⟩
  | h1 rs r ih =>
    rw [runK_snoc]
    unfold stepK
    have h1 := ih n
    split
    · simp; omega
    · have h2 := ih r.toNat
      rw [topLe_snoc, bestK_snoc]
      simp only [List.length_append, List.length_cons, List.length_nil]
      split <;> omega

/-- How many letters can stay: all ranks in their order. -/
def ranksOf (p : Pln) (xs : List Ltr) : List Int := xs.map fun x => rkI p.order x.code
def keptN (p : Pln) (xs : List Ltr) : Nat := bestK (runK (ranksOf p xs))
def keptI (p : Pln) (xs : List Ltr) : Int := if planOk p && okB xs then keptN p xs else -1

end Go.Proofs.Ytiaepapdofcnjaa
