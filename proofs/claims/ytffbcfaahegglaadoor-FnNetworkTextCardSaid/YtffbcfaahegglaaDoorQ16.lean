/- B11 B12 -/
import Derived.Test.YtffbcfaahegglaaDoorQ13
import Derived.Test.YtffbcfaahegglaaDoorQ15
namespace Go.Proofs.YtffbcfaahegglaaDoor
open Go.RowKit




end Go.Proofs.YtffbcfaahegglaaDoor

namespace Go.Proofs.YtffbcfaahegglaaDoor
open Go.RowKit

/-- A row of rows that grows by one row. -/
theorem isLL.snoc {α : Type} [Flat α] {T1 T2 base g m cap : Nat} {w w1 : World} {v u : Value} {vs : List Value} {xss : List (List α)} {ys : List α}
    (h : isLL T1 T2 base w v xss vs) (ho : own T2 base w u ys) (hf : farLL u v vs) (hn : own T1 base w1 (.slice (some ⟨g, 0, none⟩) m cap) (vs ++ [u])) (hg : w.grownBy w1 v.ownBlock) (ha : some g = v.ownBlock ∨ g = w.heap.size) :
    isLL T1 T2 base w1 (.slice (some ⟨g, 0, none⟩) m cap) (xss ++ [ys]) (vs ++ [u]) := by
  obtain ⟨h1, h2, h3, h4, h5⟩ := h
  have hfu : ∀ k (hk : k < (vs ++ [u]).length), apart (vs ++ [u])[k] v := fun k hk => by
    by_cases hkv : k < vs.length
    · rw [List.getElem_append_left hkv]; exact h5 k hkv
    · rw [List.getElem_append_right (by omega)]
      have : k - vs.length = 0 := by simp at hk; omega
      simp only [this, List.getElem_cons_zero]; exact hf.1
  have hlt : ∀ k (hk : k < (vs ++ [u]).length) j, (vs ++ [u])[k].ownBlock = some j → j < w.heap.size := fun k hk j => by
    by_cases hkv : k < vs.length
    · rw [List.getElem_append_left hkv]; exact fun e => ((h3 k hkv (by omega)).blk j e).2
    · rw [List.getElem_append_right (by omega)]
      have : k - vs.length = 0 := by simp at hk; omega
      simp only [this, List.getElem_cons_zero]; exact fun e => (ho.blk j e).2
  refine ⟨hn, by simp [h2], fun k hk hk' => ?_, fun j k hj hk hne => ?_, fun k hk => ?_⟩
  · by_cases hkv : k < vs.length
    · rw [List.getElem_append_left hkv, List.getElem_append_left (by omega)]
      exact (h3 k hkv (by omega)).grown hg (h5 k hkv)
    · have e1 : k - vs.length = 0 := by simp at hk; omega
      have e2 : k - xss.length = 0 := by omega
      rw [List.getElem_append_right (by omega), List.getElem_append_right (by omega)]
      simp only [e1, e2, List.getElem_cons_zero]
      exact ho.grown hg hf.1
  · by_cases hjv : j < vs.length
    · by_cases hkv : k < vs.length
      · rw [List.getElem_append_left hjv, List.getElem_append_left hkv]; exact h4 j k hjv hkv hne
      · have e1 : k - vs.length = 0 := by simp at hk; omega
        rw [List.getElem_append_left hjv, List.getElem_append_right (by omega)]
        simp only [e1, List.getElem_cons_zero]; exact apart_symm (hf.2 j hjv)
    · have e1 : j - vs.length = 0 := by simp at hj; omega
      by_cases hkv : k < vs.length
      · rw [List.getElem_append_right (by omega), List.getElem_append_left hkv]
        simp only [e1, List.getElem_cons_zero]; exact hf.2 k hkv
      · exfalso; simp at hj hk; omega
  · exact apart_symm (apart_app (apart_symm (hfu k hk)) ha fun j hj => hlt k hk j hj)




end Go.Proofs.YtffbcfaahegglaaDoor
