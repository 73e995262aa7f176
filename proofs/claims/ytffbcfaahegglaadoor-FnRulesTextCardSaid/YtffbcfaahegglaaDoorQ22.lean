/- MK MK2 -/
import Derived.Test.YtffbcfaahegglaaDoorQ21
namespace Go.Proofs.YtffbcfaahegglaaDoor
open Go.RowKit

def marksLL (k0 : Nat) (xss : List (List Ltr)) : List (List Ltr) := (List.range xss.length).map fun i => marksL (k0 + 2 * (xss.take i).flatten.length) (xss.getD i []).length
theorem marksLL_len (k0 : Nat) (xss : List (List Ltr)) : (marksLL k0 xss).length = xss.length := by simp [marksLL]
theorem marksLL_get (k0 : Nat) (xss : List (List Ltr)) (i : Nat) (h : i < (marksLL k0 xss).length) : (marksLL k0 xss)[i] = marksL (k0 + 2 * (xss.take i).flatten.length) (xss[i]'(by rw [marksLL_len] at h; exact h)).length := by
  have h' : i < xss.length := by rw [marksLL_len] at h; exact h
  simp [marksLL, h']
/-- A row of rows and a row beside it, of the call's own, in blocks before hi. -/
def seg2 (T1 T2 lo hi : Nat) (w : World) (vB vO : Value) (xss : List (List Ltr)) (ys : List Ltr) : Prop :=
  ∃ vs, isLL T1 T2 lo w vB xss vs ∧ own T2 lo w vO ys ∧ farLL vO vB vs ∧ (∀ k, vB.ownBlock = some k → k < hi) ∧ (∀ i (h : i < vs.length) k, vs[i].ownBlock = some k → k < hi) ∧ ∀ k, vO.ownBlock = some k → k < hi
section
variable {T1 T2 lo hi : Nat} {w w' : World} {vB vO : Value} {xss : List (List Ltr)} {ys : List Ltr}
theorem seg2.of {vs : List Value} (h : isLL T1 T2 lo w vB xss vs) (ho : own T2 lo w vO ys) (hf : farLL vO vB vs) : seg2 T1 T2 lo w.heap.size w vB vO xss ys :=
  ⟨vs, h, ho, hf, fun k hk => (h.1.blk k hk).2, fun i hi k hk => ((h.2.2.1 i hi (by have := h.2.1; omega)).blk k hk).2, fun k hk => (ho.blk k hk).2⟩
theorem seg2.alone (h : ownLL T1 T2 lo w vB xss) : seg2 T1 T2 lo w.heap.size w vB (.slice none 0 0) xss [] := by
  obtain ⟨vs, h⟩ := h
  exact seg2.of h (own.nil_ _ _ _) ⟨.inl rfl, fun k hk => .inl rfl⟩
theorem seg2.below (h : seg2 T1 T2 lo hi w vB vO xss ys) (hb : Below w.heap.size w w') : seg2 T1 T2 lo hi w' vB vO xss ys := by
  obtain ⟨vs, h1, h2, h3, h4, h5, h6⟩ := h
  exact ⟨vs, h1.below hb, h2.below hb, h3, h4, h5, h6⟩
theorem seg2.out {a b : Nat} (h : seg2 T1 T2 lo hi w vB vO xss ys) (ho : OutI a b w w') (hd : hi ≤ a ∨ b ≤ lo) : seg2 T1 T2 lo hi w' vB vO xss ys := by
  obtain ⟨vs, ⟨g1, g2, g3, g4, g5⟩, h2, h3, h4, h5, h6⟩ := h
  refine ⟨vs, ⟨g1.keepBlk fun k hk => ho.block k (g1.blk k hk).2 (by have q1 := (g1.blk k hk).1; have q2 := h4 k hk; omega), g2, fun i hi hi' => ?_, g4, g5⟩, h2.keepBlk fun k hk => ho.block k (h2.blk k hk).2 (by have q1 := (h2.blk k hk).1; have q2 := h6 k hk; omega), h3, h4, h5, h6⟩
  exact (g3 i hi hi').keepBlk fun k hk => ho.block k ((g3 i hi hi').blk k hk).2 (by have q1 := ((g3 i hi hi').blk k hk).1; have q2 := h5 i hi k hk; omega)
theorem seg2.rdB (h : seg2 T1 T2 lo hi w vB vO xss ys) : rd w w.heap.size vB xss := by
  obtain ⟨vs, h1, _⟩ := h
  exact ownLL.rd ⟨vs, h1⟩
theorem seg2.rdO (h : seg2 T1 T2 lo hi w vB vO xss ys) : rd w w.heap.size vO ys := by
  obtain ⟨vs, h1, h2, _⟩ := h
  exact h2.rd
end




end Go.Proofs.YtffbcfaahegglaaDoor

namespace Go.Proofs.YtffbcfaahegglaaDoor
open Go.RowKit



end Go.Proofs.YtffbcfaahegglaaDoor
