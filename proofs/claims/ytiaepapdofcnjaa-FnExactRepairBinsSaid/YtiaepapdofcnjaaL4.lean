/- A row of int's of the call's own: made, one cell stored; slices.Max. -/
import Derived.Test.YtiaepapdofcnjaaD0
import Derived.Test.YtiaepapdofcnjaaL3
namespace Go.Proofs.Ytiaepapdofcnjaa
open Go.RowKit

/-- The row g 0, .., g (n - 1). -/
def rowK (g : Nat → Nat) (n : Nat) : List Int := (List.range n).map fun j => ((g j : Nat) : Int)
theorem rowK_len (g : Nat → Nat) (n : Nat) : (rowK g n).length = n := by simp [rowK]
theorem rowK_get (g : Nat → Nat) (n k : Nat) (h : k < (rowK g n).length) : (rowK g n)[k] = ((g k : Nat) : Int) := by simp [rowK]
theorem rowK_take (g : Nat → Nat) (n k : Nat) (h : k ≤ n) : (rowK g n).take k = rowK g k := by
  apply List.ext_getElem
  · simp [rowK_len]; omega
  · intro i h1 h2
    rw [List.getElem_take, rowK_get, rowK_get]
theorem rowK_set (g : Nat → Nat) (n r f : Nat) : (rowK g n).set r (f : Int) = rowK (fun j => if r = j then f else g j) n := by
  apply List.ext_getElem
  · simp [rowK_len]
  · intro i h1 h2
    rw [List.getElem_set, rowK_get, rowK_get]
    split <;> rfl
theorem rowK_congr {g g' : Nat → Nat} {n : Nat} (h : ∀ j, j < n → g j = g' j) : rowK g n = rowK g' n := by
  apply List.ext_getElem
  · simp [rowK_len]
  · intro i h1 h2
    rw [rowK_get, rowK_get, h i (by simpa [rowK_len] using h1)]

theorem own_setInt {T base g n c : Nat} {w : World} {xs : List Int} (h : own T base w (.slice (some ⟨g, 0, none⟩) n c) xs) {k : Nat} (hk : k < xs.length) (y : Int) (hy : isI64 y) :
    own T base (w.setCell ⟨g, k, none⟩ (.int .i64 y)) (.slice (some ⟨g, 0, none⟩) n c) (xs.set k y) := by
  have h1 := h.setCell (k := k) (j := 0) hk (by decide) (.int .i64 y) y (fun ecs he => by
    obtain ⟨_, rfl⟩ := he
    exact ⟨hy, rfl⟩)
  rw [show k * El.size Int + 0 = k from Nat.mul_one k] at h1
  exact h1

theorem Try.infoInt : (Try.prog.info? 3).map (fun i => (i.zero, i.size, i.bytes)) = some (some (.int .i64 0), 1, 8) := by kernel_rfl

theorem own_zeros (w : World) (n base : Nat) (hb : base ≤ w.heap.size) (hn : n ≤ maxLen) : own 3 base (w.alloc (.cells (madeCells #[.int .i64 0] n) 3)) (.slice (some ⟨w.heap.size, 0, none⟩) n n) (rowK (fun _ => 0) n) := by
  have hf : filled 3 (w.alloc (.cells (madeCells #[.int .i64 0] n) 3)) w.heap.size n n (rowK (fun _ => 0) n) := by
    refine ⟨madeCells #[.int .i64 0] n, heap_alloc_new w _, by rw [size_madeCells]; exact (Nat.mul_one _).symm, fun i hi hin => ⟨[.int .i64 0], ⟨?_, ?_⟩, fun j u hu => ?_⟩⟩
    · rw [rowK_get]; unfold isI64; omega
    · rw [rowK_get]; rfl
    · have hj : j = 0 := by
        cases j with
        | zero => rfl
        | succ j => simp at hu
      subst hj
      simp at hu
      subst hu
      rw [show i * El.size Int + 0 = i from Nat.mul_one i]
      simp [madeCells, Nat.mod_one, show i < n by simpa [rowK_len] using hi]
  exact hf.own (by rw [rowK_len]) hb hn


end Go.Proofs.Ytiaepapdofcnjaa
