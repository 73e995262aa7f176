/- A row of int's of the call's own: made, one cell stored; slices.Max. -/
import Derived.Test.YtlmbegajocmnpaaD0
import Derived.Test.YtlmbegajocmnpaaL3
namespace Go.Proofs.Ytlmbegajocmnpaa
open Go.RowKit

/-- The row g 0, .., g (n - 1). -/
def rowK (g : Nat → Nat) (n : Nat) : List Int := (List.range n).map fun j => ((g j : Nat) : Int)
theorem rowK_len (g : Nat → Nat) (n : Nat) : (rowK g n).length = n := by simp [rowK]
theorem rowK_get (g : Nat → Nat) (n k : Nat) (h : k < (rowK g n).length) : (rowK g n)[k] = ((g k : Nat) : Int) := by simp [rowK]
theorem rowK_take (g : Nat → Nat) (n k : Nat) (h : k ≤ n) : (rowK g n).take k = rowK g k := by
  apply List.ext_getElem
  · simp [rowK_len]; omega
  · intro i h1 h2
    rw [List.getElem_take, rowK_get, rowK_get]
theorem rowK_set (g : Nat → Nat) (n r f : Nat) : (rowK g n).set r (f : Int) = rowK (fun j => if r = j then f else g j) n := by
  apply List.ext_getElem
  · simp [rowK_len]
  · intro i h1 h2
    rw [List.getElem_set, rowK_get, rowK_get]
    split <;> rfl
theorem rowK_congr {g g' : Nat → Nat} {n : Nat} (h : ∀ j, j < n → g j = g' j) : rowK g n = rowK g' n := by
  apply List.ext_getElem
  · simp [rowK_len]
  · intro i h1 h2
    rw [rowK_get, rowK_get, h i (by simpa [rowK_len] using h1)]

theorem own_setInt {T base g n c : Nat} {w : World} {xs : List Int} (h : own T base w (.slice (some ⟨g, 0, none⟩) n c) xs) {k : Nat} (hk : k < xs.length) (y : Int) (hy : isI64 y) :
    own T base (w.setCell ⟨g, k, none⟩ (.int .i64 y)) (.slice (some ⟨g, 0, none⟩) n c) (xs.set k y) := by
  have h1 := h.setCell (k := k) (j := 0) hk (by decide) (.int .i64 y) y (fun ecs he => by
    obtain ⟨_, rfl⟩ := he
    exact ⟨hy, rfl⟩)
  rw [show k * El.size Int + 0 = k from Nat.mul_one k] at h1
  exact h1

theorem Try.infoInt : (Try.prog.info? 3).map (fun i => (i.zero, i.size, i.bytes)) = some (some (.int .i64 0), 1, 8) := by kernel_rfl

theorem own_zeros (w : World) (n base : Nat) (hb : base ≤ w.heap.size) (hn : n ≤ maxLen) : own 3 base (w.alloc (.cells (madeCells #[.int .i64 0] n) 3)) (.slice (some ⟨w.heap.size, 0, none⟩) n n) (rowK (fun _ => 0) n) := by
  have hf : filled 3 (w.alloc (.cells (madeCells #[.int .i64 0] n) 3)) w.heap.size n n (rowK (fun _ => 0) n) := by
    refine ⟨madeCells #[.int .i64 0] n, heap_alloc_new w _, by rw [size_madeCells]; exact (Nat.mul_one _).symm, fun i hi hin => ⟨[.int .i64 0], ⟨?_, ?_⟩, fun j u hu => ?_⟩⟩
    · rw [rowK_get]; unfold isI64; omega
    · rw [rowK_get]; rfl
    · have hj : j = 0 := by
        cases j with
        | zero => rfl
        | succ j => simp at hu
      subst hj
      simp at hu
      subst hu
      rw [show i * El.size Int + 0 = i from Nat.mul_one i]
      simp [madeCells, Nat.mod_one, show i < n by simpa [rowK_len] using hi]
  exact hf.own (by rw [rowK_len]) hb hn

set_option maxHeartbeats 400000 in
theorem slices_MaxI (v : Value) (g : Nat → Nat) (n : Nat) (w : World) (hv : rd w w.heap.size v (rowK g (n + 1))) :
    Calls Try.prog 85 #[v] w fun e w' => e = .returned (.int .i64 (maxTo g n : Nat)) ∧ w = w' := by
  obtain ⟨A, m, c, rfl, hn, hc, hm, hr⟩ := hv
  rw [rowK_len] at hn
  subst hn
  unfold maxLen at hm
  have HR := Lib.hid hr; clear hr
  obtain ⟨b, o, rfl, hb, i0, c0⟩ := HR.out.int 0 (by rw [rowK_len]; omega)
  rw [rowK_get] at c0 i0
  have c0' : w.cell? ⟨b, o, none⟩ = some (.int .i64 (g 0 : Nat)) := c0
  clear c0
  have h1 : ¬ ((n : Int) + 1 < 1) := by omega
  go_enter Try.func85, Try.ntmps85
  go_wp2
  go_loop [3, 4] (fun t i => ∃ (k m : Nat), k ≤ n ∧ i = .int .i64 ((k : Int) + 1) ∧ t = .int .i64 (m : Int) ∧ Hid (m = maxTo g k)) (fun _ i => n + 1 - (intOf i).toNat)
  case atStart => exact ⟨0, g 0, Nat.zero_le _, rfl, rfl, rfl⟩
  case round =>
    obtain ⟨k, m, hk, rfl, rfl, HM⟩ := hrel
    by_cases hlt : k < n
    · obtain ⟨b', o', hA, _, _, c1⟩ := HR.out.int (k + 1) (by rw [rowK_len]; omega)
      injection hA with hA
      injection hA with hA1 hA2
      subst hA1 hA2
      rw [rowK_get] at c1
      have hx : maxTo g (k + 1) = max m (g (k + 1)) := by rw [HM.out]; rfl
      have HX := Lib.hid hx; clear hx
      generalize g (k + 1) = y at *
      have c1' : w.cell? ⟨b, o + (k + 1), none⟩ = some (.int .i64 (y : Int)) := c1
      clear c1
      have hi1 : (0 : Int) ≤ (k : Int) + 1 := by omega
      have hi2 : ((k : Int) + 1).toNat = k + 1 := by omega
      by_cases hmy : (m : Int) < (y : Int)
      · go_wp2
        go_round
        case rel => exact ⟨k + 1, y, by omega, by go_num, rfl, by show _ = _; rw [HX.out]; omega⟩
        case measure => simp [intOf]; omega
      · go_wp2
        go_round
        case rel => exact ⟨k + 1, m, by omega, by go_num, rfl, by show _ = _; rw [HX.out]; omega⟩
        case measure => simp [intOf]; omega
    · have HE := Lib.hid (show k = n by omega)
      go_wp2
      go_ret
      exact ⟨ret_int (by rw [← HE.out, ← HM.out]), rfl⟩

end Go.Proofs.Ytlmbegajocmnpaa
