/- General words, more: one cell of an owned row stored anew. -/
import Derived.Test.YtiaepapdofcnjaaW0
namespace Go.Proofs.Ytiaepapdofcnjaa
open Go.RowKit

theorem flatten_set {α : Type} {n : Nat} : ∀ {l : List (List α)} (_ : ∀ x ∈ l, x.length = n) {k j : Nat} (hk : k < l.length) (_ : j < n) (u : α), l.flatten.set (k * n + j) u = (l.set k ((l[k]).set j u)).flatten
  | [], _, k, j, hk, _, _ => absurd hk (Nat.not_lt_zero k)
  | x :: l, h, 0, j, _, hj, u => by
    have hx := h x (List.mem_cons_self ..)
    simp only [Nat.zero_mul, Nat.zero_add, List.flatten_cons, List.getElem_cons_zero, List.set_cons_zero]
    rw [List.set_append_left _ _ (by omega)]
  | x :: l, h, k + 1, j, hk, hj, u => by
    have hx := h x (List.mem_cons_self ..)
    simp only [List.flatten_cons, List.getElem_cons_succ, List.set_cons_succ]
    rw [List.set_append_right _ _ (by rw [hx, Nat.add_mul]; omega), hx, show (k + 1) * n + j - n = k * n + j by rw [Nat.add_mul]; omega,
      flatten_set (fun y hy => h y (List.mem_cons_of_mem _ hy)) (by simpa using hk) hj u]

section
variable {α : Type} [Flat α] {T : TypeId} {base : Nat} {w w' : World} {xs : List α} {g n c : Nat}
theorem own.setCell (h : own T base w (.slice (some ⟨g, 0, none⟩) n c) xs) {k j : Nat} (hk : k < xs.length) (hj : j < El.size α) (u : Value) (y : α)
    (he : ∀ ecs, El.el w w.heap.size xs[k] ecs → El.el w w.heap.size y (ecs.set j u)) :
    own T base (w.setCell ⟨g, k * El.size α + j, none⟩ u) (.slice (some ⟨g, 0, none⟩) n c) (xs.set k y) := by
  obtain ⟨css, ⟨h1, h2⟩, h3, h4⟩ := h
  have hcs : ∀ x ∈ css, x.length = El.size α := fun x hx => by
    obtain ⟨i, hi, rfl⟩ := List.getElem_of_mem hx
    exact El.len (h4 i (by omega) hi)
  refine ⟨css.set k ((css[k]'(by omega)).set j u), ⟨?_, .inr ?_⟩, by simp [h3], fun i hi hi' => ?_⟩
  · rw [← flatten_set hcs (by omega) hj u, List.length_set, List.length_set]
    exact h1
  · rcases h2 with ⟨h2, _⟩ | ⟨g', cap, cur, hv, hg, hh, hc, hm, hs, ht⟩
    · injection h2 with h2
      cases h2
    · injection hv with e1 e2 e3
      injection e1 with e1
      injection e1 with e1
      subst e1 e2 e3
      have hkn : k * El.size α + El.size α ≤ xs.length * El.size α := by
        rw [← Nat.succ_mul]
        exact Nat.mul_le_mul_right _ (by omega)
      refine ⟨g, c, cur.setIfInBounds (k * El.size α + j) u, by simp, hg, by simp [World.setCell, Array.getElem?_modify, hh], by simpa using hc, hm, by simpa using hs, ?_⟩
      rw [← flatten_set hcs (by omega) hj u, ← ht, List.length_set, Array.toList_setIfInBounds]
      rw [List.take_set]
  · by_cases hik : i = k
    · subst hik
      simp only [List.getElem_set_self]
      exact Flat.free (he _ (h4 i (by simpa using hi) (by omega)))
    · rw [List.getElem_set_ne (by omega), List.getElem_set_ne (by omega)]
      exact Flat.free (h4 i (by simpa using hi) (by simpa using hi'))
/-- The cells of an owned row lie in its block. -/
theorem own.cellAt (h : own T base w (.slice (some ⟨g, 0, none⟩) n c) xs) {j : Nat} (hj : j < xs.length * El.size α) : ∃ u, w.cell? ⟨g, j, none⟩ = some u := by
  obtain ⟨css, ⟨h1, h2⟩, h3, h4⟩ := h
  rcases h2 with ⟨h2, _⟩ | ⟨g', cap, cur, hv, hg, hh, hc, hm, hs, ht⟩
  · injection h2 with h2
    cases h2
  · injection hv with e1 e2 e3
    injection e1 with e1
    injection e1 with e1
    subst e1
    have hle : xs.length * El.size α ≤ cap * El.size α := Nat.mul_le_mul_right _ hc
    exact ⟨cur[j]'(by omega), by rw [cell_of_row _ _ _ _ _ _ hh]; exact Array.getElem?_eq_getElem _⟩
theorem own.freeAt (h : own T base w (.slice (some ⟨g, 0, none⟩) n c) xs) (j : Nat) : w.frozen? ⟨g, j, none⟩ = false := by
  obtain ⟨css, ⟨h1, h2⟩, h3, h4⟩ := h
  rcases h2 with ⟨h2, _⟩ | ⟨g', cap, cur, hv, hg, hh, hc, hm, hs, ht⟩
  · injection h2 with h2
    cases h2
  · injection hv with e1 e2 e3
    injection e1 with e1
    injection e1 with e1
    subst e1
    simp [World.frozen?, hh]
end

/-! 'Only the row, and what is new, has turned.' -/
theorem grown_drewN {a w : World} {row : Option Nat} (h : a.grownBy w row) (n : Nat) : a.grownBy (w.drewN n) row := ⟨h.os, h.tape, h.output, h.size, h.block⟩
theorem grown_below {a w w' : World} {row : Option Nat} (h : a.grownBy w row) (hb : Below w.heap.size w w') : a.grownBy w' row :=
  ⟨hb.os.trans h.os, hb.tape.trans h.tape, hb.output.trans h.output, Nat.le_trans h.size hb.size, fun i hi hne => (hb.block i (Nat.lt_of_lt_of_le hi h.size)).trans (h.block i hi hne)⟩
theorem grown_setCell {a w : World} {g : Nat} (h : a.grownBy w (some g)) {p : Addr} (hp : p.block = g ∨ a.heap.size ≤ p.block) (u : Value) : a.grownBy (w.setCell p u) (some g) :=
  ⟨h.os, h.tape, h.output, by simpa [World.setCell] using h.size, fun i hi hne => (Below.heap_setCell w p u i (by
    rintro rfl
    rcases hp with hp | hp
    · exact hne (by rw [hp])
    · omega)).trans (h.block i hi hne)⟩
theorem below_of_grown {a w : World} {row : Option Nat} {B : Nat} (h : a.grownBy w row) (hB : B ≤ a.heap.size) (hr : ∀ k, row = some k → B ≤ k) : Below B a w :=
  (Below.refl B a).grown h hB hr

/-- 'out := []T{}' -/
theorem own.made0 {α : Type} [El α] (w : World) (T : TypeId) {base : Nat} (hb : base ≤ w.heap.size) : own T base (w.alloc (.cells #[] T)) (.slice (some ⟨w.heap.size, 0, none⟩) 0 0) ([] : List α) :=
  ⟨[], World.ownsRow_made w #[] 0 hb (Nat.zero_le _) (by simp), rfl, fun k h => absurd h (Nat.not_lt_zero k)⟩
/-- The cells of a block just made, as a list. -/
theorem news_at (w : World) (T : TypeId) (cs : List Value) : ∀ j u, cs[j]? = some u → (w.alloc (.cells cs.toArray T)).cell? ((⟨w.heap.size, 0, none⟩ : Addr).add j) = some u := fun j u hu => by
  rw [add_lit, Nat.zero_add, cell_new]
  simpa using hu
theorem below_append {base : Nat} {w w' : World} {v : Value} {α : Type} [El α] {T : TypeId} {xs : List α} (h : own T base w v xs) (hg : w.grownBy w' v.ownBlock) (hb : base ≤ w.heap.size) : Below base w w' :=
  below_of_grown hg hb fun k hk => (h.blk k hk).1

/-- Two rows in two blocks. -/
def apart (v v' : Value) : Prop := v.ownBlock = none ∨ v.ownBlock ≠ v'.ownBlock
theorem apart_lt {α β : Type} [El α] [El β] {T T' : TypeId} {b b' : Nat} {w w' : World} {v v' : Value} {xs : List α} {ys : List β} (h : own T b w v xs) (h' : own T' b' w' v' ys) (hle : w.heap.size ≤ b') : apart v v' := by
  unfold apart
  cases hv : v.ownBlock with
  | none => exact .inl rfl
  | some k =>
    refine .inr fun e => ?_
    have h1 := (h.blk k hv).2
    have h2 := (h'.blk k e.symm).1
    omega
theorem apart_gt {α β : Type} [El α] [El β] {T T' : TypeId} {b b' : Nat} {w w' : World} {v v' : Value} {xs : List α} {ys : List β} (h : own T b w v xs) (h' : own T' b' w' v' ys) (hle : w'.heap.size ≤ b) : apart v v' := by
  unfold apart
  cases hv : v.ownBlock with
  | none => exact .inl rfl
  | some k =>
    refine .inr fun e => ?_
    have h1 := (h.blk k hv).1
    have h2 := (h'.blk k e.symm).2
    omega
theorem below_mark {α : Type} [El α] {T : TypeId} {b : Nat} {w0 w w' : World} {v : Value} {xs : List α} (h : own T b w v xs) (hg : w.grownBy w' v.ownBlock) (hb : w0.heap.size ≤ b) (hw : Below w0.heap.size w0 w) : Below w0.heap.size w0 w' :=
  hw.grown hg hw.size fun k hk => Nat.le_trans hb (h.blk k hk).1

end Go.Proofs.Ytiaepapdofcnjaa
