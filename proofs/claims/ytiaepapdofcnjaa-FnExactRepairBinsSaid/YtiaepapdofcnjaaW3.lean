/- General words: facts that hold in every later world; boxes. -/
import Derived.Test.YtiaepapdofcnjaaW1
import Derived.Test.YtiaepapdofcnjaaD0
import Derived.Test.YtiaepapdofcnjaaL1
import Derived.Deep.RegionHeld3
import Derived.StillTailTactics
import Derived.Handy
namespace Go.Proofs.Ytiaepapdofcnjaa
open Go.RowKit

theorem later_trans {a b c : World} (h : Below a.heap.size a b) (k : Below b.heap.size b c) : Below a.heap.size a c := h.trans (k.mono h.size)
theorem later_alloc {a b : World} (h : Below a.heap.size a b) (o : Obj) : Below a.heap.size a (b.alloc o) := h.alloc h.size o
theorem later_drew {a b : World} (h : Below a.heap.size a b) : Below a.heap.size a b.drew := h.drew
theorem later_drewN {a b : World} (h : Below a.heap.size a b) (n : Nat) : Below a.heap.size a (b.drewN n) := below_drewN h n
theorem later_set {a b : World} (h : Below a.heap.size a b) {p : Addr} (hp : a.heap.size ≤ p.block) (u : Value) : Below a.heap.size a (b.setCell p u) := h.setCell hp u
attribute [go_sem] later_alloc later_drew later_drewN

/-- A cell that holds u in the world a and in every later one. -/
def stays (a : World) (p : Addr) (u : Value) : Prop := ∀ W, Below a.heap.size a W → W.cell? p = some u
theorem stays_of {a : World} {p : Addr} {u : Value} (h : p.block < a.heap.size) (c : a.cell? p = some u) : stays a p u := fun W hW => (hW.cell h).trans c
theorem stays.on {a b : World} {p : Addr} {u : Value} (h : stays a p u) (hb : Below a.heap.size a b) : stays b p u := fun W hW => h W (later_trans hb hW)
/-- The cells of a block just made. -/
theorem box_cells {w w0 : World} {cs : Array Value} {T : TypeId} (h : w0 = w.alloc (.cells cs T)) (i : Nat) (u : Value) (hu : cs[i]? = some u) : ∀ W, Below w0.heap.size w0 W → W.cell? ⟨w.heap.size, i, none⟩ = some u := fun W hW => by
  have h1 : w.heap.size < w0.heap.size := by subst h; simp
  rw [hW.cell (p := ⟨w.heap.size, i, none⟩) h1]
  subst h
  rw [cell_new]
  exact hu
theorem box_later {w w0 : World} {o : Obj} (h : w0 = w.alloc o) : Below w.heap.size w w0 ∧ w.heap.size < w0.heap.size := by
  subst h
  exact ⟨(Below.refl _ _).alloc (Nat.le_refl _) _, by simp⟩

theorem rdA.ltrU {w : World} {A : Option Addr} {xs : List Ltr} (h : rdA w w.heap.size A xs) (k : Nat) (hk : k < xs.length) :
    ∃ b o, A = some ⟨b, o, none⟩ ∧ b < w.heap.size ∧ (xs[k]).ok ∧ (∀ W, Below w.heap.size w W → W.cell? ⟨b, o + k * 2, none⟩ = some (.int .i64 (xs[k]).id)) ∧ (∀ W, Below w.heap.size w W → W.cell? ⟨b, o + k * 2 + 1, none⟩ = some (.string (xs[k]).code)) := by
  obtain ⟨b, o, hA, hb, hok, c1, c2⟩ := h.ltr k hk
  exact ⟨b, o, hA, hb, hok, fun W hW => (hW.cell (p := ⟨b, o + k * 2, none⟩) hb).trans c1, fun W hW => (hW.cell (p := ⟨b, o + k * 2 + 1, none⟩) hb).trans c2⟩
theorem rdA.misU {w : World} {A : Option Addr} {xs : List Mis} (h : rdA w w.heap.size A xs) (k : Nat) (hk : k < xs.length) :
    ∃ b o, A = some ⟨b, o, none⟩ ∧ b < w.heap.size ∧ (xs[k]).ok ∧ (∀ W, Below w.heap.size w W → W.cell? ⟨b, o + k * 2, none⟩ = some (.int .i64 (xs[k]).id)) ∧ (∀ W, Below w.heap.size w W → W.cell? ⟨b, o + k * 2 + 1, none⟩ = some (.int .i64 (xs[k]).bin)) := by
  obtain ⟨b, o, hA, hb, hok, c1, c2⟩ := h.mis k hk
  exact ⟨b, o, hA, hb, hok, fun W hW => (hW.cell (p := ⟨b, o + k * 2, none⟩) hb).trans c1, fun W hW => (hW.cell (p := ⟨b, o + k * 2 + 1, none⟩) hb).trans c2⟩
theorem rdA.fwdU {w : World} {A : Option Addr} {xs : List Fwd} (h : rdA w w.heap.size A xs) (k : Nat) (hk : k < xs.length) :
    ∃ b o, A = some ⟨b, o, none⟩ ∧ b < w.heap.size ∧ (xs[k]).ok ∧ (∀ W, Below w.heap.size w W → W.cell? ⟨b, o + k * 2, none⟩ = some (.string (xs[k]).src)) ∧ (∀ W, Below w.heap.size w W → W.cell? ⟨b, o + k * 2 + 1, none⟩ = some (.string (xs[k]).dst)) := by
  obtain ⟨b, o, hA, hb, hok, c1, c2⟩ := h.fwd k hk
  exact ⟨b, o, hA, hb, hok, fun W hW => (hW.cell (p := ⟨b, o + k * 2, none⟩) hb).trans c1, fun W hW => (hW.cell (p := ⟨b, o + k * 2 + 1, none⟩) hb).trans c2⟩
theorem rdA.strU {w : World} {A : Option Addr} {xs : List ByteArray} (h : rdA w w.heap.size A xs) (k : Nat) (hk : k < xs.length) :
    ∃ b o, A = some ⟨b, o, none⟩ ∧ b < w.heap.size ∧ (xs[k]).size ≤ maxLen ∧ (∀ W, Below w.heap.size w W → W.cell? ⟨b, o + k, none⟩ = some (.string xs[k])) := by
  obtain ⟨b, o, hA, hb, hok, c1⟩ := h.str k hk
  exact ⟨b, o, hA, hb, hok, fun W hW => (hW.cell (p := ⟨b, o + k, none⟩) hb).trans c1⟩
theorem rdA.intU {w : World} {A : Option Addr} {xs : List Int} (h : rdA w w.heap.size A xs) (k : Nat) (hk : k < xs.length) :
    ∃ b o, A = some ⟨b, o, none⟩ ∧ b < w.heap.size ∧ isI64 xs[k] ∧ (∀ W, Below w.heap.size w W → W.cell? ⟨b, o + k, none⟩ = some (.int .i64 xs[k])) := by
  obtain ⟨b, o, hA, hb, hok, c1⟩ := h.int k hk
  exact ⟨b, o, hA, hb, hok, fun W hW => (hW.cell (p := ⟨b, o + k, none⟩) hb).trans c1⟩

theorem openP {w : World} {B : Nat} {v : Value} {p : Pln} (h : rdP w B v p) : ∃ A c, v = .agg #[.int .i64 p.bins, .int .i64 p.passes, .slice A p.order.length c] := by
  obtain ⟨vo, rfl, _, _, A, n, c, rfl, rfl, _⟩ := h
  exact ⟨A, c, rfl⟩

/-! A block known whole. -/
theorem blk_cell {w : World} {g : Nat} {cs : Array Value} {T : TypeId} (h : w.heap[g]? = some (.cells cs T (0, 0))) (i : Nat) (u : Value) (hu : cs[i]? = some u) : w.cell? ⟨g, i, none⟩ = some u := by
  rw [cell_of_row _ _ _ _ _ _ h]; exact hu
theorem blk_free {w : World} {g : Nat} {cs : Array Value} {T : TypeId} (h : w.heap[g]? = some (.cells cs T (0, 0))) (i : Nat) : w.frozen? ⟨g, i, none⟩ = false := by
  simp [World.frozen?, h]
theorem blk_lt {w : World} {g : Nat} {o : Obj} (h : w.heap[g]? = some o) : g < w.heap.size := (Array.getElem?_eq_some_iff.1 h).1
theorem blk_below {w w' : World} {g : Nat} {o : Obj} (h : w.heap[g]? = some o) (hb : Below w.heap.size w w') : w'.heap[g]? = some o := (hb.block g (blk_lt h)).trans h
theorem blk_set {w : World} {g : Nat} {cs : Array Value} {T : TypeId} (h : w.heap[g]? = some (.cells cs T (0, 0))) (i : Nat) (u : Value) : (w.setCell ⟨g, i, none⟩ u).heap[g]? = some (.cells (cs.setIfInBounds i u) T (0, 0)) := by
  simp [World.setCell, Array.getElem?_modify, h]
theorem blk_other {w : World} {g : Nat} {o : Obj} (h : w.heap[g]? = some o) (p : Addr) (hp : p.block ≠ g) (u : Value) : (w.setCell p u).heap[g]? = some o := by
  rw [Below.heap_setCell _ _ _ _ (fun e => hp e.symm)]; exact h
/-- A store elsewhere leaves a row alone. -/
theorem own_out {α : Type} [Flat α] {T : TypeId} {base : Nat} {w : World} {v : Value} {xs : List α} (h : own T base w v xs) (p : Addr) (u : Value) (hp : p.block < base) : own T base (w.setCell p u) v xs :=
  h.grown (grown_setCell (World.grownBy.refl w (some p.block)) (.inl rfl) u) (by
    cases hv : v.ownBlock with
    | none => exact .inl rfl
    | some k =>
      refine .inr fun e => ?_
      have := (h.blk k hv).1
      injection e
      omega)

end Go.Proofs.Ytiaepapdofcnjaa
