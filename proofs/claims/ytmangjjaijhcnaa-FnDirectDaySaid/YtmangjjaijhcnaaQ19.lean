/- DU -/
import Derived.Test.YtmangjjaijhcnaaQ18
import Derived.Test.YtmangjjaijhcnaaQ8
import Derived.Test.YtmangjjaijhcnaaQ5
import Derived.Test.YtmangjjaijhcnaaQ6
import Derived.Lib.MinMax
namespace Go.Proofs.Ytmangjjaijhcnaa
open Go.RowKit

theorem ixI_range (ms : List Mis) (c : Int) : -1 ≤ ixI ms c ∧ ixI ms c < ms.length := by
  unfold ixI
  split
  · omega
  · omega

theorem kept2.alloc0 {g : Nat} {u w : World} (h : kept2 g u.heap.size u w) (o : Obj) : kept2 g u.heap.size u (w.alloc o) := h.trans (kept2.below ((Below.refl _ _).alloc h.size o))

theorem cells2 {W : World} {h T : Nat} {a b : Value} (hb : W.heap[h]? = some (.cells #[a, b] T (0, 0))) :
    W.cell? ⟨h, 0, none⟩ = some a ∧ W.cell? ⟨h, 1, none⟩ = some b ∧ W.frozen? ⟨h, 0, none⟩ = false ∧ W.frozen? ⟨h, 1, none⟩ = false :=
  ⟨by rw [cell_of_row _ _ _ _ _ _ hb]; rfl, by rw [cell_of_row _ _ _ _ _ _ hb]; rfl, by simp [World.frozen?, hb], by simp [World.frozen?, hb]⟩

/-- Behind the drawing of a missort: it lies in a block B of its own. -/
structure mid7 (g q b : Nat) (w0 : World) (v : Value) (ms : List Mis) (i z : Int) (B : Nat) (W : World) : Prop where
  hB : w0.heap.size ≤ B
  hrow : W.heap[B]? = some (.cells #[.int .i64 i, .int .i64 z] 193 (0, 0))
  hr : rdr W g q
  hk : kept2 g w0.heap.size w0 W
  ho : own 193 b W v ms
theorem mid7_new {g q b : Nat} {w0 w6 : World} {v : Value} {ms : List Mis} {i z : Int} (hr : rdr w6 g q) (hk : kept2 g w0.heap.size w0 w6) (ho : own 193 b w6 v ms) :
    mid7 g q b w0 v ms i z w6.heap.size (w6.alloc (Obj.cells #[.int .i64 i, .int .i64 z] 193)) :=
  ⟨hk.size, heap_alloc_new _ _, hr.alloc _, hk.alloc0 _, ho.alloc _⟩
theorem two_set {w : World} {g : Nat} {T : TypeId} {u0 u1 a b : Value} (h : w.heap[g]? = some (.cells #[u0, u1] T (0, 0))) :
    ((w.setCell ⟨g, 0, none⟩ a).setCell ⟨g, 1, none⟩ b).heap[g]? = some (.cells #[a, b] T (0, 0)) :=
  heap_setCell_same _ _ _ _ _ _ (heap_setCell_same _ _ _ _ _ _ h)
theorem mid7_old {g q b B : Nat} {w0 w6 w2 : World} {v : Value} {ms : List Mis} {i z : Int} {u0 u1 : Value} (hr : rdr w6 g q) (hg : g < w0.heap.size) (hk : kept2 g w0.heap.size w0 w6) (ho : own 193 b w6 v ms) (h2 : own 193 b w2 v ms) (hB2 : w2.heap.size ≤ B) (hB : w0.heap.size ≤ B) (h6 : w6.heap[B]? = some (.cells #[u0, u1] 193 (0, 0))) :
    mid7 g q b w0 v ms i z B ((w6.setCell ⟨B, 0, none⟩ (.int .i64 i)).setCell ⟨B, 1, none⟩ (.int .i64 z)) := by
  have HG := grown_setCell (p := ⟨B, 1, none⟩) (grown_setCell (p := ⟨B, 0, none⟩) (World.grownBy.refl w6 (some B)) (.inl rfl) (.int .i64 i)) (.inl rfl) (.int .i64 z)
  refine ⟨hB, two_set h6, hr.grown HG (by omega), (hk.set ⟨B, 0, none⟩ hB _).set ⟨B, 1, none⟩ hB _, ho.grown HG ?_⟩
  cases hb : v.ownBlock with
  | none => exact .inl rfl
  | some k => exact .inr fun e => by have := (h2.blk k hb).2; injection e; omega

theorem own_mis {T base g n c : Nat} {w : World} {xs : List Mis} (h : own T base w (.slice (some ⟨g, 0, none⟩) n c) xs) (k : Nat) (hk : k < xs.length) :
    (xs[k]).ok ∧ w.cell? ⟨g, k * 2, none⟩ = some (.int .i64 xs[k].id) ∧ w.cell? ⟨g, k * 2 + 1, none⟩ = some (.int .i64 xs[k].bin) := by
  obtain ⟨A, n', c', hv, _, _, _, hrd⟩ := h.rd
  obtain ⟨b, o, hA, _, hok, c1, c2⟩ := hrd.mis k hk
  injection hv with e1 _ _
  subst e1
  injection hA with hA
  injection hA with hA1 hA2
  subst hA1 hA2
  rw [Nat.zero_add] at c1 c2
  exact ⟨hok, c1, c2⟩

/-- Behind an append to a row of one's own. -/
theorem appended {g q : Nat} {w0 W w4 : World} {v : Value} {ms : List Mis} {o : Obj} (hr : rdr W g q) (k : kept2 g w0.heap.size w0 W) (ho : own 193 w0.heap.size (W.alloc o) v ms) (hg : (W.alloc o).grownBy w4 v.ownBlock) (hlt : g < w0.heap.size) :
    rdr w4 g q ∧ kept2 g w0.heap.size w0 w4 :=
  ⟨(hr.alloc o).append ho hg hlt, k.trans (kept2.below (((Below.refl _ _).alloc k.size _).trans (below_append ho hg (by simp; have := k.size; omega))))⟩


end Go.Proofs.Ytmangjjaijhcnaa
