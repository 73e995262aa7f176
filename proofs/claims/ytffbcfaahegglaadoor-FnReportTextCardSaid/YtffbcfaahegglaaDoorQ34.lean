/- DU -/
import Derived.Test.YtffbcfaahegglaaDoorQ33
import Derived.Test.YtffbcfaahegglaaDoorQ13
import Derived.Test.YtffbcfaahegglaaDoorQ6
import Derived.Test.YtffbcfaahegglaaDoorQ11
import Derived.Lib.MinMax
namespace Go.Proofs.YtffbcfaahegglaaDoor
open Go.RowKit

theorem ixI_range (ms : List Mis) (c : Int) : -1 ≤ ixI ms c ∧ ixI ms c < ms.length := by
  unfold ixI
  split
  · omega
  · omega

theorem kept2.alloc0 {g : Nat} {u w : World} (h : kept2 g u.heap.size u w) (o : Obj) : kept2 g u.heap.size u (w.alloc o) := h.trans (kept2.below ((Below.refl _ _).alloc h.size o))

theorem cells2 {W : World} {h T : Nat} {a b : Value} (hb : W.heap[h]? = some (.cells #[a, b] T (0, 0))) :
    W.cell? ⟨h, 0, none⟩ = some a ∧ W.cell? ⟨h, 1, none⟩ = some b ∧ W.frozen? ⟨h, 0, none⟩ = false ∧ W.frozen? ⟨h, 1, none⟩ = false :=
  ⟨by rw [cell_of_row _ _ _ _ _ _ hb]; rfl, by rw [cell_of_row _ _ _ _ _ _ hb]; rfl, by simp [World.frozen?, hb], by simp [World.frozen?, hb]⟩

theorem two_set {w : World} {g : Nat} {T : TypeId} {u0 u1 a b : Value} (h : w.heap[g]? = some (.cells #[u0, u1] T (0, 0))) :
    ((w.setCell ⟨g, 0, none⟩ a).setCell ⟨g, 1, none⟩ b).heap[g]? = some (.cells #[a, b] T (0, 0)) :=
  heap_setCell_same _ _ _ _ _ _ (heap_setCell_same _ _ _ _ _ _ h)
theorem own_mis {T base g n c : Nat} {w : World} {xs : List Mis} (h : own T base w (.slice (some ⟨g, 0, none⟩) n c) xs) (k : Nat) (hk : k < xs.length) :
    (xs[k]).ok ∧ w.cell? ⟨g, k * 2, none⟩ = some (.int .i64 xs[k].id) ∧ w.cell? ⟨g, k * 2 + 1, none⟩ = some (.int .i64 xs[k].bin) := by
  obtain ⟨A, n', c', hv, _, _, _, hrd⟩ := h.rd
  obtain ⟨b, o, hA, _, hok, c1, c2⟩ := hrd.mis k hk
  injection hv with e1 _ _
  subst e1
  injection hA with hA
  injection hA with hA1 hA2
  subst hA1 hA2
  rw [Nat.zero_add] at c1 c2
  exact ⟨hok, c1, c2⟩

end Go.Proofs.YtffbcfaahegglaaDoor
