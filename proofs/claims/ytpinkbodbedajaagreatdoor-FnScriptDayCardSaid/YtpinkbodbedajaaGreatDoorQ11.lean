/- W4 -/
import Derived.Test.YtpinkbodbedajaaGreatDoorQ2
import Derived.Test.YtpinkbodbedajaaGreatDoorQ8
namespace Go.Proofs.YtpinkbodbedajaaGreatDoor
open Go.RowKit

section
variable {P : Program} {fn : Func} {R : Ending → World → Prop} {a : Act} {w : World} {p u v r : Tmp} {ty : TypeId} {g : Nat} {t : TypeId} {cs : Array Value} {d : TypeDesc}
theorem load_box (hg : w.heap[g]? = some (.cells cs t (0, 0))) (hu : P.underlying ty = some d) (hd : (match d with | .struct _ | .array _ _ => true | _ => false) = true) (hi : (P.info? ty).map (·.size) = some cs.size) :
    (loadVar ty ⟨g, 0, none⟩).run P w = .ok (.agg cs) w := run_loadVar_row w g t ty cs (0, 0) d hg hu hd hi
theorem out_box1 (h : fn.results = #[.cell p ty, .tmp u]) (hp : a.tmps.getD p undef = .pointer (some ⟨g, 0, none⟩)) (hg : w.heap[g]? = some (.cells cs t (0, 0)))
    (hu : P.underlying ty = some d) (hd : (match d with | .struct _ | .array _ _ => true | _ => false) = true) (hi : (P.info? ty).map (·.size) = some cs.size) (hf : a.defers = [])
    (hR : R (.returned (.tuple #[.agg cs, a.tmps.getD u undef])) w) : bodyPost P fn R .ret a w := by
  refine bodyPost_ret ?_ hf hR
  have hp' : a.tmps[p]?.getD undef = .pointer (some ⟨g, 0, none⟩) := by simpa using hp
  simp [results, h, hp', asAddr, load_box hg hu hd hi, Sem.run_bind, Result.andThen]
end

theorem four_set {w : World} {g : Nat} {T : TypeId} {u0 u1 u2 u3 a b c d : Value} (h : w.heap[g]? = some (.cells #[u0, u1, u2, u3] T (0, 0))) :
    ((((w.setCell ⟨g, 0, none⟩ a).setCell ⟨g, 1, none⟩ b).setCell ⟨g, 2, none⟩ c).setCell ⟨g, 3, none⟩ d).heap[g]? = some (.cells #[a, b, c, d] T (0, 0)) :=
  heap_setCell_same _ _ _ _ _ _ (heap_setCell_same _ _ _ _ _ _ (heap_setCell_same _ _ _ _ _ _ (heap_setCell_same _ _ _ _ _ _ h)))
/-- A box of four cells. -/
structure box4 (g : Nat) (a b c d : Value) (w : World) : Prop where
  lt : g < w.heap.size
  c0 : w.cell? ⟨g, 0, none⟩ = some a
  c1 : w.cell? ⟨g, 1, none⟩ = some b
  c2 : w.cell? ⟨g, 2, none⟩ = some c
  c3 : w.cell? ⟨g, 3, none⟩ = some d
theorem box4.of {w u : World} {a b c d : Value} {T : TypeId} (h : u = w.alloc (Obj.cells #[a, b, c, d] T)) : box4 w.heap.size a b c d u :=
  ⟨(box_later h).2, box_cells h 0 a rfl u (Below.refl _ _), box_cells h 1 b rfl u (Below.refl _ _), box_cells h 2 c rfl u (Below.refl _ _), box_cells h 3 d rfl u (Below.refl _ _)⟩
theorem box4.below {g : Nat} {a b c d : Value} {w w' : World} (h : box4 g a b c d w) (hb : Below w.heap.size w w') : box4 g a b c d w' :=
  ⟨Nat.lt_of_lt_of_le h.lt hb.size, (hb.cell (p := ⟨g, 0, none⟩) h.lt).trans h.c0, (hb.cell (p := ⟨g, 1, none⟩) h.lt).trans h.c1, (hb.cell (p := ⟨g, 2, none⟩) h.lt).trans h.c2, (hb.cell (p := ⟨g, 3, none⟩) h.lt).trans h.c3⟩
theorem OutI.cell {lo hi g i : Nat} {w w' : World} (h : OutI lo hi w w') (hg : g < w.heap.size) (hd : g < lo ∨ hi ≤ g) : w'.cell? ⟨g, i, none⟩ = w.cell? ⟨g, i, none⟩ := by
  unfold World.cell?
  simp only [h.block g hg hd]
theorem box4.out {g lo hi : Nat} {a b c d : Value} {w w' : World} (h : box4 g a b c d w) (ho : OutI lo hi w w') (hd : g < lo ∨ hi ≤ g) : box4 g a b c d w' :=
  ⟨Nat.lt_of_lt_of_le h.lt ho.size, (ho.cell h.lt hd).trans h.c0, (ho.cell h.lt hd).trans h.c1, (ho.cell h.lt hd).trans h.c2, (ho.cell h.lt hd).trans h.c3⟩
theorem box4.grown {g : Nat} {a b c d : Value} {w w' : World} {row : Option Nat} (h : box4 g a b c d w) (hg : w.grownBy w' row) (hne : some g ≠ row) : box4 g a b c d w' :=
  ⟨Nat.lt_of_lt_of_le h.lt hg.size, (hg.cell_far ⟨g, 0, none⟩ h.lt hne).trans h.c0, (hg.cell_far ⟨g, 1, none⟩ h.lt hne).trans h.c1, (hg.cell_far ⟨g, 2, none⟩ h.lt hne).trans h.c2, (hg.cell_far ⟨g, 3, none⟩ h.lt hne).trans h.c3⟩

end Go.Proofs.YtpinkbodbedajaaGreatDoor
