/- YL R2 -/
import Derived.Test.YtffbcfaahegglaaGreatDoorQ31
import Derived.Test.YtffbcfaahegglaaGreatDoorQ26
import Derived.Test.YtffbcfaahegglaaGreatDoorQ22
import Derived.Test.YtffbcfaahegglaaGreatDoorQ4
namespace Go.Proofs.YtffbcfaahegglaaGreatDoor
open Go.RowKit

/-- Drawn: a report. -/
def drawRPost (w : World) (e : Ending) (w' : World) : Prop :=
  ∃ (v : Value) (r : Rpt), e = .returned v ∧ rdR w' w'.heap.size v r ∧ rptLe r 200 ∧ Below w.heap.size w w'
theorem four_setR {w : World} {g : Nat} {T : TypeId} {u0 u1 u2 u3 a b c d : Value} (h : w.heap[g]? = some (.cells #[u0, u1, u2, u3] T (0, 0))) :
    ((((w.setCell ⟨g, 0, none⟩ a).setCell ⟨g, 1, none⟩ b).setCell ⟨g, 2, none⟩ c).setCell ⟨g, 3, none⟩ d).heap[g]? = some (.cells #[a, b, c, d] T (0, 0)) :=
  heap_setCell_same _ _ _ _ _ _ (heap_setCell_same _ _ _ _ _ _ (heap_setCell_same _ _ _ _ _ _ (heap_setCell_same _ _ _ _ _ _ h)))
theorem four_grownR (W : World) (h : Nat) (a b c d : Value) :
    W.grownBy ((((W.setCell ⟨h, 0, none⟩ a).setCell ⟨h, 1, none⟩ b).setCell ⟨h, 2, none⟩ c).setCell ⟨h, 3, none⟩ d) (some h) :=
  grown_setCell (p := ⟨h, 3, none⟩) (grown_setCell (p := ⟨h, 2, none⟩) (grown_setCell (p := ⟨h, 1, none⟩) (grown_setCell (p := ⟨h, 0, none⟩) (World.grownBy.refl W (some h)) (.inl rfl) a) (.inl rfl) b) (.inl rfl) c) (.inl rfl) d
theorem cells4R {W : World} {h T : Nat} {a b c d : Value} (hb : W.heap[h]? = some (.cells #[a, b, c, d] T (0, 0))) :
    W.cell? ⟨h, 0, none⟩ = some a ∧ W.cell? ⟨h, 1, none⟩ = some b ∧ W.cell? ⟨h, 2, none⟩ = some c ∧ W.cell? ⟨h, 3, none⟩ = some d :=
  ⟨by rw [cell_of_row _ _ _ _ _ _ hb]; rfl, by rw [cell_of_row _ _ _ _ _ _ hb]; rfl, by rw [cell_of_row _ _ _ _ _ _ hb]; rfl, by rw [cell_of_row _ _ _ _ _ _ hb]; rfl⟩
theorem drawRPost_of {T h B : _} {w W : World} {v0 v1 v2 v3 : Value} {r : Rpt} (hh : w.heap.size ≤ h) (hbase : h < B) (h0 : own T B W v0 r.round) (h1 : own T B W v1 r.strange) (h2 : own T B W v2 r.held) (h3 : own T B W v3 r.stuck)
    (hl : rptLe r 200) (hG : Below w.heap.size w W) :
    drawRPost w (.returned (.agg #[v0, v1, v2, v3])) ((((W.setCell ⟨h, 0, none⟩ v0).setCell ⟨h, 1, none⟩ v1).setCell ⟨h, 2, none⟩ v2).setCell ⟨h, 3, none⟩ v3) := by
  have HG := four_grownR W h v0 v1 v2 v3
  have HS := (((hG.setCell (p := ⟨h, 0, none⟩) hh v0).setCell (p := ⟨h, 1, none⟩) hh v1).setCell (p := ⟨h, 2, none⟩) hh v2).setCell (p := ⟨h, 3, none⟩) hh v3
  exact ⟨_, r, rfl, ⟨_, _, _, _, rfl, (h0.grown HG (own_ne h0 hbase)).rd, (h1.grown HG (own_ne h1 hbase)).rd, (h2.grown HG (own_ne h2 hbase)).rd, (h3.grown HG (own_ne h3 hbase)).rd⟩, hl, HS⟩

end Go.Proofs.YtffbcfaahegglaaGreatDoor

namespace Go.Proofs.YtffbcfaahegglaaGreatDoor
open Go.ChangeShapes Go.WideShapes Go.ChangeAt Go.RowKit

theorem opensByte : Opens Tryz.prog 5 UInt8 := by
  intro H enc w spare held fuel cs x h
  obtain ⟨n, rfl, _, wf⟩ := DataW.trod_int Tryz.underlying5 h
  simp [Lit.wf, IntKind.min, IntKind.max, IntKind.signed, IntKind.bits] at wf
  refine ⟨UInt8.ofNat n.toNat, ?_⟩
  show [Value.int .u8 n] = [Value.int .u8 ((UInt8.ofNat n.toNat).toNat : Int)]
  rw [UInt8.toNat_ofNat_of_lt' (by show n.toNat < 256; omega)]
  congr 2
  omega

end Go.Proofs.YtffbcfaahegglaaGreatDoor
