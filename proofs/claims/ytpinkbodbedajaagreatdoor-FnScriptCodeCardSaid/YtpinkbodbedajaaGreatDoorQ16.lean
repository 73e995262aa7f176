/- UD UR UR2 -/
import Derived.Test.YtpinkbodbedajaaGreatDoorQ12
import Derived.Test.YtpinkbodbedajaaGreatDoorQ15
import Derived.Test.YtpinkbodbedajaaGreatDoorQ2
import Derived.Test.YtpinkbodbedajaaGreatDoorQ6
import Derived.Test.YtpinkbodbedajaaGreatDoorQ14
import Derived.Test.YtpinkbodbedajaaGreatDoorQ9
namespace Go.Proofs.YtpinkbodbedajaaGreatDoor
open Go.RowKit

def sumFw (fs : List Fwd) : Nat := (fs.map fun x => x.src.size + x.dst.size).sum
theorem sumFw_succ (xs : List Fwd) (k : Nat) (h : k < xs.length) : sumFw (xs.take (k + 1)) = sumFw (xs.take k) + (xs[k].src.size + xs[k].dst.size) := by
  unfold sumFw; rw [List.take_succ_eq_append_getElem h, List.map_append, List.sum_append]; simp
theorem sumFw_le (xs : List Fwd) (k : Nat) : sumFw (xs.take k) ≤ sumFw xs := by
  unfold sumFw
  conv => rhs; rw [← List.take_append_drop k xs, List.map_append, List.sum_append]
  omega


def szD (d : Dy) : Nat := szP d.plan + (d.fwds.length + sumFw d.fwds) + (d.held.length + sumStr d.held)




end Go.Proofs.YtpinkbodbedajaaGreatDoor

namespace Go.Proofs.YtpinkbodbedajaaGreatDoor
open Go.RowKit


def rptN (r : Rpt) : Nat := 2 * r.round.length + 2 * r.strange.length + 2 * r.held.length + 2 * r.stuck.length
def marksR (k : Nat) (r : Rpt) : Rpt :=
  ⟨marksL k r.round.length, marksL (k + 2 * r.round.length) r.strange.length, marksL (k + 2 * r.round.length + 2 * r.strange.length) r.held.length, marksL (k + 2 * r.round.length + 2 * r.strange.length + 2 * r.held.length) r.stuck.length⟩
def rpt60 (r : Rpt) : Prop := r.round.length ≤ 60 ∧ r.strange.length ≤ 60 ∧ r.held.length ≤ 60 ∧ r.stuck.length ≤ 60
theorem seg.grown {α : Type} [Flat α] {T lo hi : Nat} {w w' : World} {v : Value} {xs : List α} {row : Option Nat} (h : seg T lo hi w v xs) (hg : w.grownBy w' row) (hv : v.ownBlock = none ∨ v.ownBlock ≠ row) : seg T lo hi w' v xs := ⟨h.1.grown hg hv, h.2⟩


/-! ### Marks of a day -/
def segD (T1 T2 lo hi : Nat) (w : World) (v : Value) (d : Dy) : Prop :=
  ∃ vo vf vh, v = .agg #[.int .i64 d.plan.bins, .int .i64 d.plan.passes, vo, vf, vh, .int .i64 d.size] ∧ isI64 d.plan.bins ∧ isI64 d.plan.passes ∧ isI64 d.size ∧ seg T1 lo hi w vo d.plan.order ∧ seg T2 lo hi w vf d.fwds ∧ seg T1 lo hi w vh d.held ∧ (apart vo vf ∧ apart vo vh ∧ apart vf vh)
theorem segD.of {T1 T2 lo : Nat} {w : World} {v : Value} {d : Dy} (h : ownD T1 T2 lo w v d) : segD T1 T2 lo w.heap.size w v d := by
  obtain ⟨vo, vf, vh, h1, h2, h3, h4, h5, h6, h7, h8⟩ := h
  exact ⟨vo, vf, vh, h1, h2, h3, h4, seg.of h5, seg.of h6, seg.of h7, h8⟩
theorem segD.below {T1 T2 lo hi : Nat} {w w' : World} {v : Value} {d : Dy} (h : segD T1 T2 lo hi w v d) (hb : Below w.heap.size w w') : segD T1 T2 lo hi w' v d := by
  obtain ⟨vo, vf, vh, h1, h2, h3, h4, h5, h6, h7, h8⟩ := h
  exact ⟨vo, vf, vh, h1, h2, h3, h4, h5.below hb, h6.below hb, h7.below hb, h8⟩
theorem segD.out {T1 T2 lo hi a b : Nat} {w w' : World} {v : Value} {d : Dy} (h : segD T1 T2 lo hi w v d) (ho : OutI a b w w') (hd : hi ≤ a ∨ b ≤ lo) : segD T1 T2 lo hi w' v d := by
  obtain ⟨vo, vf, vh, h1, h2, h3, h4, h5, h6, h7, h8⟩ := h
  exact ⟨vo, vf, vh, h1, h2, h3, h4, h5.out ho hd, h6.out ho hd, h7.out ho hd, h8⟩
theorem segD.rd {T1 T2 lo hi : Nat} {w : World} {v : Value} {d : Dy} (h : segD T1 T2 lo hi w v d) : rdD w w.heap.size v d := by
  obtain ⟨vo, vf, vh, h1, h2, h3, h4, h5, h6, h7, h8⟩ := h
  exact ⟨vo, vf, vh, h1, h2, h3, h4, h5.rd, h6.rd, h7.rd⟩
def mkD (d : Dy) : Nat := d.plan.order.length + 2 * d.fwds.length + d.held.length
theorem mkD_le (d : Dy) : mkD d ≤ 2 * szD d := by unfold mkD szD szP; omega


end Go.Proofs.YtpinkbodbedajaaGreatDoor

namespace Go.Proofs.YtpinkbodbedajaaGreatDoor
open Go.RowKit
theorem impl_RunDay' (v vb : Value) (d : Dy) (xs : List Ltr) (w : World) (hv : rdD w w.heap.size v d) (hb : rd w w.heap.size vb xs) :
    Calls Tryz.prog 8 #[v, vb] w fun e w' => ∃ vR, e = .returned (.tuple #[vR, .bool (rdOk d xs)]) ∧ ownR 89 w.heap.size w' vR (rptOf d xs) ∧ Below w.heap.size w w' := impl_RunDay v vb d xs w hv hb
theorem spec_RunDay' (v vb : Value) (d : Dy) (xs : List Ltr) (w : World) (hv : rdD w w.heap.size v d) (hb : rd w w.heap.size vb xs) :
    Calls Tryz.prog 9 #[v, vb] w fun e w' => ∃ vR, e = .returned (.tuple #[vR, .bool (rdOk d xs)]) ∧ ownR 89 w.heap.size w' vR (rptOf d xs) ∧ Below w.heap.size w w' := spec_RunDay v vb d xs w hv hb

end Go.Proofs.YtpinkbodbedajaaGreatDoor
