/- MK MK2 UR UR2 -/
import Derived.Test.YtffbcfaahegglaaDoorQ15
import Derived.Test.YtffbcfaahegglaaDoorQ4
import Derived.Test.YtffbcfaahegglaaDoorQ10
namespace Go.Proofs.YtffbcfaahegglaaDoor
open Go.RowKit

def marksLL (k0 : Nat) (xss : List (List Ltr)) : List (List Ltr) := (List.range xss.length).map fun i => marksL (k0 + 2 * (xss.take i).flatten.length) (xss.getD i []).length
theorem marksLL_len (k0 : Nat) (xss : List (List Ltr)) : (marksLL k0 xss).length = xss.length := by simp [marksLL]
theorem marksLL_get (k0 : Nat) (xss : List (List Ltr)) (i : Nat) (h : i < (marksLL k0 xss).length) : (marksLL k0 xss)[i] = marksL (k0 + 2 * (xss.take i).flatten.length) (xss[i]'(by rw [marksLL_len] at h; exact h)).length := by
  have h' : i < xss.length := by rw [marksLL_len] at h; exact h
  simp [marksLL, h']
/-- A row of rows and a row beside it, of the call's own, in blocks before hi. -/
def seg2 (T1 T2 lo hi : Nat) (w : World) (vB vO : Value) (xss : List (List Ltr)) (ys : List Ltr) : Prop :=
  ∃ vs, isLL T1 T2 lo w vB xss vs ∧ own T2 lo w vO ys ∧ farLL vO vB vs ∧ (∀ k, vB.ownBlock = some k → k < hi) ∧ (∀ i (h : i < vs.length) k, vs[i].ownBlock = some k → k < hi) ∧ ∀ k, vO.ownBlock = some k → k < hi
section
variable {T1 T2 lo hi : Nat} {w w' : World} {vB vO : Value} {xss : List (List Ltr)} {ys : List Ltr}
theorem seg2.of {vs : List Value} (h : isLL T1 T2 lo w vB xss vs) (ho : own T2 lo w vO ys) (hf : farLL vO vB vs) : seg2 T1 T2 lo w.heap.size w vB vO xss ys :=
  ⟨vs, h, ho, hf, fun k hk => (h.1.blk k hk).2, fun i hi k hk => ((h.2.2.1 i hi (by have := h.2.1; omega)).blk k hk).2, fun k hk => (ho.blk k hk).2⟩
theorem seg2.alone (h : ownLL T1 T2 lo w vB xss) : seg2 T1 T2 lo w.heap.size w vB (.slice none 0 0) xss [] := by
  obtain ⟨vs, h⟩ := h
  exact seg2.of h (own.nil_ _ _ _) ⟨.inl rfl, fun k hk => .inl rfl⟩
theorem seg2.below (h : seg2 T1 T2 lo hi w vB vO xss ys) (hb : Below w.heap.size w w') : seg2 T1 T2 lo hi w' vB vO xss ys := by
  obtain ⟨vs, h1, h2, h3, h4, h5, h6⟩ := h
  exact ⟨vs, h1.below hb, h2.below hb, h3, h4, h5, h6⟩
theorem seg2.out {a b : Nat} (h : seg2 T1 T2 lo hi w vB vO xss ys) (ho : OutI a b w w') (hd : hi ≤ a ∨ b ≤ lo) : seg2 T1 T2 lo hi w' vB vO xss ys := by
  obtain ⟨vs, ⟨g1, g2, g3, g4, g5⟩, h2, h3, h4, h5, h6⟩ := h
  refine ⟨vs, ⟨g1.keepBlk fun k hk => ho.block k (g1.blk k hk).2 (by have q1 := (g1.blk k hk).1; have q2 := h4 k hk; omega), g2, fun i hi hi' => ?_, g4, g5⟩, h2.keepBlk fun k hk => ho.block k (h2.blk k hk).2 (by have q1 := (h2.blk k hk).1; have q2 := h6 k hk; omega), h3, h4, h5, h6⟩
  exact (g3 i hi hi').keepBlk fun k hk => ho.block k ((g3 i hi hi').blk k hk).2 (by have q1 := ((g3 i hi hi').blk k hk).1; have q2 := h5 i hi k hk; omega)
theorem seg2.rdB (h : seg2 T1 T2 lo hi w vB vO xss ys) : rd w w.heap.size vB xss := by
  obtain ⟨vs, h1, _⟩ := h
  exact ownLL.rd ⟨vs, h1⟩
theorem seg2.rdO (h : seg2 T1 T2 lo hi w vB vO xss ys) : rd w w.heap.size vO ys := by
  obtain ⟨vs, h1, h2, _⟩ := h
  exact h2.rd
end




end Go.Proofs.YtffbcfaahegglaaDoor

namespace Go.Proofs.YtffbcfaahegglaaDoor
open Go.RowKit



end Go.Proofs.YtffbcfaahegglaaDoor

namespace Go.Proofs.YtffbcfaahegglaaDoor
open Go.RowKit

set_option maxRecDepth 100000 in
set_option maxHeartbeats 1600000 in
theorem u_eqR (v v' : Value) (r : Rpt) (w : World) (hv : rdR w w.heap.size v r) (hv' : rdR w w.heap.size v' r) :
    Calls Tryd.prog 12 #[v, v'] w fun e w' => e = .returned (.bool true) ∧ Below w.heap.size w w' := by
  obtain ⟨A0, a0, A1, a1, A2, a2, A3, a3, e0⟩ := openR hv
  obtain ⟨B0, b0, B1, b1, B2, b2, B3, b3, e1⟩ := openR hv'
  obtain ⟨wa, hwa⟩ : ∃ wa, wa = w.alloc (Obj.cells #[.slice A0 r.round.length a0, .slice A1 r.strange.length a1, .slice A2 r.held.length a2, .slice A3 r.stuck.length a3] 29) := ⟨_, rfl⟩
  obtain ⟨wb, hwb⟩ : ∃ wb, wb = wa.alloc (Obj.cells #[.slice B0 r.round.length b0, .slice B1 r.strange.length b1, .slice B2 r.held.length b2, .slice B3 r.stuck.length b3] 29) := ⟨_, rfl⟩
  have q0 := fun W h => box_cells hwa 0 (.slice A0 r.round.length a0) rfl W (later_trans (box_later hwb).1 h)
  have q1 := fun W h => box_cells hwa 1 (.slice A1 r.strange.length a1) rfl W (later_trans (box_later hwb).1 h)
  have q2 := fun W h => box_cells hwa 2 (.slice A2 r.held.length a2) rfl W (later_trans (box_later hwb).1 h)
  have q3 := fun W h => box_cells hwa 3 (.slice A3 r.stuck.length a3) rfl W (later_trans (box_later hwb).1 h)
  have r0 := box_cells hwb 0 (.slice B0 r.round.length b0) rfl
  have r1 := box_cells hwb 1 (.slice B1 r.strange.length b1) rfl
  have r2 := box_cells hwb 2 (.slice B2 r.held.length b2) rfl
  have r3 := box_cells hwb 3 (.slice B3 r.stuck.length b3) rfl
  have HT := Lib.hid (later_trans (box_later hwa).1 (box_later hwb).1)
  have h1 := hv.on HT.out
  have h2 := hv'.on HT.out
  subst e0 e1
  obtain ⟨p0, p1, p2, p3⟩ := partsR h1
  obtain ⟨s0, s1, s2, s3⟩ := partsR h2
  have P0 := Lib.hid p0; have P1 := Lib.hid p1; have P2 := Lib.hid p2; have P3 := Lib.hid p3
  have S0 := Lib.hid s0; have S1 := Lib.hid s1; have S2 := Lib.hid s2; have S3 := Lib.hid s3
  have hza : wa.heap.size = w.heap.size + 1 := by subst hwa; simp
  rw [hza] at r0 r1 r2 r3
  clear hv hv' h1 h2 p0 p1 p2 p3 s0 s1 s2 s3 hza
  have HWA := Lib.hid hwa; have HWB := Lib.hid hwb
  clear hwa hwb
  have l0 := Below.refl wb.heap.size wb
  go_enter Tryd.func12, Tryd.ntmps12
  go_wp2_with fail
  rw [← HWA.out, ← HWB.out]
  refine (u_eqL _ _ r.round _ P0.out S0.out).mono ?_
  rintro e w1 ⟨rfl, c1⟩
  have l1 := later_trans l0 c1
  go_wp2_with fail
  refine (u_eqL _ _ r.strange _ (P1.out.on l1) (S1.out.on l1)).mono ?_
  rintro e w2 ⟨rfl, c2⟩
  have l2 := later_trans l1 c2
  go_wp2_with fail
  refine (u_eqL _ _ r.held _ (P2.out.on l2) (S2.out.on l2)).mono ?_
  rintro e w3 ⟨rfl, c3⟩
  have l3 := later_trans l2 c3
  go_wp2_with fail
  refine (u_eqL _ _ r.stuck _ (P3.out.on l3) (S3.out.on l3)).mono ?_
  rintro e w4 ⟨rfl, c4⟩
  have l4 := later_trans l3 c4
  go_wp2_with fail
  go_ret
  exact ⟨rfl, later_trans HT.out l4⟩

def rptN (r : Rpt) : Nat := 2 * r.round.length + 2 * r.strange.length + 2 * r.held.length + 2 * r.stuck.length
def marksR (k : Nat) (r : Rpt) : Rpt :=
  ⟨marksL k r.round.length, marksL (k + 2 * r.round.length) r.strange.length, marksL (k + 2 * r.round.length + 2 * r.strange.length) r.held.length, marksL (k + 2 * r.round.length + 2 * r.strange.length + 2 * r.held.length) r.stuck.length⟩
def rpt60 (r : Rpt) : Prop := r.round.length ≤ 60 ∧ r.strange.length ≤ 60 ∧ r.held.length ≤ 60 ∧ r.stuck.length ≤ 60
theorem seg.grown {α : Type} [Flat α] {T lo hi : Nat} {w w' : World} {v : Value} {xs : List α} {row : Option Nat} (h : seg T lo hi w v xs) (hg : w.grownBy w' row) (hv : v.ownBlock = none ∨ v.ownBlock ≠ row) : seg T lo hi w' v xs := ⟨h.1.grown hg hv, h.2⟩


/-! ### Marks of a day -/
def segD (T1 T2 lo hi : Nat) (w : World) (v : Value) (d : Dy) : Prop :=
  ∃ vo vf vh, v = .agg #[.int .i64 d.plan.bins, .int .i64 d.plan.passes, vo, vf, vh, .int .i64 d.size] ∧ isI64 d.plan.bins ∧ isI64 d.plan.passes ∧ isI64 d.size ∧ seg T1 lo hi w vo d.plan.order ∧ seg T2 lo hi w vf d.fwds ∧ seg T1 lo hi w vh d.held ∧ (apart vo vf ∧ apart vo vh ∧ apart vf vh)
theorem segD.of {T1 T2 lo : Nat} {w : World} {v : Value} {d : Dy} (h : ownD T1 T2 lo w v d) : segD T1 T2 lo w.heap.size w v d := by
  obtain ⟨vo, vf, vh, h1, h2, h3, h4, h5, h6, h7, h8⟩ := h
  exact ⟨vo, vf, vh, h1, h2, h3, h4, seg.of h5, seg.of h6, seg.of h7, h8⟩
theorem segD.below {T1 T2 lo hi : Nat} {w w' : World} {v : Value} {d : Dy} (h : segD T1 T2 lo hi w v d) (hb : Below w.heap.size w w') : segD T1 T2 lo hi w' v d := by
  obtain ⟨vo, vf, vh, h1, h2, h3, h4, h5, h6, h7, h8⟩ := h
  exact ⟨vo, vf, vh, h1, h2, h3, h4, h5.below hb, h6.below hb, h7.below hb, h8⟩
theorem segD.out {T1 T2 lo hi a b : Nat} {w w' : World} {v : Value} {d : Dy} (h : segD T1 T2 lo hi w v d) (ho : OutI a b w w') (hd : hi ≤ a ∨ b ≤ lo) : segD T1 T2 lo hi w' v d := by
  obtain ⟨vo, vf, vh, h1, h2, h3, h4, h5, h6, h7, h8⟩ := h
  exact ⟨vo, vf, vh, h1, h2, h3, h4, h5.out ho hd, h6.out ho hd, h7.out ho hd, h8⟩
theorem segD.rd {T1 T2 lo hi : Nat} {w : World} {v : Value} {d : Dy} (h : segD T1 T2 lo hi w v d) : rdD w w.heap.size v d := by
  obtain ⟨vo, vf, vh, h1, h2, h3, h4, h5, h6, h7, h8⟩ := h
  exact ⟨vo, vf, vh, h1, h2, h3, h4, h5.rd, h6.rd, h7.rd⟩
def mkD (d : Dy) : Nat := d.plan.order.length + 2 * d.fwds.length + d.held.length
theorem mkD_le (d : Dy) : mkD d ≤ 2 * szD d := by unfold mkD szD szP; omega


end Go.Proofs.YtffbcfaahegglaaDoor

namespace Go.Proofs.YtffbcfaahegglaaDoor
open Go.RowKit
theorem spec_RunDay' (v vb : Value) (d : Dy) (xs : List Ltr) (w : World) (hv : rdD w w.heap.size v d) (hb : rd w w.heap.size vb xs) :
    Calls Tryd.prog 67 #[v, vb] w fun e w' => ∃ vR, e = .returned (.tuple #[vR, .bool (rdOk d xs)]) ∧ ownR 98 w.heap.size w' vR (rptOf d xs) ∧ Below w.heap.size w w' := spec_RunDay v vb d xs w hv hb

end Go.Proofs.YtffbcfaahegglaaDoor
