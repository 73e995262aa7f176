/- SR1 SRG -/
import Derived.Test.YtmangjjaijhcnaaQ37
import Derived.Test.YtmangjjaijhcnaaQ13
namespace Go.Proofs.Ytmangjjaijhcnaa
open Go.RowKit

set_option maxRecDepth 100000 in
set_option maxHeartbeats 1600000 in
theorem so_reports (v v' : Value) (r : Rpt) (w : World) (hv : rdR w w.heap.size v r) (hv' : rdR w w.heap.size v' r) :
    Calls Try.prog 13 #[v, v'] w fun e w' => e = .returned (.bool true) ∧ Below w.heap.size w w' := by
  obtain ⟨A0, a0, A1, a1, A2, a2, A3, a3, e0⟩ := openR hv
  obtain ⟨B0, b0, B1, b1, B2, b2, B3, b3, e1⟩ := openR hv'
  obtain ⟨wa, hwa⟩ : ∃ wa, wa = w.alloc (Obj.cells #[.slice A0 r.round.length a0, .slice A1 r.strange.length a1, .slice A2 r.held.length a2, .slice A3 r.stuck.length a3] 33) := ⟨_, rfl⟩
  obtain ⟨wb, hwb⟩ : ∃ wb, wb = wa.alloc (Obj.cells #[.slice B0 r.round.length b0, .slice B1 r.strange.length b1, .slice B2 r.held.length b2, .slice B3 r.stuck.length b3] 33) := ⟨_, rfl⟩
  have q0 := fun W h => box_cells hwa 0 (.slice A0 r.round.length a0) rfl W (later_trans (box_later hwb).1 h)
  have q1 := fun W h => box_cells hwa 1 (.slice A1 r.strange.length a1) rfl W (later_trans (box_later hwb).1 h)
  have q2 := fun W h => box_cells hwa 2 (.slice A2 r.held.length a2) rfl W (later_trans (box_later hwb).1 h)
  have q3 := fun W h => box_cells hwa 3 (.slice A3 r.stuck.length a3) rfl W (later_trans (box_later hwb).1 h)
  have r0 := box_cells hwb 0 (.slice B0 r.round.length b0) rfl
  have r1 := box_cells hwb 1 (.slice B1 r.strange.length b1) rfl
  have r2 := box_cells hwb 2 (.slice B2 r.held.length b2) rfl
  have r3 := box_cells hwb 3 (.slice B3 r.stuck.length b3) rfl
  have HT := Lib.hid (later_trans (box_later hwa).1 (box_later hwb).1)
  have h1 := hv.on HT.out
  have h2 := hv'.on HT.out
  subst e0 e1
  obtain ⟨p0, p1, p2, p3⟩ := partsR h1
  obtain ⟨s0, s1, s2, s3⟩ := partsR h2
  have P0 := Lib.hid p0; have P1 := Lib.hid p1; have P2 := Lib.hid p2; have P3 := Lib.hid p3
  have S0 := Lib.hid s0; have S1 := Lib.hid s1; have S2 := Lib.hid s2; have S3 := Lib.hid s3
  have hza : wa.heap.size = w.heap.size + 1 := by subst hwa; simp
  rw [hza] at r0 r1 r2 r3
  clear hv hv' h1 h2 p0 p1 p2 p3 s0 s1 s2 s3 hza
  have HWA := Lib.hid hwa; have HWB := Lib.hid hwb
  clear hwa hwb
  have l0 := Below.refl wb.heap.size wb
  go_enter Try.func13, Try.ntmps13
  go_wp2_with fail
  rw [← HWA.out, ← HWB.out]
  refine (so_batch _ _ r.round _ P0.out S0.out).mono ?_
  rintro e w1 ⟨rfl, c1⟩
  have l1 := later_trans l0 c1
  go_wp2_with fail
  refine (so_batch _ _ r.strange _ (P1.out.on l1) (S1.out.on l1)).mono ?_
  rintro e w2 ⟨rfl, c2⟩
  have l2 := later_trans l1 c2
  go_wp2_with fail
  refine (so_batch _ _ r.held _ (P2.out.on l2) (S2.out.on l2)).mono ?_
  rintro e w3 ⟨rfl, c3⟩
  have l3 := later_trans l2 c3
  go_wp2_with fail
  refine (so_batch _ _ r.stuck _ (P3.out.on l3) (S3.out.on l3)).mono ?_
  rintro e w4 ⟨rfl, c4⟩
  have l4 := later_trans l3 c4
  go_wp2_with fail
  go_ret
  exact ⟨rfl, later_trans HT.out l4⟩

end Go.Proofs.Ytmangjjaijhcnaa

namespace Go.Proofs.Ytmangjjaijhcnaa
open Go.RowKit

def eqR (r r' : Rpt) : Bool := eqBy ltrEq r.round r'.round && eqBy ltrEq r.strange r'.strange && eqBy ltrEq r.held r'.held && eqBy ltrEq r.stuck r'.stuck
theorem eqR_iff {r r' : Rpt} : eqR r r' = true ↔ r = r' := by
  obtain ⟨x0, x1, x2, x3⟩ := r
  obtain ⟨y0, y1, y2, y3⟩ := r'
  simp [eqR, eqBy_iff ltrEq_iff, and_assoc]
set_option maxRecDepth 100000 in
set_option maxHeartbeats 1600000 in
theorem so_reportsG (v v' : Value) (r r' : Rpt) (w : World) (hv : rdR w w.heap.size v r) (hv' : rdR w w.heap.size v' r') :
    Calls Try.prog 13 #[v, v'] w fun e w' => e = .returned (.bool (eqR r r')) ∧ Below w.heap.size w w' := by
  obtain ⟨A0, a0, A1, a1, A2, a2, A3, a3, e0⟩ := openR hv
  obtain ⟨B0, b0, B1, b1, B2, b2, B3, b3, e1⟩ := openR hv'
  obtain ⟨wa, hwa⟩ : ∃ wa, wa = w.alloc (Obj.cells #[.slice A0 r.round.length a0, .slice A1 r.strange.length a1, .slice A2 r.held.length a2, .slice A3 r.stuck.length a3] 33) := ⟨_, rfl⟩
  obtain ⟨wb, hwb⟩ : ∃ wb, wb = wa.alloc (Obj.cells #[.slice B0 r'.round.length b0, .slice B1 r'.strange.length b1, .slice B2 r'.held.length b2, .slice B3 r'.stuck.length b3] 33) := ⟨_, rfl⟩
  have q0 := fun W h => box_cells hwa 0 (.slice A0 r.round.length a0) rfl W (later_trans (box_later hwb).1 h)
  have q1 := fun W h => box_cells hwa 1 (.slice A1 r.strange.length a1) rfl W (later_trans (box_later hwb).1 h)
  have q2 := fun W h => box_cells hwa 2 (.slice A2 r.held.length a2) rfl W (later_trans (box_later hwb).1 h)
  have q3 := fun W h => box_cells hwa 3 (.slice A3 r.stuck.length a3) rfl W (later_trans (box_later hwb).1 h)
  have r0 := box_cells hwb 0 (.slice B0 r'.round.length b0) rfl
  have r1 := box_cells hwb 1 (.slice B1 r'.strange.length b1) rfl
  have r2 := box_cells hwb 2 (.slice B2 r'.held.length b2) rfl
  have r3 := box_cells hwb 3 (.slice B3 r'.stuck.length b3) rfl
  have HT := Lib.hid (later_trans (box_later hwa).1 (box_later hwb).1)
  have h1 := hv.on HT.out
  have h2 := hv'.on HT.out
  subst e0 e1
  obtain ⟨p0, p1, p2, p3⟩ := partsR h1
  obtain ⟨s0, s1, s2, s3⟩ := partsR h2
  have P0 := Lib.hid p0; have P1 := Lib.hid p1; have P2 := Lib.hid p2; have P3 := Lib.hid p3
  have S0 := Lib.hid s0; have S1 := Lib.hid s1; have S2 := Lib.hid s2; have S3 := Lib.hid s3
  have hza : wa.heap.size = w.heap.size + 1 := by subst hwa; simp
  rw [hza] at r0 r1 r2 r3
  clear hv hv' h1 h2 p0 p1 p2 p3 s0 s1 s2 s3 hza
  have HWA := Lib.hid hwa; have HWB := Lib.hid hwb
  clear hwa hwb
  have l0 := Below.refl wb.heap.size wb
  have HB : Hid (eqR r r' = (eqBy ltrEq r.round r'.round && eqBy ltrEq r.strange r'.strange && eqBy ltrEq r.held r'.held && eqBy ltrEq r.stuck r'.stuck)) := rfl
  generalize eqR r r' = D at *
  go_enter Try.func13, Try.ntmps13
  go_wp2_with fail
  rw [← HWA.out, ← HWB.out]
  refine (laws_soBatch _ _ r.round r'.round _ P0.out S0.out).mono ?_
  rintro e w1 ⟨rfl, c1⟩
  have l1 := later_trans l0 c1
  cases g0 : eqBy ltrEq r.round r'.round
  · have HE : Hid (D = false) := by show _ = _; rw [HB.out, g0]; simp
    clear g0
    go_wp2_with fail
    go_ret
    exact ⟨by rw [HE.out]; rfl, later_trans HT.out l1⟩
  have G0 := Lib.hid g0; clear g0
  go_wp2_with fail
  refine (laws_soBatch _ _ r.strange r'.strange _ (P1.out.on l1) (S1.out.on l1)).mono ?_
  rintro e w2 ⟨rfl, c2⟩
  have l2 := later_trans l1 c2
  cases g1 : eqBy ltrEq r.strange r'.strange
  · have HE : Hid (D = false) := by show _ = _; rw [HB.out, g1]; simp
    clear g1
    go_wp2_with fail
    go_ret
    exact ⟨by rw [HE.out]; rfl, later_trans HT.out l2⟩
  have G1 := Lib.hid g1; clear g1
  go_wp2_with fail
  refine (laws_soBatch _ _ r.held r'.held _ (P2.out.on l2) (S2.out.on l2)).mono ?_
  rintro e w3 ⟨rfl, c3⟩
  have l3 := later_trans l2 c3
  cases g2 : eqBy ltrEq r.held r'.held
  · have HE : Hid (D = false) := by show _ = _; rw [HB.out, g2]; simp
    clear g2
    go_wp2_with fail
    go_ret
    exact ⟨by rw [HE.out]; rfl, later_trans HT.out l3⟩
  have G2 := Lib.hid g2; clear g2
  go_wp2_with fail
  refine (laws_soBatch _ _ r.stuck r'.stuck _ (P3.out.on l3) (S3.out.on l3)).mono ?_
  rintro e w4 ⟨rfl, c4⟩
  have l4 := later_trans l3 c4
  cases g3 : eqBy ltrEq r.stuck r'.stuck
  · have HE : Hid (D = false) := by show _ = _; rw [HB.out, g3]; simp
    clear g3
    go_wp2_with fail
    go_ret
    exact ⟨by rw [HE.out]; rfl, later_trans HT.out l4⟩
  have G3 := Lib.hid g3; clear g3
  have HE : Hid (D = true) := by show _ = _; rw [HB.out, G0.out, G1.out, G2.out, G3.out]; rfl
  go_wp2_with fail
  go_ret
  exact ⟨by rw [HE.out]; rfl, later_trans HT.out l4⟩

end Go.Proofs.Ytmangjjaijhcnaa
