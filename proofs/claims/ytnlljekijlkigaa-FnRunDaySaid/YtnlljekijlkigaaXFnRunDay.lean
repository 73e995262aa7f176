/- FnRunDay: the walk of the law. Written by gen_ld.py. -/
import Derived.Test.YtnlljekijlkigaaQ23
import Derived.Test.YtnlljekijlkigaaQ40
import Derived.Test.YtnlljekijlkigaaQ42
import Derived.Deep.RegionHeld3
namespace Go.Proofs.Ytnlljekijlkigaa
open Go.RowKit

set_option maxRecDepth 100000 in
set_option maxHeartbeats 2000000 in
theorem walk_FnRunDay (w : World) (v : Value) (bs : List UInt8) (hv : rd w w.heap.size v bs) :
    Calls Try.prog 3 #[v] w fun e w' => e = .returned (.bool true) ∧ Below w.heap.size w w' := by
  have hv0 := hv
  obtain ⟨A, n, c, rfl, hn, hc, hm, _⟩ := hv
  subst hn
  unfold maxLen at hm
  go_enter Try.func3, Try.ntmps3
  by_cases hsz : 1048576 < bs.length
  · go_wp2_with fail
    go_ret
    exact ⟨rfl, Below.refl _ _⟩
  go_wp2_with fail
  refine (draw_DrawRunDay _ bs w hv0).mono ?_
  rintro e w1 ⟨vd, vb, d, xs, rfl, oz, ob, hxl, hol, hfl, hhl, b1⟩
  have hvd := oz.rd
  obtain ⟨A0, c0, A1, c1, A2, c2, e0⟩ := openD hvd
  obtain ⟨w0, hw0⟩ : ∃ w0, w0 = w1.alloc (Obj.cells #[.int .i64 d.plan.bins, .int .i64 d.plan.passes, .slice A0 d.plan.order.length c0, .slice A1 d.fwds.length c1, .slice A2 d.held.length c2, .int .i64 d.size] 28) := ⟨_, rfl⟩
  have q0 := box_cells hw0 0 (.int .i64 d.plan.bins) rfl
  have q1 := box_cells hw0 1 (.int .i64 d.plan.passes) rfl
  have q2 := box_cells hw0 2 (.slice A0 d.plan.order.length c0) rfl
  have q3 := box_cells hw0 3 (.slice A1 d.fwds.length c1) rfl
  have q4 := box_cells hw0 4 (.slice A2 d.held.length c2) rfl
  have q5 := box_cells hw0 5 (.int .i64 d.size) rfl
  have HT := Lib.hid (box_later hw0).1
  have HD := Lib.hid (hvd.on HT.out)
  subst e0
  have HB := Lib.hid (ob.rd.on HT.out)
  have HWB : Hid (Below w.heap.size w w0) := b1.trans (HT.out.mono b1.size)
  have HW0 := Lib.hid hw0
  have l0 := Below.refl w0.heap.size w0
  clear hw0 hvd oz ob b1 HT hv0
  obtain ⟨R, hR⟩ : ∃ R, R = rptOf d xs := ⟨_, rfl⟩
  have HRE : Hid (rptOf d xs = R) := hR.symm
  clear hR
  go_wp2_with fail
  rw [← HW0.out]
  refine (impl_RunDay _ _ d xs _ (HD.out.on l0) (HB.out.on l0)).mono ?_
  rintro e w3a ⟨vR, rfl, oR, bR⟩
  have lR := later_trans l0 bR
  rw [HRE.out] at oR
  obtain ⟨v0, v1, v2, v3, rfl, o0, o1, o2, o3, _⟩ := oR
  have hr0 := o0.rd
  obtain ⟨rA0, n0, rc0, rfl, rfl, _, _, _⟩ := o0.rd
  have hr1 := o1.rd
  obtain ⟨rA1, n1, rc1, rfl, rfl, _, _, _⟩ := o1.rd
  have hr2 := o2.rd
  obtain ⟨rA2, n2, rc2, rfl, rfl, _, _, _⟩ := o2.rd
  have hr3 := o3.rd
  obtain ⟨rA3, n3, rc3, rfl, rfl, _, _, _⟩ := o3.rd
  obtain ⟨w3, hwn⟩ : ∃ u, u = w3a.alloc (Obj.cells #[.slice rA0 R.round.length rc0, .slice rA1 R.strange.length rc1, .slice rA2 R.held.length rc2, .slice rA3 R.stuck.length rc3] 33) := ⟨_, rfl⟩
  have r0 := box_cells hwn 0 (.slice rA0 R.round.length rc0) rfl
  have r1 := box_cells hwn 1 (.slice rA1 R.strange.length rc1) rfl
  have r2 := box_cells hwn 2 (.slice rA2 R.held.length rc2) rfl
  have r3 := box_cells hwn 3 (.slice rA3 R.stuck.length rc3) rfl
  have hT := (box_later hwn).1
  have HWN := Lib.hid hwn
  clear hwn
  have R0 := Lib.hid (hr0.on hT)
  have R1 := Lib.hid (hr1.on hT)
  have R2 := Lib.hid (hr2.on hT)
  have R3 := Lib.hid (hr3.on hT)
  have HTN := Lib.hid hT
  clear hT bR l0 hr0 hr1 hr2 hr3 o0 o1 o2 o3
  go_wp2_with fail
  rw [← HWN.out]
  have lN := later_trans lR HTN.out
  replace q0 := fun W (h : Below w3.heap.size w3 W) => q0 W (later_trans lN h)
  replace q1 := fun W (h : Below w3.heap.size w3 W) => q1 W (later_trans lN h)
  replace q2 := fun W (h : Below w3.heap.size w3 W) => q2 W (later_trans lN h)
  replace q3 := fun W (h : Below w3.heap.size w3 W) => q3 W (later_trans lN h)
  replace q4 := fun W (h : Below w3.heap.size w3 W) => q4 W (later_trans lN h)
  replace q5 := fun W (h : Below w3.heap.size w3 W) => q5 W (later_trans lN h)
  replace HD := Lib.hid (HD.out.on lN)
  replace HB := Lib.hid (HB.out.on lN)
  replace HWB := Lib.hid (HWB.out.trans (lN.mono HWB.out.size))
  have lw3 := Below.refl w3.heap.size w3
  clear lN lR HTN HWN
  refine (spec_RunDay _ _ d xs _ (HD.out.on lw3) (HB.out.on lw3)).mono ?_
  rintro e w5a ⟨vR, rfl, oR, bR⟩
  have lR := later_trans lw3 bR
  rw [HRE.out] at oR
  obtain ⟨v0, v1, v2, v3, rfl, o0, o1, o2, o3, _⟩ := oR
  have hr0 := o0.rd
  obtain ⟨sA0, n0, sc0, rfl, rfl, _, _, _⟩ := o0.rd
  have hr1 := o1.rd
  obtain ⟨sA1, n1, sc1, rfl, rfl, _, _, _⟩ := o1.rd
  have hr2 := o2.rd
  obtain ⟨sA2, n2, sc2, rfl, rfl, _, _, _⟩ := o2.rd
  have hr3 := o3.rd
  obtain ⟨sA3, n3, sc3, rfl, rfl, _, _, _⟩ := o3.rd
  obtain ⟨w5, hwn⟩ : ∃ u, u = w5a.alloc (Obj.cells #[.slice sA0 R.round.length sc0, .slice sA1 R.strange.length sc1, .slice sA2 R.held.length sc2, .slice sA3 R.stuck.length sc3] 33) := ⟨_, rfl⟩
  have s0 := box_cells hwn 0 (.slice sA0 R.round.length sc0) rfl
  have s1 := box_cells hwn 1 (.slice sA1 R.strange.length sc1) rfl
  have s2 := box_cells hwn 2 (.slice sA2 R.held.length sc2) rfl
  have s3 := box_cells hwn 3 (.slice sA3 R.stuck.length sc3) rfl
  have hT := (box_later hwn).1
  have HWN := Lib.hid hwn
  clear hwn
  have S0 := Lib.hid (hr0.on hT)
  have S1 := Lib.hid (hr1.on hT)
  have S2 := Lib.hid (hr2.on hT)
  have S3 := Lib.hid (hr3.on hT)
  have HTN := Lib.hid hT
  clear hT bR lw3 hr0 hr1 hr2 hr3 o0 o1 o2 o3
  go_wp2_with fail
  rw [← HWN.out]
  have lN := later_trans lR HTN.out
  replace q0 := fun W (h : Below w5.heap.size w5 W) => q0 W (later_trans lN h)
  replace q1 := fun W (h : Below w5.heap.size w5 W) => q1 W (later_trans lN h)
  replace q2 := fun W (h : Below w5.heap.size w5 W) => q2 W (later_trans lN h)
  replace q3 := fun W (h : Below w5.heap.size w5 W) => q3 W (later_trans lN h)
  replace q4 := fun W (h : Below w5.heap.size w5 W) => q4 W (later_trans lN h)
  replace q5 := fun W (h : Below w5.heap.size w5 W) => q5 W (later_trans lN h)
  replace r0 := fun W (h : Below w5.heap.size w5 W) => r0 W (later_trans lN h)
  replace r1 := fun W (h : Below w5.heap.size w5 W) => r1 W (later_trans lN h)
  replace r2 := fun W (h : Below w5.heap.size w5 W) => r2 W (later_trans lN h)
  replace r3 := fun W (h : Below w5.heap.size w5 W) => r3 W (later_trans lN h)
  replace HD := Lib.hid (HD.out.on lN)
  replace HB := Lib.hid (HB.out.on lN)
  replace R0 := Lib.hid (R0.out.on lN)
  replace R1 := Lib.hid (R1.out.on lN)
  replace R2 := Lib.hid (R2.out.on lN)
  replace R3 := Lib.hid (R3.out.on lN)
  replace HWB := Lib.hid (HWB.out.trans (lN.mono HWB.out.size))
  have lw5 := Below.refl w5.heap.size w5
  clear lN lR HTN HWN
  have HRO : Hid (rdOk d xs = (dayOk d && okB xs)) := rfl
  have htt : ((true : Bool) != true) = false := rfl
  have hff : ((false : Bool) != false) = false := rfl
  have hfe : ((false : Bool) == false) = true := rfl
  cases hdo : dayOk d
  · have HDO := Lib.hid hdo; clear hdo
    have HR0 : Hid (rdOk d xs = false) := by show _ = _; rw [HRO.out, HDO.out]; rfl
    rw [HR0.out]
    refine (so_reports _ _ R _ ⟨_, _, _, _, rfl, R0.out.on lw5, R1.out.on lw5, R2.out.on lw5, R3.out.on lw5⟩ ⟨_, _, _, _, rfl, S0.out.on lw5, S1.out.on lw5, S2.out.on lw5, S3.out.on lw5⟩).mono ?_
    rintro e w6 ⟨rfl, b⟩
    have l6 := later_trans lw5 b
    clear b lw5
    go_wp2_with fail
    refine (impl_DayValid _ d _ (HD.out.on l6)).mono ?_
    rw [HDO.out]
    rintro e w7 ⟨rfl, b⟩
    have l7 := later_trans l6 b
    clear b l6
    go_wp2_with fail
    refine (so_reports _ _ R _ ⟨_, _, _, _, rfl, R0.out.on l7, R1.out.on l7, R2.out.on l7, R3.out.on l7⟩ ⟨_, _, _, _, rfl, S0.out.on l7, S1.out.on l7, S2.out.on l7, S3.out.on l7⟩).mono ?_
    rintro e w8 ⟨rfl, b⟩
    have l8 := later_trans l7 b
    clear b l7
    go_wp2_with fail
    refine (impl_DayValid _ d _ (HD.out.on l8)).mono ?_
    rw [HDO.out]
    rintro e w9 ⟨rfl, b⟩
    have l9 := later_trans l8 b
    clear b l8
    go_wp2_with fail
    go_ret
    exact ⟨rfl, HWB.out.trans (l9.mono HWB.out.size)⟩
  have HDO := Lib.hid hdo; clear hdo
  cases hxo : okB xs
  · have HXO := Lib.hid hxo; clear hxo
    have HR0 : Hid (rdOk d xs = false) := by show _ = _; rw [HRO.out, HDO.out, HXO.out]; rfl
    rw [HR0.out]
    refine (so_reports _ _ R _ ⟨_, _, _, _, rfl, R0.out.on lw5, R1.out.on lw5, R2.out.on lw5, R3.out.on lw5⟩ ⟨_, _, _, _, rfl, S0.out.on lw5, S1.out.on lw5, S2.out.on lw5, S3.out.on lw5⟩).mono ?_
    rintro e w6 ⟨rfl, b⟩
    have l6 := later_trans lw5 b
    clear b lw5
    go_wp2_with fail
    refine (impl_DayValid _ d _ (HD.out.on l6)).mono ?_
    rw [HDO.out]
    rintro e w7 ⟨rfl, b⟩
    have l7 := later_trans l6 b
    clear b l6
    go_wp2_with fail
    refine (impl_BatchValid _ xs _ (HB.out.on l7)).mono ?_
    rw [HXO.out]
    rintro e w8 ⟨rfl, b⟩
    have l8 := later_trans l7 b
    clear b l7
    go_wp2_with fail
    refine (so_reports _ _ R _ ⟨_, _, _, _, rfl, R0.out.on l8, R1.out.on l8, R2.out.on l8, R3.out.on l8⟩ ⟨_, _, _, _, rfl, S0.out.on l8, S1.out.on l8, S2.out.on l8, S3.out.on l8⟩).mono ?_
    rintro e w9 ⟨rfl, b⟩
    have l9 := later_trans l8 b
    clear b l8
    go_wp2_with fail
    refine (impl_DayValid _ d _ (HD.out.on l9)).mono ?_
    rw [HDO.out]
    rintro e w10 ⟨rfl, b⟩
    have l10 := later_trans l9 b
    clear b l9
    go_wp2_with fail
    refine (impl_BatchValid _ xs _ (HB.out.on l10)).mono ?_
    rw [HXO.out]
    rintro e w11 ⟨rfl, b⟩
    have l11 := later_trans l10 b
    clear b l10
    go_wp2_with fail
    go_ret
    exact ⟨rfl, HWB.out.trans (l11.mono HWB.out.size)⟩
  have HXO := Lib.hid hxo; clear hxo
  have hro : rdOk d xs = true := by rw [HRO.out, HDO.out, HXO.out]; rfl
  have HK := Lib.hid hro; clear hro
  rw [HK.out]
  refine (so_reports _ _ R _ ⟨_, _, _, _, rfl, R0.out.on lw5, R1.out.on lw5, R2.out.on lw5, R3.out.on lw5⟩ ⟨_, _, _, _, rfl, S0.out.on lw5, S1.out.on lw5, S2.out.on lw5, S3.out.on lw5⟩).mono ?_
  rintro e w6 ⟨rfl, b⟩
  have l6 := later_trans lw5 b
  clear b lw5
  go_wp2_with fail
  refine (impl_DayValid _ d _ (HD.out.on l6)).mono ?_
  rw [HDO.out]
  rintro e w7 ⟨rfl, b⟩
  have l7 := later_trans l6 b
  clear b l6
  go_wp2_with fail
  refine (impl_BatchValid _ xs _ (HB.out.on l7)).mono ?_
  rw [HXO.out]
  rintro e w8 ⟨rfl, b⟩
  have l8 := later_trans l7 b
  clear b l7
  go_wp2_with fail
  have HST := Lib.hid (day_steps HK.out)
  have HRQ : Hid (R.round = rpRound d.plan (hbFree d.held (fwSent d.fwds xs)) ∧ R.strange = rpRest d.plan (hbFree d.held (fwSent d.fwds xs)) ∧ R.held = hbHeld d.held (fwSent d.fwds xs) ∧ R.stuck = fwStuck d.fwds xs) := by
    show _ ∧ _
    rw [← HRE.out]
    unfold rptOf
    rw [if_pos HK.out]
    exact ⟨rfl, rfl, rfl, rfl⟩
  obtain ⟨gp, _, gf, gh, _⟩ := partsD HD.out
  have GP := Lib.hid gp; have GF := Lib.hid gf; have GH := Lib.hid gh
  clear gp gf gh
  refine (impl_ForwardBatch _ _ d.fwds xs _ (GF.out.on l8) (HB.out.on l8)).mono ?_
  rw [HST.out.1]
  rintro e w9 ⟨vM, vS, rfl, oM, oS, _, b⟩
  have l9 := later_trans l8 b
  have OM := Lib.hid oM; have OS := Lib.hid oS
  clear b oM oS l8
  go_wp2_with fail
  refine (impl_HoldBatch _ _ _ d.held _ OM.out.rd (GH.out.on l9)).mono ?_
  rw [HST.out.2.1]
  rintro e w10 ⟨vF, vH, rfl, oF, oH, _, b⟩
  have l10 := later_trans l9 b
  replace OS := Lib.hid (OS.out.below b)
  have OF := Lib.hid oF; have OH := Lib.hid oH
  clear b oF oH l9 OM
  go_wp2_with fail
  refine (impl_RunPlan _ _ d.plan _ _ (GP.out.on l10) OF.out.rd).mono ?_
  rw [HST.out.2.2]
  rintro e w11 ⟨vL, vO, rfl, oL, oO, _, b⟩
  have l11 := later_trans l10 b
  replace OS := Lib.hid (OS.out.below b)
  replace OH := Lib.hid (OH.out.below b)
  have OL := Lib.hid oL; have OO := Lib.hid oO
  clear b oL oO l10 OF
  go_wp2_with fail
  refine (so_batch _ _ R.round _ (by rw [HRQ.out.1]; exact OL.out.rd) (R0.out.on l11)).mono ?_
  rintro e w12 ⟨rfl, b⟩
  have l12 := later_trans l11 b
  replace OS := Lib.hid (OS.out.below b)
  replace OH := Lib.hid (OH.out.below b)
  replace OO := Lib.hid (OO.out.below b)
  clear b l11 OL
  go_wp2_with fail
  refine (so_batch _ _ R.strange _ (by rw [HRQ.out.2.1]; exact OO.out.rd) (R1.out.on l12)).mono ?_
  rintro e w13 ⟨rfl, b⟩
  have l13 := later_trans l12 b
  replace OS := Lib.hid (OS.out.below b)
  replace OH := Lib.hid (OH.out.below b)
  clear b l12 OO
  go_wp2_with fail
  refine (so_batch _ _ R.held _ (by rw [HRQ.out.2.2.1]; exact OH.out.rd) (R2.out.on l13)).mono ?_
  rintro e w14 ⟨rfl, b⟩
  have l14 := later_trans l13 b
  replace OS := Lib.hid (OS.out.below b)
  clear b l13 OH
  go_wp2_with fail
  refine (so_batch _ _ R.stuck _ (by rw [HRQ.out.2.2.2]; exact OS.out.rd) (R3.out.on l14)).mono ?_
  rintro e w15 ⟨rfl, b⟩
  have l15 := later_trans l14 b
  clear b l14 OS
  go_wp2_with fail
  refine (impl_InOrder _ _ d.plan R.round _ (GP.out.on l15) (R0.out.on l15)).mono ?_
  rintro e w16 ⟨b, rfl, hb, bb⟩
  obtain rfl : b = true := hb.2 (by rw [HRQ.out.1]; exact ⟨by unfold rpOk; rw [okB_rp HST.out.2.2]; have := (rdOk_iff.1 HK.out).1.1; rw [this]; rfl, rp_ord HST.out.2.2⟩)
  have l16 := later_trans l15 bb
  go_wp2_with fail
  go_ret
  exact ⟨rfl, HWB.out.trans (l16.mono HWB.out.size)⟩

end Go.Proofs.Ytnlljekijlkigaa
