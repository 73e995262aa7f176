/- FnDayTrays: the walk of the law. Written by gen_ld.py. -/
import Derived.Test.YtnlljekijlkigaaQ44
import Derived.Test.YtnlljekijlkigaaQ23
import Derived.Test.YtnlljekijlkigaaQ40
import Derived.Deep.RegionHeld3
namespace Go.Proofs.Ytnlljekijlkigaa
open Go.RowKit

set_option maxRecDepth 100000 in
set_option maxHeartbeats 2000000 in
theorem walk_FnDayTrays (w : World) (v : Value) (bs : List UInt8) (hv : rd w w.heap.size v bs) :
    Calls Try.prog 5 #[v] w fun e w' => e = .returned (.bool true) ∧ Below w.heap.size w w' := by
  have hv0 := hv
  obtain ⟨A, n, c, rfl, hn, hc, hm, _⟩ := hv
  subst hn
  unfold maxLen at hm
  go_enter Try.func5, Try.ntmps5
  by_cases hsz : 1048576 < bs.length
  · go_wp2_with fail
    go_ret
    exact ⟨rfl, Below.refl _ _⟩
  go_wp2_with fail
  refine (draw_DrawDayTrays _ bs w hv0).mono ?_
  rintro e w1 ⟨vd, vb, d, xs, rfl, oz, ob, hxl, hol, hfl, hhl, b1⟩
  have hvd := oz.rd
  obtain ⟨A0, c0, A1, c1, A2, c2, e0⟩ := openD hvd
  obtain ⟨w0, hw0⟩ : ∃ w0, w0 = w1.alloc (Obj.cells #[.int .i64 d.plan.bins, .int .i64 d.plan.passes, .slice A0 d.plan.order.length c0, .slice A1 d.fwds.length c1, .slice A2 d.held.length c2, .int .i64 d.size] 28) := ⟨_, rfl⟩
  have q0 := box_cells hw0 0 (.int .i64 d.plan.bins) rfl
  have q1 := box_cells hw0 1 (.int .i64 d.plan.passes) rfl
  have q2 := box_cells hw0 2 (.slice A0 d.plan.order.length c0) rfl
  have q3 := box_cells hw0 3 (.slice A1 d.fwds.length c1) rfl
  have q4 := box_cells hw0 4 (.slice A2 d.held.length c2) rfl
  have q5 := box_cells hw0 5 (.int .i64 d.size) rfl
  have HT := Lib.hid (box_later hw0).1
  have HD := Lib.hid (hvd.on HT.out)
  subst e0
  have HB := Lib.hid (ob.rd.on HT.out)
  have HWB : Hid (Below w.heap.size w w0) := b1.trans (HT.out.mono b1.size)
  have HW0 := Lib.hid hw0
  have l0 := Below.refl w0.heap.size w0
  clear hw0 hvd oz ob b1 HT hv0
  obtain ⟨R, hR⟩ : ∃ R, R = rptOf d xs := ⟨_, rfl⟩
  have HRE : Hid (rptOf d xs = R) := hR.symm
  clear hR
  go_wp2_with fail
  rw [← HW0.out]
  have HDT : Hid (∀ h : dtOk d xs = true, (dtRows d xs).flatten = R.round ∧ ((dtRows d xs).length : Int) = ((R.round.length : Int) + d.size - 1) / d.size ∧ (∀ t ∈ dtRows d xs, 1 ≤ t.length ∧ (t.length : Int) ≤ 20) ∧ okB R.round = true ∧ rpOk d.plan R.round = true ∧ inOrd d.plan R.round ∧ sizeOk d.size = true) := fun h => by
    obtain ⟨h1, h2, h3⟩ := dt_facts h
    have hr := dtOk_rd h
    have ho := (okB_parts hr).1
    obtain ⟨_, _, _, e3, _, hp, _⟩ := dayRpt_eq hr
    have hq := (rdOk_iff.1 hr).1
    rw [HRE.out] at h1 h2 ho e3
    refine ⟨h1, h2, h3, ho, ?_, ?_, hq.2.2.2⟩
    · unfold rpOk; rw [ho, hq.1]; rfl
    · rw [e3]; exact rp_ord hp
  have HXL : Hid ((dtRows d xs).length ≤ 60) := (dtRows_len d xs).1
  refine (impl_DayTrays _ _ d xs _ HD.out HB.out).mono ?_
  rintro e w2 ⟨vx, rfl, ox, b⟩
  have l2 := later_trans l0 b
  have HX := Lib.hid (ownLL.rd ox)
  clear b l0 ox
  go_wp2_with fail
  refine (spec_DayTrays _ _ d xs _ (HD.out.on l2) (HB.out.on l2)).mono ?_
  rintro e w3 ⟨vy, rfl, oy, b⟩
  have l3 := later_trans l2 b
  replace HX := Lib.hid (HX.out.on b)
  have HY := Lib.hid (ownLL.rd oy)
  clear b l2 oy
  obtain ⟨X, hX⟩ : ∃ X, X = dtRows d xs := ⟨_, rfl⟩
  rw [← hX] at HX HY HDT HXL
  clear hX
  have htt : ((true : Bool) != true) = false := rfl
  have hff : ((false : Bool) != false) = false := rfl
  have hfe : ((false : Bool) == false) = true := rfl
  cases hok : dtOk d xs
  · clear hok
    go_wp2_with fail
    refine (so_bins _ _ X _ HX.out HY.out).mono ?_
    rintro e w4 ⟨rfl, b⟩
    have l4 := later_trans l3 b
    replace HX := Lib.hid (HX.out.on b)
    replace HY := Lib.hid (HY.out.on b)
    clear b l3
    go_wp2_with fail
    refine (so_bins _ _ X _ HX.out HY.out).mono ?_
    rintro e w5 ⟨rfl, b⟩
    have l5 := later_trans l4 b
    clear b l4
    go_wp2_with fail
    go_ret
    exact ⟨rfl, HWB.out.trans (l5.mono HWB.out.size)⟩
  obtain ⟨d1, d2, d3, d4, d5, d6, d7⟩ := HDT.out hok
  have D1 := Lib.hid d1; have D2 := Lib.hid d2; have D3 := Lib.hid d3; have D4 := Lib.hid d4; have D5 := Lib.hid d5; have D6 := Lib.hid d6; have D7 := Lib.hid d7
  have HR0 := Lib.hid (dtOk_rd hok)
  clear d1 d2 d3 d4 d5 d6 d7 hok HDT
  go_wp2_with fail
  refine (so_bins _ _ X _ HX.out HY.out).mono ?_
  rintro e w4 ⟨rfl, b⟩
  have l4 := later_trans l3 b
  replace HX := Lib.hid (HX.out.on b)
  clear b l3 HY
  go_wp2_with fail
  refine (impl_RunDay _ _ d xs _ (HD.out.on l4) (HB.out.on l4)).mono ?_
  rintro e w5a ⟨vR, rfl, oR, bR⟩
  have lR := later_trans l4 bR
  rw [HRE.out] at oR
  rw [HR0.out]
  replace HX := Lib.hid (HX.out.on bR)
  obtain ⟨v0, v1, v2, v3, rfl, o0, o1, o2, o3, _⟩ := oR
  have hr0 := o0.rd
  obtain ⟨rA0, n0, rc0, rfl, rfl, _, _, _⟩ := o0.rd
  have hr1 := o1.rd
  obtain ⟨rA1, n1, rc1, rfl, rfl, _, _, _⟩ := o1.rd
  have hr2 := o2.rd
  obtain ⟨rA2, n2, rc2, rfl, rfl, _, _, _⟩ := o2.rd
  have hr3 := o3.rd
  obtain ⟨rA3, n3, rc3, rfl, rfl, _, _, _⟩ := o3.rd
  obtain ⟨w5, hwn⟩ : ∃ u, u = w5a.alloc (Obj.cells #[.slice rA0 R.round.length rc0, .slice rA1 R.strange.length rc1, .slice rA2 R.held.length rc2, .slice rA3 R.stuck.length rc3] 33) := ⟨_, rfl⟩
  have r0 := box_cells hwn 0 (.slice rA0 R.round.length rc0) rfl
  have r1 := box_cells hwn 1 (.slice rA1 R.strange.length rc1) rfl
  have r2 := box_cells hwn 2 (.slice rA2 R.held.length rc2) rfl
  have r3 := box_cells hwn 3 (.slice rA3 R.stuck.length rc3) rfl
  have hT := (box_later hwn).1
  have HWN := Lib.hid hwn
  clear hwn
  have R0 := Lib.hid (hr0.on hT)
  have R1 := Lib.hid (hr1.on hT)
  have R2 := Lib.hid (hr2.on hT)
  have R3 := Lib.hid (hr3.on hT)
  have HTN := Lib.hid hT
  clear hT bR l4 hr0 hr1 hr2 hr3 o0 o1 o2 o3
  go_wp2_with fail
  rw [← HWN.out]
  have lN := later_trans lR HTN.out
  replace q0 := fun W (h : Below w5.heap.size w5 W) => q0 W (later_trans lN h)
  replace q1 := fun W (h : Below w5.heap.size w5 W) => q1 W (later_trans lN h)
  replace q2 := fun W (h : Below w5.heap.size w5 W) => q2 W (later_trans lN h)
  replace q3 := fun W (h : Below w5.heap.size w5 W) => q3 W (later_trans lN h)
  replace q4 := fun W (h : Below w5.heap.size w5 W) => q4 W (later_trans lN h)
  replace q5 := fun W (h : Below w5.heap.size w5 W) => q5 W (later_trans lN h)
  replace HD := Lib.hid (HD.out.on lN)
  replace HB := Lib.hid (HB.out.on lN)
  replace HX := Lib.hid (HX.out.on HTN.out)
  replace HWB := Lib.hid (HWB.out.trans (lN.mono HWB.out.size))
  have lw5 := Below.refl w5.heap.size w5
  clear lN lR HTN HWN
  refine (impl_EmptyTrays _ X _ HX.out (by have := HXL.out; omega) D3.out (by rw [D1.out]; exact D4.out)).mono ?_
  rw [D1.out]
  rintro e w6 ⟨va, rfl, oa, b⟩
  have l6 := later_trans lw5 b
  have OA := Lib.hid oa
  replace HX := Lib.hid (HX.out.on b)
  clear b lw5 oa
  obtain ⟨gp, _, _, _, _⟩ := partsD HD.out
  have GP := Lib.hid gp; clear gp
  obtain ⟨Ax, nx, cx, rfl, rfl, _, _, _⟩ := HX.out
  go_wp2_with fail
  refine (so_batch _ _ R.round _ OA.out.rd (R0.out.on l6)).mono ?_
  rintro e w7 ⟨rfl, b⟩
  have l7 := later_trans l6 b
  replace OA := Lib.hid (OA.out.below b)
  clear b l6 HX
  go_wp2_with fail
  refine (impl_InOrder _ _ d.plan R.round _ (GP.out.on l7) OA.out.rd).mono ?_
  rintro e w8 ⟨b, rfl, hb, bb⟩
  obtain rfl : b = true := hb.2 ⟨D5.out, D6.out⟩
  have l8 := later_trans l7 bb
  clear bb l7 hb
  have hrl := okB_len' D4.out
  go_wp2_with fail
  refine (impl_LeastTrays R.round.length d.size _ hrl D7.out).mono ?_
  rw [← D2.out]
  rintro e w9 ⟨rfl, rfl⟩
  go_wp2_with fail
  go_ret
  exact ⟨rfl, HWB.out.trans (l8.mono HWB.out.size)⟩

end Go.Proofs.Ytnlljekijlkigaa
