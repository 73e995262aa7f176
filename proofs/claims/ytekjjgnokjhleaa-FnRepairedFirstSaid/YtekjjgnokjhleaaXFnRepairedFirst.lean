/- FnRepairedFirst: the walk of the law. -/
import Derived.Test.YtekjjgnokjhleaaQ24
import Derived.Test.YtekjjgnokjhleaaQ32
import Derived.Test.YtekjjgnokjhleaaQ30
import Derived.Deep.RegionHeld3
namespace Go.Proofs.Ytekjjgnokjhleaa
open Go.RowKit

set_option maxRecDepth 100000 in
set_option maxHeartbeats 1000000 in
theorem walk_FnRepairedFirst (w : World) (v : Value) (bs : List UInt8) (hv : rd w w.heap.size v bs) :
    Calls Try.prog 9 #[v] w fun e w' => e = .returned (.bool true) ∧ Below w.heap.size w w' := by
  have hv0 := hv
  obtain ⟨A, n, c, rfl, hn, hc, hm, _⟩ := hv
  subst hn
  unfold maxLen at hm
  go_enter Try.func9, Try.ntmps9
  by_cases hsz : 1048576 < bs.length
  · go_wp2_with fail
    go_ret
    exact ⟨rfl, Below.refl _ _⟩
  go_wp2_with fail
  refine (draw_DrawRunRepaired _ bs w hv0).mono ?_
  rintro e w1 ⟨vp, vb, vm, p, xs, k, ms, rfl, ov, ob, om, hk, hxl, hml, hol, b1⟩
  have hvp := ov.rdp
  obtain ⟨A0, c0, e0⟩ := openP hvp
  obtain ⟨w0, hw0⟩ : ∃ w0, w0 = w1.alloc (Obj.cells #[.int .i64 p.bins, .int .i64 p.passes, .slice A0 p.order.length c0] 25) := ⟨_, rfl⟩
  have q0 := box_cells hw0 0 (.int .i64 p.bins) rfl
  have q1 := box_cells hw0 1 (.int .i64 p.passes) rfl
  have q2 := box_cells hw0 2 (.slice A0 p.order.length c0) rfl
  have HT := Lib.hid (box_later hw0).1
  have HP := Lib.hid (hvp.on HT.out)
  subst e0
  have HB := Lib.hid (ob.rd.on HT.out)
  have HM := Lib.hid (om.rd.on HT.out)
  have HWB : Hid (Below w.heap.size w w0) := b1.trans (HT.out.mono b1.size)
  have HW0 := Lib.hid hw0
  have l0 := Below.refl w0.heap.size w0
  clear hw0 hvp ov ob om b1 HT hv0
  go_wp2_with fail
  rw [← HW0.out]
  refine (impl_RunRepaired _ _ _ p xs k ms _ HP.out HB.out HM.out).mono ?_
  rintro e w2 ⟨vx, rfl, ox, b2⟩
  have OX2 := Lib.hid ox
  have l2 := later_trans l0 b2
  clear ox b2 l0
  go_wp2_with fail
  refine (spec_RunRepaired _ _ _ p xs k ms _ (HP.out.on l2) (HB.out.on l2) (HM.out.on l2)).mono ?_
  rintro e w3 ⟨vw, rfl, ow, b3⟩
  have OX3 := Lib.hid (OX2.out.below b3)
  have OW3 := Lib.hid ow
  have l3 := later_trans l2 b3
  clear ow b3 l2 OX2
  go_wp2_with fail
  refine (so_batch _ _ _ _ OX3.out.rd OW3.out.rd).mono ?_
  rintro e w4 ⟨rfl, b4⟩
  have OX4 := Lib.hid (OX3.out.below b4)
  have OW4 := Lib.hid (OW3.out.below b4)
  have l4 := later_trans l3 b4
  clear b4 l3 OX3 OW3
  have htt : ((true : Bool) != true) = false := rfl
  have hff : ((false : Bool) != false) = false := rfl
  have hfe : ((false : Bool) == false) = true := rfl
  cases hok : fpOk p xs k ms
  · clear hok
    go_wp2_with fail
    refine (so_batch _ _ _ _ OX4.out.rd OW4.out.rd).mono ?_
    rintro e w5 ⟨rfl, b5⟩
    have l5 := later_trans l4 b5
    go_wp2_with fail
    go_ret
    exact ⟨rfl, HWB.out.trans (l5.mono HWB.out.size)⟩
  have HOK := Lib.hid hok; clear hok OW4

  have HRP := Lib.hid (fpOk_rp HOK.out)
  have HP0 := Lib.hid (fpOk_first HOK.out)
  have HPN := Lib.hid (fpOk_nil HOK.out)
  go_wp2_with fail
  refine (impl_RunRepaired _ _ _ p xs 0 ms _ (HP.out.on l4) (HB.out.on l4) (HM.out.on l4)).mono ?_
  rw [HP0.out]
  rintro e w5 ⟨vF, rfl, oF, b5⟩
  have OF5 := Lib.hid oF
  have OX5 := Lib.hid (OX4.out.below b5)
  have l5 := later_trans l4 b5
  clear oF b5 l4 OX4
  go_wp2_with fail
  refine (impl_RunPlan _ _ p xs _ (HP.out.on l5) (HB.out.on l5)).mono ?_
  rintro e w6 ⟨vR, vO, rfl, oR, _, _, b6⟩
  have OR6 := Lib.hid oR
  have OX6 := Lib.hid (OX5.out.below b6)
  have OF6 := Lib.hid (OF5.out.below b6)
  have l6 := later_trans l5 b6
  clear oR b6 l5 OX5 OF5
  go_wp2_with fail
  refine (impl_RunRepaired _ _ _ p xs k [] _ (HP.out.on l6) (HB.out.on l6) rd.nil_).mono ?_
  rw [HPN.out, rpd_none HPN.out]
  rintro e w7 ⟨vN, rfl, oN, b7⟩
  have ON7 := Lib.hid oN
  have OX7 := Lib.hid (OX6.out.below b7)
  have OF7 := Lib.hid (OF6.out.below b7)
  have OR7 := Lib.hid (OR6.out.below b7)
  have l7 := later_trans l6 b7
  clear oN b7 l6 OX6 OF6 OR6
  go_wp2_with fail
  refine (impl_InOrder _ _ p (rpdRound p xs 0 ms) _ (HP.out.on l7) OF7.out.rd).mono ?_
  rintro e w8 ⟨b, rfl, hb, b8⟩
  obtain rfl : b = true := hb.2 ⟨rpd_rp HP0.out, rpd_first HP0.out⟩
  have ON8 := Lib.hid (ON7.out.below b8)
  have OX8 := Lib.hid (OX7.out.below b8)
  have OF8 := Lib.hid (OF7.out.below b8)
  have OR8 := Lib.hid (OR7.out.below b8)
  have l8 := later_trans l7 b8
  clear hb b8 l7 OX7 OF7 OR7 ON7
  go_wp2_with fail
  refine (so_all _ _ _ _ _ OF8.out.rd OR8.out.rd (okB_rp HRP.out) (rpd_same HP0.out)).mono ?_
  rintro e w9 ⟨rfl, b9⟩
  have ON9 := Lib.hid (ON8.out.below b9)
  have OX9 := Lib.hid (OX8.out.below b9)
  have OR9 := Lib.hid (OR8.out.below b9)
  have l9 := later_trans l8 b9
  clear b9 l8 OX8 OF8 OR8 ON8
  go_wp2_with fail
  refine (so_batch _ _ _ _ ON9.out.rd OR9.out.rd).mono ?_
  rintro e w10 ⟨rfl, b10⟩
  have OX10 := Lib.hid (OX9.out.below b10)
  have OR10 := Lib.hid (OR9.out.below b10)
  have l10 := later_trans l9 b10
  clear b10 l9 OX9 OR9 ON9
  go_wp2_with fail
  refine (so_all _ _ _ _ _ OX10.out.rd OR10.out.rd (okB_rp HRP.out) (rpd_same HOK.out)).mono ?_
  rintro e w11 ⟨rfl, b11⟩
  have l11 := later_trans l10 b11
  go_wp2_with fail
  go_ret
  exact ⟨rfl, HWB.out.trans (l11.mono HWB.out.size)⟩

end Go.Proofs.Ytekjjgnokjhleaa
