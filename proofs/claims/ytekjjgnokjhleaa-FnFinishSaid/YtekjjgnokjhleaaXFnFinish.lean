/- FnFinish: the walk of the law. -/
import Derived.Test.YtekjjgnokjhleaaQ24
import Derived.Test.YtekjjgnokjhleaaQ25
import Derived.Test.YtekjjgnokjhleaaQ33
import Derived.Deep.RegionHeld3
namespace Go.Proofs.Ytekjjgnokjhleaa
open Go.RowKit

set_option maxRecDepth 100000 in
set_option maxHeartbeats 1000000 in
theorem walk_FnFinish (w : World) (v : Value) (bs : List UInt8) (hv : rd w w.heap.size v bs) :
    Calls Try.prog 6 #[v] w fun e w' => e = .returned (.bool true) ∧ Below w.heap.size w w' := by
  have hv0 := hv
  obtain ⟨A, n, c, rfl, hn, hc, hm, _⟩ := hv
  subst hn
  unfold maxLen at hm
  go_enter Try.func6, Try.ntmps6
  by_cases hsz : 1048576 < bs.length
  · go_wp2_with fail
    go_ret
    exact ⟨rfl, Below.refl _ _⟩
  go_wp2_with fail
  refine (draw_DrawFinishPasses _ bs w hv0).mono ?_
  rintro e w1 ⟨vp, vb, p, xss, k, rfl, ov, ob, hk, hxl, hol, b1⟩
  have hvp := ov.rdp
  obtain ⟨A0, c0, e0⟩ := openP hvp
  obtain ⟨w0, hw0⟩ : ∃ w0, w0 = w1.alloc (Obj.cells #[.int .i64 p.bins, .int .i64 p.passes, .slice A0 p.order.length c0] 25) := ⟨_, rfl⟩
  have q0 := box_cells hw0 0 (.int .i64 p.bins) rfl
  have q1 := box_cells hw0 1 (.int .i64 p.passes) rfl
  have q2 := box_cells hw0 2 (.slice A0 p.order.length c0) rfl
  have HT := Lib.hid (box_later hw0).1
  have HP := Lib.hid (hvp.on HT.out)
  subst e0
  have HB := Lib.hid (ob.rd.on HT.out)
  have HWB : Hid (Below w.heap.size w w0) := b1.trans (HT.out.mono b1.size)
  have HW0 := Lib.hid hw0
  have l0 := Below.refl w0.heap.size w0
  clear hw0 hvp ov ob b1 HT hv0
  go_wp2_with fail
  rw [← HW0.out]
  refine (impl_FinishPasses _ _ p xss k _ HP.out HB.out).mono ?_
  rintro e w2 ⟨vx, rfl, ox, b2⟩
  have OX2 := Lib.hid ox
  have l2 := later_trans l0 b2
  clear ox b2 l0
  go_wp2_with fail
  refine (spec_FinishPasses _ _ p xss k _ (HP.out.on l2) (HB.out.on l2) (by omega)).mono ?_
  rintro e w3 ⟨vw, rfl, ow, b3⟩
  have OX3 := Lib.hid (OX2.out.below b3)
  have OW3 := Lib.hid ow
  have l3 := later_trans l2 b3
  clear ow b3 l2 OX2
  go_wp2_with fail
  refine (so_batch _ _ _ _ OX3.out.rd OW3.out.rd).mono ?_
  rintro e w4 ⟨rfl, b4⟩
  have OX4 := Lib.hid (OX3.out.below b4)
  have OW4 := Lib.hid (OW3.out.below b4)
  have l4 := later_trans l3 b4
  clear b4 l3 OX3 OW3
  have htt : ((true : Bool) != true) = false := rfl
  have hff : ((false : Bool) != false) = false := rfl
  have hfe : ((false : Bool) == false) = true := rfl
  cases hok : binsOk p xss k
  · clear hok
    go_wp2_with fail
    refine (so_batch _ _ _ _ OX4.out.rd OW4.out.rd).mono ?_
    rintro e w5 ⟨rfl, b5⟩
    have l5 := later_trans l4 b5
    go_wp2_with fail
    go_ret
    exact ⟨rfl, HWB.out.trans (l5.mono HWB.out.size)⟩
  have HOK := Lib.hid hok; clear hok OW4

  obtain ⟨⟨hp, k0, k1⟩, hbn, hbk⟩ : (planOk p = true ∧ 0 ≤ k ∧ k < p.passes) ∧ xss.length = p.bins.toNat ∧ okB xss.flatten = true := by
    obtain ⟨h1, h2, h3⟩ := binsOk_iff.1 HOK.out
    exact ⟨passOk_iff.1 h1, h2, h3⟩
  have hpb := planOk_bins hp
  obtain ⟨K, rfl⟩ := Int.eq_ofNat_of_zero_le k0
  obtain ⟨N, hN⟩ : ∃ N : Nat, p.passes = (K : Int) + 1 + N := ⟨(p.passes - (K + 1)).toNat, by omega⟩
  have HCO : Hid (collected xss = xss.flatten) := collected_yes (by unfold collectOk; rw [hbk, decide_eq_true (by omega)]; rfl)
  have HFI : Hid (finished p xss K = passesN p (K + 1) N xss.flatten) := by
    show _ = _
    unfold finished
    rw [if_pos HOK.out, Int.toNat_natCast, show p.passes.toNat - (K + 1) = N by omega]
  have HBK := Lib.hid hbk
  have HPP := Lib.hid hp
  have OX5 : Hid (own 44 w0.heap.size w4 vx (passesN p (K + 1) N xss.flatten)) := by show own _ _ _ _ _; rw [← HFI.out]; exact OX4.out
  have hK3 : K ≤ 3 := by omega
  have hNK : K + 1 + N ≤ 4 := by omega
  have HN := Lib.hid hN
  have HBN := Lib.hid hbn
  clear hbk hp OX4 hbn hN
  go_wp2_with fail
  refine (impl_CollectBins _ xss _ (HB.out.on l4)).mono ?_
  rw [HCO.out]
  rintro e w5 ⟨vY, rfl, oY, b5⟩
  have HY5 : Hid (rd w5 w5.heap.size vY xss.flatten) := oY.rd
  have OX6 := Lib.hid (OX5.out.below b5)
  have l5 := later_trans l4 b5
  clear oY b5 l4 OX5
  go_wp2_with fail
  go_loopw [10, 12] (fun t i wr => ∃ (j : Nat) (I : Int), j ≤ N ∧ Hid (I = (K : Int) + 1 + j) ∧ i = .int .i64 I ∧ Hid (rd wr wr.heap.size t (passesN p (K + 1) j xss.flatten)) ∧ Below w5.heap.size w5 wr) (fun _ i _ => 10 - (intOf i).toNat)
  case atStart => exact ⟨0, (K : Int) + 1, Nat.zero_le _, by show _ = _; simp, by go_num, HY5.out, Below.refl _ _⟩
  case round =>
    obtain ⟨j, I, hj, HI, rfl, HY, bb⟩ := hrel
    obtain ⟨w6, rfl⟩ : ∃ w6 : World, w6 = wr := ⟨_, rfl⟩
    have l6 := later_trans l5 bb
    clear HY5 l5
    by_cases hlt : j < N
    · have hlp : I < p.passes := by have := HI.out; have := HN.out; omega
      have hI0 : 0 ≤ I ∧ I ≤ 4 := by have := HI.out; omega
      obtain ⟨hI0, hI4⟩ := hI0
      have HIT : Hid (I.toNat = K + 1 + j) := by have := HI.out; show _ = _; omega
      have HOB : Hid (okB (passesN p (K + 1) j xss.flatten) = true) := okB_passesN p j (K + 1) _ HBK.out
      have HPS : Hid (ppOk p (passesN p (K + 1) j xss.flatten) I = true) := by
        show _ = _
        unfold ppOk
        rw [passOk_iff.2 ⟨HPP.out, hI0, hlp⟩, HOB.out]; rfl
      have HPB : Hid (collected (ppBins p (passesN p (K + 1) j xss.flatten) I) = passesN p (K + 1) (j + 1) xss.flatten) := by
        show _ = _
        rw [passesN_succ]
        unfold ppBins
        rw [if_pos HPS.out, HIT.out, collected_yes]
        · rfl
        · unfold collectOk
          rw [binsOf_len, decide_eq_true (by omega), okB_binsOf _ _ HOB.out]; rfl
      generalize passesN p (K + 1) j xss.flatten = Z at *
      go_wp2_with fail
      refine (impl_PlanPass _ _ p Z _ _ (HP.out.on l6) HY.out).mono ?_
      rw [HPS.out]
      rintro e w7 ⟨vC, vD, vu, rfl, oc, _, _, b7⟩
      have HC7 : Hid (rd w7 w7.heap.size vC (ppBins p Z I)) := ownLL.rd ⟨vu, oc⟩
      have bb7 := later_trans bb b7
      clear oc b7 l6 bb HY
      generalize ppBins p Z I = ZB at *
      go_wp2_with fail
      refine (impl_CollectBins _ ZB _ HC7.out).mono ?_
      rw [HPB.out]
      rintro e w8 ⟨vY8, rfl, oY8, b8⟩
      have HY8 : Hid (rd w8 w8.heap.size vY8 (passesN p (K + 1) (j + 1) xss.flatten)) := oY8.rd
      have bb8 := later_trans bb7 b8
      clear oY8 b8 bb7
      go_wp2_with fail
      go_roundw
      case rel => exact ⟨j + 1, I + 1, by omega, by show _ = _; have := HI.out; omega, by go_num, HY8.out, bb8⟩
      case measure => simp [intOf]; omega
    · have hlp : ¬ I < p.passes := by have := HI.out; have := HN.out; omega
      have e : j = N := by omega
      subst e
      have OX7 := Lib.hid (OX6.out.below bb)
      go_wp2_with fail
      refine (so_batch _ _ _ _ HY.out OX7.out.rd).mono ?_
      rintro e w7 ⟨rfl, b7⟩
      have l7 := later_trans l6 b7
      go_wp2_with fail
      go_ret
      exact ⟨rfl, HWB.out.trans (l7.mono HWB.out.size)⟩

end Go.Proofs.Ytekjjgnokjhleaa
