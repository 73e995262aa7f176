/- FnFinishFirst: the walk of the law. -/
import Derived.Test.YtekjjgnokjhleaaQ24
import Derived.Test.YtekjjgnokjhleaaQ25
import Derived.Test.YtekjjgnokjhleaaQ35
import Derived.Deep.RegionHeld3
namespace Go.Proofs.Ytekjjgnokjhleaa
open Go.RowKit

set_option maxRecDepth 100000 in
set_option maxHeartbeats 2000000 in
theorem walk_FnFinishFirst (w : World) (v : Value) (bs : List UInt8) (hv : rd w w.heap.size v bs) :
    Calls Try.prog 12 #[v] w fun e w' => e = .returned (.bool true) ∧ Below w.heap.size w w' := by
  have hv0 := hv
  obtain ⟨A, n, c, rfl, hn, hc, hm, _⟩ := hv
  subst hn
  unfold maxLen at hm
  go_enter Try.func12, Try.ntmps12
  by_cases hsz : 1048576 < bs.length
  · go_wp2_with fail
    go_ret
    exact ⟨rfl, Below.refl _ _⟩
  go_wp2_with fail
  refine (draw_DrawRunPlan _ bs w hv0).mono ?_
  rintro e w1 ⟨vp, vb, p, xs, rfl, ov, ob, hxl, hol, b1⟩
  have hvp := ov.rdp
  obtain ⟨A0, c0, e0⟩ := openP hvp
  obtain ⟨w0, hw0⟩ : ∃ w0, w0 = w1.alloc (Obj.cells #[.int .i64 p.bins, .int .i64 p.passes, .slice A0 p.order.length c0] 25) := ⟨_, rfl⟩
  have q0 := box_cells hw0 0 (.int .i64 p.bins) rfl
  have q1 := box_cells hw0 1 (.int .i64 p.passes) rfl
  have q2 := box_cells hw0 2 (.slice A0 p.order.length c0) rfl
  have HT := Lib.hid (box_later hw0).1
  have HP := Lib.hid (hvp.on HT.out)
  subst e0
  have HB := Lib.hid (ob.rd.on HT.out)
  have HWB : Hid (Below w.heap.size w w0) := b1.trans (HT.out.mono b1.size)
  have HW0 := Lib.hid hw0
  have l0 := Below.refl w0.heap.size w0
  clear hw0 hvp ov ob b1 HT hv0
  go_wp2_with fail
  rw [← HW0.out]
  refine (impl_RunPlan _ _ p xs _ HP.out HB.out).mono ?_
  rintro e w2 ⟨vx, vo1, rfl, ox, _, _, b2⟩
  have OX2 := Lib.hid ox
  have l2 := later_trans l0 b2
  clear ox b2 l0
  go_wp2_with fail
  refine (spec_RunPlan _ _ p xs _ (HP.out.on l2) (HB.out.on l2)).mono ?_
  rintro e w3 ⟨vw, vo2, rfl, ow, _, _, b3⟩
  have OX3 := Lib.hid (OX2.out.below b3)
  have OW3 := Lib.hid ow
  have l3 := later_trans l2 b3
  clear ow b3 l2 OX2
  go_wp2_with fail
  refine (so_batch _ _ _ _ OX3.out.rd OW3.out.rd).mono ?_
  rintro e w4 ⟨rfl, b4⟩
  have OX4 := Lib.hid (OX3.out.below b4)
  have OW4 := Lib.hid (OW3.out.below b4)
  have l4 := later_trans l3 b4
  clear b4 l3 OX3 OW3
  have htt : ((true : Bool) != true) = false := rfl
  have hff : ((false : Bool) != false) = false := rfl
  have hfe : ((false : Bool) == false) = true := rfl
  cases hok : rpOk p xs
  · clear hok
    go_wp2_with fail
    refine (so_batch _ _ _ _ OX4.out.rd OW4.out.rd).mono ?_
    rintro e w5 ⟨rfl, b5⟩
    have l5 := later_trans l4 b5
    go_wp2_with fail
    go_ret
    exact ⟨rfl, HWB.out.trans (l5.mono HWB.out.size)⟩
  have HOK := Lib.hid hok; clear hok OW4

  have hrp := HOK.out
  unfold rpOk at hrp
  simp only [Bool.and_eq_true] at hrp
  obtain ⟨hp, hbk⟩ := hrp
  have hpb := planOk_bins hp
  have HBK := Lib.hid hbk
  have HPP := Lib.hid hp
  obtain ⟨N, hN⟩ : ∃ N : Nat, p.passes = (N : Int) := ⟨p.passes.toNat, by omega⟩
  have HN := Lib.hid hN
  have hN4 : N ≤ 4 := by omega
  have HRD : Hid (rpRound p xs = passesN p 0 N xs) := by show _ = _; unfold rpRound; rw [if_pos HOK.out, show p.passes.toNat = N by omega]
  have OX5 : Hid (own 44 w0.heap.size w4 vx (passesN p 0 N xs)) := by show own _ _ _ _ _; rw [← HRD.out]; exact OX4.out
  clear hbk hp hN OX4
  go_wp2_with fail
  go_loopw [11, 12] (fun t i wr => ∃ (j : Nat) (I : Int), j ≤ N ∧ Hid (I = (j : Int)) ∧ i = .int .i64 I ∧ Hid (rd wr wr.heap.size t (passesN p 0 j xs)) ∧ Below w4.heap.size w4 wr) (fun _ i _ => 10 - (intOf i).toNat)
  case atStart => exact ⟨0, 0, Nat.zero_le _, rfl, rfl, HB.out.on l4, Below.refl _ _⟩
  case round =>
    obtain ⟨j, I, hj, HI, rfl, HY, bb⟩ := hrel
    obtain ⟨w6, rfl⟩ : ∃ w6 : World, w6 = wr := ⟨_, rfl⟩
    have l6 := later_trans l4 bb
    by_cases hlt : j < N
    · have hlp : I < p.passes := by have := HI.out; have := HN.out; omega
      have hI0 : 0 ≤ I := by have := HI.out; omega
      have hI4 : I ≤ 4 := by have := HI.out; omega
      have HIT : Hid (I.toNat = j) := by have := HI.out; show _ = _; omega
      have HOB : Hid (okB (passesN p 0 j xs) = true) := okB_passesN p j 0 _ HBK.out
      have HPO : Hid (passOk p I = true) := passOk_iff.2 ⟨HPP.out, hI0, hlp⟩
      have HPS : Hid (ppOk p (passesN p 0 j xs) I = true) := by
        show _ = _
        unfold ppOk
        rw [HPO.out, HOB.out]; rfl
      have HBE : Hid (ppBins p (passesN p 0 j xs) I = binsOf (fun x => binI p x.code j) p.bins.toNat (passesN p 0 j xs)) := by
        show _ = _
        unfold ppBins
        rw [if_pos HPS.out, HIT.out]
      have HBO : Hid (binsOk p (ppBins p (passesN p 0 j xs) I) I = true) := by
        show _ = _
        rw [HBE.out]
        exact binsOk_iff.2 ⟨HPO.out, binsOf_len _ _ _, okB_binsOf _ _ HOB.out⟩
      have HPB : Hid (collected (ppBins p (passesN p 0 j xs) I) = passesN p 0 (j + 1) xs) := by
        show _ = _
        rw [passesN_succ, HBE.out, collected_yes, Nat.zero_add]
        · rfl
        · unfold collectOk
          rw [binsOf_len, decide_eq_true (by omega), okB_binsOf _ _ HOB.out]; rfl
      have HFI : Hid (finished p (ppBins p (passesN p 0 j xs) I) I = passesN p 0 N xs) := by
        show _ = _
        have hpN := HN.out
        unfold finished
        rw [if_pos HBO.out, HBE.out, HIT.out, show p.passes.toNat = N by omega]
        exact passesN_at p hlt xs
      clear HBE
      generalize passesN p 0 j xs = Z at *
      go_wp2_with fail
      refine (impl_PlanPass _ _ p Z _ _ (HP.out.on l6) HY.out).mono ?_
      rw [HPS.out]
      rintro e w7 ⟨vC, vD, vu, rfl, oc, _, _, b7⟩
      have HC7 : Hid (rd w7 w7.heap.size vC (ppBins p Z I)) := ownLL.rd ⟨vu, oc⟩
      have bb7 := later_trans bb b7
      have l7 := later_trans l6 b7
      clear oc b7 l6 bb HY
      generalize ppBins p Z I = ZB at *
      go_wp2_with fail
      refine (impl_FinishPasses _ _ p ZB I _ (HP.out.on l7) HC7.out).mono ?_
      rw [HBO.out, HFI.out]
      rintro e w8 ⟨vF, rfl, oF, b8⟩
      have HF8 : Hid (rd w8 w8.heap.size vF (passesN p 0 N xs)) := oF.rd
      have HC8 := Lib.hid (HC7.out.on b8)
      have bb8 := later_trans bb7 b8
      clear oF b8 bb7 HC7 l7
      have OX8 := Lib.hid (OX5.out.below bb8)
      go_wp2_with fail
      refine (so_batch _ _ _ _ HF8.out OX8.out.rd).mono ?_
      rintro e w9 ⟨rfl, b9⟩
      have HC9 := Lib.hid (HC8.out.on b9)
      have bb9 := later_trans bb8 b9
      clear b9 bb8 HC8 OX8
      go_wp2_with fail
      refine (impl_CollectBins _ ZB _ HC9.out).mono ?_
      rw [HPB.out]
      rintro e w10 ⟨vY8, rfl, oY8, b10⟩
      have HY8 : Hid (rd w10 w10.heap.size vY8 (passesN p 0 (j + 1) xs)) := oY8.rd
      have bb10 := later_trans bb9 b10
      clear oY8 b10 bb9
      go_wp2_with fail
      go_roundw
      case rel => exact ⟨j + 1, I + 1, by omega, by show _ = _; have := HI.out; omega, by go_num, HY8.out, bb10⟩
      case measure => simp [intOf]; omega
    · have hlp : ¬ I < p.passes := by have := HI.out; have := HN.out; omega
      go_wp2_with fail
      go_ret
      exact ⟨rfl, HWB.out.trans (l6.mono HWB.out.size)⟩

end Go.Proofs.Ytekjjgnokjhleaa
