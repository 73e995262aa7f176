/- FnFateOf: the walk of the law. Written by gen_ld.py. -/
import Derived.Test.YtnlljekijlkigaaQ44
import Derived.Test.YtnlljekijlkigaaQ43
import Derived.Deep.RegionHeld3
namespace Go.Proofs.Ytnlljekijlkigaa
open Go.RowKit

set_option maxRecDepth 100000 in
set_option maxHeartbeats 2000000 in
theorem walk_FnFateOf (w : World) (v : Value) (bs : List UInt8) (hv : rd w w.heap.size v bs) :
    Calls Try.prog 7 #[v] w fun e w' => e = .returned (.bool true) ∧ Below w.heap.size w w' := by
  have hv0 := hv
  obtain ⟨A, n, c, rfl, hn, hc, hm, _⟩ := hv
  subst hn
  unfold maxLen at hm
  go_enter Try.func7, Try.ntmps7
  by_cases hsz : 1048576 < bs.length
  · go_wp2_with fail
    go_ret
    exact ⟨rfl, Below.refl _ _⟩
  go_wp2_with fail
  refine (draw_DrawFateOf _ bs w hv0).mono ?_
  rintro e w1 ⟨vd, d, s, rfl, ov, hss, hol, hfl, hhl, b1⟩
  have hvd := ov
  obtain ⟨A0, c0, A1, c1, A2, c2, e0⟩ := openD hvd
  obtain ⟨w0, hw0⟩ : ∃ w0, w0 = w1.alloc (Obj.cells #[.int .i64 d.plan.bins, .int .i64 d.plan.passes, .slice A0 d.plan.order.length c0, .slice A1 d.fwds.length c1, .slice A2 d.held.length c2, .int .i64 d.size] 28) := ⟨_, rfl⟩
  have q0 := box_cells hw0 0 (.int .i64 d.plan.bins) rfl
  have q1 := box_cells hw0 1 (.int .i64 d.plan.passes) rfl
  have q2 := box_cells hw0 2 (.slice A0 d.plan.order.length c0) rfl
  have q3 := box_cells hw0 3 (.slice A1 d.fwds.length c1) rfl
  have q4 := box_cells hw0 4 (.slice A2 d.held.length c2) rfl
  have q5 := box_cells hw0 5 (.int .i64 d.size) rfl
  have HT := Lib.hid (box_later hw0).1
  have HD := Lib.hid (hvd.on HT.out)
  subst e0
  have HSS := Lib.hid hss
  have HWB : Hid (Below w.heap.size w w0) := b1.trans (HT.out.mono b1.size)
  have HW0 := Lib.hid hw0
  have l0 := Below.refl w0.heap.size w0
  clear hw0 hvd ov hss b1 HT hv0
  go_wp2_with fail
  rw [← HW0.out]
  have hss := HSS.out
  have HCS : Hid (s.size ≤ maxLen) := hss
  clear hss
  refine (impl_FateOf _ d s _ HD.out HCS.out).mono ?_
  rintro e w2 ⟨rfl, b⟩
  have l2 := later_trans l0 b
  clear b l0
  go_wp2_with fail
  refine (spec_FateOf _ d s _ (HD.out.on l2) HCS.out).mono ?_
  rintro e w3 ⟨rfl, b⟩
  have l3 := later_trans l2 b
  clear b l2
  have htt : ((true : Bool) != true) = false := rfl
  have hff : ((false : Bool) != false) = false := rfl
  have hfe : ((false : Bool) == false) = true := rfl
  cases hdo : dayOk d
  · have HDO := Lib.hid hdo
    rw [fate_none (d := d) (c := s) (by rw [hdo]; rfl)]
    clear hdo
    rw [show fateW 0 = ({ data := #[] } : ByteArray) from rfl]
    go_wp2_with fail
    refine (impl_DayValid _ d _ (HD.out.on l3)).mono ?_
    rw [HDO.out]
    rintro e w4 ⟨rfl, b⟩
    have l4 := later_trans l3 b
    clear b l3
    go_wp2_with fail
    go_ret
    exact ⟨rfl, HWB.out.trans (l4.mono HWB.out.size)⟩
  have HDO := Lib.hid hdo; clear hdo
  cases hco : isCode s
  · have HCO := Lib.hid hco
    rw [fate_none (d := d) (c := s) (by rw [hco, Bool.and_false])]
    clear hco
    rw [show fateW 0 = ({ data := #[] } : ByteArray) from rfl]
    go_wp2_with fail
    refine (impl_DayValid _ d _ (HD.out.on l3)).mono ?_
    rw [HDO.out]
    rintro e w4 ⟨rfl, b⟩
    have l4 := later_trans l3 b
    clear b l3
    go_wp2_with fail
    refine (impl_CodeValid s _ HCS.out).mono ?_
    rw [HCO.out]
    rintro e w5 ⟨rfl, rfl⟩
    go_wp2_with fail
    go_ret
    exact ⟨rfl, HWB.out.trans (l4.mono HWB.out.size)⟩
  have HCO := Lib.hid hco; clear hco
  have HDC : Hid ((dayOk d && isCode s) = true) := by show _ = _; rw [HDO.out, HCO.out]; rfl
  have HDP : Hid (planOk d.plan = true ∧ fwdsOk d.fwds = true) := by
    have h := HDO.out
    unfold dayOk at h
    simp only [Bool.and_eq_true] at h
    exact ⟨h.1.1.1, h.1.1.2⟩
  have HRS : Hid (resolve d.fwds s = follow d.fwds s) := by
    show _ = _
    unfold resolve
    rw [HCO.out, HDP.out.2]
    rfl
  obtain ⟨gp, _, gf, gh, _⟩ := partsD HD.out
  have GP := Lib.hid gp; have GF := Lib.hid gf; have GH := Lib.hid gh
  clear gp gf gh
  cases hfo : (follow d.fwds s).2.2
  · rw [fate_stuck HDC.out hfo]
    have HFO : Hid (resolve d.fwds s = ((follow d.fwds s).1, (follow d.fwds s).2.1, false)) := by show _ = _; rw [HRS.out, ← hfo]
    clear hfo
    rw [show fateW 1 = ({ data := #[115, 116, 117, 99, 107] } : ByteArray) from rfl]
    go_wp2_with fail
    refine (impl_DayValid _ d _ (HD.out.on l3)).mono ?_
    rw [HDO.out]
    rintro e w4 ⟨rfl, b⟩
    have l4 := later_trans l3 b
    clear b l3
    go_wp2_with fail
    refine (impl_CodeValid s _ HCS.out).mono ?_
    rw [HCO.out]
    rintro e w5 ⟨rfl, rfl⟩
    go_wp2_with fail
    refine (impl_ResolveCode _ d.fwds s _ (GF.out.on l4) HCS.out).mono ?_
    rw [HFO.out]
    rintro e w5 ⟨rfl, b⟩
    have l5 := later_trans l4 b
    clear b l4
    go_wp2_with fail
    go_ret
    exact ⟨rfl, HWB.out.trans (l5.mono HWB.out.size)⟩
  obtain ⟨n, hn, hfa, hf2, hf3⟩ := fate_word HDC.out hfo
  obtain ⟨_, hag, hdc⟩ := fate_again HDC.out hfo
  have HFS : Hid ((follow d.fwds s).1.size ≤ maxLen) := by
    rw [Bool.and_eq_true] at hdc
    exact isCode_len hdc.2
  rw [hfa] at hag
  have HFO : Hid (resolve d.fwds s = ((follow d.fwds s).1, (follow d.fwds s).2.1, true)) := by show _ = _; rw [HRS.out, ← hfo]
  clear hfo hdc
  rw [hfa]
  obtain ⟨u, hu⟩ : ∃ u, u = (follow d.fwds s).1 := ⟨_, rfl⟩
  obtain ⟨kk, hkk⟩ : ∃ kk, kk = (follow d.fwds s).2.1 := ⟨_, rfl⟩
  rw [← hu, ← hkk] at HFO
  rw [← hu] at hag HFS hf2 hf3 ⊢
  have HAG := Lib.hid hag
  have HRK : Hid (rankI d.plan u = rkI d.plan.order u) := by show _ = _; unfold rankI; rw [if_pos HDP.out.1]
  obtain ⟨rh, hrh⟩ : ∃ rh, rh = rkI d.held u := ⟨_, rfl⟩
  obtain ⟨rr, hrr⟩ : ∃ rr, rr = rkI d.plan.order u := ⟨_, rfl⟩
  rw [← hrr] at HRK
  rw [← hrh, ← hrr] at hf3
  rw [← hrh] at hf2
  have HRH := Lib.hid hrh.symm
  clear hu hkk hag hfa hrh hrr HRS
  rcases hn with rfl | rfl | rfl
  · have h2 : 0 ≤ rh := hf2.1 rfl
    have hd2 : decide (0 ≤ rh) = true := decide_eq_true h2
    clear hf2 hf3
    rw [show fateW 2 = ({ data := #[104, 101, 108, 100] } : ByteArray) from rfl] at HAG ⊢
    go_wp2_with fail
    refine (impl_DayValid _ d _ (HD.out.on l3)).mono ?_
    rw [HDO.out]
    rintro e w4 ⟨rfl, b⟩
    have l4 := later_trans l3 b
    clear b l3
    go_wp2_with fail
    refine (impl_CodeValid s _ HCS.out).mono ?_
    rw [HCO.out]
    rintro e w5 ⟨rfl, rfl⟩
    go_wp2_with fail
    refine (impl_ResolveCode _ d.fwds s _ (GF.out.on l4) HCS.out).mono ?_
    rw [HFO.out]
    rintro e w5 ⟨rfl, b⟩
    have l5 := later_trans l4 b
    clear b l4
    go_wp2_with fail
    refine (impl_FateOf _ d u _ (HD.out.on l5) HFS.out).mono ?_
    rw [HAG.out]
    rintro e w6 ⟨rfl, b⟩
    have l6 := later_trans l5 b
    clear b l5
    go_wp2_with fail
    refine (impl_PlanRank _ d.plan u _ (GP.out.on l6)).mono ?_
    rw [HRK.out]
    rintro e w7 ⟨rfl, b⟩
    have l7 := later_trans l6 b
    clear b l6
    go_wp2_with fail
    refine (so_has _ d.held u _ (GH.out.on l7)).mono ?_
    rw [HRH.out, hd2]
    rintro e w8 ⟨rfl, rfl⟩
    go_wp2_with fail
    refine (so_has _ d.held u _ (GH.out.on l7)).mono ?_
    rw [HRH.out, hd2]
    rintro e w8 ⟨rfl, rfl⟩
    go_wp2_with fail
    go_ret
    exact ⟨rfl, HWB.out.trans (l7.mono HWB.out.size)⟩
  · have h3 := hf3.1 rfl
    have h2 : ¬ 0 ≤ rh := h3.1
    have hd2 : decide (0 ≤ rh) = false := decide_eq_false h2
    have h4 : 0 ≤ rr := h3.2
    have hd4 : decide (0 ≤ rr) = true := decide_eq_true h4
    clear h3
    clear hf2 hf3
    rw [show fateW 3 = ({ data := #[114, 111, 117, 110, 100] } : ByteArray) from rfl] at HAG ⊢
    go_wp2_with fail
    refine (impl_DayValid _ d _ (HD.out.on l3)).mono ?_
    rw [HDO.out]
    rintro e w4 ⟨rfl, b⟩
    have l4 := later_trans l3 b
    clear b l3
    go_wp2_with fail
    refine (impl_CodeValid s _ HCS.out).mono ?_
    rw [HCO.out]
    rintro e w5 ⟨rfl, rfl⟩
    go_wp2_with fail
    refine (impl_ResolveCode _ d.fwds s _ (GF.out.on l4) HCS.out).mono ?_
    rw [HFO.out]
    rintro e w5 ⟨rfl, b⟩
    have l5 := later_trans l4 b
    clear b l4
    go_wp2_with fail
    refine (impl_FateOf _ d u _ (HD.out.on l5) HFS.out).mono ?_
    rw [HAG.out]
    rintro e w6 ⟨rfl, b⟩
    have l6 := later_trans l5 b
    clear b l5
    go_wp2_with fail
    refine (impl_PlanRank _ d.plan u _ (GP.out.on l6)).mono ?_
    rw [HRK.out]
    rintro e w7 ⟨rfl, b⟩
    have l7 := later_trans l6 b
    clear b l6
    go_wp2_with fail
    refine (so_has _ d.held u _ (GH.out.on l7)).mono ?_
    rw [HRH.out, hd2]
    rintro e w8 ⟨rfl, rfl⟩
    go_wp2_with fail
    refine (so_has _ d.held u _ (GH.out.on l7)).mono ?_
    rw [HRH.out, hd2]
    rintro e w8 ⟨rfl, rfl⟩
    go_wp2_with fail
    go_ret
    exact ⟨rfl, HWB.out.trans (l7.mono HWB.out.size)⟩
  · have h2 : ¬ 0 ≤ rh := fun h => by have := hf2.2 h; omega
    have hd2 : decide (0 ≤ rh) = false := decide_eq_false h2
    have h4 : ¬ 0 ≤ rr := fun h => by have := hf3.2 ⟨h2, h⟩; omega
    have hd4 : decide (0 ≤ rr) = false := decide_eq_false h4
    clear hf2 hf3
    rw [show fateW 4 = ({ data := #[115, 116, 114, 97, 110, 103, 101] } : ByteArray) from rfl] at HAG ⊢
    go_wp2_with fail
    refine (impl_DayValid _ d _ (HD.out.on l3)).mono ?_
    rw [HDO.out]
    rintro e w4 ⟨rfl, b⟩
    have l4 := later_trans l3 b
    clear b l3
    go_wp2_with fail
    refine (impl_CodeValid s _ HCS.out).mono ?_
    rw [HCO.out]
    rintro e w5 ⟨rfl, rfl⟩
    go_wp2_with fail
    refine (impl_ResolveCode _ d.fwds s _ (GF.out.on l4) HCS.out).mono ?_
    rw [HFO.out]
    rintro e w5 ⟨rfl, b⟩
    have l5 := later_trans l4 b
    clear b l4
    go_wp2_with fail
    refine (impl_FateOf _ d u _ (HD.out.on l5) HFS.out).mono ?_
    rw [HAG.out]
    rintro e w6 ⟨rfl, b⟩
    have l6 := later_trans l5 b
    clear b l5
    go_wp2_with fail
    refine (impl_PlanRank _ d.plan u _ (GP.out.on l6)).mono ?_
    rw [HRK.out]
    rintro e w7 ⟨rfl, b⟩
    have l7 := later_trans l6 b
    clear b l6
    go_wp2_with fail
    refine (so_has _ d.held u _ (GH.out.on l7)).mono ?_
    rw [HRH.out, hd2]
    rintro e w8 ⟨rfl, rfl⟩
    go_wp2_with fail
    refine (so_has _ d.held u _ (GH.out.on l7)).mono ?_
    rw [HRH.out, hd2]
    rintro e w8 ⟨rfl, rfl⟩
    go_wp2_with fail
    go_ret
    exact ⟨rfl, HWB.out.trans (l7.mono HWB.out.size)⟩

end Go.Proofs.Ytnlljekijlkigaa
