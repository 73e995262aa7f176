/- FnCheckReport: the walk of the law. Written by gen_fcr.py. -/
import Derived.Test.YtffbcfaahegglaaGreatDoorQ34
import Derived.Test.YtffbcfaahegglaaGreatDoorQ35
import Derived.Test.YtffbcfaahegglaaGreatDoorQ33
import Derived.Test.YtffbcfaahegglaaGreatDoorQ43
namespace Go.Proofs.YtffbcfaahegglaaGreatDoor
open Go.RowKit

theorem allL4 (r : Rpt) : allL r = all4 r := rfl
/-- Where the day has a report: a report is accepted exactly if it is that of the day. -/
theorem cr_eq {d : Dy} {xs : List Ltr} {r : Rpt} (h : rdOk d xs = true) : crB d xs r = eqR (rptOf d xs) r := by
  unfold crB
  rw [h, Bool.true_and, Bool.eq_iff_iff, crE_iff, eqR_iff]
  constructor
  · intro e
    exact (fmtR_inj (x := rptOf d xs) (r := r) (by rw [← allL4]; exact okB_all h) e.symm).symm
  · intro e
    rw [e]
theorem cr_self {d : Dy} {xs : List Ltr} (h : rdOk d xs = true) : crB d xs (rptOf d xs) = true := by
  rw [cr_eq h, eqR_iff]

set_option maxRecDepth 100000 in
set_option maxHeartbeats 3200000 in
theorem walk_FnCheckReport (w : World) (v : Value) (bs : List UInt8) (hv : rd w w.heap.size v bs) (ht : TabW w) :
    Calls Tryz.prog 3 #[v] w fun e w' => e = .returned (.bool true) ∧ Below w.heap.size w w' := by
  have hv0 := hv
  obtain ⟨A, n, c, rfl, hn, hc, hm, _⟩ := hv
  subst hn
  unfold maxLen at hm
  have HTB := Lib.hid ht; clear ht
  go_enter Tryz.func3, Tryz.ntmps3
  by_cases hsz : 1048576 < bs.length
  · go_wp2_with fail
    go_ret
    exact ⟨rfl, Below.refl _ _⟩
  go_wp2_with fail
  refine (draw_DrawCheckReport _ bs w hv0).mono ?_
  rintro e w1 ⟨vd, vb, vr, d, xs, r, rfl, hd, hb, hr, hle, hxl, b1⟩
  obtain ⟨D0, d0, D1, d1, D2, d2, e0⟩ := openD hd
  obtain ⟨A0, a0, A1, a1, A2, a2, A3, a3, e1⟩ := openR hr
  obtain ⟨wa, hwa⟩ : ∃ u, u = w1.alloc (Obj.cells #[.int .i64 d.plan.bins, .int .i64 d.plan.passes, .slice D0 d.plan.order.length d0, .slice D1 d.fwds.length d1, .slice D2 d.held.length d2, .int .i64 d.size] 28) := ⟨_, rfl⟩
  obtain ⟨w0, hw0⟩ : ∃ u, u = wa.alloc (Obj.cells #[.slice A0 r.round.length a0, .slice A1 r.strange.length a1, .slice A2 r.held.length a2, .slice A3 r.stuck.length a3] 31) := ⟨_, rfl⟩
  have la := (box_later hw0).1
  have q0 := fun W h => box_cells hwa 0 (.int .i64 d.plan.bins) rfl W (later_trans la h)
  have q1 := fun W h => box_cells hwa 1 (.int .i64 d.plan.passes) rfl W (later_trans la h)
  have q2 := fun W h => box_cells hwa 2 (.slice D0 d.plan.order.length d0) rfl W (later_trans la h)
  have q3 := fun W h => box_cells hwa 3 (.slice D1 d.fwds.length d1) rfl W (later_trans la h)
  have q4 := fun W h => box_cells hwa 4 (.slice D2 d.held.length d2) rfl W (later_trans la h)
  have q5 := fun W h => box_cells hwa 5 (.int .i64 d.size) rfl W (later_trans la h)
  have r0 := box_cells hw0 0 (.slice A0 r.round.length a0) rfl
  have r1 := box_cells hw0 1 (.slice A1 r.strange.length a1) rfl
  have r2 := box_cells hw0 2 (.slice A2 r.held.length a2) rfl
  have r3 := box_cells hw0 3 (.slice A3 r.stuck.length a3) rfl
  have hza : wa.heap.size = w1.heap.size + 1 := by rw [hwa]; simp
  rw [hza] at r0 r1 r2 r3
  have HT := Lib.hid (later_trans (box_later hwa).1 la)
  have HD := Lib.hid (hd.on HT.out)
  have HB := Lib.hid (hb.on HT.out)
  have HR := Lib.hid (hr.on HT.out)
  subst e0 e1
  have HWB : Hid (Below w.heap.size w w0) := b1.trans (HT.out.mono b1.size)
  have HT0 := Lib.hid (HTB.out.on HWB.out)
  have HWA := Lib.hid hwa; have HW0 := Lib.hid hw0
  have HLE : Hid (rptLe r 1048576) := by obtain ⟨h1, h2, h3, h4⟩ := hle; exact ⟨by omega, by omega, by omega, by omega⟩
  have l0 := Below.refl w0.heap.size w0
  clear hwa hw0 hd hb hr la hza b1 HT hv0 hle HTB
  go_wp2_with fail
  rw [← HWA.out, ← HW0.out]
  refine (impl_CheckReport _ _ _ d xs r _ (HD.out.on l0) (HB.out.on l0) (HR.out.on l0) (HT0.out.on l0)).mono ?_
  rintro e w2 ⟨rfl, b2⟩
  have l2 := later_trans l0 b2
  obtain ⟨ok, hok⟩ : ∃ z, z = crB d xs r := ⟨_, rfl⟩
  rw [← hok]
  have HOK := Lib.hid hok
  clear hok b2 l0
  go_wp2_with fail
  refine (spec_CheckReport _ _ _ d xs r _ (HD.out.on l2) (HB.out.on l2) (HR.out.on l2) HLE.out).mono ?_
  rintro e w3 ⟨rfl, b3⟩
  have l3 := later_trans l2 b3
  rw [← HOK.out]
  have hneq : (ok != ok) = false := by simp
  clear b3 l2
  go_wp2_with fail
  clear hneq
  refine (impl_RunDay _ _ d xs _ (HD.out.on l3) (HB.out.on l3)).mono ?_
  rintro e w4 ⟨vX, rfl, oX, b4⟩
  have l4 := later_trans l3 b4
  clear b4 l3
  cases hrd : rdOk d xs
  · have hno : ok = false := by rw [HOK.out]; unfold crB; rw [hrd]; rfl
    subst hno
    clear HOK hrd
    obtain ⟨X, hX⟩ : ∃ X, X = rptOf d xs := ⟨_, rfl⟩
    rw [← hX] at oX
    have hoX := oX.rd
    obtain ⟨B0, c0, B1, c1, B2, c2, B3, c3, rfl⟩ := openR hoX
    obtain ⟨wX, hwX⟩ : ∃ u, u = w4.alloc (Obj.cells #[.slice B0 X.round.length c0, .slice B1 X.strange.length c1, .slice B2 X.held.length c2, .slice B3 X.stuck.length c3] 31) := ⟨_, rfl⟩
    have lX := later_trans l4 (box_later hwX).1
    have HWX := Lib.hid hwX
    clear hwX hX oX hoX q0 q1 q2 q3 q4 q5 r0 r1 r2 r3
    go_wp2_with fail
    rw [← HWX.out]
    go_ret
    exact ⟨rfl, HWB.out.trans (lX.mono HWB.out.size)⟩
  · have HEQ : Hid (ok = eqR (rptOf d xs) r) := by show _ = _; rw [HOK.out]; exact cr_eq hrd
    have HSF : Hid (crB d xs (rptOf d xs) = true) := cr_self hrd
    clear HOK hrd
    obtain ⟨X, hX⟩ : ∃ X, X = rptOf d xs := ⟨_, rfl⟩
    rw [← hX] at oX HEQ HSF
    have hoX := oX.rd
    obtain ⟨B0, c0, B1, c1, B2, c2, B3, c3, rfl⟩ := openR hoX
    obtain ⟨wX, hwX⟩ : ∃ u, u = w4.alloc (Obj.cells #[.slice B0 X.round.length c0, .slice B1 X.strange.length c1, .slice B2 X.held.length c2, .slice B3 X.stuck.length c3] 31) := ⟨_, rfl⟩
    have s0 := box_cells hwX 0 (.slice B0 X.round.length c0) rfl
    have s1 := box_cells hwX 1 (.slice B1 X.strange.length c1) rfl
    have s2 := box_cells hwX 2 (.slice B2 X.held.length c2) rfl
    have s3 := box_cells hwX 3 (.slice B3 X.stuck.length c3) rfl
    have hbX := (box_later hwX).1
    have HX := Lib.hid (hoX.on hbX)
    have lX := later_trans l4 hbX
    have q0' := fun W (h : Below wX.heap.size wX W) => q0 W (later_trans lX h)
    have q1' := fun W (h : Below wX.heap.size wX W) => q1 W (later_trans lX h)
    have q2' := fun W (h : Below wX.heap.size wX W) => q2 W (later_trans lX h)
    have q3' := fun W (h : Below wX.heap.size wX W) => q3 W (later_trans lX h)
    have q4' := fun W (h : Below wX.heap.size wX W) => q4 W (later_trans lX h)
    have q5' := fun W (h : Below wX.heap.size wX W) => q5 W (later_trans lX h)
    have r0' := fun W (h : Below wX.heap.size wX W) => r0 W (later_trans lX h)
    have r1' := fun W (h : Below wX.heap.size wX W) => r1 W (later_trans lX h)
    have r2' := fun W (h : Below wX.heap.size wX W) => r2 W (later_trans lX h)
    have r3' := fun W (h : Below wX.heap.size wX W) => r3 W (later_trans lX h)
    have rr0 := r0 _ lX; have rr1 := r1 _ lX; have rr2 := r2 _ lX; have rr3 := r3 _ lX
    rw [hwX] at rr0 rr1 rr2 rr3
    have HLX := Lib.hid lX
    have HWX := Lib.hid hwX
    have m0 := Below.refl wX.heap.size wX
    clear hwX hX oX hoX hbX l4 lX q0 q1 q2 q3 q4 q5 r0 r1 r2 r3
    go_wp2_with fail
    clear rr0 rr1 rr2 rr3
    rw [← HWX.out]
    refine (so_reportsG _ _ X r _ (HX.out.on m0) (HR.out.on (later_trans HLX.out m0))).mono ?_
    rintro e w5 ⟨rfl, b5⟩
    have m5 := later_trans m0 b5
    rw [← HEQ.out]
    have heqq : (ok == ok) = true := by simp
    clear b5 m0
    go_wp2_with fail
    refine (impl_CheckReport _ _ _ d xs X _ (HD.out.on (later_trans HLX.out m5)) (HB.out.on (later_trans HLX.out m5)) (HX.out.on m5) (HT0.out.on (later_trans HLX.out m5))).mono ?_
    rintro e w6 ⟨rfl, b6⟩
    have m6 := later_trans m5 b6
    rw [HSF.out]
    clear heqq
    go_wp2_with fail
    go_ret
    exact ⟨rfl, HWB.out.trans ((later_trans HLX.out m6).mono HWB.out.size)⟩

end Go.Proofs.YtffbcfaahegglaaGreatDoor
