/- FnExactCheckReport: the walk of the law.  -/
import Derived.Test.YtffbcfaahegglaaGreatDoorQ52
import Derived.Deep.RegionHeld3
namespace Go.Proofs.YtffbcfaahegglaaGreatDoor
open Go.RowKit

set_option maxRecDepth 100000 in
set_option maxHeartbeats 3200000 in
theorem walk_FnExactCheckReport (w : World) (v0 : Value) (x0 : Dy) (h0 : rdD w w.heap.size v0 x0) (v1 : Value) (x1 : List Ltr) (h1 : rd w w.heap.size v1 x1) (v2 : Value) (x2 : Rpt) (h2 : rdR w w.heap.size v2 x2) (ht : TabW w) :
    Calls Tryz.prog 4 #[v0, v1, v2] w fun e w' => e = .returned (.bool true) ∧ Below w.heap.size w w' := by
  have HTAB := Lib.hid ht; clear ht
  obtain ⟨A00, A00c, A01, A01c, A02, A02c, e0⟩ := openD h0
  obtain ⟨A20, A20c, A21, A21c, A22, A22c, A23, A23c, e2⟩ := openR h2
  obtain ⟨wa0, hwwa0⟩ : ∃ u, u = w.alloc (Obj.cells #[.int .i64 x0.plan.bins, .int .i64 x0.plan.passes, .slice A00 x0.plan.order.length A00c, .slice A01 x0.fwds.length A01c, .slice A02 x0.held.length A02c, .int .i64 x0.size] 42) := ⟨_, rfl⟩
  obtain ⟨wa1, hwwa1⟩ : ∃ u, u = wa0.alloc (Obj.cells #[.slice A20 x2.round.length A20c, .slice A21 x2.strange.length A21c, .slice A22 x2.held.length A22c, .slice A23 x2.stuck.length A23c] 45) := ⟨_, rfl⟩
  have HT := Lib.hid (box_later hwwa0).1
  replace HT := Lib.hid (later_trans HT.out (box_later hwwa1).1)
  have q0_0 := fun W h => box_cells hwwa0 0 (.int .i64 x0.plan.bins) rfl W (later_trans (box_later hwwa1).1 h)
  have q0_1 := fun W h => box_cells hwwa0 1 (.int .i64 x0.plan.passes) rfl W (later_trans (box_later hwwa1).1 h)
  have q0_2 := fun W h => box_cells hwwa0 2 (.slice A00 x0.plan.order.length A00c) rfl W (later_trans (box_later hwwa1).1 h)
  have q0_3 := fun W h => box_cells hwwa0 3 (.slice A01 x0.fwds.length A01c) rfl W (later_trans (box_later hwwa1).1 h)
  have q0_4 := fun W h => box_cells hwwa0 4 (.slice A02 x0.held.length A02c) rfl W (later_trans (box_later hwwa1).1 h)
  have q0_5 := fun W h => box_cells hwwa0 5 (.int .i64 x0.size) rfl W (later_trans (box_later hwwa1).1 h)
  have q2_0 := box_cells hwwa1 0 (.slice A20 x2.round.length A20c) rfl
  have q2_1 := box_cells hwwa1 1 (.slice A21 x2.strange.length A21c) rfl
  have q2_2 := box_cells hwwa1 2 (.slice A22 x2.held.length A22c) rfl
  have q2_3 := box_cells hwwa1 3 (.slice A23 x2.stuck.length A23c) rfl
  have hzb1 : wa0.heap.size = w.heap.size + 1 := by rw [hwwa0]; simp
  rw [hzb1] at q2_0 q2_1 q2_2 q2_3
  clear hzb1
  have H0 := Lib.hid (h0.on HT.out)
  have H1 := Lib.hid (h1.on HT.out)
  have H2 := Lib.hid (h2.on HT.out)
  clear h0
  clear h1
  clear h2
  subst e0
  subst e2
  have HXwa0 := Lib.hid hwwa0; clear hwwa0
  have HXwa1 := Lib.hid hwwa1; clear hwwa1
  have l0 := Below.refl wa1.heap.size wa1
  go_enter Tryz.func4, Tryz.ntmps4
  go_wp2_with fail
  rw [← HXwa0.out]
  rw [← HXwa1.out]
  refine (u_szD _ x0 1048576 _ (H0.out.on l0) (by omega) (by omega)).mono ?_
  rintro e w1 ⟨rfl, b1⟩
  have l1 := later_trans l0 b1
  clear l0
  clear b1
  obtain ⟨r0, hr0⟩ : ∃ r, leftOf 1048576 (szD x0 : Nat) = r := ⟨_, rfl⟩
  have hk0 := @leftOf_ok 1048576 (szD x0)
  rw [hr0] at hk0 ⊢
  clear hr0
  by_cases g_0 : r0 < 0
  · go_wp2_with fail
    go_ret
    exact ⟨rfl, later_trans HT.out l1⟩
  obtain ⟨ra0, rb0, hn0⟩ := hk0 (by omega) (by omega)
  have HN0 := Lib.hid hn0; clear hn0 hk0
  go_wp2_with fail
  refine (u_szL _ x1 r0 _ (H1.out.on l1) (by omega) (by omega)).mono ?_
  rintro e w2 ⟨rfl, b2⟩
  have l2 := later_trans l1 b2
  clear l1
  clear b2
  obtain ⟨r1, hr1⟩ : ∃ r, leftOf r0 (szL x1 : Nat) = r := ⟨_, rfl⟩
  have hk1 := @leftOf_ok r0 (szL x1)
  rw [hr1] at hk1 ⊢
  clear hr1
  by_cases g_1 : r1 < 0
  · go_wp2_with fail
    go_ret
    exact ⟨rfl, later_trans HT.out l2⟩
  obtain ⟨ra1, rb1, hn1⟩ := hk1 (by omega) (by omega)
  have HN1 := Lib.hid hn1; clear hn1 hk1
  go_wp2_with fail
  refine (u_szR _ x2 r1 _ (H2.out.on l2) (by omega) (by omega)).mono ?_
  rintro e w3 ⟨rfl, b3⟩
  have l3 := later_trans l2 b3
  clear l2
  clear b3
  obtain ⟨r2, hr2⟩ : ∃ r, leftOf r1 (szR x2 : Nat) = r := ⟨_, rfl⟩
  have hk2 := @leftOf_ok r1 (szR x2)
  rw [hr2] at hk2 ⊢
  clear hr2
  by_cases g_2 : r2 < 0
  · go_wp2_with fail
    go_ret
    exact ⟨rfl, later_trans HT.out l3⟩
  obtain ⟨ra2, rb2, hn2⟩ := hk2 (by omega) (by omega)
  have HN2 := Lib.hid hn2; clear hn2 hk2
  obtain ⟨z0, HV0⟩ : ∃ z, Hid (crB x0 x1 x2 = z) := ⟨_, rfl⟩
  go_wp2_with fail
  have ld := later_drew l3
  go_region_held3 (fun W => Below wa1.heap.size wa1 W) (first | exact ld | exact kz | exact k2 | exact k1 | exact k0 | fail) (first | (go_at_call 13; refine (u_toD _ x0 _ (H0.out.on ld) HN0.out).mono ?_; rintro e u0 ⟨cv0, rfl, co0, z0⟩; have k0 := later_trans ld z0) | (go_at_call 14; refine (u_toL _ x1 _ (H1.out.on k0) HN1.out).mono ?_; rintro e u1 ⟨cv1, rfl, co1, z1⟩; have k1 := later_trans k0 z1) | (go_at_call 15; refine (u_toR _ x2 _ (H2.out.on k1) HN2.out).mono ?_; rintro e u2 ⟨cv2, rfl, co2, z2⟩; have k2 := later_trans k1 z2) | (go_at_call 7; refine (spec_CheckReport _ _ _ x0 x1 x2 _ ((co0.below z1).below z2).rd (co1.below z2).rd co2.rd (rptLe_sz HN2.out)).mono ?_; rw [HV0.out]; rintro e uz ⟨rfl, zz⟩; have kz := later_trans k2 zz) | fail)
  clear l3 ld k0 co0 z0 k1 co1 z1 k2 co2 z2
  go_wp2_with fail
  refine (u_toD _ x0 _ (H0.out.on kz) HN0.out).mono ?_
  rintro e w4 ⟨v4, rfl, o4, b4⟩
  have l4 := later_trans kz b4
  clear kz
  clear b4
  have X0 := Lib.hid o4
  obtain ⟨C00, C00c, C01, C01c, C02, C02c, e0⟩ := openD o4.rd
  clear o4
  subst e0
  obtain ⟨wx0, hwx0⟩ : ∃ u, u = w4.alloc (Obj.cells #[.int .i64 x0.plan.bins, .int .i64 x0.plan.passes, .slice C00 x0.plan.order.length C00c, .slice C01 x0.fwds.length C01c, .slice C02 x0.held.length C02c, .int .i64 x0.size] 28) := ⟨_, rfl⟩
  have bx := (box_later hwx0).1
  have lx := later_trans l4 bx
  replace X0 := Lib.hid (X0.out.below bx)
  replace H0 := Lib.hid (H0.out.on lx)
  replace H1 := Lib.hid (H1.out.on lx)
  replace H2 := Lib.hid (H2.out.on lx)
  replace HT := Lib.hid (later_trans HT.out lx)
  replace q0_0 := fun W h => q0_0 W (later_trans lx h)
  replace q0_1 := fun W h => q0_1 W (later_trans lx h)
  replace q0_2 := fun W h => q0_2 W (later_trans lx h)
  replace q0_3 := fun W h => q0_3 W (later_trans lx h)
  replace q0_4 := fun W h => q0_4 W (later_trans lx h)
  replace q0_5 := fun W h => q0_5 W (later_trans lx h)
  replace q2_0 := fun W h => q2_0 W (later_trans lx h)
  replace q2_1 := fun W h => q2_1 W (later_trans lx h)
  replace q2_2 := fun W h => q2_2 W (later_trans lx h)
  replace q2_3 := fun W h => q2_3 W (later_trans lx h)
  have y0_0 := box_cells hwx0 0 (.int .i64 x0.plan.bins) rfl
  have y0_1 := box_cells hwx0 1 (.int .i64 x0.plan.passes) rfl
  have y0_2 := box_cells hwx0 2 (.slice C00 x0.plan.order.length C00c) rfl
  have y0_3 := box_cells hwx0 3 (.slice C01 x0.fwds.length C01c) rfl
  have y0_4 := box_cells hwx0 4 (.slice C02 x0.held.length C02c) rfl
  have y0_5 := box_cells hwx0 5 (.int .i64 x0.size) rfl
  have HXx0 := Lib.hid hwx0; clear hwx0 bx lx l4
  have lb0 := Below.refl wx0.heap.size wx0
  go_wp2_with fail
  rw [← HXx0.out]
  refine (u_toL _ x1 _ (H1.out.on lb0) HN1.out).mono ?_
  rintro e w5 ⟨v5, rfl, o5, b5⟩
  have l5 := later_trans lb0 b5
  clear lb0
  replace X0 := Lib.hid (X0.out.below b5)
  clear b5
  have X1 := Lib.hid o5
  clear o5
  go_wp2_with fail
  refine (u_toR _ x2 _ (H2.out.on l5) HN2.out).mono ?_
  rintro e w6 ⟨v6, rfl, o6, b6⟩
  have l6 := later_trans l5 b6
  clear l5
  replace X0 := Lib.hid (X0.out.below b6)
  replace X1 := Lib.hid (X1.out.below b6)
  clear b6
  have X2 := Lib.hid o6
  obtain ⟨C20, C20c, C21, C21c, C22, C22c, C23, C23c, e2⟩ := openR o6.rd
  clear o6
  subst e2
  obtain ⟨wx2, hwx2⟩ : ∃ u, u = w6.alloc (Obj.cells #[.slice C20 x2.round.length C20c, .slice C21 x2.strange.length C21c, .slice C22 x2.held.length C22c, .slice C23 x2.stuck.length C23c] 31) := ⟨_, rfl⟩
  have bx := (box_later hwx2).1
  have lx := later_trans l6 bx
  replace X0 := Lib.hid (X0.out.below bx)
  replace X1 := Lib.hid (X1.out.below bx)
  replace X2 := Lib.hid (X2.out.below bx)
  replace H0 := Lib.hid (H0.out.on lx)
  replace H1 := Lib.hid (H1.out.on lx)
  replace H2 := Lib.hid (H2.out.on lx)
  replace HT := Lib.hid (later_trans HT.out lx)
  replace q0_0 := fun W h => q0_0 W (later_trans lx h)
  replace q0_1 := fun W h => q0_1 W (later_trans lx h)
  replace q0_2 := fun W h => q0_2 W (later_trans lx h)
  replace q0_3 := fun W h => q0_3 W (later_trans lx h)
  replace q0_4 := fun W h => q0_4 W (later_trans lx h)
  replace q0_5 := fun W h => q0_5 W (later_trans lx h)
  replace q2_0 := fun W h => q2_0 W (later_trans lx h)
  replace q2_1 := fun W h => q2_1 W (later_trans lx h)
  replace q2_2 := fun W h => q2_2 W (later_trans lx h)
  replace q2_3 := fun W h => q2_3 W (later_trans lx h)
  replace y0_0 := fun W h => y0_0 W (later_trans lx h)
  replace y0_1 := fun W h => y0_1 W (later_trans lx h)
  replace y0_2 := fun W h => y0_2 W (later_trans lx h)
  replace y0_3 := fun W h => y0_3 W (later_trans lx h)
  replace y0_4 := fun W h => y0_4 W (later_trans lx h)
  replace y0_5 := fun W h => y0_5 W (later_trans lx h)
  have y2_0 := box_cells hwx2 0 (.slice C20 x2.round.length C20c) rfl
  have y2_1 := box_cells hwx2 1 (.slice C21 x2.strange.length C21c) rfl
  have y2_2 := box_cells hwx2 2 (.slice C22 x2.held.length C22c) rfl
  have y2_3 := box_cells hwx2 3 (.slice C23 x2.stuck.length C23c) rfl
  have xy0_0 := y0_0 _ (Below.refl _ _); rw [hwx2] at xy0_0
  have xy0_1 := y0_1 _ (Below.refl _ _); rw [hwx2] at xy0_1
  have xy0_2 := y0_2 _ (Below.refl _ _); rw [hwx2] at xy0_2
  have xy0_3 := y0_3 _ (Below.refl _ _); rw [hwx2] at xy0_3
  have xy0_4 := y0_4 _ (Below.refl _ _); rw [hwx2] at xy0_4
  have xy0_5 := y0_5 _ (Below.refl _ _); rw [hwx2] at xy0_5
  have HXx2 := Lib.hid hwx2; clear hwx2 bx lx l6
  have lb2 := Below.refl wx2.heap.size wx2
  go_wp2_with fail
  rw [← HXx2.out]
  clear xy0_0 xy0_1 xy0_2 xy0_3 xy0_4 xy0_5
  refine (impl_CheckReport _ _ _ x0 x1 x2 _ X0.out.rd X1.out.rd X2.out.rd (HTAB.out.on (later_trans HT.out lb2))).mono ?_
  rw [HV0.out]
  rintro e w7 ⟨rfl, b7⟩
  have l7 := later_trans lb2 b7
  clear lb2
  replace X0 := Lib.hid (X0.out.below b7)
  replace X1 := Lib.hid (X1.out.below b7)
  replace X2 := Lib.hid (X2.out.below b7)
  clear b7
  have ne0 : (z0 != z0) = false := by simp
  go_wp2
  have ld := later_drew l7
  go_region_held3 (fun W => Below wx2.heap.size wx2 W) (first | exact ld | exact later_trans ld b8 | exact later_trans (later_trans ld b8) b9) (first | (go_at_call 13; refine (u_toD _ x0 _ (H0.out.on ld) HN0.out).mono ?_; rintro e w8 ⟨v8, rfl, o8, b8⟩) | (go_at_call 16; refine (u_eqD _ _ x0 _ ((X0.out.below ((Below.refl _ _).drew)).below b8).rd o8.rd).mono ?_; rintro e w9 ⟨rfl, b9⟩))
  have bb : Below w7.heap.size w7 w9 := later_trans (later_trans ((Below.refl _ _).drew) b8) b9
  clear ld b8 b9 o8
  have l9 := later_trans l7 bb
  clear l7
  replace X0 := Lib.hid (X0.out.below bb)
  replace X1 := Lib.hid (X1.out.below bb)
  replace X2 := Lib.hid (X2.out.below bb)
  clear bb
  go_wp2_with fail
  refine (u_toL _ x1 _ (H1.out.on l9) HN1.out).mono ?_
  rintro e w10 ⟨v10, rfl, o10, b10⟩
  have l10 := later_trans l9 b10
  clear l9
  replace X0 := Lib.hid (X0.out.below b10)
  replace X1 := Lib.hid (X1.out.below b10)
  replace X2 := Lib.hid (X2.out.below b10)
  clear b10
  have Y := Lib.hid o10; clear o10
  go_wp2_with fail
  refine (u_eqL _ _ x1 _ X1.out.rd Y.out.rd).mono ?_
  rintro e w11 ⟨rfl, b11⟩
  have l11 := later_trans l10 b11
  clear l10
  replace X0 := Lib.hid (X0.out.below b11)
  replace X1 := Lib.hid (X1.out.below b11)
  replace X2 := Lib.hid (X2.out.below b11)
  replace Y := Lib.hid (Y.out.below b11)
  clear b11
  clear Y
  go_wp2
  have ld := later_drew l11
  go_region_held3 (fun W => Below wx2.heap.size wx2 W) (first | exact ld | exact later_trans ld b12 | exact later_trans (later_trans ld b12) b13) (first | (go_at_call 15; refine (u_toR _ x2 _ (H2.out.on ld) HN2.out).mono ?_; rintro e w12 ⟨v12, rfl, o12, b12⟩) | (go_at_call 18; refine (u_eqR _ _ x2 _ ((X2.out.below ((Below.refl _ _).drew)).below b12).rd o12.rd).mono ?_; rintro e w13 ⟨rfl, b13⟩))
  have bb : Below w11.heap.size w11 w13 := later_trans (later_trans ((Below.refl _ _).drew) b12) b13
  clear ld b12 b13 o12
  have l13 := later_trans l11 bb
  clear l11
  replace X0 := Lib.hid (X0.out.below bb)
  replace X1 := Lib.hid (X1.out.below bb)
  replace X2 := Lib.hid (X2.out.below bb)
  clear bb
  go_wp2_with fail
  go_ret
  exact ⟨rfl, later_trans HT.out l13⟩

end Go.Proofs.YtffbcfaahegglaaGreatDoor
