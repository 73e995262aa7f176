/- FnExactDayTrays: the walk of the law.  -/
import Derived.Test.YtiaepapdofcnjaaQ30
import Derived.Deep.RegionHeld3
namespace Go.Proofs.Ytiaepapdofcnjaa
open Go.RowKit

set_option maxRecDepth 100000 in
set_option maxHeartbeats 3200000 in
theorem walk_FnExactDayTrays (w : World) (v0 : Value) (x0 : Dy) (h0 : rdD w w.heap.size v0 x0) (v1 : Value) (x1 : List Ltr) (h1 : rd w w.heap.size v1 x1) :
    Calls Try.prog 8 #[v0, v1] w fun e w' => e = .returned (.bool true) ∧ Below w.heap.size w w' := by
  obtain ⟨A00, A00c, A01, A01c, A02, A02c, e0⟩ := openD h0
  obtain ⟨wa0, hwwa0⟩ : ∃ u, u = w.alloc (Obj.cells #[.int .i64 x0.plan.bins, .int .i64 x0.plan.passes, .slice A00 x0.plan.order.length A00c, .slice A01 x0.fwds.length A01c, .slice A02 x0.held.length A02c, .int .i64 x0.size] 57) := ⟨_, rfl⟩
  have HT := Lib.hid (box_later hwwa0).1
  have q0_0 := box_cells hwwa0 0 (.int .i64 x0.plan.bins) rfl
  have q0_1 := box_cells hwwa0 1 (.int .i64 x0.plan.passes) rfl
  have q0_2 := box_cells hwwa0 2 (.slice A00 x0.plan.order.length A00c) rfl
  have q0_3 := box_cells hwwa0 3 (.slice A01 x0.fwds.length A01c) rfl
  have q0_4 := box_cells hwwa0 4 (.slice A02 x0.held.length A02c) rfl
  have q0_5 := box_cells hwwa0 5 (.int .i64 x0.size) rfl
  have H0 := Lib.hid (h0.on HT.out)
  have H1 := Lib.hid (h1.on HT.out)
  clear h0
  clear h1
  subst e0
  have HXwa0 := Lib.hid hwwa0; clear hwwa0
  have l0 := Below.refl wa0.heap.size wa0
  go_enter Try.func8, Try.ntmps8
  go_wp2_with fail
  rw [← HXwa0.out]
  refine (u_szD _ x0 1048576 _ (H0.out.on l0) (by omega) (by omega)).mono ?_
  rintro e w1 ⟨rfl, b1⟩
  have Z1 : Hid (wa0.heap.size ≤ w1.heap.size) := Lib.hid b1.size
  have l1 := later_trans l0 b1
  clear l0
  clear b1
  obtain ⟨r0, hr0⟩ : ∃ r, leftOf 1048576 (szD x0 : Nat) = r := ⟨_, rfl⟩
  have hk0 := @leftOf_ok 1048576 (szD x0)
  rw [hr0] at hk0 ⊢
  clear hr0
  by_cases g_0 : r0 < 0
  · go_wp2_with fail
    go_ret
    exact ⟨rfl, later_trans HT.out l1⟩
  obtain ⟨ra0, rb0, hn0⟩ := hk0 (by omega) (by omega)
  have HN0 := Lib.hid hn0; clear hn0 hk0
  go_wp2_with fail
  refine (u_szL _ x1 r0 _ (H1.out.on l1) (by omega) (by omega)).mono ?_
  rintro e w2 ⟨rfl, b2⟩
  have Z2 : Hid (w1.heap.size ≤ w2.heap.size) := Lib.hid b2.size
  have l2 := later_trans l1 b2
  clear l1
  clear b2
  obtain ⟨r1, hr1⟩ : ∃ r, leftOf r0 (szL x1 : Nat) = r := ⟨_, rfl⟩
  have hk1 := @leftOf_ok r0 (szL x1)
  rw [hr1] at hk1 ⊢
  clear hr1
  by_cases g_1 : r1 < 0
  · go_wp2_with fail
    go_ret
    exact ⟨rfl, later_trans HT.out l2⟩
  obtain ⟨ra1, rb1, hn1⟩ := hk1 (by omega) (by omega)
  have HN1 := Lib.hid hn1; clear hn1 hk1
  obtain ⟨z0, HV0⟩ : ∃ z, Hid (dtRows x0 x1 = z) := ⟨_, rfl⟩
  obtain ⟨z1, HV1⟩ : ∃ z, Hid (dtOk x0 x1 = z) := ⟨_, rfl⟩
  have HL0 : Hid (z0.length ≤ 60 ∧ z0.flatten.length ≤ 60) := by show z0.length ≤ 60 ∧ z0.flatten.length ≤ 60; rw [← HV0.out]; exact dtRows_len _ _
  go_wp2_with fail
  refine (u_toD _ x0 _ (H0.out.on l2) HN0.out).mono ?_
  rintro e w3 ⟨v3, rfl, o3, b3⟩
  have Z3 : Hid (w2.heap.size ≤ w3.heap.size) := Lib.hid b3.size
  have l3 := later_trans l2 b3
  clear l2
  clear b3
  have P0 := Lib.hid o3; clear o3
  go_wp2_with fail
  refine (u_toL _ x1 _ (H1.out.on l3) HN1.out).mono ?_
  rintro e w4 ⟨v4, rfl, o4, b4⟩
  have Z4 : Hid (w3.heap.size ≤ w4.heap.size) := Lib.hid b4.size
  have l4 := later_trans l3 b4
  clear l3
  replace P0 := Lib.hid (P0.out.below b4)
  clear b4
  have P1 := Lib.hid o4; clear o4
  go_wp2_with fail
  refine (spec_DayTrays _ _ x0 x1 _ P0.out.rd P1.out.rd).mono ?_
  rw [HV0.out, HV1.out]
  rintro e w5 ⟨Wv0, rfl, Wo0, b5⟩
  have Z5 : Hid (w4.heap.size ≤ w5.heap.size) := Lib.hid b5.size
  have l5 := later_trans l4 b5
  clear l4
  replace P0 := Lib.hid (P0.out.below b5)
  replace P1 := Lib.hid (P1.out.below b5)
  clear b5
  have W0 := Lib.hid (seg2.alone Wo0); clear Wo0
  clear P0
  clear P1
  go_wp2_with fail
  refine (u_toD _ x0 _ (H0.out.on l5) HN0.out).mono ?_
  rintro e w6 ⟨v6, rfl, o6, b6⟩
  have Z6 : Hid (w5.heap.size ≤ w6.heap.size) := Lib.hid b6.size
  have l6 := later_trans l5 b6
  clear l5
  replace W0 := Lib.hid (W0.out.below b6)
  clear b6
  have X0 := Lib.hid (segD.of o6)
  obtain ⟨C00, C00c, C01, C01c, C02, C02c, e0⟩ := openD o6.rd
  clear o6
  subst e0
  obtain ⟨wx0, hwx0⟩ : ∃ u, u = w6.alloc (Obj.cells #[.int .i64 x0.plan.bins, .int .i64 x0.plan.passes, .slice C00 x0.plan.order.length C00c, .slice C01 x0.fwds.length C01c, .slice C02 x0.held.length C02c, .int .i64 x0.size] 65) := ⟨_, rfl⟩
  have bx := (box_later hwx0).1
  have lx := later_trans l6 bx
  have ZX0 : Hid (w6.heap.size ≤ wx0.heap.size) := Lib.hid bx.size
  have LR := Lib.hid lx
  have KHT := HT
  have KH0 := H0
  have KH1 := H1
  have Kq0_0 := Lib.hid q0_0
  have Kq0_1 := Lib.hid q0_1
  have Kq0_2 := Lib.hid q0_2
  have Kq0_3 := Lib.hid q0_3
  have Kq0_4 := Lib.hid q0_4
  have Kq0_5 := Lib.hid q0_5
  replace W0 := Lib.hid (W0.out.below bx)
  replace X0 := Lib.hid (X0.out.below bx)
  replace H0 := Lib.hid (H0.out.on lx)
  replace H1 := Lib.hid (H1.out.on lx)
  replace HT := Lib.hid (later_trans HT.out lx)
  replace q0_0 := fun W h => q0_0 W (later_trans lx h)
  replace q0_1 := fun W h => q0_1 W (later_trans lx h)
  replace q0_2 := fun W h => q0_2 W (later_trans lx h)
  replace q0_3 := fun W h => q0_3 W (later_trans lx h)
  replace q0_4 := fun W h => q0_4 W (later_trans lx h)
  replace q0_5 := fun W h => q0_5 W (later_trans lx h)
  have y0_0 := box_cells hwx0 0 (.int .i64 x0.plan.bins) rfl
  have y0_1 := box_cells hwx0 1 (.int .i64 x0.plan.passes) rfl
  have y0_2 := box_cells hwx0 2 (.slice C00 x0.plan.order.length C00c) rfl
  have y0_3 := box_cells hwx0 3 (.slice C01 x0.fwds.length C01c) rfl
  have y0_4 := box_cells hwx0 4 (.slice C02 x0.held.length C02c) rfl
  have y0_5 := box_cells hwx0 5 (.int .i64 x0.size) rfl
  have HXx0 := Lib.hid hwx0; clear hwx0 bx lx l6
  have lb0 := Below.refl wx0.heap.size wx0
  go_wp2_with fail
  rw [← HXx0.out]
  refine (u_toL _ x1 _ (H1.out.on lb0) HN1.out).mono ?_
  rintro e w7 ⟨v7, rfl, o7, b7⟩
  have Z7 : Hid (wx0.heap.size ≤ w7.heap.size) := Lib.hid b7.size
  have l7 := later_trans lb0 b7
  clear lb0
  replace W0 := Lib.hid (W0.out.below b7)
  replace X0 := Lib.hid (X0.out.below b7)
  clear b7
  have X1 := Lib.hid (seg.of o7)
  clear o7
  go_wp2_with fail
  refine (impl_DayTrays _ _ x0 x1 _ X0.out.rd X1.out.rd).mono ?_
  rw [HV0.out, HV1.out]
  rintro e w8 ⟨Gv0, rfl, Go0, b8⟩
  have Z8 : Hid (w7.heap.size ≤ w8.heap.size) := Lib.hid b8.size
  have l8 := later_trans l7 b8
  clear l7
  replace W0 := Lib.hid (W0.out.below b8)
  replace X0 := Lib.hid (X0.out.below b8)
  replace X1 := Lib.hid (X1.out.below b8)
  clear b8
  have G0 := Lib.hid (seg2.alone Go0); clear Go0
  have ne1 : (z1 != z1) = false := by simp
  go_wp2_with fail
  refine (u_eqLL _ _ z0 _ G0.out.rdB W0.out.rdB).mono ?_
  rintro e w9 ⟨rfl, b9⟩
  have Z9 : Hid (w8.heap.size ≤ w9.heap.size) := Lib.hid b9.size
  have l9 := later_trans l8 b9
  clear l8
  replace W0 := Lib.hid (W0.out.below b9)
  replace X0 := Lib.hid (X0.out.below b9)
  replace X1 := Lib.hid (X1.out.below b9)
  replace G0 := Lib.hid (G0.out.below b9)
  clear b9
  go_wp2
  have ld := later_drew l9
  go_region_held3 (fun W => Below wx0.heap.size wx0 W) (first | exact ld | exact later_trans ld b10 | exact later_trans (later_trans ld b10) b11) (first | (go_at_call 41; refine (u_toD _ x0 _ (H0.out.on ld) HN0.out).mono ?_; rintro e w10 ⟨v10, rfl, o10, b10⟩) | (go_at_call 44; refine (u_eqD _ _ x0 _ ((X0.out.below ((Below.refl _ _).drew)).below b10).rd o10.rd).mono ?_; rintro e w11 ⟨rfl, b11⟩))
  have bb : Below w9.heap.size w9 w11 := later_trans (later_trans ((Below.refl _ _).drew) b10) b11
  clear ld b10 b11 o10
  have l11 := later_trans l9 bb
  clear l9
  replace W0 := Lib.hid (W0.out.below bb)
  replace X0 := Lib.hid (X0.out.below bb)
  replace X1 := Lib.hid (X1.out.below bb)
  replace G0 := Lib.hid (G0.out.below bb)
  clear bb
  go_wp2_with fail
  refine (u_toL _ x1 _ (H1.out.on l11) HN1.out).mono ?_
  rintro e w12 ⟨v12, rfl, o12, b12⟩
  have Z12 : Hid (w11.heap.size ≤ w12.heap.size) := Lib.hid b12.size
  have l12 := later_trans l11 b12
  clear l11
  replace W0 := Lib.hid (W0.out.below b12)
  replace X0 := Lib.hid (X0.out.below b12)
  replace X1 := Lib.hid (X1.out.below b12)
  replace G0 := Lib.hid (G0.out.below b12)
  clear b12
  have Y := Lib.hid o12; clear o12
  go_wp2_with fail
  refine (u_eqL _ _ x1 _ X1.out.rd Y.out.rd).mono ?_
  rintro e w13 ⟨rfl, b13⟩
  have Z13 : Hid (w12.heap.size ≤ w13.heap.size) := Lib.hid b13.size
  have l13 := later_trans l12 b13
  clear l12
  replace W0 := Lib.hid (W0.out.below b13)
  replace X0 := Lib.hid (X0.out.below b13)
  replace X1 := Lib.hid (X1.out.below b13)
  replace G0 := Lib.hid (G0.out.below b13)
  replace Y := Lib.hid (Y.out.below b13)
  clear b13
  clear Y
  go_wp2_with fail
  obtain ⟨k14, hk14⟩ : ∃ n : Nat, 1 + mkD x0 = n := ⟨_, rfl⟩
  have hb14 : k14 ≤ 3000001 := by have h1 := mkD_le x0; have h2 := HN0.out; omega
  have HK14 := Lib.hid hk14; clear hk14
  refine (u_wmD _ _ _ _ _ x0 1 _ X0.out (by omega) HN0.out).mono ?_
  rw [HK14.out]
  rintro e w14 ⟨rfl, om⟩
  have Z14 : Hid (w13.heap.size ≤ w14.heap.size) := Lib.hid om.size
  replace LR := Lib.hid (later_trans LR.out l13)
  clear l13
  have lr := LR.out
  clear q0_0
  clear q0_1
  clear q0_2
  clear q0_3
  clear q0_4
  clear q0_5
  clear y0_0
  clear y0_1
  clear y0_2
  clear y0_3
  clear y0_4
  clear y0_5
  have q0_0 := Kq0_0.out
  have q0_1 := Kq0_1.out
  have q0_2 := Kq0_2.out
  have q0_3 := Kq0_3.out
  have q0_4 := Kq0_4.out
  have q0_5 := Kq0_5.out
  replace H0 := KH0
  replace H1 := KH1
  replace HT := KHT
  have l14 := OutI.later om lr (by have a0 := Z1.out; have a1 := Z2.out; have a2 := Z3.out; have a3 := Z4.out; have a4 := Z5.out; have a5 := Z6.out; have a6 := ZX0.out; have a7 := Z7.out; have a8 := Z8.out; have a9 := Z9.out; have a10 := Z12.out; have a11 := Z13.out; omega)
  clear lr
  clear X0
  replace W0 := Lib.hid (W0.out.out om (by have a0 := Z1.out; have a1 := Z2.out; have a2 := Z3.out; have a3 := Z4.out; have a4 := Z5.out; have a5 := Z6.out; have a6 := ZX0.out; have a7 := Z7.out; have a8 := Z8.out; have a9 := Z9.out; have a10 := Z12.out; have a11 := Z13.out; omega))
  replace X1 := Lib.hid (X1.out.out om (by have a0 := Z1.out; have a1 := Z2.out; have a2 := Z3.out; have a3 := Z4.out; have a4 := Z5.out; have a5 := Z6.out; have a6 := ZX0.out; have a7 := Z7.out; have a8 := Z8.out; have a9 := Z9.out; have a10 := Z12.out; have a11 := Z13.out; omega))
  replace G0 := Lib.hid (G0.out.out om (by have a0 := Z1.out; have a1 := Z2.out; have a2 := Z3.out; have a3 := Z4.out; have a4 := Z5.out; have a5 := Z6.out; have a6 := ZX0.out; have a7 := Z7.out; have a8 := Z8.out; have a9 := Z9.out; have a10 := Z12.out; have a11 := Z13.out; omega))
  clear om
  go_wp2_with fail
  obtain ⟨k15, hk15⟩ : ∃ n : Nat, k14 + 2 * x1.length = n := ⟨_, rfl⟩
  have hb15 : k15 ≤ 6000001 := by have := HN1.out; unfold szL at this; omega
  have HK15 := Lib.hid hk15; clear hk15
  refine (u_wmL _ _ _ _ x1 k14 _ X1.out (by omega) HN1.out).mono ?_
  rw [HK15.out]
  rintro e w15 ⟨rfl, om⟩
  have Z15 : Hid (w14.heap.size ≤ w15.heap.size) := Lib.hid om.size
  have l15 := OutI.later om l14 (by have a0 := Z1.out; have a1 := Z2.out; have a2 := Z3.out; have a3 := Z4.out; have a4 := Z5.out; have a5 := Z6.out; have a6 := ZX0.out; have a7 := Z7.out; have a8 := Z8.out; have a9 := Z9.out; have a10 := Z12.out; have a11 := Z13.out; have a12 := Z14.out; omega)
  clear l14
  clear X1
  replace W0 := Lib.hid (W0.out.out om (by have a0 := Z1.out; have a1 := Z2.out; have a2 := Z3.out; have a3 := Z4.out; have a4 := Z5.out; have a5 := Z6.out; have a6 := ZX0.out; have a7 := Z7.out; have a8 := Z8.out; have a9 := Z9.out; have a10 := Z12.out; have a11 := Z13.out; have a12 := Z14.out; omega))
  replace G0 := Lib.hid (G0.out.out om (by have a0 := Z1.out; have a1 := Z2.out; have a2 := Z3.out; have a3 := Z4.out; have a4 := Z5.out; have a5 := Z6.out; have a6 := ZX0.out; have a7 := Z7.out; have a8 := Z8.out; have a9 := Z9.out; have a10 := Z12.out; have a11 := Z13.out; have a12 := Z14.out; omega))
  clear om
  go_wp2_with fail
  refine (u_eqLL _ _ z0 _ G0.out.rdB W0.out.rdB).mono ?_
  rintro e w16 ⟨rfl, b16⟩
  have Z16 : Hid (w15.heap.size ≤ w16.heap.size) := Lib.hid b16.size
  have l16 := later_trans l15 b16
  clear l15
  replace W0 := Lib.hid (W0.out.below b16)
  replace G0 := Lib.hid (G0.out.below b16)
  clear b16
  obtain ⟨M0, hM0⟩ : ∃ n : Nat, 1 + 2 * z0.flatten.length = n := ⟨_, rfl⟩
  have hMb0 : M0 ≤ 200 := by have := HL0.out; omega
  have HM0 := Lib.hid hM0; clear hM0
  have nm0 : ((M0 : Int) != (M0 : Int)) = false := by simp
  go_wp2_with fail
  refine (u_mkLL _ _ _ _ _ _ z0 [] 1 _ G0.out (by omega) (by have := HL0.out; omega) (by have := HL0.out; omega)).mono ?_
  rw [HM0.out]
  rintro e w17 ⟨rfl, og, om⟩
  have Z17 : Hid (w16.heap.size ≤ w17.heap.size) := Lib.hid om.size
  have l17 := OutI.later om l16 (by have a0 := Z1.out; have a1 := Z2.out; have a2 := Z3.out; have a3 := Z4.out; have a4 := Z5.out; have a5 := Z6.out; have a6 := ZX0.out; have a7 := Z7.out; have a8 := Z8.out; have a9 := Z9.out; have a10 := Z12.out; have a11 := Z13.out; have a12 := Z14.out; have a13 := Z15.out; have a14 := Z16.out; omega)
  clear l16
  replace W0 := Lib.hid (W0.out.out om (by have a0 := Z1.out; have a1 := Z2.out; have a2 := Z3.out; have a3 := Z4.out; have a4 := Z5.out; have a5 := Z6.out; have a6 := ZX0.out; have a7 := Z7.out; have a8 := Z8.out; have a9 := Z9.out; have a10 := Z12.out; have a11 := Z13.out; have a12 := Z14.out; have a13 := Z15.out; have a14 := Z16.out; omega))
  replace G0 := Lib.hid og
  clear om og
  go_wp2_with fail
  refine (u_hdLL _ z0 1 _ G0.out.rdB (by omega) (by have := HL0.out; omega)).mono ?_
  rw [HM0.out]
  rintro e w18 ⟨rfl, b18⟩
  have Z18 : Hid (w17.heap.size ≤ w18.heap.size) := Lib.hid b18.size
  have l18 := later_trans l17 b18
  clear l17
  replace W0 := Lib.hid (W0.out.below b18)
  replace G0 := Lib.hid (G0.out.below b18)
  clear b18
  go_wp2_with fail
  refine (u_toD _ x0 _ (H0.out.on l18) HN0.out).mono ?_
  rintro e w19 ⟨v19, rfl, o19, b19⟩
  have Z19 : Hid (w18.heap.size ≤ w19.heap.size) := Lib.hid b19.size
  have l19 := later_trans l18 b19
  clear l18
  replace W0 := Lib.hid (W0.out.below b19)
  replace G0 := Lib.hid (G0.out.below b19)
  clear b19
  have P0 := Lib.hid o19; clear o19
  go_wp2_with fail
  refine (u_toL _ x1 _ (H1.out.on l19) HN1.out).mono ?_
  rintro e w20 ⟨v20, rfl, o20, b20⟩
  have Z20 : Hid (w19.heap.size ≤ w20.heap.size) := Lib.hid b20.size
  have l20 := later_trans l19 b20
  clear l19
  replace W0 := Lib.hid (W0.out.below b20)
  replace G0 := Lib.hid (G0.out.below b20)
  replace P0 := Lib.hid (P0.out.below b20)
  clear b20
  have P1 := Lib.hid o20; clear o20
  go_wp2_with fail
  refine (impl_DayTrays _ _ x0 x1 _ P0.out.rd P1.out.rd).mono ?_
  rw [HV0.out, HV1.out]
  rintro e w21 ⟨Nv0, rfl, No0, b21⟩
  have Z21 : Hid (w20.heap.size ≤ w21.heap.size) := Lib.hid b21.size
  have l21 := later_trans l20 b21
  clear l20
  replace W0 := Lib.hid (W0.out.below b21)
  replace G0 := Lib.hid (G0.out.below b21)
  replace P0 := Lib.hid (P0.out.below b21)
  replace P1 := Lib.hid (P1.out.below b21)
  clear b21
  have N0 := Lib.hid (seg2.alone No0); clear No0
  clear P0
  clear P1
  go_wp2_with fail
  refine (u_eqLL _ _ z0 _ N0.out.rdB W0.out.rdB).mono ?_
  rintro e w22 ⟨rfl, b22⟩
  have Z22 : Hid (w21.heap.size ≤ w22.heap.size) := Lib.hid b22.size
  have l22 := later_trans l21 b22
  clear l21
  replace W0 := Lib.hid (W0.out.below b22)
  replace G0 := Lib.hid (G0.out.below b22)
  replace N0 := Lib.hid (N0.out.below b22)
  clear b22
  go_wp2_with fail
  refine (u_hdLL _ z0 1 _ G0.out.rdB (by omega) (by have := HL0.out; omega)).mono ?_
  rw [HM0.out]
  rintro e w23 ⟨rfl, b23⟩
  have Z23 : Hid (w22.heap.size ≤ w23.heap.size) := Lib.hid b23.size
  have l23 := later_trans l22 b23
  clear l22
  replace W0 := Lib.hid (W0.out.below b23)
  replace G0 := Lib.hid (G0.out.below b23)
  replace N0 := Lib.hid (N0.out.below b23)
  clear b23
  go_wp2_with fail
  go_ret
  exact ⟨rfl, later_trans HT.out l23⟩

end Go.Proofs.Ytiaepapdofcnjaa
