/- FnExactRepairBins: the walk of the law.  -/
import Derived.Test.YtiaepapdofcnjaaMK2
import Derived.Test.YtiaepapdofcnjaaB18
import Derived.Deep.RegionHeld3
namespace Go.Proofs.Ytiaepapdofcnjaa
open Go.RowKit

set_option maxRecDepth 100000 in
set_option maxHeartbeats 3200000 in
theorem walk_FnExactRepairBins (w : World) (v0 : Value) (x0 : Pln) (h0 : rdP w w.heap.size v0 x0) (v1 : Value) (x1 : List (List Ltr)) (h1 : rd w w.heap.size v1 x1) (i2 : Int) (hi2 : isI64 i2) :
    Calls Try.prog 3 #[v0, v1, .int .i64 i2] w fun e w' => e = .returned (.bool true) ∧ Below w.heap.size w w' := by
  obtain ⟨hi2a, hi2b⟩ := hi2
  obtain ⟨A00, A00c, e0⟩ := openP h0
  obtain ⟨wa0, hwwa0⟩ : ∃ u, u = w.alloc (Obj.cells #[.int .i64 x0.bins, .int .i64 x0.passes, .slice A00 x0.order.length A00c] 24) := ⟨_, rfl⟩
  have HT := Lib.hid (box_later hwwa0).1
  have q0_0 := box_cells hwwa0 0 (.int .i64 x0.bins) rfl
  have q0_1 := box_cells hwwa0 1 (.int .i64 x0.passes) rfl
  have q0_2 := box_cells hwwa0 2 (.slice A00 x0.order.length A00c) rfl
  have H0 := Lib.hid (h0.on HT.out)
  have H1 := Lib.hid (h1.on HT.out)
  clear h0
  clear h1
  subst e0
  have HXwa0 := Lib.hid hwwa0; clear hwwa0
  have l0 := Below.refl wa0.heap.size wa0
  go_enter Try.func3, Try.ntmps3
  go_wp2_with fail
  rw [← HXwa0.out]
  refine (u_szP _ x0 1048576 _ (H0.out.on l0) (by omega) (by omega)).mono ?_
  rintro e w1 ⟨rfl, b1⟩
  have Z1 : Hid (wa0.heap.size ≤ w1.heap.size) := Lib.hid b1.size
  have l1 := later_trans l0 b1
  clear l0
  clear b1
  obtain ⟨r0, hr0⟩ : ∃ r, leftOf 1048576 (szP x0 : Nat) = r := ⟨_, rfl⟩
  have hk0 := @leftOf_ok 1048576 (szP x0)
  rw [hr0] at hk0 ⊢
  clear hr0
  by_cases g_0 : r0 < 0
  · go_wp2_with fail
    go_ret
    exact ⟨rfl, later_trans HT.out l1⟩
  obtain ⟨ra0, rb0, hn0⟩ := hk0 (by omega) (by omega)
  have HN0 := Lib.hid hn0; clear hn0 hk0
  go_wp2_with fail
  refine (u_szLL _ x1 r0 _ (H1.out.on l1) (by omega) (by omega)).mono ?_
  rintro e w2 ⟨rfl, b2⟩
  have Z2 : Hid (w1.heap.size ≤ w2.heap.size) := Lib.hid b2.size
  have l2 := later_trans l1 b2
  clear l1
  clear b2
  obtain ⟨r1, hr1⟩ : ∃ r, leftOf r0 (szLL x1 : Nat) = r := ⟨_, rfl⟩
  have hk1 := @leftOf_ok r0 (szLL x1)
  rw [hr1] at hk1 ⊢
  clear hr1
  by_cases g_1 : r1 < 0
  · go_wp2_with fail
    go_ret
    exact ⟨rfl, later_trans HT.out l2⟩
  obtain ⟨ra1, rb1, hn1⟩ := hk1 (by omega) (by omega)
  have HN1 := Lib.hid hn1; clear hn1 hk1
  obtain ⟨z0, HV0⟩ : ∃ z, Hid (rbBins x0 x1 i2 = z) := ⟨_, rfl⟩
  obtain ⟨z1, HV1⟩ : ∃ z, Hid (rbRest x0 x1 i2 = z) := ⟨_, rfl⟩
  obtain ⟨z2, HV2⟩ : ∃ z, Hid (binsOk x0 x1 i2 = z) := ⟨_, rfl⟩
  have HL0 : Hid (z0.length ≤ 60 ∧ z0.flatten.length ≤ 60) := by show z0.length ≤ 60 ∧ z0.flatten.length ≤ 60; rw [← HV0.out]; exact rbBins_len _ _ _
  have HL1 : Hid (z1.length ≤ 60) := by show z1.length ≤ 60; rw [← HV1.out]; exact rbRest_len _ _ _
  go_wp2_with fail
  refine (u_toP _ x0 _ (H0.out.on l2) HN0.out).mono ?_
  rintro e w3 ⟨v3, rfl, o3, b3⟩
  have Z3 : Hid (w2.heap.size ≤ w3.heap.size) := Lib.hid b3.size
  have l3 := later_trans l2 b3
  clear l2
  clear b3
  have P0 := Lib.hid o3; clear o3
  go_wp2_with fail
  refine (u_toLL _ x1 _ (H1.out.on l3) HN1.out).mono ?_
  rintro e w4 ⟨v4, rfl, o4, b4⟩
  have Z4 : Hid (w3.heap.size ≤ w4.heap.size) := Lib.hid b4.size
  have l4 := later_trans l3 b4
  clear l3
  replace P0 := Lib.hid (P0.out.below b4)
  clear b4
  have P1 := Lib.hid o4; clear o4
  go_wp2_with fail
  refine (spec_RepairBins _ _ x0 x1 i2 _ P0.out.rd P1.out.rd (Nat.le_trans (flatten_le_szLL x1) HN1.out)).mono ?_
  rw [HV0.out, HV1.out, HV2.out]
  rintro e w5 ⟨WvB, WvO, Wvs, rfl, WhB, WhO, WhF, b5⟩
  have Z5 : Hid (w4.heap.size ≤ w5.heap.size) := Lib.hid b5.size
  have l5 := later_trans l4 b5
  clear l4
  replace P0 := Lib.hid (P0.out.below b5)
  replace P1 := Lib.hid (P1.out.below b5)
  clear b5
  have W0 := Lib.hid (seg2.of WhB WhO WhF); clear WhB WhO WhF
  clear P0
  clear P1
  go_wp2_with fail
  refine (u_toP _ x0 _ (H0.out.on l5) HN0.out).mono ?_
  rintro e w6 ⟨v6, rfl, o6, b6⟩
  have Z6 : Hid (w5.heap.size ≤ w6.heap.size) := Lib.hid b6.size
  have l6 := later_trans l5 b6
  clear l5
  replace W0 := Lib.hid (W0.out.below b6)
  clear b6
  have X0 := Lib.hid (segP.of o6)
  obtain ⟨C00, C00c, e0⟩ := openP o6.rd
  clear o6
  subst e0
  obtain ⟨wx0, hwx0⟩ : ∃ u, u = w6.alloc (Obj.cells #[.int .i64 x0.bins, .int .i64 x0.passes, .slice C00 x0.order.length C00c] 32) := ⟨_, rfl⟩
  have bx := (box_later hwx0).1
  have lx := later_trans l6 bx
  have ZX0 : Hid (w6.heap.size ≤ wx0.heap.size) := Lib.hid bx.size
  have LR := Lib.hid lx
  have KHT := HT
  have KH0 := H0
  have KH1 := H1
  have Kq0_0 := Lib.hid q0_0
  have Kq0_1 := Lib.hid q0_1
  have Kq0_2 := Lib.hid q0_2
  replace W0 := Lib.hid (W0.out.below bx)
  replace X0 := Lib.hid (X0.out.below bx)
  replace H0 := Lib.hid (H0.out.on lx)
  replace H1 := Lib.hid (H1.out.on lx)
  replace HT := Lib.hid (later_trans HT.out lx)
  replace q0_0 := fun W h => q0_0 W (later_trans lx h)
  replace q0_1 := fun W h => q0_1 W (later_trans lx h)
  replace q0_2 := fun W h => q0_2 W (later_trans lx h)
  have y0_0 := box_cells hwx0 0 (.int .i64 x0.bins) rfl
  have y0_1 := box_cells hwx0 1 (.int .i64 x0.passes) rfl
  have y0_2 := box_cells hwx0 2 (.slice C00 x0.order.length C00c) rfl
  have HXx0 := Lib.hid hwx0; clear hwx0 bx lx l6
  have lb0 := Below.refl wx0.heap.size wx0
  go_wp2_with fail
  rw [← HXx0.out]
  refine (u_toLL _ x1 _ (H1.out.on lb0) HN1.out).mono ?_
  rintro e w7 ⟨v7, rfl, o7, b7⟩
  have Z7 : Hid (wx0.heap.size ≤ w7.heap.size) := Lib.hid b7.size
  have l7 := later_trans lb0 b7
  clear lb0
  replace W0 := Lib.hid (W0.out.below b7)
  replace X0 := Lib.hid (X0.out.below b7)
  clear b7
  have X1 := Lib.hid (segLL.of o7)
  clear o7
  go_wp2_with fail
  refine (impl_RepairBins _ _ x0 x1 i2 _ X0.out.rd X1.out.rd).mono ?_
  rw [HV0.out, HV1.out, HV2.out]
  rintro e w8 ⟨GvB, GvO, Gvs, rfl, GhB, GhO, GhF, b8⟩
  have Z8 : Hid (w7.heap.size ≤ w8.heap.size) := Lib.hid b8.size
  have l8 := later_trans l7 b8
  clear l7
  replace W0 := Lib.hid (W0.out.below b8)
  replace X0 := Lib.hid (X0.out.below b8)
  replace X1 := Lib.hid (X1.out.below b8)
  clear b8
  have G0 := Lib.hid (seg2.of GhB GhO GhF); clear GhB GhO GhF
  have ne2 : (z2 != z2) = false := by simp
  go_wp2_with fail
  refine (u_eqLL _ _ z0 _ G0.out.rdB W0.out.rdB).mono ?_
  rintro e w9 ⟨rfl, b9⟩
  have Z9 : Hid (w8.heap.size ≤ w9.heap.size) := Lib.hid b9.size
  have l9 := later_trans l8 b9
  clear l8
  replace W0 := Lib.hid (W0.out.below b9)
  replace X0 := Lib.hid (X0.out.below b9)
  replace X1 := Lib.hid (X1.out.below b9)
  replace G0 := Lib.hid (G0.out.below b9)
  clear b9
  go_wp2_with fail
  refine (u_eqL _ _ z1 _ G0.out.rdO W0.out.rdO).mono ?_
  rintro e w10 ⟨rfl, b10⟩
  have Z10 : Hid (w9.heap.size ≤ w10.heap.size) := Lib.hid b10.size
  have l10 := later_trans l9 b10
  clear l9
  replace W0 := Lib.hid (W0.out.below b10)
  replace X0 := Lib.hid (X0.out.below b10)
  replace X1 := Lib.hid (X1.out.below b10)
  replace G0 := Lib.hid (G0.out.below b10)
  clear b10
  go_wp2
  have ld := later_drew l10
  go_region_held3 (fun W => Below wx0.heap.size wx0 W) (first | exact ld | exact later_trans ld b11 | exact later_trans (later_trans ld b11) b12) (first | (go_at_call 16; refine (u_toP _ x0 _ (H0.out.on ld) HN0.out).mono ?_; rintro e w11 ⟨v11, rfl, o11, b11⟩) | (go_at_call 21; refine (u_eqP _ _ x0 _ ((X0.out.below ((Below.refl _ _).drew)).below b11).rd o11.rd).mono ?_; rintro e w12 ⟨rfl, b12⟩))
  have bb : Below w10.heap.size w10 w12 := later_trans (later_trans ((Below.refl _ _).drew) b11) b12
  clear ld b11 b12 o11
  have l12 := later_trans l10 bb
  clear l10
  replace W0 := Lib.hid (W0.out.below bb)
  replace X0 := Lib.hid (X0.out.below bb)
  replace X1 := Lib.hid (X1.out.below bb)
  replace G0 := Lib.hid (G0.out.below bb)
  clear bb
  go_wp2_with fail
  refine (u_toLL _ x1 _ (H1.out.on l12) HN1.out).mono ?_
  rintro e w13 ⟨v13, rfl, o13, b13⟩
  have Z13 : Hid (w12.heap.size ≤ w13.heap.size) := Lib.hid b13.size
  have l13 := later_trans l12 b13
  clear l12
  replace W0 := Lib.hid (W0.out.below b13)
  replace X0 := Lib.hid (X0.out.below b13)
  replace X1 := Lib.hid (X1.out.below b13)
  replace G0 := Lib.hid (G0.out.below b13)
  clear b13
  have Y := Lib.hid o13; clear o13
  go_wp2_with fail
  refine (u_eqLL _ _ x1 _ X1.out.rd Y.out.rd).mono ?_
  rintro e w14 ⟨rfl, b14⟩
  have Z14 : Hid (w13.heap.size ≤ w14.heap.size) := Lib.hid b14.size
  have l14 := later_trans l13 b14
  clear l13
  replace W0 := Lib.hid (W0.out.below b14)
  replace X0 := Lib.hid (X0.out.below b14)
  replace X1 := Lib.hid (X1.out.below b14)
  replace G0 := Lib.hid (G0.out.below b14)
  replace Y := Lib.hid (Y.out.below b14)
  clear b14
  clear Y
  go_wp2_with fail
  obtain ⟨k15, hk15⟩ : ∃ n : Nat, 1 + x0.order.length = n := ⟨_, rfl⟩
  have hb15 : k15 ≤ 3000001 := by have := HN0.out; unfold szP at this; omega
  have HK15 := Lib.hid hk15; clear hk15
  refine (u_wmP _ _ _ _ x0 1 _ X0.out (by omega) HN0.out).mono ?_
  rw [HK15.out]
  rintro e w15 ⟨rfl, om⟩
  have Z15 : Hid (w14.heap.size ≤ w15.heap.size) := Lib.hid om.size
  replace LR := Lib.hid (later_trans LR.out l14)
  clear l14
  have lr := LR.out
  clear q0_0
  clear q0_1
  clear q0_2
  clear y0_0
  clear y0_1
  clear y0_2
  have q0_0 := Kq0_0.out
  have q0_1 := Kq0_1.out
  have q0_2 := Kq0_2.out
  replace H0 := KH0
  replace H1 := KH1
  replace HT := KHT
  have l15 := OutI.later om lr (by have a0 := Z1.out; have a1 := Z2.out; have a2 := Z3.out; have a3 := Z4.out; have a4 := Z5.out; have a5 := Z6.out; have a6 := ZX0.out; have a7 := Z7.out; have a8 := Z8.out; have a9 := Z9.out; have a10 := Z10.out; have a11 := Z13.out; have a12 := Z14.out; omega)
  clear lr
  clear X0
  replace W0 := Lib.hid (W0.out.out om (by have a0 := Z1.out; have a1 := Z2.out; have a2 := Z3.out; have a3 := Z4.out; have a4 := Z5.out; have a5 := Z6.out; have a6 := ZX0.out; have a7 := Z7.out; have a8 := Z8.out; have a9 := Z9.out; have a10 := Z10.out; have a11 := Z13.out; have a12 := Z14.out; omega))
  replace X1 := Lib.hid (X1.out.out om (by have a0 := Z1.out; have a1 := Z2.out; have a2 := Z3.out; have a3 := Z4.out; have a4 := Z5.out; have a5 := Z6.out; have a6 := ZX0.out; have a7 := Z7.out; have a8 := Z8.out; have a9 := Z9.out; have a10 := Z10.out; have a11 := Z13.out; have a12 := Z14.out; omega))
  replace G0 := Lib.hid (G0.out.out om (by have a0 := Z1.out; have a1 := Z2.out; have a2 := Z3.out; have a3 := Z4.out; have a4 := Z5.out; have a5 := Z6.out; have a6 := ZX0.out; have a7 := Z7.out; have a8 := Z8.out; have a9 := Z9.out; have a10 := Z10.out; have a11 := Z13.out; have a12 := Z14.out; omega))
  clear om
  go_wp2_with fail
  obtain ⟨k16, hk16⟩ : ∃ n : Nat, k15 + 2 * x1.flatten.length = n := ⟨_, rfl⟩
  have hb16 : k16 ≤ 6000001 := by have := Nat.le_trans (flatten_le_szLL x1) HN1.out; omega
  have HK16 := Lib.hid hk16; clear hk16
  refine (u_wmLL _ _ _ _ _ x1 k15 _ X1.out (by omega) HN1.out).mono ?_
  rw [HK16.out]
  rintro e w16 ⟨rfl, om⟩
  have Z16 : Hid (w15.heap.size ≤ w16.heap.size) := Lib.hid om.size
  have l16 := OutI.later om l15 (by have a0 := Z1.out; have a1 := Z2.out; have a2 := Z3.out; have a3 := Z4.out; have a4 := Z5.out; have a5 := Z6.out; have a6 := ZX0.out; have a7 := Z7.out; have a8 := Z8.out; have a9 := Z9.out; have a10 := Z10.out; have a11 := Z13.out; have a12 := Z14.out; have a13 := Z15.out; omega)
  clear l15
  clear X1
  replace W0 := Lib.hid (W0.out.out om (by have a0 := Z1.out; have a1 := Z2.out; have a2 := Z3.out; have a3 := Z4.out; have a4 := Z5.out; have a5 := Z6.out; have a6 := ZX0.out; have a7 := Z7.out; have a8 := Z8.out; have a9 := Z9.out; have a10 := Z10.out; have a11 := Z13.out; have a12 := Z14.out; have a13 := Z15.out; omega))
  replace G0 := Lib.hid (G0.out.out om (by have a0 := Z1.out; have a1 := Z2.out; have a2 := Z3.out; have a3 := Z4.out; have a4 := Z5.out; have a5 := Z6.out; have a6 := ZX0.out; have a7 := Z7.out; have a8 := Z8.out; have a9 := Z9.out; have a10 := Z10.out; have a11 := Z13.out; have a12 := Z14.out; have a13 := Z15.out; omega))
  clear om
  go_wp2_with fail
  refine (u_eqLL _ _ z0 _ G0.out.rdB W0.out.rdB).mono ?_
  rintro e w17 ⟨rfl, b17⟩
  have Z17 : Hid (w16.heap.size ≤ w17.heap.size) := Lib.hid b17.size
  have l17 := later_trans l16 b17
  clear l16
  replace W0 := Lib.hid (W0.out.below b17)
  replace G0 := Lib.hid (G0.out.below b17)
  clear b17
  go_wp2_with fail
  refine (u_eqL _ _ z1 _ G0.out.rdO W0.out.rdO).mono ?_
  rintro e w18 ⟨rfl, b18⟩
  have Z18 : Hid (w17.heap.size ≤ w18.heap.size) := Lib.hid b18.size
  have l18 := later_trans l17 b18
  clear l17
  replace W0 := Lib.hid (W0.out.below b18)
  replace G0 := Lib.hid (G0.out.below b18)
  clear b18
  obtain ⟨M0, hM0⟩ : ∃ n : Nat, 1 + 2 * z0.flatten.length = n := ⟨_, rfl⟩
  have hMb0 : M0 ≤ 200 := by have := HL0.out; omega
  have HM0 := Lib.hid hM0; clear hM0
  obtain ⟨M1, hM1⟩ : ∃ n : Nat, M0 + 2 * z1.length = n := ⟨_, rfl⟩
  have hMb1 : M1 ≤ 400 := by have := HL1.out; omega
  have HM1 := Lib.hid hM1; clear hM1
  have nm0 : ((M1 : Int) != (M1 : Int)) = false := by simp
  go_wp2_with fail
  refine (u_mkLL _ _ _ _ _ _ z0 z1 1 _ G0.out (by omega) (by have := HL0.out; omega) (by have := HL0.out; omega)).mono ?_
  rw [HM0.out]
  rintro e w19 ⟨rfl, og, om⟩
  have Z19 : Hid (w18.heap.size ≤ w19.heap.size) := Lib.hid om.size
  have l19 := OutI.later om l18 (by have a0 := Z1.out; have a1 := Z2.out; have a2 := Z3.out; have a3 := Z4.out; have a4 := Z5.out; have a5 := Z6.out; have a6 := ZX0.out; have a7 := Z7.out; have a8 := Z8.out; have a9 := Z9.out; have a10 := Z10.out; have a11 := Z13.out; have a12 := Z14.out; have a13 := Z15.out; have a14 := Z16.out; have a15 := Z17.out; have a16 := Z18.out; omega)
  clear l18
  replace W0 := Lib.hid (W0.out.out om (by have a0 := Z1.out; have a1 := Z2.out; have a2 := Z3.out; have a3 := Z4.out; have a4 := Z5.out; have a5 := Z6.out; have a6 := ZX0.out; have a7 := Z7.out; have a8 := Z8.out; have a9 := Z9.out; have a10 := Z10.out; have a11 := Z13.out; have a12 := Z14.out; have a13 := Z15.out; have a14 := Z16.out; have a15 := Z17.out; have a16 := Z18.out; omega))
  replace G0 := Lib.hid og
  clear om og
  go_wp2_with fail
  refine (u_mk2O _ _ _ _ _ _ (marksLL 1 z0) z1 M0 _ G0.out (by omega) (by have := HL1.out; omega)).mono ?_
  rw [HM1.out]
  rintro e w20 ⟨rfl, og, om⟩
  have Z20 : Hid (w19.heap.size ≤ w20.heap.size) := Lib.hid om.size
  have l20 := OutI.later om l19 (by have a0 := Z1.out; have a1 := Z2.out; have a2 := Z3.out; have a3 := Z4.out; have a4 := Z5.out; have a5 := Z6.out; have a6 := ZX0.out; have a7 := Z7.out; have a8 := Z8.out; have a9 := Z9.out; have a10 := Z10.out; have a11 := Z13.out; have a12 := Z14.out; have a13 := Z15.out; have a14 := Z16.out; have a15 := Z17.out; have a16 := Z18.out; have a17 := Z19.out; omega)
  clear l19
  replace W0 := Lib.hid (W0.out.out om (by have a0 := Z1.out; have a1 := Z2.out; have a2 := Z3.out; have a3 := Z4.out; have a4 := Z5.out; have a5 := Z6.out; have a6 := ZX0.out; have a7 := Z7.out; have a8 := Z8.out; have a9 := Z9.out; have a10 := Z10.out; have a11 := Z13.out; have a12 := Z14.out; have a13 := Z15.out; have a14 := Z16.out; have a15 := Z17.out; have a16 := Z18.out; have a17 := Z19.out; omega))
  replace G0 := Lib.hid og
  clear om og
  go_wp2_with fail
  refine (u_hdLL _ z0 1 _ G0.out.rdB (by omega) (by have := HL0.out; omega)).mono ?_
  rw [HM0.out]
  rintro e w21 ⟨rfl, b21⟩
  have Z21 : Hid (w20.heap.size ≤ w21.heap.size) := Lib.hid b21.size
  have l21 := later_trans l20 b21
  clear l20
  replace W0 := Lib.hid (W0.out.below b21)
  replace G0 := Lib.hid (G0.out.below b21)
  clear b21
  go_wp2_with fail
  refine (laws_heldLetterS _ z1.length M0 _ G0.out.rdO (by omega) (by have := HL1.out; omega)).mono ?_
  rw [HM1.out]
  rintro e w22 ⟨rfl, b22⟩
  have Z22 : Hid (w21.heap.size ≤ w22.heap.size) := Lib.hid b22.size
  have l22 := later_trans l21 b22
  clear l21
  replace W0 := Lib.hid (W0.out.below b22)
  replace G0 := Lib.hid (G0.out.below b22)
  clear b22
  go_wp2_with fail
  refine (u_toP _ x0 _ (H0.out.on l22) HN0.out).mono ?_
  rintro e w23 ⟨v23, rfl, o23, b23⟩
  have Z23 : Hid (w22.heap.size ≤ w23.heap.size) := Lib.hid b23.size
  have l23 := later_trans l22 b23
  clear l22
  replace W0 := Lib.hid (W0.out.below b23)
  replace G0 := Lib.hid (G0.out.below b23)
  clear b23
  have P0 := Lib.hid o23; clear o23
  go_wp2_with fail
  refine (u_toLL _ x1 _ (H1.out.on l23) HN1.out).mono ?_
  rintro e w24 ⟨v24, rfl, o24, b24⟩
  have Z24 : Hid (w23.heap.size ≤ w24.heap.size) := Lib.hid b24.size
  have l24 := later_trans l23 b24
  clear l23
  replace W0 := Lib.hid (W0.out.below b24)
  replace G0 := Lib.hid (G0.out.below b24)
  replace P0 := Lib.hid (P0.out.below b24)
  clear b24
  have P1 := Lib.hid o24; clear o24
  go_wp2_with fail
  refine (impl_RepairBins _ _ x0 x1 i2 _ P0.out.rd P1.out.rd).mono ?_
  rw [HV0.out, HV1.out, HV2.out]
  rintro e w25 ⟨NvB, NvO, Nvs, rfl, NhB, NhO, NhF, b25⟩
  have Z25 : Hid (w24.heap.size ≤ w25.heap.size) := Lib.hid b25.size
  have l25 := later_trans l24 b25
  clear l24
  replace W0 := Lib.hid (W0.out.below b25)
  replace G0 := Lib.hid (G0.out.below b25)
  replace P0 := Lib.hid (P0.out.below b25)
  replace P1 := Lib.hid (P1.out.below b25)
  clear b25
  have N0 := Lib.hid (seg2.of NhB NhO NhF); clear NhB NhO NhF
  clear P0
  clear P1
  go_wp2_with fail
  refine (u_eqLL _ _ z0 _ N0.out.rdB W0.out.rdB).mono ?_
  rintro e w26 ⟨rfl, b26⟩
  have Z26 : Hid (w25.heap.size ≤ w26.heap.size) := Lib.hid b26.size
  have l26 := later_trans l25 b26
  clear l25
  replace W0 := Lib.hid (W0.out.below b26)
  replace G0 := Lib.hid (G0.out.below b26)
  replace N0 := Lib.hid (N0.out.below b26)
  clear b26
  go_wp2_with fail
  refine (u_eqL _ _ z1 _ N0.out.rdO W0.out.rdO).mono ?_
  rintro e w27 ⟨rfl, b27⟩
  have Z27 : Hid (w26.heap.size ≤ w27.heap.size) := Lib.hid b27.size
  have l27 := later_trans l26 b27
  clear l26
  replace W0 := Lib.hid (W0.out.below b27)
  replace G0 := Lib.hid (G0.out.below b27)
  replace N0 := Lib.hid (N0.out.below b27)
  clear b27
  go_wp2_with fail
  refine (u_hdLL _ z0 1 _ G0.out.rdB (by omega) (by have := HL0.out; omega)).mono ?_
  rw [HM0.out]
  rintro e w28 ⟨rfl, b28⟩
  have Z28 : Hid (w27.heap.size ≤ w28.heap.size) := Lib.hid b28.size
  have l28 := later_trans l27 b28
  clear l27
  replace W0 := Lib.hid (W0.out.below b28)
  replace G0 := Lib.hid (G0.out.below b28)
  replace N0 := Lib.hid (N0.out.below b28)
  clear b28
  go_wp2_with fail
  refine (laws_heldLetterS _ z1.length M0 _ G0.out.rdO (by omega) (by have := HL1.out; omega)).mono ?_
  rw [HM1.out]
  rintro e w29 ⟨rfl, b29⟩
  have Z29 : Hid (w28.heap.size ≤ w29.heap.size) := Lib.hid b29.size
  have l29 := later_trans l28 b29
  clear l28
  replace W0 := Lib.hid (W0.out.below b29)
  replace G0 := Lib.hid (G0.out.below b29)
  replace N0 := Lib.hid (N0.out.below b29)
  clear b29
  go_wp2_with fail
  go_ret
  exact ⟨rfl, later_trans HT.out l29⟩

end Go.Proofs.Ytiaepapdofcnjaa
