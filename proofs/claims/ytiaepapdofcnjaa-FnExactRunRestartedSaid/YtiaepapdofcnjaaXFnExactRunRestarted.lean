/- FnExactRunRestarted: the walk of the law.  -/
import Derived.Test.YtiaepapdofcnjaaQ15
import Derived.Test.YtiaepapdofcnjaaQ22
import Derived.Deep.RegionHeld3
namespace Go.Proofs.Ytiaepapdofcnjaa
open Go.RowKit

set_option maxRecDepth 100000 in
set_option maxHeartbeats 3200000 in
theorem walk_FnExactRunRestarted (w : World) (v0 : Value) (x0 : Pln) (h0 : rdP w w.heap.size v0 x0) (v1 : Value) (x1 : List Ltr) (h1 : rd w w.heap.size v1 x1) (i2 : Int) (hi2 : isI64 i2) (v3 : Value) (x3 : List Mis) (h3 : rd w w.heap.size v3 x3) :
    Calls Try.prog 5 #[v0, v1, .int .i64 i2, v3] w fun e w' => e = .returned (.bool true) ∧ Below w.heap.size w w' := by
  obtain ⟨hi2a, hi2b⟩ := hi2
  obtain ⟨A00, A00c, e0⟩ := openP h0
  obtain ⟨wa0, hwwa0⟩ : ∃ u, u = w.alloc (Obj.cells #[.int .i64 x0.bins, .int .i64 x0.passes, .slice A00 x0.order.length A00c] 24) := ⟨_, rfl⟩
  have HT := Lib.hid (box_later hwwa0).1
  have q0_0 := box_cells hwwa0 0 (.int .i64 x0.bins) rfl
  have q0_1 := box_cells hwwa0 1 (.int .i64 x0.passes) rfl
  have q0_2 := box_cells hwwa0 2 (.slice A00 x0.order.length A00c) rfl
  have H0 := Lib.hid (h0.on HT.out)
  have H1 := Lib.hid (h1.on HT.out)
  have H3 := Lib.hid (h3.on HT.out)
  clear h0
  clear h1
  clear h3
  subst e0
  have HXwa0 := Lib.hid hwwa0; clear hwwa0
  have l0 := Below.refl wa0.heap.size wa0
  go_enter Try.func5, Try.ntmps5
  go_wp2_with fail
  rw [← HXwa0.out]
  refine (u_szP _ x0 1048576 _ (H0.out.on l0) (by omega) (by omega)).mono ?_
  rintro e w1 ⟨rfl, b1⟩
  have Z1 : Hid (wa0.heap.size ≤ w1.heap.size) := Lib.hid b1.size
  have l1 := later_trans l0 b1
  clear l0
  clear b1
  obtain ⟨r0, hr0⟩ : ∃ r, leftOf 1048576 (szP x0 : Nat) = r := ⟨_, rfl⟩
  have hk0 := @leftOf_ok 1048576 (szP x0)
  rw [hr0] at hk0 ⊢
  clear hr0
  by_cases g_0 : r0 < 0
  · go_wp2_with fail
    go_ret
    exact ⟨rfl, later_trans HT.out l1⟩
  obtain ⟨ra0, rb0, hn0⟩ := hk0 (by omega) (by omega)
  have HN0 := Lib.hid hn0; clear hn0 hk0
  go_wp2_with fail
  refine (u_szL _ x1 r0 _ (H1.out.on l1) (by omega) (by omega)).mono ?_
  rintro e w2 ⟨rfl, b2⟩
  have Z2 : Hid (w1.heap.size ≤ w2.heap.size) := Lib.hid b2.size
  have l2 := later_trans l1 b2
  clear l1
  clear b2
  obtain ⟨r1, hr1⟩ : ∃ r, leftOf r0 (szL x1 : Nat) = r := ⟨_, rfl⟩
  have hk1 := @leftOf_ok r0 (szL x1)
  rw [hr1] at hk1 ⊢
  clear hr1
  by_cases g_1 : r1 < 0
  · go_wp2_with fail
    go_ret
    exact ⟨rfl, later_trans HT.out l2⟩
  obtain ⟨ra1, rb1, hn1⟩ := hk1 (by omega) (by omega)
  have HN1 := Lib.hid hn1; clear hn1 hk1
  go_wp2_with fail
  refine (u_szM _ x3 r1 _ (H3.out.on l2) (by omega) (by omega)).mono ?_
  rintro e w3 ⟨rfl, b3⟩
  have Z3 : Hid (w2.heap.size ≤ w3.heap.size) := Lib.hid b3.size
  have l3 := later_trans l2 b3
  clear l2
  clear b3
  obtain ⟨r2, hr2⟩ : ∃ r, leftOf r1 (szM x3 : Nat) = r := ⟨_, rfl⟩
  have hk2 := @leftOf_ok r1 (szM x3)
  rw [hr2] at hk2 ⊢
  clear hr2
  by_cases g_2 : r2 < 0
  · go_wp2_with fail
    go_ret
    exact ⟨rfl, later_trans HT.out l3⟩
  obtain ⟨ra2, rb2, hn2⟩ := hk2 (by omega) (by omega)
  have HN3 := Lib.hid hn2; clear hn2 hk2
  obtain ⟨z0, HV0⟩ : ∃ z, Hid (rrRound x0 x1 i2 x3 = z) := ⟨_, rfl⟩
  obtain ⟨z1, HV1⟩ : ∃ z, Hid (fpOk x0 x1 i2 x3 = z) := ⟨_, rfl⟩
  have HL0 : Hid (z0.length ≤ 60) := by show _ ≤ _; rw [← HV0.out]; exact rrRound_len _ _ _ _
  go_wp2_with fail
  refine (u_toP _ x0 _ (H0.out.on l3) HN0.out).mono ?_
  rintro e w4 ⟨v4, rfl, o4, b4⟩
  have Z4 : Hid (w3.heap.size ≤ w4.heap.size) := Lib.hid b4.size
  have l4 := later_trans l3 b4
  clear l3
  clear b4
  have P0 := Lib.hid o4; clear o4
  go_wp2_with fail
  refine (u_toL _ x1 _ (H1.out.on l4) HN1.out).mono ?_
  rintro e w5 ⟨v5, rfl, o5, b5⟩
  have Z5 : Hid (w4.heap.size ≤ w5.heap.size) := Lib.hid b5.size
  have l5 := later_trans l4 b5
  clear l4
  replace P0 := Lib.hid (P0.out.below b5)
  clear b5
  have P1 := Lib.hid o5; clear o5
  go_wp2_with fail
  refine (u_toM _ x3 _ (H3.out.on l5) HN3.out).mono ?_
  rintro e w6 ⟨v6, rfl, o6, b6⟩
  have Z6 : Hid (w5.heap.size ≤ w6.heap.size) := Lib.hid b6.size
  have l6 := later_trans l5 b6
  clear l5
  replace P0 := Lib.hid (P0.out.below b6)
  replace P1 := Lib.hid (P1.out.below b6)
  clear b6
  have P3 := Lib.hid o6; clear o6
  go_wp2_with fail
  refine (spec_RunRestarted _ _ _ x0 x1 i2 x3 _ P0.out.rd P1.out.rd P3.out.rd).mono ?_
  rw [HV0.out, HV1.out]
  rintro e w7 ⟨Wv0, rfl, Wo0, b7⟩
  have Z7 : Hid (w6.heap.size ≤ w7.heap.size) := Lib.hid b7.size
  have l7 := later_trans l6 b7
  clear l6
  replace P0 := Lib.hid (P0.out.below b7)
  replace P1 := Lib.hid (P1.out.below b7)
  replace P3 := Lib.hid (P3.out.below b7)
  clear b7
  have W0 := Lib.hid (seg.of Wo0); clear Wo0
  clear P0
  clear P1
  clear P3
  go_wp2_with fail
  refine (u_toP _ x0 _ (H0.out.on l7) HN0.out).mono ?_
  rintro e w8 ⟨v8, rfl, o8, b8⟩
  have Z8 : Hid (w7.heap.size ≤ w8.heap.size) := Lib.hid b8.size
  have l8 := later_trans l7 b8
  clear l7
  replace W0 := Lib.hid (W0.out.below b8)
  clear b8
  have X0 := Lib.hid (segP.of o8)
  obtain ⟨C00, C00c, e0⟩ := openP o8.rd
  clear o8
  subst e0
  obtain ⟨wx0, hwx0⟩ : ∃ u, u = w8.alloc (Obj.cells #[.int .i64 x0.bins, .int .i64 x0.passes, .slice C00 x0.order.length C00c] 32) := ⟨_, rfl⟩
  have bx := (box_later hwx0).1
  have lx := later_trans l8 bx
  have ZX0 : Hid (w8.heap.size ≤ wx0.heap.size) := Lib.hid bx.size
  have LR := Lib.hid lx
  have KHT := HT
  have KH0 := H0
  have KH1 := H1
  have KH3 := H3
  have Kq0_0 := Lib.hid q0_0
  have Kq0_1 := Lib.hid q0_1
  have Kq0_2 := Lib.hid q0_2
  replace W0 := Lib.hid (W0.out.below bx)
  replace X0 := Lib.hid (X0.out.below bx)
  replace H0 := Lib.hid (H0.out.on lx)
  replace H1 := Lib.hid (H1.out.on lx)
  replace H3 := Lib.hid (H3.out.on lx)
  replace HT := Lib.hid (later_trans HT.out lx)
  replace q0_0 := fun W h => q0_0 W (later_trans lx h)
  replace q0_1 := fun W h => q0_1 W (later_trans lx h)
  replace q0_2 := fun W h => q0_2 W (later_trans lx h)
  have y0_0 := box_cells hwx0 0 (.int .i64 x0.bins) rfl
  have y0_1 := box_cells hwx0 1 (.int .i64 x0.passes) rfl
  have y0_2 := box_cells hwx0 2 (.slice C00 x0.order.length C00c) rfl
  have HXx0 := Lib.hid hwx0; clear hwx0 bx lx l8
  have lb0 := Below.refl wx0.heap.size wx0
  go_wp2_with fail
  rw [← HXx0.out]
  refine (u_toL _ x1 _ (H1.out.on lb0) HN1.out).mono ?_
  rintro e w9 ⟨v9, rfl, o9, b9⟩
  have Z9 : Hid (wx0.heap.size ≤ w9.heap.size) := Lib.hid b9.size
  have l9 := later_trans lb0 b9
  clear lb0
  replace W0 := Lib.hid (W0.out.below b9)
  replace X0 := Lib.hid (X0.out.below b9)
  clear b9
  have X1 := Lib.hid (seg.of o9)
  clear o9
  go_wp2_with fail
  refine (u_toM _ x3 _ (H3.out.on l9) HN3.out).mono ?_
  rintro e w10 ⟨v10, rfl, o10, b10⟩
  have Z10 : Hid (w9.heap.size ≤ w10.heap.size) := Lib.hid b10.size
  have l10 := later_trans l9 b10
  clear l9
  replace W0 := Lib.hid (W0.out.below b10)
  replace X0 := Lib.hid (X0.out.below b10)
  replace X1 := Lib.hid (X1.out.below b10)
  clear b10
  have X3 := Lib.hid (seg.of o10)
  clear o10
  go_wp2_with fail
  refine (impl_RunRestarted _ _ _ x0 x1 i2 x3 _ X0.out.rd X1.out.rd X3.out.rd).mono ?_
  rw [HV0.out, HV1.out]
  rintro e w11 ⟨Gv0, rfl, Go0, b11⟩
  have Z11 : Hid (w10.heap.size ≤ w11.heap.size) := Lib.hid b11.size
  have l11 := later_trans l10 b11
  clear l10
  replace W0 := Lib.hid (W0.out.below b11)
  replace X0 := Lib.hid (X0.out.below b11)
  replace X1 := Lib.hid (X1.out.below b11)
  replace X3 := Lib.hid (X3.out.below b11)
  clear b11
  have G0 := Lib.hid (seg.of Go0); clear Go0
  have ne1 : (z1 != z1) = false := by simp
  go_wp2_with fail
  refine (u_eqL _ _ z0 _ G0.out.rd W0.out.rd).mono ?_
  rintro e w12 ⟨rfl, b12⟩
  have Z12 : Hid (w11.heap.size ≤ w12.heap.size) := Lib.hid b12.size
  have l12 := later_trans l11 b12
  clear l11
  replace W0 := Lib.hid (W0.out.below b12)
  replace X0 := Lib.hid (X0.out.below b12)
  replace X1 := Lib.hid (X1.out.below b12)
  replace X3 := Lib.hid (X3.out.below b12)
  replace G0 := Lib.hid (G0.out.below b12)
  clear b12
  go_wp2
  have ld := later_drew l12
  go_region_held3 (fun W => Below wx0.heap.size wx0 W) (first | exact ld | exact later_trans ld b13 | exact later_trans (later_trans ld b13) b14) (first | (go_at_call 16; refine (u_toP _ x0 _ (H0.out.on ld) HN0.out).mono ?_; rintro e w13 ⟨v13, rfl, o13, b13⟩) | (go_at_call 21; refine (u_eqP _ _ x0 _ ((X0.out.below ((Below.refl _ _).drew)).below b13).rd o13.rd).mono ?_; rintro e w14 ⟨rfl, b14⟩))
  have bb : Below w12.heap.size w12 w14 := later_trans (later_trans ((Below.refl _ _).drew) b13) b14
  clear ld b13 b14 o13
  have l14 := later_trans l12 bb
  clear l12
  replace W0 := Lib.hid (W0.out.below bb)
  replace X0 := Lib.hid (X0.out.below bb)
  replace X1 := Lib.hid (X1.out.below bb)
  replace X3 := Lib.hid (X3.out.below bb)
  replace G0 := Lib.hid (G0.out.below bb)
  clear bb
  go_wp2_with fail
  refine (u_toL _ x1 _ (H1.out.on l14) HN1.out).mono ?_
  rintro e w15 ⟨v15, rfl, o15, b15⟩
  have Z15 : Hid (w14.heap.size ≤ w15.heap.size) := Lib.hid b15.size
  have l15 := later_trans l14 b15
  clear l14
  replace W0 := Lib.hid (W0.out.below b15)
  replace X0 := Lib.hid (X0.out.below b15)
  replace X1 := Lib.hid (X1.out.below b15)
  replace X3 := Lib.hid (X3.out.below b15)
  replace G0 := Lib.hid (G0.out.below b15)
  clear b15
  have Y := Lib.hid o15; clear o15
  go_wp2_with fail
  refine (u_eqL _ _ x1 _ X1.out.rd Y.out.rd).mono ?_
  rintro e w16 ⟨rfl, b16⟩
  have Z16 : Hid (w15.heap.size ≤ w16.heap.size) := Lib.hid b16.size
  have l16 := later_trans l15 b16
  clear l15
  replace W0 := Lib.hid (W0.out.below b16)
  replace X0 := Lib.hid (X0.out.below b16)
  replace X1 := Lib.hid (X1.out.below b16)
  replace X3 := Lib.hid (X3.out.below b16)
  replace G0 := Lib.hid (G0.out.below b16)
  replace Y := Lib.hid (Y.out.below b16)
  clear b16
  clear Y
  go_wp2_with fail
  refine (u_toM _ x3 _ (H3.out.on l16) HN3.out).mono ?_
  rintro e w17 ⟨v17, rfl, o17, b17⟩
  have Z17 : Hid (w16.heap.size ≤ w17.heap.size) := Lib.hid b17.size
  have l17 := later_trans l16 b17
  clear l16
  replace W0 := Lib.hid (W0.out.below b17)
  replace X0 := Lib.hid (X0.out.below b17)
  replace X1 := Lib.hid (X1.out.below b17)
  replace X3 := Lib.hid (X3.out.below b17)
  replace G0 := Lib.hid (G0.out.below b17)
  clear b17
  have Y := Lib.hid o17; clear o17
  go_wp2_with fail
  refine (u_eqM _ _ x3 _ X3.out.rd Y.out.rd).mono ?_
  rintro e w18 ⟨rfl, b18⟩
  have Z18 : Hid (w17.heap.size ≤ w18.heap.size) := Lib.hid b18.size
  have l18 := later_trans l17 b18
  clear l17
  replace W0 := Lib.hid (W0.out.below b18)
  replace X0 := Lib.hid (X0.out.below b18)
  replace X1 := Lib.hid (X1.out.below b18)
  replace X3 := Lib.hid (X3.out.below b18)
  replace G0 := Lib.hid (G0.out.below b18)
  replace Y := Lib.hid (Y.out.below b18)
  clear b18
  clear Y
  go_wp2_with fail
  obtain ⟨k19, hk19⟩ : ∃ n : Nat, 1 + x0.order.length = n := ⟨_, rfl⟩
  have hb19 : k19 ≤ 3000001 := by have := HN0.out; unfold szP at this; omega
  have HK19 := Lib.hid hk19; clear hk19
  refine (u_wmP _ _ _ _ x0 1 _ X0.out (by omega) HN0.out).mono ?_
  rw [HK19.out]
  rintro e w19 ⟨rfl, om⟩
  have Z19 : Hid (w18.heap.size ≤ w19.heap.size) := Lib.hid om.size
  replace LR := Lib.hid (later_trans LR.out l18)
  clear l18
  have lr := LR.out
  clear q0_0
  clear q0_1
  clear q0_2
  clear y0_0
  clear y0_1
  clear y0_2
  have q0_0 := Kq0_0.out
  have q0_1 := Kq0_1.out
  have q0_2 := Kq0_2.out
  replace H0 := KH0
  replace H1 := KH1
  replace H3 := KH3
  replace HT := KHT
  have l19 := OutI.later om lr (by have a0 := Z1.out; have a1 := Z2.out; have a2 := Z3.out; have a3 := Z4.out; have a4 := Z5.out; have a5 := Z6.out; have a6 := Z7.out; have a7 := Z8.out; have a8 := ZX0.out; have a9 := Z9.out; have a10 := Z10.out; have a11 := Z11.out; have a12 := Z12.out; have a13 := Z15.out; have a14 := Z16.out; have a15 := Z17.out; have a16 := Z18.out; omega)
  clear lr
  clear X0
  replace W0 := Lib.hid (W0.out.out om (by have a0 := Z1.out; have a1 := Z2.out; have a2 := Z3.out; have a3 := Z4.out; have a4 := Z5.out; have a5 := Z6.out; have a6 := Z7.out; have a7 := Z8.out; have a8 := ZX0.out; have a9 := Z9.out; have a10 := Z10.out; have a11 := Z11.out; have a12 := Z12.out; have a13 := Z15.out; have a14 := Z16.out; have a15 := Z17.out; have a16 := Z18.out; omega))
  replace X1 := Lib.hid (X1.out.out om (by have a0 := Z1.out; have a1 := Z2.out; have a2 := Z3.out; have a3 := Z4.out; have a4 := Z5.out; have a5 := Z6.out; have a6 := Z7.out; have a7 := Z8.out; have a8 := ZX0.out; have a9 := Z9.out; have a10 := Z10.out; have a11 := Z11.out; have a12 := Z12.out; have a13 := Z15.out; have a14 := Z16.out; have a15 := Z17.out; have a16 := Z18.out; omega))
  replace X3 := Lib.hid (X3.out.out om (by have a0 := Z1.out; have a1 := Z2.out; have a2 := Z3.out; have a3 := Z4.out; have a4 := Z5.out; have a5 := Z6.out; have a6 := Z7.out; have a7 := Z8.out; have a8 := ZX0.out; have a9 := Z9.out; have a10 := Z10.out; have a11 := Z11.out; have a12 := Z12.out; have a13 := Z15.out; have a14 := Z16.out; have a15 := Z17.out; have a16 := Z18.out; omega))
  replace G0 := Lib.hid (G0.out.out om (by have a0 := Z1.out; have a1 := Z2.out; have a2 := Z3.out; have a3 := Z4.out; have a4 := Z5.out; have a5 := Z6.out; have a6 := Z7.out; have a7 := Z8.out; have a8 := ZX0.out; have a9 := Z9.out; have a10 := Z10.out; have a11 := Z11.out; have a12 := Z12.out; have a13 := Z15.out; have a14 := Z16.out; have a15 := Z17.out; have a16 := Z18.out; omega))
  clear om
  go_wp2_with fail
  obtain ⟨k20, hk20⟩ : ∃ n : Nat, k19 + 2 * x1.length = n := ⟨_, rfl⟩
  have hb20 : k20 ≤ 6000001 := by have := HN1.out; unfold szL at this; omega
  have HK20 := Lib.hid hk20; clear hk20
  refine (u_wmL _ _ _ _ x1 k19 _ X1.out (by omega) HN1.out).mono ?_
  rw [HK20.out]
  rintro e w20 ⟨rfl, om⟩
  have Z20 : Hid (w19.heap.size ≤ w20.heap.size) := Lib.hid om.size
  have l20 := OutI.later om l19 (by have a0 := Z1.out; have a1 := Z2.out; have a2 := Z3.out; have a3 := Z4.out; have a4 := Z5.out; have a5 := Z6.out; have a6 := Z7.out; have a7 := Z8.out; have a8 := ZX0.out; have a9 := Z9.out; have a10 := Z10.out; have a11 := Z11.out; have a12 := Z12.out; have a13 := Z15.out; have a14 := Z16.out; have a15 := Z17.out; have a16 := Z18.out; have a17 := Z19.out; omega)
  clear l19
  clear X1
  replace W0 := Lib.hid (W0.out.out om (by have a0 := Z1.out; have a1 := Z2.out; have a2 := Z3.out; have a3 := Z4.out; have a4 := Z5.out; have a5 := Z6.out; have a6 := Z7.out; have a7 := Z8.out; have a8 := ZX0.out; have a9 := Z9.out; have a10 := Z10.out; have a11 := Z11.out; have a12 := Z12.out; have a13 := Z15.out; have a14 := Z16.out; have a15 := Z17.out; have a16 := Z18.out; have a17 := Z19.out; omega))
  replace X3 := Lib.hid (X3.out.out om (by have a0 := Z1.out; have a1 := Z2.out; have a2 := Z3.out; have a3 := Z4.out; have a4 := Z5.out; have a5 := Z6.out; have a6 := Z7.out; have a7 := Z8.out; have a8 := ZX0.out; have a9 := Z9.out; have a10 := Z10.out; have a11 := Z11.out; have a12 := Z12.out; have a13 := Z15.out; have a14 := Z16.out; have a15 := Z17.out; have a16 := Z18.out; have a17 := Z19.out; omega))
  replace G0 := Lib.hid (G0.out.out om (by have a0 := Z1.out; have a1 := Z2.out; have a2 := Z3.out; have a3 := Z4.out; have a4 := Z5.out; have a5 := Z6.out; have a6 := Z7.out; have a7 := Z8.out; have a8 := ZX0.out; have a9 := Z9.out; have a10 := Z10.out; have a11 := Z11.out; have a12 := Z12.out; have a13 := Z15.out; have a14 := Z16.out; have a15 := Z17.out; have a16 := Z18.out; have a17 := Z19.out; omega))
  clear om
  go_wp2_with fail
  obtain ⟨k21, hk21⟩ : ∃ n : Nat, k20 + 2 * x3.length = n := ⟨_, rfl⟩
  have hb21 : k21 ≤ 9000001 := by have := HN3.out; unfold szM at this; omega
  have HK21 := Lib.hid hk21; clear hk21
  refine (u_wmM _ _ _ _ x3 k20 _ X3.out (by omega) HN3.out).mono ?_
  rw [HK21.out]
  rintro e w21 ⟨rfl, om⟩
  have Z21 : Hid (w20.heap.size ≤ w21.heap.size) := Lib.hid om.size
  have l21 := OutI.later om l20 (by have a0 := Z1.out; have a1 := Z2.out; have a2 := Z3.out; have a3 := Z4.out; have a4 := Z5.out; have a5 := Z6.out; have a6 := Z7.out; have a7 := Z8.out; have a8 := ZX0.out; have a9 := Z9.out; have a10 := Z10.out; have a11 := Z11.out; have a12 := Z12.out; have a13 := Z15.out; have a14 := Z16.out; have a15 := Z17.out; have a16 := Z18.out; have a17 := Z19.out; have a18 := Z20.out; omega)
  clear l20
  clear X3
  replace W0 := Lib.hid (W0.out.out om (by have a0 := Z1.out; have a1 := Z2.out; have a2 := Z3.out; have a3 := Z4.out; have a4 := Z5.out; have a5 := Z6.out; have a6 := Z7.out; have a7 := Z8.out; have a8 := ZX0.out; have a9 := Z9.out; have a10 := Z10.out; have a11 := Z11.out; have a12 := Z12.out; have a13 := Z15.out; have a14 := Z16.out; have a15 := Z17.out; have a16 := Z18.out; have a17 := Z19.out; have a18 := Z20.out; omega))
  replace G0 := Lib.hid (G0.out.out om (by have a0 := Z1.out; have a1 := Z2.out; have a2 := Z3.out; have a3 := Z4.out; have a4 := Z5.out; have a5 := Z6.out; have a6 := Z7.out; have a7 := Z8.out; have a8 := ZX0.out; have a9 := Z9.out; have a10 := Z10.out; have a11 := Z11.out; have a12 := Z12.out; have a13 := Z15.out; have a14 := Z16.out; have a15 := Z17.out; have a16 := Z18.out; have a17 := Z19.out; have a18 := Z20.out; omega))
  clear om
  go_wp2_with fail
  refine (u_eqL _ _ z0 _ G0.out.rd W0.out.rd).mono ?_
  rintro e w22 ⟨rfl, b22⟩
  have Z22 : Hid (w21.heap.size ≤ w22.heap.size) := Lib.hid b22.size
  have l22 := later_trans l21 b22
  clear l21
  replace W0 := Lib.hid (W0.out.below b22)
  replace G0 := Lib.hid (G0.out.below b22)
  clear b22
  obtain ⟨M0, hM0⟩ : ∃ n : Nat, 1 + 2 * z0.length = n := ⟨_, rfl⟩
  have hMb0 : M0 ≤ 200 := by have := HL0.out; omega
  have HM0 := Lib.hid hM0; clear hM0
  have nm0 : ((M0 : Int) != (M0 : Int)) = false := by simp
  go_wp2_with fail
  refine (laws_markLetterS _ _ _ z0 1 _ G0.out.1 (by omega) (by have := HL0.out; omega)).mono ?_
  rw [HM0.out]
  rintro e w23 ⟨rfl, og, gg⟩
  have om := OutI.of_grown gg (fun j hj => ⟨(G0.out.1.blk j hj).1, G0.out.2 j hj⟩)
  have Z23 : Hid (w22.heap.size ≤ w23.heap.size) := Lib.hid om.size
  have l23 := OutI.later om l22 (by have a0 := Z1.out; have a1 := Z2.out; have a2 := Z3.out; have a3 := Z4.out; have a4 := Z5.out; have a5 := Z6.out; have a6 := Z7.out; have a7 := Z8.out; have a8 := ZX0.out; have a9 := Z9.out; have a10 := Z10.out; have a11 := Z11.out; have a12 := Z12.out; have a13 := Z15.out; have a14 := Z16.out; have a15 := Z17.out; have a16 := Z18.out; have a17 := Z19.out; have a18 := Z20.out; have a19 := Z21.out; have a20 := Z22.out; omega)
  clear l22
  replace W0 := Lib.hid (W0.out.out om (by have a0 := Z1.out; have a1 := Z2.out; have a2 := Z3.out; have a3 := Z4.out; have a4 := Z5.out; have a5 := Z6.out; have a6 := Z7.out; have a7 := Z8.out; have a8 := ZX0.out; have a9 := Z9.out; have a10 := Z10.out; have a11 := Z11.out; have a12 := Z12.out; have a13 := Z15.out; have a14 := Z16.out; have a15 := Z17.out; have a16 := Z18.out; have a17 := Z19.out; have a18 := Z20.out; have a19 := Z21.out; have a20 := Z22.out; omega))
  replace G0 := Lib.hid (show seg _ _ _ _ _ _ from ⟨og, G0.out.2⟩)
  clear om og gg
  go_wp2_with fail
  refine (laws_heldLetterS _ z0.length 1 _ G0.out.rd (by omega) (by have := HL0.out; omega)).mono ?_
  rw [HM0.out]
  rintro e w24 ⟨rfl, b24⟩
  have Z24 : Hid (w23.heap.size ≤ w24.heap.size) := Lib.hid b24.size
  have l24 := later_trans l23 b24
  clear l23
  replace W0 := Lib.hid (W0.out.below b24)
  replace G0 := Lib.hid (G0.out.below b24)
  clear b24
  go_wp2_with fail
  refine (u_toP _ x0 _ (H0.out.on l24) HN0.out).mono ?_
  rintro e w25 ⟨v25, rfl, o25, b25⟩
  have Z25 : Hid (w24.heap.size ≤ w25.heap.size) := Lib.hid b25.size
  have l25 := later_trans l24 b25
  clear l24
  replace W0 := Lib.hid (W0.out.below b25)
  replace G0 := Lib.hid (G0.out.below b25)
  clear b25
  have P0 := Lib.hid o25; clear o25
  go_wp2_with fail
  refine (u_toL _ x1 _ (H1.out.on l25) HN1.out).mono ?_
  rintro e w26 ⟨v26, rfl, o26, b26⟩
  have Z26 : Hid (w25.heap.size ≤ w26.heap.size) := Lib.hid b26.size
  have l26 := later_trans l25 b26
  clear l25
  replace W0 := Lib.hid (W0.out.below b26)
  replace G0 := Lib.hid (G0.out.below b26)
  replace P0 := Lib.hid (P0.out.below b26)
  clear b26
  have P1 := Lib.hid o26; clear o26
  go_wp2_with fail
  refine (u_toM _ x3 _ (H3.out.on l26) HN3.out).mono ?_
  rintro e w27 ⟨v27, rfl, o27, b27⟩
  have Z27 : Hid (w26.heap.size ≤ w27.heap.size) := Lib.hid b27.size
  have l27 := later_trans l26 b27
  clear l26
  replace W0 := Lib.hid (W0.out.below b27)
  replace G0 := Lib.hid (G0.out.below b27)
  replace P0 := Lib.hid (P0.out.below b27)
  replace P1 := Lib.hid (P1.out.below b27)
  clear b27
  have P3 := Lib.hid o27; clear o27
  go_wp2_with fail
  refine (impl_RunRestarted _ _ _ x0 x1 i2 x3 _ P0.out.rd P1.out.rd P3.out.rd).mono ?_
  rw [HV0.out, HV1.out]
  rintro e w28 ⟨Nv0, rfl, No0, b28⟩
  have Z28 : Hid (w27.heap.size ≤ w28.heap.size) := Lib.hid b28.size
  have l28 := later_trans l27 b28
  clear l27
  replace W0 := Lib.hid (W0.out.below b28)
  replace G0 := Lib.hid (G0.out.below b28)
  replace P0 := Lib.hid (P0.out.below b28)
  replace P1 := Lib.hid (P1.out.below b28)
  replace P3 := Lib.hid (P3.out.below b28)
  clear b28
  have N0 := Lib.hid (seg.of No0); clear No0
  clear P0
  clear P1
  clear P3
  go_wp2_with fail
  refine (u_eqL _ _ z0 _ N0.out.rd W0.out.rd).mono ?_
  rintro e w29 ⟨rfl, b29⟩
  have Z29 : Hid (w28.heap.size ≤ w29.heap.size) := Lib.hid b29.size
  have l29 := later_trans l28 b29
  clear l28
  replace W0 := Lib.hid (W0.out.below b29)
  replace G0 := Lib.hid (G0.out.below b29)
  replace N0 := Lib.hid (N0.out.below b29)
  clear b29
  go_wp2_with fail
  refine (laws_heldLetterS _ z0.length 1 _ G0.out.rd (by omega) (by have := HL0.out; omega)).mono ?_
  rw [HM0.out]
  rintro e w30 ⟨rfl, b30⟩
  have Z30 : Hid (w29.heap.size ≤ w30.heap.size) := Lib.hid b30.size
  have l30 := later_trans l29 b30
  clear l29
  replace W0 := Lib.hid (W0.out.below b30)
  replace G0 := Lib.hid (G0.out.below b30)
  replace N0 := Lib.hid (N0.out.below b30)
  clear b30
  go_wp2_with fail
  go_ret
  exact ⟨rfl, later_trans HT.out l30⟩

end Go.Proofs.Ytiaepapdofcnjaa
