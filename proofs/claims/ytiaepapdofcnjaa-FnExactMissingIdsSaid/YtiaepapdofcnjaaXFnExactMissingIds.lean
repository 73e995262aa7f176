/- FnExactMissingIds: the walk of the law.  -/
import Derived.Test.YtiaepapdofcnjaaQ17
import Derived.Deep.RegionHeld3
namespace Go.Proofs.Ytiaepapdofcnjaa
open Go.RowKit

set_option maxRecDepth 100000 in
set_option maxHeartbeats 3200000 in
theorem walk_FnExactMissingIds (w : World) (v0 : Value) (x0 : List Ltr) (h0 : rd w w.heap.size v0 x0) (v1 : Value) (x1 : List Ltr) (h1 : rd w w.heap.size v1 x1) :
    Calls Try.prog 11 #[v0, v1] w fun e w' => e = .returned (.bool true) ∧ Below w.heap.size w w' := by
  have HT := Lib.hid (Below.refl w.heap.size w)
  have H0 := Lib.hid (h0.on HT.out)
  have H1 := Lib.hid (h1.on HT.out)
  clear h0
  clear h1
  have l0 := Below.refl w.heap.size w
  go_enter Try.func11, Try.ntmps11
  go_wp2_with fail
  refine (u_szL _ x0 1048576 _ (H0.out.on l0) (by omega) (by omega)).mono ?_
  rintro e w1 ⟨rfl, b1⟩
  have Z1 : Hid (w.heap.size ≤ w1.heap.size) := Lib.hid b1.size
  have l1 := later_trans l0 b1
  clear l0
  clear b1
  obtain ⟨r0, hr0⟩ : ∃ r, leftOf 1048576 (szL x0 : Nat) = r := ⟨_, rfl⟩
  have hk0 := @leftOf_ok 1048576 (szL x0)
  rw [hr0] at hk0 ⊢
  clear hr0
  by_cases g_0 : r0 < 0
  · go_wp2_with fail
    go_ret
    exact ⟨rfl, later_trans HT.out l1⟩
  obtain ⟨ra0, rb0, hn0⟩ := hk0 (by omega) (by omega)
  have HN0 := Lib.hid hn0; clear hn0 hk0
  go_wp2_with fail
  refine (u_szL _ x1 r0 _ (H1.out.on l1) (by omega) (by omega)).mono ?_
  rintro e w2 ⟨rfl, b2⟩
  have Z2 : Hid (w1.heap.size ≤ w2.heap.size) := Lib.hid b2.size
  have l2 := later_trans l1 b2
  clear l1
  clear b2
  obtain ⟨r1, hr1⟩ : ∃ r, leftOf r0 (szL x1 : Nat) = r := ⟨_, rfl⟩
  have hk1 := @leftOf_ok r0 (szL x1)
  rw [hr1] at hk1 ⊢
  clear hr1
  by_cases g_1 : r1 < 0
  · go_wp2_with fail
    go_ret
    exact ⟨rfl, later_trans HT.out l2⟩
  obtain ⟨ra1, rb1, hn1⟩ := hk1 (by omega) (by omega)
  have HN1 := Lib.hid hn1; clear hn1 hk1
  obtain ⟨z0, HV0⟩ : ∃ z, Hid (missR x0 x1 = z) := ⟨_, rfl⟩
  have HL0 : Hid (z0.length ≤ 60) := by show _ ≤ _; rw [← HV0.out]; exact missR_len _ _
  go_wp2_with fail
  refine (u_toL _ x0 _ (H0.out.on l2) HN0.out).mono ?_
  rintro e w3 ⟨v3, rfl, o3, b3⟩
  have Z3 : Hid (w2.heap.size ≤ w3.heap.size) := Lib.hid b3.size
  have l3 := later_trans l2 b3
  clear l2
  clear b3
  have P0 := Lib.hid o3; clear o3
  go_wp2_with fail
  refine (u_toL _ x1 _ (H1.out.on l3) HN1.out).mono ?_
  rintro e w4 ⟨v4, rfl, o4, b4⟩
  have Z4 : Hid (w3.heap.size ≤ w4.heap.size) := Lib.hid b4.size
  have l4 := later_trans l3 b4
  clear l3
  replace P0 := Lib.hid (P0.out.below b4)
  clear b4
  have P1 := Lib.hid o4; clear o4
  go_wp2_with fail
  refine (spec_MissingIds _ _ x0 x1 _ P0.out.rd P1.out.rd).mono ?_
  rw [HV0.out]
  rintro e w5 ⟨Wv0, rfl, Wo0, b5⟩
  have Z5 : Hid (w4.heap.size ≤ w5.heap.size) := Lib.hid b5.size
  have l5 := later_trans l4 b5
  clear l4
  replace P0 := Lib.hid (P0.out.below b5)
  replace P1 := Lib.hid (P1.out.below b5)
  clear b5
  have W0 := Lib.hid (seg.of Wo0); clear Wo0
  clear P0
  clear P1
  go_wp2_with fail
  refine (u_toL _ x0 _ (H0.out.on l5) HN0.out).mono ?_
  rintro e w6 ⟨v6, rfl, o6, b6⟩
  have Z6 : Hid (w5.heap.size ≤ w6.heap.size) := Lib.hid b6.size
  have l6 := later_trans l5 b6
  clear l5
  replace W0 := Lib.hid (W0.out.below b6)
  clear b6
  have X0 := Lib.hid (seg.of o6)
  clear o6
  go_wp2_with fail
  refine (u_toL _ x1 _ (H1.out.on l6) HN1.out).mono ?_
  rintro e w7 ⟨v7, rfl, o7, b7⟩
  have Z7 : Hid (w6.heap.size ≤ w7.heap.size) := Lib.hid b7.size
  have l7 := later_trans l6 b7
  clear l6
  replace W0 := Lib.hid (W0.out.below b7)
  replace X0 := Lib.hid (X0.out.below b7)
  clear b7
  have X1 := Lib.hid (seg.of o7)
  clear o7
  go_wp2_with fail
  refine (impl_MissingIds _ _ x0 x1 _ X0.out.rd X1.out.rd).mono ?_
  rw [HV0.out]
  rintro e w8 ⟨Gv0, rfl, Go0, b8⟩
  have Z8 : Hid (w7.heap.size ≤ w8.heap.size) := Lib.hid b8.size
  have l8 := later_trans l7 b8
  clear l7
  replace W0 := Lib.hid (W0.out.below b8)
  replace X0 := Lib.hid (X0.out.below b8)
  replace X1 := Lib.hid (X1.out.below b8)
  clear b8
  have G0 := Lib.hid (seg.of Go0); clear Go0
  go_wp2_with fail
  refine (u_eqIS _ _ z0 _ G0.out.rd W0.out.rd).mono ?_
  rintro e w9 ⟨rfl, b9⟩
  have Z9 : Hid (w8.heap.size ≤ w9.heap.size) := Lib.hid b9.size
  have l9 := later_trans l8 b9
  clear l8
  replace W0 := Lib.hid (W0.out.below b9)
  replace X0 := Lib.hid (X0.out.below b9)
  replace X1 := Lib.hid (X1.out.below b9)
  replace G0 := Lib.hid (G0.out.below b9)
  clear b9
  go_wp2_with fail
  refine (u_toL _ x0 _ (H0.out.on l9) HN0.out).mono ?_
  rintro e w10 ⟨v10, rfl, o10, b10⟩
  have Z10 : Hid (w9.heap.size ≤ w10.heap.size) := Lib.hid b10.size
  have l10 := later_trans l9 b10
  clear l9
  replace W0 := Lib.hid (W0.out.below b10)
  replace X0 := Lib.hid (X0.out.below b10)
  replace X1 := Lib.hid (X1.out.below b10)
  replace G0 := Lib.hid (G0.out.below b10)
  clear b10
  have Y := Lib.hid o10; clear o10
  go_wp2_with fail
  refine (u_eqL _ _ x0 _ X0.out.rd Y.out.rd).mono ?_
  rintro e w11 ⟨rfl, b11⟩
  have Z11 : Hid (w10.heap.size ≤ w11.heap.size) := Lib.hid b11.size
  have l11 := later_trans l10 b11
  clear l10
  replace W0 := Lib.hid (W0.out.below b11)
  replace X0 := Lib.hid (X0.out.below b11)
  replace X1 := Lib.hid (X1.out.below b11)
  replace G0 := Lib.hid (G0.out.below b11)
  replace Y := Lib.hid (Y.out.below b11)
  clear b11
  clear Y
  go_wp2_with fail
  refine (u_toL _ x1 _ (H1.out.on l11) HN1.out).mono ?_
  rintro e w12 ⟨v12, rfl, o12, b12⟩
  have Z12 : Hid (w11.heap.size ≤ w12.heap.size) := Lib.hid b12.size
  have l12 := later_trans l11 b12
  clear l11
  replace W0 := Lib.hid (W0.out.below b12)
  replace X0 := Lib.hid (X0.out.below b12)
  replace X1 := Lib.hid (X1.out.below b12)
  replace G0 := Lib.hid (G0.out.below b12)
  clear b12
  have Y := Lib.hid o12; clear o12
  go_wp2_with fail
  refine (u_eqL _ _ x1 _ X1.out.rd Y.out.rd).mono ?_
  rintro e w13 ⟨rfl, b13⟩
  have Z13 : Hid (w12.heap.size ≤ w13.heap.size) := Lib.hid b13.size
  have l13 := later_trans l12 b13
  clear l12
  replace W0 := Lib.hid (W0.out.below b13)
  replace X0 := Lib.hid (X0.out.below b13)
  replace X1 := Lib.hid (X1.out.below b13)
  replace G0 := Lib.hid (G0.out.below b13)
  replace Y := Lib.hid (Y.out.below b13)
  clear b13
  clear Y
  go_wp2_with fail
  obtain ⟨k14, hk14⟩ : ∃ n : Nat, 1 + 2 * x0.length = n := ⟨_, rfl⟩
  have hb14 : k14 ≤ 3000001 := by have := HN0.out; unfold szL at this; omega
  have HK14 := Lib.hid hk14; clear hk14
  refine (u_wmL _ _ _ _ x0 1 _ X0.out (by omega) HN0.out).mono ?_
  rw [HK14.out]
  rintro e w14 ⟨rfl, om⟩
  have Z14 : Hid (w13.heap.size ≤ w14.heap.size) := Lib.hid om.size
  have l14 := OutI.later om l13 (by have a0 := Z1.out; have a1 := Z2.out; have a2 := Z3.out; have a3 := Z4.out; have a4 := Z5.out; have a5 := Z6.out; have a6 := Z7.out; have a7 := Z8.out; have a8 := Z9.out; have a9 := Z10.out; have a10 := Z11.out; have a11 := Z12.out; have a12 := Z13.out; omega)
  clear l13
  clear X0
  replace W0 := Lib.hid (W0.out.out om (by have a0 := Z1.out; have a1 := Z2.out; have a2 := Z3.out; have a3 := Z4.out; have a4 := Z5.out; have a5 := Z6.out; have a6 := Z7.out; have a7 := Z8.out; have a8 := Z9.out; have a9 := Z10.out; have a10 := Z11.out; have a11 := Z12.out; have a12 := Z13.out; omega))
  replace X1 := Lib.hid (X1.out.out om (by have a0 := Z1.out; have a1 := Z2.out; have a2 := Z3.out; have a3 := Z4.out; have a4 := Z5.out; have a5 := Z6.out; have a6 := Z7.out; have a7 := Z8.out; have a8 := Z9.out; have a9 := Z10.out; have a10 := Z11.out; have a11 := Z12.out; have a12 := Z13.out; omega))
  replace G0 := Lib.hid (G0.out.out om (by have a0 := Z1.out; have a1 := Z2.out; have a2 := Z3.out; have a3 := Z4.out; have a4 := Z5.out; have a5 := Z6.out; have a6 := Z7.out; have a7 := Z8.out; have a8 := Z9.out; have a9 := Z10.out; have a10 := Z11.out; have a11 := Z12.out; have a12 := Z13.out; omega))
  clear om
  go_wp2_with fail
  obtain ⟨k15, hk15⟩ : ∃ n : Nat, k14 + 2 * x1.length = n := ⟨_, rfl⟩
  have hb15 : k15 ≤ 6000001 := by have := HN1.out; unfold szL at this; omega
  have HK15 := Lib.hid hk15; clear hk15
  refine (u_wmL _ _ _ _ x1 k14 _ X1.out (by omega) HN1.out).mono ?_
  rw [HK15.out]
  rintro e w15 ⟨rfl, om⟩
  have Z15 : Hid (w14.heap.size ≤ w15.heap.size) := Lib.hid om.size
  have l15 := OutI.later om l14 (by have a0 := Z1.out; have a1 := Z2.out; have a2 := Z3.out; have a3 := Z4.out; have a4 := Z5.out; have a5 := Z6.out; have a6 := Z7.out; have a7 := Z8.out; have a8 := Z9.out; have a9 := Z10.out; have a10 := Z11.out; have a11 := Z12.out; have a12 := Z13.out; have a13 := Z14.out; omega)
  clear l14
  clear X1
  replace W0 := Lib.hid (W0.out.out om (by have a0 := Z1.out; have a1 := Z2.out; have a2 := Z3.out; have a3 := Z4.out; have a4 := Z5.out; have a5 := Z6.out; have a6 := Z7.out; have a7 := Z8.out; have a8 := Z9.out; have a9 := Z10.out; have a10 := Z11.out; have a11 := Z12.out; have a12 := Z13.out; have a13 := Z14.out; omega))
  replace G0 := Lib.hid (G0.out.out om (by have a0 := Z1.out; have a1 := Z2.out; have a2 := Z3.out; have a3 := Z4.out; have a4 := Z5.out; have a5 := Z6.out; have a6 := Z7.out; have a7 := Z8.out; have a8 := Z9.out; have a9 := Z10.out; have a10 := Z11.out; have a11 := Z12.out; have a12 := Z13.out; have a13 := Z14.out; omega))
  clear om
  go_wp2_with fail
  refine (u_eqIS _ _ z0 _ G0.out.rd W0.out.rd).mono ?_
  rintro e w16 ⟨rfl, b16⟩
  have Z16 : Hid (w15.heap.size ≤ w16.heap.size) := Lib.hid b16.size
  have l16 := later_trans l15 b16
  clear l15
  replace W0 := Lib.hid (W0.out.below b16)
  replace G0 := Lib.hid (G0.out.below b16)
  clear b16
  obtain ⟨M0, hM0⟩ : ∃ n : Nat, 1 + z0.length = n := ⟨_, rfl⟩
  have hMb0 : M0 ≤ 200 := by have := HL0.out; omega
  have HM0 := Lib.hid hM0; clear hM0
  have nm0 : ((M0 : Int) != (M0 : Int)) = false := by simp
  go_wp2_with fail
  refine (laws_markIntS _ _ _ z0 1 _ G0.out.1 (by omega) (by have := HL0.out; omega)).mono ?_
  rw [HM0.out]
  rintro e w17 ⟨rfl, og, gg⟩
  have om := OutI.of_grown gg (fun j hj => ⟨(G0.out.1.blk j hj).1, G0.out.2 j hj⟩)
  have Z17 : Hid (w16.heap.size ≤ w17.heap.size) := Lib.hid om.size
  have l17 := OutI.later om l16 (by have a0 := Z1.out; have a1 := Z2.out; have a2 := Z3.out; have a3 := Z4.out; have a4 := Z5.out; have a5 := Z6.out; have a6 := Z7.out; have a7 := Z8.out; have a8 := Z9.out; have a9 := Z10.out; have a10 := Z11.out; have a11 := Z12.out; have a12 := Z13.out; have a13 := Z14.out; have a14 := Z15.out; have a15 := Z16.out; omega)
  clear l16
  replace W0 := Lib.hid (W0.out.out om (by have a0 := Z1.out; have a1 := Z2.out; have a2 := Z3.out; have a3 := Z4.out; have a4 := Z5.out; have a5 := Z6.out; have a6 := Z7.out; have a7 := Z8.out; have a8 := Z9.out; have a9 := Z10.out; have a10 := Z11.out; have a11 := Z12.out; have a12 := Z13.out; have a13 := Z14.out; have a14 := Z15.out; have a15 := Z16.out; omega))
  replace G0 := Lib.hid (show seg _ _ _ _ _ _ from ⟨og, G0.out.2⟩)
  clear om og gg
  go_wp2_with fail
  refine (laws_heldIntS _ z0.length 1 _ G0.out.rd (by omega) (by have := HL0.out; omega)).mono ?_
  rw [HM0.out]
  rintro e _ ⟨rfl, rfl⟩
  go_wp2_with fail
  refine (u_toL _ x0 _ (H0.out.on l17) HN0.out).mono ?_
  rintro e w18 ⟨v18, rfl, o18, b18⟩
  have Z18 : Hid (w17.heap.size ≤ w18.heap.size) := Lib.hid b18.size
  have l18 := later_trans l17 b18
  clear l17
  replace W0 := Lib.hid (W0.out.below b18)
  replace G0 := Lib.hid (G0.out.below b18)
  clear b18
  have P0 := Lib.hid o18; clear o18
  go_wp2_with fail
  refine (u_toL _ x1 _ (H1.out.on l18) HN1.out).mono ?_
  rintro e w19 ⟨v19, rfl, o19, b19⟩
  have Z19 : Hid (w18.heap.size ≤ w19.heap.size) := Lib.hid b19.size
  have l19 := later_trans l18 b19
  clear l18
  replace W0 := Lib.hid (W0.out.below b19)
  replace G0 := Lib.hid (G0.out.below b19)
  replace P0 := Lib.hid (P0.out.below b19)
  clear b19
  have P1 := Lib.hid o19; clear o19
  go_wp2_with fail
  refine (impl_MissingIds _ _ x0 x1 _ P0.out.rd P1.out.rd).mono ?_
  rw [HV0.out]
  rintro e w20 ⟨Nv0, rfl, No0, b20⟩
  have Z20 : Hid (w19.heap.size ≤ w20.heap.size) := Lib.hid b20.size
  have l20 := later_trans l19 b20
  clear l19
  replace W0 := Lib.hid (W0.out.below b20)
  replace G0 := Lib.hid (G0.out.below b20)
  replace P0 := Lib.hid (P0.out.below b20)
  replace P1 := Lib.hid (P1.out.below b20)
  clear b20
  have N0 := Lib.hid (seg.of No0); clear No0
  clear P0
  clear P1
  go_wp2_with fail
  refine (u_eqIS _ _ z0 _ N0.out.rd W0.out.rd).mono ?_
  rintro e w21 ⟨rfl, b21⟩
  have Z21 : Hid (w20.heap.size ≤ w21.heap.size) := Lib.hid b21.size
  have l21 := later_trans l20 b21
  clear l20
  replace W0 := Lib.hid (W0.out.below b21)
  replace G0 := Lib.hid (G0.out.below b21)
  replace N0 := Lib.hid (N0.out.below b21)
  clear b21
  go_wp2_with fail
  refine (laws_heldIntS _ z0.length 1 _ G0.out.rd (by omega) (by have := HL0.out; omega)).mono ?_
  rw [HM0.out]
  rintro e _ ⟨rfl, rfl⟩
  go_wp2_with fail
  go_ret
  exact ⟨rfl, later_trans HT.out l21⟩

end Go.Proofs.Ytiaepapdofcnjaa
