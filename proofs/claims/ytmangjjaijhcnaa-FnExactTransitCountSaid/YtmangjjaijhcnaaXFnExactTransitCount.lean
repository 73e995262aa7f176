/- FnExactTransitCount: the walk of the law.  -/
import Derived.Test.YtmangjjaijhcnaaQ13
import Derived.Test.YtmangjjaijhcnaaQ37
import Derived.Deep.RegionHeld3
namespace Go.Proofs.Ytmangjjaijhcnaa
open Go.RowKit

set_option maxRecDepth 100000 in
set_option maxHeartbeats 3200000 in
theorem walk_FnExactTransitCount (w : World) (v0 : Value) (x0 : List Ofc) (h0 : rd w w.heap.size v0 x0) (s1 : ByteArray) (hs1 : s1.size ≤ maxLen) (v2 : Value) (x2 : List Ltr) (h2 : rd w w.heap.size v2 x2) :
    Calls Try.prog 4 #[v0, .string s1, v2] w fun e w' => e = .returned (.bool true) ∧ Below w.heap.size w w' := by
  unfold maxLen at hs1
  have HT := Lib.hid (Below.refl w.heap.size w)
  have H0 := Lib.hid (h0.on HT.out)
  have H2 := Lib.hid (h2.on HT.out)
  clear h0
  clear h2
  by_cases g1 : (1048576 : Int) < (s1.size : Int)
  · go_enter Try.func4, Try.ntmps4
    go_wp2_with fail
    go_ret
    exact ⟨rfl, Below.refl _ _⟩
  have l0 := Below.refl w.heap.size w
  go_enter Try.func4, Try.ntmps4
  go_wp2_with fail
  refine (u_szN _ x0 1048576 _ (H0.out.on l0) (by omega) (by omega)).mono ?_
  rintro e w1 ⟨rfl, b1⟩
  have l1 := later_trans l0 b1
  clear l0
  clear b1
  obtain ⟨r0, hr0⟩ : ∃ r, leftOf 1048576 (szN x0 : Nat) = r := ⟨_, rfl⟩
  have hk0 := @leftOf_ok 1048576 (szN x0)
  rw [hr0] at hk0 ⊢
  clear hr0
  by_cases g_0 : r0 < 0
  · go_wp2_with fail
    go_ret
    exact ⟨rfl, later_trans HT.out l1⟩
  obtain ⟨ra0, rb0, hn0⟩ := hk0 (by omega) (by omega)
  have HN0 := Lib.hid hn0; clear hn0 hk0
  go_wp2_with fail
  refine (u_szL _ x2 r0 _ (H2.out.on l1) (by omega) (by omega)).mono ?_
  rintro e w2 ⟨rfl, b2⟩
  have l2 := later_trans l1 b2
  clear l1
  clear b2
  obtain ⟨r1, hr1⟩ : ∃ r, leftOf r0 (szL x2 : Nat) = r := ⟨_, rfl⟩
  have hk1 := @leftOf_ok r0 (szL x2)
  rw [hr1] at hk1 ⊢
  clear hr1
  by_cases g_1 : r1 < 0
  · go_wp2_with fail
    go_ret
    exact ⟨rfl, later_trans HT.out l2⟩
  obtain ⟨ra1, rb1, hn1⟩ := hk1 (by omega) (by omega)
  have HN2 := Lib.hid hn1; clear hn1 hk1
  obtain ⟨z0, HV0⟩ : ∃ z, Hid (tcI x0 s1 x2 = z) := ⟨_, rfl⟩
  go_wp2_with fail
  refine (u_toN _ x0 _ (H0.out.on l2) HN0.out).mono ?_
  rintro e w3 ⟨v3, rfl, o3, b3⟩
  have l3 := later_trans l2 b3
  clear l2
  clear b3
  have P0 := Lib.hid o3; clear o3
  go_wp2_with fail
  refine (u_toL _ x2 _ (H2.out.on l3) HN2.out).mono ?_
  rintro e w4 ⟨v4, rfl, o4, b4⟩
  have l4 := later_trans l3 b4
  clear l3
  replace P0 := Lib.hid (P0.out.below b4)
  clear b4
  have P2 := Lib.hid o4; clear o4
  go_wp2_with fail
  refine (spec_TransitCount _ _ x0 s1 x2 _ P0.out.rd P2.out.rd).mono ?_
  rw [HV0.out]
  rintro e w5 ⟨rfl, b5⟩
  have l5 := later_trans l4 b5
  clear l4
  replace P0 := Lib.hid (P0.out.below b5)
  replace P2 := Lib.hid (P2.out.below b5)
  clear b5
  clear P0
  clear P2
  go_wp2_with fail
  refine (u_toN _ x0 _ (H0.out.on l5) HN0.out).mono ?_
  rintro e w6 ⟨v6, rfl, o6, b6⟩
  have l6 := later_trans l5 b6
  clear l5
  clear b6
  have X0 := Lib.hid o6
  clear o6
  go_wp2_with fail
  refine (u_toL _ x2 _ (H2.out.on l6) HN2.out).mono ?_
  rintro e w7 ⟨v7, rfl, o7, b7⟩
  have l7 := later_trans l6 b7
  clear l6
  replace X0 := Lib.hid (X0.out.below b7)
  clear b7
  have X2 := Lib.hid o7
  clear o7
  go_wp2_with fail
  refine (impl_TransitCount _ _ x0 s1 x2 _ X0.out.rd X2.out.rd).mono ?_
  rw [HV0.out]
  rintro e w8 ⟨rfl, b8⟩
  have l8 := later_trans l7 b8
  clear l7
  replace X0 := Lib.hid (X0.out.below b8)
  replace X2 := Lib.hid (X2.out.below b8)
  clear b8
  have ne0 : (z0 != z0) = false := by simp
  go_wp2_with fail
  refine (u_toN _ x0 _ (H0.out.on l8) HN0.out).mono ?_
  rintro e w9 ⟨v9, rfl, o9, b9⟩
  have l9 := later_trans l8 b9
  clear l8
  replace X0 := Lib.hid (X0.out.below b9)
  replace X2 := Lib.hid (X2.out.below b9)
  clear b9
  have Y := Lib.hid o9; clear o9
  go_wp2_with fail
  refine (u_eqN _ _ x0 _ X0.out.rd Y.out.rd).mono ?_
  rintro e w10 ⟨rfl, b10⟩
  have l10 := later_trans l9 b10
  clear l9
  replace X0 := Lib.hid (X0.out.below b10)
  replace X2 := Lib.hid (X2.out.below b10)
  replace Y := Lib.hid (Y.out.below b10)
  clear b10
  clear Y
  go_wp2_with fail
  refine (u_toL _ x2 _ (H2.out.on l10) HN2.out).mono ?_
  rintro e w11 ⟨v11, rfl, o11, b11⟩
  have l11 := later_trans l10 b11
  clear l10
  replace X0 := Lib.hid (X0.out.below b11)
  replace X2 := Lib.hid (X2.out.below b11)
  clear b11
  have Y := Lib.hid o11; clear o11
  go_wp2_with fail
  refine (u_eqL _ _ x2 _ X2.out.rd Y.out.rd).mono ?_
  rintro e w12 ⟨rfl, b12⟩
  have l12 := later_trans l11 b12
  clear l11
  replace X0 := Lib.hid (X0.out.below b12)
  replace X2 := Lib.hid (X2.out.below b12)
  replace Y := Lib.hid (Y.out.below b12)
  clear b12
  clear Y
  go_wp2_with fail
  go_ret
  exact ⟨rfl, later_trans HT.out l12⟩

end Go.Proofs.Ytmangjjaijhcnaa
