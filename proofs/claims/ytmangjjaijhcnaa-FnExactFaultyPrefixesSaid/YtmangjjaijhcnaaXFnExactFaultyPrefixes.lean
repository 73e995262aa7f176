/- FnExactFaultyPrefixes: the walk of the law.  -/
import Derived.Test.YtmangjjaijhcnaaQ39
import Derived.Test.YtmangjjaijhcnaaQ42
import Derived.Deep.RegionHeld3
namespace Go.Proofs.Ytmangjjaijhcnaa
open Go.RowKit

set_option maxRecDepth 100000 in
set_option maxHeartbeats 3200000 in
theorem walk_FnExactFaultyPrefixes (w : World) (v0 : Value) (x0 : List Ofc) (h0 : rd w w.heap.size v0 x0) (s1 : ByteArray) (hs1 : s1.size ≤ maxLen) :
    Calls Try.prog 8 #[v0, .string s1] w fun e w' => e = .returned (.bool true) ∧ Below w.heap.size w w' := by
  unfold maxLen at hs1
  have HT := Lib.hid (Below.refl w.heap.size w)
  have H0 := Lib.hid (h0.on HT.out)
  clear h0
  by_cases g1 : (1048576 : Int) < (s1.size : Int)
  · go_enter Try.func8, Try.ntmps8
    go_wp2_with fail
    go_ret
    exact ⟨rfl, Below.refl _ _⟩
  have l0 := Below.refl w.heap.size w
  go_enter Try.func8, Try.ntmps8
  go_wp2_with fail
  refine (u_szN _ x0 1048576 _ (H0.out.on l0) (by omega) (by omega)).mono ?_
  rintro e w1 ⟨rfl, b1⟩
  have Z1 : Hid (w.heap.size ≤ w1.heap.size) := Lib.hid b1.size
  have l1 := later_trans l0 b1
  clear l0
  clear b1
  obtain ⟨r0, hr0⟩ : ∃ r, leftOf 1048576 (szN x0 : Nat) = r := ⟨_, rfl⟩
  have hk0 := @leftOf_ok 1048576 (szN x0)
  rw [hr0] at hk0 ⊢
  clear hr0
  by_cases g_0 : r0 < 0
  · go_wp2_with fail
    go_ret
    exact ⟨rfl, later_trans HT.out l1⟩
  obtain ⟨ra0, rb0, hn0⟩ := hk0 (by omega) (by omega)
  have HN0 := Lib.hid hn0; clear hn0 hk0
  obtain ⟨z0, HV0⟩ : ∃ z, Hid (fpS x0 s1 = z) := ⟨_, rfl⟩
  have HL0 : Hid (z0.length ≤ 100000000) := by show _ ≤ _; rw [← HV0.out]; exact fpS_len _ _
  go_wp2_with fail
  refine (u_toN _ x0 _ (H0.out.on l1) HN0.out).mono ?_
  rintro e w2 ⟨v2, rfl, o2, b2⟩
  have Z2 : Hid (w1.heap.size ≤ w2.heap.size) := Lib.hid b2.size
  have l2 := later_trans l1 b2
  clear l1
  clear b2
  have P0 := Lib.hid o2; clear o2
  go_wp2_with fail
  refine (spec_FaultyPrefixes _ x0 s1 _ P0.out.rd).mono ?_
  rw [HV0.out]
  rintro e w3 ⟨Wv0, rfl, Wo0, b3⟩
  have Z3 : Hid (w2.heap.size ≤ w3.heap.size) := Lib.hid b3.size
  have l3 := later_trans l2 b3
  clear l2
  replace P0 := Lib.hid (P0.out.below b3)
  clear b3
  have W0 := Lib.hid (seg.of Wo0); clear Wo0
  clear P0
  go_wp2_with fail
  refine (u_toN _ x0 _ (H0.out.on l3) HN0.out).mono ?_
  rintro e w4 ⟨v4, rfl, o4, b4⟩
  have Z4 : Hid (w3.heap.size ≤ w4.heap.size) := Lib.hid b4.size
  have l4 := later_trans l3 b4
  clear l3
  replace W0 := Lib.hid (W0.out.below b4)
  clear b4
  have X0 := Lib.hid (segN.of o4)
  clear o4
  go_wp2_with fail
  refine (impl_FaultyPrefixes _ x0 s1 _ X0.out.rd).mono ?_
  rw [HV0.out]
  rintro e w5 ⟨Gv0, rfl, Go0, b5⟩
  have Z5 : Hid (w4.heap.size ≤ w5.heap.size) := Lib.hid b5.size
  have l5 := later_trans l4 b5
  clear l4
  replace W0 := Lib.hid (W0.out.below b5)
  replace X0 := Lib.hid (X0.out.below b5)
  clear b5
  have G0 := Lib.hid (seg.of Go0); clear Go0
  go_wp2_with fail
  refine (u_eqSS _ _ z0 _ G0.out.rd W0.out.rd).mono ?_
  rintro e w6 ⟨rfl, b6⟩
  have Z6 : Hid (w5.heap.size ≤ w6.heap.size) := Lib.hid b6.size
  have l6 := later_trans l5 b6
  clear l5
  replace W0 := Lib.hid (W0.out.below b6)
  replace X0 := Lib.hid (X0.out.below b6)
  replace G0 := Lib.hid (G0.out.below b6)
  clear b6
  go_wp2_with fail
  refine (u_toN _ x0 _ (H0.out.on l6) HN0.out).mono ?_
  rintro e w7 ⟨v7, rfl, o7, b7⟩
  have Z7 : Hid (w6.heap.size ≤ w7.heap.size) := Lib.hid b7.size
  have l7 := later_trans l6 b7
  clear l6
  replace W0 := Lib.hid (W0.out.below b7)
  replace X0 := Lib.hid (X0.out.below b7)
  replace G0 := Lib.hid (G0.out.below b7)
  clear b7
  have Y := Lib.hid o7; clear o7
  go_wp2_with fail
  refine (u_eqN _ _ x0 _ X0.out.rd Y.out.rd).mono ?_
  rintro e w8 ⟨rfl, b8⟩
  have Z8 : Hid (w7.heap.size ≤ w8.heap.size) := Lib.hid b8.size
  have l8 := later_trans l7 b8
  clear l7
  replace W0 := Lib.hid (W0.out.below b8)
  replace X0 := Lib.hid (X0.out.below b8)
  replace G0 := Lib.hid (G0.out.below b8)
  replace Y := Lib.hid (Y.out.below b8)
  clear b8
  clear Y
  go_wp2_with fail
  obtain ⟨k9, hk9⟩ : ∃ n : Nat, 1 + mkN x0 = n := ⟨_, rfl⟩
  have hb9 : k9 ≤ 3000001 := by have h1 := mkN_le x0; have h2 := HN0.out; omega
  have HK9 := Lib.hid hk9; clear hk9
  refine (u_wmN _ _ _ _ _ x0 1 _ X0.out (by omega) HN0.out).mono ?_
  rw [HK9.out]
  rintro e w9 ⟨rfl, om⟩
  have Z9 : Hid (w8.heap.size ≤ w9.heap.size) := Lib.hid om.size
  have l9 := OutI.later om l8 (by have a0 := Z1.out; have a1 := Z2.out; have a2 := Z3.out; have a3 := Z4.out; have a4 := Z5.out; have a5 := Z6.out; have a6 := Z7.out; have a7 := Z8.out; omega)
  clear l8
  clear X0
  replace W0 := Lib.hid (W0.out.out om (by have a0 := Z1.out; have a1 := Z2.out; have a2 := Z3.out; have a3 := Z4.out; have a4 := Z5.out; have a5 := Z6.out; have a6 := Z7.out; have a7 := Z8.out; omega))
  replace G0 := Lib.hid (G0.out.out om (by have a0 := Z1.out; have a1 := Z2.out; have a2 := Z3.out; have a3 := Z4.out; have a4 := Z5.out; have a5 := Z6.out; have a6 := Z7.out; have a7 := Z8.out; omega))
  clear om
  go_wp2_with fail
  refine (u_eqSS _ _ z0 _ G0.out.rd W0.out.rd).mono ?_
  rintro e w10 ⟨rfl, b10⟩
  have Z10 : Hid (w9.heap.size ≤ w10.heap.size) := Lib.hid b10.size
  have l10 := later_trans l9 b10
  clear l9
  replace W0 := Lib.hid (W0.out.below b10)
  replace G0 := Lib.hid (G0.out.below b10)
  clear b10
  obtain ⟨M0, hM0⟩ : ∃ n : Nat, 1 + z0.length = n := ⟨_, rfl⟩
  have hMb0 : M0 ≤ 100000100 := by have := HL0.out; omega
  have HM0 := Lib.hid hM0; clear hM0
  have nm0 : ((M0 : Int) != (M0 : Int)) = false := by simp
  go_wp2_with fail
  refine (laws_markStringS _ _ _ z0 1 _ G0.out.1 (by omega) (by have := HL0.out; omega)).mono ?_
  rw [HM0.out]
  rintro e w11 ⟨rfl, og, gg⟩
  have om := OutI.of_grown gg (fun j hj => ⟨(G0.out.1.blk j hj).1, G0.out.2 j hj⟩)
  have Z11 : Hid (w10.heap.size ≤ w11.heap.size) := Lib.hid om.size
  have l11 := OutI.later om l10 (by have a0 := Z1.out; have a1 := Z2.out; have a2 := Z3.out; have a3 := Z4.out; have a4 := Z5.out; have a5 := Z6.out; have a6 := Z7.out; have a7 := Z8.out; have a8 := Z9.out; have a9 := Z10.out; omega)
  clear l10
  replace W0 := Lib.hid (W0.out.out om (by have a0 := Z1.out; have a1 := Z2.out; have a2 := Z3.out; have a3 := Z4.out; have a4 := Z5.out; have a5 := Z6.out; have a6 := Z7.out; have a7 := Z8.out; have a8 := Z9.out; have a9 := Z10.out; omega))
  replace G0 := Lib.hid (show seg _ _ _ _ _ _ from ⟨og, G0.out.2⟩)
  clear om og gg
  go_wp2_with fail
  refine (laws_heldStringS _ z0.length 1 _ G0.out.rd (by omega) (by have := HL0.out; omega)).mono ?_
  rw [HM0.out]
  rintro e w12 ⟨rfl, b12⟩
  have Z12 : Hid (w11.heap.size ≤ w12.heap.size) := Lib.hid b12.size
  have l12 := later_trans l11 b12
  clear l11
  replace W0 := Lib.hid (W0.out.below b12)
  replace G0 := Lib.hid (G0.out.below b12)
  clear b12
  go_wp2_with fail
  refine (u_toN _ x0 _ (H0.out.on l12) HN0.out).mono ?_
  rintro e w13 ⟨v13, rfl, o13, b13⟩
  have Z13 : Hid (w12.heap.size ≤ w13.heap.size) := Lib.hid b13.size
  have l13 := later_trans l12 b13
  clear l12
  replace W0 := Lib.hid (W0.out.below b13)
  replace G0 := Lib.hid (G0.out.below b13)
  clear b13
  have P0 := Lib.hid o13; clear o13
  go_wp2_with fail
  refine (impl_FaultyPrefixes _ x0 s1 _ P0.out.rd).mono ?_
  rw [HV0.out]
  rintro e w14 ⟨Nv0, rfl, No0, b14⟩
  have Z14 : Hid (w13.heap.size ≤ w14.heap.size) := Lib.hid b14.size
  have l14 := later_trans l13 b14
  clear l13
  replace W0 := Lib.hid (W0.out.below b14)
  replace G0 := Lib.hid (G0.out.below b14)
  replace P0 := Lib.hid (P0.out.below b14)
  clear b14
  have N0 := Lib.hid (seg.of No0); clear No0
  clear P0
  go_wp2_with fail
  refine (u_eqSS _ _ z0 _ N0.out.rd W0.out.rd).mono ?_
  rintro e w15 ⟨rfl, b15⟩
  have Z15 : Hid (w14.heap.size ≤ w15.heap.size) := Lib.hid b15.size
  have l15 := later_trans l14 b15
  clear l14
  replace W0 := Lib.hid (W0.out.below b15)
  replace G0 := Lib.hid (G0.out.below b15)
  replace N0 := Lib.hid (N0.out.below b15)
  clear b15
  go_wp2_with fail
  refine (laws_heldStringS _ z0.length 1 _ G0.out.rd (by omega) (by have := HL0.out; omega)).mono ?_
  rw [HM0.out]
  rintro e w16 ⟨rfl, b16⟩
  have Z16 : Hid (w15.heap.size ≤ w16.heap.size) := Lib.hid b16.size
  have l16 := later_trans l15 b16
  clear l15
  replace W0 := Lib.hid (W0.out.below b16)
  replace G0 := Lib.hid (G0.out.below b16)
  replace N0 := Lib.hid (N0.out.below b16)
  clear b16
  go_wp2_with fail
  go_ret
  exact ⟨rfl, later_trans HT.out l16⟩

end Go.Proofs.Ytmangjjaijhcnaa
