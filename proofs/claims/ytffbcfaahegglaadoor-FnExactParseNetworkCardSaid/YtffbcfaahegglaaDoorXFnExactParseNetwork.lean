/- FnExactParseNetwork: the walk of the law.  -/
import Derived.Test.YtffbcfaahegglaaDoorQ6
import Derived.Test.YtffbcfaahegglaaDoorQ30
import Derived.Deep.RegionHeld3
namespace Go.Proofs.YtffbcfaahegglaaDoor
open Go.RowKit

set_option maxRecDepth 100000 in
set_option maxHeartbeats 3200000 in
theorem walk_FnExactParseNetwork (w : World) (s0 : ByteArray) (hs0 : s0.size ≤ maxLen) :
    Calls Tryd.prog 5 #[.string s0] w fun e w' => e = .returned (.bool true) ∧ Below w.heap.size w w' := by
  unfold maxLen at hs0
  have HT := Lib.hid (Below.refl w.heap.size w)
  by_cases g0 : (1048576 : Int) < (s0.size : Int)
  · go_enter Tryd.func5, Tryd.ntmps5
    go_wp2_with fail
    go_ret
    exact ⟨rfl, Below.refl _ _⟩
  have l0 := Below.refl w.heap.size w
  go_enter Tryd.func5, Tryd.ntmps5
  obtain ⟨z0, HV0⟩ : ∃ z, Hid (pnN s0 = z) := ⟨_, rfl⟩
  obtain ⟨z1, HV1⟩ : ∃ z, Hid (pnOk s0 = z) := ⟨_, rfl⟩
  have HL0 : Hid (szN z0 ≤ 1048576 ∧ mkN z0 ≤ 2000000 ∧ z0.length ≤ 1000 ∧ ∀ k (h : k < z0.length), z0[k].rules.length ≤ 1000) := by show _ ∧ _; rw [← HV0.out]; exact pnN_sz _
  go_wp2_with fail
  refine (spec_ParseNetwork s0 _ (by omega)).mono ?_
  rw [HV0.out, HV1.out]
  rintro e w1 ⟨Wv0, rfl, Wo0, b1⟩
  have Z1 : Hid (w.heap.size ≤ w1.heap.size) := Lib.hid b1.size
  have l1 := later_trans l0 b1
  clear l0
  clear b1
  have W0 := Lib.hid (segN.of Wo0); clear Wo0
  go_wp2_with fail
  refine (impl_ParseNetwork s0 _ (by unfold maxLen; omega)).mono ?_
  rw [HV0.out, HV1.out]
  rintro e w2 ⟨Gv0, rfl, Go0, b2⟩
  have Z2 : Hid (w1.heap.size ≤ w2.heap.size) := Lib.hid b2.size
  have l2 := later_trans l1 b2
  clear l1
  replace W0 := Lib.hid (W0.out.below b2)
  clear b2
  have G0 := Lib.hid (segN.of Go0); clear Go0
  have ne1 : (z1 != z1) = false := by simp
  go_wp2_with fail
  refine (u_eqN _ _ z0 _ G0.out.rd W0.out.rd).mono ?_
  rintro e w3 ⟨rfl, b3⟩
  have Z3 : Hid (w2.heap.size ≤ w3.heap.size) := Lib.hid b3.size
  have l3 := later_trans l2 b3
  clear l2
  replace W0 := Lib.hid (W0.out.below b3)
  replace G0 := Lib.hid (G0.out.below b3)
  clear b3
  obtain ⟨M0, hM0⟩ : ∃ n : Nat, 1 + mkN z0 = n := ⟨_, rfl⟩
  have hMb0 : M0 ≤ 2000001 := by have := HL0.out.2.1; omega
  have HM0 := Lib.hid hM0; clear hM0
  have nm0 : ((M0 : Int) != (M0 : Int)) = false := by simp
  go_wp2_with fail
  refine (u_mkN _ _ _ _ _ z0 1 _ G0.out (by omega) HL0.out.1).mono ?_
  rw [HM0.out]
  rintro e w4 ⟨rfl, og, om⟩
  have Z4 : Hid (w3.heap.size ≤ w4.heap.size) := Lib.hid om.size
  have l4 := OutI.later om l3 (by have a0 := Z1.out; have a1 := Z2.out; have a2 := Z3.out; omega)
  clear l3
  replace W0 := Lib.hid (W0.out.out om (by have a0 := Z1.out; have a1 := Z2.out; have a2 := Z3.out; omega))
  replace G0 := Lib.hid og
  clear om og
  go_wp2_with fail
  refine (u_hdN _ z0 1 _ G0.out.rd (by omega) HL0.out.2.2.1 HL0.out.2.2.2 HL0.out.2.1).mono ?_
  rw [HM0.out]
  rintro e w5 ⟨rfl, b5⟩
  have Z5 : Hid (w4.heap.size ≤ w5.heap.size) := Lib.hid b5.size
  have l5 := later_trans l4 b5
  clear l4
  replace W0 := Lib.hid (W0.out.below b5)
  replace G0 := Lib.hid (G0.out.below b5)
  clear b5
  go_wp2_with fail
  refine (impl_ParseNetwork s0 _ (by unfold maxLen; omega)).mono ?_
  rw [HV0.out, HV1.out]
  rintro e w6 ⟨Nv0, rfl, No0, b6⟩
  have Z6 : Hid (w5.heap.size ≤ w6.heap.size) := Lib.hid b6.size
  have l6 := later_trans l5 b6
  clear l5
  replace W0 := Lib.hid (W0.out.below b6)
  replace G0 := Lib.hid (G0.out.below b6)
  clear b6
  have N0 := Lib.hid (segN.of No0); clear No0
  go_wp2_with fail
  refine (u_eqN _ _ z0 _ N0.out.rd W0.out.rd).mono ?_
  rintro e w7 ⟨rfl, b7⟩
  have Z7 : Hid (w6.heap.size ≤ w7.heap.size) := Lib.hid b7.size
  have l7 := later_trans l6 b7
  clear l6
  replace W0 := Lib.hid (W0.out.below b7)
  replace G0 := Lib.hid (G0.out.below b7)
  replace N0 := Lib.hid (N0.out.below b7)
  clear b7
  go_wp2_with fail
  refine (u_hdN _ z0 1 _ G0.out.rd (by omega) HL0.out.2.2.1 HL0.out.2.2.2 HL0.out.2.1).mono ?_
  rw [HM0.out]
  rintro e w8 ⟨rfl, b8⟩
  have Z8 : Hid (w7.heap.size ≤ w8.heap.size) := Lib.hid b8.size
  have l8 := later_trans l7 b8
  clear l7
  replace W0 := Lib.hid (W0.out.below b8)
  replace G0 := Lib.hid (G0.out.below b8)
  replace N0 := Lib.hid (N0.out.below b8)
  clear b8
  go_wp2_with fail
  go_ret
  exact ⟨rfl, later_trans HT.out l8⟩

end Go.Proofs.YtffbcfaahegglaaDoor
