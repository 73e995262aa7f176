/- FnExactFormatReport: the walk of the law.  -/
import Derived.Test.YtffbcfaahegglaaDoorQ40
import Derived.Deep.RegionHeld3
namespace Go.Proofs.YtffbcfaahegglaaDoor
open Go.RowKit

set_option maxRecDepth 100000 in
set_option maxHeartbeats 3200000 in
theorem walk_FnExactFormatReport (w : World) (v0 : Value) (x0 : Rpt) (h0 : rdR w w.heap.size v0 x0) (ht : TabW w) :
    Calls Tryd.prog 3 #[v0] w fun e w' => e = .returned (.bool true) ∧ Below w.heap.size w w' := by
  have HTAB := Lib.hid ht; clear ht
  obtain ⟨A00, A00c, A01, A01c, A02, A02c, A03, A03c, e0⟩ := openR h0
  obtain ⟨wa0, hwwa0⟩ : ∃ u, u = w.alloc (Obj.cells #[.slice A00 x0.round.length A00c, .slice A01 x0.strange.length A01c, .slice A02 x0.held.length A02c, .slice A03 x0.stuck.length A03c] 24) := ⟨_, rfl⟩
  have HT := Lib.hid (box_later hwwa0).1
  have q0_0 := box_cells hwwa0 0 (.slice A00 x0.round.length A00c) rfl
  have q0_1 := box_cells hwwa0 1 (.slice A01 x0.strange.length A01c) rfl
  have q0_2 := box_cells hwwa0 2 (.slice A02 x0.held.length A02c) rfl
  have q0_3 := box_cells hwwa0 3 (.slice A03 x0.stuck.length A03c) rfl
  have H0 := Lib.hid (h0.on HT.out)
  clear h0
  subst e0
  have HXwa0 := Lib.hid hwwa0; clear hwwa0
  have l0 := Below.refl wa0.heap.size wa0
  go_enter Tryd.func3, Tryd.ntmps3
  go_wp2_with fail
  rw [← HXwa0.out]
  refine (u_szR _ x0 1048576 _ (H0.out.on l0) (by omega) (by omega)).mono ?_
  rintro e w1 ⟨rfl, b1⟩
  have l1 := later_trans l0 b1
  clear l0
  clear b1
  obtain ⟨r0, hr0⟩ : ∃ r, leftOf 1048576 (szR x0 : Nat) = r := ⟨_, rfl⟩
  have hk0 := @leftOf_ok 1048576 (szR x0)
  rw [hr0] at hk0 ⊢
  clear hr0
  by_cases g_0 : r0 < 0
  · go_wp2_with fail
    go_ret
    exact ⟨rfl, later_trans HT.out l1⟩
  obtain ⟨ra0, rb0, hn0⟩ := hk0 (by omega) (by omega)
  have HN0 := Lib.hid hn0; clear hn0 hk0
  obtain ⟨z0, HV0⟩ : ∃ z, Hid (fmtR x0 = z) := ⟨_, rfl⟩
  go_wp2_with fail
  refine (u_toR _ x0 _ (H0.out.on l1) HN0.out).mono ?_
  rintro e w2 ⟨v2, rfl, o2, b2⟩
  have l2 := later_trans l1 b2
  clear l1
  clear b2
  have P0 := Lib.hid o2; clear o2
  go_wp2_with fail
  refine (spec_FormatReport _ x0 _ P0.out.rd HN0.out).mono ?_
  rw [HV0.out]
  rintro e w3 ⟨rfl, b3⟩
  have l3 := later_trans l2 b3
  clear l2
  replace P0 := Lib.hid (P0.out.below b3)
  clear b3
  clear P0
  go_wp2_with fail
  refine (u_toR _ x0 _ (H0.out.on l3) HN0.out).mono ?_
  rintro e w4 ⟨v4, rfl, o4, b4⟩
  have l4 := later_trans l3 b4
  clear l3
  clear b4
  have X0 := Lib.hid o4
  obtain ⟨C00, C00c, C01, C01c, C02, C02c, C03, C03c, e0⟩ := openR o4.rd
  clear o4
  subst e0
  obtain ⟨wx0, hwx0⟩ : ∃ u, u = w4.alloc (Obj.cells #[.slice C00 x0.round.length C00c, .slice C01 x0.strange.length C01c, .slice C02 x0.held.length C02c, .slice C03 x0.stuck.length C03c] 29) := ⟨_, rfl⟩
  have bx := (box_later hwx0).1
  have lx := later_trans l4 bx
  replace X0 := Lib.hid (X0.out.below bx)
  replace H0 := Lib.hid (H0.out.on lx)
  replace HT := Lib.hid (later_trans HT.out lx)
  replace q0_0 := fun W h => q0_0 W (later_trans lx h)
  replace q0_1 := fun W h => q0_1 W (later_trans lx h)
  replace q0_2 := fun W h => q0_2 W (later_trans lx h)
  replace q0_3 := fun W h => q0_3 W (later_trans lx h)
  have y0_0 := box_cells hwx0 0 (.slice C00 x0.round.length C00c) rfl
  have y0_1 := box_cells hwx0 1 (.slice C01 x0.strange.length C01c) rfl
  have y0_2 := box_cells hwx0 2 (.slice C02 x0.held.length C02c) rfl
  have y0_3 := box_cells hwx0 3 (.slice C03 x0.stuck.length C03c) rfl
  have HXx0 := Lib.hid hwx0; clear hwx0 bx lx l4
  have lb0 := Below.refl wx0.heap.size wx0
  go_wp2_with fail
  rw [← HXx0.out]
  refine (impl_FormatReport _ x0 _ X0.out.rd (HTAB.out.on (later_trans HT.out lb0))).mono ?_
  rw [HV0.out]
  rintro e w5 ⟨rfl, b5⟩
  have l5 := later_trans lb0 b5
  clear lb0
  replace X0 := Lib.hid (X0.out.below b5)
  clear b5
  have ne0 : (z0.toList != z0.toList) = false := by simp
  go_wp2
  have ld := later_drew l5
  go_region_held3 (fun W => Below wx0.heap.size wx0 W) (first | exact ld | exact later_trans ld b6 | exact later_trans (later_trans ld b6) b7) (first | (go_at_call 10; refine (u_toR _ x0 _ (H0.out.on ld) HN0.out).mono ?_; rintro e w6 ⟨v6, rfl, o6, b6⟩) | (go_at_call 12; refine (u_eqR _ _ x0 _ ((X0.out.below ((Below.refl _ _).drew)).below b6).rd o6.rd).mono ?_; rintro e w7 ⟨rfl, b7⟩))
  have bb : Below w5.heap.size w5 w7 := later_trans (later_trans ((Below.refl _ _).drew) b6) b7
  clear ld b6 b7 o6
  have l7 := later_trans l5 bb
  clear l5
  replace X0 := Lib.hid (X0.out.below bb)
  clear bb
  go_wp2_with fail
  go_ret
  exact ⟨rfl, later_trans HT.out l7⟩

end Go.Proofs.YtffbcfaahegglaaDoor
