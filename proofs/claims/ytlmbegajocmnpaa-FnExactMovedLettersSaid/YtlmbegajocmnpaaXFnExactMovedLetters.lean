/- FnExactMovedLetters: the walk of the law.  -/
import Derived.Test.YtlmbegajocmnpaaU0
import Derived.Test.YtlmbegajocmnpaaM4
import Derived.Deep.RegionHeld3
namespace Go.Proofs.Ytlmbegajocmnpaa
open Go.RowKit

set_option maxRecDepth 100000 in
set_option maxHeartbeats 3200000 in
theorem walk_FnExactMovedLetters (w : World) (v0 : Value) (x0 : Pln) (h0 : rdP w w.heap.size v0 x0) (v1 : Value) (x1 : List Ltr) (h1 : rd w w.heap.size v1 x1) :
    Calls Try.prog 6 #[v0, v1] w fun e w' => e = .returned (.bool true) ∧ Below w.heap.size w w' := by
  obtain ⟨A00, A00c, e0⟩ := openP h0
  obtain ⟨wa0, hwwa0⟩ : ∃ u, u = w.alloc (Obj.cells #[.int .i64 x0.bins, .int .i64 x0.passes, .slice A00 x0.order.length A00c] 24) := ⟨_, rfl⟩
  have HT := Lib.hid (box_later hwwa0).1
  have q0_0 := box_cells hwwa0 0 (.int .i64 x0.bins) rfl
  have q0_1 := box_cells hwwa0 1 (.int .i64 x0.passes) rfl
  have q0_2 := box_cells hwwa0 2 (.slice A00 x0.order.length A00c) rfl
  have H0 := Lib.hid (h0.on HT.out)
  have H1 := Lib.hid (h1.on HT.out)
  clear h0
  clear h1
  subst e0
  have HXwa0 := Lib.hid hwwa0; clear hwwa0
  have l0 := Below.refl wa0.heap.size wa0
  go_enter Try.func6, Try.ntmps6
  go_wp2_with fail
  rw [← HXwa0.out]
  refine (u_szP _ x0 1048576 _ (H0.out.on l0) (by omega) (by omega)).mono ?_
  rintro e w1 ⟨rfl, b1⟩
  have l1 := later_trans l0 b1
  clear l0
  clear b1
  obtain ⟨r0, hr0⟩ : ∃ r, leftOf 1048576 (szP x0 : Nat) = r := ⟨_, rfl⟩
  have hk0 := @leftOf_ok 1048576 (szP x0)
  rw [hr0] at hk0 ⊢
  clear hr0
  by_cases g_0 : r0 < 0
  · go_wp2_with fail
    go_ret
    exact ⟨rfl, later_trans HT.out l1⟩
  obtain ⟨ra0, rb0, hn0⟩ := hk0 g_0 (by omega)
  have HN0 := Lib.hid hn0; clear hn0 hk0
  go_wp2_with fail
  refine (u_szL _ x1 r0 _ (H1.out.on l1) (by omega) (by omega)).mono ?_
  rintro e w2 ⟨rfl, b2⟩
  have l2 := later_trans l1 b2
  clear l1
  clear b2
  obtain ⟨r1, hr1⟩ : ∃ r, leftOf r0 (szL x1 : Nat) = r := ⟨_, rfl⟩
  have hk1 := @leftOf_ok r0 (szL x1)
  rw [hr1] at hk1 ⊢
  clear hr1
  by_cases g_1 : r1 < 0
  · go_wp2_with fail
    go_ret
    exact ⟨rfl, later_trans HT.out l2⟩
  obtain ⟨ra1, rb1, hn1⟩ := hk1 g_1 (by omega)
  have HN1 := Lib.hid hn1; clear hn1 hk1
  obtain ⟨z0, HV0⟩ : ∃ z, Hid (movedI x0 x1 = z) := ⟨_, rfl⟩
  go_wp2_with fail
  refine (u_toP _ x0 _ (H0.out.on l2) HN0.out).mono ?_
  rintro e w3 ⟨v3, rfl, o3, b3⟩
  have l3 := later_trans l2 b3
  clear l2
  clear b3
  have P0 := Lib.hid o3; clear o3
  go_wp2_with fail
  refine (u_toL _ x1 _ (H1.out.on l3) HN1.out).mono ?_
  rintro e w4 ⟨v4, rfl, o4, b4⟩
  have l4 := later_trans l3 b4
  clear l3
  replace P0 := Lib.hid (P0.out.below b4)
  clear b4
  have P1 := Lib.hid o4; clear o4
  go_wp2_with fail
  refine (spec_MovedLetters _ _ x0 x1 _ P0.out.rd P1.out.rd (by have := HN1.out; unfold szL at this; omega)).mono ?_
  rw [HV0.out]
  rintro e w5 ⟨rfl, b5⟩
  have l5 := later_trans l4 b5
  clear l4
  replace P0 := Lib.hid (P0.out.below b5)
  replace P1 := Lib.hid (P1.out.below b5)
  clear b5
  clear P0
  clear P1
  go_wp2_with fail
  refine (u_toP _ x0 _ (H0.out.on l5) HN0.out).mono ?_
  rintro e w6 ⟨v6, rfl, o6, b6⟩
  have l6 := later_trans l5 b6
  clear l5
  clear b6
  have X0 := Lib.hid o6
  obtain ⟨C00, C00c, e0⟩ := openP o6.rd
  clear o6
  subst e0
  obtain ⟨wx0, hwx0⟩ : ∃ u, u = w6.alloc (Obj.cells #[.int .i64 x0.bins, .int .i64 x0.passes, .slice C00 x0.order.length C00c] 29) := ⟨_, rfl⟩
  have bx := (box_later hwx0).1
  have lx := later_trans l6 bx
  replace X0 := Lib.hid (X0.out.below bx)
  replace H0 := Lib.hid (H0.out.on lx)
  replace H1 := Lib.hid (H1.out.on lx)
  replace HT := Lib.hid (later_trans HT.out lx)
  replace q0_0 := fun W h => q0_0 W (later_trans lx h)
  replace q0_1 := fun W h => q0_1 W (later_trans lx h)
  replace q0_2 := fun W h => q0_2 W (later_trans lx h)
  have y0_0 := box_cells hwx0 0 (.int .i64 x0.bins) rfl
  have y0_1 := box_cells hwx0 1 (.int .i64 x0.passes) rfl
  have y0_2 := box_cells hwx0 2 (.slice C00 x0.order.length C00c) rfl
  have HXx0 := Lib.hid hwx0; clear hwx0 bx lx l6
  have lb0 := Below.refl wx0.heap.size wx0
  go_wp2_with fail
  rw [← HXx0.out]
  refine (u_toL _ x1 _ (H1.out.on lb0) HN1.out).mono ?_
  rintro e w7 ⟨v7, rfl, o7, b7⟩
  have l7 := later_trans lb0 b7
  clear lb0
  replace X0 := Lib.hid (X0.out.below b7)
  clear b7
  have X1 := Lib.hid o7
  clear o7
  go_wp2_with fail
  refine (impl_MovedLetters _ _ x0 x1 _ X0.out.rd X1.out.rd).mono ?_
  rw [HV0.out]
  rintro e w8 ⟨rfl, b8⟩
  have l8 := later_trans l7 b8
  clear l7
  replace X0 := Lib.hid (X0.out.below b8)
  replace X1 := Lib.hid (X1.out.below b8)
  clear b8
  have ne0 : (z0 != z0) = false := by simp
  go_wp2
  have ld := later_drew l8
  go_region_held3 (fun W => Below wx0.heap.size wx0 W) (first | exact ld | exact later_trans ld b9 | exact later_trans (later_trans ld b9) b10) (first | (go_at_call 18; refine (u_toP _ x0 _ (H0.out.on ld) HN0.out).mono ?_; rintro e w9 ⟨v9, rfl, o9, b9⟩) | (go_at_call 21; refine (u_eqP _ _ x0 _ ((X0.out.below ((Below.refl _ _).drew)).below b9).rd o9.rd).mono ?_; rintro e w10 ⟨rfl, b10⟩))
  have bb : Below w8.heap.size w8 w10 := later_trans (later_trans ((Below.refl _ _).drew) b9) b10
  clear ld b9 b10 o9
  have l10 := later_trans l8 bb
  clear l8
  replace X0 := Lib.hid (X0.out.below bb)
  replace X1 := Lib.hid (X1.out.below bb)
  clear bb
  go_wp2_with fail
  refine (u_toL _ x1 _ (H1.out.on l10) HN1.out).mono ?_
  rintro e w11 ⟨v11, rfl, o11, b11⟩
  have l11 := later_trans l10 b11
  clear l10
  replace X0 := Lib.hid (X0.out.below b11)
  replace X1 := Lib.hid (X1.out.below b11)
  clear b11
  have Y := Lib.hid o11; clear o11
  go_wp2_with fail
  refine (u_eqL _ _ x1 _ X1.out.rd Y.out.rd).mono ?_
  rintro e w12 ⟨rfl, b12⟩
  have l12 := later_trans l11 b12
  clear l11
  replace X0 := Lib.hid (X0.out.below b12)
  replace X1 := Lib.hid (X1.out.below b12)
  replace Y := Lib.hid (Y.out.below b12)
  clear b12
  clear Y
  go_wp2_with fail
  go_ret
  exact ⟨rfl, later_trans HT.out l12⟩

end Go.Proofs.Ytlmbegajocmnpaa
