/- FD FE -/
import Derived.Test.YtffbcfaahegglaaGreatDoorQ40
import Derived.Test.YtffbcfaahegglaaGreatDoorQ23
import Derived.Test.YtffbcfaahegglaaGreatDoorQ24
import Derived.Test.YtffbcfaahegglaaGreatDoorQ39
namespace Go.Proofs.YtffbcfaahegglaaGreatDoor
open Go.RowKit

def szR (r : Rpt) : Nat := szL r.round + szL r.strange + szL r.held + szL r.stuck

set_option maxHeartbeats 800000 in
theorem u_szR (v : Value) (r : Rpt) (l : Int) (w : World) (hv : rdR w w.heap.size v r) (h0 : 0 ≤ l) (h1 : l ≤ 1048576) :
    Calls Tryz.prog 12 #[v, .int .i64 l] w fun e w' => e = .returned (.int .i64 (leftOf l (szR r : Nat))) ∧ Below w.heap.size w w' := by
  obtain ⟨A0, c0, A1, c1, A2, c2, A3, c3, e0⟩ := openR hv
  obtain ⟨w0, hw0⟩ : ∃ w0, w0 = w.alloc (Obj.cells #[.slice A0 r.round.length c0, .slice A1 r.strange.length c1, .slice A2 r.held.length c2, .slice A3 r.stuck.length c3] 45) := ⟨_, rfl⟩
  have q0 := box_cells hw0 0 (.slice A0 r.round.length c0) rfl
  have q1 := box_cells hw0 1 (.slice A1 r.strange.length c1) rfl
  have q2 := box_cells hw0 2 (.slice A2 r.held.length c2) rfl
  have q3 := box_cells hw0 3 (.slice A3 r.stuck.length c3) rfl
  have HT := Lib.hid (box_later hw0).1
  have hv1 := hv.on HT.out
  subst e0
  obtain ⟨p0, p1, p2, p3⟩ := partsR hv1
  have P0 := Lib.hid p0; have P1 := Lib.hid p1; have P2 := Lib.hid p2; have P3 := Lib.hid p3
  clear p0 p1 p2 p3 hv hv1
  have HW0 := Lib.hid hw0; clear hw0
  have l0 := Below.refl w0.heap.size w0
  have HZ : Hid (leftOf l (szR r : Nat) = leftOf l ((szL r.round + szL r.strange + szL r.held + szL r.stuck : Nat) : Int)) := rfl
  have HQ1 := Lib.hid (leftOf_leftOf l (szL r.round) (szL r.strange) h0)
  have HQ2 := Lib.hid (leftOf_leftOf l (szL r.round + szL r.strange) (szL r.held) h0)
  have HQ3 := Lib.hid (leftOf_leftOf l (szL r.round + szL r.strange + szL r.held) (szL r.stuck) h0)
  generalize leftOf l (szR r : Nat) = R at *
  have hk0 := @leftOf_ok l (szL r.round)
  obtain ⟨m0, hm0⟩ : ∃ m, leftOf l (szL r.round : Nat) = m := ⟨_, rfl⟩
  rw [hm0] at hk0
  have HM0 := Lib.hid hm0; clear hm0
  go_enter Tryz.func12, Tryz.ntmps12
  go_wp2_with fail
  rw [← HW0.out]
  refine (u_szL _ r.round l _ (P0.out.on l0) h0 h1).mono ?_
  rw [HM0.out]
  rintro e w1 ⟨rfl, b1⟩
  have l1 := later_trans l0 b1

  by_cases g0 : m0 < 0
  · have HE : Hid (R = -1) := by
      show _ = _
      rw [HZ.out]
      rw [← HQ3.out, ← HQ2.out, ← HQ1.out, HM0.out, if_pos g0]; rfl
    go_wp2_with fail
    go_ret
    exact ⟨ret_int HE.out.symm, later_trans HT.out l1⟩
  obtain ⟨a0, b0', _⟩ := hk0 (by omega) h1
  clear hk0
  obtain ⟨m1, hm1⟩ : ∃ m, leftOf l ((szL r.round + szL r.strange : Nat) : Int) = m := ⟨_, rfl⟩
  have HM1 := Lib.hid hm1
  have HC1 : Hid (leftOf m0 (szL r.strange : Nat) = m1) := by
    show _ = _
    rw [← hm1, ← HQ1.out, HM0.out, if_neg g0]
  have hk1 := @leftOf_ok m0 (szL r.strange)
  rw [HC1.out] at hk1
  clear hm1
  go_wp2_with fail
  refine (u_szL _ r.strange m0 _ (P1.out.on l1) a0 b0').mono ?_
  rw [HC1.out]
  rintro e w2 ⟨rfl, b2⟩
  have l2 := later_trans l1 b2
  by_cases g1 : m1 < 0
  · have HE : Hid (R = -1) := by
      show _ = _
      rw [HZ.out]
      rw [← HQ3.out, ← HQ2.out, HM1.out, if_pos g1]; rfl
    go_wp2_with fail
    go_ret
    exact ⟨ret_int HE.out.symm, later_trans HT.out l2⟩
  obtain ⟨a1, b1', _⟩ := hk1 (by omega) b0'
  clear hk1
  obtain ⟨m2, hm2⟩ : ∃ m, leftOf l ((szL r.round + szL r.strange + szL r.held : Nat) : Int) = m := ⟨_, rfl⟩
  have HM2 := Lib.hid hm2
  have HC2 : Hid (leftOf m1 (szL r.held : Nat) = m2) := by
    show _ = _
    rw [← hm2, ← HQ2.out, HM1.out, if_neg g1]
  have hk2 := @leftOf_ok m1 (szL r.held)
  rw [HC2.out] at hk2
  clear hm2
  go_wp2_with fail
  refine (u_szL _ r.held m1 _ (P2.out.on l2) a1 b1').mono ?_
  rw [HC2.out]
  rintro e w3 ⟨rfl, b3⟩
  have l3 := later_trans l2 b3
  by_cases g2 : m2 < 0
  · have HE : Hid (R = -1) := by
      show _ = _
      rw [HZ.out]
      rw [← HQ3.out, HM2.out, if_pos g2]
    go_wp2_with fail
    go_ret
    exact ⟨ret_int HE.out.symm, later_trans HT.out l3⟩
  obtain ⟨a2, b2', _⟩ := hk2 (by omega) b1'
  clear hk2
  obtain ⟨m3, hm3⟩ : ∃ m, leftOf l ((szL r.round + szL r.strange + szL r.held + szL r.stuck : Nat) : Int) = m := ⟨_, rfl⟩
  have HM3 := Lib.hid hm3
  have HC3 : Hid (leftOf m2 (szL r.stuck : Nat) = m3) := by
    show _ = _
    rw [← hm3, ← HQ3.out, HM2.out, if_neg g2]
  have hk3 := @leftOf_ok m2 (szL r.stuck)
  rw [HC3.out] at hk3
  have HN3 : Hid (m3 < 0 → m3 = -1) := fun h => by
    have := HC3.out
    unfold leftOf at this
    split at this <;> omega
  clear hm3
  go_wp2_with fail
  refine (u_szL _ r.stuck m2 _ (P3.out.on l3) a2 b2').mono ?_
  rw [HC3.out]
  rintro e w4 ⟨rfl, b4⟩
  have l4 := later_trans l3 b4
  by_cases g3 : m3 < 0
  · have HE : Hid (R = -1) := by
      show _ = _
      rw [HZ.out]
      rw [HM3.out]; exact HN3.out g3
    go_wp2_with fail
    go_ret
    exact ⟨ret_int HE.out.symm, later_trans HT.out l4⟩
  · go_wp2_with fail
    go_ret
    exact ⟨ret_int (by rw [HZ.out, HM3.out]), later_trans HT.out l4⟩

set_option maxRecDepth 100000 in
set_option maxHeartbeats 1600000 in
theorem u_toR (v : Value) (r : Rpt) (w : World) (hv : rdR w w.heap.size v r) (hs : szR r ≤ 1048576) :
    Calls Tryz.prog 15 #[v] w fun e w' => ∃ v', e = .returned v' ∧ ownR 61 w.heap.size w' v' r ∧ Below w.heap.size w w' := by
  obtain ⟨A0, c0, A1, c1, A2, c2, A3, c3, e0⟩ := openR hv
  obtain ⟨w0, hw0⟩ : ∃ w0, w0 = w.alloc (Obj.cells #[.slice A0 r.round.length c0, .slice A1 r.strange.length c1, .slice A2 r.held.length c2, .slice A3 r.stuck.length c3] 45) := ⟨_, rfl⟩
  have q0 := box_cells hw0 0 (.slice A0 r.round.length c0) rfl
  have q1 := box_cells hw0 1 (.slice A1 r.strange.length c1) rfl
  have q2 := box_cells hw0 2 (.slice A2 r.held.length c2) rfl
  have q3 := box_cells hw0 3 (.slice A3 r.stuck.length c3) rfl
  have HT := Lib.hid (box_later hw0).1
  have hv1 := hv.on HT.out
  subst e0
  obtain ⟨p0, p1, p2, p3⟩ := partsR hv1
  have P0 := Lib.hid p0; have P1 := Lib.hid p1; have P2 := Lib.hid p2; have P3 := Lib.hid p3
  clear p0 p1 p2 p3 hv hv1
  have HW0 := Lib.hid hw0; clear hw0
  have l0 := Below.refl w0.heap.size w0
  unfold szR at hs
  have HS0 : Hid (szL r.round ≤ 1048576) := by show _ ≤ _; omega
  have HS1 : Hid (szL r.strange ≤ 1048576) := by show _ ≤ _; omega
  have HS2 : Hid (szL r.held ≤ 1048576) := by show _ ≤ _; omega
  have HS3 : Hid (szL r.stuck ≤ 1048576) := by show _ ≤ _; omega
  clear hs
  go_enter Tryz.func15, Tryz.ntmps15
  go_wp2_with fail
  rw [← HW0.out]
  have hz0 : w0.heap.size = w.heap.size + 1 := by rw [HW0.out]; simp
  obtain ⟨W, hW⟩ : ∃ W, W = (w0.alloc (Obj.cells #[.slice none 0 0, .slice none 0 0, .slice none 0 0, .slice none 0 0] 31)).alloc (Obj.cells #[.slice none 0 0, .slice none 0 0, .slice none 0 0, .slice none 0 0] 31) := ⟨_, rfl⟩
  have z3 : W.heap.size = w0.heap.size + 2 := by subst hW; simp
  have lW : Below w0.heap.size w0 W := by subst hW; exact later_alloc (later_alloc l0 _) _
  have E1 : Hid (W.heap[w.heap.size + 1]? = some (.cells #[.slice none 0 0, .slice none 0 0, .slice none 0 0, .slice none 0 0] 31 (0, 0))) := by
    show _ = _
    rw [← hz0]
    subst hW
    rw [Below.heap_alloc _ _ _ (by simp), heap_alloc_new]
  have E2 : Hid (W.heap[w.heap.size + 1 + 1]? = some (.cells #[.slice none 0 0, .slice none 0 0, .slice none 0 0, .slice none 0 0] 31 (0, 0))) := by
    show _ = _
    rw [← hz0]
    subst hW
    have := heap_alloc_new (w0.alloc (Obj.cells #[.slice none 0 0, .slice none 0 0, .slice none 0 0, .slice none 0 0] 31)) (Obj.cells #[.slice none 0 0, .slice none 0 0, .slice none 0 0, .slice none 0 0] 31)
    simpa using this
  rw [← hW]
  clear hW
  replace z3 : W.heap.size = w.heap.size + 3 := by omega
  have HZ0 := Lib.hid hz0; have HZ3 := Lib.hid z3
  have hz0' : w0.heap.size ≤ w.heap.size + 1 := by omega
  have z3' : w.heap.size + 3 ≤ W.heap.size := by omega
  have hb2 : w0.heap.size ≤ w.heap.size + 1 + 1 := by omega
  have hb1 : w0.heap.size ≤ w.heap.size + 1 := by omega
  clear hz0 z3
  refine (u_toL _ r.round _ (P0.out.on lW) HS0.out).mono ?_
  rintro e w1 ⟨v1, rfl, o1, b1⟩
  have l1 := later_trans lW b1
  obtain ⟨D0, n0, d0, rfl, hn0, _⟩ := o1.rd
  subst hn0
  have O1 := Lib.hid o1; clear o1
  replace E1 := Lib.hid (blk_below E1.out b1)
  replace E2 := Lib.hid (blk_below E2.out b1)
  have h2O1 : (⟨w.heap.size + 1 + 1, 0, none⟩ : Addr).block < W.heap.size := show w.heap.size + 1 + 1 < W.heap.size by omega
  have k0 := blk_cell E2.out 0 (.slice none 0 0) rfl
  have k1 := blk_cell E2.out 1 (.slice none 0 0) rfl
  have k2 := blk_cell E2.out 2 (.slice none 0 0) rfl
  have k3 := blk_cell E2.out 3 (.slice none 0 0) rfl
  have kf := blk_free E2.out
  go_wp2_with fail
  clear k0 k1 k2 k3 kf
  obtain ⟨Wa, hn⟩ : ∃ u, u = (w1.setCell ⟨w.heap.size + 1 + 1, 0, none⟩ (.slice D0 r.round.length d0)) := ⟨_, rfl⟩
  have lWa : Below w0.heap.size w0 Wa := by subst hn; exact later_set l1 hb2 _
  replace E2 := Lib.hid (show Wa.heap[w.heap.size + 1 + 1]? = some (.cells #[.slice D0 r.round.length d0, .slice none 0 0, .slice none 0 0, .slice none 0 0] 31 (0, 0)) by subst hn; exact blk_set E2.out 0 (.slice D0 r.round.length d0))
  replace E1 := Lib.hid (show Wa.heap[w.heap.size + 1]? = some (.cells #[.slice none 0 0, .slice none 0 0, .slice none 0 0, .slice none 0 0] 31 (0, 0)) by subst hn; exact blk_other E1.out ⟨w.heap.size + 1 + 1, 0, none⟩ (show w.heap.size + 1 + 1 ≠ w.heap.size + 1 by omega) (.slice D0 r.round.length d0))
  replace O1 := Lib.hid (show own 61 W.heap.size Wa (.slice D0 r.round.length d0) r.round by subst hn; exact own_out O1.out ⟨w.heap.size + 1 + 1, 0, none⟩ (.slice D0 r.round.length d0) h2O1)
  rw [← hn]
  clear hn
  have HBWa := Lib.hid (blk_lt E2.out)
  refine (u_toL _ r.strange _ (P1.out.on lWa) HS1.out).mono ?_
  rintro e w2 ⟨v2, rfl, o2, b2⟩
  have l2 := later_trans lWa b2
  obtain ⟨D1, n1, d1, rfl, hn1, _⟩ := o2.rd
  subst hn1
  have O2 := Lib.hid o2; clear o2
  have AP01 := Lib.hid (apart_gt O2.out O1.out (Nat.le_refl _))
  replace O1 := Lib.hid (O1.out.below b2)
  replace E1 := Lib.hid (blk_below E1.out b2)
  replace E2 := Lib.hid (blk_below E2.out b2)
  have h2O2 : (⟨w.heap.size + 1 + 1, 0, none⟩ : Addr).block < Wa.heap.size := HBWa.out
  have k0 := blk_cell E2.out 0 (.slice D0 r.round.length d0) rfl
  have k1 := blk_cell E2.out 1 (.slice none 0 0) rfl
  have k2 := blk_cell E2.out 2 (.slice none 0 0) rfl
  have k3 := blk_cell E2.out 3 (.slice none 0 0) rfl
  have kf := blk_free E2.out
  go_wp2_with fail
  clear k0 k1 k2 k3 kf
  obtain ⟨Wb, hn⟩ : ∃ u, u = (w2.setCell ⟨w.heap.size + 1 + 1, 1, none⟩ (.slice D1 r.strange.length d1)) := ⟨_, rfl⟩
  have lWb : Below w0.heap.size w0 Wb := by subst hn; exact later_set l2 hb2 _
  replace E2 := Lib.hid (show Wb.heap[w.heap.size + 1 + 1]? = some (.cells #[.slice D0 r.round.length d0, .slice D1 r.strange.length d1, .slice none 0 0, .slice none 0 0] 31 (0, 0)) by subst hn; exact blk_set E2.out 1 (.slice D1 r.strange.length d1))
  replace E1 := Lib.hid (show Wb.heap[w.heap.size + 1]? = some (.cells #[.slice none 0 0, .slice none 0 0, .slice none 0 0, .slice none 0 0] 31 (0, 0)) by subst hn; exact blk_other E1.out ⟨w.heap.size + 1 + 1, 1, none⟩ (show w.heap.size + 1 + 1 ≠ w.heap.size + 1 by omega) (.slice D1 r.strange.length d1))
  replace O1 := Lib.hid (show own 61 W.heap.size Wb (.slice D0 r.round.length d0) r.round by subst hn; exact own_out O1.out ⟨w.heap.size + 1 + 1, 1, none⟩ (.slice D1 r.strange.length d1) h2O1)
  replace O2 := Lib.hid (show own 61 Wa.heap.size Wb (.slice D1 r.strange.length d1) r.strange by subst hn; exact own_out O2.out ⟨w.heap.size + 1 + 1, 1, none⟩ (.slice D1 r.strange.length d1) h2O2)
  rw [← hn]
  clear hn
  have HBWb := Lib.hid (blk_lt E2.out)
  refine (u_toL _ r.held _ (P2.out.on lWb) HS2.out).mono ?_
  rintro e w3 ⟨v3, rfl, o3, b3⟩
  have l3 := later_trans lWb b3
  obtain ⟨D2, n2, d2, rfl, hn2, _⟩ := o3.rd
  subst hn2
  have O3 := Lib.hid o3; clear o3
  have AP02 := Lib.hid (apart_gt O3.out O1.out (Nat.le_refl _))
  have AP12 := Lib.hid (apart_gt O3.out O2.out (Nat.le_refl _))
  replace O1 := Lib.hid (O1.out.below b3)
  replace O2 := Lib.hid (O2.out.below b3)
  replace E1 := Lib.hid (blk_below E1.out b3)
  replace E2 := Lib.hid (blk_below E2.out b3)
  have h2O3 : (⟨w.heap.size + 1 + 1, 0, none⟩ : Addr).block < Wb.heap.size := HBWb.out
  have k0 := blk_cell E2.out 0 (.slice D0 r.round.length d0) rfl
  have k1 := blk_cell E2.out 1 (.slice D1 r.strange.length d1) rfl
  have k2 := blk_cell E2.out 2 (.slice none 0 0) rfl
  have k3 := blk_cell E2.out 3 (.slice none 0 0) rfl
  have kf := blk_free E2.out
  go_wp2_with fail
  clear k0 k1 k2 k3 kf
  obtain ⟨Wc, hn⟩ : ∃ u, u = (w3.setCell ⟨w.heap.size + 1 + 1, 2, none⟩ (.slice D2 r.held.length d2)) := ⟨_, rfl⟩
  have lWc : Below w0.heap.size w0 Wc := by subst hn; exact later_set l3 hb2 _
  replace E2 := Lib.hid (show Wc.heap[w.heap.size + 1 + 1]? = some (.cells #[.slice D0 r.round.length d0, .slice D1 r.strange.length d1, .slice D2 r.held.length d2, .slice none 0 0] 31 (0, 0)) by subst hn; exact blk_set E2.out 2 (.slice D2 r.held.length d2))
  replace E1 := Lib.hid (show Wc.heap[w.heap.size + 1]? = some (.cells #[.slice none 0 0, .slice none 0 0, .slice none 0 0, .slice none 0 0] 31 (0, 0)) by subst hn; exact blk_other E1.out ⟨w.heap.size + 1 + 1, 2, none⟩ (show w.heap.size + 1 + 1 ≠ w.heap.size + 1 by omega) (.slice D2 r.held.length d2))
  replace O1 := Lib.hid (show own 61 W.heap.size Wc (.slice D0 r.round.length d0) r.round by subst hn; exact own_out O1.out ⟨w.heap.size + 1 + 1, 2, none⟩ (.slice D2 r.held.length d2) h2O1)
  replace O2 := Lib.hid (show own 61 Wa.heap.size Wc (.slice D1 r.strange.length d1) r.strange by subst hn; exact own_out O2.out ⟨w.heap.size + 1 + 1, 2, none⟩ (.slice D2 r.held.length d2) h2O2)
  replace O3 := Lib.hid (show own 61 Wb.heap.size Wc (.slice D2 r.held.length d2) r.held by subst hn; exact own_out O3.out ⟨w.heap.size + 1 + 1, 2, none⟩ (.slice D2 r.held.length d2) h2O3)
  rw [← hn]
  clear hn
  have HBWc := Lib.hid (blk_lt E2.out)
  refine (u_toL _ r.stuck _ (P3.out.on lWc) HS3.out).mono ?_
  rintro e w4 ⟨v4, rfl, o4, b4⟩
  have l4 := later_trans lWc b4
  obtain ⟨D3, n3, d3, rfl, hn3, _⟩ := o4.rd
  subst hn3
  have O4 := Lib.hid o4; clear o4
  have AP03 := Lib.hid (apart_gt O4.out O1.out (Nat.le_refl _))
  have AP13 := Lib.hid (apart_gt O4.out O2.out (Nat.le_refl _))
  have AP23 := Lib.hid (apart_gt O4.out O3.out (Nat.le_refl _))
  replace O1 := Lib.hid (O1.out.below b4)
  replace O2 := Lib.hid (O2.out.below b4)
  replace O3 := Lib.hid (O3.out.below b4)
  replace E1 := Lib.hid (blk_below E1.out b4)
  replace E2 := Lib.hid (blk_below E2.out b4)
  have h2O4 : (⟨w.heap.size + 1 + 1, 0, none⟩ : Addr).block < Wc.heap.size := HBWc.out
  have k0 := blk_cell E2.out 0 (.slice D0 r.round.length d0) rfl
  have k1 := blk_cell E2.out 1 (.slice D1 r.strange.length d1) rfl
  have k2 := blk_cell E2.out 2 (.slice D2 r.held.length d2) rfl
  have k3 := blk_cell E2.out 3 (.slice none 0 0) rfl
  have kf := blk_free E2.out
  have j0 := blk_cell E1.out 0 (.slice none 0 0) rfl
  have j1 := blk_cell E1.out 1 (.slice none 0 0) rfl
  have j2 := blk_cell E1.out 2 (.slice none 0 0) rfl
  have j3 := blk_cell E1.out 3 (.slice none 0 0) rfl
  have jf := blk_free E1.out
  go_wp2_with fail
  have h1O1 : (⟨w.heap.size + 1, 0, none⟩ : Addr).block < W.heap.size := by have h := h2O1; exact Nat.lt_of_le_of_lt (Nat.le_succ _) h
  have FO1 := Lib.hid (own_out (own_out (own_out (own_out (own_out O1.out ⟨w.heap.size + 1 + 1, 3, none⟩ (.slice D3 r.stuck.length d3) h2O1) ⟨w.heap.size + 1, 0, none⟩ (.slice D0 r.round.length d0) h1O1) ⟨w.heap.size + 1, 1, none⟩ (.slice D1 r.strange.length d1) h1O1) ⟨w.heap.size + 1, 2, none⟩ (.slice D2 r.held.length d2) h1O1) ⟨w.heap.size + 1, 3, none⟩ (.slice D3 r.stuck.length d3) h1O1)
  have h1O2 : (⟨w.heap.size + 1, 0, none⟩ : Addr).block < Wa.heap.size := by have h := h2O2; exact Nat.lt_of_le_of_lt (Nat.le_succ _) h
  have FO2 := Lib.hid (own_out (own_out (own_out (own_out (own_out O2.out ⟨w.heap.size + 1 + 1, 3, none⟩ (.slice D3 r.stuck.length d3) h2O2) ⟨w.heap.size + 1, 0, none⟩ (.slice D0 r.round.length d0) h1O2) ⟨w.heap.size + 1, 1, none⟩ (.slice D1 r.strange.length d1) h1O2) ⟨w.heap.size + 1, 2, none⟩ (.slice D2 r.held.length d2) h1O2) ⟨w.heap.size + 1, 3, none⟩ (.slice D3 r.stuck.length d3) h1O2)
  have h1O3 : (⟨w.heap.size + 1, 0, none⟩ : Addr).block < Wb.heap.size := by have h := h2O3; exact Nat.lt_of_le_of_lt (Nat.le_succ _) h
  have FO3 := Lib.hid (own_out (own_out (own_out (own_out (own_out O3.out ⟨w.heap.size + 1 + 1, 3, none⟩ (.slice D3 r.stuck.length d3) h2O3) ⟨w.heap.size + 1, 0, none⟩ (.slice D0 r.round.length d0) h1O3) ⟨w.heap.size + 1, 1, none⟩ (.slice D1 r.strange.length d1) h1O3) ⟨w.heap.size + 1, 2, none⟩ (.slice D2 r.held.length d2) h1O3) ⟨w.heap.size + 1, 3, none⟩ (.slice D3 r.stuck.length d3) h1O3)
  have h1O4 : (⟨w.heap.size + 1, 0, none⟩ : Addr).block < Wc.heap.size := by have h := h2O4; exact Nat.lt_of_le_of_lt (Nat.le_succ _) h
  have FO4 := Lib.hid (own_out (own_out (own_out (own_out (own_out O4.out ⟨w.heap.size + 1 + 1, 3, none⟩ (.slice D3 r.stuck.length d3) h2O4) ⟨w.heap.size + 1, 0, none⟩ (.slice D0 r.round.length d0) h1O4) ⟨w.heap.size + 1, 1, none⟩ (.slice D1 r.strange.length d1) h1O4) ⟨w.heap.size + 1, 2, none⟩ (.slice D2 r.held.length d2) h1O4) ⟨w.heap.size + 1, 3, none⟩ (.slice D3 r.stuck.length d3) h1O4)
  have FL := Lib.hid (later_set (later_set (later_set (later_set (later_set l4 (p := ⟨w.heap.size + 1 + 1, 3, none⟩) hb2 (.slice D3 r.stuck.length d3)) (p := ⟨w.heap.size + 1, 0, none⟩) hb1 (.slice D0 r.round.length d0)) (p := ⟨w.heap.size + 1, 1, none⟩) hb1 (.slice D1 r.strange.length d1)) (p := ⟨w.heap.size + 1, 2, none⟩) hb1 (.slice D2 r.held.length d2)) (p := ⟨w.heap.size + 1, 3, none⟩) hb1 (.slice D3 r.stuck.length d3))
  have BO1 := Lib.hid (show w.heap.size ≤ W.heap.size by have h' : w.heap.size + 1 + 1 < W.heap.size := h2O1; omega)
  have BO2 := Lib.hid (show w.heap.size ≤ Wa.heap.size by have h' : w.heap.size + 1 + 1 < Wa.heap.size := h2O2; omega)
  have BO3 := Lib.hid (show w.heap.size ≤ Wb.heap.size by have h' : w.heap.size + 1 + 1 < Wb.heap.size := h2O3; omega)
  have BO4 := Lib.hid (show w.heap.size ≤ Wc.heap.size by have h' : w.heap.size + 1 + 1 < Wc.heap.size := h2O4; omega)
  refine bodyPost_ret (v := .agg #[.slice D0 r.round.length d0, .slice D1 r.strange.length d1, .slice D2 r.held.length d2, .slice D3 r.stuck.length d3]) (by simp [results, Tryz.results15, go_sem, j0, j1, j2, j3]) rfl ⟨_, rfl, ⟨_, _, _, _, rfl, FO1.out.base_ BO1.out, FO2.out.base_ BO2.out, FO3.out.base_ BO3.out, FO4.out.base_ BO4.out, apart_symm AP01.out, apart_symm AP02.out, apart_symm AP03.out, apart_symm AP12.out, apart_symm AP13.out, apart_symm AP23.out⟩, ?_⟩
  exact later_trans HT.out FL.out

end Go.Proofs.YtffbcfaahegglaaGreatDoor

namespace Go.Proofs.YtffbcfaahegglaaGreatDoor
open Go.RowKit

def slT : ByteArray := ⟨#[47]⟩
def four (r : Rpt) : List (List Ltr) := [r.round, r.strange, r.held, r.stuck]
def all4 (r : Rpt) : List Ltr := r.round ++ r.strange ++ r.held ++ r.stuck
/-- A report as a text; nothing if its letters are not a batch. -/
def fmtR (r : Rpt) : ByteArray := if okB (all4 r) = true then fmtB r.round ++ slT ++ fmtB r.strange ++ slT ++ fmtB r.held ++ slT ++ fmtB r.stuck else ⟨#[]⟩
theorem fmtR_no {r : Rpt} (h : okB (all4 r) = false) : fmtR r = ⟨#[]⟩ := by unfold fmtR; rw [h]; rfl
theorem fmtR_yes {r : Rpt} (h : okB (all4 r) = true) : fmtR r = fmtB r.round ++ slT ++ fmtB r.strange ++ slT ++ fmtB r.held ++ slT ++ fmtB r.stuck := by unfold fmtR; rw [if_pos h]
theorem four_flat (r : Rpt) : (four r).flatten = all4 r := by simp [four, all4]
theorem four_ok (r : Rpt) : collectOk (four r) = okB (all4 r) := by
  unfold collectOk
  rw [four_flat, show decide ((four r).length ≤ 60) = true from rfl, Bool.true_and]
theorem four_join (r : Rpt) : joinT ((four r).map fmtB) slT = fmtB r.round ++ slT ++ fmtB r.strange ++ slT ++ fmtB r.held ++ slT ++ fmtB r.stuck := by
  have e : (four r).map fmtB = [fmtB r.round] ++ [fmtB r.strange] ++ [fmtB r.held] ++ [fmtB r.stuck] := rfl
  rw [e, joinT_snoc _ _ _ (by simp), joinT_snoc _ _ _ (by simp), joinT_snoc _ _ _ (by simp), joinT_one]
theorem rd_four {w : World} {v0 v1 v2 v3 : Value} {x0 x1 x2 x3 : List Ltr} (T : TypeId) (h0 : rd w w.heap.size v0 x0) (h1 : rd w w.heap.size v1 x1) (h2 : rd w w.heap.size v2 x2) (h3 : rd w w.heap.size v3 x3) :
    rd (w.alloc (Obj.cells #[v0, v1, v2, v3] T)) (w.alloc (Obj.cells #[v0, v1, v2, v3] T)).heap.size (.slice (some ⟨w.heap.size, 0, none⟩) 4 4) [x0, x1, x2, x3] := by
  obtain ⟨W, hW⟩ : ∃ W, W = w.alloc (Obj.cells #[v0, v1, v2, v3] T) := ⟨_, rfl⟩
  have hb := (box_later hW).1
  have q0 := box_cells hW 0 v0 rfl _ (Below.refl _ _)
  have q1 := box_cells hW 1 v1 rfl _ (Below.refl _ _)
  have q2 := box_cells hW 2 v2 rfl _ (Below.refl _ _)
  have q3 := box_cells hW 3 v3 rfl _ (Below.refl _ _)
  have hz : W.heap.size = w.heap.size + 1 := by subst hW; simp
  rw [← hW]
  have key : ∀ (k : Nat) (v : Value) (x : List Ltr), rd w w.heap.size v x → W.cell? ⟨w.heap.size, k, none⟩ = some v → ∃ b o cs, (some (⟨w.heap.size, 0, none⟩ : Addr)) = some ⟨b, o, none⟩ ∧ b < W.heap.size ∧ El.el W W.heap.size x cs ∧ ∀ j u, cs[j]? = some u → W.cell? ⟨b, o + (k * El.size (List Ltr) + j), none⟩ = some u := fun k v x hx hc =>
    ⟨w.heap.size, 0, [v], rfl, by omega, ⟨v, rfl, hx.on hb⟩, fun j u hu => by
      match j, hu with
      | 0, hu =>
        have : u = v := by simpa using hu.symm
        subst this
        rw [show 0 + (k * El.size (List Ltr) + 0) = k by show 0 + (k * 1 + 0) = k; omega]
        exact hc
      | j + 1, hu => simp at hu⟩
  refine rd.mk rfl (Nat.le_refl _) (by unfold maxLen; omega) fun k hk => ?_
  match k, hk with
  | 0, _ => exact key 0 v0 x0 h0 q0
  | 1, _ => exact key 1 v1 x1 h1 q1
  | 2, _ => exact key 2 v2 x2 h2 q2
  | 3, _ => exact key 3 v3 x3 h3 q3
  | k + 4, hk => exact absurd hk (by simp)

set_option maxRecDepth 100000 in
set_option maxHeartbeats 1600000 in
theorem impl_FormatReport (v : Value) (r : Rpt) (w : World) (hv : rdR w w.heap.size v r) (ht : TabW w) :
    Calls Tryz.prog 23 #[v] w fun e w' => e = .returned (.string (fmtR r)) ∧ Below w.heap.size w w' := by
  obtain ⟨A0, c0, A1, c1, A2, c2, A3, c3, e0⟩ := openR hv
  obtain ⟨w0, hw0⟩ : ∃ w0, w0 = w.alloc (Obj.cells #[.slice A0 r.round.length c0, .slice A1 r.strange.length c1, .slice A2 r.held.length c2, .slice A3 r.stuck.length c3] 31) := ⟨_, rfl⟩
  have q0 := box_cells hw0 0 (.slice A0 r.round.length c0) rfl
  have q1 := box_cells hw0 1 (.slice A1 r.strange.length c1) rfl
  have q2 := box_cells hw0 2 (.slice A2 r.held.length c2) rfl
  have q3 := box_cells hw0 3 (.slice A3 r.stuck.length c3) rfl
  have HT := Lib.hid (box_later hw0).1
  have HTW := Lib.hid (ht.on HT.out)
  have hv1 := hv.on HT.out
  subst e0
  obtain ⟨p0, p1, p2, p3⟩ := partsR hv1
  have HX := Lib.hid (rd_four 29 p0 p1 p2 p3)
  have HX4 : Hid (∀ z, [r.round, r.strange, r.held, r.stuck] = z → z = four r) := fun z h => h.symm
  clear p0 p1 p2 p3 hv hv1 ht
  have HW0 := Lib.hid hw0; clear hw0
  have l0 := Below.refl w0.heap.size w0
  obtain ⟨i0, hi, hz0, hz1, hz2⟩ := info_parts Tryz.infoStr
  go_enter Tryz.func23, Tryz.ntmps23
  go_wp2_with fail
  rw [← HW0.out]
  obtain ⟨wq, hwq⟩ : ∃ u, u = w0.alloc (Obj.cells #[.slice A0 r.round.length c0, .slice A1 r.strange.length c1, .slice A2 r.held.length c2, .slice A3 r.stuck.length c3] 29) := ⟨_, rfl⟩
  have lq := later_trans l0 (box_later hwq).1
  have HX' : Hid (rd wq wq.heap.size (.slice (some ⟨w0.heap.size, 0, none⟩) 4 4) [r.round, r.strange, r.held, r.stuck]) := by rw [hwq]; exact HX.out
  obtain ⟨xss, hxs⟩ : ∃ z, four r = z := ⟨_, rfl⟩
  have hw0z : w0.heap.size = w.heap.size + 1 := by rw [HW0.out]; simp
  replace HX := Lib.hid (show rd wq wq.heap.size (.slice (some ⟨w.heap.size + 1, 0, none⟩) 4 4) xss by rw [← hxs, ← hw0z]; exact HX'.out)
  clear hw0z
  have HOKX : Hid (collectOk xss = okB (all4 r)) := by show _ = _; rw [← hxs]; exact four_ok r
  have HNF := Lib.hid (@fmtR_no r)
  have HYF : Hid (okB (all4 r) = true → fmtR r = joinT (xss.map fmtB) slT) := fun h => by rw [← hxs, four_join]; exact fmtR_yes h
  have hx4 : xss.length = 4 := by rw [← hxs]; rfl
  clear HX' HX4 hxs q0 q1 q2 q3
  rw [← hwq]
  clear hwq
  refine (impl_CollectBins _ xss _ HX.out).mono ?_
  rw [HOKX.out]
  rintro e w1 ⟨vL, rfl, oL, b1⟩
  have l1 := later_trans lq b1
  obtain ⟨AL, mL, cL, rfl, hmL, _, _, _⟩ := oL.rd
  clear oL
  cases hok : okB (all4 r)
  · have HF := Lib.hid (HNF.out hok)
    clear hok
    go_wp2_with fail
    go_ret
    exact ⟨ret_str HF.out.symm, later_trans HT.out l1⟩
  have HF := Lib.hid (HYF.out hok)
  clear hok
  have hmk := make_row (P := Tryz.prog) 23 9 i0 _ Tryz.underlying23 hi hz0 4 (by rw [hz2]; omega) (by omega)
  simp only [show ((4 : Nat) : Int) = 4 from rfl, hz1, Nat.mul_one] at hmk
  go_wp2_with fail
  have hf0 : filled 9 (w1.alloc (Obj.cells (madeCells #[.string ⟨#[]⟩] 4) 9)) w1.heap.size 4 0 (xss.map fmtB) := filled.made w1 _ _ _ (by rw [size_madeCells]; exact (Nat.mul_one _).symm) _
  have hb0 : Below w1.heap.size w1 (w1.alloc (Obj.cells (madeCells #[.string ⟨#[]⟩] 4) 9)) := (Below.refl _ _).alloc (Nat.le_refl _) _
  generalize w1.alloc (Obj.cells (madeCells #[.string ⟨#[]⟩] 4) 9) = wm at *
  clear hmk
  have HLN : Hid ((xss.map fmtB).length = 4) := by show _ = _; rw [List.length_map, hx4]
  have HRT := Lib.hid (HTW.out.on l1)
  obtain ⟨_, _, _, hee, _, _, _, hrr⟩ := HX.out
  injection hee with hee1 hee2 hee3
  subst hee1
  have HR := Lib.hid hrr
  clear hrr hee2 hee3
  have b1' := b1
  go_loopw [30] (fun i wr => ∃ k : Nat, k ≤ 4 ∧ i = .int .i64 k ∧ Below w1.heap.size w1 wr ∧ filled 9 wr w1.heap.size 4 k (xss.map fmtB)) (fun i _ => 4 - (intOf i).toNat)
  case atStart => exact ⟨0, Nat.zero_le _, rfl, hb0, hf0⟩
  case round =>
    obtain ⟨k, hk, rfl, hbl, hf⟩ := hrel
    obtain ⟨w2, rfl⟩ : ∃ w2 : World, w2 = wr := ⟨_, rfl⟩
    clear hf0 hb0
    have hs1 := b1'.size
    by_cases hlt : k < 4
    · obtain ⟨b, o, u, hA, hb, hu, c1⟩ := HR.out.rowU k (by omega)
      injection hA with hA
      injection hA with hA1 hA2
      subst hA1 hA2
      have c1 := c1 w2 (later_trans b1' hbl)
      simp only [Nat.zero_add] at c1
      have hLk : (xss.map fmtB)[k]'(by rw [HLN.out]; exact hlt) = fmtB xss[k] := by simp
      have HST := Lib.hid (fun (W : World) (hF : filled 9 W w1.heap.size 4 k (xss.map fmtB)) => hF.step (by rw [HLN.out]; exact hlt) (by rw [HLN.out]; exact Nat.le_refl _) (ecs := [.string (fmtB xss[k])]) (by rw [hLk]; exact ⟨by have := fmtB_size xss[k]; unfold maxLen; omega, rfl⟩))
      clear hLk
      generalize xss[k] = ys at *
      obtain ⟨A5, m5, c5, rfl, hm5, hc5, hmm5, hr5⟩ := hu
      have HU : Hid (rd wq wq.heap.size (.slice A5 m5 c5) ys) := ⟨A5, m5, c5, rfl, hm5, hc5, hmm5, hr5⟩
      clear hm5 hc5 hmm5 hr5
      have hki : (k : Int) < 4 := by omega
      have hki0 : (0 : Int) ≤ (k : Int) := by omega
      have hs2 := hbl.size
      go_wp2_with fail
      refine (impl_FormatBatch _ ys _ (HU.out.on (later_trans b1' hbl)) (HRT.out.on hbl)).mono ?_
      generalize fmtB ys = t at *
      rintro e w3 ⟨rfl, b3⟩
      have hne : w1.heap.size < w2.heap.size := by obtain ⟨cs, h1, _⟩ := hf; exact (Array.getElem?_eq_some_iff.1 h1).1
      have hf3 := hf.below b3
      obtain ⟨u0, g0⟩ := hf3.cell (j := k) (by show _ < _ * 1; omega)
      have f0 := hf3.free k
      have HF3 := Lib.hid hf3
      have HB3 := Lib.hid (later_trans hbl b3)
      clear hf hf3
      go_wp2_with fail
      go_roundw
      case rel =>
        have := HST.out w3 HF3.out
        rw [show k * El.size ByteArray = k from Nat.mul_one k] at this
        exact ⟨k + 1, by omega, by go_num, HB3.out.trans (setAll_below [.string _] w3 k _ (Nat.le_refl _)), this⟩
      case measure => simp [intOf]; omega
    · have HE := Lib.hid (show k = 4 by omega)
      have HO := Lib.hid ((HE.out ▸ hf : filled _ _ _ _ 4 _).own HLN.out.symm (Nat.le_refl _) (by unfold maxLen; omega))
      clear hf
      have l2 := later_trans l1 hbl
      have hjz := joinT_size (xss.map fmtB) slT 1000 fun p hp => by
        obtain ⟨y, _, rfl⟩ := List.mem_map.1 hp
        exact fmtB_size y
      rw [HLN.out] at hjz
      have hjz2 : 4 * (1000 + slT.size) = 4004 := rfl
      have HJ := Lib.hid (join_own (sep := slT) HO.out HLN.out.symm (by rw [HLN.out]; omega) (by omega))
      clear hjz hjz2
      go_wp2_with fail
      refine HJ.out.mono ?_
      rw [← HF.out]
      rintro e w3 ⟨rfl, b3⟩
      have l3 := later_trans l2 b3
      go_wp2_with fail
      go_ret
      exact ⟨rfl, later_trans HT.out l3⟩

end Go.Proofs.YtffbcfaahegglaaGreatDoor
