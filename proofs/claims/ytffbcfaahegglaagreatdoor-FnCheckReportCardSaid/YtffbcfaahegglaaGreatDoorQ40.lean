/- UD UR -/
import Derived.Test.YtffbcfaahegglaaGreatDoorQ11
import Derived.Test.YtffbcfaahegglaaGreatDoorQ16
import Derived.Test.YtffbcfaahegglaaGreatDoorQ45
import Derived.Test.YtffbcfaahegglaaGreatDoorQ6
import Derived.Test.YtffbcfaahegglaaGreatDoorQ14
import Derived.Test.YtffbcfaahegglaaGreatDoorQ8
namespace Go.Proofs.YtffbcfaahegglaaGreatDoor
open Go.RowKit

def sumFw (fs : List Fwd) : Nat := (fs.map fun x => x.src.size + x.dst.size).sum
theorem sumFw_succ (xs : List Fwd) (k : Nat) (h : k < xs.length) : sumFw (xs.take (k + 1)) = sumFw (xs.take k) + (xs[k].src.size + xs[k].dst.size) := by
  unfold sumFw; rw [List.take_succ_eq_append_getElem h, List.map_append, List.sum_append]; simp
theorem sumFw_le (xs : List Fwd) (k : Nat) : sumFw (xs.take k) ≤ sumFw xs := by
  unfold sumFw
  conv => rhs; rw [← List.take_append_drop k xs, List.map_append, List.sum_append]
  omega
theorem laws_szForward (x : Fwd) (l : Int) (w : World) (h1 : x.src.size ≤ maxLen) (h2 : x.dst.size ≤ maxLen) (h0 : 0 ≤ l) (hl : l ≤ 1048576) :
    Calls Tryz.prog 64 #[.agg #[.string x.src, .string x.dst], .int .i64 l] w fun e w' => e = .returned (.int .i64 (leftOf l ((x.src.size + x.dst.size : Nat) : Int))) ∧ Below w.heap.size w w' := by
  unfold maxLen at h1 h2
  have HQ : Hid (leftOf l ((x.src.size + x.dst.size : Nat) : Int) = if l < ((x.src.size + x.dst.size : Nat) : Int) then -1 else l - ((x.src.size + x.dst.size : Nat) : Int)) := rfl
  go_enter Tryz.func64, Tryz.ntmps64
  by_cases h : l < x.src.size
  · go_wp2
    go_ret
    exact ⟨ret_int (by rw [HQ.out, if_pos (by omega)]), (Below.refl _ _).alloc (Nat.le_refl _) _⟩
  by_cases h' : l - x.src.size < x.dst.size
  · go_wp2
    go_ret
    exact ⟨ret_int (by unfold leftOf; rw [if_pos (by omega)]), (Below.refl _ _).alloc (Nat.le_refl _) _⟩
  · go_wp2
    go_ret
    exact ⟨ret_int (by unfold leftOf; rw [if_neg (by omega)]; omega), (Below.refl _ _).alloc (Nat.le_refl _) _⟩

set_option maxHeartbeats 400000 in
theorem laws_szForwardS (v : Value) (xs : List Fwd) (l : Int) (w : World) (hv : rd w w.heap.size v xs) (h0 : 0 ≤ l) (h1 : l ≤ 1048576) :
    Calls Tryz.prog 32 #[v, .int .i64 l] w fun e w' => e = .returned (.int .i64 (leftOf l ((xs.length + sumFw xs : Nat) : Int))) ∧ Below w.heap.size w w' := by
  obtain ⟨A, n, c, rfl, hn, hc, hm, hr⟩ := hv
  subst hn
  unfold maxLen at hm
  have HR := Lib.hid hr; clear hr
  have HQ : Hid (leftOf l ((xs.length + sumFw xs : Nat) : Int) = if l < ((xs.length + sumFw xs : Nat) : Int) then -1 else l - ((xs.length + sumFw xs : Nat) : Int)) := rfl
  go_enter Tryz.func32, Tryz.ntmps32
  by_cases h : l < xs.length
  · go_wp2
    go_ret
    exact ⟨ret_int (by rw [HQ.out, if_pos (by omega)]), Below.refl _ _⟩
  · go_wp2
    go_loopw [1, 5] (fun t i wr => ∃ (k : Nat) (m : Int), k ≤ xs.length ∧ i = .int .i64 k ∧ t = .int .i64 m ∧ 0 ≤ m ∧ m ≤ 1048576 ∧ Below w.heap.size w wr ∧ Hid (m = l - xs.length - sumFw (xs.take k))) (fun _ i _ => xs.length - (intOf i).toNat)
    case atStart => exact ⟨0, _, Nat.zero_le _, rfl, rfl, by omega, by omega, Below.refl _ _, by show _ = _; simp [sumFw]⟩
    case round =>
      obtain ⟨k, m, hk, rfl, rfl, m0, m1, hbl, HM⟩ := hrel
      obtain ⟨w1, rfl⟩ : ∃ w1 : World, w1 = wr := ⟨_, rfl⟩
      by_cases hlt : k < xs.length
      · obtain ⟨b, o, rfl, hb, ⟨o1, o2⟩, c1, c2⟩ := HR.out.fwdU k hlt
        have HS := Lib.hid (sumFw_succ xs k hlt)
        have HL := Lib.hid (sumFw_le xs (k + 1))
        generalize xs[k] = x at *
        obtain ⟨r, hrr⟩ : ∃ r, leftOf m ((x.src.size + x.dst.size : Nat) : Int) = r := ⟨_, rfl⟩
        have hok := @leftOf_ok m (x.src.size + x.dst.size)
        have HE : Hid (r = if m < ((x.src.size + x.dst.size : Nat) : Int) then -1 else m - ((x.src.size + x.dst.size : Nat) : Int)) := by show _ = _; rw [← hrr]; rfl
        rw [hrr] at hok
        have HRR := Lib.hid hrr; clear hrr
        go_wp2_with fail
        refine (laws_szForward x m _ o1 o2 m0 m1).mono ?_
        rw [HRR.out]
        rintro e w2 ⟨rfl, b2⟩
        have l2 := later_trans hbl b2
        by_cases hs : r < 0
        · go_wp2_with fail
          go_ret
          refine ⟨ret_int ?_, l2⟩
          have := HM.out; have h2 := HS.out; have h3 := HL.out; have h4 := HE.out
          split at h4
          · rw [HQ.out, if_pos (by omega)]
          · omega
        · obtain ⟨a1, a2, _⟩ := hok (by omega) m1
          clear hok
          go_wp2_with fail
          go_roundw
          case rel =>
            refine ⟨k + 1, r, by omega, by go_num, rfl, a1, a2, l2, ?_⟩
            show _ = _
            have := HM.out; have h2 := HS.out; have h4 := HE.out
            split at h4 <;> omega
          case measure => simp [intOf]; omega
      · have HE := Lib.hid (show k = xs.length by omega)
        go_wp2
        go_ret
        refine ⟨ret_int ?_, hbl⟩
        have := HM.out
        rw [HE.out, List.take_length] at this
        rw [HQ.out, if_neg (by omega)]; omega

def szD (d : Dy) : Nat := szP d.plan + (d.fwds.length + sumFw d.fwds) + (d.held.length + sumStr d.held)

set_option maxHeartbeats 800000 in
theorem u_szD (v : Value) (d : Dy) (l : Int) (w : World) (hv : rdD w w.heap.size v d) (h0 : 0 ≤ l) (h1 : l ≤ 1048576) :
    Calls Tryz.prog 10 #[v, .int .i64 l] w fun e w' => e = .returned (.int .i64 (leftOf l (szD d : Nat))) ∧ Below w.heap.size w w' := by
  obtain ⟨A0, c0, A1, c1, A2, c2, e0⟩ := openD hv
  obtain ⟨w0, hw0⟩ : ∃ w0, w0 = w.alloc (Obj.cells #[.int .i64 d.plan.bins, .int .i64 d.plan.passes, .slice A0 d.plan.order.length c0, .slice A1 d.fwds.length c1, .slice A2 d.held.length c2, .int .i64 d.size] 42) := ⟨_, rfl⟩
  have q0 := box_cells hw0 0 (.int .i64 d.plan.bins) rfl
  have q1 := box_cells hw0 1 (.int .i64 d.plan.passes) rfl
  have q2 := box_cells hw0 2 (.slice A0 d.plan.order.length c0) rfl
  have q3 := box_cells hw0 3 (.slice A1 d.fwds.length c1) rfl
  have q4 := box_cells hw0 4 (.slice A2 d.held.length c2) rfl
  have q5 := box_cells hw0 5 (.int .i64 d.size) rfl
  have HT := Lib.hid (box_later hw0).1
  have hv1 := hv.on HT.out
  subst e0
  obtain ⟨hp, ho, hf, hh, hsz⟩ := partsD hv1
  have HP := Lib.hid hp; have HO := Lib.hid ho; have HF := Lib.hid hf; have HH := Lib.hid hh; have HSZ := Lib.hid hsz
  clear hp ho hf hv hv1 hh hsz
  have HW0 := Lib.hid hw0; clear hw0
  have l0 := Below.refl w0.heap.size w0
  have HQ1 := Lib.hid (leftOf_leftOf l (szP d.plan) (d.fwds.length + sumFw d.fwds) h0)
  have HQ2 := Lib.hid (leftOf_leftOf l (szP d.plan + (d.fwds.length + sumFw d.fwds)) (d.held.length + sumStr d.held) h0)
  have HZ : Hid (szD d = szP d.plan + (d.fwds.length + sumFw d.fwds) + (d.held.length + sumStr d.held)) := rfl
  obtain ⟨r0, hr0⟩ : ∃ r, leftOf l (szP d.plan : Nat) = r := ⟨_, rfl⟩
  have hk0 := @leftOf_ok l (szP d.plan)
  rw [hr0] at hk0
  have HR0 := Lib.hid hr0; clear hr0
  go_enter Tryz.func10, Tryz.ntmps10
  go_wp2_with fail
  rw [← HW0.out]
  refine (u_szP _ d.plan l _ (HP.out.on l0) h0 h1).mono ?_
  rw [HR0.out]
  rintro e w1 ⟨rfl, b1⟩
  have l1 := later_trans l0 b1
  by_cases g0 : r0 < 0
  · have HE : Hid (leftOf l (szD d : Nat) = -1) := by
      show _ = _
      rw [HZ.out, ← HQ2.out, ← HQ1.out, HR0.out, if_pos g0]; rfl
    go_wp2_with fail
    go_ret
    exact ⟨ret_int HE.out.symm, later_trans HT.out l1⟩
  obtain ⟨a0, a1, _⟩ := hk0 (by omega) h1
  have HQ3 : Hid (leftOf r0 ((d.fwds.length + sumFw d.fwds : Nat) : Int) = leftOf l ((szP d.plan + (d.fwds.length + sumFw d.fwds) : Nat) : Int)) := by
    show _ = _
    rw [← HQ1.out, HR0.out, if_neg g0]
  obtain ⟨r1, hr1⟩ : ∃ r, leftOf r0 ((d.fwds.length + sumFw d.fwds : Nat) : Int) = r := ⟨_, rfl⟩
  have hk1 := @leftOf_ok r0 (d.fwds.length + sumFw d.fwds)
  rw [hr1] at hk1
  have HR1 := Lib.hid hr1; clear hr1 hk0
  go_wp2_with fail
  refine (laws_szForwardS _ d.fwds r0 _ (HF.out.on l1) a0 a1).mono ?_
  rw [HR1.out]
  rintro e w2 ⟨rfl, b2⟩
  have l2 := later_trans l1 b2
  by_cases g1 : r1 < 0
  · have HE : Hid (leftOf l (szD d : Nat) = -1) := by
      show _ = _
      rw [HZ.out, ← HQ2.out, ← HQ3.out, HR1.out, if_pos g1]
    go_wp2_with fail
    go_ret
    exact ⟨ret_int HE.out.symm, later_trans HT.out l2⟩
  obtain ⟨a2, a3, _⟩ := hk1 (by omega) a1
  have HQ4 : Hid (leftOf r1 ((d.held.length + sumStr d.held : Nat) : Int) = leftOf l (szD d : Nat)) := by
    show _ = _
    rw [HZ.out, ← HQ2.out, ← HQ3.out, HR1.out, if_neg g1]
  obtain ⟨r2, hr2⟩ : ∃ r, leftOf r1 ((d.held.length + sumStr d.held : Nat) : Int) = r := ⟨_, rfl⟩
  have HR2 := Lib.hid hr2
  rw [Int.natCast_add] at hr2
  have hk2 := @leftOf_ok r1 (d.held.length + sumStr d.held)
  rw [HR2.out] at hk2
  have HR2' := Lib.hid hr2; clear hr2 hk1
  go_wp2_with fail
  refine (laws_szStringS _ d.held r1 _ (HH.out.on l2) a2 a3).mono ?_
  rw [HR2'.out]
  rintro e w3 ⟨rfl, rfl⟩
  by_cases g2 : r2 < 0
  · have HE : Hid (leftOf l (szD d : Nat) = -1) := by
      show _ = _
      rw [← HQ4.out, HR2.out]
      have := HR2.out
      unfold leftOf at this
      split at this
      · exact this.symm
      · omega
    go_wp2_with fail
    go_ret
    exact ⟨ret_int HE.out.symm, later_trans HT.out l2⟩
  · go_wp2_with fail
    go_ret
    exact ⟨ret_int (by rw [← HQ4.out, HR2.out]), later_trans HT.out l2⟩

set_option maxRecDepth 100000 in
set_option maxHeartbeats 1600000 in
theorem u_toD (v : Value) (d : Dy) (w : World) (hv : rdD w w.heap.size v d) (hs : szD d ≤ 1048576) :
    Calls Tryz.prog 13 #[v] w fun e w' => ∃ v', e = .returned v' ∧ ownD 9 106 w.heap.size w' v' d ∧ Below w.heap.size w w' := by
  obtain ⟨A0, c0, A1, c1, A2, c2, e0⟩ := openD hv
  obtain ⟨w0, hw0⟩ : ∃ w0, w0 = w.alloc (Obj.cells #[.int .i64 d.plan.bins, .int .i64 d.plan.passes, .slice A0 d.plan.order.length c0, .slice A1 d.fwds.length c1, .slice A2 d.held.length c2, .int .i64 d.size] 42) := ⟨_, rfl⟩
  have q0 := box_cells hw0 0 (.int .i64 d.plan.bins) rfl
  have q1 := box_cells hw0 1 (.int .i64 d.plan.passes) rfl
  have q2 := box_cells hw0 2 (.slice A0 d.plan.order.length c0) rfl
  have q3 := box_cells hw0 3 (.slice A1 d.fwds.length c1) rfl
  have q4 := box_cells hw0 4 (.slice A2 d.held.length c2) rfl
  have q5 := box_cells hw0 5 (.int .i64 d.size) rfl
  have HT := Lib.hid (box_later hw0).1
  have hv1 := hv.on HT.out
  subst e0
  obtain ⟨hp, ho, hf, hh, hsz⟩ := partsD hv1
  have HP := Lib.hid hp; have HO := Lib.hid ho; have HF := Lib.hid hf; have HH := Lib.hid hh; have HSZ := Lib.hid hsz
  clear hp ho hf hv hv1 hh hsz
  have HW0 := Lib.hid hw0; clear hw0
  have l0 := Below.refl w0.heap.size w0
  unfold szD at hs
  have HI : Hid (isI64 d.plan.bins ∧ isI64 d.plan.passes) := by
    obtain ⟨vo, _, h2, h3, _⟩ := HP.out
    exact ⟨h2, h3⟩
  have HS1 : Hid (szP d.plan ≤ 1048576 ∧ d.fwds.length ≤ 1048576 ∧ d.held.length ≤ 1048576) := ⟨by omega, by omega, by omega⟩
  clear hs
  go_enter Tryz.func13, Tryz.ntmps13
  go_wp2_with fail
  rw [← HW0.out]
  have hz0 : w0.heap.size = w.heap.size + 1 := by rw [HW0.out]; simp
  obtain ⟨W, hW⟩ : ∃ W, W = (w0.alloc (Obj.cells #[.int .i64 0, .int .i64 0, .slice none 0 0, .slice none 0 0, .slice none 0 0, .int .i64 0] 28)).alloc (Obj.cells #[.int .i64 0, .int .i64 0, .slice none 0 0, .slice none 0 0, .slice none 0 0, .int .i64 0] 28) := ⟨_, rfl⟩
  have z3 : W.heap.size = w0.heap.size + 2 := by subst hW; simp
  have lW : Below w0.heap.size w0 W := by subst hW; exact later_alloc (later_alloc l0 _) _
  have E1 : Hid (W.heap[w.heap.size + 1]? = some (.cells #[.int .i64 0, .int .i64 0, .slice none 0 0, .slice none 0 0, .slice none 0 0, .int .i64 0] 28 (0, 0))) := by
    show _ = _
    rw [← hz0]
    subst hW
    rw [Below.heap_alloc _ _ _ (by simp), heap_alloc_new]
  have E2 : Hid (W.heap[w.heap.size + 1 + 1]? = some (.cells #[.int .i64 0, .int .i64 0, .slice none 0 0, .slice none 0 0, .slice none 0 0, .int .i64 0] 28 (0, 0))) := by
    show _ = _
    rw [← hz0]
    subst hW
    have := heap_alloc_new (w0.alloc (Obj.cells #[.int .i64 0, .int .i64 0, .slice none 0 0, .slice none 0 0, .slice none 0 0, .int .i64 0] 28)) (Obj.cells #[.int .i64 0, .int .i64 0, .slice none 0 0, .slice none 0 0, .slice none 0 0, .int .i64 0] 28)
    simpa using this
  rw [← hW]
  clear hW
  replace z3 : W.heap.size = w.heap.size + 3 := by omega
  have HZ0 := Lib.hid hz0; have HZ3 := Lib.hid z3
  have hz0' : w0.heap.size ≤ w.heap.size + 1 := by omega
  have z3' : w.heap.size + 3 ≤ W.heap.size := by omega
  clear hz0 z3
  refine (u_toP _ d.plan _ (HP.out.on lW) HS1.out.1).mono ?_
  rintro e w1 ⟨v1, rfl, o1, b1⟩
  have l1 := later_trans lW b1
  replace E1 := Lib.hid (blk_below E1.out b1)
  replace E2 := Lib.hid (blk_below E2.out b1)
  obtain ⟨u1, rfl, _, _, o1⟩ := o1
  obtain ⟨A3, n3, c3, rfl, hn3, _⟩ := o1.rd
  subst hn3
  have O1 := Lib.hid o1; clear o1
  have h2O1 : (⟨w.heap.size + 1 + 1, 0, none⟩ : Addr).block < W.heap.size := show w.heap.size + 1 + 1 < W.heap.size by omega
  have hb2 : w0.heap.size ≤ w.heap.size + 1 + 1 := by omega
  have hb1 : w0.heap.size ≤ w.heap.size + 1 := by omega
  have k0 := blk_cell E2.out 0 (.int .i64 0) rfl
  have k1 := blk_cell E2.out 1 (.int .i64 0) rfl
  have k2 := blk_cell E2.out 2 (.slice none 0 0) rfl
  have k3 := blk_cell E2.out 3 (.slice none 0 0) rfl
  have k4 := blk_cell E2.out 4 (.slice none 0 0) rfl
  have k5 := blk_cell E2.out 5 (.int .i64 0) rfl
  have kf := blk_free E2.out
  go_wp2_with fail
  clear k0 k1 k2 k3 k4 k5 kf
  obtain ⟨Wa, hn⟩ : ∃ u, u = (((w1.setCell ⟨w.heap.size + 1 + 1, 0, none⟩ (.int .i64 d.plan.bins)).setCell ⟨w.heap.size + 1 + 1, 1, none⟩ (.int .i64 d.plan.passes)).setCell ⟨w.heap.size + 1 + 1, 2, none⟩ (.slice A3 d.plan.order.length c3)) := ⟨_, rfl⟩
  have lWa : Below w0.heap.size w0 Wa := by subst hn; exact (later_set (later_set (later_set l1 hb2 _) hb2 _) hb2 _)
  replace E2 := Lib.hid (show Wa.heap[w.heap.size + 1 + 1]? = some (.cells #[.int .i64 d.plan.bins, .int .i64 d.plan.passes, .slice A3 d.plan.order.length c3, .slice none 0 0, .slice none 0 0, .int .i64 0] 28 (0, 0)) by subst hn; exact (blk_set (blk_set (blk_set E2.out 0 (.int .i64 d.plan.bins)) 1 (.int .i64 d.plan.passes)) 2 (.slice A3 d.plan.order.length c3)))
  replace E1 := Lib.hid (show Wa.heap[w.heap.size + 1]? = some (.cells #[.int .i64 0, .int .i64 0, .slice none 0 0, .slice none 0 0, .slice none 0 0, .int .i64 0] 28 (0, 0)) by subst hn; exact (blk_other (blk_other (blk_other E1.out ⟨w.heap.size + 1 + 1, 0, none⟩ (show w.heap.size + 1 + 1 ≠ w.heap.size + 1 by omega) (.int .i64 d.plan.bins)) ⟨w.heap.size + 1 + 1, 1, none⟩ (show w.heap.size + 1 + 1 ≠ w.heap.size + 1 by omega) (.int .i64 d.plan.passes)) ⟨w.heap.size + 1 + 1, 2, none⟩ (show w.heap.size + 1 + 1 ≠ w.heap.size + 1 by omega) (.slice A3 d.plan.order.length c3)))
  replace O1 := Lib.hid (show own 9 W.heap.size Wa (.slice A3 d.plan.order.length c3) d.plan.order by subst hn; exact (own_out (own_out (own_out O1.out ⟨w.heap.size + 1 + 1, 0, none⟩ (.int .i64 d.plan.bins) h2O1) ⟨w.heap.size + 1 + 1, 1, none⟩ (.int .i64 d.plan.passes) h2O1) ⟨w.heap.size + 1 + 1, 2, none⟩ (.slice A3 d.plan.order.length c3) h2O1))
  rw [← hn]
  clear hn
  have HBa := Lib.hid (blk_lt E2.out)
  refine (laws_toForwardS _ d.fwds _ (HF.out.on lWa) HS1.out.2.1).mono ?_
  rintro e w2 ⟨v2, rfl, o2, b2⟩
  have l2 := later_trans lWa b2
  obtain ⟨A4, n4, c4, rfl, hn4, _⟩ := o2.rd
  subst hn4
  have O2 := Lib.hid o2; clear o2
  have AP1 := Lib.hid (apart_gt O2.out O1.out (Nat.le_refl _))
  replace O1 := Lib.hid (O1.out.below b2)
  replace E1 := Lib.hid (blk_below E1.out b2)
  replace E2 := Lib.hid (blk_below E2.out b2)
  have h2O2 : (⟨w.heap.size + 1 + 1, 0, none⟩ : Addr).block < Wa.heap.size := HBa.out
  have k0 := blk_cell E2.out 0 (.int .i64 d.plan.bins) rfl
  have k1 := blk_cell E2.out 1 (.int .i64 d.plan.passes) rfl
  have k2 := blk_cell E2.out 2 (.slice A3 d.plan.order.length c3) rfl
  have k3 := blk_cell E2.out 3 (.slice none 0 0) rfl
  have k4 := blk_cell E2.out 4 (.slice none 0 0) rfl
  have k5 := blk_cell E2.out 5 (.int .i64 0) rfl
  have kf := blk_free E2.out
  go_wp2_with fail
  clear k0 k1 k2 k3 k4 k5 kf
  obtain ⟨Wb, hn⟩ : ∃ u, u = (w2.setCell ⟨w.heap.size + 1 + 1, 3, none⟩ (.slice A4 d.fwds.length c4)) := ⟨_, rfl⟩
  have lWb : Below w0.heap.size w0 Wb := by subst hn; exact (later_set l2 hb2 _)
  replace E2 := Lib.hid (show Wb.heap[w.heap.size + 1 + 1]? = some (.cells #[.int .i64 d.plan.bins, .int .i64 d.plan.passes, .slice A3 d.plan.order.length c3, .slice A4 d.fwds.length c4, .slice none 0 0, .int .i64 0] 28 (0, 0)) by subst hn; exact (blk_set E2.out 3 (.slice A4 d.fwds.length c4)))
  replace E1 := Lib.hid (show Wb.heap[w.heap.size + 1]? = some (.cells #[.int .i64 0, .int .i64 0, .slice none 0 0, .slice none 0 0, .slice none 0 0, .int .i64 0] 28 (0, 0)) by subst hn; exact (blk_other E1.out ⟨w.heap.size + 1 + 1, 3, none⟩ (show w.heap.size + 1 + 1 ≠ w.heap.size + 1 by omega) (.slice A4 d.fwds.length c4)))
  replace O1 := Lib.hid (show own 9 W.heap.size Wb (.slice A3 d.plan.order.length c3) d.plan.order by subst hn; exact (own_out O1.out ⟨w.heap.size + 1 + 1, 3, none⟩ (.slice A4 d.fwds.length c4) h2O1))
  replace O2 := Lib.hid (show own 106 Wa.heap.size Wb (.slice A4 d.fwds.length c4) d.fwds by subst hn; exact (own_out O2.out ⟨w.heap.size + 1 + 1, 3, none⟩ (.slice A4 d.fwds.length c4) h2O2))
  rw [← hn]
  clear hn
  refine (laws_toStringS _ d.held _ (HH.out.on lWb) HS1.out.2.2).mono ?_
  have HBb := Lib.hid (blk_lt E2.out)
  rintro e w3 ⟨v3, rfl, o3, b3⟩
  have l3 := later_trans lWb b3
  obtain ⟨A5, n5, c5, rfl, hn5, _⟩ := o3.rd
  subst hn5
  have O3 := Lib.hid o3; clear o3
  have AP2 := Lib.hid (apart_gt O3.out O1.out (Nat.le_refl _))
  have AP3 := Lib.hid (apart_gt O3.out O2.out (Nat.le_refl _))
  replace O1 := Lib.hid (O1.out.below b3)
  replace O2 := Lib.hid (O2.out.below b3)
  replace E1 := Lib.hid (blk_below E1.out b3)
  replace E2 := Lib.hid (blk_below E2.out b3)
  have h2O3 : (⟨w.heap.size + 1 + 1, 0, none⟩ : Addr).block < Wb.heap.size := HBb.out
  have k0 := blk_cell E2.out 0 (.int .i64 d.plan.bins) rfl
  have k1 := blk_cell E2.out 1 (.int .i64 d.plan.passes) rfl
  have k2 := blk_cell E2.out 2 (.slice A3 d.plan.order.length c3) rfl
  have k3 := blk_cell E2.out 3 (.slice A4 d.fwds.length c4) rfl
  have k4 := blk_cell E2.out 4 (.slice none 0 0) rfl
  have k5 := blk_cell E2.out 5 (.int .i64 0) rfl
  have kf := blk_free E2.out
  have j0 := blk_cell E1.out 0 (.int .i64 0) rfl
  have j1 := blk_cell E1.out 1 (.int .i64 0) rfl
  have j2 := blk_cell E1.out 2 (.slice none 0 0) rfl
  have j3 := blk_cell E1.out 3 (.slice none 0 0) rfl
  have j4 := blk_cell E1.out 4 (.slice none 0 0) rfl
  have j5 := blk_cell E1.out 5 (.int .i64 0) rfl
  have jf := blk_free E1.out
  go_wp2_with fail
  have h1O1 : (⟨w.heap.size + 1, 0, none⟩ : Addr).block < W.heap.size := by have h := h2O1; exact Nat.lt_of_le_of_lt (Nat.le_succ _) h
  have FO1 := Lib.hid (own_out (own_out (own_out (own_out (own_out (own_out (own_out (own_out O1.out ⟨w.heap.size + 1 + 1, 4, none⟩ (.slice A5 d.held.length c5) h2O1) ⟨w.heap.size + 1 + 1, 5, none⟩ (.int .i64 d.size) h2O1) ⟨w.heap.size + 1, 0, none⟩ (.int .i64 d.plan.bins) h1O1) ⟨w.heap.size + 1, 1, none⟩ (.int .i64 d.plan.passes) h1O1) ⟨w.heap.size + 1, 2, none⟩ (.slice A3 d.plan.order.length c3) h1O1) ⟨w.heap.size + 1, 3, none⟩ (.slice A4 d.fwds.length c4) h1O1) ⟨w.heap.size + 1, 4, none⟩ (.slice A5 d.held.length c5) h1O1) ⟨w.heap.size + 1, 5, none⟩ (.int .i64 d.size) h1O1)
  have h1O2 : (⟨w.heap.size + 1, 0, none⟩ : Addr).block < Wa.heap.size := by have h := h2O2; exact Nat.lt_of_le_of_lt (Nat.le_succ _) h
  have FO2 := Lib.hid (own_out (own_out (own_out (own_out (own_out (own_out (own_out (own_out O2.out ⟨w.heap.size + 1 + 1, 4, none⟩ (.slice A5 d.held.length c5) h2O2) ⟨w.heap.size + 1 + 1, 5, none⟩ (.int .i64 d.size) h2O2) ⟨w.heap.size + 1, 0, none⟩ (.int .i64 d.plan.bins) h1O2) ⟨w.heap.size + 1, 1, none⟩ (.int .i64 d.plan.passes) h1O2) ⟨w.heap.size + 1, 2, none⟩ (.slice A3 d.plan.order.length c3) h1O2) ⟨w.heap.size + 1, 3, none⟩ (.slice A4 d.fwds.length c4) h1O2) ⟨w.heap.size + 1, 4, none⟩ (.slice A5 d.held.length c5) h1O2) ⟨w.heap.size + 1, 5, none⟩ (.int .i64 d.size) h1O2)
  have h1O3 : (⟨w.heap.size + 1, 0, none⟩ : Addr).block < Wb.heap.size := by have h := h2O3; exact Nat.lt_of_le_of_lt (Nat.le_succ _) h
  have FO3 := Lib.hid (own_out (own_out (own_out (own_out (own_out (own_out (own_out (own_out O3.out ⟨w.heap.size + 1 + 1, 4, none⟩ (.slice A5 d.held.length c5) h2O3) ⟨w.heap.size + 1 + 1, 5, none⟩ (.int .i64 d.size) h2O3) ⟨w.heap.size + 1, 0, none⟩ (.int .i64 d.plan.bins) h1O3) ⟨w.heap.size + 1, 1, none⟩ (.int .i64 d.plan.passes) h1O3) ⟨w.heap.size + 1, 2, none⟩ (.slice A3 d.plan.order.length c3) h1O3) ⟨w.heap.size + 1, 3, none⟩ (.slice A4 d.fwds.length c4) h1O3) ⟨w.heap.size + 1, 4, none⟩ (.slice A5 d.held.length c5) h1O3) ⟨w.heap.size + 1, 5, none⟩ (.int .i64 d.size) h1O3)
  have HL3 := Lib.hid l3
  have FL := Lib.hid (later_set (later_set (later_set (later_set (later_set (later_set (later_set (later_set l3 (p := ⟨w.heap.size + 1 + 1, 4, none⟩) hb2 (.slice A5 d.held.length c5)) (p := ⟨w.heap.size + 1 + 1, 5, none⟩) hb2 (.int .i64 d.size)) (p := ⟨w.heap.size + 1, 0, none⟩) hb1 (.int .i64 d.plan.bins)) (p := ⟨w.heap.size + 1, 1, none⟩) hb1 (.int .i64 d.plan.passes)) (p := ⟨w.heap.size + 1, 2, none⟩) hb1 (.slice A3 d.plan.order.length c3)) (p := ⟨w.heap.size + 1, 3, none⟩) hb1 (.slice A4 d.fwds.length c4)) (p := ⟨w.heap.size + 1, 4, none⟩) hb1 (.slice A5 d.held.length c5)) (p := ⟨w.heap.size + 1, 5, none⟩) hb1 (.int .i64 d.size))
  have HB1 := Lib.hid (show w.heap.size ≤ W.heap.size by omega)
  have HB2 := Lib.hid (show w.heap.size ≤ Wa.heap.size by have h : _ < _ := h2O2; have h' : w.heap.size + 1 + 1 < Wa.heap.size := h; omega)
  have HB3 := Lib.hid (show w.heap.size ≤ Wb.heap.size by have h' : w.heap.size + 1 + 1 < Wb.heap.size := h2O3; omega)
  refine bodyPost_ret (v := .agg #[.int .i64 d.plan.bins, .int .i64 d.plan.passes, .slice A3 d.plan.order.length c3, .slice A4 d.fwds.length c4, .slice A5 d.held.length c5, .int .i64 d.size]) (by simp [results, Tryz.results13, go_sem, j0, j1, j2, j3, j4, j5]) rfl ⟨_, rfl, ⟨_, _, _, rfl, HI.out.1, HI.out.2, HSZ.out, FO1.out.base_ HB1.out, FO2.out.base_ HB2.out, FO3.out.base_ HB3.out, apart_symm AP1.out, apart_symm AP2.out, apart_symm AP3.out⟩, ?_⟩
  exact later_trans HT.out FL.out

set_option maxHeartbeats 800000 in
theorem u_eqD (v v' : Value) (d : Dy) (w : World) (hv : rdD w w.heap.size v d) (hv' : rdD w w.heap.size v' d) :
    Calls Tryz.prog 16 #[v, v'] w fun e w' => e = .returned (.bool true) ∧ Below w.heap.size w w' := by
  obtain ⟨A0, c0, A1, c1, A2, c2, e0⟩ := openD hv
  obtain ⟨B0, d0, B1, d1, B2, d2, f0⟩ := openD hv'
  obtain ⟨wa, hwa⟩ : ∃ u, u = w.alloc (Obj.cells #[.int .i64 d.plan.bins, .int .i64 d.plan.passes, .slice A0 d.plan.order.length c0, .slice A1 d.fwds.length c1, .slice A2 d.held.length c2, .int .i64 d.size] 28) := ⟨_, rfl⟩
  obtain ⟨w0, hw0⟩ : ∃ w0, w0 = wa.alloc (Obj.cells #[.int .i64 d.plan.bins, .int .i64 d.plan.passes, .slice B0 d.plan.order.length d0, .slice B1 d.fwds.length d1, .slice B2 d.held.length d2, .int .i64 d.size] 28) := ⟨_, rfl⟩
  have la := (box_later hw0).1
  have q0 := fun W h => box_cells hwa 0 (.int .i64 d.plan.bins) rfl W (later_trans la h)
  have q1 := fun W h => box_cells hwa 1 (.int .i64 d.plan.passes) rfl W (later_trans la h)
  have q2 := fun W h => box_cells hwa 2 (.slice A0 d.plan.order.length c0) rfl W (later_trans la h)
  have q3 := fun W h => box_cells hwa 3 (.slice A1 d.fwds.length c1) rfl W (later_trans la h)
  have q4 := fun W h => box_cells hwa 4 (.slice A2 d.held.length c2) rfl W (later_trans la h)
  have q5 := fun W h => box_cells hwa 5 (.int .i64 d.size) rfl W (later_trans la h)
  have y0 := box_cells hw0 0 (.int .i64 d.plan.bins) rfl
  have y1 := box_cells hw0 1 (.int .i64 d.plan.passes) rfl
  have y2 := box_cells hw0 2 (.slice B0 d.plan.order.length d0) rfl
  have y3 := box_cells hw0 3 (.slice B1 d.fwds.length d1) rfl
  have y4 := box_cells hw0 4 (.slice B2 d.held.length d2) rfl
  have y5 := box_cells hw0 5 (.int .i64 d.size) rfl
  have HT := Lib.hid (later_trans (box_later hwa).1 la)
  have hv1 := hv.on HT.out
  have hv1' := hv'.on HT.out
  subst e0 f0
  obtain ⟨hp, ho, hf, hh, hsz⟩ := partsD hv1
  obtain ⟨hp', ho', hf', hh', hsz'⟩ := partsD hv1'
  have HP := Lib.hid hp; have HF := Lib.hid hf; have HH := Lib.hid hh
  have HP' := Lib.hid hp'; have HF' := Lib.hid hf'; have HH' := Lib.hid hh'
  clear hp ho hf hv hv1 hh hsz hp' ho' hf' hv' hv1' hh' hsz' la
  have HWA := Lib.hid hwa; clear hwa
  have HW0 := Lib.hid hw0; clear hw0
  have l0 := Below.refl w0.heap.size w0
  have hq1 : eqBy fwdEq d.fwds d.fwds = true := (eqBy_iff fwdEq_iff).2 rfl
  have hq2 : eqBy sEq d.held d.held = true := (eqBy_iff fun _ _ => sEq_iff).2 rfl
  have HQ1 := Lib.hid hq1; clear hq1
  have HQ2 := Lib.hid hq2; clear hq2
  have g1 : (d.size != d.size) = false := by simp
  have hza : wa.heap.size = w.heap.size + 1 := by rw [HWA.out]; simp
  rw [hza] at y0 y1 y2 y3 y4 y5
  clear hza
  go_enter Tryz.func16, Tryz.ntmps16
  go_wp2_with fail
  rw [← HWA.out, ← HW0.out]
  refine (u_eqP _ _ d.plan _ HP.out HP'.out).mono ?_
  rintro e w1 ⟨rfl, b1⟩
  have l1 := later_trans l0 b1
  go_wp2_with fail
  refine (laws_eqForwardS _ _ d.fwds d.fwds _ (HF.out.on l1) (HF'.out.on l1)).mono ?_
  rw [HQ1.out]
  rintro e w2 ⟨rfl, b2⟩
  have l2 := later_trans l1 b2
  go_wp2_with fail
  refine (laws_eqStringS _ _ d.held d.held _ (HH.out.on l2) (HH'.out.on l2)).mono ?_
  rw [HQ2.out]
  rintro e w3 ⟨rfl, b3⟩
  have l3 := later_trans l2 b3
  go_wp2
  all_goals first | (go_quiet (fail); go_wp2; go_ret; exact ⟨rfl, later_trans HT.out (below_drewN l3 _)⟩) | (go_ret; exact ⟨rfl, later_trans HT.out l3⟩)

end Go.Proofs.YtffbcfaahegglaaGreatDoor

namespace Go.Proofs.YtffbcfaahegglaaGreatDoor
open Go.RowKit

set_option maxRecDepth 100000 in
set_option maxHeartbeats 1600000 in
theorem u_eqR (v v' : Value) (r : Rpt) (w : World) (hv : rdR w w.heap.size v r) (hv' : rdR w w.heap.size v' r) :
    Calls Tryz.prog 18 #[v, v'] w fun e w' => e = .returned (.bool true) ∧ Below w.heap.size w w' := by
  obtain ⟨A0, a0, A1, a1, A2, a2, A3, a3, e0⟩ := openR hv
  obtain ⟨B0, b0, B1, b1, B2, b2, B3, b3, e1⟩ := openR hv'
  obtain ⟨wa, hwa⟩ : ∃ wa, wa = w.alloc (Obj.cells #[.slice A0 r.round.length a0, .slice A1 r.strange.length a1, .slice A2 r.held.length a2, .slice A3 r.stuck.length a3] 31) := ⟨_, rfl⟩
  obtain ⟨wb, hwb⟩ : ∃ wb, wb = wa.alloc (Obj.cells #[.slice B0 r.round.length b0, .slice B1 r.strange.length b1, .slice B2 r.held.length b2, .slice B3 r.stuck.length b3] 31) := ⟨_, rfl⟩
  have q0 := fun W h => box_cells hwa 0 (.slice A0 r.round.length a0) rfl W (later_trans (box_later hwb).1 h)
  have q1 := fun W h => box_cells hwa 1 (.slice A1 r.strange.length a1) rfl W (later_trans (box_later hwb).1 h)
  have q2 := fun W h => box_cells hwa 2 (.slice A2 r.held.length a2) rfl W (later_trans (box_later hwb).1 h)
  have q3 := fun W h => box_cells hwa 3 (.slice A3 r.stuck.length a3) rfl W (later_trans (box_later hwb).1 h)
  have r0 := box_cells hwb 0 (.slice B0 r.round.length b0) rfl
  have r1 := box_cells hwb 1 (.slice B1 r.strange.length b1) rfl
  have r2 := box_cells hwb 2 (.slice B2 r.held.length b2) rfl
  have r3 := box_cells hwb 3 (.slice B3 r.stuck.length b3) rfl
  have HT := Lib.hid (later_trans (box_later hwa).1 (box_later hwb).1)
  have h1 := hv.on HT.out
  have h2 := hv'.on HT.out
  subst e0 e1
  obtain ⟨p0, p1, p2, p3⟩ := partsR h1
  obtain ⟨s0, s1, s2, s3⟩ := partsR h2
  have P0 := Lib.hid p0; have P1 := Lib.hid p1; have P2 := Lib.hid p2; have P3 := Lib.hid p3
  have S0 := Lib.hid s0; have S1 := Lib.hid s1; have S2 := Lib.hid s2; have S3 := Lib.hid s3
  have hza : wa.heap.size = w.heap.size + 1 := by subst hwa; simp
  rw [hza] at r0 r1 r2 r3
  clear hv hv' h1 h2 p0 p1 p2 p3 s0 s1 s2 s3 hza
  have HWA := Lib.hid hwa; have HWB := Lib.hid hwb
  clear hwa hwb
  have l0 := Below.refl wb.heap.size wb
  go_enter Tryz.func18, Tryz.ntmps18
  go_wp2_with fail
  rw [← HWA.out, ← HWB.out]
  refine (u_eqL _ _ r.round _ P0.out S0.out).mono ?_
  rintro e w1 ⟨rfl, c1⟩
  have l1 := later_trans l0 c1
  go_wp2_with fail
  refine (u_eqL _ _ r.strange _ (P1.out.on l1) (S1.out.on l1)).mono ?_
  rintro e w2 ⟨rfl, c2⟩
  have l2 := later_trans l1 c2
  go_wp2_with fail
  refine (u_eqL _ _ r.held _ (P2.out.on l2) (S2.out.on l2)).mono ?_
  rintro e w3 ⟨rfl, c3⟩
  have l3 := later_trans l2 c3
  go_wp2_with fail
  refine (u_eqL _ _ r.stuck _ (P3.out.on l3) (S3.out.on l3)).mono ?_
  rintro e w4 ⟨rfl, c4⟩
  have l4 := later_trans l3 c4
  go_wp2_with fail
  go_ret
  exact ⟨rfl, later_trans HT.out l4⟩

def rptN (r : Rpt) : Nat := 2 * r.round.length + 2 * r.strange.length + 2 * r.held.length + 2 * r.stuck.length
def marksR (k : Nat) (r : Rpt) : Rpt :=
  ⟨marksL k r.round.length, marksL (k + 2 * r.round.length) r.strange.length, marksL (k + 2 * r.round.length + 2 * r.strange.length) r.held.length, marksL (k + 2 * r.round.length + 2 * r.strange.length + 2 * r.held.length) r.stuck.length⟩
def rpt60 (r : Rpt) : Prop := r.round.length ≤ 60 ∧ r.strange.length ≤ 60 ∧ r.held.length ≤ 60 ∧ r.stuck.length ≤ 60
theorem seg.grown {α : Type} [Flat α] {T lo hi : Nat} {w w' : World} {v : Value} {xs : List α} {row : Option Nat} (h : seg T lo hi w v xs) (hg : w.grownBy w' row) (hv : v.ownBlock = none ∨ v.ownBlock ≠ row) : seg T lo hi w' v xs := ⟨h.1.grown hg hv, h.2⟩


/-! ### Marks of a day -/
def segD (T1 T2 lo hi : Nat) (w : World) (v : Value) (d : Dy) : Prop :=
  ∃ vo vf vh, v = .agg #[.int .i64 d.plan.bins, .int .i64 d.plan.passes, vo, vf, vh, .int .i64 d.size] ∧ isI64 d.plan.bins ∧ isI64 d.plan.passes ∧ isI64 d.size ∧ seg T1 lo hi w vo d.plan.order ∧ seg T2 lo hi w vf d.fwds ∧ seg T1 lo hi w vh d.held ∧ (apart vo vf ∧ apart vo vh ∧ apart vf vh)
theorem segD.of {T1 T2 lo : Nat} {w : World} {v : Value} {d : Dy} (h : ownD T1 T2 lo w v d) : segD T1 T2 lo w.heap.size w v d := by
  obtain ⟨vo, vf, vh, h1, h2, h3, h4, h5, h6, h7, h8⟩ := h
  exact ⟨vo, vf, vh, h1, h2, h3, h4, seg.of h5, seg.of h6, seg.of h7, h8⟩
theorem segD.below {T1 T2 lo hi : Nat} {w w' : World} {v : Value} {d : Dy} (h : segD T1 T2 lo hi w v d) (hb : Below w.heap.size w w') : segD T1 T2 lo hi w' v d := by
  obtain ⟨vo, vf, vh, h1, h2, h3, h4, h5, h6, h7, h8⟩ := h
  exact ⟨vo, vf, vh, h1, h2, h3, h4, h5.below hb, h6.below hb, h7.below hb, h8⟩
theorem segD.out {T1 T2 lo hi a b : Nat} {w w' : World} {v : Value} {d : Dy} (h : segD T1 T2 lo hi w v d) (ho : OutI a b w w') (hd : hi ≤ a ∨ b ≤ lo) : segD T1 T2 lo hi w' v d := by
  obtain ⟨vo, vf, vh, h1, h2, h3, h4, h5, h6, h7, h8⟩ := h
  exact ⟨vo, vf, vh, h1, h2, h3, h4, h5.out ho hd, h6.out ho hd, h7.out ho hd, h8⟩
theorem segD.rd {T1 T2 lo hi : Nat} {w : World} {v : Value} {d : Dy} (h : segD T1 T2 lo hi w v d) : rdD w w.heap.size v d := by
  obtain ⟨vo, vf, vh, h1, h2, h3, h4, h5, h6, h7, h8⟩ := h
  exact ⟨vo, vf, vh, h1, h2, h3, h4, h5.rd, h6.rd, h7.rd⟩
def mkD (d : Dy) : Nat := d.plan.order.length + 2 * d.fwds.length + d.held.length
theorem mkD_le (d : Dy) : mkD d ≤ 2 * szD d := by unfold mkD szD szP; omega


end Go.Proofs.YtffbcfaahegglaaGreatDoor
