/- F4 -/
import Derived.Test.YtnlljekijlkigaaQ19
namespace Go.Proofs.Ytnlljekijlkigaa
open Go.RowKit

set_option maxRecDepth 100000 in
set_option maxHeartbeats 1600000 in
theorem impl_FateOf (v : Value) (d : Dy) (s : ByteArray) (w : World) (hv : rdD w w.heap.size v d) (hs : s.size ≤ maxLen) :
    Calls Try.prog 25 #[v, .string s] w fun e w' => e = .returned (.tuple #[.string (fate d s).1, .string (fate d s).2]) ∧ Below w.heap.size w w' := by
  obtain ⟨A0, c0, A1, c1, A2, c2, e0⟩ := openD hv
  obtain ⟨w0, hw0⟩ : ∃ w0, w0 = w.alloc (Obj.cells #[.int .i64 d.plan.bins, .int .i64 d.plan.passes, .slice A0 d.plan.order.length c0, .slice A1 d.fwds.length c1, .slice A2 d.held.length c2, .int .i64 d.size] 28) := ⟨_, rfl⟩
  have q0 := box_cells hw0 0 (.int .i64 d.plan.bins) rfl
  have q1 := box_cells hw0 1 (.int .i64 d.plan.passes) rfl
  have q2 := box_cells hw0 2 (.slice A0 d.plan.order.length c0) rfl
  have q3 := box_cells hw0 3 (.slice A1 d.fwds.length c1) rfl
  have q4 := box_cells hw0 4 (.slice A2 d.held.length c2) rfl
  have q5 := box_cells hw0 5 (.int .i64 d.size) rfl
  have HT := Lib.hid (box_later hw0).1
  have hv1 := hv.on HT.out
  subst e0
  have HD := Lib.hid hv1
  obtain ⟨hp, ho, hf, hh, _⟩ := partsD hv1
  have HP := Lib.hid hp; have HO := Lib.hid ho; have HF := Lib.hid hf; have HH := Lib.hid hh
  obtain ⟨A, n, c, e1, e2, e3, e4, hrr⟩ := hh
  injection e1 with e1 e1' e1''
  subst e1 e1' e1''
  have HR := Lib.hid hrr
  clear hp ho hf hv hv1 hrr e2
  have HW0 := Lib.hid hw0; clear hw0
  have l0 := Below.refl w0.heap.size w0
  unfold maxLen at e4
  have HQ : Hid (fate d s = if dayOk d && isCode s then
    (if (follow d.fwds s).2.2 = true then
      if 0 ≤ rkI d.held (follow d.fwds s).1 then ((follow d.fwds s).1, fateW 2)
      else if 0 ≤ rkI d.plan.order (follow d.fwds s).1 then ((follow d.fwds s).1, fateW 3)
      else ((follow d.fwds s).1, fateW 4)
    else (s, fateW 1)) else (⟨#[]⟩, ⟨#[]⟩)) := rfl
  go_enter Try.func25, Try.ntmps25
  go_wp2_with fail
  rw [← HW0.out]
  refine (impl_DayValid _ d _ HD.out).mono ?_
  rintro e w1 ⟨rfl, b1⟩
  have l1 := later_trans l0 b1
  cases h1 : dayOk d
  · have H1 := Lib.hid h1; clear h1
    go_wp2_with fail
    go_ret2
    exact ⟨ret_tup (by rw [HQ.out, H1.out] <;> rfl), later_trans HT.out l1⟩
  have hfw : fwdsOk d.fwds = true ∧ planOk d.plan = true := by
    unfold dayOk at h1
    simp only [Bool.and_eq_true] at h1
    exact ⟨h1.1.1.2, h1.1.1.1⟩
  have HFW := Lib.hid hfw; clear hfw
  have H1 := Lib.hid h1; clear h1
  go_wp2_with fail
  refine (impl_CodeValid s _ hs).mono ?_
  rintro e w2 ⟨rfl, rfl⟩
  cases h2 : isCode s
  · have H2 := Lib.hid h2; clear h2
    go_wp2_with fail
    go_ret2
    exact ⟨ret_tup (by rw [HQ.out, H1.out, H2.out] <;> rfl), later_trans HT.out l1⟩
  have H2 := Lib.hid h2; clear h2
  have HFO : Hid (resolve d.fwds s = follow d.fwds s) := by show _ = _; unfold resolve; rw [H2.out, HFW.out.1]; rfl
  obtain ⟨to, cnt, ok, HTO⟩ : ∃ to cnt ok, Hid (follow d.fwds s = (to, cnt, ok)) := ⟨_, _, _, rfl⟩
  go_wp2_with fail
  refine (impl_ResolveCode _ d.fwds s _ (HF.out.on l1) hs).mono ?_
  rw [HFO.out, HTO.out]
  rintro e w2 ⟨rfl, b2⟩
  have l2 := later_trans l1 b2
  clear l1 b1 b2
  cases ok
  · go_wp2_with fail
    go_ret2
    exact ⟨ret_tup (by rw [HQ.out, H1.out, H2.out, HTO.out] <;> rfl), later_trans HT.out l2⟩
  have HQ2 : Hid (fate d s = if 0 ≤ rkI d.held to then (to, fateW 2) else if 0 ≤ rkI d.plan.order to then (to, fateW 3) else (to, fateW 4)) := by
    show _ = _
    rw [HQ.out, H1.out, H2.out, HTO.out]; rfl
  go_wp2_with fail
  go_loop [33] (fun i => ∃ k : Nat, k ≤ d.held.length ∧ i = .int .i64 k ∧ Hid (∀ j (h : j < d.held.length), j < k → sEq d.held[j] to = false)) (fun i => d.held.length - (intOf i).toNat)
  case atStart => exact ⟨0, Nat.zero_le _, rfl, fun j _ hj => absurd hj (Nat.not_lt_zero j)⟩
  case round =>
    obtain ⟨k, hk, rfl, HG⟩ := hrel
    by_cases hlt : k < d.held.length
    · obtain ⟨b, o, rfl, hb, hok, x1⟩ := HR.out.strU k hlt
      have HX : Hid (∀ h : sEq d.held[k] to = false, ∀ j (h1 : j < d.held.length), j < k + 1 → sEq d.held[j] to = false) := fun h j h1 hj => by
        by_cases hjk : j < k
        · exact HG.out j h1 hjk
        · obtain rfl : j = k := by omega
          exact h
      have HY : Hid (∀ h : sEq d.held[k] to = true, 0 ≤ rkI d.held to) := fun h => by
        have e := rk_eq hlt (fun j hj => HG.out j (by omega) hj) h
        rw [rkI_pos (by omega)]
        omega
      generalize d.held[k] = x at *
      cases he : sEq x to
      · have he' := Lib.hid he
        have hq : (x.toList == to.toList) = false := he
        clear he
        go_wp2_with fail
        go_round
        case rel => exact ⟨k + 1, by omega, by go_num, HX.out he'.out⟩
        case measure => simp [intOf]; omega
      · have he' := Lib.hid he
        have hq : (x.toList == to.toList) = true := he
        clear he
        go_wp2_with fail
        go_ret2
        exact ⟨ret_tup (by rw [HQ2.out, if_pos (HY.out he'.out)] <;> rfl), later_trans HT.out l2⟩
    · have HE : Hid (rkI d.held to = -1) := by
        have e := rk_none (cs := d.held) (c := to) (fun j hj => HG.out j hj (by omega))
        exact rkI_neg (by omega)
      have HRI : Hid (rankI d.plan to = rkI d.plan.order to) := by show _ = _; unfold rankI; rw [HFW.out.2]; rfl
      obtain ⟨r, HRR⟩ : ∃ r, Hid (rkI d.plan.order to = r) := ⟨_, rfl⟩
      go_wp2_with fail
      refine (impl_PlanRank _ d.plan to _ (HP.out.on l2)).mono ?_
      rw [HRI.out, HRR.out]
      rintro e w3 ⟨rfl, b3⟩
      have l3 := later_trans l2 b3
      by_cases hr : 0 ≤ r
      · go_wp2_with fail
        go_ret2
        exact ⟨ret_tup (by rw [HQ2.out, HE.out, HRR.out, if_neg (by omega), if_pos hr] <;> rfl), later_trans HT.out l3⟩
      · go_wp2_with fail
        go_ret2
        exact ⟨ret_tup (by rw [HQ2.out, HE.out, HRR.out, if_neg (by omega), if_neg (by omega)] <;> rfl), later_trans HT.out l3⟩

set_option maxRecDepth 100000 in
set_option maxHeartbeats 1600000 in
theorem spec_FateOf (v : Value) (d : Dy) (s : ByteArray) (w : World) (hv : rdD w w.heap.size v d) (hs : s.size ≤ maxLen) :
    Calls Try.prog 36 #[v, .string s] w fun e w' => e = .returned (.tuple #[.string (fate d s).1, .string (fate d s).2]) ∧ Below w.heap.size w w' := by
  obtain ⟨A0, c0, A1, c1, A2, c2, e0⟩ := openD hv
  obtain ⟨w0, hw0⟩ : ∃ w0, w0 = w.alloc (Obj.cells #[.int .i64 d.plan.bins, .int .i64 d.plan.passes, .slice A0 d.plan.order.length c0, .slice A1 d.fwds.length c1, .slice A2 d.held.length c2, .int .i64 d.size] 28) := ⟨_, rfl⟩
  have q0 := box_cells hw0 0 (.int .i64 d.plan.bins) rfl
  have q1 := box_cells hw0 1 (.int .i64 d.plan.passes) rfl
  have q2 := box_cells hw0 2 (.slice A0 d.plan.order.length c0) rfl
  have q3 := box_cells hw0 3 (.slice A1 d.fwds.length c1) rfl
  have q4 := box_cells hw0 4 (.slice A2 d.held.length c2) rfl
  have q5 := box_cells hw0 5 (.int .i64 d.size) rfl
  have HT := Lib.hid (box_later hw0).1
  have hv1 := hv.on HT.out
  subst e0
  have HD := Lib.hid hv1
  obtain ⟨hp, ho, hf, hh, _⟩ := partsD hv1
  have HP := Lib.hid hp; have HO := Lib.hid ho; have HF := Lib.hid hf; have HH := Lib.hid hh
  obtain ⟨A, n, c, e1, e2, e3, e4, hrr⟩ := hh
  injection e1 with e1 e1' e1''
  subst e1 e1' e1''
  have HR := Lib.hid hrr
  clear hp ho hf hv hv1 hrr e2
  have HW0 := Lib.hid hw0; clear hw0
  have l0 := Below.refl w0.heap.size w0
  unfold maxLen at e4
  have HQ : Hid (fate d s = if dayOk d && isCode s then
    (if (follow d.fwds s).2.2 = true then
      if 0 ≤ rkI d.held (follow d.fwds s).1 then ((follow d.fwds s).1, fateW 2)
      else if 0 ≤ rkI d.plan.order (follow d.fwds s).1 then ((follow d.fwds s).1, fateW 3)
      else ((follow d.fwds s).1, fateW 4)
    else (s, fateW 1)) else (⟨#[]⟩, ⟨#[]⟩)) := rfl
  go_enter Try.func36, Try.ntmps36
  go_wp2_with fail
  rw [← HW0.out]
  refine (spec_DayValid _ d _ HD.out).mono ?_
  rintro e w1 ⟨rfl, b1⟩
  have l1 := later_trans l0 b1
  cases h1 : dayOk d
  · have H1 := Lib.hid h1; clear h1
    go_wp2_with fail
    go_ret2
    exact ⟨ret_tup (by rw [HQ.out, H1.out] <;> rfl), later_trans HT.out l1⟩
  have hfw : fwdsOk d.fwds = true := by
    unfold dayOk at h1
    simp only [Bool.and_eq_true] at h1
    exact h1.1.1.2
  have hfl := (fwdsOk_iff.1 hfw).1
  clear hfw
  have H1 := Lib.hid h1; clear h1
  go_wp2_with fail
  refine (spec_CodeValid s _ hs).mono ?_
  rintro e w2 ⟨rfl, rfl⟩
  cases h2 : isCode s
  · have H2 := Lib.hid h2; clear h2
    go_wp2_with fail
    go_ret2
    exact ⟨ret_tup (by rw [HQ.out, H1.out, H2.out] <;> rfl), later_trans HT.out l1⟩
  have H2 := Lib.hid h2; clear h2
  obtain ⟨to, cnt, ok, HTO⟩ : ∃ to cnt ok, Hid (follow d.fwds s = (to, cnt, ok)) := ⟨_, _, _, rfl⟩
  go_wp2_with fail
  refine (spec_l4Resolve _ d.fwds s _ (HF.out.on l1) hs (by omega)).mono ?_
  rw [HTO.out]
  rintro e w2 ⟨rfl, b2⟩
  have l2 := later_trans l1 b2
  clear l1 b1 b2
  cases ok
  · go_wp2_with fail
    go_ret2
    exact ⟨ret_tup (by rw [HQ.out, H1.out, H2.out, HTO.out] <;> rfl), later_trans HT.out l2⟩
  have HQ2 : Hid (fate d s = if 0 ≤ rkI d.held to then (to, fateW 2) else if 0 ≤ rkI d.plan.order to then (to, fateW 3) else (to, fateW 4)) := by
    show _ = _
    rw [HQ.out, H1.out, H2.out, HTO.out]; rfl
  obtain ⟨r, HRR⟩ : ∃ r, Hid (rkI d.held to = r) := ⟨_, rfl⟩
  obtain ⟨r', HRR'⟩ : ∃ r, Hid (rkI d.plan.order to = r) := ⟨_, rfl⟩
  go_wp2_with fail
  refine (spec_l3Rank _ d.held to _ (HH.out.on l2)).mono ?_
  rw [HRR.out]
  rintro e w3 ⟨rfl, rfl⟩
  by_cases hr : 0 ≤ r
  · go_wp2_with fail
    go_ret2
    exact ⟨ret_tup (by rw [HQ2.out, HRR.out, if_pos hr] <;> rfl), later_trans HT.out l2⟩
  go_wp2_with fail
  refine (spec_l3Rank _ d.plan.order to _ (HO.out.on l2)).mono ?_
  rw [HRR'.out]
  rintro e w3 ⟨rfl, rfl⟩
  by_cases hr' : 0 ≤ r'
  · go_wp2_with fail
    go_ret2
    exact ⟨ret_tup (by rw [HQ2.out, HRR.out, HRR'.out, if_neg (by omega), if_pos hr'] <;> rfl), later_trans HT.out l2⟩
  · go_wp2_with fail
    go_ret2
    exact ⟨ret_tup (by rw [HQ2.out, HRR.out, HRR'.out, if_neg (by omega), if_neg (by omega)] <;> rfl), later_trans HT.out l2⟩

end Go.Proofs.Ytnlljekijlkigaa
