/- DayValid, PlanRank, FateOf of both texts. -/
import Derived.Test.YtlmbegajocmnpaaF2
import Derived.Test.YtlmbegajocmnpaaK5
namespace Go.Proofs.Ytlmbegajocmnpaa
open Go.RowKit

set_option maxHeartbeats 800000 in
theorem impl_DayValid (v : Value) (d : Dy) (w : World) (hv : rdD w w.heap.size v d) :
    Calls Try.prog 35 #[v] w fun e w' => e = .returned (.bool (dayOk d)) ∧ Below w.heap.size w w' := by
  obtain ⟨A0, c0, A1, c1, A2, c2, e0⟩ := openD hv
  obtain ⟨w0, hw0⟩ : ∃ w0, w0 = w.alloc (Obj.cells #[.int .i64 d.plan.bins, .int .i64 d.plan.passes, .slice A0 d.plan.order.length c0, .slice A1 d.fwds.length c1, .slice A2 d.held.length c2, .int .i64 d.size] 57) := ⟨_, rfl⟩
  have q0 := box_cells hw0 0 (.int .i64 d.plan.bins) rfl
  have q1 := box_cells hw0 1 (.int .i64 d.plan.passes) rfl
  have q2 := box_cells hw0 2 (.slice A0 d.plan.order.length c0) rfl
  have q3 := box_cells hw0 3 (.slice A1 d.fwds.length c1) rfl
  have q4 := box_cells hw0 4 (.slice A2 d.held.length c2) rfl
  have q5 := box_cells hw0 5 (.int .i64 d.size) rfl
  have HT := Lib.hid (box_later hw0).1
  have hv1 := hv.on HT.out
  subst e0
  obtain ⟨hp, ho, hf, hh, _⟩ := partsD hv1
  have HP := Lib.hid hp; have HF := Lib.hid hf; have HH := Lib.hid hh
  clear hp ho hf hh hv hv1
  have HW0 := Lib.hid hw0; clear hw0
  have l0 := Below.refl w0.heap.size w0
  have HQ : Hid (dayOk d = (planOk d.plan && fwdsOk d.fwds && heldOk d.held && sizeOk d.size)) := rfl
  go_enter Try.func35, Try.ntmps35
  go_wp2_with fail
  rw [← HW0.out]
  refine (impl_PlanValid _ d.plan _ HP.out).mono ?_
  rintro e w1 ⟨rfl, b1⟩
  have l1 := later_trans l0 b1
  cases h1 : planOk d.plan
  · have H1 := Lib.hid h1; clear h1
    go_wp2_with fail
    go_ret
    exact ⟨ret_bool (by rw [HQ.out, H1.out]; rfl), later_trans HT.out l1⟩
  have H1 := Lib.hid h1; clear h1
  go_wp2_with fail
  refine (impl_ForwardsValid _ d.fwds _ (HF.out.on l1)).mono ?_
  rintro e w2 ⟨rfl, b2⟩
  have l2 := later_trans l1 b2
  cases h2 : fwdsOk d.fwds
  · have H2 := Lib.hid h2; clear h2
    go_wp2_with fail
    go_ret
    exact ⟨ret_bool (by rw [HQ.out, H1.out, H2.out]; rfl), later_trans HT.out l2⟩
  have H2 := Lib.hid h2; clear h2
  go_wp2_with fail
  refine (impl_heldValid _ d.held _ (HH.out.on l2)).mono ?_
  rintro e w3 ⟨rfl, rfl⟩
  cases h3 : heldOk d.held
  · have H3 := Lib.hid h3; clear h3
    go_wp2_with fail
    go_ret
    exact ⟨ret_bool (by rw [HQ.out, H1.out, H2.out, H3.out]; rfl), later_trans HT.out l2⟩
  have H3 := Lib.hid h3; clear h3
  go_wp2_with fail
  refine (impl_sizeValid d.size _).mono ?_
  rintro e w3 ⟨rfl, rfl⟩
  obtain ⟨r, HRR⟩ : ∃ r, Hid (sizeOk d.size = r) := ⟨_, rfl⟩
  rw [HRR.out]
  go_wp2_with fail
  go_ret
  exact ⟨ret_bool (by rw [HQ.out, H1.out, H2.out, H3.out, HRR.out]; rfl), later_trans HT.out l2⟩

theorem heldOk_bad {xs : List ByteArray} {k : Nat} (hk : k < xs.length) (h : isCode xs[k] = false) : heldOk xs = false := by
  unfold heldOk
  rw [Bool.and_eq_false_iff]
  exact .inr (List.all_eq_false.2 ⟨xs[k], List.getElem_mem _, by simp [h]⟩)
theorem heldOk_all {xs : List ByteArray} (h : ∀ j (hj : j < xs.length), isCode xs[j] = true) : heldOk xs = decide (xs.length ≤ 30) := by
  unfold heldOk
  rw [List.all_eq_true.2 fun x hx => by
    obtain ⟨j, hj, rfl⟩ := List.getElem_of_mem hx
    exact h j hj, Bool.and_true]

set_option maxHeartbeats 800000 in
theorem spec_DayValid (v : Value) (d : Dy) (w : World) (hv : rdD w w.heap.size v d) :
    Calls Try.prog 33 #[v] w fun e w' => e = .returned (.bool (dayOk d)) ∧ Below w.heap.size w w' := by
  obtain ⟨A0, c0, A1, c1, A2, c2, e0⟩ := openD hv
  obtain ⟨w0, hw0⟩ : ∃ w0, w0 = w.alloc (Obj.cells #[.int .i64 d.plan.bins, .int .i64 d.plan.passes, .slice A0 d.plan.order.length c0, .slice A1 d.fwds.length c1, .slice A2 d.held.length c2, .int .i64 d.size] 57) := ⟨_, rfl⟩
  have q0 := box_cells hw0 0 (.int .i64 d.plan.bins) rfl
  have q1 := box_cells hw0 1 (.int .i64 d.plan.passes) rfl
  have q2 := box_cells hw0 2 (.slice A0 d.plan.order.length c0) rfl
  have q3 := box_cells hw0 3 (.slice A1 d.fwds.length c1) rfl
  have q4 := box_cells hw0 4 (.slice A2 d.held.length c2) rfl
  have q5 := box_cells hw0 5 (.int .i64 d.size) rfl
  have HT := Lib.hid (box_later hw0).1
  have hv1 := hv.on HT.out
  subst e0
  obtain ⟨hp, ho, hf, hh, _⟩ := partsD hv1
  have HP := Lib.hid hp; have HF := Lib.hid hf; have HH := Lib.hid hh
  have hm : d.held.length ≤ 9223372036854775807 := by
    obtain ⟨A, n, c, e1, e2, e3, e4, e5⟩ := hh
    unfold maxLen at e4
    omega
  obtain ⟨A, n, c, e1, e2, e3, e4, hrr⟩ := hh
  injection e1 with e1 e1' e1''
  subst e1 e1' e1''
  have HR := Lib.hid hrr
  clear hp ho hf hv hv1 hrr e2
  have HW0 := Lib.hid hw0; clear hw0
  have l0 := Below.refl w0.heap.size w0
  have HQ : Hid (dayOk d = (planOk d.plan && fwdsOk d.fwds && heldOk d.held && sizeOk d.size)) := rfl
  go_enter Try.func33, Try.ntmps33
  go_wp2
  rw [← HW0.out]
  go_loop [3] (fun i => ∃ k : Nat, k ≤ d.held.length ∧ i = .int .i64 k ∧ Hid (∀ j (h : j < d.held.length), j < k → isCode d.held[j] = true)) (fun i => d.held.length - (intOf i).toNat)
  case atStart => exact ⟨0, Nat.zero_le _, rfl, fun j _ hj => absurd hj (Nat.not_lt_zero j)⟩
  case round =>
    obtain ⟨k, hk, rfl, HG⟩ := hrel
    by_cases hlt : k < d.held.length
    · obtain ⟨b, o, rfl, hb, hok, x1⟩ := HR.out.strU k hlt
      have HX : Hid (∀ h : isCode d.held[k] = true, ∀ j (h1 : j < d.held.length), j < k + 1 → isCode d.held[j] = true) := fun h j h1 hj => by
        by_cases hjk : j < k
        · exact HG.out j h1 hjk
        · obtain rfl : j = k := by omega
          exact h
      have HY := Lib.hid (heldOk_bad hlt)
      generalize d.held[k] = x at *
      obtain ⟨r, HRR⟩ : ∃ r, Hid (isCode x = r) := ⟨_, rfl⟩
      go_wp2_with fail
      refine (spec_CodeValid x _ hok).mono ?_
      rw [HRR.out]
      rintro e w1 ⟨rfl, rfl⟩
      cases r
      · go_wp2_with fail
        go_ret
        exact ⟨ret_bool (by rw [HQ.out, HY.out HRR.out]; simp), HT.out⟩
      · go_wp2_with fail
        go_round
        case rel => exact ⟨k + 1, by omega, by go_num, HX.out HRR.out⟩
        case measure => simp [intOf]; omega
    · have HE := Lib.hid (heldOk_all fun j hj => HG.out j hj (by omega))
      go_wp2_with fail
      refine (spec_PlanValid _ d.plan _ HP.out).mono ?_
      rintro e w1 ⟨rfl, b1⟩
      have l1 := later_trans l0 b1
      cases h1 : planOk d.plan
      · have H1 := Lib.hid h1; clear h1
        go_wp2_with fail
        go_ret
        exact ⟨ret_bool (by rw [HQ.out, H1.out]; rfl), later_trans HT.out l1⟩
      have H1 := Lib.hid h1; clear h1
      go_wp2_with fail
      refine (spec_ForwardsValid _ d.fwds _ (HF.out.on l1)).mono ?_
      rintro e w2 ⟨rfl, rfl⟩
      cases h2 : fwdsOk d.fwds
      · have H2 := Lib.hid h2; clear h2
        go_wp2_with fail
        go_ret
        exact ⟨ret_bool (by rw [HQ.out, H1.out, H2.out]; rfl), later_trans HT.out l1⟩
      have H2 := Lib.hid h2; clear h2
      by_cases h30 : (d.held.length : Int) ≤ 30
      · have HE2 : Hid (heldOk d.held = true) := by show _ = _; rw [HE.out, decide_eq_true (by omega)]
        go_wp2_with fail
        refine (spec_l5Size d.size _).mono ?_
        rintro e w3 ⟨rfl, rfl⟩
        obtain ⟨r, HRR⟩ : ∃ r, Hid (sizeOk d.size = r) := ⟨_, rfl⟩
        rw [HRR.out]
        go_wp2_with fail
        go_ret
        exact ⟨ret_bool (by rw [HQ.out, H1.out, H2.out, HE2.out, HRR.out]; rfl), later_trans HT.out l1⟩
      · have HE2 : Hid (heldOk d.held = false) := by show _ = _; rw [HE.out, decide_eq_false (by omega)]
        have hd := decide_eq_false h30
        go_wp2_with fail
        go_ret
        exact ⟨ret_bool (by rw [HQ.out, H1.out, H2.out, HE2.out]; rfl), later_trans HT.out l1⟩

def rankI (p : Pln) (c : ByteArray) : Int := if planOk p then rkI p.order c else -1
theorem impl_PlanRank (v : Value) (p : Pln) (c : ByteArray) (w : World) (hv : rdP w w.heap.size v p) :
    Calls Try.prog 48 #[v, .string c] w fun e w' => e = .returned (.int .i64 (rankI p c)) ∧ Below w.heap.size w w' := by
  obtain ⟨A0, c0, e0⟩ := openP hv
  obtain ⟨w0, hw0⟩ : ∃ w0, w0 = w.alloc (Obj.cells #[.int .i64 p.bins, .int .i64 p.passes, .slice A0 p.order.length c0] 29) := ⟨_, rfl⟩
  have q0 := box_cells hw0 0 (.int .i64 p.bins) rfl
  have q1 := box_cells hw0 1 (.int .i64 p.passes) rfl
  have q2 := box_cells hw0 2 (.slice A0 p.order.length c0) rfl
  have HT := Lib.hid (box_later hw0).1
  have HP := Lib.hid (hv.on HT.out)
  subst e0
  have HO : Hid (rd w0 w0.heap.size (.slice A0 p.order.length c0) p.order) := by
    obtain ⟨vo, h1, _, _, h4⟩ := HP.out
    injection h1 with h1
    injection h1 with h1
    simp only [List.cons.injEq, and_true, true_and] at h1
    subst h1
    exact h4
  have HW0 := Lib.hid hw0; clear hw0 hv
  have l0 := Below.refl w0.heap.size w0
  have HQ : Hid (rankI p c = if planOk p then rkI p.order c else -1) := rfl
  go_enter Try.func48, Try.ntmps48
  go_wp2_with fail
  rw [← HW0.out]
  refine (impl_PlanValid _ p _ HP.out).mono ?_
  rintro e w1 ⟨rfl, b1⟩
  have l1 := later_trans l0 b1
  cases h1 : planOk p
  · have H1 := Lib.hid h1; clear h1
    go_wp2_with fail
    go_ret
    exact ⟨ret_int (by rw [HQ.out, H1.out]; rfl), later_trans HT.out l1⟩
  have H1 := Lib.hid h1; clear h1
  go_wp2_with fail
  refine (slices_IndexS _ p.order c _ (HO.out.on l1)).mono ?_
  rintro e w2 ⟨rfl, rfl⟩
  obtain ⟨r, HRR⟩ : ∃ r, Hid (rkI p.order c = r) := ⟨_, rfl⟩
  rw [HRR.out]
  go_wp2_with fail
  go_ret
  exact ⟨ret_int (by rw [HQ.out, H1.out, HRR.out]; rfl), later_trans HT.out l1⟩

end Go.Proofs.Ytlmbegajocmnpaa
