/- F2 F3 -/
import Derived.Test.YtffbcfaahegglaaGreatDoorQ14
import Derived.Test.YtffbcfaahegglaaGreatDoorQ11
namespace Go.Proofs.YtffbcfaahegglaaGreatDoor
open Go.RowKit

theorem codeI_is {s : ByteArray} {r : Bool} {w : World} (hs : s.size ≤ maxLen) (h : isCode s = r) : Calls Tryz.prog 60 #[.string s] w fun e w' => e = .returned (.bool r) ∧ w = w' := by
  rw [← h]; exact impl_CodeValid s w hs
theorem codeS_is {s : ByteArray} {r : Bool} {w : World} (hs : s.size ≤ maxLen) (h : isCode s = r) : Calls Tryz.prog 77 #[.string s] w fun e w' => e = .returned (.bool r) ∧ w = w' := by
  rw [← h]; exact spec_CodeValid s w hs
theorem fwdI_ge (fs : List Fwd) (k : Nat) (c : ByteArray) {r : Int} (h : fwdI (fs.take k) c = r) : (fs.take k).all (fun y => !sEq y.src c) = !decide (0 ≤ r) := by
  have := fiI_ge (fun y : Fwd => sEq y.src c) (fs.take k)
  rw [← h]
  unfold fwdI
  rw [this, Bool.not_not]
theorem fwdI_self {fs : List Fwd} {k : Nat} (h : k < fs.length) : (fwdI fs fs[k].src == (k : Int)) = (fs.take k).all (fun y => !sEq y.src fs[k].src) :=
  fiI_self (p := fun y : Fwd => sEq y.src fs[k].src) h (sEq_refl _)

set_option maxRecDepth 100000 in
set_option maxHeartbeats 1600000 in
theorem spec_ForwardsValid (v : Value) (fs : List Fwd) (w : World) (hv : rd w w.heap.size v fs) :
    Calls Tryz.prog 79 #[v] w fun e w' => e = .returned (.bool (fwdsOk fs)) ∧ w = w' := by
  obtain ⟨A, n, cp, rfl, hn, hc, hm, hr⟩ := hv
  have hv0 := Lib.hid (show rd w w.heap.size (.slice A n cp) fs from ⟨A, n, cp, rfl, hn, hc, hm, hr⟩)
  subst hn
  unfold maxLen at hm
  have HR := Lib.hid hr; clear hr
  have l0 := Below.refl w.heap.size w
  go_enter Tryz.func79, Tryz.ntmps79
  go_wp2
  go_loop [3] (fun i => ∃ k : Nat, k ≤ fs.length ∧ i = .int .i64 k ∧ Hid (∀ j, j < k → goodF fs j = true)) (fun i => fs.length - (intOf i).toNat)
  case atStart => exact ⟨0, Nat.zero_le _, rfl, fun j hj => absurd hj (Nat.not_lt_zero j)⟩
  case round =>
    obtain ⟨k, hk, rfl, HG⟩ := hrel
    by_cases hlt : k < fs.length
    · obtain ⟨b, o, rfl, hb, ⟨ok1, ok2⟩, c1, c2⟩ := HR.out.fwdU k hlt
      have hG := Lib.hid (goodF_of hlt)
      have hS := Lib.hid (fwdI_self hlt)
      have hbad := Lib.hid (fun h => fwdsOk_bad hlt h)
      generalize fs[k] = x at *
      have hki : (k : Int) < (fs.length : Int) := by omega
      go_wp2_with fail
      refine (spec_CodeValid x.src _ ok1).mono ?_
      rintro e w1 ⟨rfl, rfl⟩
      cases h1 : isCode x.src
      · have H1 := Lib.hid h1; clear h1
        go_wp2_with fail
        go_ret
        exact ⟨ret_bool (hbad.out (by rw [hG.out, H1.out]; rfl)).symm, rfl⟩
      have H1 := Lib.hid h1; clear h1
      go_wp2_with fail
      refine (spec_CodeValid x.dst _ ok2).mono ?_
      rintro e w1 ⟨rfl, rfl⟩
      cases h2 : isCode x.dst
      · have H2 := Lib.hid h2; clear h2
        go_wp2_with fail
        go_ret
        exact ⟨ret_bool (hbad.out (by rw [hG.out, H1.out, H2.out]; rfl)).symm, rfl⟩
      have H2 := Lib.hid h2; clear h2
      obtain ⟨r, HRR⟩ : ∃ r, Hid (fwdI fs x.src = r) := ⟨_, rfl⟩
      go_wp2_with fail
      refine (spec_l4Index _ fs x.src _ hv0.out).mono ?_
      rw [HRR.out]
      rintro e w1 ⟨rfl, rfl⟩
      cases h3 : (r == (k : Int))
      · have H3 := Lib.hid h3
        have h3' : (r != (k : Int)) = true := by rw [bne, h3]; rfl
        clear h3
        go_wp2_with fail
        go_ret
        exact ⟨ret_bool (hbad.out (by rw [hG.out, ← hS.out, HRR.out, H3.out]; simp)).symm, rfl⟩
      · have H3 := Lib.hid h3
        have h3' : (r != (k : Int)) = false := by rw [bne, h3]; rfl
        clear h3
        go_wp2_with fail
        go_round
        case rel =>
          refine ⟨k + 1, by omega, by go_num, fun j hj => ?_⟩
          by_cases hjk : j < k
          · exact HG.out j hjk
          · obtain rfl : j = k := by omega
            rw [hG.out, H1.out, H2.out, ← hS.out, HRR.out, H3.out]; rfl
        case measure => simp [intOf]; omega
    · have HE := Lib.hid (show k = fs.length by omega)
      by_cases h30 : fs.length ≤ 30
      · have H30 := Lib.hid h30
        have h30' : (fs.length : Int) ≤ 30 := by omega
        go_wp2_with fail
        go_ret
        exact ⟨ret_bool (fwdsOk_good H30.out (by rw [← HE.out]; exact HG.out)).symm, rfl⟩
      · have H30 := Lib.hid h30
        have h30' : ¬ (fs.length : Int) ≤ 30 := by omega
        go_wp2_with fail
        go_ret
        exact ⟨ret_bool (fwdsOk_len H30.out).symm, rfl⟩

set_option maxRecDepth 100000 in
set_option maxHeartbeats 1600000 in
theorem impl_ForwardsValid (v : Value) (fs : List Fwd) (w : World) (hv : rd w w.heap.size v fs) :
    Calls Tryz.prog 57 #[v] w fun e w' => e = .returned (.bool (fwdsOk fs)) ∧ Below w.heap.size w w' := by
  obtain ⟨A, n, cp, rfl, hn, hc, hm, hr⟩ := hv
  have hv0 := Lib.hid (show rd w w.heap.size (.slice A n cp) fs from ⟨A, n, cp, rfl, hn, hc, hm, hr⟩)
  subst hn
  unfold maxLen at hm
  have HR := Lib.hid hr; clear hr
  have l0 := Below.refl w.heap.size w
  go_enter Tryz.func57, Tryz.ntmps57
  by_cases h30 : (30 : Int) < (fs.length : Int)
  · have HF := Lib.hid (show ¬ fs.length ≤ 30 by omega)
    go_wp2
    go_ret
    exact ⟨ret_bool (fwdsOk_len HF.out).symm, l0⟩
  have H30 := Lib.hid (show fs.length ≤ 30 by omega)
  go_wp2
  go_loopw [10] (fun i wr => ∃ k : Nat, k ≤ fs.length ∧ i = .int .i64 k ∧ Below w.heap.size w wr ∧ Hid (∀ j, j < k → goodF fs j = true)) (fun i _ => fs.length - (intOf i).toNat)
  case atStart => exact ⟨0, Nat.zero_le _, rfl, l0, fun j hj => absurd hj (Nat.not_lt_zero j)⟩
  case round =>
    obtain ⟨k, hk, rfl, lr, HG⟩ := hrel
    obtain ⟨w1, rfl⟩ : ∃ w1 : World, w1 = wr := ⟨_, rfl⟩
    clear l0
    by_cases hlt : k < fs.length
    · obtain ⟨b, o, rfl, hb, ⟨ok1, ok2⟩, c1, c2⟩ := HR.out.fwdU k hlt
      have hG := Lib.hid (goodF_of hlt)
      have hbad := Lib.hid (fun h => fwdsOk_bad hlt h)
      generalize fs[k] = x at *
      have hki : (k : Int) < (fs.length : Int) := by omega
      obtain ⟨wo, hwo⟩ : ∃ wo : World, wo = w1.alloc (Obj.cells #[.string x.src, .string x.dst] 106) := ⟨_, rfl⟩
      have lo : Below w.heap.size w wo := later_trans lr (box_later hwo).1
      have y0 := box_cells hwo 0 (.string x.src) rfl
      have y1 := box_cells hwo 1 (.string x.dst) rfl
      have lb := Below.refl wo.heap.size wo
      have hv1 := Lib.hid (hv0.out.on lo)
      have HWO := Lib.hid hwo; clear hwo
      cases h1 : isCode x.src
      · have H1 := Lib.hid h1; clear h1
        have C1 := Lib.hid (fun w => codeI_is (w := w) ok1 H1.out)
        go_wp2
        rw [← HWO.out]
        go_quiet (first | (go_at_call 60; refine quiet_c (C1.out _)))
        go_wp2
        go_ret
        exact ⟨ret_bool (hbad.out (by rw [hG.out, H1.out]; rfl)).symm, below_drewN lo _⟩
      have H1 := Lib.hid h1; clear h1
      have C1 := Lib.hid (fun w => codeI_is (w := w) ok1 H1.out)
      cases h2 : isCode x.dst
      · have H2 := Lib.hid h2; clear h2
        have C2 := Lib.hid (fun w => codeI_is (w := w) ok2 H2.out)
        go_wp2
        rw [← HWO.out]
        go_quiet (first | (go_at_call 60; first | with_reducible refine quiet_c (C1.out _) | with_reducible refine quiet_c (C2.out _)))
        go_wp2
        go_ret
        exact ⟨ret_bool (hbad.out (by rw [hG.out, H1.out, H2.out]; rfl)).symm, below_drewN lo _⟩
      have H2 := Lib.hid h2; clear h2
      have C2 := Lib.hid (fun w => codeI_is (w := w) ok2 H2.out)
      obtain ⟨r, HRR⟩ : ∃ r, Hid (fwdI (fs.take k) x.src = r) := ⟨_, rfl⟩
      have HGE := Lib.hid (fwdI_ge fs k x.src HRR.out)
      have C3 : Hid (∀ W, Below wo.heap.size wo W → Calls Tryz.prog 96 #[.slice (some ⟨b, o, none⟩) k cp, .string x.src] W fun e w' => e = .returned (.int .i64 r) ∧ Below W.heap.size W w') := fun W hW => by
        have h := impl_forwardOf (.slice (some ⟨b, o, none⟩) k cp) (fs.take k) x.src W ((hv1.out.on hW).take hk)
        rw [HRR.out] at h
        exact h
      have ld := later_drew lb
      have hkc : k ≤ cp := by omega
      have hkci : (k : Int) ≤ (cp : Int) := by omega
      by_cases hr0 : 0 ≤ r
      · have HD := Lib.hid (decide_eq_true hr0)
        go_wp2
        rw [← HWO.out]
        go_region_held3 (fun W => Below wo.heap.size wo W) (first | exact ld | exact later_trans ld b3) (first | (go_at_call 60; first | ((with_reducible refine (C1.out _).mono ?_); rintro e w' ⟨rfl, rfl⟩) | ((with_reducible refine (C2.out _).mono ?_); rintro e w' ⟨rfl, rfl⟩)) | (go_at_call 96; refine (C3.out _ ld).mono ?_; rintro e w3 ⟨rfl, b3⟩))
        have l3 := later_trans lo (later_trans ld b3)
        go_wp2
        go_ret
        exact ⟨ret_bool (hbad.out (by rw [hG.out, HGE.out, HD.out]; simp)).symm, l3⟩
      · have HD := Lib.hid (decide_eq_false hr0)
        go_wp2
        rw [← HWO.out]
        go_region_held3 (fun W => Below wo.heap.size wo W) (first | exact ld | exact later_trans ld b3) (first | (go_at_call 60; first | ((with_reducible refine (C1.out _).mono ?_); rintro e w' ⟨rfl, rfl⟩) | ((with_reducible refine (C2.out _).mono ?_); rintro e w' ⟨rfl, rfl⟩)) | (go_at_call 96; refine (C3.out _ ld).mono ?_; rintro e w3 ⟨rfl, b3⟩))
        have l3 := later_trans lo (later_trans ld b3)
        go_wp2
        go_roundw
        case rel =>
          refine ⟨k + 1, by omega, by go_num, l3, fun j hj => ?_⟩
          by_cases hjk : j < k
          · exact HG.out j hjk
          · obtain rfl : j = k := by omega
            rw [hG.out, H1.out, H2.out, HGE.out, HD.out]; rfl
        case measure => simp [intOf]; omega
    · have HE := Lib.hid (show k = fs.length by omega)
      go_wp2
      go_ret
      exact ⟨ret_bool (fwdsOk_good H30.out (by rw [← HE.out]; exact HG.out)).symm, lr⟩

/-- Where letters for a code arrive, if all is valid. -/
def resolve (fs : List Fwd) (c : ByteArray) : ByteArray × Nat × Bool := if isCode c && fwdsOk fs then follow fs c else (⟨#[]⟩, 0, false)


end Go.Proofs.YtffbcfaahegglaaGreatDoor

namespace Go.Proofs.YtffbcfaahegglaaGreatDoor
open Go.RowKit

set_option maxHeartbeats 800000 in
theorem impl_DayValid (v : Value) (d : Dy) (w : World) (hv : rdD w w.heap.size v d) :
    Calls Tryz.prog 25 #[v] w fun e w' => e = .returned (.bool (dayOk d)) ∧ Below w.heap.size w w' := by
  obtain ⟨A0, c0, A1, c1, A2, c2, e0⟩ := openD hv
  obtain ⟨w0, hw0⟩ : ∃ w0, w0 = w.alloc (Obj.cells #[.int .i64 d.plan.bins, .int .i64 d.plan.passes, .slice A0 d.plan.order.length c0, .slice A1 d.fwds.length c1, .slice A2 d.held.length c2, .int .i64 d.size] 28) := ⟨_, rfl⟩
  have q0 := box_cells hw0 0 (.int .i64 d.plan.bins) rfl
  have q1 := box_cells hw0 1 (.int .i64 d.plan.passes) rfl
  have q2 := box_cells hw0 2 (.slice A0 d.plan.order.length c0) rfl
  have q3 := box_cells hw0 3 (.slice A1 d.fwds.length c1) rfl
  have q4 := box_cells hw0 4 (.slice A2 d.held.length c2) rfl
  have q5 := box_cells hw0 5 (.int .i64 d.size) rfl
  have HT := Lib.hid (box_later hw0).1
  have hv1 := hv.on HT.out
  subst e0
  obtain ⟨hp, ho, hf, hh, _⟩ := partsD hv1
  have HP := Lib.hid hp; have HF := Lib.hid hf; have HH := Lib.hid hh
  clear hp ho hf hh hv hv1
  have HW0 := Lib.hid hw0; clear hw0
  have l0 := Below.refl w0.heap.size w0
  have HQ : Hid (dayOk d = (planOk d.plan && fwdsOk d.fwds && heldOk d.held && sizeOk d.size)) := rfl
  go_enter Tryz.func25, Tryz.ntmps25
  go_wp2_with fail
  rw [← HW0.out]
  refine (impl_PlanValid _ d.plan _ HP.out).mono ?_
  rintro e w1 ⟨rfl, b1⟩
  have l1 := later_trans l0 b1
  cases h1 : planOk d.plan
  · have H1 := Lib.hid h1; clear h1
    go_wp2_with fail
    go_ret
    exact ⟨ret_bool (by rw [HQ.out, H1.out]; rfl), later_trans HT.out l1⟩
  have H1 := Lib.hid h1; clear h1
  go_wp2_with fail
  refine (impl_ForwardsValid _ d.fwds _ (HF.out.on l1)).mono ?_
  rintro e w2 ⟨rfl, b2⟩
  have l2 := later_trans l1 b2
  cases h2 : fwdsOk d.fwds
  · have H2 := Lib.hid h2; clear h2
    go_wp2_with fail
    go_ret
    exact ⟨ret_bool (by rw [HQ.out, H1.out, H2.out]; rfl), later_trans HT.out l2⟩
  have H2 := Lib.hid h2; clear h2
  go_wp2_with fail
  refine (impl_heldValid _ d.held _ (HH.out.on l2)).mono ?_
  rintro e w3 ⟨rfl, rfl⟩
  cases h3 : heldOk d.held
  · have H3 := Lib.hid h3; clear h3
    go_wp2_with fail
    go_ret
    exact ⟨ret_bool (by rw [HQ.out, H1.out, H2.out, H3.out]; rfl), later_trans HT.out l2⟩
  have H3 := Lib.hid h3; clear h3
  go_wp2_with fail
  refine (impl_sizeValid d.size _).mono ?_
  rintro e w3 ⟨rfl, rfl⟩
  obtain ⟨r, HRR⟩ : ∃ r, Hid (sizeOk d.size = r) := ⟨_, rfl⟩
  rw [HRR.out]
  go_wp2_with fail
  go_ret
  exact ⟨ret_bool (by rw [HQ.out, H1.out, H2.out, H3.out, HRR.out]; rfl), later_trans HT.out l2⟩

theorem heldOk_bad {xs : List ByteArray} {k : Nat} (hk : k < xs.length) (h : isCode xs[k] = false) : heldOk xs = false := by
  unfold heldOk
  rw [Bool.and_eq_false_iff]
  exact .inr (List.all_eq_false.2 ⟨xs[k], List.getElem_mem _, by simp [h]⟩)
theorem heldOk_all {xs : List ByteArray} (h : ∀ j (hj : j < xs.length), isCode xs[j] = true) : heldOk xs = decide (xs.length ≤ 30) := by
  unfold heldOk
  rw [List.all_eq_true.2 fun x hx => by
    obtain ⟨j, hj, rfl⟩ := List.getElem_of_mem hx
    exact h j hj, Bool.and_true]

set_option maxHeartbeats 800000 in
theorem spec_DayValid (v : Value) (d : Dy) (w : World) (hv : rdD w w.heap.size v d) :
    Calls Tryz.prog 47 #[v] w fun e w' => e = .returned (.bool (dayOk d)) ∧ Below w.heap.size w w' := by
  obtain ⟨A0, c0, A1, c1, A2, c2, e0⟩ := openD hv
  obtain ⟨w0, hw0⟩ : ∃ w0, w0 = w.alloc (Obj.cells #[.int .i64 d.plan.bins, .int .i64 d.plan.passes, .slice A0 d.plan.order.length c0, .slice A1 d.fwds.length c1, .slice A2 d.held.length c2, .int .i64 d.size] 28) := ⟨_, rfl⟩
  have q0 := box_cells hw0 0 (.int .i64 d.plan.bins) rfl
  have q1 := box_cells hw0 1 (.int .i64 d.plan.passes) rfl
  have q2 := box_cells hw0 2 (.slice A0 d.plan.order.length c0) rfl
  have q3 := box_cells hw0 3 (.slice A1 d.fwds.length c1) rfl
  have q4 := box_cells hw0 4 (.slice A2 d.held.length c2) rfl
  have q5 := box_cells hw0 5 (.int .i64 d.size) rfl
  have HT := Lib.hid (box_later hw0).1
  have hv1 := hv.on HT.out
  subst e0
  obtain ⟨hp, ho, hf, hh, _⟩ := partsD hv1
  have HP := Lib.hid hp; have HF := Lib.hid hf; have HH := Lib.hid hh
  have hm : d.held.length ≤ 9223372036854775807 := by
    obtain ⟨A, n, c, e1, e2, e3, e4, e5⟩ := hh
    unfold maxLen at e4
    omega
  obtain ⟨A, n, c, e1, e2, e3, e4, hrr⟩ := hh
  injection e1 with e1 e1' e1''
  subst e1 e1' e1''
  have HR := Lib.hid hrr
  clear hp ho hf hv hv1 hrr e2
  have HW0 := Lib.hid hw0; clear hw0
  have l0 := Below.refl w0.heap.size w0
  have HQ : Hid (dayOk d = (planOk d.plan && fwdsOk d.fwds && heldOk d.held && sizeOk d.size)) := rfl
  go_enter Tryz.func47, Tryz.ntmps47
  go_wp2
  rw [← HW0.out]
  go_loop [3] (fun i => ∃ k : Nat, k ≤ d.held.length ∧ i = .int .i64 k ∧ Hid (∀ j (h : j < d.held.length), j < k → isCode d.held[j] = true)) (fun i => d.held.length - (intOf i).toNat)
  case atStart => exact ⟨0, Nat.zero_le _, rfl, fun j _ hj => absurd hj (Nat.not_lt_zero j)⟩
  case round =>
    obtain ⟨k, hk, rfl, HG⟩ := hrel
    by_cases hlt : k < d.held.length
    · obtain ⟨b, o, rfl, hb, hok, x1⟩ := HR.out.strU k hlt
      have HX : Hid (∀ h : isCode d.held[k] = true, ∀ j (h1 : j < d.held.length), j < k + 1 → isCode d.held[j] = true) := fun h j h1 hj => by
        by_cases hjk : j < k
        · exact HG.out j h1 hjk
        · obtain rfl : j = k := by omega
          exact h
      have HY := Lib.hid (heldOk_bad hlt)
      generalize d.held[k] = x at *
      obtain ⟨r, HRR⟩ : ∃ r, Hid (isCode x = r) := ⟨_, rfl⟩
      go_wp2_with fail
      refine (spec_CodeValid x _ hok).mono ?_
      rw [HRR.out]
      rintro e w1 ⟨rfl, rfl⟩
      cases r
      · go_wp2_with fail
        go_ret
        exact ⟨ret_bool (by rw [HQ.out, HY.out HRR.out]; simp), HT.out⟩
      · go_wp2_with fail
        go_round
        case rel => exact ⟨k + 1, by omega, by go_num, HX.out HRR.out⟩
        case measure => simp [intOf]; omega
    · have HE := Lib.hid (heldOk_all fun j hj => HG.out j hj (by omega))
      go_wp2_with fail
      refine (spec_PlanValid _ d.plan _ HP.out).mono ?_
      rintro e w1 ⟨rfl, b1⟩
      have l1 := later_trans l0 b1
      cases h1 : planOk d.plan
      · have H1 := Lib.hid h1; clear h1
        go_wp2_with fail
        go_ret
        exact ⟨ret_bool (by rw [HQ.out, H1.out]; rfl), later_trans HT.out l1⟩
      have H1 := Lib.hid h1; clear h1
      go_wp2_with fail
      refine (spec_ForwardsValid _ d.fwds _ (HF.out.on l1)).mono ?_
      rintro e w2 ⟨rfl, rfl⟩
      cases h2 : fwdsOk d.fwds
      · have H2 := Lib.hid h2; clear h2
        go_wp2_with fail
        go_ret
        exact ⟨ret_bool (by rw [HQ.out, H1.out, H2.out]; rfl), later_trans HT.out l1⟩
      have H2 := Lib.hid h2; clear h2
      by_cases h30 : (d.held.length : Int) ≤ 30
      · have HE2 : Hid (heldOk d.held = true) := by show _ = _; rw [HE.out, decide_eq_true (by omega)]
        go_wp2_with fail
        refine (spec_l5Size d.size _).mono ?_
        rintro e w3 ⟨rfl, rfl⟩
        obtain ⟨r, HRR⟩ : ∃ r, Hid (sizeOk d.size = r) := ⟨_, rfl⟩
        rw [HRR.out]
        go_wp2_with fail
        go_ret
        exact ⟨ret_bool (by rw [HQ.out, H1.out, H2.out, HE2.out, HRR.out]; rfl), later_trans HT.out l1⟩
      · have HE2 : Hid (heldOk d.held = false) := by show _ = _; rw [HE.out, decide_eq_false (by omega)]
        have hd := decide_eq_false h30
        go_wp2_with fail
        go_ret
        exact ⟨ret_bool (by rw [HQ.out, H1.out, H2.out, HE2.out]; rfl), later_trans HT.out l1⟩

def rankI (p : Pln) (c : ByteArray) : Int := if planOk p then rkI p.order c else -1

end Go.Proofs.YtffbcfaahegglaaGreatDoor
