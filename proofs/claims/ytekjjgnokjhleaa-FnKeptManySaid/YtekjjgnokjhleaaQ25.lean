/- B10 B11 -/
import Derived.Test.YtekjjgnokjhleaaQ24
import Derived.Test.YtekjjgnokjhleaaQ13
import Derived.IntWalk
namespace Go.Proofs.Ytekjjgnokjhleaa
open Go.RowKit

set_option maxRecDepth 100000 in
set_option maxHeartbeats 1600000 in
theorem spec_RunPlan (v vb : Value) (p : Pln) (xs : List Ltr) (w : World) (hv : rdP w w.heap.size v p) (hb : rd w w.heap.size vb xs) :
    Calls Try.prog 55 #[v, vb] w fun e w' => ∃ vL vO, e = .returned (.tuple #[vL, vO, .bool (rpOk p xs)]) ∧ own 44 w.heap.size w' vL (rpRound p xs) ∧ own 44 w.heap.size w' vO (rpRest p xs) ∧ apart vL vO ∧ Below w.heap.size w w' := by
  obtain ⟨A0, c0, e0⟩ := openP hv
  obtain ⟨w0, hw0⟩ : ∃ w0, w0 = w.alloc (Obj.cells #[.int .i64 p.bins, .int .i64 p.passes, .slice A0 p.order.length c0] 25) := ⟨_, rfl⟩
  have q0 := box_cells hw0 0 (.int .i64 p.bins) rfl
  have q1 := box_cells hw0 1 (.int .i64 p.passes) rfl
  have q2 := box_cells hw0 2 (.slice A0 p.order.length c0) rfl
  have HT := Lib.hid (box_later hw0).1
  have HP := Lib.hid (hv.on HT.out)
  have HB := Lib.hid (hb.on HT.out)
  subst e0
  have HW0 := Lib.hid hw0; clear hw0 hv hb
  have l0 := Below.refl w0.heap.size w0
  have hwlt : w.heap.size ≤ w0.heap.size := HT.out.size
  have HQ : Hid (rpOk p xs = (planOk p && okB xs)) := rfl
  go_enter Try.func55, Try.ntmps55
  go_wp2_with fail
  rw [← HW0.out]
  refine (spec_l3Ready _ _ p xs _ HP.out HB.out).mono ?_
  rintro e w1 ⟨rfl, b1⟩
  have l1 := later_trans l0 b1
  cases h1 : (planOk p && okB xs)
  · have HF : Hid (rpOk p xs = false) := by show _ = _; rw [HQ.out, h1]
    clear h1
    have HE : Hid (rpRound p xs = [] ∧ rpRest p xs = []) := by unfold rpRound rpRest; rw [HF.out]; exact ⟨rfl, rfl⟩
    have o1 : own (α := Ltr) 44 w.heap.size (w1.alloc (.cells #[] 44)) (.slice (some ⟨w1.heap.size, 0, none⟩) 0 0) [] := own.made0 w1 _ (Nat.le_trans hwlt l1.size)
    have o2 : own (α := Ltr) 44 w.heap.size ((w1.alloc (.cells #[] 44)).alloc (.cells #[] 44)) (.slice (some ⟨(w1.alloc (.cells #[] 44)).heap.size, 0, none⟩) 0 0) [] := own.made0 _ _ (by simp; exact Nat.le_trans (Nat.le_trans hwlt l1.size) (Nat.le_succ _))
    have O1 := Lib.hid (o1.alloc (.cells #[] 44)); have O2 := Lib.hid o2
    clear o1 o2
    go_wp2_with fail
    go_ret3
    refine ⟨_, _, ret_tup (by rw [HF.out] <;> rfl), by rw [HE.out.1]; exact O1.out, by rw [HE.out.2]; simpa using O2.out, .inr (by show some _ ≠ some _; simp), later_trans HT.out (later_alloc (later_alloc l1 _) _)⟩
  have hh := h1
  rw [Bool.and_eq_true] at hh
  obtain ⟨g1, g2, g3, g4, g5⟩ := planOk_bins hh.1
  have hxl := okB_len' hh.2
  have HF : Hid (rpOk p xs = true) := by show _ = _; rw [HQ.out, h1]
  clear h1 hh
  obtain ⟨M, hM⟩ := Int.eq_ofNat_of_zero_le (show 0 ≤ p.passes by omega)
  have HMM := Lib.hid hM; clear hM
  have hm1 : 1 ≤ M ∧ M ≤ 4 := by have := HMM.out; omega
  have HY : Hid (rpRound p xs = passesN p 0 M xs ∧ rpRest p xs = restOf (fun x => binI p x.code 0) xs) := by
    unfold rpRound rpRest; rw [HF.out, HMM.out, Int.toNat_natCast]; exact ⟨rfl, rfl⟩
  go_wp2_with fail
  refine (spec_l3Pass _ _ p xs 0 _ (HP.out.on l1) (HB.out.on l1) g1 g2 (by omega) (by omega) (by omega)).mono ?_
  rintro e w2 ⟨vB, vO, vs, rfl, hB, hR, hF, b2⟩
  have l2 := later_trans l1 b2
  have HBB : Hid (ownLL 34 44 w0.heap.size w2 vB (binsOf (fun x => binI p x.code 0) p.bins.toNat (passesN p 0 0 xs))) := ⟨vs, hB.base_ l1.size⟩
  have HRR := Lib.hid (hR.base_ l1.size)
  clear hB hR hF b2
  go_wp2_with fail
  go_loopw [7, 9] (fun t i wr => ∃ j : Nat, j + 1 ≤ M ∧ i = .int .i64 ((j : Int) + 1) ∧ Below w0.heap.size w0 wr ∧ ownLL 34 44 w0.heap.size wr t (binsOf (fun x => binI p x.code j) p.bins.toNat (passesN p 0 j xs)) ∧ own 44 w0.heap.size wr vO (restOf (fun x => binI p x.code 0) xs)) (fun _ i _ => M - (intOf i).toNat)
  case atStart => exact ⟨0, hm1.1, by go_num, l2, HBB.out, HRR.out⟩
  case round =>
    obtain ⟨j, hj, rfl, lr, hB, hR⟩ := hrel
    obtain ⟨w3, rfl⟩ : ∃ w3 : World, w3 = wr := ⟨_, rfl⟩
    clear l2 HBB HRR l1 l0
    obtain ⟨A7, n7, c7, rfl, hn7, hc7, hm7, _⟩ := hB.rd
    clear hn7 hc7 hm7
    have HRd := Lib.hid hB.rd
    have HR := Lib.hid hR
    have hfl : (binsOf (fun x => binI p x.code j) p.bins.toNat (passesN p 0 j xs)).flatten.length ≤ 60 := Nat.le_trans (flatten_length_binsOf _) (Nat.le_trans (passesN_len p j 0 xs) hxl)
    have HS : Hid (passesN p 0 (j + 1) xs = (binsOf (fun x => binI p x.code j) p.bins.toNat (passesN p 0 j xs)).flatten) := by
      have := passesN_succ p j 0 xs
      rw [Nat.zero_add] at this
      exact this
    rw [← HS.out] at hfl
    clear hB hR
    have CJ : Hid (∀ W, Below w3.heap.size w3 W → Calls Try.prog 85 #[.slice A7 n7 c7] W fun e w' => ∃ v', e = .returned v' ∧ own 44 W.heap.size w' v' (passesN p 0 (j + 1) xs) ∧ Below W.heap.size W w') := fun W hW => by
      have h := spec_l2Collect _ _ W (HRd.out.on hW) (by rw [← HS.out]; omega)
      rw [← HS.out] at h
      exact h
    generalize hys : passesN p 0 (j + 1) xs = ys at *
    have HYS := Lib.hid hys; clear hys
    by_cases hlt : j + 1 < M
    · have hlt' : (j : Int) + 1 < p.passes := by have := HMM.out; omega
      have CD : Hid (∀ W, Below w0.heap.size w0 W → ∀ vf, rd W W.heap.size vf ys → Calls Try.prog 100 #[.agg #[.int .i64 p.bins, .int .i64 p.passes, .slice A0 p.order.length c0], vf, .int .i64 ((j : Int) + 1)] W fun e w' => ∃ vB vO vs, e = .returned (.tuple #[vB, vO]) ∧ isLL 34 44 W.heap.size w' vB (binsOf (fun x => binI p x.code (j + 1)) p.bins.toNat ys) vs ∧ own 44 W.heap.size w' vO (restOf (fun x => binI p x.code (j + 1)) ys) ∧ farLL vO vB vs ∧ Below W.heap.size W w') := fun W hW vf hf =>
        spec_l3Pass _ vf p ys (j + 1) W (HP.out.on hW) hf g1 g2 (by omega) (by omega) (by omega)
      have ld := later_drew lr
      have hw1 : IntKind.i64.wrap ((j : Int) + 1) = (j : Int) + 1 := IntWalk.i64_in _ (by omega)
      have l3d : Below w3.heap.size w3 w3.drew := later_drew (Below.refl _ _)
      go_wp2
      go_region_held3 (fun W => Below w0.heap.size w0 W) (first | exact ld | exact later_trans ld b4 | exact later_trans (later_trans ld b4) b5) (first | (go_at_call 85; refine (CJ.out _ l3d).mono ?_; rintro e w4 ⟨vf, rfl, o4, b4⟩) | (go_at_call 100; refine (CD.out _ (later_trans ld b4) _ o4.rd).mono ?_; rintro e w5 ⟨vB5, vO5, vs5, rfl, hB5, hO5, hF5, b5⟩))
      have l5 := later_trans (later_trans ld b4) b5
      have HB5 : Hid (ownLL 34 44 w0.heap.size w5 vB5 (binsOf (fun x => binI p x.code (j + 1)) p.bins.toNat (passesN p 0 (j + 1) xs))) := by
        rw [HYS.out]; exact ⟨vs5, hB5.base_ (later_trans ld b4).size⟩
      have HR5 := Lib.hid (HR.out.below (later_trans (later_trans l3d b4) b5))
      clear hB5 hO5 hF5 o4 b4 b5
      go_wp2
      go_roundw
      case rel => exact ⟨j + 1, by omega, by go_num, l5, HB5.out, HR5.out⟩
      case measure => simp [intOf]; omega
    · have hlt' : ¬ ((j : Int) + 1 < p.passes) := by have := HMM.out; omega
      have HE := Lib.hid (show j + 1 = M by omega)
      go_wp2_with fail
      refine (CJ.out _ (Below.refl _ _)).mono ?_
      rintro e w4 ⟨v4, rfl, o4, b4⟩
      have l4 := later_trans lr b4
      have HA := Lib.hid (apart_gt o4 HR.out (Nat.le_refl _))
      have O4 := Lib.hid (o4.base_ (Nat.le_trans hwlt lr.size))
      have R4 := Lib.hid ((HR.out.below b4).base_ hwlt)
      clear o4
      go_wp2_with fail
      go_ret3
      exact ⟨_, _, ret_tup (by rw [HF.out] <;> rfl), by rw [HY.out.1, ← HE.out, HYS.out]; exact O4.out, by rw [HY.out.2]; exact R4.out, HA.out, later_trans HT.out l4⟩

set_option maxRecDepth 100000 in
set_option maxHeartbeats 1600000 in
theorem spec_l7Bins (v vb : Value) (p : Pln) (xss : List (List Ltr)) (k : Int) (w : World) (hv : rdP w w.heap.size v p) (hb : rd w w.heap.size vb xss) (hl : xss.flatten.length ≤ 1048576) :
    Calls Try.prog 76 #[v, vb, .int .i64 k] w fun e w' => e = .returned (.bool (binsOk p xss k)) ∧ Below w.heap.size w w' := by
  obtain ⟨A0, c0, e0⟩ := openP hv
  obtain ⟨w0, hw0⟩ : ∃ w0, w0 = w.alloc (Obj.cells #[.int .i64 p.bins, .int .i64 p.passes, .slice A0 p.order.length c0] 25) := ⟨_, rfl⟩
  have q0 := box_cells hw0 0 (.int .i64 p.bins) rfl
  have q1 := box_cells hw0 1 (.int .i64 p.passes) rfl
  have q2 := box_cells hw0 2 (.slice A0 p.order.length c0) rfl
  have HT := Lib.hid (box_later hw0).1
  have HP := Lib.hid (hv.on HT.out)
  have HB := Lib.hid (hb.on HT.out)
  obtain ⟨A, n, c, rfl, hn, hc, hm, _⟩ := hb
  subst hn
  unfold maxLen at hm
  subst e0
  have HW0 := Lib.hid hw0; clear hw0 hv 
  have l0 := Below.refl w0.heap.size w0
  have hwlt : w.heap.size ≤ w0.heap.size := HT.out.size
  have HQ : Hid (binsOk p xss k = (planOk p && (decide (0 ≤ k) && decide (k < p.passes)) && (xss.length == p.bins.toNat) && okB xss.flatten)) := rfl
  have HLL := Lib.hid hl; clear hl
  go_enter Try.func76, Try.ntmps76
  go_wp2_with fail
  rw [← HW0.out]
  refine (spec_PlanValid _ p _ HP.out).mono ?_
  rintro e w1 ⟨rfl, b1⟩
  have l1 := later_trans l0 b1
  cases h1 : planOk p
  · have HF : Hid (binsOk p xss k = false) := by show _ = _; rw [HQ.out, h1]; rfl
    clear h1
    go_wp2_with fail
    go_ret
    exact ⟨ret_bool HF.out.symm, later_trans HT.out l1⟩
  obtain ⟨g1, g2, g3, g4, g5⟩ := planOk_bins h1
  have H1 := Lib.hid h1; clear h1
  by_cases hln : (xss.length : Int) = p.bins
  · have hl2 : ((xss.length : Int) == p.bins) = true := by simp [hln]
    have HLB : Hid ((xss.length == p.bins.toNat) = true) := by show _ = _; rw [beq_iff_eq]; omega
    clear hln
    obtain ⟨fl, hfe⟩ : ∃ fl, xss.flatten = fl := ⟨_, rfl⟩
    have HFE := Lib.hid hfe; clear hfe
    go_wp2_with fail
    refine (spec_l2Collect _ xss _ (HB.out.on l1) HLL.out).mono ?_
    rw [HFE.out]
    rintro e w2 ⟨v2, rfl, o2, b2⟩
    have l2 := later_trans l1 b2
    have O2 := Lib.hid o2; clear o2
    go_wp2_with fail
    refine (spec_BatchValid _ fl _ O2.out.rd).mono ?_
    rintro e w3 ⟨rfl, b3⟩
    have l3 := later_trans l2 b3
    cases h2 : okB fl
    · have HF : Hid (binsOk p xss k = false) := by show _ = _; rw [HQ.out, HFE.out, h2]; simp
      clear h2
      go_wp2_with fail
      go_ret
      exact ⟨ret_bool HF.out.symm, later_trans HT.out l3⟩
    have HF : Hid (binsOk p xss k = (decide (0 ≤ k) && decide (k ≤ p.passes - 1))) := by
      show _ = _
      rw [HQ.out, HFE.out, h2, H1.out, HLB.out, show decide (k < p.passes) = decide (k ≤ p.passes - 1) by rw [decide_eq_decide]; omega]; simp
    clear h2
    go_wp2_with fail
    refine (spec_l1In k 0 (p.passes - 1) _).mono ?_
    rintro e w4 ⟨rfl, rfl⟩
    generalize (decide (0 ≤ k) && decide (k ≤ p.passes - 1)) = r at *
    go_wp2_with fail
    go_ret
    exact ⟨ret_bool HF.out.symm, later_trans HT.out l3⟩
  · have hl2 : ((xss.length : Int) == p.bins) = false := by simp [hln]
    have HF : Hid (binsOk p xss k = false) := by
      show _ = _
      rw [HQ.out, show (xss.length == p.bins.toNat) = false by rw [beq_eq_false_iff_ne]; omega]; simp
    clear hln
    go_wp2_with fail
    go_ret
    exact ⟨ret_bool HF.out.symm, later_trans HT.out l1⟩

end Go.Proofs.Ytekjjgnokjhleaa

namespace Go.Proofs.Ytekjjgnokjhleaa
open Go.RowKit

set_option maxRecDepth 100000 in
set_option maxHeartbeats 1600000 in
theorem spec_l7Finish (v vb : Value) (p : Pln) (xss : List (List Ltr)) (k : Nat) (w : World) (hv : rdP w w.heap.size v p) (hb : rd w w.heap.size vb xss) (hk : binsOk p xss k = true) :
    Calls Try.prog 82 #[v, vb, .int .i64 k] w fun e w' => ∃ vL, e = .returned vL ∧ own 44 w.heap.size w' vL (finished p xss k) ∧ Below w.heap.size w w' := by
  obtain ⟨A0, c0, e0⟩ := openP hv
  obtain ⟨w0, hw0⟩ : ∃ w0, w0 = w.alloc (Obj.cells #[.int .i64 p.bins, .int .i64 p.passes, .slice A0 p.order.length c0] 25) := ⟨_, rfl⟩
  have q0 := box_cells hw0 0 (.int .i64 p.bins) rfl
  have q1 := box_cells hw0 1 (.int .i64 p.passes) rfl
  have q2 := box_cells hw0 2 (.slice A0 p.order.length c0) rfl
  have HT := Lib.hid (box_later hw0).1
  have HP := Lib.hid (hv.on HT.out)
  have HB := Lib.hid (hb.on HT.out)
  subst e0
  have HW0 := Lib.hid hw0; clear hw0 hv hb
  have l0 := Below.refl w0.heap.size w0
  have hwlt : w.heap.size ≤ w0.heap.size := HT.out.size
  obtain ⟨hk1, hk2, hk3⟩ := binsOk_iff.1 hk
  obtain ⟨hp1, hp2, hp3⟩ := passOk_iff.1 hk1
  obtain ⟨g1, g2, g3, g4, g5⟩ := planOk_bins hp1
  have HF := Lib.hid hk; clear hk hk1 hp1
  have hfl := okB_len' hk3
  clear hk3 hk2
  obtain ⟨M, hM⟩ := Int.eq_ofNat_of_zero_le (show 0 ≤ p.passes by omega)
  have HMM := Lib.hid hM; clear hM
  have hkM : k < M ∧ M ≤ 4 := by have := HMM.out; omega
  have HY : Hid (finished p xss (k : Int) = passesN p (k + 1) (M - (k + 1)) xss.flatten) := by
    show _ = _
    unfold finished; rw [HF.out, HMM.out, Int.toNat_natCast, Int.toNat_natCast]; rfl
  have hb0 := HB.out
  obtain ⟨A7, n7, c7, rfl, hn7, hc7, hm7, _⟩ := hb0
  clear hn7 hc7 hm7 hp2 hp3
  go_enter Try.func82, Try.ntmps82
  go_wp2_with fail
  rw [← HW0.out]
  go_loopw [1, 7] (fun t i wr => ∃ (j : Nat) (zss : List (List Ltr)), j ≤ M - (k + 1) ∧ i = .int .i64 ((k : Int) + 1 + (j : Int)) ∧ Below w0.heap.size w0 wr ∧ rd wr wr.heap.size t zss ∧ Hid (zss.flatten = passesN p (k + 1) j xss.flatten)) (fun _ i _ => M - (intOf i).toNat)
  case atStart => exact ⟨0, xss, Nat.zero_le _, by go_num, l0, HB.out, rfl⟩
  case round =>
    obtain ⟨j, zss, hj, rfl, lr, hB, HZ⟩ := hrel
    obtain ⟨w3, rfl⟩ : ∃ w3 : World, w3 = wr := ⟨_, rfl⟩
    clear l0
    have HRd := Lib.hid hB
    obtain ⟨A8, n8, c8, rfl, hn8, hc8, hm8, _⟩ := hB
    clear hn8 hc8 hm8
    have hzl : (passesN p (k + 1) j xss.flatten).length ≤ 60 := Nat.le_trans (passesN_len p j (k + 1) _) hfl
    have HS := Lib.hid (passesN_succ p j (k + 1) xss.flatten)
    have CJ : Hid (∀ W, Below w3.heap.size w3 W → Calls Try.prog 85 #[.slice A8 n8 c8] W fun e w' => ∃ v', e = .returned v' ∧ own 44 W.heap.size w' v' (passesN p (k + 1) j xss.flatten) ∧ Below W.heap.size W w') := fun W hW => by
      have h := spec_l2Collect _ zss W (HRd.out.on hW) (by rw [HZ.out]; omega)
      rw [HZ.out] at h
      exact h
    generalize hys : passesN p (k + 1) j xss.flatten = ys at *
    have HYS := Lib.hid hys; clear hys
    by_cases hlt : k + 1 + j < M
    · have hlt' : (k : Int) + 1 + (j : Int) < p.passes := by have := HMM.out; omega
      have CD : Hid (∀ W, Below w0.heap.size w0 W → ∀ vf, rd W W.heap.size vf ys → Calls Try.prog 100 #[.agg #[.int .i64 p.bins, .int .i64 p.passes, .slice A0 p.order.length c0], vf, .int .i64 ((k : Int) + 1 + (j : Int))] W fun e w' => ∃ vB vO vs, e = .returned (.tuple #[vB, vO]) ∧ isLL 34 44 W.heap.size w' vB (binsOf (fun x => binI p x.code (k + 1 + j)) p.bins.toNat ys) vs ∧ own 44 W.heap.size w' vO (restOf (fun x => binI p x.code (k + 1 + j)) ys) ∧ farLL vO vB vs ∧ Below W.heap.size W w') := fun W hW vf hf => by
        have h := spec_l3Pass _ vf p ys (k + 1 + j) W (HP.out.on hW) hf g1 g2 (by omega) (by omega) (by omega)
        rw [show ((k + 1 + j : Nat) : Int) = (k : Int) + 1 + (j : Int) by omega] at h
        exact h
      have ld := later_drew lr
      have l3d : Below w3.heap.size w3 w3.drew := later_drew (Below.refl _ _)
      go_wp2
      go_region_held3 (fun W => Below w0.heap.size w0 W) (first | exact ld | exact later_trans ld b4 | exact later_trans (later_trans ld b4) b5) (first | (go_at_call 85; refine (CJ.out _ l3d).mono ?_; rintro e w4 ⟨vf, rfl, o4, b4⟩) | (go_at_call 100; refine (CD.out _ (later_trans ld b4) _ o4.rd).mono ?_; rintro e w5 ⟨vB5, vO5, vs5, rfl, hB5, hO5, hF5, b5⟩))
      have l5 := later_trans (later_trans ld b4) b5
      have HB5 : Hid (rd w5 w5.heap.size vB5 (binsOf (fun x => binI p x.code (k + 1 + j)) p.bins.toNat ys)) := ownLL.rd ⟨vs5, hB5⟩
      have HE5 : Hid ((binsOf (fun x => binI p x.code (k + 1 + j)) p.bins.toNat ys).flatten = passesN p (k + 1) (j + 1) xss.flatten) := by show _ = _; rw [HS.out]; rfl
      clear hB5 hO5 hF5 o4 b4 b5
      go_wp2
      go_roundw
      case rel => exact ⟨j + 1, _, by omega, by go_num, l5, HB5.out, HE5.out⟩
      case measure => simp [intOf]; omega
    · have hlt' : ¬ ((k : Int) + 1 + (j : Int) < p.passes) := by have := HMM.out; omega
      have HE := Lib.hid (show j = M - (k + 1) by omega)
      go_wp2_with fail
      refine (CJ.out _ (Below.refl _ _)).mono ?_
      rintro e w4 ⟨v4, rfl, o4, b4⟩
      have l4 := later_trans lr b4
      have O4 := Lib.hid (o4.base_ (Nat.le_trans hwlt lr.size))
      clear o4
      go_wp2_with fail
      go_ret
      exact ⟨_, rfl, by rw [HY.out, ← HE.out, HYS.out]; exact O4.out, later_trans HT.out l4⟩

set_option maxRecDepth 100000 in
set_option maxHeartbeats 800000 in
theorem spec_FinishPasses (v vb : Value) (p : Pln) (xss : List (List Ltr)) (k : Int) (w : World) (hv : rdP w w.heap.size v p) (hb : rd w w.heap.size vb xss) (hl : xss.flatten.length ≤ 1048576) :
    Calls Try.prog 34 #[v, vb, .int .i64 k] w fun e w' => ∃ vL, e = .returned (.tuple #[vL, .bool (binsOk p xss k)]) ∧ own 44 w.heap.size w' vL (finished p xss k) ∧ Below w.heap.size w w' := by
  obtain ⟨A0, c0, e0⟩ := openP hv
  obtain ⟨w0, hw0⟩ : ∃ w0, w0 = w.alloc (Obj.cells #[.int .i64 p.bins, .int .i64 p.passes, .slice A0 p.order.length c0] 25) := ⟨_, rfl⟩
  have q0 := box_cells hw0 0 (.int .i64 p.bins) rfl
  have q1 := box_cells hw0 1 (.int .i64 p.passes) rfl
  have q2 := box_cells hw0 2 (.slice A0 p.order.length c0) rfl
  have HT := Lib.hid (box_later hw0).1
  have HP := Lib.hid (hv.on HT.out)
  have HB := Lib.hid (hb.on HT.out)
  subst e0
  have HW0 := Lib.hid hw0; clear hw0 hv hb
  have l0 := Below.refl w0.heap.size w0
  have hwlt : w.heap.size ≤ w0.heap.size := HT.out.size
  go_enter Try.func34, Try.ntmps34
  go_wp2_with fail
  rw [← HW0.out]
  refine (spec_l7Bins _ _ p xss k _ HP.out HB.out hl).mono ?_
  rintro e w1 ⟨rfl, b1⟩
  have l1 := later_trans l0 b1
  cases h1 : binsOk p xss k
  · have HF := Lib.hid h1
    have HE : Hid (finished p xss k = []) := by show _ = _; unfold finished; rw [h1]; rfl
    clear h1
    have o1 := Lib.hid (own.made0 (α := Ltr) w1 44 (Nat.le_trans hwlt l1.size))
    go_wp2_with fail
    go_ret2
    exact ⟨_, ret_tup (by rw [HF.out] <;> rfl), by rw [HE.out]; exact o1.out, later_trans HT.out (later_alloc l1 _)⟩
  have HF := Lib.hid h1
  obtain ⟨k, rfl⟩ := Int.eq_ofNat_of_zero_le (passOk_iff.1 (binsOk_iff.1 h1).1).2.1
  clear h1
  go_wp2_with fail
  refine (spec_l7Finish _ _ p xss k _ (HP.out.on l1) (HB.out.on l1) HF.out).mono ?_
  rintro e w2 ⟨vL, rfl, oL, b2⟩
  have OL := Lib.hid (oL.base_ (Nat.le_trans hwlt l1.size))
  clear oL
  go_wp2_with fail
  go_ret2
  exact ⟨_, ret_tup (by rw [HF.out] <;> rfl), OL.out, later_trans HT.out (later_trans l1 b2)⟩

set_option maxRecDepth 100000 in
set_option maxHeartbeats 1600000 in
theorem spec_WrongLetters (v vb : Value) (p : Pln) (xss : List (List Ltr)) (k : Int) (w : World) (hv : rdP w w.heap.size v p) (hb : rd w w.heap.size vb xss) (hl : xss.flatten.length ≤ 1048576) :
    Calls Try.prog 29 #[v, vb, .int .i64 k] w fun e w' => ∃ vI, e = .returned vI ∧ own 3 w.heap.size w' vI (wrongL p xss k) ∧ Below w.heap.size w w' := by
  obtain ⟨A0, c0, e0⟩ := openP hv
  obtain ⟨w0, hw0⟩ : ∃ w0, w0 = w.alloc (Obj.cells #[.int .i64 p.bins, .int .i64 p.passes, .slice A0 p.order.length c0] 25) := ⟨_, rfl⟩
  have q0 := box_cells hw0 0 (.int .i64 p.bins) rfl
  have q1 := box_cells hw0 1 (.int .i64 p.passes) rfl
  have q2 := box_cells hw0 2 (.slice A0 p.order.length c0) rfl
  have HT := Lib.hid (box_later hw0).1
  have HP := Lib.hid (hv.on HT.out)
  have HB := Lib.hid (hb.on HT.out)
  obtain ⟨A, n, c, rfl, hn, hc, hm, hr⟩ := hb.on HT.out
  subst hn
  unfold maxLen at hm
  have HR := Lib.hid hr; clear hr
  subst e0
  have HW0 := Lib.hid hw0; clear hw0 hv hb
  have l0 := Below.refl w0.heap.size w0
  have hwlt : w.heap.size ≤ w0.heap.size := HT.out.size
  obtain ⟨i0, hi, hz0, hz1, hz2⟩ := info_parts Try.infoInt
  have HC := Lib.hid (fun W (hW : Below w0.heap.size w0 W) => spec_l7Bins _ _ p xss k W (HP.out.on hW) (HB.out.on hW) hl)
  cases h1 : binsOk p xss k
  · have HF := Lib.hid (wrongL_no h1)
    have HC2 : Hid (∀ W, Below w0.heap.size w0 W → Calls Try.prog 76 #[.agg #[.int .i64 p.bins, .int .i64 p.passes, .slice A0 p.order.length c0], .slice A xss.length c, .int .i64 k] W fun e w' => e = .returned (.bool false) ∧ Below W.heap.size W w') := fun W hW => by
      have h := HC.out W hW
      rw [h1] at h
      exact h
    clear h1 HC
    have o1 := own.made0 (α := Int) w0 3 hwlt
    have lz := later_alloc l0 (Obj.cells #[] 3)
    have hzz : w0.heap.size = w.heap.size + 1 := by rw [HW0.out]; simp
    rw [hzz] at o1
    have HO1 := Lib.hid o1
    clear o1 hzz l0
    go_enter Try.func29, Try.ntmps29
    go_wp2
    rw [← HW0.out]
    generalize w0.alloc (Obj.cells #[] 3) = wz at *
    go_loopw [7, 8] (fun t i wr => i = .int .i64 0 ∧ t = .slice (some ⟨w.heap.size + 1, 0, none⟩) 0 0 ∧ wr = wz) (fun _ _ _ => 0)
    case atStart => exact ⟨rfl, rfl, rfl⟩
    case round =>
      obtain ⟨rfl, rfl, rfl⟩ := hrel
      by_cases h0 : 0 < xss.length
      · go_wp2_with fail
        refine (HC2.out _ lz).mono ?_
        rintro e w2 ⟨rfl, b2⟩
        go_wp2_with fail
        go_ret
        exact ⟨_, rfl, by rw [HF.out]; exact HO1.out.below b2, later_trans HT.out (later_trans lz b2)⟩
      · have h0' : xss.length = 0 := by omega
        have h0'' : ¬ ((0 : Int) < (xss.length : Int)) := by omega
        go_wp2_with fail
        go_ret
        exact ⟨_, rfl, by rw [HF.out]; exact HO1.out, later_trans HT.out lz⟩
  obtain ⟨hk1, hk2, hk3⟩ := binsOk_iff.1 h1
  obtain ⟨hp1, hp2, hp3⟩ := passOk_iff.1 hk1
  obtain ⟨g1, g2, g3, g4, g5⟩ := planOk_bins hp1
  have HF := Lib.hid h1
  have HC2 : Hid (∀ W, Below w0.heap.size w0 W → Calls Try.prog 76 #[.agg #[.int .i64 p.bins, .int .i64 p.passes, .slice A0 p.order.length c0], .slice A xss.length c, .int .i64 k] W fun e w' => e = .returned (.bool true) ∧ Below W.heap.size W w') := fun W hW => by
    have h := HC.out W hW
    rw [h1] at h
    exact h
  clear h1 HC hk1 hp1
  have HFL := Lib.hid (okB_len' hk3)
  have hx16 : xss.length ≤ 16 := by omega
  clear hk3 hk2
  obtain ⟨k, rfl⟩ := Int.eq_ofNat_of_zero_le hp2
  have hk4 : k ≤ 4 := by omega
  have HY : Hid (wrongL p xss (k : Int) = wrongTo (fun x => binI p x.code k) xss xss.length) := by
    show _ = _
    rw [wrongL_yes HF.out, Int.toNat_natCast]
  obtain ⟨f, HFF⟩ : ∃ f : Ltr → Int, Hid (f = fun x => binI p x.code k) := ⟨_, rfl⟩
  have HFX : Hid (∀ x, f x = binI p x.code k) := fun x => by rw [HFF.out]
  have HY2 : Hid (wrongL p xss (k : Int) = wrongTo f xss xss.length) := by show _ = _; rw [HY.out, HFF.out]
  clear hp2 hp3 HY
  have HB2 : Hid (∀ W, Below w0.heap.size w0 W → ∀ x : Ltr, Calls Try.prog 77 #[.agg #[.int .i64 p.bins, .int .i64 p.passes, .slice A0 p.order.length c0], .string x.code, .int .i64 k] W fun e w' => e = .returned (.int .i64 (f x)) ∧ Below W.heap.size W w') := fun W hW x => by
    rw [HFX.out]
    exact spec_l3Bin _ p x.code k W (HP.out.on hW) g1 g2 hk4 (by omega)
  have o1 := own.made0 (α := Int) w0 3 (Nat.le_refl w0.heap.size)
  have lz := later_alloc l0 (Obj.cells #[] 3)
  have hzz : w0.heap.size = w.heap.size + 1 := by rw [HW0.out]; simp
  have o2 := o1
  rw [show (Value.slice (some ⟨w0.heap.size, 0, none⟩) 0 0) = (Value.slice (some ⟨w.heap.size + 1, 0, none⟩) 0 0) by rw [hzz]] at o2
  have HO1 := Lib.hid o2
  clear o1 o2 hzz l0
  go_enter Try.func29, Try.ntmps29
  go_wp2
  rw [← HW0.out]
  generalize w0.alloc (Obj.cells #[] 3) = wz at *
  go_loopw [7, 8] (fun t i wr => ∃ j : Nat, j ≤ xss.length ∧ i = .int .i64 j ∧ Below w0.heap.size w0 wr ∧ own 3 w0.heap.size wr t (wrongTo f xss j)) (fun _ i _ => xss.length - (intOf i).toNat)
  case atStart => exact ⟨0, Nat.zero_le _, rfl, lz, HO1.out⟩
  case round =>
    obtain ⟨j, hj, rfl, lr, ho⟩ := hrel
    obtain ⟨w2, rfl⟩ : ∃ w2 : World, w2 = wr := ⟨_, rfl⟩
    clear lz HO1
    by_cases hlt : j < xss.length
    · obtain ⟨b, o, u, rfl, hb, hu, c1⟩ := HR.out.rowU j hlt
      have HS := Lib.hid (wrongTo_succ (f := f) hlt)
      have HL : Hid ((wrongTo f xss j).length + xss[j].length ≤ 60) := by
        show _ ≤ _
        have h1 := wrongTo_len f xss j (by omega)
        have h2 := flatten_take_len xss (j + 1)
        rw [List.take_succ_eq_append_getElem hlt, List.flatten_append, List.length_append] at h2
        simp only [List.flatten_cons, List.flatten_nil, List.append_nil] at h2
        have := HFL.out
        omega
      generalize xss[j] = ys at *
      generalize wrongTo f xss j = zs at *
      obtain ⟨A2, m2, c2, rfl, hm2, hc2, hmm2, hr2⟩ := hu
      subst hm2
      unfold maxLen at hmm2
      have HU := Lib.hid hr2; clear hr2
      have HO := Lib.hid ho; clear ho
      have hji : (j : Int) < (xss.length : Int) := by omega
      go_wp2_with fail
      refine (HC2.out _ lr).mono ?_
      rintro e w4 ⟨rfl, b4⟩
      have l4 := later_trans lr b4
      have HO4 := Lib.hid (HO.out.below b4)
      clear lr b4
      go_wp2_with fail
      go_loopw [7, 9] (fun t i wi => ∃ m : Nat, m ≤ ys.length ∧ i = .int .i64 m ∧ Below w0.heap.size w0 wi ∧ own 3 w0.heap.size wi t (zs ++ wrongRow f j (ys.take m))) (fun _ i _ => ys.length - (intOf i).toNat)
      case atStart => exact ⟨0, Nat.zero_le _, rfl, l4, by simpa [wrongRow] using HO4.out⟩
      case round =>
        obtain ⟨m, hm', rfl, li, ho⟩ := hrel
        obtain ⟨w3, rfl⟩ : ∃ w3 : World, w3 = wr := ⟨_, rfl⟩
        clear l4
        by_cases hmt : m < ys.length
        · obtain ⟨b', o', rfl, hb', ⟨⟨hxi1, hxi2⟩, hxc⟩, d1, d2⟩ := HU.out.ltrU m hmt
          have HST := Lib.hid (wrongRow_step (f := f) (i := j) hmt)
          have HWL := Lib.hid (wrongRow_len f j (ys.take m))
          generalize ys[m] = x at *
          generalize wrongRow f j (ys.take m) = rs at *
          have hrl : rs.length ≤ m := by have := HWL.out; rw [List.length_take] at this; omega
          have HOI := Lib.hid ho; clear ho
          have hmi : (m : Int) < (ys.length : Int) := by omega
          obtain ⟨r, HRR⟩ : ∃ r, Hid (f x = r) := ⟨_, rfl⟩
          have HB3 : Hid (∀ W, Below w0.heap.size w0 W → Calls Try.prog 77 #[.agg #[.int .i64 p.bins, .int .i64 p.passes, .slice A0 p.order.length c0], .string x.code, .int .i64 k] W fun e w' => e = .returned (.int .i64 r) ∧ Below W.heap.size W w') := fun W hW => by
            have h := HB2.out W hW x
            rw [HRR.out] at h
            exact h
          have ld := later_drew li
          have l3d : Below w3.heap.size w3 w3.drew := later_drew (Below.refl _ _)
          by_cases hrj : r = (j : Int)
          · have hrj' : (r != (j : Int)) = false := by simp [hrj]
            have HE := Lib.hid hrj; clear hrj
            go_wp2
            go_region_held3 (fun W => Below w0.heap.size w0 W) (first | exact ld | exact later_trans ld b5) (first | (go_at_call 77; refine (HB3.out _ ld).mono ?_; rintro e w5 ⟨rfl, b5⟩))
            have l5 := later_trans ld b5
            have HO5 := Lib.hid (HOI.out.below (later_trans l3d b5))
            clear b5
            go_wp2
            go_roundw
            case rel => exact ⟨m + 1, by omega, by go_num, l5, by rw [HST.out, HRR.out, if_pos HE.out]; exact HO5.out⟩
            case measure => simp [intOf]; omega
          · have hrj' : (r != (j : Int)) = true := by simp [hrj]
            have HE := Lib.hid hrj; clear hrj
            have hzl : (zs ++ rs).length ≤ 60 := by rw [List.length_append]; have := HL.out; omega
            generalize hzr : zs ++ rs = zr at *
            have HZR := Lib.hid hzr; clear hzr
            go_wp2
            go_region_held3 (fun W => Below w0.heap.size w0 W) (first | exact ld | exact later_trans ld b5) (first | (go_at_call 77; refine (HB3.out _ ld).mono ?_; rintro e w5 ⟨rfl, b5⟩))
            have l5 := later_trans ld b5
            have HO5 := Lib.hid (HOI.out.below (later_trans l3d b5))
            have hs5 : w0.heap.size ≤ w5.heap.size := l5.size
            clear b5
            obtain ⟨A5, n5, c5, hv5, hn5, _, _, _⟩ := HO5.out.rd
            subst hv5 hn5
            go_wp2_with (at_builtin; refine wpList_append1' (α := Int) rfl (.tmp 45) (.tmp 54) 46 rfl w0.heap.size 3 i0 _ 8 Try.underlying46 hi hz0 hz1 hz2 rfl (by decide) (.slice A5 zr.length c5) zr x.id rfl (HO5.out.alloc _) ⟨w5.heap.size, 0, none⟩ 1 [.int .i64 x.id] rfl ⟨⟨hxi1, hxi2⟩, rfl⟩ (news_at w5 _ [.int .i64 x.id]) (by unfold maxLen; omega) (by omega) (by simp; omega) ?_; intro g cap w6 ho6 hg6 ha6 hl6)
            have l6 : Below w0.heap.size w0 w6 := (later_alloc l5 (Obj.cells #[Value.int IntKind.i64 x.id] 3)).grown hg6 (by simp; omega) fun q hq => (HO5.out.blk q hq).1
            go_wp2
            go_roundw
            case rel => exact ⟨m + 1, by omega, by go_num, l6, by rw [HST.out, HRR.out, if_neg HE.out, ← List.append_assoc, HZR.out]; exact ho6⟩
            case measure => simp [intOf]; omega
        · have HE := Lib.hid (show m = ys.length by omega)
          rw [HE.out, List.take_length, ← HS.out] at ho
          have HO2 := Lib.hid ho; clear ho
          go_wp2_with fail
          go_roundw
          case rel => exact ⟨j + 1, by omega, by go_num, li, HO2.out⟩
          case measure => simp [intOf]; omega
    · have HE := Lib.hid (show j = xss.length by omega)
      go_wp2_with fail
      go_ret
      rw [HE.out, ← HY2.out] at ho
      exact ⟨_, rfl, ho.base_ hwlt, later_trans HT.out lr⟩

end Go.Proofs.Ytekjjgnokjhleaa
