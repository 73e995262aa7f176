/- B10 DC LP ULL -/
import Derived.Test.YtpinkbodbedajaaGreatDoorQ13
import Derived.Test.YtpinkbodbedajaaGreatDoorQ11
import Derived.IntWalk
import Derived.Test.YtpinkbodbedajaaGreatDoorQ12
namespace Go.Proofs.YtpinkbodbedajaaGreatDoor
open Go.RowKit

set_option maxRecDepth 100000 in
set_option maxHeartbeats 1600000 in
theorem spec_RunPlan (v vb : Value) (p : Pln) (xs : List Ltr) (w : World) (hv : rdP w w.heap.size v p) (hb : rd w w.heap.size vb xs) :
    Calls Tryz.prog 35 #[v, vb] w fun e w' => ∃ vL vO, e = .returned (.tuple #[vL, vO, .bool (rpOk p xs)]) ∧ own 89 w.heap.size w' vL (rpRound p xs) ∧ own 89 w.heap.size w' vO (rpRest p xs) ∧ apart vL vO ∧ Below w.heap.size w w' := by
  obtain ⟨A0, c0, e0⟩ := openP hv
  obtain ⟨w0, hw0⟩ : ∃ w0, w0 = w.alloc (Obj.cells #[.int .i64 p.bins, .int .i64 p.passes, .slice A0 p.order.length c0] 25) := ⟨_, rfl⟩
  have q0 := box_cells hw0 0 (.int .i64 p.bins) rfl
  have q1 := box_cells hw0 1 (.int .i64 p.passes) rfl
  have q2 := box_cells hw0 2 (.slice A0 p.order.length c0) rfl
  have HT := Lib.hid (box_later hw0).1
  have HP := Lib.hid (hv.on HT.out)
  have HB := Lib.hid (hb.on HT.out)
  subst e0
  have HW0 := Lib.hid hw0; clear hw0 hv hb
  have l0 := Below.refl w0.heap.size w0
  have hwlt : w.heap.size ≤ w0.heap.size := HT.out.size
  have HQ : Hid (rpOk p xs = (planOk p && okB xs)) := rfl
  go_enter Tryz.func35, Tryz.ntmps35
  go_wp2_with fail
  rw [← HW0.out]
  refine (spec_l3Ready _ _ p xs _ HP.out HB.out).mono ?_
  rintro e w1 ⟨rfl, b1⟩
  have l1 := later_trans l0 b1
  cases h1 : (planOk p && okB xs)
  · have HF : Hid (rpOk p xs = false) := by show _ = _; rw [HQ.out, h1]
    clear h1
    have HE : Hid (rpRound p xs = [] ∧ rpRest p xs = []) := by unfold rpRound rpRest; rw [HF.out]; exact ⟨rfl, rfl⟩
    have o1 : own (α := Ltr) 89 w.heap.size (w1.alloc (.cells #[] 89)) (.slice (some ⟨w1.heap.size, 0, none⟩) 0 0) [] := own.made0 w1 _ (Nat.le_trans hwlt l1.size)
    have o2 : own (α := Ltr) 89 w.heap.size ((w1.alloc (.cells #[] 89)).alloc (.cells #[] 89)) (.slice (some ⟨(w1.alloc (.cells #[] 89)).heap.size, 0, none⟩) 0 0) [] := own.made0 _ _ (by simp; exact Nat.le_trans (Nat.le_trans hwlt l1.size) (Nat.le_succ _))
    have O1 := Lib.hid (o1.alloc (.cells #[] 89)); have O2 := Lib.hid o2
    clear o1 o2
    go_wp2_with fail
    go_ret3
    refine ⟨_, _, ret_tup (by rw [HF.out] <;> rfl), by rw [HE.out.1]; exact O1.out, by rw [HE.out.2]; simpa using O2.out, .inr (by show some _ ≠ some _; simp), later_trans HT.out (later_alloc (later_alloc l1 _) _)⟩
  have hh := h1
  rw [Bool.and_eq_true] at hh
  obtain ⟨g1, g2, g3, g4, g5⟩ := planOk_bins hh.1
  have hxl := okB_len' hh.2
  have HF : Hid (rpOk p xs = true) := by show _ = _; rw [HQ.out, h1]
  clear h1 hh
  obtain ⟨M, hM⟩ := Int.eq_ofNat_of_zero_le (show 0 ≤ p.passes by omega)
  have HMM := Lib.hid hM; clear hM
  have hm1 : 1 ≤ M ∧ M ≤ 4 := by have := HMM.out; omega
  have HY : Hid (rpRound p xs = passesN p 0 M xs ∧ rpRest p xs = restOf (fun x => binI p x.code 0) xs) := by
    unfold rpRound rpRest; rw [HF.out, HMM.out, Int.toNat_natCast]; exact ⟨rfl, rfl⟩
  go_wp2_with fail
  refine (spec_l3Pass _ _ p xs 0 _ (HP.out.on l1) (HB.out.on l1) g1 g2 (by omega) (by omega) (by omega)).mono ?_
  rintro e w2 ⟨vB, vO, vs, rfl, hB, hR, hF, b2⟩
  have l2 := later_trans l1 b2
  have HBB : Hid (ownLL 29 89 w0.heap.size w2 vB (binsOf (fun x => binI p x.code 0) p.bins.toNat (passesN p 0 0 xs))) := ⟨vs, hB.base_ l1.size⟩
  have HRR := Lib.hid (hR.base_ l1.size)
  clear hB hR hF b2
  go_wp2_with fail
  go_loopw [7, 9] (fun t i wr => ∃ j : Nat, j + 1 ≤ M ∧ i = .int .i64 ((j : Int) + 1) ∧ Below w0.heap.size w0 wr ∧ ownLL 29 89 w0.heap.size wr t (binsOf (fun x => binI p x.code j) p.bins.toNat (passesN p 0 j xs)) ∧ own 89 w0.heap.size wr vO (restOf (fun x => binI p x.code 0) xs)) (fun _ i _ => M - (intOf i).toNat)
  case atStart => exact ⟨0, hm1.1, by go_num, l2, HBB.out, HRR.out⟩
  case round =>
    obtain ⟨j, hj, rfl, lr, hB, hR⟩ := hrel
    obtain ⟨w3, rfl⟩ : ∃ w3 : World, w3 = wr := ⟨_, rfl⟩
    clear l2 HBB HRR l1 l0
    obtain ⟨A7, n7, c7, rfl, hn7, hc7, hm7, _⟩ := hB.rd
    clear hn7 hc7 hm7
    have HRd := Lib.hid hB.rd
    have HR := Lib.hid hR
    have hfl : (binsOf (fun x => binI p x.code j) p.bins.toNat (passesN p 0 j xs)).flatten.length ≤ 60 := Nat.le_trans (flatten_length_binsOf _) (Nat.le_trans (passesN_len p j 0 xs) hxl)
    have HS : Hid (passesN p 0 (j + 1) xs = (binsOf (fun x => binI p x.code j) p.bins.toNat (passesN p 0 j xs)).flatten) := by
      have := passesN_succ p j 0 xs
      rw [Nat.zero_add] at this
      exact this
    rw [← HS.out] at hfl
    clear hB hR
    have CJ : Hid (∀ W, Below w3.heap.size w3 W → Calls Tryz.prog 96 #[.slice A7 n7 c7] W fun e w' => ∃ v', e = .returned v' ∧ own 89 W.heap.size w' v' (passesN p 0 (j + 1) xs) ∧ Below W.heap.size W w') := fun W hW => by
      have h := spec_l2Collect _ _ W (HRd.out.on hW) (by rw [← HS.out]; omega)
      rw [← HS.out] at h
      exact h
    generalize hys : passesN p 0 (j + 1) xs = ys at *
    have HYS := Lib.hid hys; clear hys
    by_cases hlt : j + 1 < M
    · have hlt' : (j : Int) + 1 < p.passes := by have := HMM.out; omega
      have CD : Hid (∀ W, Below w0.heap.size w0 W → ∀ vf, rd W W.heap.size vf ys → Calls Tryz.prog 95 #[.agg #[.int .i64 p.bins, .int .i64 p.passes, .slice A0 p.order.length c0], vf, .int .i64 ((j : Int) + 1)] W fun e w' => ∃ vB vO vs, e = .returned (.tuple #[vB, vO]) ∧ isLL 29 89 W.heap.size w' vB (binsOf (fun x => binI p x.code (j + 1)) p.bins.toNat ys) vs ∧ own 89 W.heap.size w' vO (restOf (fun x => binI p x.code (j + 1)) ys) ∧ farLL vO vB vs ∧ Below W.heap.size W w') := fun W hW vf hf =>
        spec_l3Pass _ vf p ys (j + 1) W (HP.out.on hW) hf g1 g2 (by omega) (by omega) (by omega)
      have ld := later_drew lr
      have hw1 : IntKind.i64.wrap ((j : Int) + 1) = (j : Int) + 1 := IntWalk.i64_in _ (by omega)
      have l3d : Below w3.heap.size w3 w3.drew := later_drew (Below.refl _ _)
      go_wp2
      go_region_held3 (fun W => Below w0.heap.size w0 W) (first | exact ld | exact later_trans ld b4 | exact later_trans (later_trans ld b4) b5) (first | (go_at_call 96; refine (CJ.out _ l3d).mono ?_; rintro e w4 ⟨vf, rfl, o4, b4⟩) | (go_at_call 95; refine (CD.out _ (later_trans ld b4) _ o4.rd).mono ?_; rintro e w5 ⟨vB5, vO5, vs5, rfl, hB5, hO5, hF5, b5⟩))
      have l5 := later_trans (later_trans ld b4) b5
      have HB5 : Hid (ownLL 29 89 w0.heap.size w5 vB5 (binsOf (fun x => binI p x.code (j + 1)) p.bins.toNat (passesN p 0 (j + 1) xs))) := by
        rw [HYS.out]; exact ⟨vs5, hB5.base_ (later_trans ld b4).size⟩
      have HR5 := Lib.hid (HR.out.below (later_trans (later_trans l3d b4) b5))
      clear hB5 hO5 hF5 o4 b4 b5
      go_wp2
      go_roundw
      case rel => exact ⟨j + 1, by omega, by go_num, l5, HB5.out, HR5.out⟩
      case measure => simp [intOf]; omega
    · have hlt' : ¬ ((j : Int) + 1 < p.passes) := by have := HMM.out; omega
      have HE := Lib.hid (show j + 1 = M by omega)
      go_wp2_with fail
      refine (CJ.out _ (Below.refl _ _)).mono ?_
      rintro e w4 ⟨v4, rfl, o4, b4⟩
      have l4 := later_trans lr b4
      have HA := Lib.hid (apart_gt o4 HR.out (Nat.le_refl _))
      have O4 := Lib.hid (o4.base_ (Nat.le_trans hwlt lr.size))
      have R4 := Lib.hid ((HR.out.below b4).base_ hwlt)
      clear o4
      go_wp2_with fail
      go_ret3
      exact ⟨_, _, ret_tup (by rw [HF.out] <;> rfl), by rw [HY.out.1, ← HE.out, HYS.out]; exact O4.out, by rw [HY.out.2]; exact R4.out, HA.out, later_trans HT.out l4⟩


end Go.Proofs.YtpinkbodbedajaaGreatDoor

namespace Go.Proofs.YtpinkbodbedajaaGreatDoor
open Go.RowKit

theorem Tryz.sizeRpt : (Tryz.prog.info? 33).map (·.size) = some 4 := by kernel_rfl
def runDayPost (T : TypeId) (d : Dy) (xs : List Ltr) (w : World) (e : Ending) (w' : World) : Prop :=
  ∃ vR, e = .returned (.tuple #[vR, .bool (rdOk d xs)]) ∧ ownR T w.heap.size w' vR (rptOf d xs) ∧ Below w.heap.size w w'
theorem runDay_no {T : TypeId} {d : Dy} {xs : List Ltr} {w w' : World} (h : rdOk d xs = false) (hb : Below w.heap.size w w') :
    runDayPost T d xs w (.returned (.tuple #[.agg #[.slice none 0 0, .slice none 0 0, .slice none 0 0, .slice none 0 0], .bool false])) w' :=
  ⟨_, by rw [h], by unfold rptOf; rw [h]; exact ownR.none_ _ _ _, hb⟩
theorem runDay_yes {T g b1 b2 b3 : Nat} {d : Dy} {xs : List Ltr} {w w5 : World} {vR vS vH vK : Value} (h : rdOk d xs = true) (hg : w.heap.size ≤ g) (h1 : g < b1) (h2 : g < b2) (h3 : g < b3)
    (oR : own T b3 w5 vR (dayRpt d xs).round) (oS : own T b3 w5 vS (dayRpt d xs).strange) (oH : own T b2 w5 vH (dayRpt d xs).held) (oK : own T b1 w5 vK (dayRpt d xs).stuck)
    (ha : apart vR vS ∧ apart vR vH ∧ apart vR vK ∧ apart vS vH ∧ apart vS vK ∧ apart vH vK) (hb : Below w.heap.size w w5) :
    runDayPost T d xs w (.returned (.tuple #[.agg #[vR, vS, vH, vK], .bool true])) ((((w5.setCell ⟨g, 0, none⟩ vR).setCell ⟨g, 1, none⟩ vS).setCell ⟨g, 2, none⟩ vH).setCell ⟨g, 3, none⟩ vK) := by
  have key : ∀ {b : Nat} {v : Value} {ys : List Ltr}, g < b → own T b w5 v ys → own T w.heap.size ((((w5.setCell ⟨g, 0, none⟩ vR).setCell ⟨g, 1, none⟩ vS).setCell ⟨g, 2, none⟩ vH).setCell ⟨g, 3, none⟩ vK) v ys := fun hlt ho =>
    (own_out (own_out (own_out (own_out ho ⟨g, 0, none⟩ vR hlt) ⟨g, 1, none⟩ vS hlt) ⟨g, 2, none⟩ vH hlt) ⟨g, 3, none⟩ vK hlt).base_ (Nat.le_of_lt (Nat.lt_of_le_of_lt hg hlt))
  refine ⟨_, by rw [h], ?_, later_set (later_set (later_set (later_set hb (p := ⟨g, 0, none⟩) hg vR) (p := ⟨g, 1, none⟩) hg vS) (p := ⟨g, 2, none⟩) hg vH) (p := ⟨g, 3, none⟩) hg vK⟩
  unfold rptOf
  rw [if_pos h]
  exact ⟨vR, vS, vH, vK, rfl, key h3 oR, key h3 oS, key h2 oH, key h1 oK, ha⟩

set_option maxRecDepth 100000 in
set_option maxHeartbeats 3200000 in
theorem impl_RunDay (v vb : Value) (d : Dy) (xs : List Ltr) (w : World) (hv : rdD w w.heap.size v d) (hb : rd w w.heap.size vb xs) :
    Calls Tryz.prog 8 #[v, vb] w (runDayPost 89 d xs w) := by
  obtain ⟨A0, c0, A1, c1, A2, c2, e0⟩ := openD hv
  obtain ⟨w0, hw0⟩ : ∃ w0, w0 = w.alloc (Obj.cells #[.int .i64 d.plan.bins, .int .i64 d.plan.passes, .slice A0 d.plan.order.length c0, .slice A1 d.fwds.length c1, .slice A2 d.held.length c2, .int .i64 d.size] 28) := ⟨_, rfl⟩
  have q0 := box_cells hw0 0 (.int .i64 d.plan.bins) rfl
  have q1 := box_cells hw0 1 (.int .i64 d.plan.passes) rfl
  have q2 := box_cells hw0 2 (.slice A0 d.plan.order.length c0) rfl
  have q3 := box_cells hw0 3 (.slice A1 d.fwds.length c1) rfl
  have q4 := box_cells hw0 4 (.slice A2 d.held.length c2) rfl
  have q5 := box_cells hw0 5 (.int .i64 d.size) rfl
  have HT := Lib.hid (box_later hw0).1
  have hv1 := hv.on HT.out
  subst e0
  have HD := Lib.hid hv1
  obtain ⟨hp, ho, hf, hh, hsz⟩ := partsD hv1
  have HP := Lib.hid hp; have HF := Lib.hid hf; have HH := Lib.hid hh
  clear hp ho hf hv hv1 hh hsz
  have HB := Lib.hid (hb.on HT.out)
  have hz0 : w0.heap.size = w.heap.size + 1 := by subst hw0; simp
  have HW0 := Lib.hid hw0; clear hw0 hb
  have l0 := Below.refl w0.heap.size w0
  obtain ⟨W, hW⟩ : ∃ W, W = w0.alloc (Obj.cells #[.slice none 0 0, .slice none 0 0, .slice none 0 0, .slice none 0 0] 33) := ⟨_, rfl⟩
  have lW : Below w0.heap.size w0 W := by subst hW; exact later_alloc l0 _
  have E2 : Hid (W.heap[w.heap.size + 1]? = some (.cells #[.slice none 0 0, .slice none 0 0, .slice none 0 0, .slice none 0 0] 33 (0, 0))) := by
    show _ = _
    rw [← hz0]
    subst hW
    exact heap_alloc_new w0 _
  have HZW : Hid (w.heap.size + 1 < W.heap.size) := by
    show _ < _
    subst hW
    simp
    omega
  have HZ0 := Lib.hid hz0; clear hz0
  have HW := Lib.hid hW; clear hW
  have HQ : Hid (rdOk d xs = (dayOk d && okB xs)) := rfl
  go_enter Tryz.func8, Tryz.ntmps8
  go_wp2_with fail
  rw [← HW0.out, ← HW.out]
  refine (impl_DayValid _ d _ (HD.out.on lW)).mono ?_
  rintro e w1 ⟨rfl, b1⟩
  have l1 := later_trans lW b1
  replace E2 := Lib.hid (blk_below E2.out b1)
  have k0 := blk_cell E2.out 0 (.slice none 0 0) rfl
  have k1 := blk_cell E2.out 1 (.slice none 0 0) rfl
  have k2 := blk_cell E2.out 2 (.slice none 0 0) rfl
  have k3 := blk_cell E2.out 3 (.slice none 0 0) rfl
  have kf := blk_free E2.out
  have hb0 : w.heap.size ≤ w.heap.size + 1 := Nat.le_succ _
  cases h1 : dayOk d
  · have HF : Hid (rdOk d xs = false) := by show _ = _; rw [HQ.out, h1]; rfl
    clear h1
    go_wp2_with fail
    refine out_box1 rfl rfl (four_set E2.out) Tryz.underlying33 rfl Tryz.sizeRpt rfl ?_
    exact runDay_no HF.out (later_set (later_set (later_set (later_set (later_trans HT.out l1) (p := ⟨w.heap.size + 1, 0, none⟩) hb0 _) (p := ⟨w.heap.size + 1, 1, none⟩) hb0 _) (p := ⟨w.heap.size + 1, 2, none⟩) hb0 _) (p := ⟨w.heap.size + 1, 3, none⟩) hb0 _)
  have H1 := Lib.hid h1; clear h1
  go_wp2_with fail
  refine (impl_BatchValid _ xs _ (HB.out.on l1)).mono ?_
  rintro e w2 ⟨rfl, b2⟩
  have l2 := later_trans l1 b2
  replace E2 := Lib.hid (blk_below E2.out b2)
  clear k0 k1 k2 k3 kf
  have k0 := blk_cell E2.out 0 (.slice none 0 0) rfl
  have k1 := blk_cell E2.out 1 (.slice none 0 0) rfl
  have k2 := blk_cell E2.out 2 (.slice none 0 0) rfl
  have k3 := blk_cell E2.out 3 (.slice none 0 0) rfl
  have kf := blk_free E2.out
  cases h2 : okB xs
  · have HF : Hid (rdOk d xs = false) := by show _ = _; rw [HQ.out, h2]; simp
    clear h2
    go_wp2_with fail
    refine out_box1 rfl rfl (four_set E2.out) Tryz.underlying33 rfl Tryz.sizeRpt rfl ?_
    exact runDay_no HF.out (later_set (later_set (later_set (later_set (later_trans HT.out l2) (p := ⟨w.heap.size + 1, 0, none⟩) hb0 _) (p := ⟨w.heap.size + 1, 1, none⟩) hb0 _) (p := ⟨w.heap.size + 1, 2, none⟩) hb0 _) (p := ⟨w.heap.size + 1, 3, none⟩) hb0 _)
  have HFF : Hid (rdOk d xs = true) := by show _ = _; rw [HQ.out, H1.out, h2]; rfl
  clear h2 k0 k1 k2 k3 kf hb0
  have HSZ : Hid (w.heap.size + 1 < w2.heap.size) := by
    have h1 := HZW.out; have h2 := b1.size; have h3 := b2.size
    show _ < _
    omega
  clear b1 b2
  go_wp2_with fail
  refine (impl_ForwardBatch _ _ d.fwds xs _ (HF.out.on l2) (HB.out.on l2)).mono ?_
  rintro e w3 ⟨vA, vK, rfl, oA, oK, hAK, b3⟩
  have l3 := later_trans l2 b3
  replace E2 := Lib.hid (blk_below E2.out b3)
  have HSZ3 : Hid (w2.heap.size ≤ w3.heap.size) := Lib.hid b3.size
  have OA := Lib.hid oA; have OK := Lib.hid oK
  obtain ⟨Ak, nk, ck, rfl, hnk, _, _, _⟩ := oK.rd
  subst hnk
  clear oA oK b3
  go_wp2_with fail
  refine (impl_HoldBatch _ _ (fwSent d.fwds xs) d.held _ OA.out.rd (HH.out.on l3)).mono ?_
  rintro e w4 ⟨vF, vH, rfl, oF, oH, hFH, b4⟩
  have l4 := later_trans l3 b4
  replace E2 := Lib.hid (blk_below E2.out b4)
  have HSZ4 : Hid (w3.heap.size ≤ w4.heap.size) := Lib.hid b4.size
  have HAP1 := Lib.hid (apart_gt oH OK.out (Nat.le_refl _))
  replace OK := Lib.hid (OK.out.below b4)
  have OF := Lib.hid oF; have OH := Lib.hid oH
  obtain ⟨Ah, nh, ch, rfl, hnh, _, _, _⟩ := oH.rd
  subst hnh
  clear oF oH b4 OA
  go_wp2_with fail
  refine (impl_RunPlan _ _ d.plan (hbFree d.held (fwSent d.fwds xs)) _ (HP.out.on l4) OF.out.rd).mono ?_
  rintro e w5 ⟨vR, vS, rfl, oR, oS, hRS, b5⟩
  have l5 := later_trans l4 b5
  replace E2 := Lib.hid (blk_below E2.out b5)
  have HAP : Hid (apart vR vS ∧ apart vR (.slice Ah (hbHeld d.held (fwSent d.fwds xs)).length ch) ∧ apart vR (.slice Ak (fwStuck d.fwds xs).length ck) ∧ apart vS (.slice Ah (hbHeld d.held (fwSent d.fwds xs)).length ch) ∧ apart vS (.slice Ak (fwStuck d.fwds xs).length ck) ∧ apart (.slice Ah (hbHeld d.held (fwSent d.fwds xs)).length ch) (.slice Ak (fwStuck d.fwds xs).length ck)) :=
    ⟨hRS, apart_gt oR OH.out (Nat.le_refl _), apart_gt oR OK.out (Nat.le_refl _), apart_gt oS OH.out (Nat.le_refl _), apart_gt oS OK.out (Nat.le_refl _), HAP1.out⟩
  replace OK := Lib.hid (OK.out.below b5); replace OH := Lib.hid (OH.out.below b5)
  have OR := Lib.hid oR; have OS := Lib.hid oS
  obtain ⟨Ar, nr, cr, rfl, hnr, _, _, _⟩ := oR.rd
  subst hnr
  obtain ⟨As, ns, cs, rfl, hns, _, _, _⟩ := oS.rd
  subst hns
  clear oR oS hRS b5 OF HAP1 hAK hFH
  have k0 := blk_cell E2.out 0 (.slice none 0 0) rfl
  have k1 := blk_cell E2.out 1 (.slice none 0 0) rfl
  have k2 := blk_cell E2.out 2 (.slice none 0 0) rfl
  have k3 := blk_cell E2.out 3 (.slice none 0 0) rfl
  have kf := blk_free E2.out
  go_wp2_with fail
  refine out_box1 rfl rfl (four_set E2.out) Tryz.underlying33 rfl Tryz.sizeRpt rfl ?_
  have h1 := HSZ.out; have h2 := HSZ3.out; have h3 := HSZ4.out
  exact runDay_yes HFF.out (Nat.le_succ _) h1 (Nat.lt_of_lt_of_le h1 h2) (Nat.lt_of_lt_of_le h1 (Nat.le_trans h2 h3)) OR.out OS.out OH.out OK.out HAP.out (later_trans HT.out l5)

set_option maxRecDepth 100000 in
set_option maxHeartbeats 3200000 in
theorem spec_RunDay (v vb : Value) (d : Dy) (xs : List Ltr) (w : World) (hv : rdD w w.heap.size v d) (hb : rd w w.heap.size vb xs) :
    Calls Tryz.prog 9 #[v, vb] w (runDayPost 89 d xs w) := by
  obtain ⟨A0, c0, A1, c1, A2, c2, e0⟩ := openD hv
  obtain ⟨w0, hw0⟩ : ∃ w0, w0 = w.alloc (Obj.cells #[.int .i64 d.plan.bins, .int .i64 d.plan.passes, .slice A0 d.plan.order.length c0, .slice A1 d.fwds.length c1, .slice A2 d.held.length c2, .int .i64 d.size] 28) := ⟨_, rfl⟩
  have q0 := box_cells hw0 0 (.int .i64 d.plan.bins) rfl
  have q1 := box_cells hw0 1 (.int .i64 d.plan.passes) rfl
  have q2 := box_cells hw0 2 (.slice A0 d.plan.order.length c0) rfl
  have q3 := box_cells hw0 3 (.slice A1 d.fwds.length c1) rfl
  have q4 := box_cells hw0 4 (.slice A2 d.held.length c2) rfl
  have q5 := box_cells hw0 5 (.int .i64 d.size) rfl
  have HT := Lib.hid (box_later hw0).1
  have hv1 := hv.on HT.out
  subst e0
  have HD := Lib.hid hv1
  obtain ⟨hp, ho, hf, hh, hsz⟩ := partsD hv1
  have HP := Lib.hid hp; have HF := Lib.hid hf; have HH := Lib.hid hh
  clear hp ho hf hv hv1 hh hsz
  have HB := Lib.hid (hb.on HT.out)
  have hz0 : w0.heap.size = w.heap.size + 1 := by subst hw0; simp
  have HW0 := Lib.hid hw0; clear hw0 hb
  have l0 := Below.refl w0.heap.size w0
  obtain ⟨W, hW⟩ : ∃ W, W = w0.alloc (Obj.cells #[.slice none 0 0, .slice none 0 0, .slice none 0 0, .slice none 0 0] 33) := ⟨_, rfl⟩
  have lW : Below w0.heap.size w0 W := by subst hW; exact later_alloc l0 _
  have E2 : Hid (W.heap[w.heap.size + 1]? = some (.cells #[.slice none 0 0, .slice none 0 0, .slice none 0 0, .slice none 0 0] 33 (0, 0))) := by
    show _ = _
    rw [← hz0]
    subst hW
    exact heap_alloc_new w0 _
  have HZW : Hid (w.heap.size + 1 < W.heap.size) := by
    show _ < _
    subst hW
    simp
    omega
  have HZ0 := Lib.hid hz0; clear hz0
  have HW := Lib.hid hW; clear hW
  have HQ : Hid (rdOk d xs = (dayOk d && okB xs)) := rfl
  go_enter Tryz.func9, Tryz.ntmps9
  go_wp2_with fail
  rw [← HW0.out, ← HW.out]
  refine (spec_DayValid _ d _ (HD.out.on lW)).mono ?_
  rintro e w1 ⟨rfl, b1⟩
  have l1 := later_trans lW b1
  replace E2 := Lib.hid (blk_below E2.out b1)
  have k0 := blk_cell E2.out 0 (.slice none 0 0) rfl
  have k1 := blk_cell E2.out 1 (.slice none 0 0) rfl
  have k2 := blk_cell E2.out 2 (.slice none 0 0) rfl
  have k3 := blk_cell E2.out 3 (.slice none 0 0) rfl
  have kf := blk_free E2.out
  have hb0 : w.heap.size ≤ w.heap.size + 1 := Nat.le_succ _
  cases h1 : dayOk d
  · have HF : Hid (rdOk d xs = false) := by show _ = _; rw [HQ.out, h1]; rfl
    clear h1
    go_wp2_with fail
    refine out_box1 rfl rfl (four_set E2.out) Tryz.underlying33 rfl Tryz.sizeRpt rfl ?_
    exact runDay_no HF.out (later_set (later_set (later_set (later_set (later_trans HT.out l1) (p := ⟨w.heap.size + 1, 0, none⟩) hb0 _) (p := ⟨w.heap.size + 1, 1, none⟩) hb0 _) (p := ⟨w.heap.size + 1, 2, none⟩) hb0 _) (p := ⟨w.heap.size + 1, 3, none⟩) hb0 _)
  have H1 := Lib.hid h1; clear h1
  go_wp2_with fail
  refine (spec_BatchValid _ xs _ (HB.out.on l1)).mono ?_
  rintro e w2 ⟨rfl, b2⟩
  have l2 := later_trans l1 b2
  replace E2 := Lib.hid (blk_below E2.out b2)
  clear k0 k1 k2 k3 kf
  have k0 := blk_cell E2.out 0 (.slice none 0 0) rfl
  have k1 := blk_cell E2.out 1 (.slice none 0 0) rfl
  have k2 := blk_cell E2.out 2 (.slice none 0 0) rfl
  have k3 := blk_cell E2.out 3 (.slice none 0 0) rfl
  have kf := blk_free E2.out
  cases h2 : okB xs
  · have HF : Hid (rdOk d xs = false) := by show _ = _; rw [HQ.out, h2]; simp
    clear h2
    go_wp2_with fail
    refine out_box1 rfl rfl (four_set E2.out) Tryz.underlying33 rfl Tryz.sizeRpt rfl ?_
    exact runDay_no HF.out (later_set (later_set (later_set (later_set (later_trans HT.out l2) (p := ⟨w.heap.size + 1, 0, none⟩) hb0 _) (p := ⟨w.heap.size + 1, 1, none⟩) hb0 _) (p := ⟨w.heap.size + 1, 2, none⟩) hb0 _) (p := ⟨w.heap.size + 1, 3, none⟩) hb0 _)
  have HFF : Hid (rdOk d xs = true) := by show _ = _; rw [HQ.out, H1.out, h2]; rfl
  clear h2 k0 k1 k2 k3 kf hb0
  have HSZ : Hid (w.heap.size + 1 < w2.heap.size) := by
    have h1 := HZW.out; have h2 := b1.size; have h3 := b2.size
    show _ < _
    omega
  clear b1 b2
  go_wp2_with fail
  refine (spec_ForwardBatch _ _ d.fwds xs _ (HF.out.on l2) (HB.out.on l2)).mono ?_
  rintro e w3 ⟨vA, vK, rfl, oA, oK, hAK, b3⟩
  have l3 := later_trans l2 b3
  replace E2 := Lib.hid (blk_below E2.out b3)
  have HSZ3 : Hid (w2.heap.size ≤ w3.heap.size) := Lib.hid b3.size
  have OA := Lib.hid oA; have OK := Lib.hid oK
  obtain ⟨Ak, nk, ck, rfl, hnk, _, _, _⟩ := oK.rd
  subst hnk
  clear oA oK b3
  go_wp2_with fail
  refine (spec_HoldBatch _ _ (fwSent d.fwds xs) d.held _ OA.out.rd (HH.out.on l3)).mono ?_
  rintro e w4 ⟨vF, vH, rfl, oF, oH, hFH, b4⟩
  have l4 := later_trans l3 b4
  replace E2 := Lib.hid (blk_below E2.out b4)
  have HSZ4 : Hid (w3.heap.size ≤ w4.heap.size) := Lib.hid b4.size
  have HAP1 := Lib.hid (apart_gt oH OK.out (Nat.le_refl _))
  replace OK := Lib.hid (OK.out.below b4)
  have OF := Lib.hid oF; have OH := Lib.hid oH
  obtain ⟨Ah, nh, ch, rfl, hnh, _, _, _⟩ := oH.rd
  subst hnh
  clear oF oH b4 OA
  go_wp2_with fail
  refine (spec_RunPlan _ _ d.plan (hbFree d.held (fwSent d.fwds xs)) _ (HP.out.on l4) OF.out.rd).mono ?_
  rintro e w5 ⟨vR, vS, rfl, oR, oS, hRS, b5⟩
  have l5 := later_trans l4 b5
  replace E2 := Lib.hid (blk_below E2.out b5)
  have HAP : Hid (apart vR vS ∧ apart vR (.slice Ah (hbHeld d.held (fwSent d.fwds xs)).length ch) ∧ apart vR (.slice Ak (fwStuck d.fwds xs).length ck) ∧ apart vS (.slice Ah (hbHeld d.held (fwSent d.fwds xs)).length ch) ∧ apart vS (.slice Ak (fwStuck d.fwds xs).length ck) ∧ apart (.slice Ah (hbHeld d.held (fwSent d.fwds xs)).length ch) (.slice Ak (fwStuck d.fwds xs).length ck)) :=
    ⟨hRS, apart_gt oR OH.out (Nat.le_refl _), apart_gt oR OK.out (Nat.le_refl _), apart_gt oS OH.out (Nat.le_refl _), apart_gt oS OK.out (Nat.le_refl _), HAP1.out⟩
  replace OK := Lib.hid (OK.out.below b5); replace OH := Lib.hid (OH.out.below b5)
  have OR := Lib.hid oR; have OS := Lib.hid oS
  obtain ⟨Ar, nr, cr, rfl, hnr, _, _, _⟩ := oR.rd
  subst hnr
  obtain ⟨As, ns, cs, rfl, hns, _, _, _⟩ := oS.rd
  subst hns
  clear oR oS hRS b5 OF HAP1 hAK hFH
  have k0 := blk_cell E2.out 0 (.slice none 0 0) rfl
  have k1 := blk_cell E2.out 1 (.slice none 0 0) rfl
  have k2 := blk_cell E2.out 2 (.slice none 0 0) rfl
  have k3 := blk_cell E2.out 3 (.slice none 0 0) rfl
  have kf := blk_free E2.out
  go_wp2_with fail
  refine out_box1 rfl rfl (four_set E2.out) Tryz.underlying33 rfl Tryz.sizeRpt rfl ?_
  have h1 := HSZ.out; have h2 := HSZ3.out; have h3 := HSZ4.out
  exact runDay_yes HFF.out (Nat.le_succ _) h1 (Nat.lt_of_lt_of_le h1 h2) (Nat.lt_of_lt_of_le h1 (Nat.le_trans h2 h3)) OR.out OS.out OH.out OK.out HAP.out (later_trans HT.out l5)

end Go.Proofs.YtpinkbodbedajaaGreatDoor

namespace Go.Proofs.YtpinkbodbedajaaGreatDoor
open Go.RowKit

/-- A row of its own put in a place. -/
theorem isLL.put {α : Type} [Flat α] {T1 T2 base G n c : Nat} {w w1 : World} {vs : List Value} {xss : List (List α)} {ys : List α} {v' : Value} {d B : Nat}
    (h : isLL T1 T2 base w (.slice (some ⟨G, 0, none⟩) n c) xss vs) (hb : Below w.heap.size w w1)
    (hd : d < vs.length) (ho : own T2 B w1 v' ys) (hB : w.heap.size ≤ B) (hbase : base ≤ w.heap.size) :
    isLL T1 T2 base (w1.setCell ⟨G, d, none⟩ v') (.slice (some ⟨G, 0, none⟩) n c) (xss.set d ys) (vs.set d v') := by
  obtain ⟨h1, h2, h3, h4, h5⟩ := h
  have hv1 : v'.oneCell' = true := by
    rcases ho.form with ⟨rfl, _⟩ | ⟨g, c, rfl, _⟩ <;> rfl
  have q2 := (h1.below hb).setCell (k := d) (j := 0) hd (by decide) v' v' (fun ecs he => by
    obtain ⟨rfl, _⟩ := he
    exact ⟨rfl, hv1⟩)
  rw [show d * El.size Value + 0 = d from Nat.mul_one d] at q2
  have hset : w1.grownBy (w1.setCell ⟨G, d, none⟩ v') (some G) := grown_setCell (World.grownBy.refl _ _) (.inl rfl) _
  have hG := h1.blk G rfl
  have hvG : apart v' (.slice (some ⟨G, 0, none⟩) n c) := apart_gt ho h1 hB
  have hfar : ∀ i (hi : i < vs.length), apart v' vs[i] := fun i hi => apart_gt ho (h3 i hi (by omega)) hB
  refine ⟨q2, by simp [h2], fun k h h' => ?_, fun j k hj hk hne => ?_, fun k h => ?_⟩
  · by_cases hkd : k = d
    · subst hkd
      simp only [List.getElem_set_self]
      exact (ho.grown hset hvG).base_ (Nat.le_trans hbase hB)
    · rw [List.getElem_set_ne (by omega), List.getElem_set_ne (by omega)]
      have hk1 : k < vs.length := by simpa using h
      have hk2 : k < xss.length := by simpa using h'
      exact ((h3 k hk1 hk2).below hb).grown hset (h5 k hk1)
  · have hj' : j < vs.length := by simpa using hj
    have hk' : k < vs.length := by simpa using hk
    by_cases hjd : j = d
    · subst hjd
      simp only [List.getElem_set_self]
      rw [List.getElem_set_ne (by omega)]
      exact hfar k hk'
    · by_cases hkd : k = d
      · subst hkd
        simp only [List.getElem_set_self]
        rw [List.getElem_set_ne (by omega)]
        exact apart_symm (hfar j hj')
      · rw [List.getElem_set_ne (by omega), List.getElem_set_ne (by omega)]
        exact h4 j k hj' hk' hne
  · by_cases hkd : k = d
    · subst hkd; simp only [List.getElem_set_self]; exact hvG
    · rw [List.getElem_set_ne (by omega)]; exact h5 k (by simpa using h)


end Go.Proofs.YtpinkbodbedajaaGreatDoor

namespace Go.Proofs.YtpinkbodbedajaaGreatDoor
open Go.RowKit

theorem finished_len (p : Pln) (xss : List (List Ltr)) (k : Int) : (finished p xss k).length ≤ 60 := by
  unfold finished
  split
  · rename_i h
    unfold binsOk at h
    simp only [Bool.and_eq_true] at h
    exact Nat.le_trans (passesN_len _ _ _ _) (okB_len' h.2)
  · simp
theorem wrongL_len (p : Pln) (xss : List (List Ltr)) (k : Int) : (wrongL p xss k).length ≤ 60 := by
  unfold wrongL
  split
  · rename_i h
    unfold binsOk at h
    simp only [Bool.and_eq_true] at h
    have h1 := wrongTo_len (fun x => binI p x.code k.toNat) xss xss.length (Nat.le_refl _)
    rw [List.take_length] at h1
    exact Nat.le_trans h1 (okB_len' h.2)
  · simp
def sumLL (xss : List (List Ltr)) : Nat := (xss.map szL).sum
def szLL (xss : List (List Ltr)) : Nat := xss.length + sumLL xss
theorem sumLL_succ (xss : List (List Ltr)) (k : Nat) (h : k < xss.length) : sumLL (xss.take (k + 1)) = sumLL (xss.take k) + szL xss[k] := by
  unfold sumLL; rw [List.take_succ_eq_append_getElem h, List.map_append, List.sum_append]; simp
theorem sumLL_le (xss : List (List Ltr)) (k : Nat) : sumLL (xss.take k) ≤ sumLL xss := by
  unfold sumLL
  conv => rhs; rw [← List.take_append_drop k xss, List.map_append, List.sum_append]
  omega
theorem flatten_le_szLL (xss : List (List Ltr)) : xss.flatten.length ≤ szLL xss := by
  unfold szLL sumLL
  induction xss with
  | nil => simp
  | cons x xss ih =>
    simp only [List.flatten_cons, List.length_append, List.map_cons, List.sum_cons, List.length_cons]
    have : x.length ≤ szL x := by unfold szL; omega
    omega
theorem row_le_szLL {xss : List (List Ltr)} {k : Nat} (h : k < xss.length) : szL xss[k] ≤ szLL xss := by
  have h1 := sumLL_succ xss k h
  have h2 := sumLL_le xss (k + 1)
  unfold szLL; omega


/-- The first k rows laid, the others empty. -/
def laidTo (xss : List (List Ltr)) (k : Nat) : List (List Ltr) := xss.take k ++ List.replicate (xss.length - k) []
theorem laidTo_len {xss : List (List Ltr)} {k : Nat} (h : k ≤ xss.length) : (laidTo xss k).length = xss.length := by
  simp [laidTo]; omega
theorem laidTo_step {xss : List (List Ltr)} {k : Nat} (h : k < xss.length) : (laidTo xss k).set k xss[k] = laidTo xss (k + 1) := by
  unfold laidTo
  have hl : (xss.take k).length = k := by rw [List.length_take]; omega
  rw [List.set_append_right _ _ (by omega), hl, Nat.sub_self, show xss.length - k = (xss.length - (k + 1)) + 1 by omega, List.replicate_succ, List.set_cons_zero, List.take_succ_eq_append_getElem h, List.append_assoc]
  rfl
theorem laidTo_all (xss : List (List Ltr)) : laidTo xss xss.length = xss := by simp [laidTo]
theorem laidTo_nil (xss : List (List Ltr)) : laidTo xss 0 = List.replicate xss.length [] := by simp [laidTo]





end Go.Proofs.YtpinkbodbedajaaGreatDoor
