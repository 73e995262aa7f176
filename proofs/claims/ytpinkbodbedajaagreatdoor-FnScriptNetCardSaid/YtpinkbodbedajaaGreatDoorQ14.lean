/- DC LP ULL MK MK2 -/
import Derived.Test.YtpinkbodbedajaaGreatDoorQ13
import Derived.Test.YtpinkbodbedajaaGreatDoorQ5
import Derived.Test.YtpinkbodbedajaaGreatDoorQ11
import Derived.Test.YtpinkbodbedajaaGreatDoorQ10
namespace Go.Proofs.YtpinkbodbedajaaGreatDoor
open Go.RowKit

theorem Tryz.sizeRpt : (Tryz.prog.info? 33).map (·.size) = some 4 := by kernel_rfl
def runDayPost (T : TypeId) (d : Dy) (xs : List Ltr) (w : World) (e : Ending) (w' : World) : Prop :=
  ∃ vR, e = .returned (.tuple #[vR, .bool (rdOk d xs)]) ∧ ownR T w.heap.size w' vR (rptOf d xs) ∧ Below w.heap.size w w'
theorem runDay_no {T : TypeId} {d : Dy} {xs : List Ltr} {w w' : World} (h : rdOk d xs = false) (hb : Below w.heap.size w w') :
    runDayPost T d xs w (.returned (.tuple #[.agg #[.slice none 0 0, .slice none 0 0, .slice none 0 0, .slice none 0 0], .bool false])) w' :=
  ⟨_, by rw [h], by unfold rptOf; rw [h]; exact ownR.none_ _ _ _, hb⟩
theorem runDay_yes {T g b1 b2 b3 : Nat} {d : Dy} {xs : List Ltr} {w w5 : World} {vR vS vH vK : Value} (h : rdOk d xs = true) (hg : w.heap.size ≤ g) (h1 : g < b1) (h2 : g < b2) (h3 : g < b3)
    (oR : own T b3 w5 vR (dayRpt d xs).round) (oS : own T b3 w5 vS (dayRpt d xs).strange) (oH : own T b2 w5 vH (dayRpt d xs).held) (oK : own T b1 w5 vK (dayRpt d xs).stuck)
    (ha : apart vR vS ∧ apart vR vH ∧ apart vR vK ∧ apart vS vH ∧ apart vS vK ∧ apart vH vK) (hb : Below w.heap.size w w5) :
    runDayPost T d xs w (.returned (.tuple #[.agg #[vR, vS, vH, vK], .bool true])) ((((w5.setCell ⟨g, 0, none⟩ vR).setCell ⟨g, 1, none⟩ vS).setCell ⟨g, 2, none⟩ vH).setCell ⟨g, 3, none⟩ vK) := by
  have key : ∀ {b : Nat} {v : Value} {ys : List Ltr}, g < b → own T b w5 v ys → own T w.heap.size ((((w5.setCell ⟨g, 0, none⟩ vR).setCell ⟨g, 1, none⟩ vS).setCell ⟨g, 2, none⟩ vH).setCell ⟨g, 3, none⟩ vK) v ys := fun hlt ho =>
    (own_out (own_out (own_out (own_out ho ⟨g, 0, none⟩ vR hlt) ⟨g, 1, none⟩ vS hlt) ⟨g, 2, none⟩ vH hlt) ⟨g, 3, none⟩ vK hlt).base_ (Nat.le_of_lt (Nat.lt_of_le_of_lt hg hlt))
  refine ⟨_, by rw [h], ?_, later_set (later_set (later_set (later_set hb (p := ⟨g, 0, none⟩) hg vR) (p := ⟨g, 1, none⟩) hg vS) (p := ⟨g, 2, none⟩) hg vH) (p := ⟨g, 3, none⟩) hg vK⟩
  unfold rptOf
  rw [if_pos h]
  exact ⟨vR, vS, vH, vK, rfl, key h3 oR, key h3 oS, key h2 oH, key h1 oK, ha⟩

set_option maxRecDepth 100000 in
set_option maxHeartbeats 3200000 in
theorem impl_RunDay (v vb : Value) (d : Dy) (xs : List Ltr) (w : World) (hv : rdD w w.heap.size v d) (hb : rd w w.heap.size vb xs) :
    Calls Tryz.prog 8 #[v, vb] w (runDayPost 89 d xs w) := by
  obtain ⟨A0, c0, A1, c1, A2, c2, e0⟩ := openD hv
  obtain ⟨w0, hw0⟩ : ∃ w0, w0 = w.alloc (Obj.cells #[.int .i64 d.plan.bins, .int .i64 d.plan.passes, .slice A0 d.plan.order.length c0, .slice A1 d.fwds.length c1, .slice A2 d.held.length c2, .int .i64 d.size] 28) := ⟨_, rfl⟩
  have q0 := box_cells hw0 0 (.int .i64 d.plan.bins) rfl
  have q1 := box_cells hw0 1 (.int .i64 d.plan.passes) rfl
  have q2 := box_cells hw0 2 (.slice A0 d.plan.order.length c0) rfl
  have q3 := box_cells hw0 3 (.slice A1 d.fwds.length c1) rfl
  have q4 := box_cells hw0 4 (.slice A2 d.held.length c2) rfl
  have q5 := box_cells hw0 5 (.int .i64 d.size) rfl
  have HT := Lib.hid (box_later hw0).1
  have hv1 := hv.on HT.out
  subst e0
  have HD := Lib.hid hv1
  obtain ⟨hp, ho, hf, hh, hsz⟩ := partsD hv1
  have HP := Lib.hid hp; have HF := Lib.hid hf; have HH := Lib.hid hh
  clear hp ho hf hv hv1 hh hsz
  have HB := Lib.hid (hb.on HT.out)
  have hz0 : w0.heap.size = w.heap.size + 1 := by subst hw0; simp
  have HW0 := Lib.hid hw0; clear hw0 hb
  have l0 := Below.refl w0.heap.size w0
  obtain ⟨W, hW⟩ : ∃ W, W = w0.alloc (Obj.cells #[.slice none 0 0, .slice none 0 0, .slice none 0 0, .slice none 0 0] 33) := ⟨_, rfl⟩
  have lW : Below w0.heap.size w0 W := by subst hW; exact later_alloc l0 _
  have E2 : Hid (W.heap[w.heap.size + 1]? = some (.cells #[.slice none 0 0, .slice none 0 0, .slice none 0 0, .slice none 0 0] 33 (0, 0))) := by
    show _ = _
    rw [← hz0]
    subst hW
    exact heap_alloc_new w0 _
  have HZW : Hid (w.heap.size + 1 < W.heap.size) := by
    show _ < _
    subst hW
    simp
    omega
  have HZ0 := Lib.hid hz0; clear hz0
  have HW := Lib.hid hW; clear hW
  have HQ : Hid (rdOk d xs = (dayOk d && okB xs)) := rfl
  go_enter Tryz.func8, Tryz.ntmps8
  go_wp2_with fail
  rw [← HW0.out, ← HW.out]
  refine (impl_DayValid _ d _ (HD.out.on lW)).mono ?_
  rintro e w1 ⟨rfl, b1⟩
  have l1 := later_trans lW b1
  replace E2 := Lib.hid (blk_below E2.out b1)
  have k0 := blk_cell E2.out 0 (.slice none 0 0) rfl
  have k1 := blk_cell E2.out 1 (.slice none 0 0) rfl
  have k2 := blk_cell E2.out 2 (.slice none 0 0) rfl
  have k3 := blk_cell E2.out 3 (.slice none 0 0) rfl
  have kf := blk_free E2.out
  have hb0 : w.heap.size ≤ w.heap.size + 1 := Nat.le_succ _
  cases h1 : dayOk d
  · have HF : Hid (rdOk d xs = false) := by show _ = _; rw [HQ.out, h1]; rfl
    clear h1
    go_wp2_with fail
    refine out_box1 rfl rfl (four_set E2.out) Tryz.underlying33 rfl Tryz.sizeRpt rfl ?_
    exact runDay_no HF.out (later_set (later_set (later_set (later_set (later_trans HT.out l1) (p := ⟨w.heap.size + 1, 0, none⟩) hb0 _) (p := ⟨w.heap.size + 1, 1, none⟩) hb0 _) (p := ⟨w.heap.size + 1, 2, none⟩) hb0 _) (p := ⟨w.heap.size + 1, 3, none⟩) hb0 _)
  have H1 := Lib.hid h1; clear h1
  go_wp2_with fail
  refine (impl_BatchValid _ xs _ (HB.out.on l1)).mono ?_
  rintro e w2 ⟨rfl, b2⟩
  have l2 := later_trans l1 b2
  replace E2 := Lib.hid (blk_below E2.out b2)
  clear k0 k1 k2 k3 kf
  have k0 := blk_cell E2.out 0 (.slice none 0 0) rfl
  have k1 := blk_cell E2.out 1 (.slice none 0 0) rfl
  have k2 := blk_cell E2.out 2 (.slice none 0 0) rfl
  have k3 := blk_cell E2.out 3 (.slice none 0 0) rfl
  have kf := blk_free E2.out
  cases h2 : okB xs
  · have HF : Hid (rdOk d xs = false) := by show _ = _; rw [HQ.out, h2]; simp
    clear h2
    go_wp2_with fail
    refine out_box1 rfl rfl (four_set E2.out) Tryz.underlying33 rfl Tryz.sizeRpt rfl ?_
    exact runDay_no HF.out (later_set (later_set (later_set (later_set (later_trans HT.out l2) (p := ⟨w.heap.size + 1, 0, none⟩) hb0 _) (p := ⟨w.heap.size + 1, 1, none⟩) hb0 _) (p := ⟨w.heap.size + 1, 2, none⟩) hb0 _) (p := ⟨w.heap.size + 1, 3, none⟩) hb0 _)
  have HFF : Hid (rdOk d xs = true) := by show _ = _; rw [HQ.out, H1.out, h2]; rfl
  clear h2 k0 k1 k2 k3 kf hb0
  have HSZ : Hid (w.heap.size + 1 < w2.heap.size) := by
    have h1 := HZW.out; have h2 := b1.size; have h3 := b2.size
    show _ < _
    omega
  clear b1 b2
  go_wp2_with fail
  refine (impl_ForwardBatch _ _ d.fwds xs _ (HF.out.on l2) (HB.out.on l2)).mono ?_
  rintro e w3 ⟨vA, vK, rfl, oA, oK, hAK, b3⟩
  have l3 := later_trans l2 b3
  replace E2 := Lib.hid (blk_below E2.out b3)
  have HSZ3 : Hid (w2.heap.size ≤ w3.heap.size) := Lib.hid b3.size
  have OA := Lib.hid oA; have OK := Lib.hid oK
  obtain ⟨Ak, nk, ck, rfl, hnk, _, _, _⟩ := oK.rd
  subst hnk
  clear oA oK b3
  go_wp2_with fail
  refine (impl_HoldBatch _ _ (fwSent d.fwds xs) d.held _ OA.out.rd (HH.out.on l3)).mono ?_
  rintro e w4 ⟨vF, vH, rfl, oF, oH, hFH, b4⟩
  have l4 := later_trans l3 b4
  replace E2 := Lib.hid (blk_below E2.out b4)
  have HSZ4 : Hid (w3.heap.size ≤ w4.heap.size) := Lib.hid b4.size
  have HAP1 := Lib.hid (apart_gt oH OK.out (Nat.le_refl _))
  replace OK := Lib.hid (OK.out.below b4)
  have OF := Lib.hid oF; have OH := Lib.hid oH
  obtain ⟨Ah, nh, ch, rfl, hnh, _, _, _⟩ := oH.rd
  subst hnh
  clear oF oH b4 OA
  go_wp2_with fail
  refine (impl_RunPlan _ _ d.plan (hbFree d.held (fwSent d.fwds xs)) _ (HP.out.on l4) OF.out.rd).mono ?_
  rintro e w5 ⟨vR, vS, rfl, oR, oS, hRS, b5⟩
  have l5 := later_trans l4 b5
  replace E2 := Lib.hid (blk_below E2.out b5)
  have HAP : Hid (apart vR vS ∧ apart vR (.slice Ah (hbHeld d.held (fwSent d.fwds xs)).length ch) ∧ apart vR (.slice Ak (fwStuck d.fwds xs).length ck) ∧ apart vS (.slice Ah (hbHeld d.held (fwSent d.fwds xs)).length ch) ∧ apart vS (.slice Ak (fwStuck d.fwds xs).length ck) ∧ apart (.slice Ah (hbHeld d.held (fwSent d.fwds xs)).length ch) (.slice Ak (fwStuck d.fwds xs).length ck)) :=
    ⟨hRS, apart_gt oR OH.out (Nat.le_refl _), apart_gt oR OK.out (Nat.le_refl _), apart_gt oS OH.out (Nat.le_refl _), apart_gt oS OK.out (Nat.le_refl _), HAP1.out⟩
  replace OK := Lib.hid (OK.out.below b5); replace OH := Lib.hid (OH.out.below b5)
  have OR := Lib.hid oR; have OS := Lib.hid oS
  obtain ⟨Ar, nr, cr, rfl, hnr, _, _, _⟩ := oR.rd
  subst hnr
  obtain ⟨As, ns, cs, rfl, hns, _, _, _⟩ := oS.rd
  subst hns
  clear oR oS hRS b5 OF HAP1 hAK hFH
  have k0 := blk_cell E2.out 0 (.slice none 0 0) rfl
  have k1 := blk_cell E2.out 1 (.slice none 0 0) rfl
  have k2 := blk_cell E2.out 2 (.slice none 0 0) rfl
  have k3 := blk_cell E2.out 3 (.slice none 0 0) rfl
  have kf := blk_free E2.out
  go_wp2_with fail
  refine out_box1 rfl rfl (four_set E2.out) Tryz.underlying33 rfl Tryz.sizeRpt rfl ?_
  have h1 := HSZ.out; have h2 := HSZ3.out; have h3 := HSZ4.out
  exact runDay_yes HFF.out (Nat.le_succ _) h1 (Nat.lt_of_lt_of_le h1 h2) (Nat.lt_of_lt_of_le h1 (Nat.le_trans h2 h3)) OR.out OS.out OH.out OK.out HAP.out (later_trans HT.out l5)

set_option maxRecDepth 100000 in
set_option maxHeartbeats 3200000 in
theorem spec_RunDay (v vb : Value) (d : Dy) (xs : List Ltr) (w : World) (hv : rdD w w.heap.size v d) (hb : rd w w.heap.size vb xs) :
    Calls Tryz.prog 9 #[v, vb] w (runDayPost 89 d xs w) := by
  obtain ⟨A0, c0, A1, c1, A2, c2, e0⟩ := openD hv
  obtain ⟨w0, hw0⟩ : ∃ w0, w0 = w.alloc (Obj.cells #[.int .i64 d.plan.bins, .int .i64 d.plan.passes, .slice A0 d.plan.order.length c0, .slice A1 d.fwds.length c1, .slice A2 d.held.length c2, .int .i64 d.size] 28) := ⟨_, rfl⟩
  have q0 := box_cells hw0 0 (.int .i64 d.plan.bins) rfl
  have q1 := box_cells hw0 1 (.int .i64 d.plan.passes) rfl
  have q2 := box_cells hw0 2 (.slice A0 d.plan.order.length c0) rfl
  have q3 := box_cells hw0 3 (.slice A1 d.fwds.length c1) rfl
  have q4 := box_cells hw0 4 (.slice A2 d.held.length c2) rfl
  have q5 := box_cells hw0 5 (.int .i64 d.size) rfl
  have HT := Lib.hid (box_later hw0).1
  have hv1 := hv.on HT.out
  subst e0
  have HD := Lib.hid hv1
  obtain ⟨hp, ho, hf, hh, hsz⟩ := partsD hv1
  have HP := Lib.hid hp; have HF := Lib.hid hf; have HH := Lib.hid hh
  clear hp ho hf hv hv1 hh hsz
  have HB := Lib.hid (hb.on HT.out)
  have hz0 : w0.heap.size = w.heap.size + 1 := by subst hw0; simp
  have HW0 := Lib.hid hw0; clear hw0 hb
  have l0 := Below.refl w0.heap.size w0
  obtain ⟨W, hW⟩ : ∃ W, W = w0.alloc (Obj.cells #[.slice none 0 0, .slice none 0 0, .slice none 0 0, .slice none 0 0] 33) := ⟨_, rfl⟩
  have lW : Below w0.heap.size w0 W := by subst hW; exact later_alloc l0 _
  have E2 : Hid (W.heap[w.heap.size + 1]? = some (.cells #[.slice none 0 0, .slice none 0 0, .slice none 0 0, .slice none 0 0] 33 (0, 0))) := by
    show _ = _
    rw [← hz0]
    subst hW
    exact heap_alloc_new w0 _
  have HZW : Hid (w.heap.size + 1 < W.heap.size) := by
    show _ < _
    subst hW
    simp
    omega
  have HZ0 := Lib.hid hz0; clear hz0
  have HW := Lib.hid hW; clear hW
  have HQ : Hid (rdOk d xs = (dayOk d && okB xs)) := rfl
  go_enter Tryz.func9, Tryz.ntmps9
  go_wp2_with fail
  rw [← HW0.out, ← HW.out]
  refine (spec_DayValid _ d _ (HD.out.on lW)).mono ?_
  rintro e w1 ⟨rfl, b1⟩
  have l1 := later_trans lW b1
  replace E2 := Lib.hid (blk_below E2.out b1)
  have k0 := blk_cell E2.out 0 (.slice none 0 0) rfl
  have k1 := blk_cell E2.out 1 (.slice none 0 0) rfl
  have k2 := blk_cell E2.out 2 (.slice none 0 0) rfl
  have k3 := blk_cell E2.out 3 (.slice none 0 0) rfl
  have kf := blk_free E2.out
  have hb0 : w.heap.size ≤ w.heap.size + 1 := Nat.le_succ _
  cases h1 : dayOk d
  · have HF : Hid (rdOk d xs = false) := by show _ = _; rw [HQ.out, h1]; rfl
    clear h1
    go_wp2_with fail
    refine out_box1 rfl rfl (four_set E2.out) Tryz.underlying33 rfl Tryz.sizeRpt rfl ?_
    exact runDay_no HF.out (later_set (later_set (later_set (later_set (later_trans HT.out l1) (p := ⟨w.heap.size + 1, 0, none⟩) hb0 _) (p := ⟨w.heap.size + 1, 1, none⟩) hb0 _) (p := ⟨w.heap.size + 1, 2, none⟩) hb0 _) (p := ⟨w.heap.size + 1, 3, none⟩) hb0 _)
  have H1 := Lib.hid h1; clear h1
  go_wp2_with fail
  refine (spec_BatchValid _ xs _ (HB.out.on l1)).mono ?_
  rintro e w2 ⟨rfl, b2⟩
  have l2 := later_trans l1 b2
  replace E2 := Lib.hid (blk_below E2.out b2)
  clear k0 k1 k2 k3 kf
  have k0 := blk_cell E2.out 0 (.slice none 0 0) rfl
  have k1 := blk_cell E2.out 1 (.slice none 0 0) rfl
  have k2 := blk_cell E2.out 2 (.slice none 0 0) rfl
  have k3 := blk_cell E2.out 3 (.slice none 0 0) rfl
  have kf := blk_free E2.out
  cases h2 : okB xs
  · have HF : Hid (rdOk d xs = false) := by show _ = _; rw [HQ.out, h2]; simp
    clear h2
    go_wp2_with fail
    refine out_box1 rfl rfl (four_set E2.out) Tryz.underlying33 rfl Tryz.sizeRpt rfl ?_
    exact runDay_no HF.out (later_set (later_set (later_set (later_set (later_trans HT.out l2) (p := ⟨w.heap.size + 1, 0, none⟩) hb0 _) (p := ⟨w.heap.size + 1, 1, none⟩) hb0 _) (p := ⟨w.heap.size + 1, 2, none⟩) hb0 _) (p := ⟨w.heap.size + 1, 3, none⟩) hb0 _)
  have HFF : Hid (rdOk d xs = true) := by show _ = _; rw [HQ.out, H1.out, h2]; rfl
  clear h2 k0 k1 k2 k3 kf hb0
  have HSZ : Hid (w.heap.size + 1 < w2.heap.size) := by
    have h1 := HZW.out; have h2 := b1.size; have h3 := b2.size
    show _ < _
    omega
  clear b1 b2
  go_wp2_with fail
  refine (spec_ForwardBatch _ _ d.fwds xs _ (HF.out.on l2) (HB.out.on l2)).mono ?_
  rintro e w3 ⟨vA, vK, rfl, oA, oK, hAK, b3⟩
  have l3 := later_trans l2 b3
  replace E2 := Lib.hid (blk_below E2.out b3)
  have HSZ3 : Hid (w2.heap.size ≤ w3.heap.size) := Lib.hid b3.size
  have OA := Lib.hid oA; have OK := Lib.hid oK
  obtain ⟨Ak, nk, ck, rfl, hnk, _, _, _⟩ := oK.rd
  subst hnk
  clear oA oK b3
  go_wp2_with fail
  refine (spec_HoldBatch _ _ (fwSent d.fwds xs) d.held _ OA.out.rd (HH.out.on l3)).mono ?_
  rintro e w4 ⟨vF, vH, rfl, oF, oH, hFH, b4⟩
  have l4 := later_trans l3 b4
  replace E2 := Lib.hid (blk_below E2.out b4)
  have HSZ4 : Hid (w3.heap.size ≤ w4.heap.size) := Lib.hid b4.size
  have HAP1 := Lib.hid (apart_gt oH OK.out (Nat.le_refl _))
  replace OK := Lib.hid (OK.out.below b4)
  have OF := Lib.hid oF; have OH := Lib.hid oH
  obtain ⟨Ah, nh, ch, rfl, hnh, _, _, _⟩ := oH.rd
  subst hnh
  clear oF oH b4 OA
  go_wp2_with fail
  refine (spec_RunPlan _ _ d.plan (hbFree d.held (fwSent d.fwds xs)) _ (HP.out.on l4) OF.out.rd).mono ?_
  rintro e w5 ⟨vR, vS, rfl, oR, oS, hRS, b5⟩
  have l5 := later_trans l4 b5
  replace E2 := Lib.hid (blk_below E2.out b5)
  have HAP : Hid (apart vR vS ∧ apart vR (.slice Ah (hbHeld d.held (fwSent d.fwds xs)).length ch) ∧ apart vR (.slice Ak (fwStuck d.fwds xs).length ck) ∧ apart vS (.slice Ah (hbHeld d.held (fwSent d.fwds xs)).length ch) ∧ apart vS (.slice Ak (fwStuck d.fwds xs).length ck) ∧ apart (.slice Ah (hbHeld d.held (fwSent d.fwds xs)).length ch) (.slice Ak (fwStuck d.fwds xs).length ck)) :=
    ⟨hRS, apart_gt oR OH.out (Nat.le_refl _), apart_gt oR OK.out (Nat.le_refl _), apart_gt oS OH.out (Nat.le_refl _), apart_gt oS OK.out (Nat.le_refl _), HAP1.out⟩
  replace OK := Lib.hid (OK.out.below b5); replace OH := Lib.hid (OH.out.below b5)
  have OR := Lib.hid oR; have OS := Lib.hid oS
  obtain ⟨Ar, nr, cr, rfl, hnr, _, _, _⟩ := oR.rd
  subst hnr
  obtain ⟨As, ns, cs, rfl, hns, _, _, _⟩ := oS.rd
  subst hns
  clear oR oS hRS b5 OF HAP1 hAK hFH
  have k0 := blk_cell E2.out 0 (.slice none 0 0) rfl
  have k1 := blk_cell E2.out 1 (.slice none 0 0) rfl
  have k2 := blk_cell E2.out 2 (.slice none 0 0) rfl
  have k3 := blk_cell E2.out 3 (.slice none 0 0) rfl
  have kf := blk_free E2.out
  go_wp2_with fail
  refine out_box1 rfl rfl (four_set E2.out) Tryz.underlying33 rfl Tryz.sizeRpt rfl ?_
  have h1 := HSZ.out; have h2 := HSZ3.out; have h3 := HSZ4.out
  exact runDay_yes HFF.out (Nat.le_succ _) h1 (Nat.lt_of_lt_of_le h1 h2) (Nat.lt_of_lt_of_le h1 (Nat.le_trans h2 h3)) OR.out OS.out OH.out OK.out HAP.out (later_trans HT.out l5)

end Go.Proofs.YtpinkbodbedajaaGreatDoor

namespace Go.Proofs.YtpinkbodbedajaaGreatDoor
open Go.RowKit

/-- A row of its own put in a place. -/
theorem isLL.put {α : Type} [Flat α] {T1 T2 base G n c : Nat} {w w1 : World} {vs : List Value} {xss : List (List α)} {ys : List α} {v' : Value} {d B : Nat}
    (h : isLL T1 T2 base w (.slice (some ⟨G, 0, none⟩) n c) xss vs) (hb : Below w.heap.size w w1)
    (hd : d < vs.length) (ho : own T2 B w1 v' ys) (hB : w.heap.size ≤ B) (hbase : base ≤ w.heap.size) :
    isLL T1 T2 base (w1.setCell ⟨G, d, none⟩ v') (.slice (some ⟨G, 0, none⟩) n c) (xss.set d ys) (vs.set d v') := by
  obtain ⟨h1, h2, h3, h4, h5⟩ := h
  have hv1 : v'.oneCell' = true := by
    rcases ho.form with ⟨rfl, _⟩ | ⟨g, c, rfl, _⟩ <;> rfl
  have q2 := (h1.below hb).setCell (k := d) (j := 0) hd (by decide) v' v' (fun ecs he => by
    obtain ⟨rfl, _⟩ := he
    exact ⟨rfl, hv1⟩)
  rw [show d * El.size Value + 0 = d from Nat.mul_one d] at q2
  have hset : w1.grownBy (w1.setCell ⟨G, d, none⟩ v') (some G) := grown_setCell (World.grownBy.refl _ _) (.inl rfl) _
  have hG := h1.blk G rfl
  have hvG : apart v' (.slice (some ⟨G, 0, none⟩) n c) := apart_gt ho h1 hB
  have hfar : ∀ i (hi : i < vs.length), apart v' vs[i] := fun i hi => apart_gt ho (h3 i hi (by omega)) hB
  refine ⟨q2, by simp [h2], fun k h h' => ?_, fun j k hj hk hne => ?_, fun k h => ?_⟩
  · by_cases hkd : k = d
    · subst hkd
      simp only [List.getElem_set_self]
      exact (ho.grown hset hvG).base_ (Nat.le_trans hbase hB)
    · rw [List.getElem_set_ne (by omega), List.getElem_set_ne (by omega)]
      have hk1 : k < vs.length := by simpa using h
      have hk2 : k < xss.length := by simpa using h'
      exact ((h3 k hk1 hk2).below hb).grown hset (h5 k hk1)
  · have hj' : j < vs.length := by simpa using hj
    have hk' : k < vs.length := by simpa using hk
    by_cases hjd : j = d
    · subst hjd
      simp only [List.getElem_set_self]
      rw [List.getElem_set_ne (by omega)]
      exact hfar k hk'
    · by_cases hkd : k = d
      · subst hkd
        simp only [List.getElem_set_self]
        rw [List.getElem_set_ne (by omega)]
        exact apart_symm (hfar j hj')
      · rw [List.getElem_set_ne (by omega), List.getElem_set_ne (by omega)]
        exact h4 j k hj' hk' hne
  · by_cases hkd : k = d
    · subst hkd; simp only [List.getElem_set_self]; exact hvG
    · rw [List.getElem_set_ne (by omega)]; exact h5 k (by simpa using h)


end Go.Proofs.YtpinkbodbedajaaGreatDoor

namespace Go.Proofs.YtpinkbodbedajaaGreatDoor
open Go.RowKit

theorem finished_len (p : Pln) (xss : List (List Ltr)) (k : Int) : (finished p xss k).length ≤ 60 := by
  unfold finished
  split
  · rename_i h
    unfold binsOk at h
    simp only [Bool.and_eq_true] at h
    exact Nat.le_trans (passesN_len _ _ _ _) (okB_len' h.2)
  · simp
theorem wrongL_len (p : Pln) (xss : List (List Ltr)) (k : Int) : (wrongL p xss k).length ≤ 60 := by
  unfold wrongL
  split
  · rename_i h
    unfold binsOk at h
    simp only [Bool.and_eq_true] at h
    have h1 := wrongTo_len (fun x => binI p x.code k.toNat) xss xss.length (Nat.le_refl _)
    rw [List.take_length] at h1
    exact Nat.le_trans h1 (okB_len' h.2)
  · simp
def sumLL (xss : List (List Ltr)) : Nat := (xss.map szL).sum
def szLL (xss : List (List Ltr)) : Nat := xss.length + sumLL xss
theorem sumLL_succ (xss : List (List Ltr)) (k : Nat) (h : k < xss.length) : sumLL (xss.take (k + 1)) = sumLL (xss.take k) + szL xss[k] := by
  unfold sumLL; rw [List.take_succ_eq_append_getElem h, List.map_append, List.sum_append]; simp
theorem sumLL_le (xss : List (List Ltr)) (k : Nat) : sumLL (xss.take k) ≤ sumLL xss := by
  unfold sumLL
  conv => rhs; rw [← List.take_append_drop k xss, List.map_append, List.sum_append]
  omega
theorem flatten_le_szLL (xss : List (List Ltr)) : xss.flatten.length ≤ szLL xss := by
  unfold szLL sumLL
  induction xss with
  | nil => simp
  | cons x xss ih =>
    simp only [List.flatten_cons, List.length_append, List.map_cons, List.sum_cons, List.length_cons]
    have : x.length ≤ szL x := by unfold szL; omega
    omega
theorem row_le_szLL {xss : List (List Ltr)} {k : Nat} (h : k < xss.length) : szL xss[k] ≤ szLL xss := by
  have h1 := sumLL_succ xss k h
  have h2 := sumLL_le xss (k + 1)
  unfold szLL; omega


/-- The first k rows laid, the others empty. -/
def laidTo (xss : List (List Ltr)) (k : Nat) : List (List Ltr) := xss.take k ++ List.replicate (xss.length - k) []
theorem laidTo_len {xss : List (List Ltr)} {k : Nat} (h : k ≤ xss.length) : (laidTo xss k).length = xss.length := by
  simp [laidTo]; omega
theorem laidTo_step {xss : List (List Ltr)} {k : Nat} (h : k < xss.length) : (laidTo xss k).set k xss[k] = laidTo xss (k + 1) := by
  unfold laidTo
  have hl : (xss.take k).length = k := by rw [List.length_take]; omega
  rw [List.set_append_right _ _ (by omega), hl, Nat.sub_self, show xss.length - k = (xss.length - (k + 1)) + 1 by omega, List.replicate_succ, List.set_cons_zero, List.take_succ_eq_append_getElem h, List.append_assoc]
  rfl
theorem laidTo_all (xss : List (List Ltr)) : laidTo xss xss.length = xss := by simp [laidTo]
theorem laidTo_nil (xss : List (List Ltr)) : laidTo xss 0 = List.replicate xss.length [] := by simp [laidTo]





end Go.Proofs.YtpinkbodbedajaaGreatDoor

namespace Go.Proofs.YtpinkbodbedajaaGreatDoor
open Go.RowKit

def marksLL (k0 : Nat) (xss : List (List Ltr)) : List (List Ltr) := (List.range xss.length).map fun i => marksL (k0 + 2 * (xss.take i).flatten.length) (xss.getD i []).length
theorem marksLL_len (k0 : Nat) (xss : List (List Ltr)) : (marksLL k0 xss).length = xss.length := by simp [marksLL]
theorem marksLL_get (k0 : Nat) (xss : List (List Ltr)) (i : Nat) (h : i < (marksLL k0 xss).length) : (marksLL k0 xss)[i] = marksL (k0 + 2 * (xss.take i).flatten.length) (xss[i]'(by rw [marksLL_len] at h; exact h)).length := by
  have h' : i < xss.length := by rw [marksLL_len] at h; exact h
  simp [marksLL, h']
/-- A row of rows and a row beside it, of the call's own, in blocks before hi. -/
def seg2 (T1 T2 lo hi : Nat) (w : World) (vB vO : Value) (xss : List (List Ltr)) (ys : List Ltr) : Prop :=
  ∃ vs, isLL T1 T2 lo w vB xss vs ∧ own T2 lo w vO ys ∧ farLL vO vB vs ∧ (∀ k, vB.ownBlock = some k → k < hi) ∧ (∀ i (h : i < vs.length) k, vs[i].ownBlock = some k → k < hi) ∧ ∀ k, vO.ownBlock = some k → k < hi
section
variable {T1 T2 lo hi : Nat} {w w' : World} {vB vO : Value} {xss : List (List Ltr)} {ys : List Ltr}
theorem seg2.of {vs : List Value} (h : isLL T1 T2 lo w vB xss vs) (ho : own T2 lo w vO ys) (hf : farLL vO vB vs) : seg2 T1 T2 lo w.heap.size w vB vO xss ys :=
  ⟨vs, h, ho, hf, fun k hk => (h.1.blk k hk).2, fun i hi k hk => ((h.2.2.1 i hi (by have := h.2.1; omega)).blk k hk).2, fun k hk => (ho.blk k hk).2⟩
theorem seg2.alone (h : ownLL T1 T2 lo w vB xss) : seg2 T1 T2 lo w.heap.size w vB (.slice none 0 0) xss [] := by
  obtain ⟨vs, h⟩ := h
  exact seg2.of h (own.nil_ _ _ _) ⟨.inl rfl, fun k hk => .inl rfl⟩
theorem seg2.below (h : seg2 T1 T2 lo hi w vB vO xss ys) (hb : Below w.heap.size w w') : seg2 T1 T2 lo hi w' vB vO xss ys := by
  obtain ⟨vs, h1, h2, h3, h4, h5, h6⟩ := h
  exact ⟨vs, h1.below hb, h2.below hb, h3, h4, h5, h6⟩
theorem seg2.out {a b : Nat} (h : seg2 T1 T2 lo hi w vB vO xss ys) (ho : OutI a b w w') (hd : hi ≤ a ∨ b ≤ lo) : seg2 T1 T2 lo hi w' vB vO xss ys := by
  obtain ⟨vs, ⟨g1, g2, g3, g4, g5⟩, h2, h3, h4, h5, h6⟩ := h
  refine ⟨vs, ⟨g1.keepBlk fun k hk => ho.block k (g1.blk k hk).2 (by have q1 := (g1.blk k hk).1; have q2 := h4 k hk; omega), g2, fun i hi hi' => ?_, g4, g5⟩, h2.keepBlk fun k hk => ho.block k (h2.blk k hk).2 (by have q1 := (h2.blk k hk).1; have q2 := h6 k hk; omega), h3, h4, h5, h6⟩
  exact (g3 i hi hi').keepBlk fun k hk => ho.block k ((g3 i hi hi').blk k hk).2 (by have q1 := ((g3 i hi hi').blk k hk).1; have q2 := h5 i hi k hk; omega)
theorem seg2.rdB (h : seg2 T1 T2 lo hi w vB vO xss ys) : rd w w.heap.size vB xss := by
  obtain ⟨vs, h1, _⟩ := h
  exact ownLL.rd ⟨vs, h1⟩
theorem seg2.rdO (h : seg2 T1 T2 lo hi w vB vO xss ys) : rd w w.heap.size vO ys := by
  obtain ⟨vs, h1, h2, _⟩ := h
  exact h2.rd
end




end Go.Proofs.YtpinkbodbedajaaGreatDoor

namespace Go.Proofs.YtpinkbodbedajaaGreatDoor
open Go.RowKit



end Go.Proofs.YtpinkbodbedajaaGreatDoor
