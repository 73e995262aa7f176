/- DC SR1 D1 -/
import Derived.Test.YtnlljekijlkigaaQ21
import Derived.Test.YtnlljekijlkigaaQ17
import Derived.Test.YtnlljekijlkigaaQ22
import Derived.Test.YtnlljekijlkigaaQ19
import Derived.Test.YtnlljekijlkigaaQ16
import Derived.Test.YtnlljekijlkigaaQ4
namespace Go.Proofs.Ytnlljekijlkigaa
open Go.RowKit

theorem Try.sizeRpt : (Try.prog.info? 33).map (·.size) = some 4 := by kernel_rfl
def runDayPost (T : TypeId) (d : Dy) (xs : List Ltr) (w : World) (e : Ending) (w' : World) : Prop :=
  ∃ vR, e = .returned (.tuple #[vR, .bool (rdOk d xs)]) ∧ ownR T w.heap.size w' vR (rptOf d xs) ∧ Below w.heap.size w w'
theorem runDay_no {T : TypeId} {d : Dy} {xs : List Ltr} {w w' : World} (h : rdOk d xs = false) (hb : Below w.heap.size w w') :
    runDayPost T d xs w (.returned (.tuple #[.agg #[.slice none 0 0, .slice none 0 0, .slice none 0 0, .slice none 0 0], .bool false])) w' :=
  ⟨_, by rw [h], by unfold rptOf; rw [h]; exact ownR.none_ _ _ _, hb⟩
theorem runDay_yes {T g b1 b2 b3 : Nat} {d : Dy} {xs : List Ltr} {w w5 : World} {vR vS vH vK : Value} (h : rdOk d xs = true) (hg : w.heap.size ≤ g) (h1 : g < b1) (h2 : g < b2) (h3 : g < b3)
    (oR : own T b3 w5 vR (dayRpt d xs).round) (oS : own T b3 w5 vS (dayRpt d xs).strange) (oH : own T b2 w5 vH (dayRpt d xs).held) (oK : own T b1 w5 vK (dayRpt d xs).stuck)
    (ha : apart vR vS ∧ apart vR vH ∧ apart vR vK ∧ apart vS vH ∧ apart vS vK ∧ apart vH vK) (hb : Below w.heap.size w w5) :
    runDayPost T d xs w (.returned (.tuple #[.agg #[vR, vS, vH, vK], .bool true])) ((((w5.setCell ⟨g, 0, none⟩ vR).setCell ⟨g, 1, none⟩ vS).setCell ⟨g, 2, none⟩ vH).setCell ⟨g, 3, none⟩ vK) := by
  have key : ∀ {b : Nat} {v : Value} {ys : List Ltr}, g < b → own T b w5 v ys → own T w.heap.size ((((w5.setCell ⟨g, 0, none⟩ vR).setCell ⟨g, 1, none⟩ vS).setCell ⟨g, 2, none⟩ vH).setCell ⟨g, 3, none⟩ vK) v ys := fun hlt ho =>
    (own_out (own_out (own_out (own_out ho ⟨g, 0, none⟩ vR hlt) ⟨g, 1, none⟩ vS hlt) ⟨g, 2, none⟩ vH hlt) ⟨g, 3, none⟩ vK hlt).base_ (Nat.le_of_lt (Nat.lt_of_le_of_lt hg hlt))
  refine ⟨_, by rw [h], ?_, later_set (later_set (later_set (later_set hb (p := ⟨g, 0, none⟩) hg vR) (p := ⟨g, 1, none⟩) hg vS) (p := ⟨g, 2, none⟩) hg vH) (p := ⟨g, 3, none⟩) hg vK⟩
  unfold rptOf
  rw [if_pos h]
  exact ⟨vR, vS, vH, vK, rfl, key h3 oR, key h3 oS, key h2 oH, key h1 oK, ha⟩

set_option maxRecDepth 100000 in
set_option maxHeartbeats 3200000 in
theorem impl_RunDay (v vb : Value) (d : Dy) (xs : List Ltr) (w : World) (hv : rdD w w.heap.size v d) (hb : rd w w.heap.size vb xs) :
    Calls Try.prog 15 #[v, vb] w (runDayPost 49 d xs w) := by
  obtain ⟨A0, c0, A1, c1, A2, c2, e0⟩ := openD hv
  obtain ⟨w0, hw0⟩ : ∃ w0, w0 = w.alloc (Obj.cells #[.int .i64 d.plan.bins, .int .i64 d.plan.passes, .slice A0 d.plan.order.length c0, .slice A1 d.fwds.length c1, .slice A2 d.held.length c2, .int .i64 d.size] 28) := ⟨_, rfl⟩
  have q0 := box_cells hw0 0 (.int .i64 d.plan.bins) rfl
  have q1 := box_cells hw0 1 (.int .i64 d.plan.passes) rfl
  have q2 := box_cells hw0 2 (.slice A0 d.plan.order.length c0) rfl
  have q3 := box_cells hw0 3 (.slice A1 d.fwds.length c1) rfl
  have q4 := box_cells hw0 4 (.slice A2 d.held.length c2) rfl
  have q5 := box_cells hw0 5 (.int .i64 d.size) rfl
  have HT := Lib.hid (box_later hw0).1
  have hv1 := hv.on HT.out
  subst e0
  have HD := Lib.hid hv1
  obtain ⟨hp, ho, hf, hh, hsz⟩ := partsD hv1
  have HP := Lib.hid hp; have HF := Lib.hid hf; have HH := Lib.hid hh
  clear hp ho hf hv hv1 hh hsz
  have HB := Lib.hid (hb.on HT.out)
  have hz0 : w0.heap.size = w.heap.size + 1 := by subst hw0; simp
  have HW0 := Lib.hid hw0; clear hw0 hb
  have l0 := Below.refl w0.heap.size w0
  obtain ⟨W, hW⟩ : ∃ W, W = w0.alloc (Obj.cells #[.slice none 0 0, .slice none 0 0, .slice none 0 0, .slice none 0 0] 33) := ⟨_, rfl⟩
  have lW : Below w0.heap.size w0 W := by subst hW; exact later_alloc l0 _
  have E2 : Hid (W.heap[w.heap.size + 1]? = some (.cells #[.slice none 0 0, .slice none 0 0, .slice none 0 0, .slice none 0 0] 33 (0, 0))) := by
    show _ = _
    rw [← hz0]
    subst hW
    exact heap_alloc_new w0 _
  have HZW : Hid (w.heap.size + 1 < W.heap.size) := by
    show _ < _
    subst hW
    simp
    omega
  have HZ0 := Lib.hid hz0; clear hz0
  have HW := Lib.hid hW; clear hW
  have HQ : Hid (rdOk d xs = (dayOk d && okB xs)) := rfl
  go_enter Try.func15, Try.ntmps15
  go_wp2_with fail
  rw [← HW0.out, ← HW.out]
  refine (impl_DayValid _ d _ (HD.out.on lW)).mono ?_
  rintro e w1 ⟨rfl, b1⟩
  have l1 := later_trans lW b1
  replace E2 := Lib.hid (blk_below E2.out b1)
  have k0 := blk_cell E2.out 0 (.slice none 0 0) rfl
  have k1 := blk_cell E2.out 1 (.slice none 0 0) rfl
  have k2 := blk_cell E2.out 2 (.slice none 0 0) rfl
  have k3 := blk_cell E2.out 3 (.slice none 0 0) rfl
  have kf := blk_free E2.out
  have hb0 : w.heap.size ≤ w.heap.size + 1 := Nat.le_succ _
  cases h1 : dayOk d
  · have HF : Hid (rdOk d xs = false) := by show _ = _; rw [HQ.out, h1]; rfl
    clear h1
    go_wp2_with fail
    refine out_box1 rfl rfl (four_set E2.out) Try.underlying33 rfl Try.sizeRpt rfl ?_
    exact runDay_no HF.out (later_set (later_set (later_set (later_set (later_trans HT.out l1) (p := ⟨w.heap.size + 1, 0, none⟩) hb0 _) (p := ⟨w.heap.size + 1, 1, none⟩) hb0 _) (p := ⟨w.heap.size + 1, 2, none⟩) hb0 _) (p := ⟨w.heap.size + 1, 3, none⟩) hb0 _)
  have H1 := Lib.hid h1; clear h1
  go_wp2_with fail
  refine (impl_BatchValid _ xs _ (HB.out.on l1)).mono ?_
  rintro e w2 ⟨rfl, b2⟩
  have l2 := later_trans l1 b2
  replace E2 := Lib.hid (blk_below E2.out b2)
  clear k0 k1 k2 k3 kf
  have k0 := blk_cell E2.out 0 (.slice none 0 0) rfl
  have k1 := blk_cell E2.out 1 (.slice none 0 0) rfl
  have k2 := blk_cell E2.out 2 (.slice none 0 0) rfl
  have k3 := blk_cell E2.out 3 (.slice none 0 0) rfl
  have kf := blk_free E2.out
  cases h2 : okB xs
  · have HF : Hid (rdOk d xs = false) := by show _ = _; rw [HQ.out, h2]; simp
    clear h2
    go_wp2_with fail
    refine out_box1 rfl rfl (four_set E2.out) Try.underlying33 rfl Try.sizeRpt rfl ?_
    exact runDay_no HF.out (later_set (later_set (later_set (later_set (later_trans HT.out l2) (p := ⟨w.heap.size + 1, 0, none⟩) hb0 _) (p := ⟨w.heap.size + 1, 1, none⟩) hb0 _) (p := ⟨w.heap.size + 1, 2, none⟩) hb0 _) (p := ⟨w.heap.size + 1, 3, none⟩) hb0 _)
  have HFF : Hid (rdOk d xs = true) := by show _ = _; rw [HQ.out, H1.out, h2]; rfl
  clear h2 k0 k1 k2 k3 kf hb0
  have HSZ : Hid (w.heap.size + 1 < w2.heap.size) := by
    have h1 := HZW.out; have h2 := b1.size; have h3 := b2.size
    show _ < _
    omega
  clear b1 b2
  go_wp2_with fail
  refine (impl_ForwardBatch _ _ d.fwds xs _ (HF.out.on l2) (HB.out.on l2)).mono ?_
  rintro e w3 ⟨vA, vK, rfl, oA, oK, hAK, b3⟩
  have l3 := later_trans l2 b3
  replace E2 := Lib.hid (blk_below E2.out b3)
  have HSZ3 : Hid (w2.heap.size ≤ w3.heap.size) := Lib.hid b3.size
  have OA := Lib.hid oA; have OK := Lib.hid oK
  obtain ⟨Ak, nk, ck, rfl, hnk, _, _, _⟩ := oK.rd
  subst hnk
  clear oA oK b3
  go_wp2_with fail
  refine (impl_HoldBatch _ _ (fwSent d.fwds xs) d.held _ OA.out.rd (HH.out.on l3)).mono ?_
  rintro e w4 ⟨vF, vH, rfl, oF, oH, hFH, b4⟩
  have l4 := later_trans l3 b4
  replace E2 := Lib.hid (blk_below E2.out b4)
  have HSZ4 : Hid (w3.heap.size ≤ w4.heap.size) := Lib.hid b4.size
  have HAP1 := Lib.hid (apart_gt oH OK.out (Nat.le_refl _))
  replace OK := Lib.hid (OK.out.below b4)
  have OF := Lib.hid oF; have OH := Lib.hid oH
  obtain ⟨Ah, nh, ch, rfl, hnh, _, _, _⟩ := oH.rd
  subst hnh
  clear oF oH b4 OA
  go_wp2_with fail
  refine (impl_RunPlan _ _ d.plan (hbFree d.held (fwSent d.fwds xs)) _ (HP.out.on l4) OF.out.rd).mono ?_
  rintro e w5 ⟨vR, vS, rfl, oR, oS, hRS, b5⟩
  have l5 := later_trans l4 b5
  replace E2 := Lib.hid (blk_below E2.out b5)
  have HAP : Hid (apart vR vS ∧ apart vR (.slice Ah (hbHeld d.held (fwSent d.fwds xs)).length ch) ∧ apart vR (.slice Ak (fwStuck d.fwds xs).length ck) ∧ apart vS (.slice Ah (hbHeld d.held (fwSent d.fwds xs)).length ch) ∧ apart vS (.slice Ak (fwStuck d.fwds xs).length ck) ∧ apart (.slice Ah (hbHeld d.held (fwSent d.fwds xs)).length ch) (.slice Ak (fwStuck d.fwds xs).length ck)) :=
    ⟨hRS, apart_gt oR OH.out (Nat.le_refl _), apart_gt oR OK.out (Nat.le_refl _), apart_gt oS OH.out (Nat.le_refl _), apart_gt oS OK.out (Nat.le_refl _), HAP1.out⟩
  replace OK := Lib.hid (OK.out.below b5); replace OH := Lib.hid (OH.out.below b5)
  have OR := Lib.hid oR; have OS := Lib.hid oS
  obtain ⟨Ar, nr, cr, rfl, hnr, _, _, _⟩ := oR.rd
  subst hnr
  obtain ⟨As, ns, cs, rfl, hns, _, _, _⟩ := oS.rd
  subst hns
  clear oR oS hRS b5 OF HAP1 hAK hFH
  have k0 := blk_cell E2.out 0 (.slice none 0 0) rfl
  have k1 := blk_cell E2.out 1 (.slice none 0 0) rfl
  have k2 := blk_cell E2.out 2 (.slice none 0 0) rfl
  have k3 := blk_cell E2.out 3 (.slice none 0 0) rfl
  have kf := blk_free E2.out
  go_wp2_with fail
  refine out_box1 rfl rfl (four_set E2.out) Try.underlying33 rfl Try.sizeRpt rfl ?_
  have h1 := HSZ.out; have h2 := HSZ3.out; have h3 := HSZ4.out
  exact runDay_yes HFF.out (Nat.le_succ _) h1 (Nat.lt_of_lt_of_le h1 h2) (Nat.lt_of_lt_of_le h1 (Nat.le_trans h2 h3)) OR.out OS.out OH.out OK.out HAP.out (later_trans HT.out l5)

set_option maxRecDepth 100000 in
set_option maxHeartbeats 3200000 in
theorem spec_RunDay (v vb : Value) (d : Dy) (xs : List Ltr) (w : World) (hv : rdD w w.heap.size v d) (hb : rd w w.heap.size vb xs) :
    Calls Try.prog 16 #[v, vb] w (runDayPost 49 d xs w) := by
  obtain ⟨A0, c0, A1, c1, A2, c2, e0⟩ := openD hv
  obtain ⟨w0, hw0⟩ : ∃ w0, w0 = w.alloc (Obj.cells #[.int .i64 d.plan.bins, .int .i64 d.plan.passes, .slice A0 d.plan.order.length c0, .slice A1 d.fwds.length c1, .slice A2 d.held.length c2, .int .i64 d.size] 28) := ⟨_, rfl⟩
  have q0 := box_cells hw0 0 (.int .i64 d.plan.bins) rfl
  have q1 := box_cells hw0 1 (.int .i64 d.plan.passes) rfl
  have q2 := box_cells hw0 2 (.slice A0 d.plan.order.length c0) rfl
  have q3 := box_cells hw0 3 (.slice A1 d.fwds.length c1) rfl
  have q4 := box_cells hw0 4 (.slice A2 d.held.length c2) rfl
  have q5 := box_cells hw0 5 (.int .i64 d.size) rfl
  have HT := Lib.hid (box_later hw0).1
  have hv1 := hv.on HT.out
  subst e0
  have HD := Lib.hid hv1
  obtain ⟨hp, ho, hf, hh, hsz⟩ := partsD hv1
  have HP := Lib.hid hp; have HF := Lib.hid hf; have HH := Lib.hid hh
  clear hp ho hf hv hv1 hh hsz
  have HB := Lib.hid (hb.on HT.out)
  have hz0 : w0.heap.size = w.heap.size + 1 := by subst hw0; simp
  have HW0 := Lib.hid hw0; clear hw0 hb
  have l0 := Below.refl w0.heap.size w0
  obtain ⟨W, hW⟩ : ∃ W, W = w0.alloc (Obj.cells #[.slice none 0 0, .slice none 0 0, .slice none 0 0, .slice none 0 0] 33) := ⟨_, rfl⟩
  have lW : Below w0.heap.size w0 W := by subst hW; exact later_alloc l0 _
  have E2 : Hid (W.heap[w.heap.size + 1]? = some (.cells #[.slice none 0 0, .slice none 0 0, .slice none 0 0, .slice none 0 0] 33 (0, 0))) := by
    show _ = _
    rw [← hz0]
    subst hW
    exact heap_alloc_new w0 _
  have HZW : Hid (w.heap.size + 1 < W.heap.size) := by
    show _ < _
    subst hW
    simp
    omega
  have HZ0 := Lib.hid hz0; clear hz0
  have HW := Lib.hid hW; clear hW
  have HQ : Hid (rdOk d xs = (dayOk d && okB xs)) := rfl
  go_enter Try.func16, Try.ntmps16
  go_wp2_with fail
  rw [← HW0.out, ← HW.out]
  refine (spec_DayValid _ d _ (HD.out.on lW)).mono ?_
  rintro e w1 ⟨rfl, b1⟩
  have l1 := later_trans lW b1
  replace E2 := Lib.hid (blk_below E2.out b1)
  have k0 := blk_cell E2.out 0 (.slice none 0 0) rfl
  have k1 := blk_cell E2.out 1 (.slice none 0 0) rfl
  have k2 := blk_cell E2.out 2 (.slice none 0 0) rfl
  have k3 := blk_cell E2.out 3 (.slice none 0 0) rfl
  have kf := blk_free E2.out
  have hb0 : w.heap.size ≤ w.heap.size + 1 := Nat.le_succ _
  cases h1 : dayOk d
  · have HF : Hid (rdOk d xs = false) := by show _ = _; rw [HQ.out, h1]; rfl
    clear h1
    go_wp2_with fail
    refine out_box1 rfl rfl (four_set E2.out) Try.underlying33 rfl Try.sizeRpt rfl ?_
    exact runDay_no HF.out (later_set (later_set (later_set (later_set (later_trans HT.out l1) (p := ⟨w.heap.size + 1, 0, none⟩) hb0 _) (p := ⟨w.heap.size + 1, 1, none⟩) hb0 _) (p := ⟨w.heap.size + 1, 2, none⟩) hb0 _) (p := ⟨w.heap.size + 1, 3, none⟩) hb0 _)
  have H1 := Lib.hid h1; clear h1
  go_wp2_with fail
  refine (spec_BatchValid _ xs _ (HB.out.on l1)).mono ?_
  rintro e w2 ⟨rfl, b2⟩
  have l2 := later_trans l1 b2
  replace E2 := Lib.hid (blk_below E2.out b2)
  clear k0 k1 k2 k3 kf
  have k0 := blk_cell E2.out 0 (.slice none 0 0) rfl
  have k1 := blk_cell E2.out 1 (.slice none 0 0) rfl
  have k2 := blk_cell E2.out 2 (.slice none 0 0) rfl
  have k3 := blk_cell E2.out 3 (.slice none 0 0) rfl
  have kf := blk_free E2.out
  cases h2 : okB xs
  · have HF : Hid (rdOk d xs = false) := by show _ = _; rw [HQ.out, h2]; simp
    clear h2
    go_wp2_with fail
    refine out_box1 rfl rfl (four_set E2.out) Try.underlying33 rfl Try.sizeRpt rfl ?_
    exact runDay_no HF.out (later_set (later_set (later_set (later_set (later_trans HT.out l2) (p := ⟨w.heap.size + 1, 0, none⟩) hb0 _) (p := ⟨w.heap.size + 1, 1, none⟩) hb0 _) (p := ⟨w.heap.size + 1, 2, none⟩) hb0 _) (p := ⟨w.heap.size + 1, 3, none⟩) hb0 _)
  have HFF : Hid (rdOk d xs = true) := by show _ = _; rw [HQ.out, H1.out, h2]; rfl
  clear h2 k0 k1 k2 k3 kf hb0
  have HSZ : Hid (w.heap.size + 1 < w2.heap.size) := by
    have h1 := HZW.out; have h2 := b1.size; have h3 := b2.size
    show _ < _
    omega
  clear b1 b2
  go_wp2_with fail
  refine (spec_ForwardBatch _ _ d.fwds xs _ (HF.out.on l2) (HB.out.on l2)).mono ?_
  rintro e w3 ⟨vA, vK, rfl, oA, oK, hAK, b3⟩
  have l3 := later_trans l2 b3
  replace E2 := Lib.hid (blk_below E2.out b3)
  have HSZ3 : Hid (w2.heap.size ≤ w3.heap.size) := Lib.hid b3.size
  have OA := Lib.hid oA; have OK := Lib.hid oK
  obtain ⟨Ak, nk, ck, rfl, hnk, _, _, _⟩ := oK.rd
  subst hnk
  clear oA oK b3
  go_wp2_with fail
  refine (spec_HoldBatch _ _ (fwSent d.fwds xs) d.held _ OA.out.rd (HH.out.on l3)).mono ?_
  rintro e w4 ⟨vF, vH, rfl, oF, oH, hFH, b4⟩
  have l4 := later_trans l3 b4
  replace E2 := Lib.hid (blk_below E2.out b4)
  have HSZ4 : Hid (w3.heap.size ≤ w4.heap.size) := Lib.hid b4.size
  have HAP1 := Lib.hid (apart_gt oH OK.out (Nat.le_refl _))
  replace OK := Lib.hid (OK.out.below b4)
  have OF := Lib.hid oF; have OH := Lib.hid oH
  obtain ⟨Ah, nh, ch, rfl, hnh, _, _, _⟩ := oH.rd
  subst hnh
  clear oF oH b4 OA
  go_wp2_with fail
  refine (spec_RunPlan _ _ d.plan (hbFree d.held (fwSent d.fwds xs)) _ (HP.out.on l4) OF.out.rd).mono ?_
  rintro e w5 ⟨vR, vS, rfl, oR, oS, hRS, b5⟩
  have l5 := later_trans l4 b5
  replace E2 := Lib.hid (blk_below E2.out b5)
  have HAP : Hid (apart vR vS ∧ apart vR (.slice Ah (hbHeld d.held (fwSent d.fwds xs)).length ch) ∧ apart vR (.slice Ak (fwStuck d.fwds xs).length ck) ∧ apart vS (.slice Ah (hbHeld d.held (fwSent d.fwds xs)).length ch) ∧ apart vS (.slice Ak (fwStuck d.fwds xs).length ck) ∧ apart (.slice Ah (hbHeld d.held (fwSent d.fwds xs)).length ch) (.slice Ak (fwStuck d.fwds xs).length ck)) :=
    ⟨hRS, apart_gt oR OH.out (Nat.le_refl _), apart_gt oR OK.out (Nat.le_refl _), apart_gt oS OH.out (Nat.le_refl _), apart_gt oS OK.out (Nat.le_refl _), HAP1.out⟩
  replace OK := Lib.hid (OK.out.below b5); replace OH := Lib.hid (OH.out.below b5)
  have OR := Lib.hid oR; have OS := Lib.hid oS
  obtain ⟨Ar, nr, cr, rfl, hnr, _, _, _⟩ := oR.rd
  subst hnr
  obtain ⟨As, ns, cs, rfl, hns, _, _, _⟩ := oS.rd
  subst hns
  clear oR oS hRS b5 OF HAP1 hAK hFH
  have k0 := blk_cell E2.out 0 (.slice none 0 0) rfl
  have k1 := blk_cell E2.out 1 (.slice none 0 0) rfl
  have k2 := blk_cell E2.out 2 (.slice none 0 0) rfl
  have k3 := blk_cell E2.out 3 (.slice none 0 0) rfl
  have kf := blk_free E2.out
  go_wp2_with fail
  refine out_box1 rfl rfl (four_set E2.out) Try.underlying33 rfl Try.sizeRpt rfl ?_
  have h1 := HSZ.out; have h2 := HSZ3.out; have h3 := HSZ4.out
  exact runDay_yes HFF.out (Nat.le_succ _) h1 (Nat.lt_of_lt_of_le h1 h2) (Nat.lt_of_lt_of_le h1 (Nat.le_trans h2 h3)) OR.out OS.out OH.out OK.out HAP.out (later_trans HT.out l5)

end Go.Proofs.Ytnlljekijlkigaa

namespace Go.Proofs.Ytnlljekijlkigaa
open Go.RowKit

set_option maxRecDepth 100000 in
set_option maxHeartbeats 1600000 in
theorem so_reports (v v' : Value) (r : Rpt) (w : World) (hv : rdR w w.heap.size v r) (hv' : rdR w w.heap.size v' r) :
    Calls Try.prog 17 #[v, v'] w fun e w' => e = .returned (.bool true) ∧ Below w.heap.size w w' := by
  obtain ⟨A0, a0, A1, a1, A2, a2, A3, a3, e0⟩ := openR hv
  obtain ⟨B0, b0, B1, b1, B2, b2, B3, b3, e1⟩ := openR hv'
  obtain ⟨wa, hwa⟩ : ∃ wa, wa = w.alloc (Obj.cells #[.slice A0 r.round.length a0, .slice A1 r.strange.length a1, .slice A2 r.held.length a2, .slice A3 r.stuck.length a3] 33) := ⟨_, rfl⟩
  obtain ⟨wb, hwb⟩ : ∃ wb, wb = wa.alloc (Obj.cells #[.slice B0 r.round.length b0, .slice B1 r.strange.length b1, .slice B2 r.held.length b2, .slice B3 r.stuck.length b3] 33) := ⟨_, rfl⟩
  have q0 := fun W h => box_cells hwa 0 (.slice A0 r.round.length a0) rfl W (later_trans (box_later hwb).1 h)
  have q1 := fun W h => box_cells hwa 1 (.slice A1 r.strange.length a1) rfl W (later_trans (box_later hwb).1 h)
  have q2 := fun W h => box_cells hwa 2 (.slice A2 r.held.length a2) rfl W (later_trans (box_later hwb).1 h)
  have q3 := fun W h => box_cells hwa 3 (.slice A3 r.stuck.length a3) rfl W (later_trans (box_later hwb).1 h)
  have r0 := box_cells hwb 0 (.slice B0 r.round.length b0) rfl
  have r1 := box_cells hwb 1 (.slice B1 r.strange.length b1) rfl
  have r2 := box_cells hwb 2 (.slice B2 r.held.length b2) rfl
  have r3 := box_cells hwb 3 (.slice B3 r.stuck.length b3) rfl
  have HT := Lib.hid (later_trans (box_later hwa).1 (box_later hwb).1)
  have h1 := hv.on HT.out
  have h2 := hv'.on HT.out
  subst e0 e1
  obtain ⟨p0, p1, p2, p3⟩ := partsR h1
  obtain ⟨s0, s1, s2, s3⟩ := partsR h2
  have P0 := Lib.hid p0; have P1 := Lib.hid p1; have P2 := Lib.hid p2; have P3 := Lib.hid p3
  have S0 := Lib.hid s0; have S1 := Lib.hid s1; have S2 := Lib.hid s2; have S3 := Lib.hid s3
  have hza : wa.heap.size = w.heap.size + 1 := by subst hwa; simp
  rw [hza] at r0 r1 r2 r3
  clear hv hv' h1 h2 p0 p1 p2 p3 s0 s1 s2 s3 hza
  have HWA := Lib.hid hwa; have HWB := Lib.hid hwb
  clear hwa hwb
  have l0 := Below.refl wb.heap.size wb
  go_enter Try.func17, Try.ntmps17
  go_wp2_with fail
  rw [← HWA.out, ← HWB.out]
  refine (so_batch _ _ r.round _ P0.out S0.out).mono ?_
  rintro e w1 ⟨rfl, c1⟩
  have l1 := later_trans l0 c1
  go_wp2_with fail
  refine (so_batch _ _ r.strange _ (P1.out.on l1) (S1.out.on l1)).mono ?_
  rintro e w2 ⟨rfl, c2⟩
  have l2 := later_trans l1 c2
  go_wp2_with fail
  refine (so_batch _ _ r.held _ (P2.out.on l2) (S2.out.on l2)).mono ?_
  rintro e w3 ⟨rfl, c3⟩
  have l3 := later_trans l2 c3
  go_wp2_with fail
  refine (so_batch _ _ r.stuck _ (P3.out.on l3) (S3.out.on l3)).mono ?_
  rintro e w4 ⟨rfl, c4⟩
  have l4 := later_trans l3 c4
  go_wp2_with fail
  go_ret
  exact ⟨rfl, later_trans HT.out l4⟩

end Go.Proofs.Ytnlljekijlkigaa

namespace Go.Proofs.Ytnlljekijlkigaa
open Go.RowKit

theorem list_own (T base : Nat) (w : World) (xs : List Int) (hx : ∀ x ∈ xs, isI64 x) (hm : xs.length ≤ maxLen) (hb : base ≤ w.heap.size) :
    own T base (w.alloc (.cells (xs.map (Value.int .i64)).toArray T)) (.slice (some ⟨w.heap.size, 0, none⟩) xs.length xs.length) xs := by
  have h1 : (xs.map fun x => [Value.int .i64 x]).flatten = xs.map (Value.int .i64) := by
    clear hm hx
    induction xs with
    | nil => rfl
    | cons x xs ih => simp [ih]
  refine ⟨xs.map fun x => [Value.int .i64 x], ⟨?_, .inr ⟨w.heap.size, xs.length, _, rfl, hb, heap_alloc_new w _, Nat.le_refl _, hm, by simp [El.size], ?_⟩⟩, by simp, fun k hk hk' => ?_⟩
  · rw [h1]
    simp [El.size]
  · rw [h1]
    simp only [El.size, Nat.mul_one]
    exact List.take_of_length_le (by simp)
  · simp only [List.getElem_map]
    exact ⟨hx _ (List.getElem_mem hk), rfl⟩

theorem rd_open (v : Value) (bs : List UInt8) (w : World) (hv : rd w w.heap.size v bs) :
    Calls Try.prog 66 #[v] w fun e w' => ∃ g, e = .returned (.pointer (some ⟨g, 0, none⟩)) ∧ w.heap.size ≤ g ∧ rdr w' g 0 ∧ Below w.heap.size w w' := by
  obtain ⟨A, n, c, rfl, hn, hc, hm, hr⟩ := hv
  subst hn
  have HM := hm
  unfold maxLen at hm
  have HR := Lib.hid hr; clear hr
  have HMM := Lib.hid HM; clear HM
  go_enter Try.func66, Try.ntmps66
  by_cases h : 2000 < bs.length
  · have HH : Hid (rdr (w.alloc (Obj.cells #[Value.slice A 2000 c, Value.int IntKind.i64 0] 144)) w.heap.size 0) :=
      ⟨A, 2000, c, bs.take 2000, heap_alloc_new w _, by simp; omega, Nat.le_refl _, by omega, HMM.out, (HR.out.take 2000).keep fun p hp => World.cell?_alloc_lt w _ p hp⟩
    go_wp2
    go_ret
    exact ⟨w.heap.size, rfl, Nat.le_refl _, HH.out, (Below.refl _ _).alloc (Nat.le_refl _) _⟩
  · have HH : Hid (rdr (w.alloc (Obj.cells #[Value.slice A bs.length c, Value.int IntKind.i64 0] 144)) w.heap.size 0) :=
      ⟨A, bs.length, c, bs, heap_alloc_new w _, rfl, by omega, hc, HMM.out, HR.out.keep fun p hp => World.cell?_alloc_lt w _ p hp⟩
    go_wp2
    go_ret
    exact ⟨w.heap.size, rfl, Nat.le_refl _, HH.out, (Below.refl _ _).alloc (Nat.le_refl _) _⟩

set_option maxHeartbeats 400000 in
theorem rd_num (T g p : Nat) (v : Value) (xs : List Int) (w : World) (hr : rdr w g p) (hp : p ≤ 1099511627776) (hv : own T (g + 1) w v xs) (h0 : 0 < xs.length) :
    Calls Try.prog 122 #[.pointer (some ⟨g, 0, none⟩), v] w fun e w' => ∃ x ∈ xs, e = .returned (.int .i64 x) ∧ rdr w' g (p + 1) ∧ w.grownBy w' (some g) := by
  have hlen : xs.length ≤ maxLen := by
    obtain ⟨A, n, c, _, hn, hc, hm, _⟩ := hv.rd
    omega
  have hne : v.ownBlock = none ∨ v.ownBlock ≠ some g := by
    cases hb : v.ownBlock with
    | none => exact .inl rfl
    | some k => exact .inr fun e => by have := (hv.blk k hb).1; injection e; omega
  have HV := Lib.hid (fun (W : World) (hg : w.grownBy W (some g)) => (hv.grown hg hne).rd)
  obtain ⟨A, n, c, rfl, hn, hc, hm, _⟩ := hv.rd
  subst hn
  unfold maxLen at hm
  clear hne hv
  go_enter Try.func122, Try.ntmps122
  go_wp2_with fail
  refine (rd_pick g p _ w hr hp ⟨by omega, by omega⟩).mono ?_
  rintro e w1 ⟨x, rfl, hx, hr1, hg⟩
  obtain ⟨x0, x1⟩ := hx.2 (by omega)
  obtain ⟨q, rfl⟩ := Int.eq_ofNat_of_zero_le x0
  obtain ⟨A', n', c', e1, _, _, _, hrd⟩ := HV.out w1 hg
  injection e1 with e1 e2 e3
  subst e1
  obtain ⟨b, o, rfl, hb, hi, c1⟩ := hrd.int q (by omega)
  have hmem : xs[q]'(by omega) ∈ xs := List.getElem_mem _
  generalize xs[q] = y at *
  have HM := Lib.hid hmem; clear hmem hx e2 e3
  go_wp2
  go_ret
  exact ⟨y, HM.out, rfl, hr1, hg⟩

/-- The decimal text of a number that is not negative. -/
def decL (n : Nat) : List UInt8 := if n = 0 then [48] else dec10 n
def decB (n : Nat) : ByteArray := ⟨(decL n).toArray⟩
theorem dec10_small {m : Nat} (h0 : 0 < m) (h : m ≤ 9) : dec10 m = [b8 (48 + m)] := by
  rw [dec10_step h0, show m / 10 = 0 by omega, show m % 10 = m by omega, show dec10 0 = [] by rw [dec10]]
  unfold b8
  rw [show (48 + (m : Int)).toNat = 48 + m by omega]
  rfl

set_option maxHeartbeats 400000 in
theorem spec_l9Dec (n : Nat) (w : World) (hn : n ≤ 9223372036854775807) :
    Calls Try.prog 162 #[.int .i64 n] w fun e w' => e = .returned (.string (decB n)) ∧ Below w.heap.size w w' := by
  have hbs := byteString
  have h0 : (0 : Int) ≤ (n : Int) := by omega
  go_enter Try.func162, Try.ntmps162
  go_wp2
  go_loopw [0, 3] (fun t s wr => ∃ (m : Nat) (u : ByteArray), m ≤ n ∧ t = .int .i64 m ∧ s = .string u ∧ u.size ≤ 20 ∧ Hid (n = 0 ∧ m = 0 ∧ u = ⟨#[]⟩ ∨ 0 < m ∧ dec10 n = dec10 m ++ u.data.toList) ∧ Hid (m * 10 ^ u.size ≤ n) ∧ Below w.heap.size w wr) (fun t _ _ => (intOf t).toNat)
  case atStart =>
    refine ⟨n, _, Nat.le_refl _, rfl, rfl, Nat.zero_le _, ?_, (by show n * 10 ^ 0 ≤ n; omega), Below.refl _ _⟩
    by_cases h : n = 0
    · exact .inl ⟨h, h, rfl⟩
    · exact .inr ⟨by omega, by simp⟩
  case round =>
    obtain ⟨m, u, hm, rfl, rfl, hu, HD, HP, hbl⟩ := hrel
    obtain ⟨w1, rfl⟩ : ∃ w1 : World, w1 = wr := ⟨_, rfl⟩
    by_cases h9 : 9 < m
    · have hu19 : u.size ≤ 19 := by
        apply Classical.byContradiction
        intro hc
        have h1 := HP.out
        have h2 : 10 ^ 20 ≤ 10 ^ u.size := Nat.pow_le_pow_right (by omega) (by omega)
        have h3 : 10 * 10 ^ 20 ≤ m * 10 ^ u.size := Nat.mul_le_mul (by omega) h2
        omega
      go_wp2
      go_roundw
      case rel =>
        refine ⟨m / 10, _, by omega, by go_num, rfl, by rw [ByteArray.size_append]; show 1 + _ ≤ 20; omega, .inr ⟨by omega, ?_⟩, ?_, hbl.alloc hbl.size _⟩
        · rcases HD.out with ⟨_, h, _⟩ | ⟨_, h⟩
          · omega
          · rw [h, ba_append, dec10_step (n := m) (by omega), List.append_assoc]
            show _ = dec10 (m / 10) ++ ([b8 (48 + (m : Int) % 10)] ++ _)
            unfold b8
            rw [show (48 + (m : Int) % 10).toNat = 48 + m % 10 by omega]
        · show _ ≤ _
          have h1 := HP.out
          have h2 : (m / 10) * 10 ≤ m := Nat.div_mul_le_self _ _
          rw [ByteArray.size_append, show (ByteArray.mk #[b8 (48 + (m : Int) % 10)]).size = 1 from rfl, Nat.pow_add, Nat.pow_one, ← Nat.mul_assoc]
          exact Nat.le_trans (Nat.mul_le_mul_right _ h2) h1
      case measure => simp [intOf]; omega
    · go_wp2
      go_ret
      refine ⟨ret_str ?_, hbl.alloc hbl.size _⟩
      apply ba_ext
      rw [ba_append]
      rcases HD.out with ⟨h1, h2, h3⟩ | ⟨h1, h2⟩
      · subst h1 h2 h3
        rfl
      · show _ = decL n
        unfold decL
        rw [if_neg (by omega), h2, dec10_small h1 (by omega)]

/-- The last k decimal digits of a number. -/
def showL : Nat → Nat → List UInt8
  | _, 0 => []
  | n, k + 1 => showL (n / 10) k ++ [b8 (48 + (n : Int) % 10)]
def showB (n k : Nat) : ByteArray := ⟨(showL n k).toArray⟩
theorem showL_len : ∀ (k n : Nat), (showL n k).length = k
  | 0, _ => rfl
  | k + 1, n => by rw [showL, List.length_append, showL_len k]; rfl
theorem showB_size (n k : Nat) : (showB n k).size = k := by
  show (showL n k).toArray.size = k
  rw [List.size_toArray, showL_len]

set_option maxHeartbeats 400000 in
theorem spec_l1Show (n k : Nat) (w : World) (hn : n ≤ 9223372036854775807) (hk : k ≤ 60) :
    Calls Try.prog 143 #[.int .i64 n, .int .i64 k] w fun e w' => e = .returned (.string (showB n k)) ∧ Below w.heap.size w w' := by
  go_enter Try.func143, Try.ntmps143
  go_wp2_with fail
  go_loopw [0, 5, 6] (fun t s i wr => ∃ (m j : Nat) (u : ByteArray), m ≤ n ∧ j ≤ k ∧ t = .int .i64 m ∧ s = .string u ∧ i = .int .i64 j ∧ u.size ≤ j ∧ Hid (showL n k = showL m (k - j) ++ u.data.toList) ∧ Below w.heap.size w wr) (fun _ _ i _ => k - (intOf i).toNat)
  case atStart => exact ⟨n, 0, _, Nat.le_refl _, Nat.zero_le _, rfl, rfl, rfl, Nat.le_refl _, by show _ = _; simp, Below.refl _ _⟩
  case round =>
    obtain ⟨m, j, u, hm, hj, rfl, rfl, rfl, hu, HD, hbl⟩ := hrel
    obtain ⟨w1, rfl⟩ : ∃ w1 : World, w1 = wr := ⟨_, rfl⟩
    by_cases hlt : j < k
    · go_wp2_with fail
      refine (spec_l9Dec (m % 10) _ (by omega)).mono ?_
      rintro e w2 ⟨rfl, hb⟩
      have hd1 : (decB (m % 10)).size = 1 := by
        show (decL _).toArray.size = 1
        unfold decL
        split
        · rfl
        · rw [dec10_small (by omega) (by omega)]; rfl
      have HDD : Hid ((decB (m % 10)).data.toList = [b8 (48 + (m : Int) % 10)]) := by
        show decL _ = _
        unfold decL
        split
        · rename_i h
          rw [show (m : Int) % 10 = 0 by omega]; rfl
        · rw [dec10_small (by omega) (by omega)]; rfl
      generalize decB (m % 10) = d at *
      go_wp2_with fail
      go_roundw
      case rel =>
        refine ⟨m / 10, j + 1, _, by omega, by omega, by go_num, rfl, by go_num, by rw [ByteArray.size_append]; omega, ?_, hbl.trans (hb.mono hbl.size)⟩
        show _ = _
        rw [HD.out, ba_append, HDD.out, show k - j = (k - (j + 1)) + 1 by omega, showL, List.append_assoc]
      case measure => simp [intOf]; omega
    · have HE := Lib.hid (show k - j = 0 by omega)
      go_wp2_with fail
      go_ret
      refine ⟨ret_str ?_, hbl⟩
      apply ba_ext
      show _ = showL n k
      rw [HD.out, HE.out, showL]
      rfl

end Go.Proofs.Ytnlljekijlkigaa
