/- Runs that are restarted: the spec's text. -/
import Derived.Test.YtiaepapdofcnjaaB15
namespace Go.Proofs.Ytiaepapdofcnjaa
open Go.RowKit

set_option maxRecDepth 100000 in
set_option maxHeartbeats 1600000 in
theorem spec_RunRestarted (v vb vm : Value) (p : Pln) (xs : List Ltr) (k : Int) (ms : List Mis) (w : World) (hv : rdP w w.heap.size v p) (hb : rd w w.heap.size vb xs) (hm : rd w w.heap.size vm ms) :
    Calls Try.prog 35 #[v, vb, .int .i64 k, vm] w fun e w' => ∃ vL, e = .returned (.tuple #[vL, .bool (fpOk p xs k ms)]) ∧ own 103 w.heap.size w' vL (rrRound p xs k ms) ∧ Below w.heap.size w w' := by
  obtain ⟨A0, c0, e0⟩ := openP hv
  obtain ⟨w0, hw0⟩ : ∃ w0, w0 = w.alloc (Obj.cells #[.int .i64 p.bins, .int .i64 p.passes, .slice A0 p.order.length c0] 32) := ⟨_, rfl⟩
  have q0 := box_cells hw0 0 (.int .i64 p.bins) rfl
  have q1 := box_cells hw0 1 (.int .i64 p.passes) rfl
  have q2 := box_cells hw0 2 (.slice A0 p.order.length c0) rfl
  have HT := Lib.hid (box_later hw0).1
  have HP := Lib.hid (hv.on HT.out)
  have HB := Lib.hid (hb.on HT.out)
  have HM := Lib.hid (hm.on HT.out)
  subst e0
  have hz0 : w0.heap.size = w.heap.size + 1 := by subst hw0; simp
  have HZ0 := Lib.hid hz0; clear hz0
  have HW0 := Lib.hid hw0; clear hw0 hv hb hm
  have l0 := Below.refl w0.heap.size w0
  have hwlt : w.heap.size ≤ w0.heap.size := HT.out.size
  have HNO : Hid (∀ h : fpOk p xs k ms = false, rrRound p xs k ms = []) := fun h => by
    unfold rrRound; rw [h]; rfl
  go_enter Try.func35, Try.ntmps35
  go_wp2_with fail
  rw [← HW0.out]
  refine (spec_l7Ready _ _ _ p xs k ms _ HP.out HB.out HM.out).mono ?_
  rintro e w1 ⟨rfl, b1⟩
  have l1 := later_trans l0 b1
  cases h1 : fpOk p xs k ms
  · have HF := Lib.hid h1; clear h1
    have O1 : Hid (own (α := Ltr) 103 w.heap.size (w1.alloc (.cells #[] 103)) (.slice (some ⟨w1.heap.size, 0, none⟩) 0 0) []) := own.made0 w1 _ (Nat.le_trans hwlt l1.size)
    go_wp2_with fail
    go_ret2
    exact ⟨_, ret_tup (by rw [HF.out] <;> rfl), by rw [HNO.out HF.out]; exact O1.out, later_trans HT.out (later_alloc l1 _)⟩
  obtain ⟨⟨hp1, hp2, hp3⟩, h2, h3⟩ := fpOk_iff.1 h1
  have HRR := Lib.hid (rr_round h1)
  have HFL := Lib.hid (bef_len h1)
  have HF := Lib.hid h1; clear h1 h2 h3 hp1
  obtain ⟨k, rfl⟩ := Int.eq_ofNat_of_zero_le hp2
  have ld := later_drew l1
  have C1 : Hid (∀ W, Below w0.heap.size w0 W → Calls Try.prog 88 #[.agg #[.int .i64 p.bins, .int .i64 p.passes, .slice A0 p.order.length c0], vb, .int .i64 k, vm] W fun e w' => ∃ vB, e = .returned vB ∧ rd w' w'.heap.size vB (befBins p xs k ms) ∧ Below W.heap.size W w') := fun W hW => by
    refine (spec_l7Before _ _ _ p xs k ms W (HP.out.on hW) (HB.out.on hW) (HM.out.on hW) HF.out).mono ?_
    rintro e w' ⟨vB, h1, h2, h3⟩
    exact ⟨vB, h1, h2.rd, h3⟩
  have C2 : Hid (∀ W vf, rd W W.heap.size vf (befBins p xs k ms) → Calls Try.prog 87 #[vf] W fun e w' => ∃ v', e = .returned v' ∧ rd w' w'.heap.size v' (befBins p xs k ms).flatten ∧ Below W.heap.size W w') := fun W vf hf => by
    refine (spec_l2Collect vf _ W hf (by have := HFL.out; omega)).mono ?_
    rintro e w' ⟨vB, h1, h2, h3⟩
    exact ⟨vB, h1, h2.rd, h3⟩
  have C3 : Hid (∀ W, Below w0.heap.size w0 W → ∀ vf, rd W W.heap.size vf (befBins p xs k ms).flatten → Calls Try.prog 86 #[.agg #[.int .i64 p.bins, .int .i64 p.passes, .slice A0 p.order.length c0], vf] W fun e w' => ∃ vL vO, e = .returned (.tuple #[vL, vO, .bool true]) ∧ own 103 W.heap.size w' vL (rrRound p xs k ms) ∧ Below W.heap.size W w') := fun W hW vf hf => by
    refine (spec_RunPlan _ vf p _ W (HP.out.on hW) hf).mono ?_
    rw [HRR.out.1, HRR.out.2]
    rintro e w' ⟨vL, vO, h1, h2, _, _, h5⟩
    exact ⟨vL, vO, h1, h2, h5⟩
  go_wp2
  go_region_held3 (fun W => Below w0.heap.size w0 W) (first | exact ld | exact later_trans ld b2 | exact later_trans (later_trans ld b2) b3 | exact later_trans (later_trans (later_trans ld b2) b3) b4) (first | (go_at_call 88; refine (C1.out _ ld).mono ?_; rintro e w2 ⟨v2, rfl, r2, b2⟩) | (go_at_call 87; refine (C2.out _ _ r2).mono ?_; rintro e w3 ⟨v3, rfl, r3, b3⟩) | (go_at_call 86; refine (C3.out _ (later_trans (later_trans ld b2) b3) _ r3).mono ?_; rintro e w4 ⟨v4, vO4, rfl, o4, b4⟩))
  have l3 := later_trans (later_trans ld b2) b3
  have l4 := later_trans l3 b4
  have O4 := Lib.hid o4; clear o4
  go_wp2
  go_ret2
  exact ⟨_, ret_tup (by rw [HF.out] <;> rfl), O4.out.base_ (Nat.le_trans hwlt l3.size), later_trans HT.out l4⟩

end Go.Proofs.Ytiaepapdofcnjaa
