/- FinishPasses: the program's text. -/
import Derived.Test.YtiaepapdofcnjaaB7
import Derived.IntWalk
namespace Go.Proofs.Ytiaepapdofcnjaa
open Go.RowKit

set_option maxRecDepth 100000 in
set_option maxHeartbeats 800000 in
theorem impl_FinishPasses (v vb : Value) (p : Pln) (xss : List (List Ltr)) (k : Int) (w : World) (hv : rdP w w.heap.size v p) (hb : rd w w.heap.size vb xss) :
    Calls Try.prog 94 #[v, vb, .int .i64 k] w fun e w' => ∃ vL, e = .returned (.tuple #[vL, .bool (binsOk p xss k)]) ∧ own 103 w.heap.size w' vL (finished p xss k) ∧ Below w.heap.size w w' := by
  obtain ⟨A0, c0, e0⟩ := openP hv
  obtain ⟨w0, hw0⟩ : ∃ w0, w0 = w.alloc (Obj.cells #[.int .i64 p.bins, .int .i64 p.passes, .slice A0 p.order.length c0] 32) := ⟨_, rfl⟩
  have q0 := box_cells hw0 0 (.int .i64 p.bins) rfl
  have q1 := box_cells hw0 1 (.int .i64 p.passes) rfl
  have q2 := box_cells hw0 2 (.slice A0 p.order.length c0) rfl
  have HT := Lib.hid (box_later hw0).1
  have HP := Lib.hid (hv.on HT.out)
  have HB := Lib.hid (hb.on HT.out)
  subst e0
  have HW0 := Lib.hid hw0; clear hw0 hv hb
  have l0 := Below.refl w0.heap.size w0
  have hwlt : w.heap.size ≤ w0.heap.size := HT.out.size
  have HNO : Hid (∀ h : binsOk p xss k = false, ∀ W : World, own 103 w.heap.size W (.slice none 0 0) (finished p xss k)) := fun h W => by
    unfold finished; rw [h]; exact own.nil_ _ _ _
  go_enter Try.func94, Try.ntmps94
  go_wp2_with fail
  rw [← HW0.out]
  refine (impl_binsOfPass _ _ p xss k _ HP.out HB.out).mono ?_
  rintro e w1 ⟨rfl, b1⟩
  have l1 := later_trans l0 b1
  cases h1 : binsOk p xss k
  · have HF := Lib.hid h1; clear h1
    go_wp2_with fail
    go_ret2
    exact ⟨_, ret_tup (by rw [HF.out] <;> rfl), HNO.out HF.out _, later_trans HT.out l1⟩
  obtain ⟨hk1, hk2, hk3⟩ := binsOk_iff.1 h1
  obtain ⟨hp1, hp2, hp3⟩ := passOk_iff.1 hk1
  obtain ⟨g1, g2, g3, g4, g5⟩ := planOk_bins hp1
  have HF := Lib.hid h1; clear h1 hk1 hp1
  have hfl := okB_len' hk3
  clear hk3 hk2
  obtain ⟨k, rfl⟩ := Int.eq_ofNat_of_zero_le hp2
  obtain ⟨M, hM⟩ := Int.eq_ofNat_of_zero_le (show 0 ≤ p.passes by omega)
  have HMM := Lib.hid hM; clear hM
  have hkM : k < M ∧ M ≤ 4 := by have := HMM.out; omega
  obtain ⟨fl, hfe⟩ : ∃ fl, xss.flatten = fl := ⟨_, rfl⟩
  have HFE := Lib.hid hfe
  rw [hfe] at hfl
  clear hfe
  have HY : Hid (finished p xss (k : Int) = passesN p (k + 1) (M - (k + 1)) fl) := by
    show _ = _
    unfold finished; rw [HF.out, HMM.out, Int.toNat_natCast, Int.toNat_natCast, HFE.out]; rfl
  have CJ : Hid (∀ W, Below w0.heap.size w0 W → Calls Try.prog 91 #[vb] W fun e w' => ∃ v', e = .returned v' ∧ own 103 W.heap.size w' v' fl ∧ Below W.heap.size W w') := fun W hW => by
    have h := impl_joinBins vb xss W (HB.out.on hW) (by rw [HFE.out]; omega)
    rw [HFE.out] at h
    exact h
  have CD : Hid (∀ W, Below w0.heap.size w0 W → ∀ vf, rd W W.heap.size vf fl → Calls Try.prog 89 #[.agg #[.int .i64 p.bins, .int .i64 p.passes, .slice A0 p.order.length c0], vf, .int .i64 ((k : Int) + 1), .int .i64 p.passes] W fun e w' => ∃ vL vO, e = .returned (.tuple #[vL, vO]) ∧ own 103 W.heap.size w' vL (passesN p (k + 1) (M - (k + 1)) fl) ∧ own 103 W.heap.size w' vO (outN p (k + 1) (M - (k + 1)) fl) ∧ apart vL vO ∧ Below W.heap.size W w') := fun W hW vf hf => by
    have h := impl_doPasses _ vf p fl (k + 1) M W (HP.out.on hW) hf g1 g2 hkM.2 (by omega) (by omega) (by omega)
    rw [← HMM.out] at h
    exact h
  have ld := later_drew l1
  have hw1 : IntKind.i64.wrap ((k : Int) + 1) = (k : Int) + 1 := IntWalk.i64_in _ (by omega)
  go_wp2
  go_region_held3 (fun W => Below w0.heap.size w0 W) (first | exact ld | exact later_trans ld b2 | exact later_trans (later_trans ld b2) b3) (first | (go_at_call 91; refine (CJ.out _ ld).mono ?_; rintro e w2 ⟨vf, rfl, o2, b2⟩) | (go_at_call 89; refine (CD.out _ (later_trans ld b2) _ o2.rd).mono ?_; rintro e w3 ⟨vL, vO, rfl, hL, hO, hA, b3⟩))
  have l3 := later_trans (later_trans ld b2) b3
  have HL := Lib.hid (hL.base_ (Nat.le_trans hwlt (later_trans ld b2).size))
  clear hL hO hA o2
  go_wp2
  go_ret2
  exact ⟨_, ret_tup (by rw [HF.out] <;> rfl), by rw [HY.out]; exact HL.out, later_trans HT.out l3⟩

end Go.Proofs.Ytiaepapdofcnjaa
