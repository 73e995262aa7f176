/- B11 -/
import Derived.Test.YtiaepapdofcnjaaQ17
namespace Go.Proofs.Ytiaepapdofcnjaa
open Go.RowKit

set_option maxRecDepth 100000 in
set_option maxHeartbeats 1600000 in
theorem spec_l7Finish (v vb : Value) (p : Pln) (xss : List (List Ltr)) (k : Nat) (w : World) (hv : rdP w w.heap.size v p) (hb : rd w w.heap.size vb xss) (hk : binsOk p xss k = true) :
    Calls Try.prog 93 #[v, vb, .int .i64 k] w fun e w' => ∃ vL, e = .returned vL ∧ own 103 w.heap.size w' vL (finished p xss k) ∧ Below w.heap.size w w' := by
  obtain ⟨A0, c0, e0⟩ := openP hv
  obtain ⟨w0, hw0⟩ : ∃ w0, w0 = w.alloc (Obj.cells #[.int .i64 p.bins, .int .i64 p.passes, .slice A0 p.order.length c0] 32) := ⟨_, rfl⟩
  have q0 := box_cells hw0 0 (.int .i64 p.bins) rfl
  have q1 := box_cells hw0 1 (.int .i64 p.passes) rfl
  have q2 := box_cells hw0 2 (.slice A0 p.order.length c0) rfl
  have HT := Lib.hid (box_later hw0).1
  have HP := Lib.hid (hv.on HT.out)
  have HB := Lib.hid (hb.on HT.out)
  subst e0
  have HW0 := Lib.hid hw0; clear hw0 hv hb
  have l0 := Below.refl w0.heap.size w0
  have hwlt : w.heap.size ≤ w0.heap.size := HT.out.size
  obtain ⟨hk1, hk2, hk3⟩ := binsOk_iff.1 hk
  obtain ⟨hp1, hp2, hp3⟩ := passOk_iff.1 hk1
  obtain ⟨g1, g2, g3, g4, g5⟩ := planOk_bins hp1
  have HF := Lib.hid hk; clear hk hk1 hp1
  have hfl := okB_len' hk3
  clear hk3 hk2
  obtain ⟨M, hM⟩ := Int.eq_ofNat_of_zero_le (show 0 ≤ p.passes by omega)
  have HMM := Lib.hid hM; clear hM
  have hkM : k < M ∧ M ≤ 4 := by have := HMM.out; omega
  have HY : Hid (finished p xss (k : Int) = passesN p (k + 1) (M - (k + 1)) xss.flatten) := by
    show _ = _
    unfold finished; rw [HF.out, HMM.out, Int.toNat_natCast, Int.toNat_natCast]; rfl
  have hb0 := HB.out
  obtain ⟨A7, n7, c7, rfl, hn7, hc7, hm7, _⟩ := hb0
  clear hn7 hc7 hm7 hp2 hp3
  go_enter Try.func93, Try.ntmps93
  go_wp2_with fail
  rw [← HW0.out]
  go_loopw [1, 7] (fun t i wr => ∃ (j : Nat) (zss : List (List Ltr)), j ≤ M - (k + 1) ∧ i = .int .i64 ((k : Int) + 1 + (j : Int)) ∧ Below w0.heap.size w0 wr ∧ rd wr wr.heap.size t zss ∧ Hid (zss.flatten = passesN p (k + 1) j xss.flatten)) (fun _ i _ => M - (intOf i).toNat)
  case atStart => exact ⟨0, xss, Nat.zero_le _, by go_num, l0, HB.out, rfl⟩
  case round =>
    obtain ⟨j, zss, hj, rfl, lr, hB, HZ⟩ := hrel
    obtain ⟨w3, rfl⟩ : ∃ w3 : World, w3 = wr := ⟨_, rfl⟩
    clear l0
    have HRd := Lib.hid hB
    obtain ⟨A8, n8, c8, rfl, hn8, hc8, hm8, _⟩ := hB
    clear hn8 hc8 hm8
    have hzl : (passesN p (k + 1) j xss.flatten).length ≤ 60 := Nat.le_trans (passesN_len p j (k + 1) _) hfl
    have HS := Lib.hid (passesN_succ p j (k + 1) xss.flatten)
    have CJ : Hid (∀ W, Below w3.heap.size w3 W → Calls Try.prog 87 #[.slice A8 n8 c8] W fun e w' => ∃ v', e = .returned v' ∧ own 103 W.heap.size w' v' (passesN p (k + 1) j xss.flatten) ∧ Below W.heap.size W w') := fun W hW => by
      have h := spec_l2Collect _ zss W (HRd.out.on hW) (by rw [HZ.out]; omega)
      rw [HZ.out] at h
      exact h
    generalize hys : passesN p (k + 1) j xss.flatten = ys at *
    have HYS := Lib.hid hys; clear hys
    by_cases hlt : k + 1 + j < M
    · have hlt' : (k : Int) + 1 + (j : Int) < p.passes := by have := HMM.out; omega
      have CD : Hid (∀ W, Below w0.heap.size w0 W → ∀ vf, rd W W.heap.size vf ys → Calls Try.prog 141 #[.agg #[.int .i64 p.bins, .int .i64 p.passes, .slice A0 p.order.length c0], vf, .int .i64 ((k : Int) + 1 + (j : Int))] W fun e w' => ∃ vB vO vs, e = .returned (.tuple #[vB, vO]) ∧ isLL 29 103 W.heap.size w' vB (binsOf (fun x => binI p x.code (k + 1 + j)) p.bins.toNat ys) vs ∧ own 103 W.heap.size w' vO (restOf (fun x => binI p x.code (k + 1 + j)) ys) ∧ farLL vO vB vs ∧ Below W.heap.size W w') := fun W hW vf hf => by
        have h := spec_l3Pass _ vf p ys (k + 1 + j) W (HP.out.on hW) hf g1 g2 (by omega) (by omega) (by omega)
        rw [show ((k + 1 + j : Nat) : Int) = (k : Int) + 1 + (j : Int) by omega] at h
        exact h
      have ld := later_drew lr
      have l3d : Below w3.heap.size w3 w3.drew := later_drew (Below.refl _ _)
      go_wp2
      go_region_held3 (fun W => Below w0.heap.size w0 W) (first | exact ld | exact later_trans ld b4 | exact later_trans (later_trans ld b4) b5) (first | (go_at_call 87; refine (CJ.out _ l3d).mono ?_; rintro e w4 ⟨vf, rfl, o4, b4⟩) | (go_at_call 141; refine (CD.out _ (later_trans ld b4) _ o4.rd).mono ?_; rintro e w5 ⟨vB5, vO5, vs5, rfl, hB5, hO5, hF5, b5⟩))
      have l5 := later_trans (later_trans ld b4) b5
      have HB5 : Hid (rd w5 w5.heap.size vB5 (binsOf (fun x => binI p x.code (k + 1 + j)) p.bins.toNat ys)) := ownLL.rd ⟨vs5, hB5⟩
      have HE5 : Hid ((binsOf (fun x => binI p x.code (k + 1 + j)) p.bins.toNat ys).flatten = passesN p (k + 1) (j + 1) xss.flatten) := by show _ = _; rw [HS.out]; rfl
      clear hB5 hO5 hF5 o4 b4 b5
      go_wp2
      go_roundw
      case rel => exact ⟨j + 1, _, by omega, by go_num, l5, HB5.out, HE5.out⟩
      case measure => simp [intOf]; omega
    · have hlt' : ¬ ((k : Int) + 1 + (j : Int) < p.passes) := by have := HMM.out; omega
      have HE := Lib.hid (show j = M - (k + 1) by omega)
      go_wp2_with fail
      refine (CJ.out _ (Below.refl _ _)).mono ?_
      rintro e w4 ⟨v4, rfl, o4, b4⟩
      have l4 := later_trans lr b4
      have O4 := Lib.hid (o4.base_ (Nat.le_trans hwlt lr.size))
      clear o4
      go_wp2_with fail
      go_ret
      exact ⟨_, rfl, by rw [HY.out, ← HE.out, HYS.out]; exact O4.out, later_trans HT.out l4⟩



end Go.Proofs.Ytiaepapdofcnjaa
