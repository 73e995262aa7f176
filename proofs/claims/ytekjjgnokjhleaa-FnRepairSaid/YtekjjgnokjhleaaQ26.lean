/- B12 -/
import Derived.Test.YtekjjgnokjhleaaQ14
import Derived.Test.YtekjjgnokjhleaaQ25
namespace Go.Proofs.Ytekjjgnokjhleaa
open Go.RowKit

/-- A row of rows that grows by one row. -/
theorem isLL.snoc {α : Type} [Flat α] {T1 T2 base g m cap : Nat} {w w1 : World} {v u : Value} {vs : List Value} {xss : List (List α)} {ys : List α}
    (h : isLL T1 T2 base w v xss vs) (ho : own T2 base w u ys) (hf : farLL u v vs) (hn : own T1 base w1 (.slice (some ⟨g, 0, none⟩) m cap) (vs ++ [u])) (hg : w.grownBy w1 v.ownBlock) (ha : some g = v.ownBlock ∨ g = w.heap.size) :
    isLL T1 T2 base w1 (.slice (some ⟨g, 0, none⟩) m cap) (xss ++ [ys]) (vs ++ [u]) := by
  obtain ⟨h1, h2, h3, h4, h5⟩ := h
  have hfu : ∀ k (hk : k < (vs ++ [u]).length), apart (vs ++ [u])[k] v := fun k hk => by
    by_cases hkv : k < vs.length
    · rw [List.getElem_append_left hkv]; exact h5 k hkv
    · rw [List.getElem_append_right (by omega)]
      have : k - vs.length = 0 := by simp at hk; omega
      simp only [this, List.getElem_cons_zero]; exact hf.1
  have hlt : ∀ k (hk : k < (vs ++ [u]).length) j, (vs ++ [u])[k].ownBlock = some j → j < w.heap.size := fun k hk j => by
    by_cases hkv : k < vs.length
    · rw [List.getElem_append_left hkv]; exact fun e => ((h3 k hkv (by omega)).blk j e).2
    · rw [List.getElem_append_right (by omega)]
      have : k - vs.length = 0 := by simp at hk; omega
      simp only [this, List.getElem_cons_zero]; exact fun e => (ho.blk j e).2
  refine ⟨hn, by simp [h2], fun k hk hk' => ?_, fun j k hj hk hne => ?_, fun k hk => ?_⟩
  · by_cases hkv : k < vs.length
    · rw [List.getElem_append_left hkv, List.getElem_append_left (by omega)]
      exact (h3 k hkv (by omega)).grown hg (h5 k hkv)
    · have e1 : k - vs.length = 0 := by simp at hk; omega
      have e2 : k - xss.length = 0 := by omega
      rw [List.getElem_append_right (by omega), List.getElem_append_right (by omega)]
      simp only [e1, e2, List.getElem_cons_zero]
      exact ho.grown hg hf.1
  · by_cases hjv : j < vs.length
    · by_cases hkv : k < vs.length
      · rw [List.getElem_append_left hjv, List.getElem_append_left hkv]; exact h4 j k hjv hkv hne
      · have e1 : k - vs.length = 0 := by simp at hk; omega
        rw [List.getElem_append_left hjv, List.getElem_append_right (by omega)]
        simp only [e1, List.getElem_cons_zero]; exact apart_symm (hf.2 j hjv)
    · have e1 : j - vs.length = 0 := by simp at hj; omega
      by_cases hkv : k < vs.length
      · rw [List.getElem_append_right (by omega), List.getElem_append_left hkv]
        simp only [e1, List.getElem_cons_zero]; exact hf.2 k hkv
      · exfalso; simp at hj hk; omega
  · exact apart_symm (apart_app (apart_symm (hfu k hk)) ha fun j hj => hlt k hk j hj)

set_option maxRecDepth 100000 in
set_option maxHeartbeats 800000 in
theorem impl_faultyValid (v vb vm : Value) (p : Pln) (xs : List Ltr) (k : Int) (ms : List Mis) (w : World) (hv : rdP w w.heap.size v p) (hb : rd w w.heap.size vb xs) (hm : rd w w.heap.size vm ms) :
    Calls Try.prog 69 #[v, vb, .int .i64 k, vm] w fun e w' => e = .returned (.bool (fpOk p xs k ms)) ∧ Below w.heap.size w w' := by
  obtain ⟨A0, c0, e0⟩ := openP hv
  obtain ⟨w0, hw0⟩ : ∃ w0, w0 = w.alloc (Obj.cells #[.int .i64 p.bins, .int .i64 p.passes, .slice A0 p.order.length c0] 25) := ⟨_, rfl⟩
  have q0 := box_cells hw0 0 (.int .i64 p.bins) rfl
  have q1 := box_cells hw0 1 (.int .i64 p.passes) rfl
  have q2 := box_cells hw0 2 (.slice A0 p.order.length c0) rfl
  have HT := Lib.hid (box_later hw0).1
  have HP := Lib.hid (hv.on HT.out)
  have HB := Lib.hid (hb.on HT.out)
  have HM := Lib.hid (hm.on HT.out)
  subst e0
  have HW0 := Lib.hid hw0; clear hw0 hv hb hm
  have l0 := Below.refl w0.heap.size w0
  have hwlt : w.heap.size ≤ w0.heap.size := HT.out.size
  have HQ : Hid (fpOk p xs k ms = (passOk p k && okB xs && misOk p ms)) := rfl
  go_enter Try.func69, Try.ntmps69
  go_wp2_with fail
  rw [← HW0.out]
  refine (impl_passValid _ p k _ HP.out).mono ?_
  rintro e w1 ⟨rfl, b1⟩
  have l1 := later_trans l0 b1
  cases h1 : passOk p k
  · have HF : Hid (fpOk p xs k ms = false) := by show _ = _; rw [HQ.out, h1]; rfl
    clear h1
    go_wp2_with fail
    go_ret
    exact ⟨ret_bool HF.out.symm, later_trans HT.out l1⟩
  have H1 := Lib.hid h1; clear h1
  go_wp2_with fail
  refine (impl_BatchValid _ xs _ (HB.out.on l1)).mono ?_
  rintro e w2 ⟨rfl, b2⟩
  have l2 := later_trans l1 b2
  cases h2 : okB xs
  · have HF : Hid (fpOk p xs k ms = false) := by show _ = _; rw [HQ.out, h2]; simp
    clear h2
    go_wp2_with fail
    go_ret
    exact ⟨ret_bool HF.out.symm, later_trans HT.out l2⟩
  have H2 := Lib.hid h2; clear h2
  have HF : Hid (fpOk p xs k ms = misOk p ms) := by show _ = _; rw [HQ.out, H1.out, H2.out]; rfl
  go_wp2_with fail
  refine (impl_MissortsValid _ _ p ms _ (HP.out.on l2) (HM.out.on l2)).mono ?_
  rintro e w3 ⟨rfl, b3⟩
  have l3 := later_trans l2 b3
  generalize misOk p ms = r at *
  go_wp2_with fail
  go_ret
  exact ⟨ret_bool HF.out.symm, later_trans HT.out l3⟩

set_option maxRecDepth 100000 in
set_option maxHeartbeats 800000 in
theorem impl_FaultyPass (v vb vm : Value) (p : Pln) (xs : List Ltr) (k : Int) (ms : List Mis) (w : World) (hv : rdP w w.heap.size v p) (hb : rd w w.heap.size vb xs) (hm : rd w w.heap.size vm ms) :
    Calls Try.prog 20 #[v, vb, .int .i64 k, vm] w fun e w' => ∃ vB vO vs, e = .returned (.tuple #[vB, vO, .bool (fpOk p xs k ms)]) ∧ isLL 34 44 w.heap.size w' vB (fpBins p xs k ms) vs ∧ own 44 w.heap.size w' vO (fpRest p xs k ms) ∧ farLL vO vB vs ∧ Below w.heap.size w w' := by
  obtain ⟨A0, c0, e0⟩ := openP hv
  obtain ⟨w0, hw0⟩ : ∃ w0, w0 = w.alloc (Obj.cells #[.int .i64 p.bins, .int .i64 p.passes, .slice A0 p.order.length c0] 25) := ⟨_, rfl⟩
  have q0 := box_cells hw0 0 (.int .i64 p.bins) rfl
  have q1 := box_cells hw0 1 (.int .i64 p.passes) rfl
  have q2 := box_cells hw0 2 (.slice A0 p.order.length c0) rfl
  have HT := Lib.hid (box_later hw0).1
  have HP := Lib.hid (hv.on HT.out)
  have HB := Lib.hid (hb.on HT.out)
  have HM := Lib.hid (hm.on HT.out)
  subst e0
  have HW0 := Lib.hid hw0; clear hw0 hv hb hm
  have l0 := Below.refl w0.heap.size w0
  have hwlt : w.heap.size ≤ w0.heap.size := HT.out.size
  have HNO : Hid (∀ h : fpOk p xs k ms = false, ∀ W : World, isLL 34 44 w.heap.size W (.slice none 0 0) (fpBins p xs k ms) [] ∧ own 44 w.heap.size W (.slice none 0 0) (fpRest p xs k ms)) := fun h W => by
    unfold fpBins fpRest; rw [h]; exact ⟨isLL_nil _ _ _ _, own.nil_ _ _ _⟩
  go_enter Try.func20, Try.ntmps20
  go_wp2_with fail
  rw [← HW0.out]
  refine (impl_faultyValid _ _ _ p xs k ms _ HP.out HB.out HM.out).mono ?_
  rintro e w1 ⟨rfl, b1⟩
  have l1 := later_trans l0 b1
  cases h1 : fpOk p xs k ms
  · have HF := Lib.hid h1; clear h1
    go_wp2_with fail
    go_ret3
    exact ⟨_, _, [], ret_tup (by rw [HF.out] <;> rfl), (HNO.out HF.out _).1, (HNO.out HF.out _).2, ⟨.inl rfl, fun k h => absurd h (Nat.not_lt_zero k)⟩, later_trans HT.out l1⟩
  obtain ⟨⟨hp1, hp2, hp3⟩, h2, h3⟩ := fpOk_iff.1 h1
  obtain ⟨g1, g2, g3, g4, g5⟩ := planOk_bins hp1
  have hxl := okB_len' h2
  have HG := Lib.hid (misOk_good' h3)
  have HF := Lib.hid h1; clear h1 h2 h3 hp1
  have HY : Hid (fpBins p xs k ms = binsOf (fpF p k ms) p.bins.toNat xs ∧ fpRest p xs k ms = restOf (fpF p k ms) xs) := by
    unfold fpBins fpRest; rw [HF.out]; exact ⟨rfl, rfl⟩
  obtain ⟨k, rfl⟩ := Int.eq_ofNat_of_zero_le hp2
  go_wp2_with fail
  refine (impl_placeLetters _ _ _ p xs k ms _ (HP.out.on l1) (HB.out.on l1) (HM.out.on l1) g1 g2 (by omega) (by omega) HG.out (by omega)).mono ?_
  rintro e w3 ⟨vB, vO, vs, rfl, hB, hR, hF, b3⟩
  have l3 := later_trans l1 b3
  have HBB := Lib.hid hB; have HRR := Lib.hid hR; have HFF := Lib.hid hF
  clear hB hR hF
  go_wp2_with fail
  go_ret3
  have hh := HY.out
  unfold fpF at hh
  rw [Int.toNat_natCast] at hh
  exact ⟨_, _, vs, ret_tup (by rw [HF.out] <;> rfl), by rw [hh.1]; exact HBB.out.base_ (Nat.le_trans hwlt l1.size), by rw [hh.2]; exact HRR.out.base_ (Nat.le_trans hwlt l1.size), HFF.out, later_trans HT.out l3⟩

set_option maxRecDepth 100000 in
set_option maxHeartbeats 1600000 in
theorem impl_RunRestarted (v vb vm : Value) (p : Pln) (xs : List Ltr) (k : Int) (ms : List Mis) (w : World) (hv : rdP w w.heap.size v p) (hb : rd w w.heap.size vb xs) (hm : rd w w.heap.size vm ms) :
    Calls Try.prog 40 #[v, vb, .int .i64 k, vm] w fun e w' => ∃ vL, e = .returned (.tuple #[vL, .bool (fpOk p xs k ms)]) ∧ own 44 w.heap.size w' vL (rrRound p xs k ms) ∧ Below w.heap.size w w' := by
  obtain ⟨A0, c0, e0⟩ := openP hv
  obtain ⟨w0, hw0⟩ : ∃ w0, w0 = w.alloc (Obj.cells #[.int .i64 p.bins, .int .i64 p.passes, .slice A0 p.order.length c0] 25) := ⟨_, rfl⟩
  have q0 := box_cells hw0 0 (.int .i64 p.bins) rfl
  have q1 := box_cells hw0 1 (.int .i64 p.passes) rfl
  have q2 := box_cells hw0 2 (.slice A0 p.order.length c0) rfl
  have HT := Lib.hid (box_later hw0).1
  have HP := Lib.hid (hv.on HT.out)
  have HB := Lib.hid (hb.on HT.out)
  have HM := Lib.hid (hm.on HT.out)
  subst e0
  have HW0 := Lib.hid hw0; clear hw0 hv hb hm
  have l0 := Below.refl w0.heap.size w0
  have hwlt : w.heap.size ≤ w0.heap.size := HT.out.size
  have HNO : Hid (∀ h : fpOk p xs k ms = false, ∀ W : World, own 44 w.heap.size W (.slice none 0 0) (rrRound p xs k ms)) := fun h W => by
    unfold rrRound; rw [h]; exact own.nil_ _ _ _
  go_enter Try.func40, Try.ntmps40
  go_wp2_with fail
  rw [← HW0.out]
  refine (impl_faultyValid _ _ _ p xs k ms _ HP.out HB.out HM.out).mono ?_
  rintro e w1 ⟨rfl, b1⟩
  have l1 := later_trans l0 b1
  cases h1 : fpOk p xs k ms
  · have HF := Lib.hid h1; clear h1
    go_wp2_with fail
    go_ret2
    exact ⟨_, ret_tup (by rw [HF.out] <;> rfl), HNO.out HF.out _, later_trans HT.out l1⟩
  obtain ⟨⟨hp1, hp2, hp3⟩, h2, h3⟩ := fpOk_iff.1 h1
  obtain ⟨g1, g2, g3, g4, g5⟩ := planOk_bins hp1
  have hxl := okB_len' h2
  have HG := Lib.hid (misOk_good' h3)
  have HRR := Lib.hid (rr_round h1)
  have HF := Lib.hid h1; clear h1 h2 h3 hp1
  obtain ⟨k, rfl⟩ := Int.eq_ofNat_of_zero_le hp2
  have HBE : Hid (befBins p xs (k : Int) ms = binsOf (fun x => misBin ms x (binI p x.code k)) p.bins.toNat (passesN p 0 k xs)) := by
    show _ = _; unfold befBins fpF; rw [Int.toNat_natCast]
  have HPL := Lib.hid (passesN_len p k 0 xs)
  have hfl : (befBins p xs (k : Int) ms).flatten.length ≤ 60 := by
    rw [HBE.out]
    exact Nat.le_trans (flatten_length_binsOf _) (by have := HPL.out; omega)
  go_wp2_with fail
  refine (impl_doPasses _ _ p xs 0 k _ (HP.out.on l1) (HB.out.on l1) g1 g2 (by omega) (Nat.zero_le _) (by omega) (by omega)).mono ?_
  rintro e w2 ⟨vL, vO, rfl, hL, hO, hA, b2⟩
  have l2 := later_trans l1 b2
  have HL := Lib.hid hL
  clear hL hO hA
  go_wp2_with fail
  refine (impl_placeLetters _ _ _ p (passesN p 0 k xs) k ms _ (HP.out.on l2) HL.out.rd (HM.out.on l2) g1 g2 (by omega) (by omega) HG.out (by have := HPL.out; omega)).mono ?_
  rw [← HBE.out]
  rintro e w3 ⟨vB, vO3, vs, rfl, hB, hR, hF, b3⟩
  have l3 := later_trans l2 b3
  have HBB := Lib.hid (show ownLL 34 44 w2.heap.size w3 vB (befBins p xs (k : Int) ms) from ⟨vs, hB⟩)
  clear hB hR hF
  obtain ⟨A7, n7, c7, rfl, hn7, _, _, _⟩ := HBB.out.rd
  clear hn7
  have l3d : Below w3.heap.size w3 w3.drew := later_drew (Below.refl _ _)
  have CJ : Hid (∀ W, Below w3.heap.size w3 W → Calls Try.prog 81 #[.slice A7 n7 c7] W fun e w' => ∃ v', e = .returned v' ∧ own 44 W.heap.size w' v' (befBins p xs (k : Int) ms).flatten ∧ Below W.heap.size W w') := fun W hW => impl_joinBins _ _ W (HBB.out.rd.on hW) (by omega)
  have CD : Hid (∀ W, Below w0.heap.size w0 W → ∀ vf, rd W W.heap.size vf (befBins p xs (k : Int) ms).flatten → Calls Try.prog 42 #[.agg #[.int .i64 p.bins, .int .i64 p.passes, .slice A0 p.order.length c0], vf] W fun e w' => ∃ vL vO, e = .returned (.tuple #[vL, vO, .bool true]) ∧ own 44 W.heap.size w' vL (rrRound p xs k ms) ∧ Below W.heap.size W w') := fun W hW vf hf => by
    refine (impl_RunPlan _ vf p _ W (HP.out.on hW) hf).mono ?_
    rw [HRR.out.1, HRR.out.2]
    rintro e w' ⟨vL, vO, h1, h2, _, _, h5⟩
    exact ⟨vL, vO, h1, h2, h5⟩
  have ld := later_drew l3
  go_wp2
  go_region_held3 (fun W => Below w0.heap.size w0 W) (first | exact ld | exact later_trans ld b4 | exact later_trans (later_trans ld b4) b5) (first | (go_at_call 81; refine (CJ.out _ l3d).mono ?_; rintro e w4 ⟨vf, rfl, o4, b4⟩) | (go_at_call 42; refine (CD.out _ (later_trans ld b4) _ o4.rd).mono ?_; rintro e w5 ⟨vR, vO5, rfl, hR, b5⟩))
  have l4 := later_trans ld b4
  have l5 := later_trans l4 b5
  have HR5 := Lib.hid hR; clear hR
  go_wp2_with fail
  go_ret2
  exact ⟨_, ret_tup (by rw [HF.out] <;> rfl), HR5.out.base_ (Nat.le_trans hwlt l4.size), later_trans HT.out l5⟩

end Go.Proofs.Ytekjjgnokjhleaa
