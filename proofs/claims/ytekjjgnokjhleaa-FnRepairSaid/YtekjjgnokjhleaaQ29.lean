/- B15 B17 -/
import Derived.Test.YtekjjgnokjhleaaQ28
namespace Go.Proofs.Ytekjjgnokjhleaa
open Go.RowKit

set_option maxRecDepth 100000 in
set_option maxHeartbeats 800000 in
theorem spec_l7Ready (v vb vm : Value) (p : Pln) (xs : List Ltr) (k : Int) (ms : List Mis) (w : World) (hv : rdP w w.heap.size v p) (hb : rd w w.heap.size vb xs) (hm : rd w w.heap.size vm ms) :
    Calls Try.prog 84 #[v, vb, .int .i64 k, vm] w fun e w' => e = .returned (.bool (fpOk p xs k ms)) ∧ Below w.heap.size w w' := by
  obtain ⟨A0, c0, e0⟩ := openP hv
  obtain ⟨w0, hw0⟩ : ∃ w0, w0 = w.alloc (Obj.cells #[.int .i64 p.bins, .int .i64 p.passes, .slice A0 p.order.length c0] 25) := ⟨_, rfl⟩
  have q0 := box_cells hw0 0 (.int .i64 p.bins) rfl
  have q1 := box_cells hw0 1 (.int .i64 p.passes) rfl
  have q2 := box_cells hw0 2 (.slice A0 p.order.length c0) rfl
  have HT := Lib.hid (box_later hw0).1
  have HP := Lib.hid (hv.on HT.out)
  have HB := Lib.hid (hb.on HT.out)
  have HM := Lib.hid (hm.on HT.out)
  subst e0
  have hz0 : w0.heap.size = w.heap.size + 1 := by subst hw0; simp
  have HZ0 := Lib.hid hz0; clear hz0
  have HW0 := Lib.hid hw0; clear hw0 hv hb hm
  have l0 := Below.refl w0.heap.size w0
  have hwlt : w.heap.size ≤ w0.heap.size := HT.out.size
  have HQ : Hid (fpOk p xs k ms = ((planOk p && (decide (0 ≤ k) && decide (k < p.passes))) && okB xs && misOk p ms)) := rfl
  go_enter Try.func84, Try.ntmps84
  go_wp2_with fail
  rw [← HW0.out]
  refine (spec_l3Ready _ _ p xs _ HP.out HB.out).mono ?_
  rintro e w1 ⟨rfl, b1⟩
  have l1 := later_trans l0 b1
  cases h1 : (planOk p && okB xs)
  · have HF : Hid (fpOk p xs k ms = false) := by
      show _ = _
      rw [HQ.out]
      rcases Bool.and_eq_false_iff.1 h1 with h | h <;> simp [h]
    clear h1
    go_wp2_with fail
    go_ret
    exact ⟨ret_bool HF.out.symm, later_trans HT.out l1⟩
  have hh := h1
  rw [Bool.and_eq_true] at hh
  obtain ⟨g1, g2, g3, g4, g5⟩ := planOk_bins hh.1
  have H1 := Lib.hid hh; clear h1 hh
  go_wp2_with fail
  refine (spec_l1In k 0 (p.passes - 1) _).mono ?_
  rintro e w4 ⟨rfl, rfl⟩
  cases h2 : (decide (0 ≤ k) && decide (k ≤ p.passes - 1))
  · have HF : Hid (fpOk p xs k ms = false) := by
      show _ = _
      rw [HQ.out, show decide (k < p.passes) = decide (k ≤ p.passes - 1) by rw [decide_eq_decide]; omega, h2]
      simp
    clear h2
    go_wp2_with fail
    go_ret
    exact ⟨ret_bool HF.out.symm, later_trans HT.out l1⟩
  have HF : Hid (fpOk p xs k ms = misOk p ms) := by
    show _ = _
    rw [HQ.out, show decide (k < p.passes) = decide (k ≤ p.passes - 1) by rw [decide_eq_decide]; omega, h2, H1.out.1, H1.out.2]
    rfl
  clear h2
  go_wp2_with fail
  refine (spec_MissortsValid _ _ p ms _ (HP.out.on l1) (HM.out.on l1)).mono ?_
  rintro e w3 ⟨rfl, b3⟩
  have l3 := later_trans l1 b3
  generalize misOk p ms = r at *
  go_wp2_with fail
  go_ret
  exact ⟨ret_bool HF.out.symm, later_trans HT.out l3⟩

set_option maxRecDepth 100000 in
set_option maxHeartbeats 800000 in
theorem spec_l7RawFaultyPass (v vb vm : Value) (p : Pln) (xs : List Ltr) (k : Int) (ms : List Mis) (w : World) (hv : rdP w w.heap.size v p) (hb : rd w w.heap.size vb xs) (hm : rd w w.heap.size vm ms) :
    Calls Try.prog 71 #[v, vb, .int .i64 k, vm] w fun e w' => ∃ vB vO, e = .returned (.tuple #[vB, vO, .bool (fpOk p xs k ms)]) ∧ rd w' w'.heap.size vB (fpBins p xs k ms) ∧ rd w' w'.heap.size vO (fpRest p xs k ms) ∧ Below w.heap.size w w' := by
  obtain ⟨A0, c0, e0⟩ := openP hv
  obtain ⟨w0, hw0⟩ : ∃ w0, w0 = w.alloc (Obj.cells #[.int .i64 p.bins, .int .i64 p.passes, .slice A0 p.order.length c0] 25) := ⟨_, rfl⟩
  have q0 := box_cells hw0 0 (.int .i64 p.bins) rfl
  have q1 := box_cells hw0 1 (.int .i64 p.passes) rfl
  have q2 := box_cells hw0 2 (.slice A0 p.order.length c0) rfl
  have HT := Lib.hid (box_later hw0).1
  have HP := Lib.hid (hv.on HT.out)
  have HB := Lib.hid (hb.on HT.out)
  have HM := Lib.hid (hm.on HT.out)
  subst e0
  have hz0 : w0.heap.size = w.heap.size + 1 := by subst hw0; simp
  have HZ0 := Lib.hid hz0; clear hz0
  have HW0 := Lib.hid hw0; clear hw0 hv hb hm
  have l0 := Below.refl w0.heap.size w0
  have hwlt : w.heap.size ≤ w0.heap.size := HT.out.size
  have HNO : Hid (∀ h : fpOk p xs k ms = false, fpBins p xs k ms = [] ∧ fpRest p xs k ms = []) := fun h => by
    unfold fpBins fpRest; rw [h]; exact ⟨rfl, rfl⟩
  go_enter Try.func71, Try.ntmps71
  go_wp2_with fail
  rw [← HW0.out]
  refine (spec_l7Ready _ _ _ p xs k ms _ HP.out HB.out HM.out).mono ?_
  rintro e w1 ⟨rfl, b1⟩
  have l1 := later_trans l0 b1
  cases h1 : fpOk p xs k ms
  · have HF := Lib.hid h1; clear h1
    have o1 : own (α := Value) 34 w.heap.size (w1.alloc (.cells #[] 34)) (.slice (some ⟨w1.heap.size, 0, none⟩) 0 0) [] := own.made0 w1 _ (Nat.le_trans hwlt l1.size)
    have r1 : rd (w1.alloc (.cells #[] 34)) (w1.alloc (.cells #[] 34)).heap.size (.slice (some ⟨w1.heap.size, 0, none⟩) 0 0) ([] : List (List Ltr)) := ownLL.rd (T1 := 34) (T2 := 44) (base := w.heap.size) ⟨[], o1, rfl, fun k h => absurd h (Nat.not_lt_zero k), fun j k h => absurd h (Nat.not_lt_zero j), fun k h => absurd h (Nat.not_lt_zero k)⟩
    have o2 : own (α := Ltr) 44 w.heap.size ((w1.alloc (.cells #[] 34)).alloc (.cells #[] 44)) (.slice (some ⟨(w1.alloc (.cells #[] 34)).heap.size, 0, none⟩) 0 0) [] := own.made0 _ _ (by simp; exact Nat.le_trans (Nat.le_trans hwlt l1.size) (Nat.le_succ _))
    have O1 := Lib.hid (r1.on (later_alloc (Below.refl _ _) (.cells #[] 44))); have O2 := Lib.hid o2.rd
    clear o1 o2 r1
    go_wp2_with fail
    go_ret3
    refine ⟨_, _, ret_tup (by rw [HF.out] <;> rfl), by rw [(HNO.out HF.out).1]; exact O1.out, by rw [(HNO.out HF.out).2]; simpa using O2.out, later_trans HT.out (later_alloc (later_alloc l1 _) _)⟩
  obtain ⟨⟨hp1, hp2, hp3⟩, h2, h3⟩ := fpOk_iff.1 h1
  obtain ⟨g1, g2, g3, g4, g5⟩ := planOk_bins hp1
  have hxl := okB_len' h2
  have HG := Lib.hid h3
  have HF := Lib.hid h1; clear h1 h2 h3 hp1
  have HY : Hid (fpBins p xs k ms = binsOf (fpF p k ms) p.bins.toNat xs ∧ fpRest p xs k ms = restOf (fpF p k ms) xs) := by
    unfold fpBins fpRest; rw [HF.out]; exact ⟨rfl, rfl⟩
  obtain ⟨k, rfl⟩ := Int.eq_ofNat_of_zero_le hp2
  go_wp2_with fail
  refine (spec_l7Faulty _ _ _ p xs k ms _ (HP.out.on l1) (HB.out.on l1) (HM.out.on l1) g1 g2 (by omega) (by omega) HG.out (by omega)).mono ?_
  rintro e w3 ⟨vB, vO, vs, rfl, hB, hR, hF, b3⟩
  have l3 := later_trans l1 b3
  have HBB := Lib.hid (ownLL.rd ⟨vs, hB⟩); have HRR := Lib.hid hR.rd
  clear hB hR hF
  go_wp2_with fail
  go_ret3
  have hh := HY.out
  unfold fpF at hh
  rw [Int.toNat_natCast] at hh
  exact ⟨_, _, ret_tup (by rw [HF.out] <;> rfl), by rw [hh.1]; exact HBB.out, by rw [hh.2]; exact HRR.out, later_trans HT.out l3⟩

set_option maxRecDepth 100000 in
set_option maxHeartbeats 800000 in
theorem spec_FaultyPass (v vb vm : Value) (p : Pln) (xs : List Ltr) (k : Int) (ms : List Mis) (w : World) (hv : rdP w w.heap.size v p) (hb : rd w w.heap.size vb xs) (hm : rd w w.heap.size vm ms) :
    Calls Try.prog 21 #[v, vb, .int .i64 k, vm] w fun e w' => ∃ vB vO vs, e = .returned (.tuple #[vB, vO, .bool (fpOk p xs k ms)]) ∧ isLL 34 44 w.heap.size w' vB (fpBins p xs k ms) vs ∧ own 44 w.heap.size w' vO (fpRest p xs k ms) ∧ farLL vO vB vs ∧ Below w.heap.size w w' := by
  obtain ⟨A0, c0, e0⟩ := openP hv
  obtain ⟨w0, hw0⟩ : ∃ w0, w0 = w.alloc (Obj.cells #[.int .i64 p.bins, .int .i64 p.passes, .slice A0 p.order.length c0] 25) := ⟨_, rfl⟩
  have q0 := box_cells hw0 0 (.int .i64 p.bins) rfl
  have q1 := box_cells hw0 1 (.int .i64 p.passes) rfl
  have q2 := box_cells hw0 2 (.slice A0 p.order.length c0) rfl
  have HT := Lib.hid (box_later hw0).1
  have HP := Lib.hid (hv.on HT.out)
  have HB := Lib.hid (hb.on HT.out)
  have HM := Lib.hid (hm.on HT.out)
  subst e0
  have hz0 : w0.heap.size = w.heap.size + 1 := by subst hw0; simp
  have HZ0 := Lib.hid hz0; clear hz0
  have HW0 := Lib.hid hw0; clear hw0 hv hb hm
  have l0 := Below.refl w0.heap.size w0
  have hwlt : w.heap.size ≤ w0.heap.size := HT.out.size
  obtain ⟨i1, ji, jz0, jz1, jz2⟩ := info_parts Try.infoLtr
  have HLB := Lib.hid (fpBins_len p xs k ms)
  have HLR := Lib.hid (fpRest_len p xs k ms)
  go_enter Try.func21, Try.ntmps21
  go_wp2_with fail
  rw [← HW0.out]
  refine (spec_l7RawFaultyPass _ _ _ p xs k ms _ HP.out HB.out HM.out).mono ?_
  rintro e w1 ⟨vB, vO, rfl, rB, rO, b1⟩
  have l1 := later_trans l0 b1
  obtain ⟨zss, HZS⟩ : ∃ z, Hid (fpBins p xs k ms = z) := ⟨_, rfl⟩
  obtain ⟨zs, HZR⟩ : ∃ z, Hid (fpRest p xs k ms = z) := ⟨_, rfl⟩
  rw [HZS.out] at rB HLB
  rw [HZR.out] at rO HLR
  have RB := Lib.hid rB
  have RO := Lib.hid rO
  obtain ⟨AO, nO, cO, rfl, hnO, _, _, _⟩ := rO
  subst hnO
  clear rB
  have hlb := HLB.out
  have hlr := HLR.out
  go_wp2_with fail
  refine (spec_ownLL _ zss _ RB.out (by omega) (by omega)).mono ?_
  rintro e w2 ⟨vB2, vs2, rfl, hB2, b2⟩
  have l2 := later_trans l1 b2
  have HB2 := Lib.hid hB2; clear hB2
  have HE0 : Hid (own (α := Ltr) 44 w2.heap.size (w2.alloc (Obj.cells #[] 44)) (.slice (some ⟨w2.heap.size, 0, none⟩) 0 0) []) := own.made0 w2 _ (Nat.le_refl _)
  have la : Below w2.heap.size w2 (w2.alloc (Obj.cells #[] 44)) := later_alloc (Below.refl _ _) _
  have HRO2 := Lib.hid ((RO.out.on b2).on la)
  go_wp2_with (at_builtin; refine wpList_appendAll (α := Ltr) rfl (.tmp 25) (.tmp 26) 34 rfl w2.heap.size 44 i1 _ 24 Try.underlying34 ji jz0 jz1 jz2 rfl (by decide) (.slice (some ⟨w2.heap.size, 0, none⟩) 0 0) [] rfl HE0.out (.slice AO zs.length cO) zs rfl (w2.alloc (Obj.cells #[] 44)).heap.size HRO2.out (by unfold maxLen; simp; omega) (by simp; omega) la.size ?_; intro v' w3 ho3 hg3 _)
  have b3 : Below w2.heap.size w2 w3 := la.trans (below_append HE0.out hg3 la.size)
  rw [List.nil_append] at ho3
  have HO3 := Lib.hid ho3; clear ho3 hg3
  have HF3 : Hid (farLL v' vB2 vs2) := ⟨apart_gt HO3.out HB2.out.1 (Nat.le_refl _), fun i hi => apart_gt HO3.out (HB2.out.2.2.1 i hi (by have := HB2.out.2.1; omega)) (Nat.le_refl _)⟩
  have HB3 := Lib.hid (HB2.out.below b3)
  have l3 := later_trans l2 b3
  go_wp2_with fail
  go_ret3
  exact ⟨_, _, vs2, rfl, by rw [HZS.out]; exact HB3.out.base_ (Nat.le_trans hwlt l1.size), by rw [HZR.out]; exact HO3.out.base_ (Nat.le_trans hwlt l2.size), HF3.out, later_trans HT.out l3⟩

set_option maxRecDepth 100000 in
set_option maxHeartbeats 1600000 in
theorem spec_l7Before (v vb vm : Value) (p : Pln) (xs : List Ltr) (k : Nat) (ms : List Mis) (w : World) (hv : rdP w w.heap.size v p) (hb : rd w w.heap.size vb xs) (hm : rd w w.heap.size vm ms) (hf : fpOk p xs (k : Int) ms = true) :
    Calls Try.prog 86 #[v, vb, .int .i64 k, vm] w fun e w' => ∃ vB, e = .returned vB ∧ ownLL 34 44 w.heap.size w' vB (befBins p xs k ms) ∧ Below w.heap.size w w' := by
  obtain ⟨A0, c0, e0⟩ := openP hv
  obtain ⟨w0, hw0⟩ : ∃ w0, w0 = w.alloc (Obj.cells #[.int .i64 p.bins, .int .i64 p.passes, .slice A0 p.order.length c0] 25) := ⟨_, rfl⟩
  have q0 := box_cells hw0 0 (.int .i64 p.bins) rfl
  have q1 := box_cells hw0 1 (.int .i64 p.passes) rfl
  have q2 := box_cells hw0 2 (.slice A0 p.order.length c0) rfl
  have HT := Lib.hid (box_later hw0).1
  have HP := Lib.hid (hv.on HT.out)
  have HB := Lib.hid (hb.on HT.out)
  have HM := Lib.hid (hm.on HT.out)
  subst e0
  have hz0 : w0.heap.size = w.heap.size + 1 := by subst hw0; simp
  have HZ0 := Lib.hid hz0; clear hz0
  have HW0 := Lib.hid hw0; clear hw0 hv hb hm
  have l0 := Below.refl w0.heap.size w0
  have hwlt : w.heap.size ≤ w0.heap.size := HT.out.size
  obtain ⟨⟨hp1, hp2, hp3⟩, h2, h3⟩ := fpOk_iff.1 hf
  obtain ⟨g1, g2, g3, g4, g5⟩ := planOk_bins hp1
  have hxl := okB_len' h2
  have HG := Lib.hid h3; clear h2 h3 hp1 hf hp2
  have hk4 : k ≤ 4 := by omega
  have HBE : Hid (befBins p xs (k : Int) ms = binsOf (fun x => misBin ms x (binI p x.code k)) p.bins.toNat (passesN p 0 k xs)) := by
    show _ = _; unfold befBins fpF; rw [Int.toNat_natCast]
  go_enter Try.func86, Try.ntmps86
  go_wp2_with fail
  rw [← HW0.out]
  go_loopw [1, 9] (fun t i wr => ∃ j : Nat, j ≤ k ∧ i = .int .i64 j ∧ Below w0.heap.size w0 wr ∧ rd wr wr.heap.size t (passesN p 0 j xs)) (fun _ i _ => k - (intOf i).toNat)
  case atStart => exact ⟨0, Nat.zero_le _, rfl, l0, HB.out⟩
  case round =>
    obtain ⟨j, hj, rfl, lr, hb'⟩ := hrel
    obtain ⟨w1, rfl⟩ : ∃ w1 : World, w1 = wr := ⟨_, rfl⟩
    clear l0
    have HBJ := Lib.hid hb'; clear hb'
    have HPL := Lib.hid (passesN_len p j 0 xs)
    have hpl : (passesN p 0 j xs).length ≤ 1000 := by have := HPL.out; omega
    by_cases hlt : j < k
    · have hlt' : (j : Int) < (k : Int) := by omega
      have HS : Hid ((binsOf (fun x => binI p x.code j) p.bins.toNat (passesN p 0 j xs)).flatten = passesN p 0 (j + 1) xs) := by
        have := passesN_succ p j 0 xs
        rw [Nat.zero_add] at this
        exact this.symm
      have hfl := flatten_length_binsOf (f := fun x => binI p x.code j) (n := p.bins.toNat) (passesN p 0 j xs)
      rw [HS.out] at hfl
      generalize passesN p 0 j xs = zs at *
      go_wp2_with fail
      refine (spec_l3Pass _ _ p zs j _ (HP.out.on lr) HBJ.out g1 g2 (by omega) (by omega) hpl).mono ?_
      rintro e w2 ⟨vB, vO, vs, rfl, hB, hR, hF, b2⟩
      have l2 := later_trans lr b2
      have HBB := Lib.hid (ownLL.rd ⟨vs, hB⟩)
      clear hB hR hF
      go_wp2_with fail
      refine (spec_l2Collect _ _ _ HBB.out (by rw [HS.out]; omega)).mono ?_
      rw [HS.out]
      rintro e w3 ⟨v3, rfl, o3, b3⟩
      have l3 := later_trans l2 b3
      have O3 := Lib.hid o3.rd; clear o3
      go_wp2_with fail
      go_roundw
      case rel => exact ⟨j + 1, by omega, by go_num, l3, O3.out⟩
      case measure => simp [intOf]; omega
    · have hlt' : ¬ ((j : Int) < (k : Int)) := by omega
      have HE := Lib.hid (show j = k by omega)
      rw [HE.out] at HBJ hpl
      go_wp2_with fail
      refine (spec_l7Faulty _ _ _ p (passesN p 0 k xs) k ms _ (HP.out.on lr) HBJ.out (HM.out.on lr) g1 g2 hk4 (by omega) HG.out hpl).mono ?_
      rw [← HBE.out]
      rintro e w3 ⟨vB, vO3, vs, rfl, hB, hR, hF, b3⟩
      have l3 := later_trans lr b3
      have HBB := Lib.hid (show ownLL 34 44 w1.heap.size w3 vB (befBins p xs (k : Int) ms) from ⟨vs, hB⟩)
      clear hB hR hF
      go_wp2_with fail
      go_ret
      exact ⟨_, rfl, HBB.out.base_ (Nat.le_trans hwlt lr.size), later_trans HT.out l3⟩

end Go.Proofs.Ytekjjgnokjhleaa

namespace Go.Proofs.Ytekjjgnokjhleaa
open Go.RowKit

set_option maxRecDepth 100000 in
set_option maxHeartbeats 1600000 in
theorem spec_RunRestarted (v vb vm : Value) (p : Pln) (xs : List Ltr) (k : Int) (ms : List Mis) (w : World) (hv : rdP w w.heap.size v p) (hb : rd w w.heap.size vb xs) (hm : rd w w.heap.size vm ms) :
    Calls Try.prog 41 #[v, vb, .int .i64 k, vm] w fun e w' => ∃ vL, e = .returned (.tuple #[vL, .bool (fpOk p xs k ms)]) ∧ own 44 w.heap.size w' vL (rrRound p xs k ms) ∧ Below w.heap.size w w' := by
  obtain ⟨A0, c0, e0⟩ := openP hv
  obtain ⟨w0, hw0⟩ : ∃ w0, w0 = w.alloc (Obj.cells #[.int .i64 p.bins, .int .i64 p.passes, .slice A0 p.order.length c0] 25) := ⟨_, rfl⟩
  have q0 := box_cells hw0 0 (.int .i64 p.bins) rfl
  have q1 := box_cells hw0 1 (.int .i64 p.passes) rfl
  have q2 := box_cells hw0 2 (.slice A0 p.order.length c0) rfl
  have HT := Lib.hid (box_later hw0).1
  have HP := Lib.hid (hv.on HT.out)
  have HB := Lib.hid (hb.on HT.out)
  have HM := Lib.hid (hm.on HT.out)
  subst e0
  have hz0 : w0.heap.size = w.heap.size + 1 := by subst hw0; simp
  have HZ0 := Lib.hid hz0; clear hz0
  have HW0 := Lib.hid hw0; clear hw0 hv hb hm
  have l0 := Below.refl w0.heap.size w0
  have hwlt : w.heap.size ≤ w0.heap.size := HT.out.size
  have HNO : Hid (∀ h : fpOk p xs k ms = false, rrRound p xs k ms = []) := fun h => by
    unfold rrRound; rw [h]; rfl
  go_enter Try.func41, Try.ntmps41
  go_wp2_with fail
  rw [← HW0.out]
  refine (spec_l7Ready _ _ _ p xs k ms _ HP.out HB.out HM.out).mono ?_
  rintro e w1 ⟨rfl, b1⟩
  have l1 := later_trans l0 b1
  cases h1 : fpOk p xs k ms
  · have HF := Lib.hid h1; clear h1
    have O1 : Hid (own (α := Ltr) 44 w.heap.size (w1.alloc (.cells #[] 44)) (.slice (some ⟨w1.heap.size, 0, none⟩) 0 0) []) := own.made0 w1 _ (Nat.le_trans hwlt l1.size)
    go_wp2_with fail
    go_ret2
    exact ⟨_, ret_tup (by rw [HF.out] <;> rfl), by rw [HNO.out HF.out]; exact O1.out, later_trans HT.out (later_alloc l1 _)⟩
  obtain ⟨⟨hp1, hp2, hp3⟩, h2, h3⟩ := fpOk_iff.1 h1
  have HRR := Lib.hid (rr_round h1)
  have HFL := Lib.hid (bef_len h1)
  have HF := Lib.hid h1; clear h1 h2 h3 hp1
  obtain ⟨k, rfl⟩ := Int.eq_ofNat_of_zero_le hp2
  have ld := later_drew l1
  have C1 : Hid (∀ W, Below w0.heap.size w0 W → Calls Try.prog 86 #[.agg #[.int .i64 p.bins, .int .i64 p.passes, .slice A0 p.order.length c0], vb, .int .i64 k, vm] W fun e w' => ∃ vB, e = .returned vB ∧ rd w' w'.heap.size vB (befBins p xs k ms) ∧ Below W.heap.size W w') := fun W hW => by
    refine (spec_l7Before _ _ _ p xs k ms W (HP.out.on hW) (HB.out.on hW) (HM.out.on hW) HF.out).mono ?_
    rintro e w' ⟨vB, h1, h2, h3⟩
    exact ⟨vB, h1, h2.rd, h3⟩
  have C2 : Hid (∀ W vf, rd W W.heap.size vf (befBins p xs k ms) → Calls Try.prog 85 #[vf] W fun e w' => ∃ v', e = .returned v' ∧ rd w' w'.heap.size v' (befBins p xs k ms).flatten ∧ Below W.heap.size W w') := fun W vf hf => by
    refine (spec_l2Collect vf _ W hf (by have := HFL.out; omega)).mono ?_
    rintro e w' ⟨vB, h1, h2, h3⟩
    exact ⟨vB, h1, h2.rd, h3⟩
  have C3 : Hid (∀ W, Below w0.heap.size w0 W → ∀ vf, rd W W.heap.size vf (befBins p xs k ms).flatten → Calls Try.prog 55 #[.agg #[.int .i64 p.bins, .int .i64 p.passes, .slice A0 p.order.length c0], vf] W fun e w' => ∃ vL vO, e = .returned (.tuple #[vL, vO, .bool true]) ∧ own 44 W.heap.size w' vL (rrRound p xs k ms) ∧ Below W.heap.size W w') := fun W hW vf hf => by
    refine (spec_RunPlan _ vf p _ W (HP.out.on hW) hf).mono ?_
    rw [HRR.out.1, HRR.out.2]
    rintro e w' ⟨vL, vO, h1, h2, _, _, h5⟩
    exact ⟨vL, vO, h1, h2, h5⟩
  go_wp2
  go_region_held3 (fun W => Below w0.heap.size w0 W) (first | exact ld | exact later_trans ld b2 | exact later_trans (later_trans ld b2) b3 | exact later_trans (later_trans (later_trans ld b2) b3) b4) (first | (go_at_call 86; refine (C1.out _ ld).mono ?_; rintro e w2 ⟨v2, rfl, r2, b2⟩) | (go_at_call 85; refine (C2.out _ _ r2).mono ?_; rintro e w3 ⟨v3, rfl, r3, b3⟩) | (go_at_call 55; refine (C3.out _ (later_trans (later_trans ld b2) b3) _ r3).mono ?_; rintro e w4 ⟨v4, vO4, rfl, o4, b4⟩))
  have l3 := later_trans (later_trans ld b2) b3
  have l4 := later_trans l3 b4
  have O4 := Lib.hid o4; clear o4
  go_wp2
  go_ret2
  exact ⟨_, ret_tup (by rw [HF.out] <;> rfl), O4.out.base_ (Nat.le_trans hwlt l3.size), later_trans HT.out l4⟩

end Go.Proofs.Ytekjjgnokjhleaa
