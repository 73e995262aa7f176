/- B18 -/
import Derived.Test.YtekjjgnokjhleaaQ31
namespace Go.Proofs.Ytekjjgnokjhleaa
open Go.RowKit

set_option maxRecDepth 100000 in
set_option maxHeartbeats 800000 in
theorem spec_l7RawRepairBins (v vb : Value) (p : Pln) (xss : List (List Ltr)) (k : Int) (w : World) (hv : rdP w w.heap.size v p) (hb : rd w w.heap.size vb xss) (hl : xss.flatten.length ≤ 1048576) :
    Calls Try.prog 83 #[v, vb, .int .i64 k] w fun e w' => ∃ vB vO, e = .returned (.tuple #[vB, vO, .bool (binsOk p xss k)]) ∧ rd w' w'.heap.size vB (rbBins p xss k) ∧ rd w' w'.heap.size vO (rbRest p xss k) ∧ Below w.heap.size w w' := by
  obtain ⟨A0, c0, e0⟩ := openP hv
  obtain ⟨w0, hw0⟩ : ∃ w0, w0 = w.alloc (Obj.cells #[.int .i64 p.bins, .int .i64 p.passes, .slice A0 p.order.length c0] 25) := ⟨_, rfl⟩
  have q0 := box_cells hw0 0 (.int .i64 p.bins) rfl
  have q1 := box_cells hw0 1 (.int .i64 p.passes) rfl
  have q2 := box_cells hw0 2 (.slice A0 p.order.length c0) rfl
  have HT := Lib.hid (box_later hw0).1
  have HP := Lib.hid (hv.on HT.out)
  have HB := Lib.hid (hb.on HT.out)
  subst e0
  have hz0 : w0.heap.size = w.heap.size + 1 := by subst hw0; simp
  have HZ0 := Lib.hid hz0; clear hz0
  have HW0 := Lib.hid hw0; clear hw0 hv hb
  have l0 := Below.refl w0.heap.size w0
  have hwlt : w.heap.size ≤ w0.heap.size := HT.out.size
  have HLL := Lib.hid hl; clear hl
  have HNO : Hid (∀ h : binsOk p xss k = false, rbBins p xss k = [] ∧ rbRest p xss k = []) := fun h => by
    unfold rbBins rbRest; rw [h]; exact ⟨rfl, rfl⟩
  go_enter Try.func83, Try.ntmps83
  go_wp2_with fail
  rw [← HW0.out]
  refine (spec_l7Bins _ _ p xss k _ HP.out HB.out HLL.out).mono ?_
  rintro e w1 ⟨rfl, b1⟩
  have l1 := later_trans l0 b1
  cases h1 : binsOk p xss k
  · have HF := Lib.hid h1; clear h1
    have o1 : own (α := Value) 34 w.heap.size (w1.alloc (.cells #[] 34)) (.slice (some ⟨w1.heap.size, 0, none⟩) 0 0) [] := own.made0 w1 _ (Nat.le_trans hwlt l1.size)
    have r1 : rd (w1.alloc (.cells #[] 34)) (w1.alloc (.cells #[] 34)).heap.size (.slice (some ⟨w1.heap.size, 0, none⟩) 0 0) ([] : List (List Ltr)) := ownLL.rd (T1 := 34) (T2 := 44) (base := w.heap.size) ⟨[], o1, rfl, fun k h => absurd h (Nat.not_lt_zero k), fun j k h => absurd h (Nat.not_lt_zero j), fun k h => absurd h (Nat.not_lt_zero k)⟩
    have o2 : own (α := Ltr) 44 w.heap.size ((w1.alloc (.cells #[] 34)).alloc (.cells #[] 44)) (.slice (some ⟨(w1.alloc (.cells #[] 34)).heap.size, 0, none⟩) 0 0) [] := own.made0 _ _ (by simp; exact Nat.le_trans (Nat.le_trans hwlt l1.size) (Nat.le_succ _))
    have O1 := Lib.hid (r1.on (later_alloc (Below.refl _ _) (.cells #[] 44))); have O2 := Lib.hid o2.rd
    clear o1 o2 r1
    go_wp2_with fail
    go_ret3
    refine ⟨_, _, ret_tup (by rw [HF.out] <;> rfl), by rw [(HNO.out HF.out).1]; exact O1.out, by rw [(HNO.out HF.out).2]; simpa using O2.out, later_trans HT.out (later_alloc (later_alloc l1 _) _)⟩
  have HF := Lib.hid h1
  have HY : Hid (rbBins p xss k = repBins (rbF p k) xss ∧ rbRest p xss k = repRest (rbF p k) xss) := by
    unfold rbBins rbRest; rw [HF.out]; exact ⟨rfl, rfl⟩
  obtain ⟨k, rfl⟩ := Int.eq_ofNat_of_zero_le (passOk_iff.1 (binsOk_iff.1 h1).1).2.1
  clear h1
  go_wp2_with fail
  refine (spec_l7Repair _ _ p xss k _ (HP.out.on l1) (HB.out.on l1) HF.out).mono ?_
  rintro e w3 ⟨vB, vO, vs, rfl, hB, hR, hF, b3⟩
  have l3 := later_trans l1 b3
  have HBB := Lib.hid (ownLL.rd ⟨vs, hB⟩); have HRR := Lib.hid hR.rd
  clear hB hR hF
  go_wp2_with fail
  go_ret3
  exact ⟨_, _, ret_tup (by rw [HF.out] <;> rfl), by rw [HY.out.1]; exact HBB.out, by rw [HY.out.2]; exact HRR.out, later_trans HT.out l3⟩

set_option maxRecDepth 100000 in
set_option maxHeartbeats 800000 in
theorem spec_RepairBins (v vb : Value) (p : Pln) (xss : List (List Ltr)) (k : Int) (w : World) (hv : rdP w w.heap.size v p) (hb : rd w w.heap.size vb xss) (hl : xss.flatten.length ≤ 1048576) :
    Calls Try.prog 38 #[v, vb, .int .i64 k] w fun e w' => ∃ vB vO vs, e = .returned (.tuple #[vB, vO, .bool (binsOk p xss k)]) ∧ isLL 34 44 w.heap.size w' vB (rbBins p xss k) vs ∧ own 44 w.heap.size w' vO (rbRest p xss k) ∧ farLL vO vB vs ∧ Below w.heap.size w w' := by
  obtain ⟨A0, c0, e0⟩ := openP hv
  obtain ⟨w0, hw0⟩ : ∃ w0, w0 = w.alloc (Obj.cells #[.int .i64 p.bins, .int .i64 p.passes, .slice A0 p.order.length c0] 25) := ⟨_, rfl⟩
  have q0 := box_cells hw0 0 (.int .i64 p.bins) rfl
  have q1 := box_cells hw0 1 (.int .i64 p.passes) rfl
  have q2 := box_cells hw0 2 (.slice A0 p.order.length c0) rfl
  have HT := Lib.hid (box_later hw0).1
  have HP := Lib.hid (hv.on HT.out)
  have HB := Lib.hid (hb.on HT.out)
  subst e0
  have hz0 : w0.heap.size = w.heap.size + 1 := by subst hw0; simp
  have HZ0 := Lib.hid hz0; clear hz0
  have HW0 := Lib.hid hw0; clear hw0 hv hb
  have l0 := Below.refl w0.heap.size w0
  have hwlt : w.heap.size ≤ w0.heap.size := HT.out.size
  have HLL := Lib.hid hl; clear hl
  obtain ⟨i1, ji, jz0, jz1, jz2⟩ := info_parts Try.infoLtr
  have HLB := Lib.hid (rbBins_len p xss k)
  have HLR := Lib.hid (rbRest_len p xss k)
  go_enter Try.func38, Try.ntmps38
  go_wp2_with fail
  rw [← HW0.out]
  refine (spec_l7RawRepairBins _ _ p xss k _ HP.out HB.out HLL.out).mono ?_
  rintro e w1 ⟨vB, vO, rfl, rB, rO, b1⟩
  have l1 := later_trans l0 b1
  obtain ⟨zss, HZS⟩ : ∃ z, Hid (rbBins p xss k = z) := ⟨_, rfl⟩
  obtain ⟨zs, HZR⟩ : ∃ z, Hid (rbRest p xss k = z) := ⟨_, rfl⟩
  rw [HZS.out] at rB HLB
  rw [HZR.out] at rO HLR
  have RB := Lib.hid rB
  have RO := Lib.hid rO
  obtain ⟨AO, nO, cO, rfl, hnO, _, _, _⟩ := rO
  subst hnO
  clear rB
  have hlb := HLB.out
  have hlr := HLR.out
  go_wp2_with fail
  refine (spec_ownLL _ zss _ RB.out (by omega) (by omega)).mono ?_
  rintro e w2 ⟨vB2, vs2, rfl, hB2, b2⟩
  have l2 := later_trans l1 b2
  have HB2 := Lib.hid hB2; clear hB2
  have HE0 : Hid (own (α := Ltr) 44 w2.heap.size (w2.alloc (Obj.cells #[] 44)) (.slice (some ⟨w2.heap.size, 0, none⟩) 0 0) []) := own.made0 w2 _ (Nat.le_refl _)
  have la : Below w2.heap.size w2 (w2.alloc (Obj.cells #[] 44)) := later_alloc (Below.refl _ _) _
  have HRO2 := Lib.hid ((RO.out.on b2).on la)
  go_wp2_with (at_builtin; refine wpList_appendAll (α := Ltr) rfl (.tmp 22) (.tmp 23) 34 rfl w2.heap.size 44 i1 _ 24 Try.underlying34 ji jz0 jz1 jz2 rfl (by decide) (.slice (some ⟨w2.heap.size, 0, none⟩) 0 0) [] rfl HE0.out (.slice AO zs.length cO) zs rfl (w2.alloc (Obj.cells #[] 44)).heap.size HRO2.out (by unfold maxLen; simp; omega) (by simp; omega) la.size ?_; intro v' w3 ho3 hg3 _)
  have b3 : Below w2.heap.size w2 w3 := la.trans (below_append HE0.out hg3 la.size)
  rw [List.nil_append] at ho3
  have HO3 := Lib.hid ho3; clear ho3 hg3
  have HF3 : Hid (farLL v' vB2 vs2) := ⟨apart_gt HO3.out HB2.out.1 (Nat.le_refl _), fun i hi => apart_gt HO3.out (HB2.out.2.2.1 i hi (by have := HB2.out.2.1; omega)) (Nat.le_refl _)⟩
  have HB3 := Lib.hid (HB2.out.below b3)
  have l3 := later_trans l2 b3
  go_wp2_with fail
  go_ret3
  exact ⟨_, _, vs2, rfl, by rw [HZS.out]; exact HB3.out.base_ (Nat.le_trans hwlt l1.size), by rw [HZR.out]; exact HO3.out.base_ (Nat.le_trans hwlt l2.size), HF3.out, later_trans HT.out l3⟩

set_option maxRecDepth 100000 in
set_option maxHeartbeats 1600000 in
theorem spec_RunRepaired (v vb vm : Value) (p : Pln) (xs : List Ltr) (k : Int) (ms : List Mis) (w : World) (hv : rdP w w.heap.size v p) (hb : rd w w.heap.size vb xs) (hm : rd w w.heap.size vm ms) :
    Calls Try.prog 47 #[v, vb, .int .i64 k, vm] w fun e w' => ∃ vL, e = .returned (.tuple #[vL, .bool (fpOk p xs k ms)]) ∧ own 44 w.heap.size w' vL (rpdRound p xs k ms) ∧ Below w.heap.size w w' := by
  obtain ⟨A0, c0, e0⟩ := openP hv
  obtain ⟨w0, hw0⟩ : ∃ w0, w0 = w.alloc (Obj.cells #[.int .i64 p.bins, .int .i64 p.passes, .slice A0 p.order.length c0] 25) := ⟨_, rfl⟩
  have q0 := box_cells hw0 0 (.int .i64 p.bins) rfl
  have q1 := box_cells hw0 1 (.int .i64 p.passes) rfl
  have q2 := box_cells hw0 2 (.slice A0 p.order.length c0) rfl
  have HT := Lib.hid (box_later hw0).1
  have HP := Lib.hid (hv.on HT.out)
  have HB := Lib.hid (hb.on HT.out)
  have HM := Lib.hid (hm.on HT.out)
  subst e0
  have hz0 : w0.heap.size = w.heap.size + 1 := by subst hw0; simp
  have HZ0 := Lib.hid hz0; clear hz0
  have HW0 := Lib.hid hw0; clear hw0 hv hb hm
  have l0 := Below.refl w0.heap.size w0
  have hwlt : w.heap.size ≤ w0.heap.size := HT.out.size
  have HNO : Hid (∀ h : fpOk p xs k ms = false, rpdRound p xs k ms = []) := fun h => by
    unfold rpdRound; rw [h]; rfl
  go_enter Try.func47, Try.ntmps47
  go_wp2_with fail
  rw [← HW0.out]
  refine (spec_l7Ready _ _ _ p xs k ms _ HP.out HB.out HM.out).mono ?_
  rintro e w1 ⟨rfl, b1⟩
  have l1 := later_trans l0 b1
  cases h1 : fpOk p xs k ms
  · have HF := Lib.hid h1; clear h1
    have O1 : Hid (own (α := Ltr) 44 w.heap.size (w1.alloc (.cells #[] 44)) (.slice (some ⟨w1.heap.size, 0, none⟩) 0 0) []) := own.made0 w1 _ (Nat.le_trans hwlt l1.size)
    go_wp2_with fail
    go_ret2
    exact ⟨_, ret_tup (by rw [HF.out] <;> rfl), by rw [HNO.out HF.out]; exact O1.out, later_trans HT.out (later_alloc l1 _)⟩
  obtain ⟨⟨hp1, hp2, hp3⟩, h2, h3⟩ := fpOk_iff.1 h1
  have HRP := Lib.hid (rpd_round h1)
  have HBO := Lib.hid (binsOk_bef h1)
  have HF := Lib.hid h1; clear h1 h2 h3 hp1
  obtain ⟨k, rfl⟩ := Int.eq_ofNat_of_zero_le hp2
  have ld := later_drew l1
  have HRB : Hid (repBins (rbF p (k : Int)) (befBins p xs k ms) = rbBins p (befBins p xs k ms) k) := HRP.out.1.symm
  have C1 : Hid (∀ W, Below w0.heap.size w0 W → Calls Try.prog 86 #[.agg #[.int .i64 p.bins, .int .i64 p.passes, .slice A0 p.order.length c0], vb, .int .i64 k, vm] W fun e w' => ∃ vB, e = .returned vB ∧ rd w' w'.heap.size vB (befBins p xs k ms) ∧ Below W.heap.size W w') := fun W hW => by
    refine (spec_l7Before _ _ _ p xs k ms W (HP.out.on hW) (HB.out.on hW) (HM.out.on hW) HF.out).mono ?_
    rintro e w' ⟨vB, h1, h2, h3⟩
    exact ⟨vB, h1, h2.rd, h3⟩
  have C2 : Hid (∀ W, Below w0.heap.size w0 W → ∀ vf, rd W W.heap.size vf (befBins p xs k ms) → Calls Try.prog 88 #[.agg #[.int .i64 p.bins, .int .i64 p.passes, .slice A0 p.order.length c0], vf, .int .i64 k] W fun e w' => ∃ vB vO, e = .returned (.tuple #[vB, vO]) ∧ rd w' w'.heap.size vB (rbBins p (befBins p xs k ms) k) ∧ Below W.heap.size W w') := fun W hW vf hf => by
    refine (spec_l7Repair _ vf p _ k W (HP.out.on hW) hf HBO.out).mono ?_
    rw [HRB.out]
    rintro e w' ⟨vB, vO, vs, h1, h2, _, _, h5⟩
    exact ⟨vB, vO, h1, ownLL.rd ⟨vs, h2⟩, h5⟩
  obtain ⟨rb, hrb⟩ : ∃ z, rbBins p (befBins p xs (k : Int) ms) k = z := ⟨_, rfl⟩
  have HY : Hid (finished p rb k = rpdRound p xs k ms ∧ binsOk p rb k = true) := by
    rw [← hrb]; exact HRP.out.2
  rw [hrb] at C2
  clear hrb HRB HRP
  go_wp2
  go_region_held3 (fun W => Below w0.heap.size w0 W) (first | exact ld | exact later_trans ld b2 | exact later_trans (later_trans ld b2) b3) (first | (go_at_call 86; refine (C1.out _ ld).mono ?_; rintro e w2 ⟨v2, rfl, r2, b2⟩) | (go_at_call 88; refine (C2.out _ (later_trans ld b2) _ r2).mono ?_; rintro e w3 ⟨v3, vO3, rfl, r3, b3⟩))
  have l3 := later_trans (later_trans ld b2) b3
  have R3 := Lib.hid r3; clear r3 r2
  go_wp2_with fail
  refine (spec_l7Finish _ _ p rb k _ (HP.out.on l3) R3.out HY.out.2).mono ?_
  rw [HY.out.1]
  rintro e w4 ⟨v4, rfl, o4, b4⟩
  have l4 := later_trans l3 b4
  have O4 := Lib.hid (o4.base_ (Nat.le_trans hwlt l3.size)); clear o4
  go_wp2_with fail
  go_ret2
  exact ⟨_, ret_tup (by rw [HF.out] <;> rfl), O4.out, later_trans HT.out l4⟩

end Go.Proofs.Ytekjjgnokjhleaa
