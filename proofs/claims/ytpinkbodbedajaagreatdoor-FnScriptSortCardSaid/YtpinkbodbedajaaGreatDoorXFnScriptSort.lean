/- FnScriptSort: the walk of the law. Written by gen_ks.py. -/
import Derived.Test.YtpinkbodbedajaaGreatDoorQ27
import Derived.Deep.RegionHeld3
namespace Go.Proofs.YtpinkbodbedajaaGreatDoor
open Go.RowKit

theorem sortText_is (p : Pln) (b : List Ltr) (dg : Nat) : linesT (sortLs p b dg) = (((((((⟨#[112, 108, 97, 110, 32]⟩ : ByteArray) ++ fmtPl p) ++ ⟨#[10, 108, 101, 116, 116, 101, 114, 115, 32]⟩) ++ fmtB b) ++ ⟨#[10, 109, 111, 118, 101, 100, 10, 112, 97, 115, 115, 32]⟩) ++ decB dg) ++ ⟨#[10, 115, 111, 114, 116, 10, 115, 101, 113, 117, 101, 110, 99, 101, 10, 109, 111, 118, 101, 100, 10, 115, 101, 97, 108, 10]⟩) := by
  refine ba_ext ?_
  unfold sortLs
  simp only [linesT_cons, linesT_nil, ba_append, lnOne, planWd, lettersWd, movedWd, passWd, sortWd, sequenceWd, sealWd]
  simp
theorem sortOut_is {p : Pln} {b : List Ltr} {dg : Nat} (h0 : movedI p (rpRound p (sortS b dg)) = 0) : linesT (sortAs p b dg) = (((((((((((((((((⟨#[111, 107, 10]⟩ : ByteArray) ++ fmtB b) ++ ⟨#[10]⟩) ++ numT (movedI p b)) ++ ⟨#[10]⟩) ++ fmtB (spL b (dg : Int))) ++ ⟨#[10]⟩) ++ fmtB (sortS b dg)) ++ ⟨#[10]⟩) ++ fmtB (rpRound p (sortS b dg))) ++ ⟨#[47]⟩) ++ fmtB (rpRest p (sortS b dg))) ++ ⟨#[10, 48, 10]⟩) ++ numT (orOf (okB (rpRound p (sortS b dg))) (sL (rpRound p (sortS b dg))))) ++ ⟨#[32]⟩) ++ numT (orOf (okB (rpRound p (sortS b dg))) (osL (rpRound p (sortS b dg))))) ++ ⟨#[10]⟩) := by
  have e7 : numT (movedI p (rpRound p (sortS b dg))) = ⟨#[48]⟩ := by rw [h0]; exact numT_nat 0
  refine ba_ext ?_
  unfold sortAs
  rw [e7]
  simp only [linesT_cons, linesT_nil, ba_append, okW]
  simp

theorem sort_sums1 {FP FB DG : ByteArray} (hFP : FP.size ≤ 1000) (hFB : FB.size ≤ 1000) (hDG : DG.size ≤ 1000) :
    ¬ 9223372036854775807 < 5 + FP.size ∧
    ¬ 9223372036854775807 < 5 + FP.size + 9 ∧
    ¬ 9223372036854775807 < 5 + FP.size + 9 + FB.size ∧
    ¬ 9223372036854775807 < 5 + FP.size + 9 + FB.size + 12 ∧
    ¬ 9223372036854775807 < 5 + FP.size + 9 + FB.size + 12 + DG.size ∧
    ¬ 9223372036854775807 < 5 + FP.size + 9 + FB.size + 12 + DG.size + 26 := by
  refine ⟨?_, ?_, ?_, ?_, ?_, ?_⟩ <;> omega
theorem sort_sums2 {FB DM FS1 FS2 : ByteArray} (hFB : FB.size ≤ 1000) (hDM : DM.size ≤ 1000) (hFS1 : FS1.size ≤ 1000) (hFS2 : FS2.size ≤ 1000) :
    ¬ 9223372036854775807 < 3 + FB.size ∧
    ¬ 9223372036854775807 < 3 + FB.size + 1 ∧
    ¬ 9223372036854775807 < 3 + FB.size + 1 + DM.size ∧
    ¬ 9223372036854775807 < 3 + FB.size + 1 + DM.size + 1 ∧
    ¬ 9223372036854775807 < 3 + FB.size + 1 + DM.size + 1 + FS1.size ∧
    ¬ 9223372036854775807 < 3 + FB.size + 1 + DM.size + 1 + FS1.size + 1 ∧
    ¬ 9223372036854775807 < 3 + FB.size + 1 + DM.size + 1 + FS1.size + 1 + FS2.size ∧
    ¬ 9223372036854775807 < 3 + FB.size + 1 + DM.size + 1 + FS1.size + 1 + FS2.size + 1 := by
  refine ⟨?_, ?_, ?_, ?_, ?_, ?_, ?_, ?_⟩ <;> omega
theorem sort_sums3 {FB DM FS1 FS2 FR FQ DS DO : ByteArray} (hFB : FB.size ≤ 1000) (hDM : DM.size ≤ 1000) (hFS1 : FS1.size ≤ 1000) (hFS2 : FS2.size ≤ 1000) (hFR : FR.size ≤ 1000) (hFQ : FQ.size ≤ 1000) (hDS : DS.size ≤ 1000) (hDO : DO.size ≤ 1000) :
    ¬ 9223372036854775807 < 3 + FB.size ∧
    ¬ 9223372036854775807 < 3 + FB.size + 1 ∧
    ¬ 9223372036854775807 < 3 + FB.size + 1 + DM.size ∧
    ¬ 9223372036854775807 < 3 + FB.size + 1 + DM.size + 1 ∧
    ¬ 9223372036854775807 < 3 + FB.size + 1 + DM.size + 1 + FS1.size ∧
    ¬ 9223372036854775807 < 3 + FB.size + 1 + DM.size + 1 + FS1.size + 1 ∧
    ¬ 9223372036854775807 < 3 + FB.size + 1 + DM.size + 1 + FS1.size + 1 + FS2.size ∧
    ¬ 9223372036854775807 < 3 + FB.size + 1 + DM.size + 1 + FS1.size + 1 + FS2.size + 1 ∧
    ¬ 9223372036854775807 < 3 + FB.size + 1 + DM.size + 1 + FS1.size + 1 + FS2.size + 1 + FR.size ∧
    ¬ 9223372036854775807 < 3 + FB.size + 1 + DM.size + 1 + FS1.size + 1 + FS2.size + 1 + FR.size + 1 ∧
    ¬ 9223372036854775807 < 3 + FB.size + 1 + DM.size + 1 + FS1.size + 1 + FS2.size + 1 + FR.size + 1 + FQ.size ∧
    ¬ 9223372036854775807 < 3 + FB.size + 1 + DM.size + 1 + FS1.size + 1 + FS2.size + 1 + FR.size + 1 + FQ.size + 3 ∧
    ¬ 9223372036854775807 < 3 + FB.size + 1 + DM.size + 1 + FS1.size + 1 + FS2.size + 1 + FR.size + 1 + FQ.size + 3 + DS.size ∧
    ¬ 9223372036854775807 < 3 + FB.size + 1 + DM.size + 1 + FS1.size + 1 + FS2.size + 1 + FR.size + 1 + FQ.size + 3 + DS.size + 1 ∧
    ¬ 9223372036854775807 < 3 + FB.size + 1 + DM.size + 1 + FS1.size + 1 + FS2.size + 1 + FR.size + 1 + FQ.size + 3 + DS.size + 1 + DO.size ∧
    ¬ 9223372036854775807 < 3 + FB.size + 1 + DM.size + 1 + FS1.size + 1 + FS2.size + 1 + FR.size + 1 + FQ.size + 3 + DS.size + 1 + DO.size + 1 := by
  refine ⟨?_, ?_, ?_, ?_, ?_, ?_, ?_, ?_, ?_, ?_, ?_, ?_, ?_, ?_, ?_, ?_⟩ <;> omega
set_option maxRecDepth 100000 in
set_option maxHeartbeats 6400000 in
theorem walk_FnScriptSort (w : World) (v : Value) (bs : List UInt8) (hv : rd w w.heap.size v bs) (u : Value) (ms : List UInt8) (hu : rd w w.heap.size u ms) (hX : TabW w) :
    Calls Tryz.prog 6 #[v, u] w fun e w' => e = .returned (.bool true) ∧ Below w.heap.size w w' := by
  have hv0 := hv
  obtain ⟨A, n0, c0, rfl, hn0, hc0, hm0, _⟩ := hv
  subst hn0
  obtain ⟨A1, n1, c1, rfl, hn1, hc1, hm1, _⟩ := hu
  subst hn1
  unfold maxLen at hm0 hm1
  have HX := Lib.hid hX
  clear hX
  go_enter Tryz.func6, Tryz.ntmps6
  by_cases hsz : 1048576 < bs.length
  · go_wp2_with fail
    go_ret
    exact ⟨rfl, Below.refl _ _⟩
  by_cases hsm : 1048576 < ms.length
  · go_wp2_with fail
    go_ret
    exact ⟨rfl, Below.refl _ _⟩
  go_wp2_with fail
  refine (draw_DrawRunPlanC _ bs w hv0).mono ?_
  rintro e w1 ⟨vp, vb, p, b, rfl, op, ob, hbl, hol, b1⟩
  obtain ⟨Ap, cp, rfl⟩ := openP op.rdp
  obtain ⟨Ab, nb, cb, rfl, hnb, _, _, _⟩ := ob.rd
  subst hnb
  obtain ⟨w2, hw2⟩ : ∃ u, u = w1.alloc (Obj.cells #[.int .i64 p.bins, .int .i64 p.passes, .slice Ap p.order.length cp] 25) := ⟨_, rfl⟩
  have hb2 : w2.heap[w1.heap.size]? = some (.cells #[.int .i64 p.bins, .int .i64 p.passes, .slice Ap p.order.length cp] 25 (0, 0)) := by rw [hw2]; exact heap_alloc_new w1 _
  have hb12 : Below w1.heap.size w1 w2 := by rw [hw2]; exact (Below.refl _ _).alloc (Nat.le_refl _) _
  have HWB := Lib.hid (b1.trans (hb12.mono b1.size))
  have HRP : Hid (∀ W, Below w2.heap.size w2 W → rdP W W.heap.size (.agg #[.int .i64 p.bins, .int .i64 p.passes, .slice Ap p.order.length cp]) p) := fun W hW => (op.rdp.on hb12).on hW
  have HRB : Hid (∀ W, Below w2.heap.size w2 W → rd W W.heap.size (.slice Ab b.length cb) b) := fun W hW => (ob.rd.on hb12).on hW
  have HTB : Hid (∀ W, Below w2.heap.size w2 W → TabW W) := fun W hW => (HX.out.on HWB.out).on hW
  obtain ⟨c0, c1, c2, _, _, _⟩ := threeF hb2
  have q0 := fun W (hW : Below w2.heap.size w2 W) => (hW.cell (p := ⟨w1.heap.size, 0, none⟩) (block_of_cell c0)).trans c0
  have q1 := fun W (hW : Below w2.heap.size w2 W) => (hW.cell (p := ⟨w1.heap.size, 1, none⟩) (block_of_cell c1)).trans c1
  have q2 := fun W (hW : Below w2.heap.size w2 W) => (hW.cell (p := ⟨w1.heap.size, 2, none⟩) (block_of_cell c2)).trans c2
  have HQ := Lib.hid (And.intro q0 (And.intro q1 q2))
  have HW2 := Lib.hid hw2
  have l2 := Below.refl w2.heap.size w2
  clear hw2 hb2 hb12 op ob b1 hv0 hsz hol q0 q1 q2
  go_wp2_with fail
  rw [← HW2.out]
  refine (impl_RunPlan _ _ p b _ (HRP.out _ l2) (HRB.out _ l2)).mono ?_
  rintro e w3 ⟨vL, vO, rfl, oL, oO, _, b3⟩
  have HOL := Lib.hid oL; have HOO := Lib.hid oO
  obtain ⟨AL, nL, cL, rfl, hnL0, _, _, _⟩ := oL.rd
  obtain ⟨AO, nO, cO, rfl, hnO0, _, _, _⟩ := oO.rd
  have hnL := Lib.hid hnL0; have hnO := Lib.hid hnO0
  clear hnL0 hnO0
  have l3 := later_trans l2 b3
  clear oL oO b3 c0 c1 c2
  have c0 := HQ.out.1 _ l3; have c1 := HQ.out.2.1 _ l3; have c2 := HQ.out.2.2 _ l3
  go_wp2_with fail
  refine (spec_RunPlan _ _ p b _ (HRP.out _ l3) (HRB.out _ l3)).mono ?_
  rintro e w4 ⟨vS, vT, rfl, oS, oT, _, b4⟩
  obtain ⟨AT4, nT4, cT4, rfl, -, -, -, -⟩ := oT.rd
  clear oT
  have HOL4 := Lib.hid (HOL.out.below b4); have HOO4 := Lib.hid (HOO.out.below b4)
  have HSL := Lib.hid oS
  obtain ⟨AS, nS, cS, rfl, -, -, -, -⟩ := oS.rd
  have l4 := later_trans l3 b4
  clear oS b4 c0 c1 c2 l3
  go_wp2_with fail
  refine (so_batch _ _ (rpRound p b) _ HOL4.out.rd HSL.out.rd).mono ?_
  rintro e w5 ⟨rfl, b5⟩
  have HOL5 := Lib.hid (HOL4.out.below b5); have HSL5 := Lib.hid (HSL.out.below b5)
  have l5 := later_trans l4 b5
  clear b5 l4
  cases hk : rpOk p b
  · clear hk
    go_wp2_with fail
    refine (so_batch _ _ (rpRound p b) _ HOL5.out.rd HSL5.out.rd).mono ?_
    rintro e w6 ⟨rfl, b6⟩
    have HL6 := Lib.hid (later_trans l5 b6)
    clear b6 l5
    go_wp2_with fail
    go_ret
    exact ⟨rfl, HWB.out.trans (HL6.out.mono HWB.out.size)⟩
  obtain ⟨hp, hb⟩ := rp_parts hk
  have hb60 := okB_len' hb
  have hb14 : b.length ≤ 14 := by omega
  have hlens := rp_lens hk
  rw [← hnL.out, ← hnO.out] at hlens
  have hdg : ms.length % 7 < 7 := Nat.mod_lt _ (by decide)
  obtain ⟨dg, hdge⟩ : ∃ dg, ms.length % 7 = dg := ⟨_, rfl⟩
  rw [hdge] at hdg
  have hdgi : (ms.length : Int) % 7 = (dg : Int) := by omega
  obtain ⟨f1, f2, f3, f4, f5, f6, f7, f8⟩ := sort_facts hk hdg
  have hk2 : rpOk p (sortedL b) = true := by unfold rpOk; rw [hp, okB_of_perm (sortedL_perm b) hb]; rfl
  have hlen2 := rp_lens hk2
  rw [(sortedL_perm b).length_eq] at hlen2
  obtain ⟨mv, m1, m2⟩ := moved_nat hk
  obtain ⟨se, s1, s2⟩ := seal_nat f6
  obtain ⟨os, o1, o2⟩ := oseal_nat f6
  have HRUN : Hid (∀ W, Below w2.heap.size w2 W → Calls Tryz.prog 20 #[.string (linesT (sortLs p b dg))] W fun e w' => e = .returned (.string (linesT (sortAs p b dg))) ∧ Below W.heap.size W w') := fun W hW => run_sort hk hb14 hdg W (HTB.out W hW)
  rw [sortText_is, sortOut_is f8] at HRUN
  have HSO : Hid (∀ W, Below w2.heap.size w2 W → Calls Tryz.prog 37 #[.slice Ab b.length cb] W fun e w' => ∃ v', e = .returned v' ∧ own 89 W.heap.size w' v' (sortedL b) ∧ Below W.heap.size W w') := fun W hW => so_sorted _ b W (HRB.out W hW) (by omega) hb
  have HSP : Hid (∀ W, Below w2.heap.size w2 W → Calls Tryz.prog 38 #[.slice Ab b.length cb, .int .i64 (dg : Int)] W fun e w' => ∃ v', e = .returned (.tuple #[v', .bool true]) ∧ own 89 W.heap.size w' v' (spL b (dg : Int)) ∧ Below W.heap.size W w') := fun W hW => by
    have h := impl_SortPass _ b (dg : Int) W (HRB.out W hW)
    rw [f1] at h; exact h
  have HSS : Hid (∀ (v : Value) (W : World), rd W W.heap.size v (spL b (dg : Int)) → Calls Tryz.prog 37 #[v] W fun e w' => ∃ v', e = .returned v' ∧ own 89 W.heap.size w' v' (sortS b dg) ∧ Below W.heap.size W w') := fun v W h => so_sorted _ _ W h (by omega) f2
  have HR2 : Hid (∀ (v : Value) (W : World), Below w2.heap.size w2 W → rd W W.heap.size v (sortedL b) → Calls Tryz.prog 34 #[.agg #[.int .i64 p.bins, .int .i64 p.passes, .slice Ap p.order.length cp], v] W fun e w' => ∃ vR vS, e = .returned (.tuple #[vR, vS, .bool true]) ∧ own 89 W.heap.size w' vR (rpRound p (sortedL b)) ∧ own 89 W.heap.size w' vS (rpRest p (sortedL b)) ∧ Below W.heap.size W w') := fun v W hW hr => by
    have h := impl_RunPlan _ _ p (sortedL b) W (HRP.out W hW) hr
    rw [hk2] at h
    exact h.mono fun e w' ⟨a, b, x1, x2, x3, _, x5⟩ => ⟨a, b, x1, x2, x3, x5⟩
  have HR3 : Hid (∀ (v : Value) (W : World), Below w2.heap.size w2 W → rd W W.heap.size v (sortS b dg) → Calls Tryz.prog 34 #[.agg #[.int .i64 p.bins, .int .i64 p.passes, .slice Ap p.order.length cp], v] W fun e w' => ∃ vR vS, e = .returned (.tuple #[vR, vS, .bool true]) ∧ own 89 W.heap.size w' vR (rpRound p (sortS b dg)) ∧ own 89 W.heap.size w' vS (rpRest p (sortS b dg)) ∧ Below W.heap.size W w') := fun v W hW hr => by
    have h := impl_RunPlan _ _ p (sortS b dg) W (HRP.out W hW) hr
    rw [f5] at h
    exact h.mono fun e w' ⟨a, b, x1, x2, x3, _, x5⟩ => ⟨a, b, x1, x2, x3, x5⟩
  have HFP : Hid (∀ W, Below w2.heap.size w2 W → Calls Tryz.prog 13 #[.agg #[.int .i64 p.bins, .int .i64 p.passes, .slice Ap p.order.length cp]] W fun e w' => e = .returned (.string (fmtPl p)) ∧ Below W.heap.size W w') := fun W hW => impl_FormatPlan _ p W (HRP.out W hW) (HTB.out W hW)
  have HFB : Hid (∀ W, Below w2.heap.size w2 W → Calls Tryz.prog 12 #[.slice Ab b.length cb] W fun e w' => e = .returned (.string (fmtB b)) ∧ Below W.heap.size W w') := fun W hW => impl_FormatBatch _ b W (HRB.out W hW) (HTB.out W hW)
  have HML : Hid (∀ W, Below w2.heap.size w2 W → Calls Tryz.prog 39 #[.agg #[.int .i64 p.bins, .int .i64 p.passes, .slice Ap p.order.length cp], .slice Ab b.length cb] W fun e w' => e = .returned (.int .i64 (mv : Int)) ∧ Below W.heap.size W w') := fun W hW => by
    have h := impl_MovedLetters _ _ p b W (HRP.out W hW) (HRB.out W hW)
    rw [m1] at h; exact h
  have HF : Hid (∀ (xs : List Ltr) (v : Value) (W : World), Below w2.heap.size w2 W → rd W W.heap.size v xs → Calls Tryz.prog 12 #[v] W fun e w' => e = .returned (.string (fmtB xs)) ∧ Below W.heap.size W w') := fun xs v W hW h => impl_FormatBatch v xs W h (HTB.out W hW)
  have HD1 := Lib.hid (fun W => so_decimal dg W (by omega))
  have HD2 := Lib.hid (fun W => so_decimal mv W (by omega))
  have HD3 := Lib.hid (fun W => so_decimal se W (by omega))
  have HD4 := Lib.hid (fun W => so_decimal os W (by omega))
  have HSE : Hid (∀ (v : Value) (W : World), rd W W.heap.size v (rpRound p (sortS b dg)) → Calls Tryz.prog 40 #[v] W fun e w' => e = .returned (.int .i64 (se : Int)) ∧ Below W.heap.size W w') := fun v W h => by
    have h := impl_SealOf v _ W h
    rw [s1] at h; exact h
  have HOS : Hid (∀ (v : Value) (W : World), rd W W.heap.size v (rpRound p (sortS b dg)) → Calls Tryz.prog 41 #[v] W fun e w' => e = .returned (.int .i64 (os : Int)) ∧ Below W.heap.size W w') := fun v W h => by
    have h := impl_OrderSeal v _ W h
    rw [o1] at h; exact h
  rw [m1, s1, o1, numT_nat, numT_nat, numT_nat] at HRUN
  have z1 := fmtPl_size p
  have z2 := fmtB_size b
  have z3 := fmtB_size (spL b (dg : Int))
  have z4 := fmtB_size (sortS b dg)
  have z5 := fmtB_size (rpRound p (sortS b dg))
  have z6 := fmtB_size (rpRest p (sortS b dg))
  have z7 := (dec10_size (n := dg) (by omega)).1
  have z8 := (dec10_size (n := mv) (by omega)).1
  have z9 := (dec10_size (n := se) (by omega)).1
  have z10 := (dec10_size (n := os) (by omega)).1
  clear hk hk2 hp hb f1 f2 f3 f4 f5 f6 f7 f8 m1 s1 o1 hdge hb60 hbl
  generalize fmtPl p = FP at *
  have HFS1 : Hid (∀ (v : Value) (W : World), Below w2.heap.size w2 W → rd W W.heap.size v (spL b (dg : Int)) → Calls Tryz.prog 12 #[v] W fun e w' => e = .returned (.string (fmtB (spL b (dg : Int)))) ∧ Below W.heap.size W w') := fun v W => HF.out _ v W
  have HFS2 : Hid (∀ (v : Value) (W : World), Below w2.heap.size w2 W → rd W W.heap.size v (sortS b dg) → Calls Tryz.prog 12 #[v] W fun e w' => e = .returned (.string (fmtB (sortS b dg))) ∧ Below W.heap.size W w') := fun v W => HF.out _ v W
  have HFR : Hid (∀ (v : Value) (W : World), Below w2.heap.size w2 W → rd W W.heap.size v (rpRound p (sortS b dg)) → Calls Tryz.prog 12 #[v] W fun e w' => e = .returned (.string (fmtB (rpRound p (sortS b dg)))) ∧ Below W.heap.size W w') := fun v W => HF.out _ v W
  have HFQ : Hid (∀ (v : Value) (W : World), Below w2.heap.size w2 W → rd W W.heap.size v (rpRest p (sortS b dg)) → Calls Tryz.prog 12 #[v] W fun e w' => e = .returned (.string (fmtB (rpRest p (sortS b dg)))) ∧ Below W.heap.size W w') := fun v W => HF.out _ v W
  clear HF
  generalize fmtB (rpRound p (sortS b dg)) = FR at *
  generalize fmtB (rpRest p (sortS b dg)) = FQ at *
  generalize rpRound p (sortS b dg) = R at *
  generalize rpRest p (sortS b dg) = Q at *
  generalize fmtB (sortS b dg) = FS2 at *
  generalize sortS b dg = S at *
  generalize fmtB (spL b (dg : Int)) = FS1 at *
  generalize spL b (dg : Int) = L at *
  generalize fmtB b = FB at *
  generalize decB dg = DG at *
  generalize decB mv = DM at *
  generalize decB se = DS at *
  generalize decB os = DO at *
  go_wp2_with fail
  refine (HSO.out _ l5).mono ?_
  rintro e w6 ⟨v6, rfl, o6, b6⟩
  have HO6 := Lib.hid o6
  obtain ⟨A6, n6, c6, rfl, -, -, -, -⟩ := o6.rd
  have l6 := later_trans l5 b6
  clear o6 b6 l5 HSO
  go_wp2_with fail
  refine (HSP.out _ l6).mono ?_
  rintro e w7 ⟨v7, rfl, o7, b7⟩
  have HO7 := Lib.hid o7
  obtain ⟨A7, n7, c7, rfl, -, -, -, -⟩ := o7.rd
  replace HO6 := Lib.hid (HO6.out.below b7)
  have l7 := later_trans l6 b7
  clear o7 b7 l6 HSP
  have c0 := HQ.out.1 _ l7; have c1 := HQ.out.2.1 _ l7; have c2 := HQ.out.2.2 _ l7
  go_wp2_with fail
  refine (HR2.out _ _ l7 HO6.out.rd).mono ?_
  rintro e w8 ⟨vR, vS, rfl, oR, oS, b8⟩
  obtain ⟨AR, nR, cR, rfl, hnR, -, -, -⟩ := oR.rd
  obtain ⟨AT, nT, cT, rfl, hnT, -, -, -⟩ := oS.rd
  rw [← hnR, ← hnT] at hlen2
  clear hnR hnT
  have l8 := later_trans l7 b8
  replace HO7 := Lib.hid (HO7.out.below b8)
  clear oR oS b8 l7 HR2 c0 c1 c2 HO6
  have c0 := HQ.out.1 _ l8; have c1 := HQ.out.2.1 _ l8; have c2 := HQ.out.2.2 _ l8
  go_wp2_with fail
  refine (HFP.out _ l8).mono ?_
  rintro e w9 ⟨rfl, b9⟩
  have l9 := later_trans l8 b9
  replace HO7 := Lib.hid (HO7.out.below b9)
  clear b9 l8 c0 c1 c2
  go_wp2_with fail
  refine (HFB.out _ l9).mono ?_
  rintro e w10 ⟨rfl, b10⟩
  have l10 := later_trans l9 b10
  replace HO7 := Lib.hid (HO7.out.below b10)
  clear b10 l9
  obtain ⟨a1, a2, a3, a4, a5, a6⟩ := sort_sums1 (show FP.size ≤ 1000 by omega) z2 (show DG.size ≤ 1000 by omega)
  go_wp2_with fail
  refine (HD1.out _).mono ?_
  rintro e w11 ⟨rfl, b11⟩
  have l11 := later_trans l10 b11
  replace HO7 := Lib.hid (HO7.out.below b11)
  clear b11 l10
  obtain ⟨b1, b2, b3, b4, b5, b6, b7, b8⟩ := sort_sums2 z2 (show DM.size ≤ 1000 by omega) z3 z4
  have HO7U : Hid (∀ W, Below w11.heap.size w11 W → rd W W.heap.size (.slice A7 n7 c7) L) := fun W hW => (HO7.out.below hW).rd
  have G1 := Lib.hid (fun W (hW : Below w11.heap.size w11 W) => HFB.out W (later_trans l11 hW))
  have G2 := Lib.hid (fun W (hW : Below w11.heap.size w11 W) => HML.out W (later_trans l11 hW))
  have G4 := Lib.hid (fun W (hW : Below w11.heap.size w11 W) => HFS1.out _ W (later_trans l11 hW) (HO7U.out W hW))
  have G5 := Lib.hid (fun W (hW : Below w11.heap.size w11 W) => HSS.out _ W (HO7U.out W hW))
  have G6 := Lib.hid (fun v W (hW : Below w11.heap.size w11 W) => HFS2.out v W (later_trans l11 hW))
  have q0 := fun W (hW : Below w11.heap.size w11 W) => HQ.out.1 W (later_trans l11 hW)
  have q1 := fun W (hW : Below w11.heap.size w11 W) => HQ.out.2.1 W (later_trans l11 hW)
  have q2 := fun W (hW : Below w11.heap.size w11 W) => HQ.out.2.2 W (later_trans l11 hW)
  have ld := later_drew (Below.refl w11.heap.size w11)
  have L11 := Lib.hid l11
  clear a1 a2 a3 a4 a5 a6
  clear l11 HFB HFP HML HD1 HFS1 HFS2
  go_wp2_with fail
  go_region_held3 (fun W => Below w11.heap.size w11 W) (first | exact ld | exact k6 | exact k5 | exact k4 | exact k3 | exact k2 | exact k1 | fail) (first | (go_at_call 12; first | ((with_reducible refine (G1.out _ ld).mono ?_); rintro e u1 ⟨rfl, z1⟩; have k1 := later_trans ld z1) | ((with_reducible refine (G4.out _ k3).mono ?_); rintro e u4 ⟨rfl, z4⟩; have k4 := later_trans k3 z4) | ((with_reducible refine (G6.out _ _ k5 O5.out.rd).mono ?_); rintro e u6 ⟨rfl, z6⟩; have k6 := later_trans k5 z6) | fail) | (go_at_call 39; first | ((with_reducible refine (G2.out _ k1).mono ?_); rintro e u2 ⟨rfl, z2⟩; have k2 := later_trans k1 z2) | fail) | (go_at_call 15; first | ((with_reducible refine (HD2.out _).mono ?_); rintro e u3 ⟨rfl, z3⟩; have k3 := later_trans k2 z3) | fail) | (go_at_call 37; first | ((with_reducible refine (G5.out _ k4).mono ?_); rintro e u5 ⟨v5, rfl, o5, z5⟩; have k5 := later_trans k4 z5; have O5 := Lib.hid o5; obtain ⟨A5, n5, c5, rfl, -, -, -, -⟩ := o5.rd; clear o5) | fail) | fail)
  all_goals
    have K6 := Lib.hid k6
    clear k1 k2 k3 k4 k5 k6 z1 z2 z3 z4 z5 z6 ld O5 q0 q1 q2
    have P7 := Lib.hid (fun W (hW : Below u6.heap.size u6 W) => HO7U.out W (later_trans K6.out hW))
    have Q1 := Lib.hid (fun W (hW : Below u6.heap.size u6 W) => HSS.out _ W (P7.out W hW))
    have Q2 := Lib.hid (fun v W (hW : Below u6.heap.size u6 W) => HR3.out v W (later_trans (later_trans L11.out K6.out) hW))
    have q0 := fun W (hW : Below u6.heap.size u6 W) => HQ.out.1 W (later_trans (later_trans L11.out K6.out) hW)
    have q1 := fun W (hW : Below u6.heap.size u6 W) => HQ.out.2.1 W (later_trans (later_trans L11.out K6.out) hW)
    have q2 := fun W (hW : Below u6.heap.size u6 W) => HQ.out.2.2 W (later_trans (later_trans L11.out K6.out) hW)
    have le := later_drew (Below.refl u6.heap.size u6)
    clear G1 G2 G4 G5 G6 HR3 HSS HD2 b1 b2 b3 b4 b5 b6 b7 b8
    go_wp2_with fail
    go_region_held3 (fun W => Below u6.heap.size u6 W) (first | exact le | exact j2 | exact j1 | fail) (first | (go_at_call 37; first | ((with_reducible refine (Q1.out _ le).mono ?_); rintro e t1 ⟨v1, rfl, o1, y1⟩; have j1 := later_trans le y1; have O1 := Lib.hid o1; obtain ⟨A1', n1', c1', rfl, -, -, -, -⟩ := o1.rd; clear o1) | fail) | (go_at_call 34; first | ((with_reducible refine (Q2.out _ _ j1 O1.out.rd).mono ?_); rintro e t2 ⟨va, vb, rfl, oa, ob, y2⟩; have j2 := later_trans j1 y2; have OA := Lib.hid oa; have OB := Lib.hid ob; obtain ⟨Aa, na, ca, rfl, -, -, -, -⟩ := oa.rd; obtain ⟨Ab', nb', cb', rfl, -, -, -, -⟩ := ob.rd; clear oa ob) | fail) | fail)
    all_goals
      have HB2 := Lib.hid (later_trans (later_trans L11.out K6.out) j2)
      have OAU := Lib.hid (fun W (hW : Below t2.heap.size t2 W) => (OA.out.below hW).rd)
      have OBU := Lib.hid (fun W (hW : Below t2.heap.size t2 W) => (OB.out.below hW).rd)
      have r0 := Below.refl t2.heap.size t2
      clear j1 j2 y1 y2 le O1 Q1 Q2 q0 q1 q2 OA OB
      obtain ⟨b1, b2, b3, b4, b5, b6, b7, b8, b9, b10, b11, b12, b13, b14, b15, b16⟩ := sort_sums3 z2 (show DM.size ≤ 1000 by omega) z3 z4 z5 z6 (show DS.size ≤ 1000 by omega) (show DO.size ≤ 1000 by omega)
      go_wp2_with fail
      refine (HFR.out _ _ (later_trans HB2.out r0) (OAU.out _ r0)).mono ?_
      rintro e t3 ⟨rfl, x3⟩
      have r3 := later_trans r0 x3
      clear x3 r0
      go_wp2_with fail
      refine (HFQ.out _ _ (later_trans HB2.out r3) (OBU.out _ r3)).mono ?_
      rintro e t4 ⟨rfl, x4⟩
      have r4 := later_trans r3 x4
      clear x4 r3
      go_wp2_with fail
      refine (HSE.out _ _ (OAU.out _ r4)).mono ?_
      rintro e t5 ⟨rfl, x5⟩
      have r5 := later_trans r4 x5
      clear x5 r4
      go_wp2_with fail
      refine (HD3.out _).mono ?_
      rintro e t6 ⟨rfl, x6⟩
      have r6 := later_trans r5 x6
      clear x6 r5
      go_wp2_with fail
      refine (HOS.out _ _ (OAU.out _ r6)).mono ?_
      rintro e t7 ⟨rfl, x7⟩
      have r7 := later_trans r6 x7
      clear x7 r6
      go_wp2_with fail
      refine (HD4.out _).mono ?_
      rintro e t8 ⟨rfl, x8⟩
      have r8 := later_trans r7 x8
      clear x8 r7
      have hw1 : IntKind.i64.wrap ((nR : Int) + (nT : Int)) = (b.length : Int) := by rw [IntWalk.i64_in _ (by omega)]; omega
      have hw2 : IntKind.i64.wrap ((nL : Int) + (nO : Int)) = (b.length : Int) := by rw [IntWalk.i64_in _ (by omega)]; omega
      go_wp2_with fail
      refine (HRUN.out _ (later_trans HB2.out r8)).mono ?_
      rintro e t9 ⟨rfl, x9⟩
      have R9 := Lib.hid (later_trans HB2.out (later_trans r8 x9))
      clear x9 r8
      go_wp2_with fail
      go_ret
      exact ⟨rfl, HWB.out.trans (R9.out.mono HWB.out.size)⟩

end Go.Proofs.YtpinkbodbedajaaGreatDoor
