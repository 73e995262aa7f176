/- FnScriptDay: the walk of the law. Written by gen_ksd.py. -/
import Derived.Test.YtpinkbodbedajaaGreatDoorQ12
import Derived.Test.YtpinkbodbedajaaGreatDoorQ16
import Derived.Test.YtpinkbodbedajaaGreatDoorQ23
import Derived.Test.YtpinkbodbedajaaGreatDoorQ27
import Derived.Deep.RegionHeld3
namespace Go.Proofs.YtpinkbodbedajaaGreatDoor
open Go.RowKit

theorem rdA_of {α : Type} [El α] {w : World} {B : Nat} {A : Option Addr} {n c : Nat} {xs : List α} (h : rd w B (.slice A n c) xs) : rdA w B A xs := by
  obtain ⟨A', n', c', h1, h2, h3, h4, h5⟩ := h
  injection h1 with e1 e2 e3
  subst e1
  exact h5
theorem rd_cap {α : Type} [El α] {w : World} {B : Nat} {A : Option Addr} {n c : Nat} {xs : List α} (h : rd w B (.slice A n c) xs) : n ≤ c := by
  obtain ⟨A', n', c', h1, h2, h3, h4, h5⟩ := h
  injection h1 with e1 e2 e3
  omega
theorem dayHd_is (d : Dy) (b : List Ltr) : linesT (dayHd d b) = (((((((((⟨#[108, 101, 116, 116, 101, 114, 115, 32]⟩ : ByteArray) ++ fmtB b) ++ ⟨#[10, 112, 108, 97, 110, 32]⟩) ++ fmtPl d.plan) ++ ⟨#[10, 102, 111, 114, 119, 97, 114, 100, 115, 32]⟩) ++ fmtFo d.fwds) ++ ⟨#[10, 115, 105, 122, 101, 32]⟩) ++ decB d.size.toNat) ++ ⟨#[10]⟩) := by
  refine ba_ext ?_
  unfold dayHd
  simp only [linesT_cons, linesT_nil, ba_append, lnOne, lettersWd, planWd, forwardsWd, sizeWd]
  simp
theorem ansHd_is (b : List Ltr) : linesT (ansHd b) = (fmtB b ++ ⟨#[10, 111, 107, 10, 111, 107, 10, 111, 107, 10]⟩) := by
  refine ba_ext ?_
  unfold ansHd
  simp only [linesT_cons, linesT_nil, ba_append, okW]
  simp
theorem dayLs_is (d : Dy) (b : List Ltr) : linesT (dayLs d b) = (linesT (dayHd d b) ++ linesT (dayMd (d.held.take d.held.length))) ++ ⟨#[100, 97, 121, 10, 116, 114, 97, 121, 115, 10, 101, 110, 100, 108, 101, 115, 115, 10]⟩ := by
  unfold dayLs
  rw [linesT_app, linesT_app, List.take_length]
  congr 1
theorem dayAs_is (d : Dy) (b : List Ltr) : linesT (dayAs d b) = ((((((linesT (ansHd b) ++ linesT (ansMd d.held d.held.length)) ++ fmtR (rptOf d b)) ++ ⟨#[10]⟩) ++ fmtT (dtRows d b)) ++ ⟨#[10]⟩) ++ listT (endS d.fwds)) ++ ⟨#[10]⟩ := by
  unfold dayAs ansTl
  rw [linesT_app, linesT_app]
  apply ba_ext
  simp only [linesT_cons, linesT_nil, ba_append]
  simp
theorem md_succ {hs : List ByteArray} {k : Nat} (h : k < hs.length) : linesT (dayMd (hs.take (k + 1))) = ((linesT (dayMd (hs.take k)) ++ ⟨#[104, 111, 108, 100, 32]⟩) ++ hs[k]) ++ ⟨#[10]⟩ := by
  rw [List.take_succ_eq_append_getElem h]
  unfold dayMd
  rw [List.map_append, linesT_app, List.map_cons, List.map_nil, linesT_one]
  apply ba_ext
  unfold lnOne holdWd
  simp only [ba_append]
  simp
theorem am_succ (hs : List ByteArray) (k : Nat) : linesT (ansMd hs (k + 1)) = (linesT (ansMd hs k) ++ listT (hs.take (k + 1))) ++ ⟨#[10]⟩ := by
  unfold ansMd
  rw [List.range_succ, List.map_append, linesT_app, List.map_cons, List.map_nil, linesT_one]
  apply ba_ext
  simp only [ba_append, List.append_assoc]

theorem day_sums1 {FB FP FF DG : ByteArray} (hFB : FB.size ≤ 1000) (hFP : FP.size ≤ 1000) (hFF : FF.size ≤ 1000) (hDG : DG.size ≤ 1000) :
    ¬ 9223372036854775807 < 8 + FB.size ∧
    ¬ 9223372036854775807 < 8 + FB.size + 6 ∧
    ¬ 9223372036854775807 < 8 + FB.size + 6 + FP.size ∧
    ¬ 9223372036854775807 < 8 + FB.size + 6 + FP.size + 10 ∧
    ¬ 9223372036854775807 < 8 + FB.size + 6 + FP.size + 10 + FF.size ∧
    ¬ 9223372036854775807 < 8 + FB.size + 6 + FP.size + 10 + FF.size + 6 ∧
    ¬ 9223372036854775807 < 8 + FB.size + 6 + FP.size + 10 + FF.size + 6 + DG.size ∧
    ¬ 9223372036854775807 < 8 + FB.size + 6 + FP.size + 10 + FF.size + 6 + DG.size + 1 := by
  refine ⟨?_, ?_, ?_, ?_, ?_, ?_, ?_, ?_⟩ <;> omega

theorem day_sums2 {OU FR FT FE : ByteArray} (h1 : OU.size ≤ 10000) (h2 : FR.size ≤ 10000) (h3 : FT.size ≤ 10000) (h4 : FE.size ≤ 10000) :
    ¬ 9223372036854775807 < OU.size + FR.size ∧
    ¬ 9223372036854775807 < OU.size + FR.size + 1 ∧
    ¬ 9223372036854775807 < OU.size + FR.size + 1 + FT.size ∧
    ¬ 9223372036854775807 < OU.size + FR.size + 1 + FT.size + 1 ∧
    ¬ 9223372036854775807 < OU.size + FR.size + 1 + FT.size + 1 + FE.size ∧
    ¬ 9223372036854775807 < OU.size + FR.size + 1 + FT.size + 1 + FE.size + 1 := by
  refine ⟨?_, ?_, ?_, ?_, ?_, ?_⟩ <;> omega

set_option maxRecDepth 100000 in
set_option maxHeartbeats 6400000 in
theorem walk_FnScriptDay (w : World) (v : Value) (bs : List UInt8) (hv : rd w w.heap.size v bs) (hX : TabW w) :
    Calls Tryz.prog 3 #[v] w fun e w' => e = .returned (.bool true) ∧ Below w.heap.size w w' := by
  have HX := Lib.hid hX; clear hX
  have hv0 := hv
  obtain ⟨A, n, c, rfl, hn, hc, hm, _⟩ := hv
  subst hn
  unfold maxLen at hm
  go_enter Tryz.func3, Tryz.ntmps3
  by_cases hsz : 1048576 < bs.length
  · go_wp2_with fail
    go_ret
    exact ⟨rfl, Below.refl _ _⟩
  go_wp2_with fail
  refine (draw_DrawRunDay _ bs w hv0).mono ?_
  rintro e w1 ⟨vd, vb, d, xs, rfl, oz, ob, hxl, hol, hfl, hhl, b1⟩
  have hvd := oz.rd
  obtain ⟨A0, c0, A1, c1, A2, c2, e0⟩ := openD hvd
  obtain ⟨w0, hw0⟩ : ∃ w0, w0 = w1.alloc (Obj.cells #[.int .i64 d.plan.bins, .int .i64 d.plan.passes, .slice A0 d.plan.order.length c0, .slice A1 d.fwds.length c1, .slice A2 d.held.length c2, .int .i64 d.size] 28) := ⟨_, rfl⟩
  have q0 := box_cells hw0 0 (.int .i64 d.plan.bins) rfl
  have q1 := box_cells hw0 1 (.int .i64 d.plan.passes) rfl
  have q2 := box_cells hw0 2 (.slice A0 d.plan.order.length c0) rfl
  have q3 := box_cells hw0 3 (.slice A1 d.fwds.length c1) rfl
  have q4 := box_cells hw0 4 (.slice A2 d.held.length c2) rfl
  have q5 := box_cells hw0 5 (.int .i64 d.size) rfl
  have HT := Lib.hid (box_later hw0).1
  have HD := Lib.hid (hvd.on HT.out)
  subst e0
  have HB := Lib.hid (ob.rd.on HT.out)
  have HWB : Hid (Below w.heap.size w w0) := b1.trans (HT.out.mono b1.size)
  have HW0 := Lib.hid hw0
  have l0 := Below.refl w0.heap.size w0
  clear hw0 hvd oz ob b1 HT hv0
  obtain ⟨R, hR⟩ : ∃ R, R = rptOf d xs := ⟨_, rfl⟩
  have HRE : Hid (rptOf d xs = R) := hR.symm
  clear hR
  go_wp2_with fail
  rw [← HW0.out]
  refine (impl_RunDay _ _ d xs _ (HD.out.on l0) (HB.out.on l0)).mono ?_
  rintro e w3a ⟨vR, rfl, oR, bR⟩
  have lR := later_trans l0 bR
  rw [HRE.out] at oR
  obtain ⟨v0, v1, v2, v3, rfl, o0, o1, o2, o3, _⟩ := oR
  have hr0 := o0.rd
  obtain ⟨rA0, n0, rc0, rfl, rfl, _, _, _⟩ := o0.rd
  have hr1 := o1.rd
  obtain ⟨rA1, n1, rc1, rfl, rfl, _, _, _⟩ := o1.rd
  have hr2 := o2.rd
  obtain ⟨rA2, n2, rc2, rfl, rfl, _, _, _⟩ := o2.rd
  have hr3 := o3.rd
  obtain ⟨rA3, n3, rc3, rfl, rfl, _, _, _⟩ := o3.rd
  obtain ⟨w3, hwn⟩ : ∃ u, u = w3a.alloc (Obj.cells #[.slice rA0 R.round.length rc0, .slice rA1 R.strange.length rc1, .slice rA2 R.held.length rc2, .slice rA3 R.stuck.length rc3] 33) := ⟨_, rfl⟩
  have r0 := box_cells hwn 0 (.slice rA0 R.round.length rc0) rfl
  have r1 := box_cells hwn 1 (.slice rA1 R.strange.length rc1) rfl
  have r2 := box_cells hwn 2 (.slice rA2 R.held.length rc2) rfl
  have r3 := box_cells hwn 3 (.slice rA3 R.stuck.length rc3) rfl
  have hT := (box_later hwn).1
  have HWN := Lib.hid hwn
  clear hwn
  have R0 := Lib.hid (hr0.on hT)
  have R1 := Lib.hid (hr1.on hT)
  have R2 := Lib.hid (hr2.on hT)
  have R3 := Lib.hid (hr3.on hT)
  have HTN := Lib.hid hT
  clear hT bR l0 hr0 hr1 hr2 hr3 o0 o1 o2 o3
  go_wp2_with fail
  rw [← HWN.out]
  have lN := later_trans lR HTN.out
  replace q0 := fun W (h : Below w3.heap.size w3 W) => q0 W (later_trans lN h)
  replace q1 := fun W (h : Below w3.heap.size w3 W) => q1 W (later_trans lN h)
  replace q2 := fun W (h : Below w3.heap.size w3 W) => q2 W (later_trans lN h)
  replace q3 := fun W (h : Below w3.heap.size w3 W) => q3 W (later_trans lN h)
  replace q4 := fun W (h : Below w3.heap.size w3 W) => q4 W (later_trans lN h)
  replace q5 := fun W (h : Below w3.heap.size w3 W) => q5 W (later_trans lN h)
  replace HD := Lib.hid (HD.out.on lN)
  replace HB := Lib.hid (HB.out.on lN)
  replace HWB := Lib.hid (HWB.out.trans (lN.mono HWB.out.size))
  have lw3 := Below.refl w3.heap.size w3
  clear lN lR HTN HWN
  refine (spec_RunDay _ _ d xs _ (HD.out.on lw3) (HB.out.on lw3)).mono ?_
  rintro e w5a ⟨vR, rfl, oR, bR⟩
  have lR := later_trans lw3 bR
  rw [HRE.out] at oR
  obtain ⟨v0, v1, v2, v3, rfl, o0, o1, o2, o3, _⟩ := oR
  have hr0 := o0.rd
  obtain ⟨sA0, n0, sc0, rfl, rfl, _, _, _⟩ := o0.rd
  have hr1 := o1.rd
  obtain ⟨sA1, n1, sc1, rfl, rfl, _, _, _⟩ := o1.rd
  have hr2 := o2.rd
  obtain ⟨sA2, n2, sc2, rfl, rfl, _, _, _⟩ := o2.rd
  have hr3 := o3.rd
  obtain ⟨sA3, n3, sc3, rfl, rfl, _, _, _⟩ := o3.rd
  obtain ⟨w5, hwn⟩ : ∃ u, u = w5a.alloc (Obj.cells #[.slice sA0 R.round.length sc0, .slice sA1 R.strange.length sc1, .slice sA2 R.held.length sc2, .slice sA3 R.stuck.length sc3] 33) := ⟨_, rfl⟩
  have s0 := box_cells hwn 0 (.slice sA0 R.round.length sc0) rfl
  have s1 := box_cells hwn 1 (.slice sA1 R.strange.length sc1) rfl
  have s2 := box_cells hwn 2 (.slice sA2 R.held.length sc2) rfl
  have s3 := box_cells hwn 3 (.slice sA3 R.stuck.length sc3) rfl
  have hT := (box_later hwn).1
  have HWN := Lib.hid hwn
  clear hwn
  have S0 := Lib.hid (hr0.on hT)
  have S1 := Lib.hid (hr1.on hT)
  have S2 := Lib.hid (hr2.on hT)
  have S3 := Lib.hid (hr3.on hT)
  have HTN := Lib.hid hT
  clear hT bR lw3 hr0 hr1 hr2 hr3 o0 o1 o2 o3
  go_wp2_with fail
  rw [← HWN.out]
  have lN := later_trans lR HTN.out
  replace q0 := fun W (h : Below w5.heap.size w5 W) => q0 W (later_trans lN h)
  replace q1 := fun W (h : Below w5.heap.size w5 W) => q1 W (later_trans lN h)
  replace q2 := fun W (h : Below w5.heap.size w5 W) => q2 W (later_trans lN h)
  replace q3 := fun W (h : Below w5.heap.size w5 W) => q3 W (later_trans lN h)
  replace q4 := fun W (h : Below w5.heap.size w5 W) => q4 W (later_trans lN h)
  replace q5 := fun W (h : Below w5.heap.size w5 W) => q5 W (later_trans lN h)
  replace r0 := fun W (h : Below w5.heap.size w5 W) => r0 W (later_trans lN h)
  replace r1 := fun W (h : Below w5.heap.size w5 W) => r1 W (later_trans lN h)
  replace r2 := fun W (h : Below w5.heap.size w5 W) => r2 W (later_trans lN h)
  replace r3 := fun W (h : Below w5.heap.size w5 W) => r3 W (later_trans lN h)
  replace HD := Lib.hid (HD.out.on lN)
  replace HB := Lib.hid (HB.out.on lN)
  replace R0 := Lib.hid (R0.out.on lN)
  replace R1 := Lib.hid (R1.out.on lN)
  replace R2 := Lib.hid (R2.out.on lN)
  replace R3 := Lib.hid (R3.out.on lN)
  replace HWB := Lib.hid (HWB.out.trans (lN.mono HWB.out.size))
  have lw5 := Below.refl w5.heap.size w5
  clear lN lR HTN HWN
  have HTB : Hid (∀ W, Below w5.heap.size w5 W → TabW W) := fun W hW => (HX.out.on HWB.out).on hW
  cases hk : rdOk d xs
  · clear hk
    refine (so_reports _ _ R _ ⟨_, _, _, _, rfl, R0.out.on lw5, R1.out.on lw5, R2.out.on lw5, R3.out.on lw5⟩ ⟨_, _, _, _, rfl, S0.out.on lw5, S1.out.on lw5, S2.out.on lw5, S3.out.on lw5⟩).mono ?_
    rintro e w6 ⟨rfl, b⟩
    have l6 := later_trans lw5 b
    clear b lw5
    go_wp2_with fail
    refine (so_reports _ _ R _ ⟨_, _, _, _, rfl, R0.out.on l6, R1.out.on l6, R2.out.on l6, R3.out.on l6⟩ ⟨_, _, _, _, rfl, S0.out.on l6, S1.out.on l6, S2.out.on l6, S3.out.on l6⟩).mono ?_
    rintro e w8 ⟨rfl, b⟩
    have l8 := later_trans l6 b
    clear b l6
    go_wp2_with fail
    go_ret
    exact ⟨rfl, HWB.out.trans (l8.mono HWB.out.size)⟩
  obtain ⟨hp, hf, ⟨hl30, hcs⟩, ⟨hs1, hs2⟩, hb⟩ := day_facts hk
  obtain ⟨dk, tk⟩ := dt_traysK hk
  have hfw := (fwdsOk_iff.1 hf).1
  have HRDD : Hid (∀ W, Below w5.heap.size w5 W → rdD W W.heap.size (.agg #[.int .i64 d.plan.bins, .int .i64 d.plan.passes, .slice A0 d.plan.order.length c0, .slice A1 d.fwds.length c1, .slice A2 d.held.length c2, .int .i64 d.size]) d) := fun W hW => HD.out.on hW
  have HI : Hid (isI64 d.plan.bins ∧ isI64 d.plan.passes ∧ isI64 d.size) := by
    obtain ⟨_, _, _, _, i1, i2, i3, _⟩ := HD.out
    exact ⟨i1, i2, i3⟩
  have HRUN : Hid (∀ W, Below w5.heap.size w5 W → Calls Tryz.prog 20 #[.string (linesT (dayLs d xs))] W fun e w' => e = .returned (.string (linesT (dayAs d xs))) ∧ Below W.heap.size W w') := fun W hW => run_day hk HI.out W (HTB.out W hW)
  rw [dayLs_is, dayAs_is, HRE.out] at HRUN
  have HDT : Hid (∀ W, Below w5.heap.size w5 W → Calls Tryz.prog 11 #[.agg #[.int .i64 d.plan.bins, .int .i64 d.plan.passes, .slice A0 d.plan.order.length c0, .slice A1 d.fwds.length c1, .slice A2 d.held.length c2, .int .i64 d.size], vb] W fun e w' => ∃ v', e = .returned (.tuple #[v', .bool true]) ∧ ownLL 29 89 W.heap.size w' v' (dtRows d xs) ∧ Below W.heap.size W w') := fun W hW => by
    have h := impl_DayTrays _ _ d xs W (HRDD.out W hW) (HB.out.on hW)
    rw [dk] at h; exact h
  have HFB : Hid (∀ W, Below w5.heap.size w5 W → Calls Tryz.prog 12 #[vb] W fun e w' => e = .returned (.string (fmtB xs)) ∧ Below W.heap.size W w') := fun W hW => impl_FormatBatch _ xs W (HB.out.on hW) (HTB.out W hW)
  have HFP : Hid (∀ W, Below w5.heap.size w5 W → Calls Tryz.prog 13 #[.agg #[.int .i64 d.plan.bins, .int .i64 d.plan.passes, .slice A0 d.plan.order.length c0]] W fun e w' => e = .returned (.string (fmtPl d.plan)) ∧ Below W.heap.size W w') := fun W hW => impl_FormatPlan _ d.plan W (partsD (HRDD.out W hW)).1 (HTB.out W hW)
  have HFF : Hid (∀ W, Below w5.heap.size w5 W → Calls Tryz.prog 14 #[.slice A1 d.fwds.length c1] W fun e w' => e = .returned (.string (fmtFo d.fwds)) ∧ Below W.heap.size W w') := fun W hW => impl_FormatForwards _ d.fwds W (partsD (HRDD.out W hW)).2.2.1
  have HEC : Hid (∀ W, Below w5.heap.size w5 W → Calls Tryz.prog 19 #[.slice A1 d.fwds.length c1] W fun e w' => ∃ v', e = .returned v' ∧ own 9 W.heap.size w' v' (endS d.fwds) ∧ Below W.heap.size W w') := fun W hW => impl_EndlessCodes _ d.fwds W (partsD (HRDD.out W hW)).2.2.1
  have HDG : Hid (∀ W : World, Calls Tryz.prog 15 #[.int .i64 d.size] W fun e w' => e = .returned (.string (decB d.size.toNat)) ∧ Below W.heap.size W w') := fun W => by
    have h := so_decimal d.size.toNat W (by omega)
    rw [Int.toNat_of_nonneg (by omega)] at h; exact h
  have HFT : Hid (∀ (v : Value) (W : World), Below w5.heap.size w5 W → rd W W.heap.size v (dtRows d xs) → Calls Tryz.prog 18 #[v] W fun e w' => e = .returned (.string (fmtT (dtRows d xs))) ∧ Below W.heap.size W w') := fun v W hW h => impl_FormatTrays_yes v _ W h tk (HTB.out W hW)
  have HFR : Hid (∀ W, Below w5.heap.size w5 W → Calls Tryz.prog 17 #[.agg #[.slice rA0 R.round.length rc0, .slice rA1 R.strange.length rc1, .slice rA2 R.held.length rc2, .slice rA3 R.stuck.length rc3]] W fun e w' => e = .returned (.string (fmtR R)) ∧ Below W.heap.size W w') := fun W hW => impl_FormatReport _ R W ⟨_, _, _, _, rfl, R0.out.on hW, R1.out.on hW, R2.out.on hW, R3.out.on hW⟩ (HTB.out W hW)
  have HSL : Hid (∀ (k : Nat) (W : World), k ≤ d.held.length → Below w5.heap.size w5 W → Calls Tryz.prog 16 #[.slice A2 k c2] W fun e w' => e = .returned (.string (listT (d.held.take k))) ∧ W = w') := fun k W hk hW => so_list _ _ W ((partsD (HRDD.out W hW)).2.2.2.1.take hk) (by rw [List.length_take]; omega) fun p hp => by have := (code_mem (hcs p (List.mem_of_mem_take hp))).1; omega
  have HSE : Hid (∀ (v : Value) (W : World), rd W W.heap.size v (endS d.fwds) → Calls Tryz.prog 16 #[v] W fun e w' => e = .returned (.string (listT (endS d.fwds))) ∧ W = w') := fun v W h => so_list _ _ W h (by have := endS_len (fs := d.fwds); omega) fun p hp => by have := (code_mem (endS_mem _ p hp)).1; omega
  have HTK : Hid (linesT (dayHd d xs) = (((((((((⟨#[108, 101, 116, 116, 101, 114, 115, 32]⟩ : ByteArray) ++ fmtB xs) ++ ⟨#[10, 112, 108, 97, 110, 32]⟩) ++ fmtPl d.plan) ++ ⟨#[10, 102, 111, 114, 119, 97, 114, 100, 115, 32]⟩) ++ fmtFo d.fwds) ++ ⟨#[10, 115, 105, 122, 101, 32]⟩) ++ decB d.size.toNat) ++ ⟨#[10]⟩)) := dayHd_is d xs
  have HOK : Hid (linesT (ansHd xs) = (fmtB xs ++ ⟨#[10, 111, 107, 10, 111, 107, 10, 111, 107, 10]⟩)) := ansHd_is xs
  have z1 := fmtB_size xs
  have z2 := fmtPl_size d.plan
  have z3 := fmtFo_size d.fwds
  have z4 := (dec10_size (n := d.size.toNat) (by omega)).1
  have zR := fmtR_le (r := R)
  have zT := (fmtT_le tk).1
  have zE := (codes_list (ps := endS d.fwds) (by have := endS_len (fs := d.fwds); omega) (endS_mem _)).1
  have HHC : Hid (∀ c ∈ d.held, isCode c = true) := hcs
  have HHS := Lib.hid (partsD HD.out).2.2.2.1
  have HRDA := Lib.hid (rdA_of HHS.out)
  have HC2 := Lib.hid (rd_cap HHS.out)
  refine (so_reports _ _ R _ ⟨_, _, _, _, rfl, R0.out.on lw5, R1.out.on lw5, R2.out.on lw5, R3.out.on lw5⟩ ⟨_, _, _, _, rfl, S0.out.on lw5, S1.out.on lw5, S2.out.on lw5, S3.out.on lw5⟩).mono ?_
  rintro e w6 ⟨rfl, b6⟩
  have l6 := later_trans lw5 b6
  clear b6 lw5 hk hp hf hcs hb dk tk S0 S1 S2 S3 R0 R1 R2 R3 s0 s1 s2 s3
  generalize fmtB xs = FB at *
  generalize fmtPl d.plan = FP at *
  generalize fmtFo d.fwds = FF at *
  generalize decB d.size.toNat = DG at *
  generalize fmtR R = FR at *
  generalize fmtT (dtRows d xs) = FT at *
  generalize listT (endS d.fwds) = FE at *
  have HQA := Lib.hid (And.intro q0 (And.intro q1 (And.intro q2 (And.intro q3 (And.intro q4 q5)))))
  have HRA := Lib.hid (And.intro r0 (And.intro r1 (And.intro r2 r3)))
  clear q0 q1 q2 q3 q4 q5 r0 r1 r2 r3
  have e0 := HQA.out.1 _ l6; have e1 := HQA.out.2.1 _ l6; have e2 := HQA.out.2.2.1 _ l6; have e3 := HQA.out.2.2.2.1 _ l6; have e4 := HQA.out.2.2.2.2.1 _ l6; have e5 := HQA.out.2.2.2.2.2 _ l6
  go_wp2_with fail
  refine (HDT.out _ l6).mono ?_
  rintro e w7 ⟨v7, rfl, o7, b7⟩
  have HO7 := Lib.hid o7.rd
  obtain ⟨A7, n7, c7, rfl, -, -, -, -⟩ := o7.rd
  have l7 := later_trans l6 b7
  have L7 := Lib.hid l7
  have HR7 : Hid (∀ W, Below w7.heap.size w7 W → rd W W.heap.size (.slice A7 n7 c7) (dtRows d xs)) := fun W hW => HO7.out.on hW
  clear e0 e1 e2 e3 e4 e5 l6 o7 b7 HDT
  have q0 := fun W (hW : Below w7.heap.size w7 W) => HQA.out.1 W (later_trans l7 hW)
  have q1 := fun W (hW : Below w7.heap.size w7 W) => HQA.out.2.1 W (later_trans l7 hW)
  have q2 := fun W (hW : Below w7.heap.size w7 W) => HQA.out.2.2.1 W (later_trans l7 hW)
  have q3 := fun W (hW : Below w7.heap.size w7 W) => HQA.out.2.2.2.1 W (later_trans l7 hW)
  have q5 := fun W (hW : Below w7.heap.size w7 W) => HQA.out.2.2.2.2.2 W (later_trans l7 hW)
  have G1 := Lib.hid (fun W (hW : Below w7.heap.size w7 W) => HFB.out W (later_trans L7.out hW))
  have G2 := Lib.hid (fun W (hW : Below w7.heap.size w7 W) => HFP.out W (later_trans L7.out hW))
  have G3 := Lib.hid (fun W (hW : Below w7.heap.size w7 W) => HFF.out W (later_trans L7.out hW))
  have ld := later_drew (Below.refl w7.heap.size w7)
  obtain ⟨a1, a2, a3, a4, a5, a6, a7, a8⟩ := day_sums1 z1 (show FP.size ≤ 1000 by omega) (show FF.size ≤ 1000 by omega) (show DG.size ≤ 1000 by omega)
  clear l7
  go_wp2_with fail
  go_region_held3 (fun W => Below w7.heap.size w7 W) (first | exact ld | exact k4 | exact k3 | exact k2 | exact k1 | fail) (first | (go_at_call 12; first | ((with_reducible refine (G1.out _ ld).mono ?_); rintro e u1 ⟨rfl, z1'⟩; have k1 := later_trans ld z1') | fail) | (go_at_call 13; first | ((with_reducible refine (G2.out _ k1).mono ?_); rintro e u2 ⟨rfl, z2'⟩; have k2 := later_trans k1 z2') | fail) | (go_at_call 14; first | ((with_reducible refine (G3.out _ k2).mono ?_); rintro e u3 ⟨rfl, z3'⟩; have k3 := later_trans k2 z3') | fail) | (go_at_call 15; first | ((with_reducible refine (HDG.out _).mono ?_); rintro e u4 ⟨rfl, z4'⟩; have k4 := later_trans k3 z4') | fail) | fail)
  all_goals
    have K4 := Lib.hid k4
    clear k1 k2 k3 k4 z1' z2' z3' z4' ld q0 q1 q2 q3 q5 G2 G3
    have o1 : ¬ 9223372036854775807 < FB.size + 10 := by omega
    go_wp2_with fail
    rw [← HTK.out]
    refine (G1.out _ K4.out).mono ?_
    rintro e u5 ⟨rfl, b5⟩
    have K5 := Lib.hid (later_trans K4.out b5)
    have l5 := later_trans L7.out K5.out
    clear b5 a1 a2 a3 a4 a5 a6 a7 a8
    have zt : (linesT (dayHd d xs)).size ≤ 3000 := by
      rw [HTK.out]
      simp only [ByteArray.size_append]
      show 8 + _ + 6 + _ + 10 + _ + 6 + _ + 1 ≤ _
      omega
    have zo : (linesT (ansHd xs)).size ≤ 1100 := by
      rw [HOK.out]
      simp only [ByteArray.size_append]
      show _ + 10 ≤ _
      omega
    go_wp2_with fail
    rw [← HOK.out]
    generalize linesT (dayHd d xs) = T0 at *
    generalize linesT (ansHd xs) = O0 at *
    go_loopw [11, 12, 13] (fun t o i wr => ∃ k : Nat, k ≤ d.held.length ∧ i = .int .i64 k ∧ t = .string (T0 ++ linesT (dayMd (d.held.take k))) ∧ o = .string (O0 ++ linesT (ansMd d.held k)) ∧ Below w7.heap.size w7 wr) (fun _ _ i _ => d.held.length - (intOf i).toNat)
    case atStart =>
      refine ⟨0, Nat.zero_le _, rfl, ?_, ?_, K5.out⟩
      · congr 1; apply ba_ext; rw [ba_append]; simp [dayMd, linesT_nil]
      · congr 1; apply ba_ext; rw [ba_append]; simp [ansMd, linesT_nil]
    case round =>
      obtain ⟨k, hkk, rfl, rfl, rfl, l7r⟩ := hrel
      obtain ⟨W, rfl⟩ : ∃ W : World, W = wr := ⟨_, rfl⟩
      have lr := later_trans L7.out l7r
      have HLR := Lib.hid l7r
      clear l7r
      have g4 := HQA.out.2.2.2.2.1 _ lr
      have m1 := linesT_le (m := 12) (dayMd (d.held.take k)) fun l h => by
        obtain ⟨c, hc, rfl⟩ := List.mem_map.1 h
        rw [lnOne_size, (code_mem (HHC.out c (List.mem_of_mem_take hc))).1]
        decide
      have m2 := linesT_le (m := 241) (ansMd d.held k) fun a h => by
        obtain ⟨i, _, rfl⟩ := List.mem_map.1 h
        exact (codes_list (by rw [List.length_take]; omega) fun p hp => HHC.out p (List.mem_of_mem_take hp)).1
      have m3 : (dayMd (d.held.take k)).length = k := by unfold dayMd; rw [List.length_map, List.length_take]; omega
      have m4 : (ansMd d.held k).length = k := by unfold ansMd; rw [List.length_map, List.length_range]
      rw [m3] at m1
      rw [m4] at m2
      have m5 : (T0 ++ linesT (dayMd (d.held.take k))).size ≤ 4000 := by rw [ByteArray.size_append]; omega
      have m6 : (O0 ++ linesT (ansMd d.held k)).size ≤ 9000 := by rw [ByteArray.size_append]; omega
      clear m1 m2 m3 m4
      by_cases hlt : k < d.held.length
      · have HM := Lib.hid (md_succ hlt)
        have HA := Lib.hid (am_succ d.held k)
        obtain ⟨b2, o2, hA2, hbb, _, y1⟩ := rdA.strU (HRDA.out) k hlt
        obtain rfl := hA2
        replace y1 := y1 W lr
        have c7z := (code_mem (HHC.out _ (List.getElem_mem hlt))).1
        have SL := Lib.hid (HSL.out (k + 1) W (by omega) lr)
        have ls := (codes_list (ps := d.held.take (k + 1)) (by rw [List.length_take]; omega) fun p hp => HHC.out p (List.mem_of_mem_take hp)).1
        generalize listT (d.held.take (k + 1)) = ll at *
        obtain ⟨tx, htx⟩ : ∃ tx, T0 ++ linesT (dayMd (d.held.take k)) = tx := ⟨_, rfl⟩
        obtain ⟨ox, hox⟩ : ∃ ox, O0 ++ linesT (ansMd d.held k) = ox := ⟨_, rfl⟩
        rw [htx] at m5 ⊢
        rw [hox] at m6 ⊢
        have HT1 : Hid (T0 ++ linesT (dayMd (d.held.take (k + 1))) = ((tx ++ ⟨#[104, 111, 108, 100, 32]⟩) ++ d.held[k]) ++ ⟨#[10]⟩) := by
          show _ = _
          rw [HM.out, ← htx]; apply ba_ext; simp only [ba_append, List.append_assoc]
        have HO1 : Hid (O0 ++ linesT (ansMd d.held (k + 1)) = (ox ++ ll) ++ ⟨#[10]⟩) := by
          show _ = _
          rw [HA.out, ← hox]; apply ba_ext; simp only [ba_append, List.append_assoc]
        clear htx hox HM HA
        obtain ⟨cd, hcd⟩ : ∃ cd, d.held[k] = cd := ⟨_, rfl⟩
        rw [hcd] at y1 c7z HT1
        clear hcd
        have hki : (k : Int) < (d.held.length : Int) := by omega
        have hki0 : (0 : Int) ≤ (k : Int) := by omega
        have hk1 : (k : Int) + 1 ≤ (d.held.length : Int) := by omega
        have hw1 : IntKind.i64.wrap ((k : Int) + 1) = ((k + 1 : Nat) : Int) := by rw [IntWalk.i64_in _ (by omega)]; omega
        have t1 : ¬ 9223372036854775807 < tx.size + 5 := by omega
        have t2 : ¬ 9223372036854775807 < tx.size + 5 + cd.size := by omega
        have t3 : ¬ 9223372036854775807 < tx.size + 5 + cd.size + 1 := by omega
        have t4 : ¬ 9223372036854775807 < ox.size + ll.size := by omega
        have t5 : ¬ 9223372036854775807 < ox.size + ll.size + 1 := by omega
        have hc2 : d.held.length ≤ c2 := HC2.out
        clear c7z
        go_wp2_with fail
        refine SL.out.mono ?_
        rintro e _ ⟨rfl, rfl⟩
        go_wp2_with fail
        go_roundw
        case rel => exact ⟨k + 1, by omega, by go_num, by rw [HT1.out], by rw [HO1.out], HLR.out⟩
        case measure => simp [intOf]; omega
      · have hke : k = d.held.length := by omega
        have HL2 := Lib.hid hke
        rw [show d.held.take k = d.held.take d.held.length by rw [hke], show ansMd d.held k = ansMd d.held d.held.length by rw [hke]] at *
        generalize T0 ++ linesT (dayMd (d.held.take d.held.length)) = TX at *
        generalize O0 ++ linesT (ansMd d.held d.held.length) = OX at *
        clear g4
        have HLRW := Lib.hid (And.intro hlt hkk)
        clear hke
        have ld := later_drew (Below.refl W.heap.size W)
        have q3 := fun V (hV : Below W.heap.size W V) => HQA.out.2.2.2.1 V (later_trans lr hV)
        have r0 := fun V (hV : Below W.heap.size W V) => HRA.out.1 V (later_trans lr hV)
        have r1 := fun V (hV : Below W.heap.size W V) => HRA.out.2.1 V (later_trans lr hV)
        have r2 := fun V (hV : Below W.heap.size W V) => HRA.out.2.2.1 V (later_trans lr hV)
        have r3 := fun V (hV : Below W.heap.size W V) => HRA.out.2.2.2 V (later_trans lr hV)
        have F1 := Lib.hid (fun V (hV : Below W.heap.size W V) => HFR.out V (later_trans lr hV))
        have F2 := Lib.hid (fun V (hV : Below W.heap.size W V) => HFT.out (.slice A7 n7 c7) V (later_trans lr hV) (HR7.out V (later_trans HLR.out hV)))
        have F3 := Lib.hid (fun V (hV : Below W.heap.size W V) => HEC.out V (later_trans lr hV))
        obtain ⟨b1, b2, b3, b4, b5, b6⟩ := day_sums2 (OU := OX) (FR := FR) (FT := FT) (FE := FE) (by omega) (by omega) (by omega) (by omega)
        have t1 : ¬ 9223372036854775807 < TX.size + 18 := by omega
        have hki : ¬ ((k : Int) < (d.held.length : Int)) := by have := HLRW.out.1; omega
        have g4 := HQA.out.2.2.2.2.1 _ lr
        clear lr
        go_wp2_with fail
        go_region_held3 (fun V => Below W.heap.size W V) (first | exact ld | exact k3 | exact k2 | exact k1 | fail) (first | (go_at_call 17; first | ((with_reducible refine (F1.out _ ld).mono ?_); rintro e u1 ⟨rfl, z1'⟩; have k1 := later_trans ld z1') | fail) | (go_at_call 18; first | ((with_reducible refine (F2.out _ k1).mono ?_); rintro e u2 ⟨rfl, z2'⟩; have k2 := later_trans k1 z2') | fail) | (go_at_call 19; first | ((with_reducible refine (F3.out _ k2).mono ?_); rintro e u3 ⟨v3, rfl, o3, z3'⟩; have k3 := later_trans k2 z3'; have O3 := Lib.hid o3; obtain ⟨A3', n3', c3', rfl, -, -, -, -⟩ := o3.rd; clear o3) | fail) | (go_at_call 16; first | ((with_reducible refine (HSE.out _ _ O3.out.rd).mono ?_); rintro e _ ⟨rfl, rfl⟩) | fail) | fail)
        all_goals
          have K3 := Lib.hid k3
          clear k1 k2 k3 z1' z2' z3' ld q3 r0 r1 r2 r3 b1 b2 b3 b4 b5 b6 O3
          go_wp2_with fail
          refine (HRUN.out _ (later_trans (later_trans L7.out HLR.out) K3.out)).mono ?_
          rintro e we ⟨rfl, be⟩
          go_wp2_with fail
          go_ret
          exact ⟨rfl, HWB.out.trans ((later_trans (later_trans (later_trans L7.out HLR.out) K3.out) be).mono HWB.out.size)⟩

end Go.Proofs.YtpinkbodbedajaaGreatDoor
