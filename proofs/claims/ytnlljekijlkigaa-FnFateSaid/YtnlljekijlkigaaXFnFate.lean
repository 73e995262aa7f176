/- FnFate: the walk of the law. Written by gen_ld.py. -/
import Derived.Test.YtnlljekijlkigaaQ23
import Derived.Test.YtnlljekijlkigaaQ40
import Derived.Test.YtnlljekijlkigaaQ42
import Derived.Test.YtnlljekijlkigaaQ43
import Derived.Deep.RegionHeld3
namespace Go.Proofs.Ytnlljekijlkigaa
open Go.RowKit

theorem rd_A {α : Type} [El α] {w : World} {B : Nat} {A : Option Addr} {n c : Nat} {xs : List α} (h : rd w B (.slice A n c) xs) : n = xs.length ∧ n ≤ c ∧ c ≤ maxLen ∧ rdA w B A xs := by
  obtain ⟨A', n', c', e, h1, h2, h3, h4⟩ := h
  injection e with e1 e2 e3
  subst e1 e2 e3
  exact ⟨h1, by omega, h3, h4⟩

set_option maxRecDepth 100000 in
set_option maxHeartbeats 2000000 in
theorem walk_FnFate (w : World) (v : Value) (bs : List UInt8) (hv : rd w w.heap.size v bs) :
    Calls Try.prog 4 #[v] w fun e w' => e = .returned (.bool true) ∧ Below w.heap.size w w' := by
  have hv0 := hv
  obtain ⟨A, n, c, rfl, hn, hc, hm, _⟩ := hv
  subst hn
  unfold maxLen at hm
  go_enter Try.func4, Try.ntmps4
  by_cases hsz : 1048576 < bs.length
  · go_wp2_with fail
    go_ret
    exact ⟨rfl, Below.refl _ _⟩
  go_wp2_with fail
  refine (draw_DrawRunDay _ bs w hv0).mono ?_
  rintro e w1 ⟨vd, vb, d, xs, rfl, oz, ob, hxl, hol, hfl, hhl, b1⟩
  have hvd := oz.rd
  obtain ⟨A0, c0, A1, c1, A2, c2, e0⟩ := openD hvd
  obtain ⟨w0, hw0⟩ : ∃ w0, w0 = w1.alloc (Obj.cells #[.int .i64 d.plan.bins, .int .i64 d.plan.passes, .slice A0 d.plan.order.length c0, .slice A1 d.fwds.length c1, .slice A2 d.held.length c2, .int .i64 d.size] 28) := ⟨_, rfl⟩
  have q0 := box_cells hw0 0 (.int .i64 d.plan.bins) rfl
  have q1 := box_cells hw0 1 (.int .i64 d.plan.passes) rfl
  have q2 := box_cells hw0 2 (.slice A0 d.plan.order.length c0) rfl
  have q3 := box_cells hw0 3 (.slice A1 d.fwds.length c1) rfl
  have q4 := box_cells hw0 4 (.slice A2 d.held.length c2) rfl
  have q5 := box_cells hw0 5 (.int .i64 d.size) rfl
  have HT := Lib.hid (box_later hw0).1
  have HD := Lib.hid (hvd.on HT.out)
  subst e0
  have HB := Lib.hid (ob.rd.on HT.out)
  have HWB : Hid (Below w.heap.size w w0) := b1.trans (HT.out.mono b1.size)
  have HW0 := Lib.hid hw0
  have l0 := Below.refl w0.heap.size w0
  clear hw0 hvd oz ob b1 HT hv0
  obtain ⟨R, hR⟩ : ∃ R, R = rptOf d xs := ⟨_, rfl⟩
  have HRE : Hid (rptOf d xs = R) := hR.symm
  clear hR
  go_wp2_with fail
  rw [← HW0.out]
  refine (impl_RunDay _ _ d xs _ (HD.out.on l0) (HB.out.on l0)).mono ?_
  rintro e w3a ⟨vR, rfl, oR, bR⟩
  have lR := later_trans l0 bR
  rw [HRE.out] at oR
  obtain ⟨v0, v1, v2, v3, rfl, o0, o1, o2, o3, _⟩ := oR
  have hr0 := o0.rd
  obtain ⟨rA0, n0, rc0, rfl, rfl, _, _, _⟩ := o0.rd
  have hr1 := o1.rd
  obtain ⟨rA1, n1, rc1, rfl, rfl, _, _, _⟩ := o1.rd
  have hr2 := o2.rd
  obtain ⟨rA2, n2, rc2, rfl, rfl, _, _, _⟩ := o2.rd
  have hr3 := o3.rd
  obtain ⟨rA3, n3, rc3, rfl, rfl, _, _, _⟩ := o3.rd
  obtain ⟨w3, hwn⟩ : ∃ u, u = w3a.alloc (Obj.cells #[.slice rA0 R.round.length rc0, .slice rA1 R.strange.length rc1, .slice rA2 R.held.length rc2, .slice rA3 R.stuck.length rc3] 33) := ⟨_, rfl⟩
  have r0 := box_cells hwn 0 (.slice rA0 R.round.length rc0) rfl
  have r1 := box_cells hwn 1 (.slice rA1 R.strange.length rc1) rfl
  have r2 := box_cells hwn 2 (.slice rA2 R.held.length rc2) rfl
  have r3 := box_cells hwn 3 (.slice rA3 R.stuck.length rc3) rfl
  have hT := (box_later hwn).1
  have HWN := Lib.hid hwn
  clear hwn
  have R0 := Lib.hid (hr0.on hT)
  have R1 := Lib.hid (hr1.on hT)
  have R2 := Lib.hid (hr2.on hT)
  have R3 := Lib.hid (hr3.on hT)
  have HTN := Lib.hid hT
  clear hT bR l0 hr0 hr1 hr2 hr3 o0 o1 o2 o3
  go_wp2_with fail
  rw [← HWN.out]
  have lN := later_trans lR HTN.out
  replace q0 := fun W (h : Below w3.heap.size w3 W) => q0 W (later_trans lN h)
  replace q1 := fun W (h : Below w3.heap.size w3 W) => q1 W (later_trans lN h)
  replace q2 := fun W (h : Below w3.heap.size w3 W) => q2 W (later_trans lN h)
  replace q3 := fun W (h : Below w3.heap.size w3 W) => q3 W (later_trans lN h)
  replace q4 := fun W (h : Below w3.heap.size w3 W) => q4 W (later_trans lN h)
  replace q5 := fun W (h : Below w3.heap.size w3 W) => q5 W (later_trans lN h)
  replace HD := Lib.hid (HD.out.on lN)
  replace HB := Lib.hid (HB.out.on lN)
  replace HWB := Lib.hid (HWB.out.trans (lN.mono HWB.out.size))
  have lw3 := Below.refl w3.heap.size w3
  clear lN lR HTN HWN
  refine (spec_RunDay _ _ d xs _ (HD.out.on lw3) (HB.out.on lw3)).mono ?_
  rintro e w5a ⟨vR, rfl, oR, bR⟩
  have lR := later_trans lw3 bR
  rw [HRE.out] at oR
  obtain ⟨v0, v1, v2, v3, rfl, o0, o1, o2, o3, _⟩ := oR
  have hr0 := o0.rd
  obtain ⟨sA0, n0, sc0, rfl, rfl, _, _, _⟩ := o0.rd
  have hr1 := o1.rd
  obtain ⟨sA1, n1, sc1, rfl, rfl, _, _, _⟩ := o1.rd
  have hr2 := o2.rd
  obtain ⟨sA2, n2, sc2, rfl, rfl, _, _, _⟩ := o2.rd
  have hr3 := o3.rd
  obtain ⟨sA3, n3, sc3, rfl, rfl, _, _, _⟩ := o3.rd
  obtain ⟨w5, hwn⟩ : ∃ u, u = w5a.alloc (Obj.cells #[.slice sA0 R.round.length sc0, .slice sA1 R.strange.length sc1, .slice sA2 R.held.length sc2, .slice sA3 R.stuck.length sc3] 33) := ⟨_, rfl⟩
  have s0 := box_cells hwn 0 (.slice sA0 R.round.length sc0) rfl
  have s1 := box_cells hwn 1 (.slice sA1 R.strange.length sc1) rfl
  have s2 := box_cells hwn 2 (.slice sA2 R.held.length sc2) rfl
  have s3 := box_cells hwn 3 (.slice sA3 R.stuck.length sc3) rfl
  have hT := (box_later hwn).1
  have HWN := Lib.hid hwn
  clear hwn
  have S0 := Lib.hid (hr0.on hT)
  have S1 := Lib.hid (hr1.on hT)
  have S2 := Lib.hid (hr2.on hT)
  have S3 := Lib.hid (hr3.on hT)
  have HTN := Lib.hid hT
  clear hT bR lw3 hr0 hr1 hr2 hr3 o0 o1 o2 o3
  go_wp2_with fail
  rw [← HWN.out]
  have lN := later_trans lR HTN.out
  replace q0 := fun W (h : Below w5.heap.size w5 W) => q0 W (later_trans lN h)
  replace q1 := fun W (h : Below w5.heap.size w5 W) => q1 W (later_trans lN h)
  replace q2 := fun W (h : Below w5.heap.size w5 W) => q2 W (later_trans lN h)
  replace q3 := fun W (h : Below w5.heap.size w5 W) => q3 W (later_trans lN h)
  replace q4 := fun W (h : Below w5.heap.size w5 W) => q4 W (later_trans lN h)
  replace q5 := fun W (h : Below w5.heap.size w5 W) => q5 W (later_trans lN h)
  replace r0 := fun W (h : Below w5.heap.size w5 W) => r0 W (later_trans lN h)
  replace r1 := fun W (h : Below w5.heap.size w5 W) => r1 W (later_trans lN h)
  replace r2 := fun W (h : Below w5.heap.size w5 W) => r2 W (later_trans lN h)
  replace r3 := fun W (h : Below w5.heap.size w5 W) => r3 W (later_trans lN h)
  replace HD := Lib.hid (HD.out.on lN)
  replace HB := Lib.hid (HB.out.on lN)
  replace R0 := Lib.hid (R0.out.on lN)
  replace R1 := Lib.hid (R1.out.on lN)
  replace R2 := Lib.hid (R2.out.on lN)
  replace R3 := Lib.hid (R3.out.on lN)
  replace HWB := Lib.hid (HWB.out.trans (lN.mono HWB.out.size))
  have lw5 := Below.refl w5.heap.size w5
  clear lN lR HTN HWN
  have htt : ((true : Bool) != true) = false := rfl
  have hff : ((false : Bool) != false) = false := rfl
  have hfe : ((false : Bool) == false) = true := rfl
  cases hok : rdOk d xs
  · clear hok
    refine (so_reports _ _ R _ ⟨_, _, _, _, rfl, R0.out.on lw5, R1.out.on lw5, R2.out.on lw5, R3.out.on lw5⟩ ⟨_, _, _, _, rfl, S0.out.on lw5, S1.out.on lw5, S2.out.on lw5, S3.out.on lw5⟩).mono ?_
    rintro e w6 ⟨rfl, b⟩
    have l6 := later_trans lw5 b
    clear b lw5
    go_wp2_with fail
    refine (so_reports _ _ R _ ⟨_, _, _, _, rfl, R0.out.on l6, R1.out.on l6, R2.out.on l6, R3.out.on l6⟩ ⟨_, _, _, _, rfl, S0.out.on l6, S1.out.on l6, S2.out.on l6, S3.out.on l6⟩).mono ?_
    rintro e w7 ⟨rfl, b⟩
    have l7 := later_trans l6 b
    clear b l6
    go_wp2_with fail
    go_ret
    exact ⟨rfl, HWB.out.trans (l7.mono HWB.out.size)⟩
  have HK := Lib.hid hok; clear hok
  refine (so_reports _ _ R _ ⟨_, _, _, _, rfl, R0.out.on lw5, R1.out.on lw5, R2.out.on lw5, R3.out.on lw5⟩ ⟨_, _, _, _, rfl, S0.out.on lw5, S1.out.on lw5, S2.out.on lw5, S3.out.on lw5⟩).mono ?_
  rintro e w6 ⟨rfl, b⟩
  have l6 := later_trans lw5 b
  clear b lw5
  go_wp2_with fail
  obtain ⟨Ab, nb, cb, rfl, hnb, _, hmb, hrb⟩ := HB.out
  subst hnb
  unfold maxLen at hmb
  have HRB := Lib.hid hrb; clear hrb
  go_loopw [9] (fun i wr => ∃ k : Nat, k ≤ xs.length ∧ i = .int .i64 k ∧ Below w5.heap.size w5 wr) (fun i _ => xs.length - (intOf i).toNat)
  case atStart => exact ⟨0, Nat.zero_le _, rfl, l6⟩
  case round =>
    obtain ⟨k, hk, rfl, lr⟩ := hrel
    obtain ⟨w7, rfl⟩ : ∃ w7 : World, w7 = wr := ⟨_, rfl⟩
    clear l6
    by_cases hlt : k < xs.length
    · obtain ⟨bx, o, rfl, hbx, hok, k1, k2⟩ := HRB.out.ltrU k hlt
      have hki : (k : Int) < (xs.length : Int) := by omega
      obtain ⟨nn, cc, hn, hfa, hme⟩ := fate_part HK.out (List.getElem_mem hlt)
      have hpo := partOf_ok HK.out nn
      rw [HRE.out] at hme hpo
      obtain ⟨kk, hkk, hfi, hget⟩ := findI_mem hpo hme
      have hcs := hok.2
      generalize xs[k] = x at *
      have HC : Hid (∀ W, Below w5.heap.size w5 W → Calls Try.prog 25 #[.agg #[.int .i64 d.plan.bins, .int .i64 d.plan.passes, .slice A0 d.plan.order.length c0, .slice A1 d.fwds.length c1, .slice A2 d.held.length c2, .int .i64 d.size], .string x.code] W fun e W' => e = .returned (.tuple #[.string cc, .string (fateW nn)]) ∧ Below w5.heap.size w5 W') := fun W l => by
        refine (impl_FateOf _ d x.code W (HD.out.on l) hcs).mono ?_
        rw [hfa]
        rintro e W' ⟨rfl, b⟩
        exact ⟨rfl, later_trans l b⟩
      have HFI := Lib.hid hfi; have HGT := Lib.hid (congrArg Ltr.code hget)
      clear hfa hpo hme hfi hget hok hcs
      go_wp2_with fail
      have ld := later_drew lr
      go_region_held3 (fun W => Below w5.heap.size w5 W) (first | exact ld | exact l8) (first | (go_at_call 25; (with_reducible refine (HC.out _ ld).mono ?_); rintro e w8 ⟨rfl, l8⟩))
      clear HC
      rcases hn with rfl | rfl | rfl | rfl
      · rw [show fateW 1 = ({ data := #[115, 116, 117, 99, 107] } : ByteArray) from rfl]
        have hkl : kk < R.stuck.length := hkk
        replace HFI : Hid (findI R.stuck x.id = kk) := HFI
        replace HGT : Hid ((R.stuck[kk]'hkl).code = cc) := HGT
        clear hkk
        obtain ⟨_, _, hm3, hr3⟩ := rd_A R3.out
        obtain ⟨b3, o3, e3, _, _, d1, d2⟩ := hr3.ltrU kk hkl
        rw [HGT.out] at d2
        subst e3
        unfold maxLen at hm3
        clear d1 hr3
        go_wp2_with fail
        refine (so_place _ R.stuck x.id _ (R3.out.on l8)).mono ?_
        rw [HFI.out]
        rintro e w9 ⟨rfl, b⟩
        have l9 := later_trans l8 b
        have hkz : ((kk : Int) < 0) = False := by simp
        have hkj : (kk : Int) < (R.stuck.length : Int) := by omega
        clear b
        go_wp2_with fail
        go_roundw
        case rel => exact ⟨k + 1, by omega, by go_num, l9⟩
        case measure => simp [intOf]; omega
      · rw [show fateW 2 = ({ data := #[104, 101, 108, 100] } : ByteArray) from rfl]
        have hkl : kk < R.held.length := hkk
        replace HFI : Hid (findI R.held x.id = kk) := HFI
        replace HGT : Hid ((R.held[kk]'hkl).code = cc) := HGT
        clear hkk
        obtain ⟨_, _, hm3, hr3⟩ := rd_A R2.out
        obtain ⟨b3, o3, e3, _, _, d1, d2⟩ := hr3.ltrU kk hkl
        rw [HGT.out] at d2
        subst e3
        unfold maxLen at hm3
        clear d1 hr3
        go_wp2_with fail
        refine (so_place _ R.held x.id _ (R2.out.on l8)).mono ?_
        rw [HFI.out]
        rintro e w9 ⟨rfl, b⟩
        have l9 := later_trans l8 b
        have hkz : ((kk : Int) < 0) = False := by simp
        have hkj : (kk : Int) < (R.held.length : Int) := by omega
        clear b
        go_wp2_with fail
        go_roundw
        case rel => exact ⟨k + 1, by omega, by go_num, l9⟩
        case measure => simp [intOf]; omega
      · rw [show fateW 3 = ({ data := #[114, 111, 117, 110, 100] } : ByteArray) from rfl]
        have hkl : kk < R.round.length := hkk
        replace HFI : Hid (findI R.round x.id = kk) := HFI
        replace HGT : Hid ((R.round[kk]'hkl).code = cc) := HGT
        clear hkk
        obtain ⟨_, _, hm3, hr3⟩ := rd_A R0.out
        obtain ⟨b3, o3, e3, _, _, d1, d2⟩ := hr3.ltrU kk hkl
        rw [HGT.out] at d2
        subst e3
        unfold maxLen at hm3
        clear d1 hr3
        go_wp2_with fail
        refine (so_place _ R.round x.id _ (R0.out.on l8)).mono ?_
        rw [HFI.out]
        rintro e w9 ⟨rfl, b⟩
        have l9 := later_trans l8 b
        have hkz : ((kk : Int) < 0) = False := by simp
        have hkj : (kk : Int) < (R.round.length : Int) := by omega
        clear b
        go_wp2_with fail
        go_roundw
        case rel => exact ⟨k + 1, by omega, by go_num, l9⟩
        case measure => simp [intOf]; omega
      · rw [show fateW 4 = ({ data := #[115, 116, 114, 97, 110, 103, 101] } : ByteArray) from rfl]
        have hkl : kk < R.strange.length := hkk
        replace HFI : Hid (findI R.strange x.id = kk) := HFI
        replace HGT : Hid ((R.strange[kk]'hkl).code = cc) := HGT
        clear hkk
        obtain ⟨_, _, hm3, hr3⟩ := rd_A R1.out
        obtain ⟨b3, o3, e3, _, _, d1, d2⟩ := hr3.ltrU kk hkl
        rw [HGT.out] at d2
        subst e3
        unfold maxLen at hm3
        clear d1 hr3
        go_wp2_with fail
        refine (so_place _ R.strange x.id _ (R1.out.on l8)).mono ?_
        rw [HFI.out]
        rintro e w9 ⟨rfl, b⟩
        have l9 := later_trans l8 b
        have hkz : ((kk : Int) < 0) = False := by simp
        have hkj : (kk : Int) < (R.strange.length : Int) := by omega
        clear b
        go_wp2_with fail
        go_roundw
        case rel => exact ⟨k + 1, by omega, by go_num, l9⟩
        case measure => simp [intOf]; omega
    · go_wp2_with fail
      go_ret
      exact ⟨rfl, HWB.out.trans (lr.mono HWB.out.size)⟩

end Go.Proofs.Ytnlljekijlkigaa
