/- FnNoneLost: the walk of the law. Written by gen_ld.py. -/
import Derived.Test.YtnlljekijlkigaaQ23
import Derived.Test.YtnlljekijlkigaaQ40
import Derived.Test.YtnlljekijlkigaaQ42
import Derived.Test.YtnlljekijlkigaaQ47
import Derived.Test.YtnlljekijlkigaaQ48
import Derived.Test.YtnlljekijlkigaaQ41
import Derived.Deep.RegionHeld3
namespace Go.Proofs.Ytnlljekijlkigaa
open Go.RowKit

set_option maxRecDepth 100000 in
set_option maxHeartbeats 2000000 in
theorem walk_FnNoneLost (w : World) (v : Value) (bs : List UInt8) (hv : rd w w.heap.size v bs) :
    Calls Try.prog 6 #[v] w fun e w' => e = .returned (.bool true) ∧ Below w.heap.size w w' := by
  have hv0 := hv
  obtain ⟨A, n, c, rfl, hn, hc, hm, _⟩ := hv
  subst hn
  unfold maxLen at hm
  go_enter Try.func6, Try.ntmps6
  by_cases hsz : 1048576 < bs.length
  · go_wp2_with fail
    go_ret
    exact ⟨rfl, Below.refl _ _⟩
  go_wp2_with fail
  refine (draw_DrawRunDay _ bs w hv0).mono ?_
  rintro e w1 ⟨vd, vb, d, xs, rfl, oz, ob, hxl, hol, hfl, hhl, b1⟩
  have hvd := oz.rd
  obtain ⟨A0, c0, A1, c1, A2, c2, e0⟩ := openD hvd
  obtain ⟨w0, hw0⟩ : ∃ w0, w0 = w1.alloc (Obj.cells #[.int .i64 d.plan.bins, .int .i64 d.plan.passes, .slice A0 d.plan.order.length c0, .slice A1 d.fwds.length c1, .slice A2 d.held.length c2, .int .i64 d.size] 28) := ⟨_, rfl⟩
  have q0 := box_cells hw0 0 (.int .i64 d.plan.bins) rfl
  have q1 := box_cells hw0 1 (.int .i64 d.plan.passes) rfl
  have q2 := box_cells hw0 2 (.slice A0 d.plan.order.length c0) rfl
  have q3 := box_cells hw0 3 (.slice A1 d.fwds.length c1) rfl
  have q4 := box_cells hw0 4 (.slice A2 d.held.length c2) rfl
  have q5 := box_cells hw0 5 (.int .i64 d.size) rfl
  have HT := Lib.hid (box_later hw0).1
  have HD := Lib.hid (hvd.on HT.out)
  subst e0
  have HB := Lib.hid (ob.rd.on HT.out)
  have HWB : Hid (Below w.heap.size w w0) := b1.trans (HT.out.mono b1.size)
  have HW0 := Lib.hid hw0
  have l0 := Below.refl w0.heap.size w0
  clear hw0 hvd oz ob b1 HT hv0
  obtain ⟨R, hR⟩ : ∃ R, R = rptOf d xs := ⟨_, rfl⟩
  have HRE : Hid (rptOf d xs = R) := hR.symm
  clear hR
  go_wp2_with fail
  rw [← HW0.out]
  refine (impl_RunDay _ _ d xs _ (HD.out.on l0) (HB.out.on l0)).mono ?_
  rintro e w3a ⟨vR, rfl, oR, bR⟩
  have lR := later_trans l0 bR
  rw [HRE.out] at oR
  obtain ⟨v0, v1, v2, v3, rfl, o0, o1, o2, o3, _⟩ := oR
  have hr0 := o0.rd
  obtain ⟨rA0, n0, rc0, rfl, rfl, _, _, _⟩ := o0.rd
  have hr1 := o1.rd
  obtain ⟨rA1, n1, rc1, rfl, rfl, _, _, _⟩ := o1.rd
  have hr2 := o2.rd
  obtain ⟨rA2, n2, rc2, rfl, rfl, _, _, _⟩ := o2.rd
  have hr3 := o3.rd
  obtain ⟨rA3, n3, rc3, rfl, rfl, _, _, _⟩ := o3.rd
  obtain ⟨w3, hwn⟩ : ∃ u, u = w3a.alloc (Obj.cells #[.slice rA0 R.round.length rc0, .slice rA1 R.strange.length rc1, .slice rA2 R.held.length rc2, .slice rA3 R.stuck.length rc3] 33) := ⟨_, rfl⟩
  have r0 := box_cells hwn 0 (.slice rA0 R.round.length rc0) rfl
  have r1 := box_cells hwn 1 (.slice rA1 R.strange.length rc1) rfl
  have r2 := box_cells hwn 2 (.slice rA2 R.held.length rc2) rfl
  have r3 := box_cells hwn 3 (.slice rA3 R.stuck.length rc3) rfl
  have hT := (box_later hwn).1
  have HWN := Lib.hid hwn
  clear hwn
  have R0 := Lib.hid (hr0.on hT)
  have R1 := Lib.hid (hr1.on hT)
  have R2 := Lib.hid (hr2.on hT)
  have R3 := Lib.hid (hr3.on hT)
  have HTN := Lib.hid hT
  clear hT bR l0 hr0 hr1 hr2 hr3 o0 o1 o2 o3
  go_wp2_with fail
  rw [← HWN.out]
  have lN := later_trans lR HTN.out
  replace q0 := fun W (h : Below w3.heap.size w3 W) => q0 W (later_trans lN h)
  replace q1 := fun W (h : Below w3.heap.size w3 W) => q1 W (later_trans lN h)
  replace q2 := fun W (h : Below w3.heap.size w3 W) => q2 W (later_trans lN h)
  replace q3 := fun W (h : Below w3.heap.size w3 W) => q3 W (later_trans lN h)
  replace q4 := fun W (h : Below w3.heap.size w3 W) => q4 W (later_trans lN h)
  replace q5 := fun W (h : Below w3.heap.size w3 W) => q5 W (later_trans lN h)
  replace HD := Lib.hid (HD.out.on lN)
  replace HB := Lib.hid (HB.out.on lN)
  replace HWB := Lib.hid (HWB.out.trans (lN.mono HWB.out.size))
  have lw3 := Below.refl w3.heap.size w3
  clear lN lR HTN HWN
  refine (spec_RunDay _ _ d xs _ (HD.out.on lw3) (HB.out.on lw3)).mono ?_
  rintro e w5a ⟨vR, rfl, oR, bR⟩
  have lR := later_trans lw3 bR
  rw [HRE.out] at oR
  obtain ⟨v0, v1, v2, v3, rfl, o0, o1, o2, o3, _⟩ := oR
  have hr0 := o0.rd
  obtain ⟨sA0, n0, sc0, rfl, rfl, _, _, _⟩ := o0.rd
  have hr1 := o1.rd
  obtain ⟨sA1, n1, sc1, rfl, rfl, _, _, _⟩ := o1.rd
  have hr2 := o2.rd
  obtain ⟨sA2, n2, sc2, rfl, rfl, _, _, _⟩ := o2.rd
  have hr3 := o3.rd
  obtain ⟨sA3, n3, sc3, rfl, rfl, _, _, _⟩ := o3.rd
  obtain ⟨w5, hwn⟩ : ∃ u, u = w5a.alloc (Obj.cells #[.slice sA0 R.round.length sc0, .slice sA1 R.strange.length sc1, .slice sA2 R.held.length sc2, .slice sA3 R.stuck.length sc3] 33) := ⟨_, rfl⟩
  have s0 := box_cells hwn 0 (.slice sA0 R.round.length sc0) rfl
  have s1 := box_cells hwn 1 (.slice sA1 R.strange.length sc1) rfl
  have s2 := box_cells hwn 2 (.slice sA2 R.held.length sc2) rfl
  have s3 := box_cells hwn 3 (.slice sA3 R.stuck.length sc3) rfl
  have hT := (box_later hwn).1
  have HWN := Lib.hid hwn
  clear hwn
  have S0 := Lib.hid (hr0.on hT)
  have S1 := Lib.hid (hr1.on hT)
  have S2 := Lib.hid (hr2.on hT)
  have S3 := Lib.hid (hr3.on hT)
  have HTN := Lib.hid hT
  clear hT bR lw3 hr0 hr1 hr2 hr3 o0 o1 o2 o3
  go_wp2_with fail
  rw [← HWN.out]
  have lN := later_trans lR HTN.out
  replace q0 := fun W (h : Below w5.heap.size w5 W) => q0 W (later_trans lN h)
  replace q1 := fun W (h : Below w5.heap.size w5 W) => q1 W (later_trans lN h)
  replace q2 := fun W (h : Below w5.heap.size w5 W) => q2 W (later_trans lN h)
  replace q3 := fun W (h : Below w5.heap.size w5 W) => q3 W (later_trans lN h)
  replace q4 := fun W (h : Below w5.heap.size w5 W) => q4 W (later_trans lN h)
  replace q5 := fun W (h : Below w5.heap.size w5 W) => q5 W (later_trans lN h)
  replace r0 := fun W (h : Below w5.heap.size w5 W) => r0 W (later_trans lN h)
  replace r1 := fun W (h : Below w5.heap.size w5 W) => r1 W (later_trans lN h)
  replace r2 := fun W (h : Below w5.heap.size w5 W) => r2 W (later_trans lN h)
  replace r3 := fun W (h : Below w5.heap.size w5 W) => r3 W (later_trans lN h)
  replace HD := Lib.hid (HD.out.on lN)
  replace HB := Lib.hid (HB.out.on lN)
  replace R0 := Lib.hid (R0.out.on lN)
  replace R1 := Lib.hid (R1.out.on lN)
  replace R2 := Lib.hid (R2.out.on lN)
  replace R3 := Lib.hid (R3.out.on lN)
  replace HWB := Lib.hid (HWB.out.trans (lN.mono HWB.out.size))
  have lw5 := Below.refl w5.heap.size w5
  clear lN lR HTN HWN
  have htt : ((true : Bool) != true) = false := rfl
  have hff : ((false : Bool) != false) = false := rfl
  have hfe : ((false : Bool) == false) = true := rfl
  cases hok : rdOk d xs
  · clear hok
    refine (so_reports _ _ R _ ⟨_, _, _, _, rfl, R0.out.on lw5, R1.out.on lw5, R2.out.on lw5, R3.out.on lw5⟩ ⟨_, _, _, _, rfl, S0.out.on lw5, S1.out.on lw5, S2.out.on lw5, S3.out.on lw5⟩).mono ?_
    rintro e w6 ⟨rfl, b⟩
    have l6 := later_trans lw5 b
    clear b lw5
    go_wp2_with fail
    refine (so_reports _ _ R _ ⟨_, _, _, _, rfl, R0.out.on l6, R1.out.on l6, R2.out.on l6, R3.out.on l6⟩ ⟨_, _, _, _, rfl, S0.out.on l6, S1.out.on l6, S2.out.on l6, S3.out.on l6⟩).mono ?_
    rintro e w7 ⟨rfl, b⟩
    have l7 := later_trans l6 b
    clear b l6
    go_wp2_with fail
    go_ret
    exact ⟨rfl, HWB.out.trans (l7.mono HWB.out.size)⟩
  have HK := Lib.hid hok; clear hok
  have HLN := rptOf_len d xs
  rw [HRE.out] at HLN
  obtain ⟨n0, n1, n2, n3⟩ := HLN
  have HNL := Lib.hid (none_lost HK.out)
  have HAL := Lib.hid (all_len HK.out)
  have HAO := Lib.hid (okB_all HK.out)
  have HXO := Lib.hid (rdOk_iff.1 HK.out).2
  have HSL := Lib.hid (seal_perm (ids_all HK.out))
  rw [HRE.out] at HNL HAL HAO HSL
  have hxl6 := okB_len' HXO.out
  refine (so_reports _ _ R _ ⟨_, _, _, _, rfl, R0.out.on lw5, R1.out.on lw5, R2.out.on lw5, R3.out.on lw5⟩ ⟨_, _, _, _, rfl, S0.out.on lw5, S1.out.on lw5, S2.out.on lw5, S3.out.on lw5⟩).mono ?_
  rintro e w6 ⟨rfl, b⟩
  have l6 := later_trans lw5 b
  clear b lw5
  have HV0 : Hid (∀ W, Below w6.heap.size w6 W → rd W W.heap.size (.slice rA0 R.round.length rc0) R.round) := fun W h => R0.out.on (later_trans l6 h)
  have u0 : ∀ W, Below w6.heap.size w6 W → W.cell? ⟨w3a.heap.size, 0, none⟩ = some (.slice rA0 R.round.length rc0) := fun W h => r0 W (later_trans l6 h)
  have HV1 : Hid (∀ W, Below w6.heap.size w6 W → rd W W.heap.size (.slice rA1 R.strange.length rc1) R.strange) := fun W h => R1.out.on (later_trans l6 h)
  have u1 : ∀ W, Below w6.heap.size w6 W → W.cell? ⟨w3a.heap.size, 1, none⟩ = some (.slice rA1 R.strange.length rc1) := fun W h => r1 W (later_trans l6 h)
  have HV2 : Hid (∀ W, Below w6.heap.size w6 W → rd W W.heap.size (.slice rA2 R.held.length rc2) R.held) := fun W h => R2.out.on (later_trans l6 h)
  have u2 : ∀ W, Below w6.heap.size w6 W → W.cell? ⟨w3a.heap.size, 2, none⟩ = some (.slice rA2 R.held.length rc2) := fun W h => r2 W (later_trans l6 h)
  have HV3 : Hid (∀ W, Below w6.heap.size w6 W → rd W W.heap.size (.slice rA3 R.stuck.length rc3) R.stuck) := fun W h => R3.out.on (later_trans l6 h)
  have u3 : ∀ W, Below w6.heap.size w6 W → W.cell? ⟨w3a.heap.size, 3, none⟩ = some (.slice rA3 R.stuck.length rc3) := fun W h => r3 W (later_trans l6 h)
  replace HB := Lib.hid (HB.out.on l6)
  replace HWB := Lib.hid (HWB.out.trans (l6.mono HWB.out.size))
  clear q0 q1 q2 q3 q4 q5 r0 r1 r2 r3 s0 s1 s2 s3 l6 R0 R1 R2 R3 S0 S1 S2 S3 HD
  have oE := own.made0 (α := Ltr) w6 49 (Nat.le_refl _)
  have oED : own (α := Ltr) 49 w6.heap.size (w6.drew.alloc (Obj.cells #[] 49)) (.slice (some ⟨w6.heap.size, 0, none⟩) 0 0) [] := own.made0 w6.drew _ (Nat.le_refl _)
  have lE : Below w6.heap.size w6 (w6.alloc (Obj.cells #[] 49)) := (Below.refl _ _).alloc (Nat.le_refl _) _
  have lE1 : Below w6.heap.size w6 (w6.alloc (Obj.cells #[] 49)).drew := lE.drew
  have lE2 : Below w6.heap.size w6 (w6.drew.alloc (Obj.cells #[] 49)) := ((Below.refl _ _).drew).alloc (Nat.le_refl _) _
  have lw6d := (Below.refl w6.heap.size w6).drew
  obtain ⟨i0, hi, hz0, hz1, hz2⟩ := info_parts Try.infoLtr
  go_wp2_with fail
  go_region_held3 (fun W => Below w6.heap.size w6 W) (first | exact lw6d | exact lE2 | exact l10 | exact l9 | exact l8 | exact l7) (first | (refine step_appendAll (α := Ltr) (by rfl) (.tmp 51) (.tmp 53) 29 (by rfl) w6.heap.size 49 i0 _ 24 Try.underlying29 hi hz0 hz1 hz2 rfl (by decide) (.slice (some ⟨w6.heap.size, 0, none⟩) 0 0) [] (by rfl) (by first | exact oE | exact oE.drew | exact oED) _ R.round (by rfl) _ (HV0.out _ (by first | exact lE | exact lE1 | exact lE2)) (by unfold maxLen; (try simp only [List.length_nil, List.length_append]); omega) (by (try simp only [List.length_nil, List.length_append]); omega) (by simp) ?_; intro v7 w7 o7 hg7 _; have l7 : Below w6.heap.size w6 w7 := (by first | exact lE.trans (below_append oE hg7 (by simp)) | exact lE1.trans (below_append oE.drew hg7 (by simp)) | exact lE2.trans (below_append oED hg7 (by simp))); rw [List.nil_append] at o7; have hz7 := l7.size) | (refine step_appendAll (α := Ltr) (by rfl) (.tmp 54) (.tmp 56) 29 (by rfl) w6.heap.size 49 i0 _ 24 Try.underlying29 hi hz0 hz1 hz2 rfl (by decide) v7 R.round (by rfl) o7 _ R.strange (by rfl) _ (HV1.out _ l7) (by unfold maxLen; (try simp only [List.length_nil, List.length_append]); omega) (by (try simp only [List.length_nil, List.length_append]); omega) hz7 ?_; intro v8 w8 o8 hg8 _; have l8 : Below w6.heap.size w6 w8 := l7.trans (below_append o7 hg8 hz7); have hz8 := l8.size) | (refine step_appendAll (α := Ltr) (by rfl) (.tmp 57) (.tmp 59) 29 (by rfl) w6.heap.size 49 i0 _ 24 Try.underlying29 hi hz0 hz1 hz2 rfl (by decide) v8 (R.round ++ R.strange) (by rfl) o8 _ R.held (by rfl) _ (HV2.out _ l8) (by unfold maxLen; (try simp only [List.length_nil, List.length_append]); omega) (by (try simp only [List.length_nil, List.length_append]); omega) hz8 ?_; intro v9 w9 o9 hg9 _; have l9 : Below w6.heap.size w6 w9 := l8.trans (below_append o8 hg9 hz8); have hz9 := l9.size) | (refine step_appendAll (α := Ltr) (by rfl) (.tmp 60) (.tmp 62) 29 (by rfl) w6.heap.size 49 i0 _ 24 Try.underlying29 hi hz0 hz1 hz2 rfl (by decide) v9 (R.round ++ R.strange ++ R.held) (by rfl) o9 _ R.stuck (by rfl) _ (HV3.out _ l9) (by unfold maxLen; (try simp only [List.length_nil, List.length_append]); omega) (by (try simp only [List.length_nil, List.length_append]); omega) hz9 ?_; intro v10 w10 o10 hg10 _; have l10 : Below w6.heap.size w6 w10 := l9.trans (below_append o9 hg10 hz9); have hz10 := l10.size))
  all_goals
    have OA : Hid (own 49 w6.heap.size w10 v10 (allL R)) := o10
    have HL10 := Lib.hid l10
    clear oE oED lE lE1 lE2 o7 o8 o9 o10 hg7 hg8 hg9 hg10 l7 l8 l9 u0 u1 u2 u3 HV0 HV1 HV2 HV3 hz7 hz8 hz9 hz10 l10
    generalize allL R = Z at *
    obtain ⟨A9, k9, c9, rfl, hk9, _, hm9, _⟩ := OA.out.rd
    obtain ⟨Ab, nb, cb, rfl, hnb, _, hmb, _⟩ := HB.out
    subst hk9 hnb
    unfold maxLen at hm9 hmb
    have l10 := HL10.out
    go_wp2_with fail
    refine (impl_MissingIds _ _ xs Z _ (HB.out.on l10) OA.out.rd).mono ?_
    rw [HNL.out.1]
    rintro e w11 ⟨v11, rfl, o11, b⟩
    have l11 := later_trans l10 b
    replace OA := Lib.hid (OA.out.below b)
    obtain ⟨A11, k11, c11, rfl, hk11, _, _, _⟩ := o11.rd
    simp only [List.length_nil] at hk11
    subst hk11
    have hz00 : ((0 : Int) == 0) = true := rfl
    clear o11 b l10 HL10
    go_wp2_with fail
    refine (impl_MissingIds _ _ Z xs _ OA.out.rd (HB.out.on l11)).mono ?_
    rw [HNL.out.2]
    rintro e w12 ⟨v12, rfl, o12, b⟩
    have l12 := later_trans l11 b
    replace OA := Lib.hid (OA.out.below b)
    obtain ⟨A12, k12, c12, rfl, hk12, _, _, _⟩ := o12.rd
    simp only [List.length_nil] at hk12
    subst hk12
    clear o12 b l11
    have hal : ((Z.length : Int) == (xs.length : Int)) = true := by rw [HAL.out]; simp
    go_wp2_with fail
    refine (impl_SealOf _ Z _ OA.out.rd).mono ?_
    rw [HAO.out, HSL.out]
    rintro e w13 ⟨rfl, b⟩
    have l13 := later_trans l12 b
    clear b l12
    go_wp2_with fail
    refine (impl_SealOf _ xs _ (HB.out.on l13)).mono ?_
    rw [HXO.out]
    rintro e w14 ⟨rfl, b⟩
    have l14 := later_trans l13 b
    clear b l13
    go_wp2_with fail
    go_ret
    exact ⟨rfl, HWB.out.trans (l14.mono HWB.out.size)⟩

end Go.Proofs.Ytnlljekijlkigaa
