/- FnReportText: the walk of the law. Written by gen_frt.py. -/
import Derived.Test.YtffbcfaahegglaaDoorQ51
import Derived.Deep.RegionHeld3
namespace Go.Proofs.YtffbcfaahegglaaDoor
open Go.RowKit

set_option maxRecDepth 100000 in
set_option maxHeartbeats 3200000 in
theorem walk_FnReportText (w : World) (v : Value) (bs : List UInt8) (hv : rd w w.heap.size v bs) (ht : TabW w) :
    Calls Tryd.prog 7 #[v] w fun e w' => e = .returned (.bool true) ∧ Below w.heap.size w w' := by
  have hv0 := hv
  obtain ⟨A, n, c, rfl, hn, hc, hm, _⟩ := hv
  subst hn
  unfold maxLen at hm
  have HTB := Lib.hid ht; clear ht
  go_enter Tryd.func7, Tryd.ntmps7
  by_cases hsz : 1048576 < bs.length
  · go_wp2_with fail
    go_ret
    exact ⟨rfl, Below.refl _ _⟩
  go_wp2_with fail
  refine (draw_DrawFormatReport _ bs w hv0).mono ?_
  rintro e w1 ⟨vR, r, rfl, hr, hle, b1⟩
  obtain ⟨A0, c0, A1, c1, A2, c2, A3, c3, e0⟩ := openR hr
  obtain ⟨w0, hw0⟩ : ∃ w0, w0 = w1.alloc (Obj.cells #[.slice A0 r.round.length c0, .slice A1 r.strange.length c1, .slice A2 r.held.length c2, .slice A3 r.stuck.length c3] 29) := ⟨_, rfl⟩
  have q0 := box_cells hw0 0 (.slice A0 r.round.length c0) rfl
  have q1 := box_cells hw0 1 (.slice A1 r.strange.length c1) rfl
  have q2 := box_cells hw0 2 (.slice A2 r.held.length c2) rfl
  have q3 := box_cells hw0 3 (.slice A3 r.stuck.length c3) rfl
  have HT := Lib.hid (box_later hw0).1
  have HR := Lib.hid (hr.on HT.out)
  subst e0
  have HWB : Hid (Below w.heap.size w w0) := b1.trans (HT.out.mono b1.size)
  replace HTB := Lib.hid (HTB.out.on HWB.out)
  have HW0 := Lib.hid hw0
  have l0 := Below.refl w0.heap.size w0
  obtain ⟨n0, n1, n2, n3⟩ := hle
  have HLE : Hid (rptLe r 1048576) := ⟨by omega, by omega, by omega, by omega⟩
  have HNF := Lib.hid (@fmtR_no r)
  have HYF := Lib.hid (@fmtR_yes r)
  obtain ⟨F, hF⟩ : ∃ F, fmtR r = F := ⟨_, rfl⟩
  have HFE := Lib.hid hF
  rw [hF] at HNF HYF
  have ne : (F.toList != F.toList) = false := by simp
  clear hw0 hr b1 HT hv0 hF
  go_wp2_with fail
  rw [← HW0.out]
  refine (impl_FormatReport _ r _ (HR.out.on l0) (HTB.out.on l0)).mono ?_
  rw [HFE.out]
  rintro e w2 ⟨rfl, b2⟩
  have l2 := later_trans l0 b2
  go_wp2_with fail
  refine (spec_FormatReport_len _ r _ (HR.out.on l2) HLE.out).mono ?_
  rw [HFE.out]
  rintro e w3 ⟨rfl, b3⟩
  have l3 := later_trans l2 b3
  clear b2 b3 l0 l2 HFE
  obtain ⟨p0, p1, p2, p3⟩ := partsR HR.out
  have HV0 := Lib.hid (fun W (h : Below w3.heap.size w3 W) => p0.on (later_trans l3 h))
  have HV1 := Lib.hid (fun W (h : Below w3.heap.size w3 W) => p1.on (later_trans l3 h))
  have HV2 := Lib.hid (fun W (h : Below w3.heap.size w3 W) => p2.on (later_trans l3 h))
  have HV3 := Lib.hid (fun W (h : Below w3.heap.size w3 W) => p3.on (later_trans l3 h))
  have y0 := fun W (h : Below w3.heap.size w3 W) => q0 W (later_trans l3 h)
  have y1 := fun W (h : Below w3.heap.size w3 W) => q1 W (later_trans l3 h)
  have y2 := fun W (h : Below w3.heap.size w3 W) => q2 W (later_trans l3 h)
  have y3 := fun W (h : Below w3.heap.size w3 W) => q3 W (later_trans l3 h)
  replace HTB := Lib.hid (HTB.out.on l3)
  replace HWB := Lib.hid (HWB.out.trans (l3.mono HWB.out.size))
  have HAL : Hid (r.round ++ r.strange ++ r.held ++ r.stuck = all4 r) := rfl
  clear q0 q1 q2 q3 l3 p0 p1 p2 p3 HR
  have oE := own.made0 (α := Ltr) w3 98 (Nat.le_refl _)
  have oED : own (α := Ltr) 98 w3.heap.size (w3.drew.alloc (Obj.cells #[] 98)) (.slice (some ⟨w3.heap.size, 0, none⟩) 0 0) [] := own.made0 w3.drew _ (Nat.le_refl _)
  have lE : Below w3.heap.size w3 (w3.alloc (Obj.cells #[] 98)) := (Below.refl _ _).alloc (Nat.le_refl _) _
  have lE1 : Below w3.heap.size w3 (w3.alloc (Obj.cells #[] 98)).drew := lE.drew
  have lE2 : Below w3.heap.size w3 (w3.drew.alloc (Obj.cells #[] 98)) := ((Below.refl _ _).drew).alloc (Nat.le_refl _) _
  have lw0d := (Below.refl w3.heap.size w3).drew
  obtain ⟨i0, hi, hz0, hz1, hz2⟩ := info_parts Tryd.infoLtr
  go_wp2_with fail
  go_region_held3 (fun W => Below w3.heap.size w3 W) (first | exact lw0d | exact lE2 | exact l10 | exact l9 | exact l8 | exact l7) (first | (refine step_appendAll (α := Ltr) (by rfl) (.tmp 17) (.tmp 19) 27 (by rfl) w3.heap.size 98 i0 _ 24 Tryd.underlying27 hi hz0 hz1 hz2 rfl (by decide) (.slice (some ⟨w3.heap.size, 0, none⟩) 0 0) [] (by rfl) (by first | exact oE | exact oE.drew | exact oED) _ r.round (by rfl) _ (HV0.out _ (by first | exact lE | exact lE1 | exact lE2)) (by unfold maxLen; (try simp only [List.length_nil, List.length_append]); omega) (by (try simp only [List.length_nil, List.length_append]); omega) (by simp) ?_; intro v7 w7 o7 hg7 _; have l7 : Below w3.heap.size w3 w7 := (by first | exact lE.trans (below_append oE hg7 (by simp)) | exact lE1.trans (below_append oE.drew hg7 (by simp)) | exact lE2.trans (below_append oED hg7 (by simp))); rw [List.nil_append] at o7; have hz7 := l7.size) | (refine step_appendAll (α := Ltr) (by rfl) (.tmp 20) (.tmp 22) 27 (by rfl) w3.heap.size 98 i0 _ 24 Tryd.underlying27 hi hz0 hz1 hz2 rfl (by decide) v7 r.round (by rfl) o7 _ r.strange (by rfl) _ (HV1.out _ l7) (by unfold maxLen; (try simp only [List.length_nil, List.length_append]); omega) (by (try simp only [List.length_nil, List.length_append]); omega) hz7 ?_; intro v8 w8 o8 hg8 _; have l8 : Below w3.heap.size w3 w8 := l7.trans (below_append o7 hg8 hz7); have hz8 := l8.size) | (refine step_appendAll (α := Ltr) (by rfl) (.tmp 23) (.tmp 25) 27 (by rfl) w3.heap.size 98 i0 _ 24 Tryd.underlying27 hi hz0 hz1 hz2 rfl (by decide) v8 (r.round ++ r.strange) (by rfl) o8 _ r.held (by rfl) _ (HV2.out _ l8) (by unfold maxLen; (try simp only [List.length_nil, List.length_append]); omega) (by (try simp only [List.length_nil, List.length_append]); omega) hz8 ?_; intro v9 w9 o9 hg9 _; have l9 : Below w3.heap.size w3 w9 := l8.trans (below_append o8 hg9 hz8); have hz9 := l9.size) | (refine step_appendAll (α := Ltr) (by rfl) (.tmp 26) (.tmp 28) 27 (by rfl) w3.heap.size 98 i0 _ 24 Tryd.underlying27 hi hz0 hz1 hz2 rfl (by decide) v9 (r.round ++ r.strange ++ r.held) (by rfl) o9 _ r.stuck (by rfl) _ (HV3.out _ l9) (by unfold maxLen; (try simp only [List.length_nil, List.length_append]); omega) (by (try simp only [List.length_nil, List.length_append]); omega) hz9 ?_; intro v10 w10 o10 hg10 _; have l10 : Below w3.heap.size w3 w10 := l9.trans (below_append o9 hg10 hz9); have hz10 := l10.size))
  all_goals
    have OA : Hid (own 98 w3.heap.size w10 v10 (all4 r)) := o10
    have HL10 := Lib.hid l10
    clear oE oED lE lE1 lE2 o7 o8 o9 o10 hg7 hg8 hg9 hg10 l7 l8 l9 hz7 hz8 hz9 hz10 l10 HAL
    obtain ⟨A9, k9, c9, rfl, hk9, _, hm9, _⟩ := OA.out.rd
    subst hk9
    unfold maxLen at hm9
    have l10 := HL10.out
    go_wp2_with fail
    refine (impl_BatchValid _ (all4 r) _ OA.out.rd).mono ?_
    rintro e w4 ⟨rfl, b4⟩
    have l4 := later_trans l10 b4
    clear b4 l10
    cases hok : okB (all4 r)
    · have HF := HNF.out hok
      subst HF
      clear hok
      go_wp2_with fail
      go_ret
      exact ⟨rfl, HWB.out.trans (l4.mono HWB.out.size)⟩
    have HF := Lib.hid (HYF.out hok)
    clear hok
    have HC0 := Lib.hid (fun W (h : Below w4.heap.size w4 W) => impl_FormatBatch _ r.round W (HV0.out W (later_trans l4 h)) (HTB.out.on (later_trans l4 h)))
    have HC1 := Lib.hid (fun W (h : Below w4.heap.size w4 W) => impl_FormatBatch _ r.strange W (HV1.out W (later_trans l4 h)) (HTB.out.on (later_trans l4 h)))
    have HC2 := Lib.hid (fun W (h : Below w4.heap.size w4 W) => impl_FormatBatch _ r.held W (HV2.out W (later_trans l4 h)) (HTB.out.on (later_trans l4 h)))
    have HC3 := Lib.hid (fun W (h : Below w4.heap.size w4 W) => impl_FormatBatch _ r.stuck W (HV3.out W (later_trans l4 h)) (HTB.out.on (later_trans l4 h)))
    have r0 := fun W (h : Below w4.heap.size w4 W) => y0 W (later_trans l4 h)
    have r1 := fun W (h : Below w4.heap.size w4 W) => y1 W (later_trans l4 h)
    have r2 := fun W (h : Below w4.heap.size w4 W) => y2 W (later_trans l4 h)
    have r3 := fun W (h : Below w4.heap.size w4 W) => y3 W (later_trans l4 h)
    have s0 := fmtB_size r.round
    have s1 := fmtB_size r.strange
    have s2 := fmtB_size r.held
    have s3 := fmtB_size r.stuck
    generalize fmtB r.round = t0 at *
    generalize fmtB r.strange = t1 at *
    generalize fmtB r.held = t2 at *
    generalize fmtB r.stuck = t3 at *
    have hfe : (F.toList == (t0 ++ ⟨#[47]⟩ ++ t1 ++ ⟨#[47]⟩ ++ t2 ++ ⟨#[47]⟩ ++ t3).toList) = true := by rw [HF.out, beq_iff_eq]; rfl
    have ha0 : ¬ 9223372036854775807 < t0.size + 1 := by omega
    have ha1 : ¬ 9223372036854775807 < t0.size + 1 + t1.size := by omega
    have ha2 : ¬ 9223372036854775807 < t0.size + 1 + t1.size + 1 := by omega
    have ha3 : ¬ 9223372036854775807 < t0.size + 1 + t1.size + 1 + t2.size := by omega
    have ha4 : ¬ 9223372036854775807 < t0.size + 1 + t1.size + 1 + t2.size + 1 := by omega
    have ha5 : ¬ 9223372036854775807 < t0.size + 1 + t1.size + 1 + t2.size + 1 + t3.size := by omega
    have ld := later_drew (Below.refl w4.heap.size w4)
    have HL4 := Lib.hid l4
    clear y0 y1 y2 y3 l4 HV0 HV1 HV2 HV3
    go_wp2_with fail
    go_region_held3 (fun W => Below w4.heap.size w4 W) (first | exact ld | exact k4 | exact k3 | exact k2 | exact k1 | fail) (first | (go_at_call 34; first | ((with_reducible refine (HC3.out _ k3).mono ?_); rintro e u4 ⟨rfl, c4⟩; have k4 := later_trans k3 c4) | ((with_reducible refine (HC2.out _ k2).mono ?_); rintro e u3 ⟨rfl, c3⟩; have k3 := later_trans k2 c3) | ((with_reducible refine (HC1.out _ k1).mono ?_); rintro e u2 ⟨rfl, c2⟩; have k2 := later_trans k1 c2) | ((with_reducible refine (HC0.out _ ld).mono ?_); rintro e u1 ⟨rfl, c1⟩; have k1 := later_trans ld c1) | fail) | fail)
    all_goals
      go_wp2_with fail
      go_ret
      exact ⟨rfl, HWB.out.trans ((later_trans HL4.out k4).mono HWB.out.size)⟩

end Go.Proofs.YtffbcfaahegglaaDoor
