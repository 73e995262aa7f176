/- FF -/
import Derived.Test.YtffbcfaahegglaaGreatDoorQ25
import Derived.Test.YtffbcfaahegglaaGreatDoorQ21
namespace Go.Proofs.YtffbcfaahegglaaGreatDoor
open Go.RowKit

def rptLe (r : Rpt) (n : Nat) : Prop := r.round.length ≤ n ∧ r.strange.length ≤ n ∧ r.held.length ≤ n ∧ r.stuck.length ≤ n
theorem rptLe_sz {r : Rpt} (h : szR r ≤ 1048576) : rptLe r 1048576 := by
  unfold szR szL at h
  exact ⟨by omega, by omega, by omega, by omega⟩
set_option maxRecDepth 100000 in
set_option maxHeartbeats 3200000 in
theorem spec_FormatReport_len (v : Value) (r : Rpt) (w : World) (hv : rdR w w.heap.size v r) (hN : rptLe r 1048576) :
    Calls Tryz.prog 24 #[v] w fun e w' => e = .returned (.string (fmtR r)) ∧ Below w.heap.size w w' := by
  obtain ⟨A0, c0, A1, c1, A2, c2, A3, c3, e0⟩ := openR hv
  obtain ⟨w0, hw0⟩ : ∃ w0, w0 = w.alloc (Obj.cells #[.slice A0 r.round.length c0, .slice A1 r.strange.length c1, .slice A2 r.held.length c2, .slice A3 r.stuck.length c3] 31) := ⟨_, rfl⟩
  have q0 := box_cells hw0 0 (.slice A0 r.round.length c0) rfl
  have q1 := box_cells hw0 1 (.slice A1 r.strange.length c1) rfl
  have q2 := box_cells hw0 2 (.slice A2 r.held.length c2) rfl
  have q3 := box_cells hw0 3 (.slice A3 r.stuck.length c3) rfl
  have HT := Lib.hid (box_later hw0).1
  have hv1 := hv.on HT.out
  subst e0
  obtain ⟨p0, p1, p2, p3⟩ := partsR hv1
  have HV0 := Lib.hid (fun W (h : Below w0.heap.size w0 W) => p0.on h)
  have HV1 := Lib.hid (fun W (h : Below w0.heap.size w0 W) => p1.on h)
  have HV2 := Lib.hid (fun W (h : Below w0.heap.size w0 W) => p2.on h)
  have HV3 := Lib.hid (fun W (h : Below w0.heap.size w0 W) => p3.on h)
  have HNF := Lib.hid (@fmtR_no r)
  have HYF := Lib.hid (@fmtR_yes r)
  have HAL : Hid (r.round ++ r.strange ++ r.held ++ r.stuck = all4 r) := rfl
  obtain ⟨n0, n1, n2, n3⟩ := hN
  clear p0 p1 p2 p3 hv hv1
  have HW0 := Lib.hid hw0; clear hw0
  go_enter Tryz.func24, Tryz.ntmps24
  go_wp2_with fail
  rw [← HW0.out]
  have oE := own.made0 (α := Ltr) w0 61 (Nat.le_refl _)
  have oED : own (α := Ltr) 61 w0.heap.size (w0.drew.alloc (Obj.cells #[] 61)) (.slice (some ⟨w0.heap.size, 0, none⟩) 0 0) [] := own.made0 w0.drew _ (Nat.le_refl _)
  have lE : Below w0.heap.size w0 (w0.alloc (Obj.cells #[] 61)) := (Below.refl _ _).alloc (Nat.le_refl _) _
  have lE1 : Below w0.heap.size w0 (w0.alloc (Obj.cells #[] 61)).drew := lE.drew
  have lE2 : Below w0.heap.size w0 (w0.drew.alloc (Obj.cells #[] 61)) := ((Below.refl _ _).drew).alloc (Nat.le_refl _) _
  have lw0d := (Below.refl w0.heap.size w0).drew
  obtain ⟨i0, hi, hz0, hz1, hz2⟩ := info_parts Tryz.infoLtr
  go_region_held3 (fun W => Below w0.heap.size w0 W) (first | exact lw0d | exact lE2 | exact l10 | exact l9 | exact l8 | exact l7) (first | (refine step_appendAll (α := Ltr) (by rfl) (.tmp 4) (.tmp 6) 29 (by rfl) w0.heap.size 61 i0 _ 24 Tryz.underlying29 hi hz0 hz1 hz2 rfl (by decide) (.slice (some ⟨w0.heap.size, 0, none⟩) 0 0) [] (by rfl) (by first | exact oE | exact oE.drew | exact oED) _ r.round (by rfl) _ (HV0.out _ (by first | exact lE | exact lE1 | exact lE2)) (by unfold maxLen; (try simp only [List.length_nil, List.length_append]); omega) (by (try simp only [List.length_nil, List.length_append]); omega) (by simp) ?_; intro v7 w7 o7 hg7 _; have l7 : Below w0.heap.size w0 w7 := (by first | exact lE.trans (below_append oE hg7 (by simp)) | exact lE1.trans (below_append oE.drew hg7 (by simp)) | exact lE2.trans (below_append oED hg7 (by simp))); rw [List.nil_append] at o7; have hz7 := l7.size) | (refine step_appendAll (α := Ltr) (by rfl) (.tmp 7) (.tmp 9) 29 (by rfl) w0.heap.size 61 i0 _ 24 Tryz.underlying29 hi hz0 hz1 hz2 rfl (by decide) v7 r.round (by rfl) o7 _ r.strange (by rfl) _ (HV1.out _ l7) (by unfold maxLen; (try simp only [List.length_nil, List.length_append]); omega) (by (try simp only [List.length_nil, List.length_append]); omega) hz7 ?_; intro v8 w8 o8 hg8 _; have l8 : Below w0.heap.size w0 w8 := l7.trans (below_append o7 hg8 hz7); have hz8 := l8.size) | (refine step_appendAll (α := Ltr) (by rfl) (.tmp 10) (.tmp 12) 29 (by rfl) w0.heap.size 61 i0 _ 24 Tryz.underlying29 hi hz0 hz1 hz2 rfl (by decide) v8 (r.round ++ r.strange) (by rfl) o8 _ r.held (by rfl) _ (HV2.out _ l8) (by unfold maxLen; (try simp only [List.length_nil, List.length_append]); omega) (by (try simp only [List.length_nil, List.length_append]); omega) hz8 ?_; intro v9 w9 o9 hg9 _; have l9 : Below w0.heap.size w0 w9 := l8.trans (below_append o8 hg9 hz8); have hz9 := l9.size) | (refine step_appendAll (α := Ltr) (by rfl) (.tmp 13) (.tmp 15) 29 (by rfl) w0.heap.size 61 i0 _ 24 Tryz.underlying29 hi hz0 hz1 hz2 rfl (by decide) v9 (r.round ++ r.strange ++ r.held) (by rfl) o9 _ r.stuck (by rfl) _ (HV3.out _ l9) (by unfold maxLen; (try simp only [List.length_nil, List.length_append]); omega) (by (try simp only [List.length_nil, List.length_append]); omega) hz9 ?_; intro v10 w10 o10 hg10 _; have l10 : Below w0.heap.size w0 w10 := l9.trans (below_append o9 hg10 hz9); have hz10 := l10.size))
  all_goals
    have OA : Hid (own 61 w0.heap.size w10 v10 (all4 r)) := o10
    have HL10 := Lib.hid l10
    clear oE oED lE lE1 lE2 o7 o8 o9 o10 hg7 hg8 hg9 hg10 l7 l8 l9 hz7 hz8 hz9 hz10 l10 HAL
    obtain ⟨A9, k9, c9, rfl, hk9, _, hm9, _⟩ := OA.out.rd
    subst hk9
    unfold maxLen at hm9
    have l10 := HL10.out
    go_wp2_with fail
    refine (spec_BatchValid _ (all4 r) _ OA.out.rd).mono ?_
    rintro e w2 ⟨rfl, b2⟩
    have l2 := later_trans l10 b2
    clear b2 l10
    cases hok : okB (all4 r)
    · have HF := Lib.hid (HNF.out hok)
      clear hok
      go_wp2_with fail
      go_ret
      exact ⟨ret_str HF.out.symm, later_trans HT.out l2⟩
    have HF := Lib.hid (HYF.out hok)
    clear hok
    have HC0 := Lib.hid (fun W (h : Below w2.heap.size w2 W) => spec_FormatBatch _ r.round W (HV0.out W (later_trans l2 h)))
    have HC1 := Lib.hid (fun W (h : Below w2.heap.size w2 W) => spec_FormatBatch _ r.strange W (HV1.out W (later_trans l2 h)))
    have HC2 := Lib.hid (fun W (h : Below w2.heap.size w2 W) => spec_FormatBatch _ r.held W (HV2.out W (later_trans l2 h)))
    have HC3 := Lib.hid (fun W (h : Below w2.heap.size w2 W) => spec_FormatBatch _ r.stuck W (HV3.out W (later_trans l2 h)))
    have r0 := fun W (h : Below w2.heap.size w2 W) => q0 W (later_trans l2 h)
    have r1 := fun W (h : Below w2.heap.size w2 W) => q1 W (later_trans l2 h)
    have r2 := fun W (h : Below w2.heap.size w2 W) => q2 W (later_trans l2 h)
    have r3 := fun W (h : Below w2.heap.size w2 W) => q3 W (later_trans l2 h)
    have s0 := fmtB_size r.round
    have s1 := fmtB_size r.strange
    have s2 := fmtB_size r.held
    have s3 := fmtB_size r.stuck
    generalize fmtB r.round = t0 at *
    generalize fmtB r.strange = t1 at *
    generalize fmtB r.held = t2 at *
    generalize fmtB r.stuck = t3 at *
    have ha0 : ¬ 9223372036854775807 < t0.size + 1 := by omega
    have ha1 : ¬ 9223372036854775807 < t0.size + 1 + t1.size := by omega
    have ha2 : ¬ 9223372036854775807 < t0.size + 1 + t1.size + 1 := by omega
    have ha3 : ¬ 9223372036854775807 < t0.size + 1 + t1.size + 1 + t2.size := by omega
    have ha4 : ¬ 9223372036854775807 < t0.size + 1 + t1.size + 1 + t2.size + 1 := by omega
    have ha5 : ¬ 9223372036854775807 < t0.size + 1 + t1.size + 1 + t2.size + 1 + t3.size := by omega
    have ld := later_drew (Below.refl w2.heap.size w2)
    have HL2 := Lib.hid l2
    clear q0 q1 q2 q3 l2 HV0 HV1 HV2 HV3
    go_wp2_with fail
    go_region_held3 (fun W => Below w2.heap.size w2 W) (first | exact ld | exact k4 | exact k3 | exact k2 | exact k1 | fail) (first | (go_at_call 55; first | ((with_reducible refine (HC3.out _ k3).mono ?_); rintro e u4 ⟨rfl, c4⟩; have k4 := later_trans k3 c4) | ((with_reducible refine (HC2.out _ k2).mono ?_); rintro e u3 ⟨rfl, c3⟩; have k3 := later_trans k2 c3) | ((with_reducible refine (HC1.out _ k1).mono ?_); rintro e u2 ⟨rfl, c2⟩; have k2 := later_trans k1 c2) | ((with_reducible refine (HC0.out _ ld).mono ?_); rintro e u1 ⟨rfl, c1⟩; have k1 := later_trans ld c1) | fail) | fail)
    all_goals
      go_wp2_with fail
      go_ret
      exact ⟨by rw [HF.out]; rfl, later_trans HT.out (later_trans HL2.out k4)⟩
theorem spec_FormatReport (v : Value) (r : Rpt) (w : World) (hv : rdR w w.heap.size v r) (hN : szR r ≤ 1048576) :
    Calls Tryz.prog 24 #[v] w fun e w' => e = .returned (.string (fmtR r)) ∧ Below w.heap.size w w' := spec_FormatReport_len v r w hv (rptLe_sz hN)

end Go.Proofs.YtffbcfaahegglaaGreatDoor
