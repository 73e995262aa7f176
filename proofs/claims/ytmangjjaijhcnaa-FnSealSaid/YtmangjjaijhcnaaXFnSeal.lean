/- FnSeal: the walk of the law. Written by gen_fse.py. -/
import Derived.Test.YtmangjjaijhcnaaQ40
import Derived.Test.YtmangjjaijhcnaaQ20
import Derived.Deep.RegionHeld3
namespace Go.Proofs.Ytmangjjaijhcnaa
open Go.RowKit

set_option maxRecDepth 100000 in
set_option maxHeartbeats 3200000 in
theorem walk_FnSeal (w : World) (v : Value) (bs : List UInt8) (hv : rd w w.heap.size v bs) :
    Calls Try.prog 9 #[v] w fun e w' => e = .returned (.bool true) ∧ Below w.heap.size w w' := by
  have hv0 := hv
  obtain ⟨A, n0, c, rfl, hn, hc, hm, _⟩ := hv
  subst hn
  unfold maxLen at hm
  go_enter Try.func9, Try.ntmps9
  by_cases hsz : 1048576 < bs.length
  · go_wp2_with fail
    go_ret
    exact ⟨rfl, Below.refl _ _⟩
  go_wp2_with fail
  refine (draw_DrawSealOf _ bs w hv0).mono ?_
  rintro e w1 ⟨vb, xs, rfl, ob, hxl, b1⟩
  have HB := Lib.hid ob.rd
  have HWB : Hid (Below w.heap.size w w1) := b1
  have l0 := Below.refl w1.heap.size w1
  have hvb := HB.out
  obtain ⟨Ab, nb, cb, hvb, hnb, hcb, hmb, hrb⟩ := hvb
  subst hnb hvb
  unfold maxLen at hmb
  have HRB := Lib.hid hrb; clear hrb hv0 ob b1
  cases hok : okB xs
  · have HOK := Lib.hid hok; clear hok
    have hq : ((-1 : Int) != -1) = false := by decide
    have hq2 : ((-1 : Int) == -1) = true := by decide
    have hbb : ((false : Bool) == false) = true := rfl
    go_wp2_with fail
    refine (impl_SealOf _ xs _ (HB.out.on l0)).mono ?_
    rw [HOK.out, show orOf false (sL xs) = -1 from rfl]
    rintro e w2 ⟨rfl, b2⟩
    have l2 := later_trans l0 b2
    go_wp2_with fail
    refine (spec_SealOf _ xs _ (HB.out.on l2)).mono ?_
    rw [HOK.out, show orOf false (sL xs) = -1 from rfl]
    rintro e w3 ⟨rfl, b3⟩
    have l3 := later_trans l2 b3
    go_wp2_with fail
    refine (spec_SealOf _ xs _ (HB.out.on l3)).mono ?_
    rw [HOK.out, show orOf false (sL xs) = -1 from rfl]
    rintro e w4 ⟨rfl, b4⟩
    have l4 := later_trans l3 b4
    go_wp2_with fail
    refine (impl_BatchValid _ xs _ (HB.out.on l4)).mono ?_
    rw [HOK.out]
    rintro e w5 ⟨rfl, b5⟩
    have l5 := later_trans l4 b5
    go_wp2_with fail
    go_ret
    exact ⟨rfl, HWB.out.trans (l5.mono HWB.out.size)⟩
  have HOK := Lib.hid hok
  have hl60 : xs.length ≤ 60 := (okB_iff.1 hok).1
  have hl19 : xs.length ≤ 19 := by rcases hxl with h | h <;> omega
  clear hok hxl
  obtain ⟨n0, n1⟩ := sL_range xs 0 (by omega) (by omega)
  change 0 ≤ sL xs at n0
  change sL xs < 9973 at n1
  obtain ⟨n, hn⟩ : ∃ n, n = sL xs := ⟨_, rfl⟩
  have HN := Lib.hid hn
  rw [← hn] at n0 n1
  clear hn
  have hnn : (n != n) = false := by simp
  have hn0 : decide (n < 0) = false := decide_eq_false (by omega)
  go_wp2_with fail
  refine (impl_SealOf _ xs _ (HB.out.on l0)).mono ?_
  rw [HOK.out, show orOf true (sL xs) = sL xs from rfl, ← HN.out]
  rintro e w2 ⟨rfl, b2⟩
  have l2 := later_trans l0 b2
  clear b2 l0
  go_wp2_with fail
  refine (spec_SealOf _ xs _ (HB.out.on l2)).mono ?_
  rw [HOK.out, show orOf true (sL xs) = sL xs from rfl, ← HN.out]
  rintro e w3 ⟨rfl, b3⟩
  have l6 := later_trans l2 b3
  clear b3 l2
  go_wp2_with fail
  clear hnn hn0
  have L6 := Lib.hid l6
  clear l6
  go_loopw [5] (fun i wr => ∃ k : Nat, k ≤ xs.length ∧ i = .int .i64 k ∧ Below w3.heap.size w3 wr) (fun i _ => xs.length - (intOf i).toNat)
  case atStart => exact ⟨0, Nat.zero_le _, rfl, Below.refl _ _⟩
  case round =>
    obtain ⟨k, hk, rfl, lr⟩ := hrel
    obtain ⟨W6, rfl⟩ : ∃ w6 : World, w6 = wr := ⟨_, rfl⟩
    by_cases hlt : k < xs.length
    · obtain ⟨bx, o, rfl, hbx, _, c1, _⟩ := HRB.out.ltrU k hlt
      have hki : (k : Int) < (xs.length : Int) := by omega
      have hk1 : (k : Int) + 1 ≤ (xs.length : Int) := by omega
      have hkc : (k : Int) ≤ (cb : Int) := by omega
      have hkc3 : (k : Int) ≤ (k : Int) + 1 := by omega
      have hk3 : ((k : Int) + 1).toNat = k + 1 := by omega
      have hk4 : (0 : Int) ≤ (k : Int) + 1 := by omega
      have hws : IntKind.i64.wrap ((k : Int) + 1) = (k : Int) + 1 := IntWalk.i64_in _ (by omega)
      have HV1 : Hid (∀ W, Below W6.heap.size W6 W → rd W W.heap.size (.slice (some ⟨bx, o, none⟩) k cb) (xs.take k)) := fun W h => rd_takeL (HB.out.on (later_trans L6.out (later_trans lr h))) hk
      have HER : Hid (xs.take k ++ xs.drop (k + 1) = xs.eraseIdx k) := erase_split xs k hlt
      obtain ⟨YS, rfl⟩ : ∃ Z : List Ltr, Z = xs := ⟨_, rfl⟩
      by_cases hck : cb = k + 1
      · subst hck
        have HV2 : Hid (∀ W, Below W6.heap.size W6 W → rd W W.heap.size (.slice (some ⟨bx, o, none⟩) 0 0) (YS.drop (k + 1))) := fun W h => by have h := rd_dropAll (HB.out.on (later_trans L6.out (later_trans lr h))) (by omega) rfl; rwa [Nat.sub_self, show YS.length - (k + 1) = 0 by omega] at h
        have oE := own.made0 (α := Ltr) W6 55 (Nat.le_refl _)
        have oED : own (α := Ltr) 55 W6.heap.size (W6.drew.alloc (Obj.cells #[] 55)) (.slice (some ⟨W6.heap.size, 0, none⟩) 0 0) [] := own.made0 W6.drew _ (Nat.le_refl _)
        have lE : Below W6.heap.size W6 (W6.alloc (Obj.cells #[] 55)) := (Below.refl _ _).alloc (Nat.le_refl _) _
        have lE1 : Below W6.heap.size W6 (W6.alloc (Obj.cells #[] 55)).drew := lE.drew
        have lE2 : Below W6.heap.size W6 (W6.drew.alloc (Obj.cells #[] 55)) := ((Below.refl _ _).drew).alloc (Nat.le_refl _) _
        obtain ⟨i0, hi, hz0, hz1, hz2⟩ := info_parts Try.infoLtr
        go_wp2_with fail
        go_region_law (first | (refine step_appendAll (α := Ltr) (by rfl) (.tmp 40) (.tmp 43) 29 (by rfl) W6.heap.size 55 i0 _ 24 Try.underlying29 hi hz0 hz1 hz2 rfl (by decide) (.slice (some ⟨W6.heap.size, 0, none⟩) 0 0) [] (by rfl) (by first | exact oE | exact oE.drew | exact oED) _ (YS.take k) (by rfl) _ (HV1.out _ (by first | exact lE | exact lE1 | exact lE2)) (by unfold maxLen; simp only [List.length_nil, List.length_take]; omega) (by simp only [List.length_nil, List.length_take]; omega) (by simp) ?_; intro v7 w7 o7 hg7 _; have l7 : Below W6.heap.size W6 w7 := (by first | exact lE.trans (below_append oE hg7 (by simp)) | exact lE1.trans (below_append oE.drew hg7 (by simp)) | exact lE2.trans (below_append oED hg7 (by simp))); rw [List.nil_append] at o7; have hz7 := l7.size) | (refine step_appendAll (α := Ltr) (by rfl) (.tmp 44) (.tmp 48) 29 (by rfl) W6.heap.size 55 i0 _ 24 Try.underlying29 hi hz0 hz1 hz2 rfl (by decide) v7 (YS.take k) (by rfl) o7 _ (YS.drop (k + 1)) (by rfl) _ (HV2.out _ l7) (by unfold maxLen; simp only [List.length_take, List.length_drop]; omega) (by simp only [List.length_take, List.length_drop]; omega) hz7 ?_; intro v8 w8 o8 hg8 _; have l8 : Below W6.heap.size W6 w8 := l7.trans (below_append o7 hg8 hz7)))
        all_goals
          rw [HER.out] at o8
          have l8' := later_trans lr l8
          clear oE oED lE lE1 lE2 o7 l7 hg7 hg8 l8 hi hz0 hz1 hz2
          go_wp2_with fail
          refine (impl_SealOf _ (YS.eraseIdx k) _ o8.rd).mono ?_
          rw [okB_erase HOK.out k, show orOf true (sL (YS.eraseIdx k)) = sL (YS.eraseIdx k) from rfl]
          rintro e w9 ⟨rfl, b9⟩
          have l9 := later_trans l8' b9
          clear b9 l8' o8
          have hse := sL_erase YS k hlt
          obtain ⟨r0, r1⟩ := sL_range (YS.eraseIdx k) 0 (by omega) (by omega)
          change 0 ≤ sL (YS.eraseIdx k) at r0
          change sL (YS.eraseIdx k) < 9973 at r1
          rw [← HN.out] at hse
          obtain ⟨m, hm⟩ : ∃ m, m = sL (YS.eraseIdx k) := ⟨_, rfl⟩
          rw [← hm] at hse r0 r1 ⊢
          clear hm
          obtain ⟨i1, i2⟩ := okB_at HOK.out k hlt
          obtain ⟨q1, q2⟩ := sq_bound i1 i2
          have hpr := @sq_prime YS[k].id (by omega) i2
          have d1 := c1 _ (later_trans L6.out l9)
          generalize YS[k].id = z at *
          have hw1 : IntKind.i64.wrap (z * z) = z * z := IntWalk.i64_in _ (by omega)
          have hw2 : IntKind.i64.wrap (m + z * z) = m + z * z := IntWalk.i64_in _ (by omega)
          have hw3 : IntKind.i64.wrap (m + z * z - n) = m + z * z - n := IntWalk.i64_in _ (by omega)
          have hrem : (m + z * z - n).tmod 9973 = 0 := Int.tmod_eq_zero_of_dvd (Int.dvd_of_emod_eq_zero (by omega))
          have hzz : z.tmod 9973 = z % 9973 := Int.tmod_eq_emod_of_nonneg (by omega)
          have hne0 : ((0 : Int) != 0) = false := rfl
          by_cases hmn : m = n
          · have hz0 : z % 9973 = 0 := hpr (by rw [← hmn] at hse; omega)
            subst hmn
            have hmm : (m == m) = true := by simp
            rw [hz0] at hzz
            clear hpr hse hz0
            go_wp2_with fail
            go_quiet (fail)
            go_wp2_with fail
            go_roundw
            case rel => exact ⟨k + 1, by omega, by go_num, below_drewN l9 _⟩
            case measure => simp [intOf]; omega
          · have hmm : (m == n) = false := beq_eq_false_iff_ne.2 hmn
            clear hpr hse
            go_wp2_with fail
            go_quiet (fail)
            go_wp2_with fail
            go_roundw
            case rel => exact ⟨k + 1, by omega, by go_num, below_drewN l9 _⟩
            case measure => simp [intOf]; omega
      · have HV2 : Hid (∀ W, Below W6.heap.size W6 W → rd W W.heap.size (.slice (some ⟨bx, o + (k + 1) * 2, none⟩) (YS.length - (k + 1)) (cb - (k + 1))) (YS.drop (k + 1))) := fun W h => rd_dropL (HB.out.on (later_trans L6.out (later_trans lr h))) (by omega)
        have oE := own.made0 (α := Ltr) W6 55 (Nat.le_refl _)
        have oED : own (α := Ltr) 55 W6.heap.size (W6.drew.alloc (Obj.cells #[] 55)) (.slice (some ⟨W6.heap.size, 0, none⟩) 0 0) [] := own.made0 W6.drew _ (Nat.le_refl _)
        have lE : Below W6.heap.size W6 (W6.alloc (Obj.cells #[] 55)) := (Below.refl _ _).alloc (Nat.le_refl _) _
        have lE1 : Below W6.heap.size W6 (W6.alloc (Obj.cells #[] 55)).drew := lE.drew
        have lE2 : Below W6.heap.size W6 (W6.drew.alloc (Obj.cells #[] 55)) := ((Below.refl _ _).drew).alloc (Nat.le_refl _) _
        obtain ⟨i0, hi, hz0, hz1, hz2⟩ := info_parts Try.infoLtr
        go_wp2_with fail
        go_region_law (first | (refine step_appendAll (α := Ltr) (by rfl) (.tmp 40) (.tmp 43) 29 (by rfl) W6.heap.size 55 i0 _ 24 Try.underlying29 hi hz0 hz1 hz2 rfl (by decide) (.slice (some ⟨W6.heap.size, 0, none⟩) 0 0) [] (by rfl) (by first | exact oE | exact oE.drew | exact oED) _ (YS.take k) (by rfl) _ (HV1.out _ (by first | exact lE | exact lE1 | exact lE2)) (by unfold maxLen; simp only [List.length_nil, List.length_take]; omega) (by simp only [List.length_nil, List.length_take]; omega) (by simp) ?_; intro v7 w7 o7 hg7 _; have l7 : Below W6.heap.size W6 w7 := (by first | exact lE.trans (below_append oE hg7 (by simp)) | exact lE1.trans (below_append oE.drew hg7 (by simp)) | exact lE2.trans (below_append oED hg7 (by simp))); rw [List.nil_append] at o7; have hz7 := l7.size) | (refine step_appendAll (α := Ltr) (by rfl) (.tmp 44) (.tmp 48) 29 (by rfl) W6.heap.size 55 i0 _ 24 Try.underlying29 hi hz0 hz1 hz2 rfl (by decide) v7 (YS.take k) (by rfl) o7 _ (YS.drop (k + 1)) (by rfl) _ (HV2.out _ l7) (by unfold maxLen; simp only [List.length_take, List.length_drop]; omega) (by simp only [List.length_take, List.length_drop]; omega) hz7 ?_; intro v8 w8 o8 hg8 _; have l8 : Below W6.heap.size W6 w8 := l7.trans (below_append o7 hg8 hz7)))
        all_goals
          rw [HER.out] at o8
          have l8' := later_trans lr l8
          clear oE oED lE lE1 lE2 o7 l7 hg7 hg8 l8 hi hz0 hz1 hz2
          go_wp2_with fail
          refine (impl_SealOf _ (YS.eraseIdx k) _ o8.rd).mono ?_
          rw [okB_erase HOK.out k, show orOf true (sL (YS.eraseIdx k)) = sL (YS.eraseIdx k) from rfl]
          rintro e w9 ⟨rfl, b9⟩
          have l9 := later_trans l8' b9
          clear b9 l8' o8
          have hse := sL_erase YS k hlt
          obtain ⟨r0, r1⟩ := sL_range (YS.eraseIdx k) 0 (by omega) (by omega)
          change 0 ≤ sL (YS.eraseIdx k) at r0
          change sL (YS.eraseIdx k) < 9973 at r1
          rw [← HN.out] at hse
          obtain ⟨m, hm⟩ : ∃ m, m = sL (YS.eraseIdx k) := ⟨_, rfl⟩
          rw [← hm] at hse r0 r1 ⊢
          clear hm
          obtain ⟨i1, i2⟩ := okB_at HOK.out k hlt
          obtain ⟨q1, q2⟩ := sq_bound i1 i2
          have hpr := @sq_prime YS[k].id (by omega) i2
          have d1 := c1 _ (later_trans L6.out l9)
          generalize YS[k].id = z at *
          have hw1 : IntKind.i64.wrap (z * z) = z * z := IntWalk.i64_in _ (by omega)
          have hw2 : IntKind.i64.wrap (m + z * z) = m + z * z := IntWalk.i64_in _ (by omega)
          have hw3 : IntKind.i64.wrap (m + z * z - n) = m + z * z - n := IntWalk.i64_in _ (by omega)
          have hrem : (m + z * z - n).tmod 9973 = 0 := Int.tmod_eq_zero_of_dvd (Int.dvd_of_emod_eq_zero (by omega))
          have hzz : z.tmod 9973 = z % 9973 := Int.tmod_eq_emod_of_nonneg (by omega)
          have hne0 : ((0 : Int) != 0) = false := rfl
          by_cases hmn : m = n
          · have hz0 : z % 9973 = 0 := hpr (by rw [← hmn] at hse; omega)
            subst hmn
            have hmm : (m == m) = true := by simp
            rw [hz0] at hzz
            clear hpr hse hz0
            go_wp2_with fail
            go_quiet (fail)
            go_wp2_with fail
            go_roundw
            case rel => exact ⟨k + 1, by omega, by go_num, below_drewN l9 _⟩
            case measure => simp [intOf]; omega
          · have hmm : (m == n) = false := beq_eq_false_iff_ne.2 hmn
            clear hpr hse
            go_wp2_with fail
            go_quiet (fail)
            go_wp2_with fail
            go_roundw
            case rel => exact ⟨k + 1, by omega, by go_num, below_drewN l9 _⟩
            case measure => simp [intOf]; omega
    · have l7 := later_trans L6.out lr
      have hnn : (n == n) = true := by simp
      have hn9 : decide (n < 9973) = true := decide_eq_true n1
      go_wp2_with fail
      refine (so_turned _ xs _ (HB.out.on l7) hl60).mono ?_
      rintro e w8 ⟨v8, rfl, o8, b8⟩
      have l8 := later_trans l7 b8
      have O8 := Lib.hid o8.rd; clear o8
      go_wp2_with fail
      refine (impl_SealOf _ xs.reverse _ O8.out).mono ?_
      rw [okB_perm HOK.out (List.reverse_perm xs).symm, show orOf true (sL xs.reverse) = sL xs.reverse from rfl, seal_perm ((List.reverse_perm xs).map Ltr.id), ← HN.out]
      rintro e w9 ⟨rfl, b9⟩
      have l9 := later_trans l8 b9
      clear O8 b9 l8 b8 l7
      go_wp2_with fail
      refine (so_sorted _ xs _ (HB.out.on l9) hl19 HOK.out).mono ?_
      rintro e w10 ⟨v10, ys, rfl, o10, hp, b10⟩
      have l10 := later_trans l9 b10
      have O10 := Lib.hid o10.rd; clear o10
      have HP := Lib.hid hp; clear hp
      go_wp2_with fail
      refine (impl_SealOf _ ys _ O10.out).mono ?_
      rw [okB_perm HOK.out HP.out.symm, show orOf true (sL ys) = sL ys from rfl, seal_perm (HP.out.map Ltr.id), ← HN.out]
      rintro e w11 ⟨rfl, b11⟩
      have l11 := later_trans l10 b11
      go_wp2_with fail
      go_ret
      exact ⟨rfl, HWB.out.trans (l11.mono HWB.out.size)⟩

end Go.Proofs.Ytmangjjaijhcnaa
