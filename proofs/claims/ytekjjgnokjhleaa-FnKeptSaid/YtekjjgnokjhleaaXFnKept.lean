/- FnKept: the walk of the law. -/
import Derived.Test.YtekjjgnokjhleaaQ24
import Derived.Test.YtekjjgnokjhleaaQ38
import Derived.Test.YtekjjgnokjhleaaQ36
import Derived.Test.YtekjjgnokjhleaaQ25
import Derived.Test.YtekjjgnokjhleaaQ37
import Derived.Deep.RegionHeld3
namespace Go.Proofs.Ytekjjgnokjhleaa
open Go.RowKit

theorem rpOk_plan {p : Pln} {xs : List Ltr} (h : rpOk p xs = true) : planOk p = true := by unfold rpOk at h; simp only [Bool.and_eq_true] at h; exact h.1

set_option maxRecDepth 100000 in
set_option maxHeartbeats 4000000 in
theorem walk_FnKept (w : World) (v : Value) (bs : List UInt8) (hv : rd w w.heap.size v bs) :
    Calls Try.prog 13 #[v] w fun e w' => e = .returned (.bool true) ∧ Below w.heap.size w w' := by
  have hv0 := hv
  obtain ⟨A, n, c, rfl, hn, hc, hm, _⟩ := hv
  subst hn
  unfold maxLen at hm
  go_enter Try.func13, Try.ntmps13
  by_cases hsz : 1048576 < bs.length
  · go_wp2_with fail
    go_ret
    exact ⟨rfl, Below.refl _ _⟩
  go_wp2_with fail
  refine (draw_DrawKeptLetters _ bs w hv0).mono ?_
  rintro e w1 ⟨vp, vb, p, xs, rfl, ov, ob, hxl, hol, b1⟩
  have hvp := ov.rdp
  obtain ⟨A0, c0, e0⟩ := openP hvp
  obtain ⟨w0, hw0⟩ : ∃ w0, w0 = w1.alloc (Obj.cells #[.int .i64 p.bins, .int .i64 p.passes, .slice A0 p.order.length c0] 25) := ⟨_, rfl⟩
  have q0 := box_cells hw0 0 (.int .i64 p.bins) rfl
  have q1 := box_cells hw0 1 (.int .i64 p.passes) rfl
  have q2 := box_cells hw0 2 (.slice A0 p.order.length c0) rfl
  have HT := Lib.hid (box_later hw0).1
  have HP := Lib.hid (hvp.on HT.out)
  subst e0
  have HB := Lib.hid (ob.rd.on HT.out)
  have HWB : Hid (Below w.heap.size w w0) := b1.trans (HT.out.mono b1.size)
  have HW0 := Lib.hid hw0
  have l0 := Below.refl w0.heap.size w0
  clear hw0 hvp ov ob b1 HT hv0
  go_wp2_with fail
  rw [← HW0.out]
  have hvb := HB.out
  obtain ⟨Ab, nb, cb, hvb, hnb, hcb, hmb, hrb⟩ := hvb
  subst hnb hvb
  unfold maxLen at hmb
  have HRB := Lib.hid hrb; clear hrb
  have hnn : ((-1 : Int) != -1) = false := rfl
  have hne : ((-1 : Int) == -1) = true := rfl
  cases hok : rpOk p xs
  · have HKI : Hid (keptI p xs = -1) := keptI_no hok
    have HMI : Hid (movedI p xs = -1) := movedI_no hok
    clear hok
    refine (impl_KeptLetters _ _ p xs _ HP.out HB.out).mono ?_
    rw [HKI.out]
    rintro e w2 ⟨rfl, b2⟩
    have l2 := later_trans l0 b2
    go_wp2_with fail
    refine (impl_MovedLetters _ _ p xs _ (HP.out.on l2) (HB.out.on l2)).mono ?_
    rw [HMI.out]
    rintro e w3 ⟨rfl, b3⟩
    have l3 := later_trans l2 b3
    go_wp2_with fail
    refine (spec_KeptLetters _ _ p xs _ (HP.out.on l3) (HB.out.on l3) (by omega)).mono ?_
    rw [HKI.out]
    rintro e w4 ⟨rfl, b4⟩
    have l4 := later_trans l3 b4
    go_wp2_with fail
    refine (spec_MovedLetters _ _ p xs _ (HP.out.on l4) (HB.out.on l4) (by omega)).mono ?_
    rw [HMI.out]
    rintro e w5 ⟨rfl, b5⟩
    have l5 := later_trans l4 b5
    go_wp2_with fail
    refine (spec_KeptLetters _ _ p xs _ (HP.out.on l5) (HB.out.on l5) (by omega)).mono ?_
    rw [HKI.out]
    rintro e w6 ⟨rfl, b6⟩
    have l6 := later_trans l5 b6
    go_wp2_with fail
    refine (spec_MovedLetters _ _ p xs _ (HP.out.on l6) (HB.out.on l6) (by omega)).mono ?_
    rw [HMI.out]
    rintro e w7 ⟨rfl, b7⟩
    have l7 := later_trans l6 b7
    go_wp2_with fail
    go_ret
    exact ⟨rfl, HWB.out.trans (l7.mono HWB.out.size)⟩
  have HOK := Lib.hid hok
  have hxl6 : xs.length ≤ 60 := by
    unfold rpOk at hok
    simp only [Bool.and_eq_true] at hok
    exact okB_len' hok.2
  clear hok
  obtain ⟨K, hK⟩ : ∃ K, K = keptN p xs := ⟨_, rfl⟩
  have hKl : K ≤ xs.length := by rw [hK]; exact keptN_le p xs
  obtain ⟨M, hM⟩ : ∃ M, M + K = xs.length := ⟨xs.length - K, by omega⟩
  have HKI : Hid (keptI p xs = (K : Int)) := by show _ = _; rw [keptI_ok HOK.out, hK]
  have HMI : Hid (movedI p xs = (M : Int)) := by show _ = _; rw [movedI_ok HOK.out, ← hK]; omega
  have HKF : Hid (K = xs.length ↔ inOrd p xs) := by show _ ↔ _; rw [hK]; exact keptN_full
  have HKE : Hid (∀ i, i < xs.length → keptN p (xs.eraseIdx i) = K ∨ keptN p (xs.eraseIdx i) + 1 = K) := fun i hi => by rw [hK]; exact keptN_erase p xs i hi
  have HKR : Hid (K ≤ (rpRound p xs).length) := by show _ ≤ _; rw [hK]; exact kept_round HOK.out
  clear hK
  have hKK : ((K : Int) != (K : Int)) = false := by simp
  have hMM : ((M : Int) != (M : Int)) = false := by simp
  have hK0 : decide ((K : Int) < 0) = false := decide_eq_false (by omega)
  refine (impl_KeptLetters _ _ p xs _ HP.out HB.out).mono ?_
  rw [HKI.out]
  rintro e w2 ⟨rfl, b2⟩
  have l2 := later_trans l0 b2
  clear b2 l0
  have HM := Lib.hid hM; clear hM
  go_wp2_with fail
  refine (impl_MovedLetters _ _ p xs _ (HP.out.on l2) (HB.out.on l2)).mono ?_
  rw [HMI.out]
  rintro e w3 ⟨rfl, b3⟩
  have l3 := later_trans l2 b3
  clear b3 l2
  go_wp2_with fail
  refine (spec_KeptLetters _ _ p xs _ (HP.out.on l3) (HB.out.on l3) (by omega)).mono ?_
  rw [HKI.out]
  rintro e w4 ⟨rfl, b4⟩
  have l4 := later_trans l3 b4
  clear b4 l3
  go_wp2_with fail
  refine (spec_MovedLetters _ _ p xs _ (HP.out.on l4) (HB.out.on l4) (by omega)).mono ?_
  rw [HMI.out]
  rintro e w5 ⟨rfl, b5⟩
  have l5 := later_trans l4 b5
  clear b5 l4
  go_wp2_with fail
  refine (impl_InOrder _ _ p xs _ (HP.out.on l5) (HB.out.on l5)).mono ?_
  rintro e w6 ⟨b, rfl, hb, b6⟩
  have l6 := later_trans l5 b6
  clear b6 l5
  have hbM : (((M : Int) == 0) = true ∧ b = true) ∨ (((M : Int) == 0) = false ∧ b = false) := by
    have hm := HM.out
    by_cases hM0 : M = 0
    · exact .inl ⟨by rw [hM0]; rfl, hb.2 ⟨HOK.out, HKF.out.1 (by omega)⟩⟩
    · have h1 : b ≠ true := fun h => hM0 (by have := HKF.out.2 (hb.1 h).2; omega)
      exact .inr ⟨beq_eq_false_iff_ne.2 (by omega), by simpa using h1⟩
  clear hb
  have hMl : M ≤ 60 := by have := HM.out; omega
  have hwr : IntKind.i64.wrap ((K : Int) + (M : Int)) = (K : Int) + (M : Int) := IntWalk.i64_in _ (by omega)
  have hsum : ((K : Int) + (M : Int) != (xs.length : Int)) = false := by have := HM.out; simp; omega
  have htf : ((true : Bool) != true) = false := rfl
  have hft : ((false : Bool) != false) = false := rfl
  rcases hbM with ⟨hM1, rfl⟩ | ⟨hM1, rfl⟩
  all_goals
    go_wp2_with fail
    clear hM1 hwr hsum hMM
    have bq0 : ∀ W, Below w6.heap.size w6 W → W.cell? ⟨w1.heap.size, 0, none⟩ = some (.int .i64 p.bins) := fun W h => q0 W (later_trans l6 h)
    have bq1 : ∀ W, Below w6.heap.size w6 W → W.cell? ⟨w1.heap.size, 1, none⟩ = some (.int .i64 p.passes) := fun W h => q1 W (later_trans l6 h)
    have bq2 : ∀ W, Below w6.heap.size w6 W → W.cell? ⟨w1.heap.size, 2, none⟩ = some (.slice A0 p.order.length c0) := fun W h => q2 W (later_trans l6 h)
    have L6 := Lib.hid l6
    clear q0 q1 q2 l6
    go_loopw [7] (fun i wr => ∃ k : Nat, k ≤ xs.length ∧ i = .int .i64 k ∧ Below w6.heap.size w6 wr) (fun i _ => xs.length - (intOf i).toNat)
    case atStart => exact ⟨0, Nat.zero_le _, rfl, Below.refl _ _⟩
    case round =>
      obtain ⟨k, hk, rfl, lr⟩ := hrel
      obtain ⟨W6, rfl⟩ : ∃ w6 : World, w6 = wr := ⟨_, rfl⟩
      by_cases hlt : k < xs.length
      · obtain ⟨bx, o, rfl, _, _, _, _⟩ := HRB.out.ltrU k hlt
        have hki : (k : Int) < (xs.length : Int) := by omega
        have hk1 : (k : Int) + 1 ≤ (xs.length : Int) := by omega
        have hkc : (k : Int) ≤ (cb : Int) := by omega
        have hkc3 : (k : Int) ≤ (k : Int) + 1 := by omega
        have hk3 : ((k : Int) + 1).toNat = k + 1 := by omega
        have hk4 : (0 : Int) ≤ (k : Int) + 1 := by omega
        have hws : IntKind.i64.wrap ((k : Int) + 1) = (k : Int) + 1 := IntWalk.i64_in _ (by omega)
        have HV1 : Hid (∀ W, Below W6.heap.size W6 W → rd W W.heap.size (.slice (some ⟨bx, o, none⟩) k cb) (xs.take k)) := fun W h => rd_takeL (HB.out.on (later_trans L6.out (later_trans lr h))) hk
        have HER : Hid (xs.take k ++ xs.drop (k + 1) = xs.eraseIdx k) := erase_split xs k hlt
        obtain ⟨YS, rfl⟩ : ∃ Z : List Ltr, Z = xs := ⟨_, rfl⟩
        by_cases hck : cb = k + 1
        · subst hck
          have HV2 : Hid (∀ W, Below W6.heap.size W6 W → rd W W.heap.size (.slice (some ⟨bx, o, none⟩) 0 0) (YS.drop (k + 1))) := fun W h => by have h := rd_dropAll (HB.out.on (later_trans L6.out (later_trans lr h))) (by omega) rfl; rwa [Nat.sub_self, show YS.length - (k + 1) = 0 by omega] at h
          have oE := own.made0 (α := Ltr) W6 44 (Nat.le_refl _)
          have oED : own (α := Ltr) 44 W6.heap.size (W6.drew.alloc (Obj.cells #[] 44)) (.slice (some ⟨W6.heap.size, 0, none⟩) 0 0) [] := own.made0 W6.drew _ (Nat.le_refl _)
          have lE : Below W6.heap.size W6 (W6.alloc (Obj.cells #[] 44)) := (Below.refl _ _).alloc (Nat.le_refl _) _
          have lE1 : Below W6.heap.size W6 (W6.alloc (Obj.cells #[] 44)).drew := lE.drew
          have lE2 : Below W6.heap.size W6 (W6.drew.alloc (Obj.cells #[] 44)) := ((Below.refl _ _).drew).alloc (Nat.le_refl _) _
          obtain ⟨i0, hi, hz0, hz1, hz2⟩ := info_parts Try.infoLtr
          go_wp2_with fail
          go_region_law (first | (refine step_appendAll (α := Ltr) (by rfl) (.tmp 75) (.tmp 78) 34 (by rfl) W6.heap.size 44 i0 _ 24 Try.underlying34 hi hz0 hz1 hz2 rfl (by decide) (.slice (some ⟨W6.heap.size, 0, none⟩) 0 0) [] (by rfl) (by first | exact oE | exact oE.drew | exact oED) _ (YS.take k) (by rfl) _ (HV1.out _ (by first | exact lE | exact lE1 | exact lE2)) (by unfold maxLen; simp only [List.length_nil, List.length_take]; omega) (by simp only [List.length_nil, List.length_take]; omega) (by simp) ?_; intro v7 w7 o7 hg7 _; have l7 : Below W6.heap.size W6 w7 := (by first | exact lE.trans (below_append oE hg7 (by simp)) | exact lE1.trans (below_append oE.drew hg7 (by simp)) | exact lE2.trans (below_append oED hg7 (by simp))); rw [List.nil_append] at o7; have hz7 := l7.size) | (refine step_appendAll (α := Ltr) (by rfl) (.tmp 79) (.tmp 83) 34 (by rfl) W6.heap.size 44 i0 _ 24 Try.underlying34 hi hz0 hz1 hz2 rfl (by decide) v7 (YS.take k) (by rfl) o7 _ (YS.drop (k + 1)) (by rfl) _ (HV2.out _ l7) (by unfold maxLen; simp only [List.length_take, List.length_drop]; omega) (by simp only [List.length_take, List.length_drop]; omega) hz7 ?_; intro v8 w8 o8 hg8 _; have l8 : Below W6.heap.size W6 w8 := l7.trans (below_append o7 hg8 hz7)))
          all_goals
            rw [HER.out] at o8
            have l8' := later_trans lr l8
            have x0 := bq0 _ l8'
            have x1 := bq1 _ l8'
            have x2 := bq2 _ l8'
            clear oE oED lE lE1 lE2 o7 l7 hg7 hg8 l8
            go_wp2_with fail
            refine (impl_KeptLetters _ _ p (YS.eraseIdx k) _ (HP.out.on (later_trans L6.out l8')) o8.rd).mono ?_
            rw [keptI_ok (rpOk_erase HOK.out k)]
            rintro e w9 ⟨rfl, b9⟩
            have l9 := later_trans l8' b9
            clear x0 x1 x2 b9 l8' o8
            rcases HKE.out k hlt with hE | hE
            · rw [hE]
              clear hE
              go_wp2_with fail
              go_roundw
              case rel => exact ⟨k + 1, by omega, by go_num, l9⟩
              case measure => simp [intOf]; omega
            · obtain ⟨K', hK'⟩ : ∃ K', K' = keptN p (YS.eraseIdx k) := ⟨_, rfl⟩
              rw [← hK'] at hE ⊢
              clear hK'
              have hE1 : ((K' : Int) != (K : Int)) = true := bne_iff_ne.2 (by omega)
              have hE2 : IntKind.i64.wrap ((K : Int) - 1) = (K' : Int) := by rw [IntWalk.i64_in _ (by omega)]; omega
              have hE3 : ((K' : Int) != (K' : Int)) = false := by simp
              clear hE
              go_wp2_with fail
              go_roundw
              case rel => exact ⟨k + 1, by omega, by go_num, l9⟩
              case measure => simp [intOf]; omega
        · have HV2 : Hid (∀ W, Below W6.heap.size W6 W → rd W W.heap.size (.slice (some ⟨bx, o + (k + 1) * 2, none⟩) (YS.length - (k + 1)) (cb - (k + 1))) (YS.drop (k + 1))) := fun W h => rd_dropL (HB.out.on (later_trans L6.out (later_trans lr h))) (by omega)
          have oE := own.made0 (α := Ltr) W6 44 (Nat.le_refl _)
          have oED : own (α := Ltr) 44 W6.heap.size (W6.drew.alloc (Obj.cells #[] 44)) (.slice (some ⟨W6.heap.size, 0, none⟩) 0 0) [] := own.made0 W6.drew _ (Nat.le_refl _)
          have lE : Below W6.heap.size W6 (W6.alloc (Obj.cells #[] 44)) := (Below.refl _ _).alloc (Nat.le_refl _) _
          have lE1 : Below W6.heap.size W6 (W6.alloc (Obj.cells #[] 44)).drew := lE.drew
          have lE2 : Below W6.heap.size W6 (W6.drew.alloc (Obj.cells #[] 44)) := ((Below.refl _ _).drew).alloc (Nat.le_refl _) _
          obtain ⟨i0, hi, hz0, hz1, hz2⟩ := info_parts Try.infoLtr
          go_wp2_with fail
          go_region_law (first | (refine step_appendAll (α := Ltr) (by rfl) (.tmp 75) (.tmp 78) 34 (by rfl) W6.heap.size 44 i0 _ 24 Try.underlying34 hi hz0 hz1 hz2 rfl (by decide) (.slice (some ⟨W6.heap.size, 0, none⟩) 0 0) [] (by rfl) (by first | exact oE | exact oE.drew | exact oED) _ (YS.take k) (by rfl) _ (HV1.out _ (by first | exact lE | exact lE1 | exact lE2)) (by unfold maxLen; simp only [List.length_nil, List.length_take]; omega) (by simp only [List.length_nil, List.length_take]; omega) (by simp) ?_; intro v7 w7 o7 hg7 _; have l7 : Below W6.heap.size W6 w7 := (by first | exact lE.trans (below_append oE hg7 (by simp)) | exact lE1.trans (below_append oE.drew hg7 (by simp)) | exact lE2.trans (below_append oED hg7 (by simp))); rw [List.nil_append] at o7; have hz7 := l7.size) | (refine step_appendAll (α := Ltr) (by rfl) (.tmp 79) (.tmp 83) 34 (by rfl) W6.heap.size 44 i0 _ 24 Try.underlying34 hi hz0 hz1 hz2 rfl (by decide) v7 (YS.take k) (by rfl) o7 _ (YS.drop (k + 1)) (by rfl) _ (HV2.out _ l7) (by unfold maxLen; simp only [List.length_take, List.length_drop]; omega) (by simp only [List.length_take, List.length_drop]; omega) hz7 ?_; intro v8 w8 o8 hg8 _; have l8 : Below W6.heap.size W6 w8 := l7.trans (below_append o7 hg8 hz7)))
          all_goals
            rw [HER.out] at o8
            have l8' := later_trans lr l8
            have x0 := bq0 _ l8'
            have x1 := bq1 _ l8'
            have x2 := bq2 _ l8'
            clear oE oED lE lE1 lE2 o7 l7 hg7 hg8 l8
            go_wp2_with fail
            refine (impl_KeptLetters _ _ p (YS.eraseIdx k) _ (HP.out.on (later_trans L6.out l8')) o8.rd).mono ?_
            rw [keptI_ok (rpOk_erase HOK.out k)]
            rintro e w9 ⟨rfl, b9⟩
            have l9 := later_trans l8' b9
            clear x0 x1 x2 b9 l8' o8
            rcases HKE.out k hlt with hE | hE
            · rw [hE]
              clear hE
              go_wp2_with fail
              go_roundw
              case rel => exact ⟨k + 1, by omega, by go_num, l9⟩
              case measure => simp [intOf]; omega
            · obtain ⟨K', hK'⟩ : ∃ K', K' = keptN p (YS.eraseIdx k) := ⟨_, rfl⟩
              rw [← hK'] at hE ⊢
              clear hK'
              have hE1 : ((K' : Int) != (K : Int)) = true := bne_iff_ne.2 (by omega)
              have hE2 : IntKind.i64.wrap ((K : Int) - 1) = (K' : Int) := by rw [IntWalk.i64_in _ (by omega)]; omega
              have hE3 : ((K' : Int) != (K' : Int)) = false := by simp
              clear hE
              go_wp2_with fail
              go_roundw
              case rel => exact ⟨k + 1, by omega, by go_num, l9⟩
              case measure => simp [intOf]; omega
      · have l6' := later_trans L6.out lr
        have HRO := Lib.hid (rp_ord HOK.out)
        have HRB2 : Hid (rpOk p (rpRound p xs) = true) := by show _ = _; unfold rpOk; rw [okB_rp HOK.out, rpOk_plan HOK.out]; rfl
        have x0 := bq0 _ lr
        have x1 := bq1 _ lr
        have x2 := bq2 _ lr
        go_wp2_with fail
        refine (impl_RunPlan _ _ p xs _ (HP.out.on l6') (HB.out.on l6')).mono ?_
        rintro e w7 ⟨vL, vO, rfl, oL, _, _, b7⟩
        have HKL : Hid (keptI p (rpRound p xs) = ((rpRound p xs).length : Int)) := by show _ = _; rw [keptI_ok HRB2.out, keptN_full.2 HRO.out]
        have HKR2 := HKR.out
        generalize rpRound p xs = RD at *
        obtain ⟨AL, nL, cL, hvL, hnL, _, hmL, _⟩ := oL.rd
        subst hnL hvL
        have OL := Lib.hid oL
        have lr7 := later_trans lr b7
        have l7 := later_trans l6' b7
        clear oL b7 x0 x1 x2
        have x0 := bq0 _ lr7
        have x1 := bq1 _ lr7
        have x2 := bq2 _ lr7
        go_wp2_with fail
        refine (impl_KeptLetters _ _ p RD _ (HP.out.on l7) OL.out.rd).mono ?_
        rw [HKL.out]
        rintro e w8 ⟨rfl, b8⟩
        have l8 := later_trans l7 b8
        have hee : ((RD.length : Int) == (RD.length : Int)) = true := by simp
        have hle : decide ((K : Int) ≤ (RD.length : Int)) = true := decide_eq_true (by omega)
        go_wp2_with fail
        go_ret
        exact ⟨rfl, HWB.out.trans (l8.mono HWB.out.size)⟩

end Go.Proofs.Ytekjjgnokjhleaa
