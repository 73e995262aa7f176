/- FnMissing: the walk of the law. -/
import Derived.Test.YtekjjgnokjhleaaQ41
import Derived.Deep.RegionHeld3
namespace Go.Proofs.Ytekjjgnokjhleaa
open Go.RowKit

set_option maxRecDepth 100000 in
set_option maxHeartbeats 2000000 in
theorem walk_FnMissing (w : World) (v : Value) (bs : List UInt8) (hv : rd w w.heap.size v bs) :
    Calls Try.prog 11 #[v] w fun e w' => e = .returned (.bool true) ∧ Below w.heap.size w w' := by
  have hv0 := hv
  obtain ⟨A, n, c, rfl, hn, hc, hm, _⟩ := hv
  subst hn
  unfold maxLen at hm
  go_enter Try.func11, Try.ntmps11
  by_cases hsz : 1048576 < bs.length
  · go_wp2_with fail
    go_ret
    exact ⟨rfl, Below.refl _ _⟩
  go_wp2_with fail
  refine (draw_DrawMissingIds _ bs w hv0).mono ?_
  rintro e w0 ⟨va, vb, xs, ys, rfl, oa, ob, hxl, hyl, b0⟩
  have HA := Lib.hid oa.rd
  have HB := Lib.hid ob.rd
  have HWB := Lib.hid b0
  have l0 := Below.refl w0.heap.size w0
  clear oa ob b0 hv0
  go_wp2_with fail
  refine (impl_MissingIds _ _ xs ys _ HA.out HB.out).mono ?_
  rintro e w2 ⟨vm, rfl, om, b2⟩
  have HM2 := Lib.hid om.rd
  have l2 := later_trans l0 b2
  clear om b2 l0
  go_wp2_with fail
  refine (spec_MissingIds _ _ xs ys _ (HA.out.on l2) (HB.out.on l2)).mono ?_
  rintro e w3 ⟨vs, rfl, os, b3⟩
  have HS3 := Lib.hid os.rd
  have HM3 := Lib.hid (HM2.out.on b3)
  have l3 := later_trans l2 b3
  clear os b3 l2 HM2
  go_wp2_with fail
  refine (so_ints _ _ (missR xs ys) _ HM3.out HS3.out).mono ?_
  rintro e w4 ⟨rfl, b4⟩
  have HM4 := Lib.hid (HM3.out.on b4)
  have l4 := later_trans l3 b4
  clear b4 l3 HM3 HS3
  go_wp2_with fail
  refine (impl_BatchValid _ xs _ (HA.out.on l4)).mono ?_
  rintro e w5 ⟨rfl, b5⟩
  have HM5 := Lib.hid (HM4.out.on b5)
  have l5 := later_trans l4 b5
  clear b5 l4 HM4
  cases hx : okB xs
  · clear hx
    go_wp2_with fail
    refine (spec_MissingIds _ _ xs ys _ (HA.out.on l5) (HB.out.on l5)).mono ?_
    rintro e w8 ⟨vz, rfl, oz, b8⟩
    have OZ := Lib.hid oz.rd
    have HM8 := Lib.hid (HM5.out.on b8)
    have l8 := later_trans l5 b8
    go_wp2_with fail
    refine (so_ints _ _ (missR xs ys) _ HM8.out OZ.out).mono ?_
    rintro e w9 ⟨rfl, b9⟩
    have l9 := later_trans l8 b9
    go_wp2_with fail
    go_ret
    exact ⟨rfl, HWB.out.trans (l9.mono HWB.out.size)⟩

  have HX := Lib.hid hx; clear hx
  go_wp2_with fail
  refine (impl_BatchValid _ ys _ (HB.out.on l5)).mono ?_
  rintro e w6 ⟨rfl, b6⟩
  have HM6 := Lib.hid (HM5.out.on b6)
  have l6 := later_trans l5 b6
  clear b6 l5 HM5
  cases hy : okB ys
  · clear hy
    go_wp2_with fail
    refine (spec_MissingIds _ _ xs ys _ (HA.out.on l6) (HB.out.on l6)).mono ?_
    rintro e w8 ⟨vz, rfl, oz, b8⟩
    have OZ := Lib.hid oz.rd
    have HM8 := Lib.hid (HM6.out.on b8)
    have l8 := later_trans l6 b8
    go_wp2_with fail
    refine (so_ints _ _ (missR xs ys) _ HM8.out OZ.out).mono ?_
    rintro e w9 ⟨rfl, b9⟩
    have l9 := later_trans l8 b9
    go_wp2_with fail
    go_ret
    exact ⟨rfl, HWB.out.trans (l9.mono HWB.out.size)⟩

  have HOK : Hid (missOk xs ys = true) := by show _ = _; unfold missOk; rw [HX.out, hy]; rfl
  clear hy
  have hx60 := okB_len' HX.out
  have hml : (missR xs ys).length ≤ 60 := missR_len xs ys
  have hnl : (missR ys xs).length ≤ 60 := missR_len ys xs
  have HRST : Hid (xs.length + (missR ys xs).length = ys.length + (missR xs ys).length) := missR_rest HOK.out
  have HAT : Hid (∀ n, n ∈ missR xs ys → 0 ≤ findI xs n ∧ findI xs n ≤ 60 ∧ findI ys n = -1) := fun n hn => missR_at HOK.out hn
  have HASC : Hid ((missR xs ys).Pairwise (· < ·)) := missR_asc HOK.out
  have HTUR : Hid (missR xs xs.reverse = []) := missR_turned HX.out
  generalize missR xs ys = m at *
  go_wp2_with fail
  refine (impl_MissingIds _ _ ys xs _ (HB.out.on l6) (HA.out.on l6)).mono ?_
  rintro e w7 ⟨vn, rfl, on, b7⟩
  generalize missR ys xs = mn at *
  obtain ⟨An, nn, cn, hvn, hnn, _, hmn, _⟩ := on.rd
  subst hnn hvn
  have HM7 := Lib.hid (HM6.out.on b7)
  have l7 := later_trans l6 b7
  clear on b7 l6 HM6
  have hvm := HM7.out
  obtain ⟨Am, nm, cm, hvm, hnm, _, hmm, hrm⟩ := hvm
  subst hnm hvm
  have HRM := Lib.hid hrm; clear hrm
  have hva := HA.out
  obtain ⟨Aa, na, ca, hva, hna, _, hma, _⟩ := hva
  subst hna hva
  have hvb := HB.out
  obtain ⟨Ab, nb, cb, hvb, hnb, _, hmb, _⟩ := hvb
  subst hnb hvb
  unfold maxLen at hmm hma hmb hmn
  go_wp2_with fail
  go_loopw [7] (fun i wr => ∃ k : Nat, k ≤ m.length ∧ i = .int .i64 k ∧ Below w7.heap.size w7 wr) (fun i _ => m.length - (intOf i).toNat)
  case atStart => exact ⟨0, Nat.zero_le _, rfl, Below.refl _ _⟩
  case round =>
    obtain ⟨k, hk, rfl, lr⟩ := hrel
    obtain ⟨w8, rfl⟩ : ∃ w8 : World, w8 = wr := ⟨_, rfl⟩
    have hki0 : (k : Int) ≤ (m.length : Int) := by omega
    by_cases hlt : k < m.length
    · obtain ⟨bm, o, rfl, hbm, _, c1⟩ := HRM.out.intU k hlt
      obtain ⟨ha0, ha60, hbn⟩ := HAT.out m[k] (List.getElem_mem hlt)
      have HPW : Hid (∀ j (hj : j < m.length), j < k → m[j] < m[k]) := fun j hj hjk => List.pairwise_iff_getElem.1 HASC.out j k hj hlt hjk
      have ld := later_drew lr
      obtain ⟨z, hz⟩ : ∃ z, z = m[k] := ⟨_, rfl⟩
      rw [← hz] at c1 ha0 ha60 hbn
      have HC1 : Hid (∀ W, Below w7.heap.size w7 W → Calls Try.prog 30 #[.slice Aa xs.length ca, .int .i64 z] W fun e W' => e = .returned (.int .i64 (findI xs z)) ∧ Below w7.heap.size w7 W') := fun W l => by
        refine (so_place _ xs z W (HA.out.on (later_trans l7 l))).mono ?_
        rintro e W' ⟨rfl, b⟩
        exact ⟨rfl, later_trans l b⟩
      have HC2 : Hid (∀ W, Below w7.heap.size w7 W → Calls Try.prog 30 #[.slice Ab ys.length cb, .int .i64 z] W fun e W' => e = .returned (.int .i64 (-1)) ∧ Below w7.heap.size w7 W') := fun W l => by
        refine (so_place _ ys z W (HB.out.on (later_trans l7 l))).mono ?_
        rintro e W' ⟨rfl, b⟩
        exact ⟨by rw [hbn], later_trans l b⟩
      obtain ⟨pz, hpz⟩ : ∃ pz, pz = findI xs z := ⟨_, rfl⟩
      rw [← hpz] at HC1 ha0 ha60
      have hki : (k : Int) < (m.length : Int) := by omega
      have hd1 : decide (pz < 0) = false := decide_eq_false (by omega)
      have hd2 : decide ((0 : Int) ≤ -1) = false := rfl
      clear hbn hpz
      by_cases hk0 : k = 0
      · subst hk0
        rw [Nat.add_zero] at c1
        clear hz HPW
        obtain ⟨KI, hKI⟩ : ∃ KI : Int, KI = ((0 : Nat) : Int) := ⟨_, rfl⟩
        have hKt : KI.toNat = 0 := by omega
        have hK0 : 0 ≤ KI := by omega
        have hKw2 : IntKind.i64.wrap (KI + 1) = KI + 1 := IntWalk.i64_in _ (by omega)
        have hd3 : decide ((0 : Int) < KI) = false := decide_eq_false (by omega)
        rw [← hKI] at hki hki0 ⊢
        have HKI := Lib.hid hKI; clear hKI
        go_wp2_with fail
        refine wp_region_held_drew (S := fun W => Below w7.heap.size w7 W) (by kernel_rfl) ?_ (fun hHeld => ?_)
        · exact ld
        refine wpAnyH_take (i := 0) (v := ?v0) rfl (by kernel_rfl) (by kernel_rfl) (by kernel_rfl) (fun _ _ _ h => h) (Or.inl ⟨by rfl, ?y0⟩) (by assumption) ?r0
        case y0 =>
          intro w hSw
          (try dsimp only at hSw)
          go_simp
          try with_reducible rfl
        show wpAnyH _ _ _ _ _ _ _ (Act.put _ (some 49) _) _
        try simp only [Act.put, List.setIfInBounds_toArray, List.set_cons_zero, List.set_cons_succ]
        refine wpAnyH_take (i := 1) (v := ?v1) rfl (by kernel_rfl) (by kernel_rfl) (by kernel_rfl) (fun _ _ _ h => h) (Or.inl ⟨by rfl, ?y1⟩) (by assumption) ?r1
        case y1 =>
          intro w hSw
          (try dsimp only at hSw)
          go_simp
          try with_reducible rfl
        show wpAnyH _ _ _ _ _ _ _ (Act.put _ (some 50) _) _
        try simp only [Act.put, List.setIfInBounds_toArray, List.set_cons_zero, List.set_cons_succ]
        refine wpAnyH_take (i := 2) (v := ?v2) rfl (by kernel_rfl) (by kernel_rfl) (by kernel_rfl) (fun _ _ _ h => h) (Or.inl ⟨by rfl, ?y2⟩) (by assumption) ?r2
        case y2 =>
          intro w hSw
          (try dsimp only at hSw)
          go_simp
          try with_reducible rfl
        show wpAnyH _ _ _ _ _ _ _ (Act.put _ (some 51) _) _
        try simp only [Act.put, List.setIfInBounds_toArray, List.set_cons_zero, List.set_cons_succ]
        refine wpAnyH_take (i := 3) (v := ?v3) rfl (by kernel_rfl) (by kernel_rfl) (by kernel_rfl) (fun _ _ _ h => h) (Or.inl ⟨by rfl, ?y3⟩) (by assumption) ?r3
        case y3 =>
          intro w hSw
          (try dsimp only at hSw)
          go_simp
          try with_reducible rfl
        show wpAnyH _ _ _ _ _ _ _ (Act.put _ (some 52) _) _
        try simp only [Act.put, List.setIfInBounds_toArray, List.set_cons_zero, List.set_cons_succ]
        refine wpAnyH_take (i := 4) (v := ?v4) rfl (by kernel_rfl) (by kernel_rfl) (by kernel_rfl) (fun _ _ _ h => h) (Or.inl ⟨by rfl, ?y4⟩) (by assumption) ?r4
        case y4 =>
          intro w hSw
          (try dsimp only at hSw)
          go_simp
          try with_reducible rfl
        show wpAnyH _ _ _ _ _ _ _ (Act.put _ (some 53) _) _
        try simp only [Act.put, List.setIfInBounds_toArray, List.set_cons_zero, List.set_cons_succ]
        refine wpAnyH_ready (rs := [5]) (by kernel_rfl) (by simp) ?_
        refine AllReadyH.cons rfl (fun K hK => ?_) AllReadyH.nil
        go_simp
        go_at_call 30
        (with_reducible refine (HC1.out _ ld).mono ?_)
        rintro e w9 ⟨rfl, l9⟩
        refine hK.out _ _ ?_ (fun hHeld => ?_)
        · exact l9
        clear hK K
        try simp only [Act.put, List.setIfInBounds_toArray, List.set_cons_zero, List.set_cons_succ]
        refine wpAnyH_take (i := 6) (v := ?v6) rfl (by kernel_rfl) (by kernel_rfl) (by kernel_rfl) (fun _ _ _ h => h) (Or.inl ⟨by rfl, ?y6⟩) (by assumption) ?r6
        case y6 =>
          intro w hSw
          (try dsimp only at hSw)
          go_simp
          try with_reducible rfl
        show wpAnyH _ _ _ _ _ _ _ (Act.put _ (some 55) _) _
        try simp only [Act.put, List.setIfInBounds_toArray, List.set_cons_zero, List.set_cons_succ]
        refine wpAnyH_take (i := 7) (v := ?v7) rfl (by kernel_rfl) (by kernel_rfl) (by kernel_rfl) (fun _ _ _ h => h) (Or.inl ⟨by rfl, ?y7⟩) (by assumption) ?r7
        case y7 =>
          intro w hSw
          (try dsimp only at hSw)
          go_simp
          try with_reducible rfl
        show wpAnyH _ _ _ _ _ _ _ (Act.put _ (some 56) _) _
        try simp only [Act.put, List.setIfInBounds_toArray, List.set_cons_zero, List.set_cons_succ]
        refine wpAnyH_take (i := 8) (v := ?v8) rfl (by kernel_rfl) (by kernel_rfl) (by kernel_rfl) (fun _ _ _ h => h) (Or.inl ⟨by rfl, ?y8⟩) (by assumption) ?r8
        case y8 =>
          intro w hSw
          (try dsimp only at hSw)
          go_simp
          try with_reducible rfl
        show wpAnyH _ _ _ _ _ _ _ (Act.put _ (some 57) _) _
        try simp only [Act.put, List.setIfInBounds_toArray, List.set_cons_zero, List.set_cons_succ]
        refine wpAnyH_take (i := 9) (v := ?v9) rfl (by kernel_rfl) (by kernel_rfl) (by kernel_rfl) (fun _ _ _ h => h) (Or.inl ⟨by rfl, ?y9⟩) (by assumption) ?r9
        case y9 =>
          intro w hSw
          (try dsimp only at hSw)
          go_simp
          try with_reducible rfl
        show wpAnyH _ _ _ _ _ _ _ (Act.put _ (some 58) _) _
        try simp only [Act.put, List.setIfInBounds_toArray, List.set_cons_zero, List.set_cons_succ]
        refine wpAnyH_take (i := 10) (v := ?v10) rfl (by kernel_rfl) (by kernel_rfl) (by kernel_rfl) (fun _ _ _ h => h) (Or.inl ⟨by rfl, ?y10⟩) (by assumption) ?r10
        case y10 =>
          intro w hSw
          (try dsimp only at hSw)
          go_simp
          try with_reducible rfl
        show wpAnyH _ _ _ _ _ _ _ (Act.put _ (some 59) _) _
        try simp only [Act.put, List.setIfInBounds_toArray, List.set_cons_zero, List.set_cons_succ]
        refine wpAnyH_take (i := 11) (v := ?v11) rfl (by kernel_rfl) (by kernel_rfl) (by kernel_rfl) (fun _ _ _ h => h) (Or.inl ⟨by rfl, ?y11⟩) (by assumption) ?r11
        case y11 =>
          intro w hSw
          (try dsimp only at hSw)
          go_simp
          try with_reducible rfl
        show wpAnyH _ _ _ _ _ _ _ (Act.put _ (some 60) _) _
        try simp only [Act.put, List.setIfInBounds_toArray, List.set_cons_zero, List.set_cons_succ]
        refine wpAnyH_take (i := 12) (v := ?v12) rfl (by kernel_rfl) (by kernel_rfl) (by kernel_rfl) (fun _ _ _ h => h) (Or.inl ⟨by rfl, ?y12⟩) (by assumption) ?r12
        case y12 =>
          intro w hSw
          (try dsimp only at hSw)
          go_simp
          try with_reducible rfl
        show wpAnyH _ _ _ _ _ _ _ (Act.put _ (some 61) _) _
        try simp only [Act.put, List.setIfInBounds_toArray, List.set_cons_zero, List.set_cons_succ]
        refine wpAnyH_ready (rs := [13]) (by kernel_rfl) (by simp) ?_
        refine AllReadyH.cons rfl (fun K hK => ?_) AllReadyH.nil
        go_simp
        go_at_call 30
        (with_reducible refine (HC2.out _ l9).mono ?_)
        rintro e w10 ⟨rfl, l10⟩
        refine hK.out _ _ ?_ (fun hHeld => ?_)
        · exact l10
        clear hK K
        try simp only [Act.put, List.setIfInBounds_toArray, List.set_cons_zero, List.set_cons_succ]
        refine wpAnyH_take (i := 14) (v := ?v14) rfl (by kernel_rfl) (by kernel_rfl) (by kernel_rfl) (fun _ _ _ h => h) (Or.inl ⟨by rfl, ?y14⟩) (by assumption) ?r14
        case y14 =>
          intro w hSw
          (try dsimp only at hSw)
          go_simp
          try with_reducible rfl
        show wpAnyH _ _ _ _ _ _ _ (Act.put _ (some 63) _) _
        try simp only [Act.put, List.setIfInBounds_toArray, List.set_cons_zero, List.set_cons_succ]
        refine wpAnyH_take (i := 15) (v := ?v15) rfl (by kernel_rfl) (by kernel_rfl) (by kernel_rfl) (fun _ _ _ h => h) (Or.inl ⟨by rfl, ?y15⟩) (by assumption) ?r15
        case y15 =>
          intro w hSw
          (try dsimp only at hSw)
          go_simp
          try with_reducible rfl
        show wpAnyH _ _ _ _ _ _ _ (Act.put _ (some 64) _) _
        try simp only [Act.put, List.setIfInBounds_toArray, List.set_cons_zero, List.set_cons_succ]
        refine wpAnyH_take (i := 16) (v := ?v16) rfl (by kernel_rfl) (by kernel_rfl) (by kernel_rfl) (fun _ _ _ h => h) (Or.inl ⟨by rfl, ?y16⟩) (by assumption) ?r16
        case y16 =>
          intro w hSw
          (try dsimp only at hSw)
          go_simp
          try with_reducible rfl
        show wpAnyH _ _ _ _ _ _ _ (Act.put _ (some 65) _) _
        try simp only [Act.put, List.setIfInBounds_toArray, List.set_cons_zero, List.set_cons_succ]
        refine wpAnyH_take (i := 17) (v := ?v17) rfl (by kernel_rfl) (by kernel_rfl) (by kernel_rfl) (fun _ _ _ h => h) (Or.inl ⟨by rfl, ?y17⟩) (by assumption) ?r17
        case y17 =>
          intro w hSw
          (try dsimp only at hSw)
          go_simp
          try with_reducible rfl
        show wpAnyH _ _ _ _ _ _ _ (Act.put _ (some 66) _) _
        try simp only [Act.put, List.setIfInBounds_toArray, List.set_cons_zero, List.set_cons_succ]
        refine wpAnyH_take (i := 18) (v := ?v18) rfl (by kernel_rfl) (by kernel_rfl) (by kernel_rfl) (fun _ _ _ h => h) (Or.inl ⟨by rfl, ?y18⟩) (by assumption) ?r18
        case y18 =>
          intro w hSw
          (try dsimp only at hSw)
          go_simp
          try with_reducible rfl
        show wpAnyH _ _ _ _ _ _ _ (Act.put _ (some 67) _) _
        try simp only [Act.put, List.setIfInBounds_toArray, List.set_cons_zero, List.set_cons_succ]
        refine wpAnyH_take (i := 19) (v := ?v19) rfl (by kernel_rfl) (by kernel_rfl) (by kernel_rfl) (fun _ _ _ h => h) (Or.inl ⟨by rfl, ?y19⟩) (by assumption) ?r19
        case y19 =>
          intro w hSw
          (try dsimp only at hSw)
          go_simp
          try with_reducible rfl
        show wpAnyH _ _ _ _ _ _ _ (Act.put _ (some 68) _) _
        try simp only [Act.put, List.setIfInBounds_toArray, List.set_cons_zero, List.set_cons_succ]
        refine wpAnyH_take (i := 20) (v := undef) rfl (by kernel_rfl) (by kernel_rfl) (by kernel_rfl) (fun _ _ _ h => h) (Or.inr ⟨by rfl, rfl⟩) (by assumption) ?_
        show wpAnyH _ _ _ _ _ _ _ (Act.put _ (some 69) _) _
        try simp only [Act.put, List.setIfInBounds_toArray, List.set_cons_zero, List.set_cons_succ]
        refine wpAnyH_take (i := 21) (v := undef) rfl (by kernel_rfl) (by kernel_rfl) (by kernel_rfl) (fun _ _ _ h => h) (Or.inr ⟨by rfl, rfl⟩) (by assumption) ?_
        show wpAnyH _ _ _ _ _ _ _ (Act.put _ (some 70) _) _
        try simp only [Act.put, List.setIfInBounds_toArray, List.set_cons_zero, List.set_cons_succ]
        refine wpAnyH_take (i := 22) (v := undef) rfl (by kernel_rfl) (by kernel_rfl) (by kernel_rfl) (fun _ _ _ h => h) (Or.inr ⟨by rfl, rfl⟩) (by assumption) ?_
        show wpAnyH _ _ _ _ _ _ _ (Act.put _ (some 71) _) _
        try simp only [Act.put, List.setIfInBounds_toArray, List.set_cons_zero, List.set_cons_succ]
        refine wpAnyH_take (i := 23) (v := undef) rfl (by kernel_rfl) (by kernel_rfl) (by kernel_rfl) (fun _ _ _ h => h) (Or.inr ⟨by rfl, rfl⟩) (by assumption) ?_
        show wpAnyH _ _ _ _ _ _ _ (Act.put _ (some 72) _) _
        try simp only [Act.put, List.setIfInBounds_toArray, List.set_cons_zero, List.set_cons_succ]
        refine wpAnyH_take (i := 24) (v := undef) rfl (by kernel_rfl) (by kernel_rfl) (by kernel_rfl) (fun _ _ _ h => h) (Or.inr ⟨by rfl, rfl⟩) (by assumption) ?_
        show wpAnyH _ _ _ _ _ _ _ (Act.put _ (some 73) _) _
        try simp only [Act.put, List.setIfInBounds_toArray, List.set_cons_zero, List.set_cons_succ]
        refine wpAnyH_take (i := 25) (v := undef) rfl (by kernel_rfl) (by kernel_rfl) (by kernel_rfl) (fun _ _ _ h => h) (Or.inr ⟨by rfl, rfl⟩) (by assumption) ?_
        show wpAnyH _ _ _ _ _ _ _ (Act.put _ (some 74) _) _
        try simp only [Act.put, List.setIfInBounds_toArray, List.set_cons_zero, List.set_cons_succ]
        refine wpAnyH_take (i := 26) (v := undef) rfl (by kernel_rfl) (by kernel_rfl) (by kernel_rfl) (fun _ _ _ h => h) (Or.inr ⟨by rfl, rfl⟩) (by assumption) ?_
        show wpAnyH _ _ _ _ _ _ _ (Act.put _ (some 75) _) _
        try simp only [Act.put, List.setIfInBounds_toArray, List.set_cons_zero, List.set_cons_succ]
        refine wpAnyH_take (i := 27) (v := undef) rfl (by kernel_rfl) (by kernel_rfl) (by kernel_rfl) (fun _ _ _ h => h) (Or.inr ⟨by rfl, rfl⟩) (by assumption) ?_
        show wpAnyH _ _ _ _ _ _ _ (Act.put _ (some 76) _) _
        try simp only [Act.put, List.setIfInBounds_toArray, List.set_cons_zero, List.set_cons_succ]
        refine wpAnyH_take (i := 28) (v := undef) rfl (by kernel_rfl) (by kernel_rfl) (by kernel_rfl) (fun _ _ _ h => h) (Or.inr ⟨by rfl, rfl⟩) (by assumption) ?_
        show wpAnyH _ _ _ _ _ _ _ (Act.put _ (some 77) _) _
        try simp only [Act.put, List.setIfInBounds_toArray, List.set_cons_zero, List.set_cons_succ]
        refine wpAnyH_take (i := 29) (v := undef) rfl (by kernel_rfl) (by kernel_rfl) (by kernel_rfl) (fun _ _ _ h => h) (Or.inr ⟨by rfl, rfl⟩) (by assumption) ?_
        show wpAnyH _ _ _ _ _ _ _ (Act.put _ (some 78) _) _
        try simp only [Act.put, List.setIfInBounds_toArray, List.set_cons_zero, List.set_cons_succ]
        refine wpAnyH_take (i := 30) (v := ?v30) rfl (by kernel_rfl) (by kernel_rfl) (by kernel_rfl) (fun _ _ _ h => h) (Or.inl ⟨by rfl, ?y30⟩) (by assumption) ?r30
        case y30 =>
          intro w hSw
          (try dsimp only at hSw)
          go_simp
          try with_reducible rfl
        show wpAnyH _ _ _ _ _ _ _ (Act.put _ (some 79) _) _
        try simp only [Act.put, List.setIfInBounds_toArray, List.set_cons_zero, List.set_cons_succ]
        refine wpAnyH_take (i := 31) (v := ?v31) rfl (by kernel_rfl) (by kernel_rfl) (by kernel_rfl) (fun _ _ _ h => h) (Or.inl ⟨by rfl, ?y31⟩) (by assumption) ?r31
        case y31 =>
          intro w hSw
          (try dsimp only at hSw)
          go_simp
          try with_reducible rfl
        show wpAnyH _ _ _ _ _ _ _ (Act.put _ (some 80) _) _
        try simp only [Act.put, List.setIfInBounds_toArray, List.set_cons_zero, List.set_cons_succ]
        refine wpAnyH_done (by kernel_rfl) ?_ _
        all_goals
          go_wp2_with fail
          go_roundw
          case rel => exact ⟨1, by omega, by have := HKI.out; rw [show ((1 : Nat) : Int) = KI + 1 by omega], l10⟩
          case measure => have := HKI.out; simp [intOf]; omega
      · obtain ⟨j, rfl⟩ : ∃ j, k = j + 1 := ⟨k - 1, by omega⟩
        obtain ⟨bm', o', e', _, _, c2⟩ := HRM.out.intU j (by omega)
        injection e' with e'
        injection e' with e1 e2
        subst e1 e2
        have hjz := HPW.out j (by omega) (by omega)
        rw [← hz] at hjz
        generalize m[j] = y at *
        clear hz HPW hk0
        have hd3 : decide ((0 : Int) < (((j + 1 : Nat) : Int))) = true := decide_eq_true (by omega)
        have hd4 : decide (z ≤ y) = false := decide_eq_false (by omega)
        obtain ⟨KI, hKI⟩ : ∃ KI : Int, KI = ((j + 1 : Nat) : Int) := ⟨_, rfl⟩
        have hKt : KI.toNat = j + 1 := by omega
        have hK0 : 0 ≤ KI := by omega
        have hKw : IntKind.i64.wrap (KI - 1) = (j : Int) := by rw [IntWalk.i64_in _ (by omega)]; omega
        have hKw2 : IntKind.i64.wrap (KI + 1) = KI + 1 := IntWalk.i64_in _ (by omega)
        have hjl : (j : Int) < (m.length : Int) := by omega
        rw [← hKI] at hki hki0 hd3 ⊢
        have HKI := Lib.hid hKI; clear hKI
        go_wp2_with fail
        go_region_held3 (fun W => Below w7.heap.size w7 W) (first | exact ld | exact l10 | exact l9) (first | (go_at_call 30; (with_reducible refine (HC2.out _ l9).mono ?_); rintro e w10 ⟨rfl, l10⟩) | (go_at_call 30; (with_reducible refine (HC1.out _ ld).mono ?_); rintro e w9 ⟨rfl, l9⟩))
        all_goals
          go_wp2_with fail
          go_roundw
          case rel => exact ⟨j + 1 + 1, by omega, by have := HKI.out; rw [show ((j + 1 + 1 : Nat) : Int) = KI + 1 by omega], l10⟩
          case measure => have := HKI.out; simp [intOf]; omega
    · have l8 := later_trans l7 lr
      have hw1 : IntKind.i64.wrap ((xs.length : Int) - (m.length : Int)) = (xs.length : Int) - (m.length : Int) := IntWalk.i64_in _ (by omega)
      have hw2 : IntKind.i64.wrap ((ys.length : Int) - (mn.length : Int)) = (ys.length : Int) - (mn.length : Int) := IntWalk.i64_in _ (by omega)
      have hee : (((xs.length : Int) - (m.length : Int)) == ((ys.length : Int) - (mn.length : Int))) = true := by have := HRST.out; simp; omega
      go_wp2_with fail
      refine (so_turned _ xs _ (HA.out.on l8) hx60).mono ?_
      rintro e w9 ⟨vt, rfl, ot, b9⟩
      have HT9 := Lib.hid ot.rd
      have l9 := later_trans l8 b9
      go_wp2_with fail
      refine (impl_MissingIds _ _ xs xs.reverse _ (HA.out.on l9) HT9.out).mono ?_
      rw [HTUR.out]
      rintro e w10 ⟨vq, rfl, oq, b10⟩
      obtain ⟨Aq, nq, cq, hvq, hnq, _, _, _⟩ := oq.rd
      subst hnq hvq
      have l10 := later_trans l9 b10
      go_wp2_with fail
      go_ret
      exact ⟨rfl, HWB.out.trans (l10.mono HWB.out.size)⟩

end Go.Proofs.Ytekjjgnokjhleaa
