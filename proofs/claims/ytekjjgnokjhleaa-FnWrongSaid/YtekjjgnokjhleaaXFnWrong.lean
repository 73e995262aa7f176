/- FnWrong: the walk of the law. -/
import Derived.Test.YtekjjgnokjhleaaQ24
import Derived.Test.YtekjjgnokjhleaaQ29
import Derived.Test.YtekjjgnokjhleaaQ25
import Derived.Test.YtekjjgnokjhleaaQ30
import Derived.Deep.RegionHeld3
namespace Go.Proofs.Ytekjjgnokjhleaa
open Go.RowKit

set_option maxRecDepth 100000 in
set_option maxHeartbeats 2000000 in
theorem walk_FnWrong (w : World) (v : Value) (bs : List UInt8) (hv : rd w w.heap.size v bs) :
    Calls Try.prog 5 #[v] w fun e w' => e = .returned (.bool true) ∧ Below w.heap.size w w' := by
  have hv0 := hv
  obtain ⟨A, n, c, rfl, hn, hc, hm, _⟩ := hv
  subst hn
  unfold maxLen at hm
  go_enter Try.func5, Try.ntmps5
  by_cases hsz : 1048576 < bs.length
  · go_wp2_with fail
    go_ret
    exact ⟨rfl, Below.refl _ _⟩
  go_wp2_with fail
  refine (draw_DrawFaultyPass _ bs w hv0).mono ?_
  rintro e w1 ⟨vp, vb, vm, p, xs, k, ms, rfl, ov, ob, om, hk, hxl, hml, hol, b1⟩
  have hvp := ov.rdp
  obtain ⟨A0, c0, e0⟩ := openP hvp
  obtain ⟨w0, hw0⟩ : ∃ w0, w0 = w1.alloc (Obj.cells #[.int .i64 p.bins, .int .i64 p.passes, .slice A0 p.order.length c0] 25) := ⟨_, rfl⟩
  have q0 := box_cells hw0 0 (.int .i64 p.bins) rfl
  have q1 := box_cells hw0 1 (.int .i64 p.passes) rfl
  have q2 := box_cells hw0 2 (.slice A0 p.order.length c0) rfl
  have HT := Lib.hid (box_later hw0).1
  have HP := Lib.hid (hvp.on HT.out)
  subst e0
  have HB := Lib.hid (ob.rd.on HT.out)
  have HM := Lib.hid (om.rd.on HT.out)
  have HWB : Hid (Below w.heap.size w w0) := b1.trans (HT.out.mono b1.size)
  have HW0 := Lib.hid hw0
  have l0 := Below.refl w0.heap.size w0
  clear hw0 hvp ov ob om b1 HT hv0
  go_wp2_with fail
  rw [← HW0.out]
  refine (impl_FaultyPass _ _ _ p xs k ms _ HP.out HB.out HM.out).mono ?_
  rintro e w2 ⟨vX, vO, vs, rfl, ox, oo, _, b2⟩
  have HX2 : Hid (rd w2 w2.heap.size vX (fpBins p xs k ms)) := ownLL.rd ⟨vs, ox⟩
  have HO2 : Hid (rd w2 w2.heap.size vO (fpRest p xs k ms)) := oo.rd
  have l2 := later_trans l0 b2
  clear ox oo b2 l0
  go_wp2_with fail
  refine (spec_FaultyPass _ _ _ p xs k ms _ (HP.out.on l2) (HB.out.on l2) (HM.out.on l2)).mono ?_
  rintro e w3 ⟨vY, vP, vt, rfl, oy, op, _, b3⟩
  have HX3 := Lib.hid (HX2.out.on b3)
  have HO3 := Lib.hid (HO2.out.on b3)
  have HY3 : Hid (rd w3 w3.heap.size vY (fpBins p xs k ms)) := ownLL.rd ⟨vt, oy⟩
  have HQ3 : Hid (rd w3 w3.heap.size vP (fpRest p xs k ms)) := op.rd
  have l3 := later_trans l2 b3
  clear oy op b3 l2 HX2 HO2
  have htt : ((true : Bool) != true) = false := rfl
  have hff : ((false : Bool) != false) = false := rfl
  have hfe : ((false : Bool) == false) = true := rfl
  cases hok : fpOk p xs k ms
  · clear hok
    go_wp2_with fail
    go_ret
    exact ⟨rfl, HWB.out.trans (l3.mono HWB.out.size)⟩
  have HOK := Lib.hid hok; clear hok

  clear HO3 HY3 HQ3
  have HOB := Lib.hid (fpOk_iff.1 HOK.out).2.1
  have HPK : Hid (passOk p k = true) := passOk_iff.2 (fpOk_iff.1 HOK.out).1
  have hXl := (fpBins_len p xs k ms).2
  have HWI : Hid (∀ n, n ∈ wrongL p (fpBins p xs k ms) k ↔ n ∈ (ms.filter (missedM p xs k)).map Mis.id) := missed_iff HOK.out
  have HWL : Hid ((ms.filter (missedM p xs k)).length = (wrongL p (fpBins p xs k ms) k).length) := missed_len HOK.out
  generalize fpBins p xs k ms = X at *
  go_wp2_with fail
  refine (impl_WrongLetters _ _ p X k _ (HP.out.on l3) HX3.out).mono ?_
  rintro e w4 ⟨vW, rfl, oW, b4⟩
  have HW4 : Hid (rd w4 w4.heap.size vW (wrongL p X k)) := oW.rd
  have HX4 := Lib.hid (HX3.out.on b4)
  have l4 := later_trans l3 b4
  clear oW b4 l3 HX3
  go_wp2_with fail
  refine (spec_WrongLetters _ _ p X k _ (HP.out.on l4) HX4.out (by omega)).mono ?_
  rintro e w5 ⟨vZ, rfl, oZ, b5⟩
  have HZ5 : Hid (rd w5 w5.heap.size vZ (wrongL p X k)) := oZ.rd
  have HW5 := Lib.hid (HW4.out.on b5)
  have l5 := later_trans l4 b5
  clear oZ b5 l4 HX4 HW4
  generalize wrongL p X k = W at *
  go_wp2_with fail
  refine (so_ints _ _ W _ HW5.out HZ5.out).mono ?_
  rintro e w6 ⟨rfl, b6⟩
  have HW6 := Lib.hid (HW5.out.on b6)
  have l6 := later_trans l5 b6
  clear b6 l5 HW5 HZ5
  have hvm := HM.out
  obtain ⟨Am, nm, cm, hvm, hnm, _, hmm, hrm⟩ := hvm
  subst hnm hvm
  have HRM := Lib.hid hrm; clear hrm
  have hvb := HB.out
  obtain ⟨Ab, nb, cb, hvb, hnb, _, hmb, hrb⟩ := hvb
  subst hnb hvb
  have HRB := Lib.hid hrb; clear hrb
  have hvw := HW6.out
  obtain ⟨Aw, nw, cw, hvw, hnw, _, hmw, hrw⟩ := hvw
  subst hnw hvw
  clear hrw
  unfold maxLen at hmm hmb hmw
  go_wp2_with fail
  go_loopw [14, 15] (fun t i wr => ∃ j n : Nat, j ≤ ms.length ∧ i = .int .i64 j ∧ t = .int .i64 n ∧ n ≤ j ∧ Hid (n = ((ms.take j).filter (missedM p xs k)).length) ∧ Below w6.heap.size w6 wr) (fun _ i _ => ms.length - (intOf i).toNat)
  case atStart => exact ⟨0, 0, Nat.zero_le _, rfl, rfl, Nat.le_refl _, rfl, Below.refl _ _⟩
  case round =>
    obtain ⟨j, n, hj, rfl, rfl, hnj, HN, bb⟩ := hrel
    obtain ⟨w7, rfl⟩ : ∃ w7 : World, w7 = wr := ⟨_, rfl⟩
    have l7 := later_trans l6 bb
    by_cases hlt : j < ms.length
    · have u0 : ∀ W, Below w6.heap.size w6 W → W.cell? ⟨w1.heap.size, 0, none⟩ = some (.int .i64 p.bins) := fun W h => q0 W (later_trans l6 h)
      have u1 : ∀ W, Below w6.heap.size w6 W → W.cell? ⟨w1.heap.size, 1, none⟩ = some (.int .i64 p.passes) := fun W h => q1 W (later_trans l6 h)
      have u2 : ∀ W, Below w6.heap.size w6 W → W.cell? ⟨w1.heap.size, 2, none⟩ = some (.slice A0 p.order.length c0) := fun W h => q2 W (later_trans l6 h)
      have Q0 := Lib.hid q0; have Q1 := Lib.hid q1; have Q2 := Lib.hid q2
      have L6 := Lib.hid l6
      obtain ⟨bx, o, rfl, hbx, _, c1, c2⟩ := HRM.out.misU j hlt
      have v1 : ∀ W, Below w6.heap.size w6 W → W.cell? ⟨bx, o + j * 2, none⟩ = some (.int .i64 ms[j].id) := fun W h => c1 W (later_trans l6 h)
      have v2 : ∀ W, Below w6.heap.size w6 W → W.cell? ⟨bx, o + j * 2 + 1, none⟩ = some (.int .i64 ms[j].bin) := fun W h => c2 W (later_trans l6 h)
      have HNY : Hid (∀ h : missedM p xs k ms[j] = true, n + 1 = ((ms.take (j + 1)).filter (missedM p xs k)).length) := fun h => by
        rw [List.take_succ_eq_append_getElem hlt, List.filter_append, List.length_append, ← HN.out]
        simp [h]
      have HNN : Hid (∀ h : missedM p xs k ms[j] = false, n = ((ms.take (j + 1)).filter (missedM p xs k)).length) := fun h => by
        rw [List.take_succ_eq_append_getElem hlt, List.filter_append, List.length_append, ← HN.out]
        simp [h]
      have HMW : Hid (∀ h : missedM p xs k ms[j] = true, decide (ms[j].id ∈ W) = true) := fun h => decide_eq_true ((HWI.out _).2 (List.mem_map.2 ⟨_, List.mem_filter.2 ⟨List.getElem_mem hlt, h⟩, rfl⟩))
      have HMA : Hid (∀ (i : Nat) (hi : i < xs.length) (e : xs[i].id = ms[j].id), missedM p xs k ms[j] = (binI p xs[i].code k.toNat != ms[j].bin)) := fun i hi e => missedM_at HOB.out hi e
      have HMN : Hid (∀ h : ∀ x ∈ xs, x.id ≠ ms[j].id, missedM p xs k ms[j] = false) := fun h => missedM_none h
      generalize ms[j] = m at *
      have hki : (j : Int) < (ms.length : Int) := by omega
      have hnw : IntKind.i64.wrap ((n : Int) + 1) = (n : Int) + 1 := IntWalk.i64_in _ (by omega)
      clear q0 q1 q2 c1 c2 l6
      go_wp2_with fail
      refine (so_place _ xs m.id _ (HB.out.on l7)).mono ?_
      rcases findI_cases HOB.out m.id with ⟨hf, hno⟩ | ⟨i, hi, hf, he⟩
      · rw [hf]
        rintro e w8 ⟨rfl, b8⟩
        have b8' := later_trans bb b8
        have HN2 := Lib.hid (HNN.out (HMN.out hno))
        have hd : decide ((0 : Int) ≤ -1) = false := rfl
        clear hf hno b8 bb l7
        go_wp2
        go_quiet (fail)
        go_wp2
        go_roundw
        case rel => exact ⟨j + 1, n, by omega, by go_num, rfl, by omega, HN2.out, below_drewN b8' _⟩
        case measure => simp [intOf]; omega
      · rw [hf]
        rintro e w8 ⟨rfl, b8⟩
        have b8' := later_trans bb b8
        obtain ⟨by_, oy, ey, _, _, _, d2⟩ := HRB.out.ltrU i hi
        have HMB := Lib.hid (HMA.out i hi he)
        have V1 := Lib.hid v1
        clear hf he b8 bb l7 v1
        have v3 : ∀ W, Below w6.heap.size w6 W → W.cell? ⟨by_, oy + i * 2 + 1, none⟩ = some (.string xs[i].code) := fun W h => d2 W (later_trans L6.out h)
        clear d2
        generalize xs[i] = x at *
        subst ey
        have hii : (i : Int) < (xs.length : Int) := by omega
        have hd : decide ((0 : Int) ≤ (i : Int)) = true := decide_eq_true (by omega)
        obtain ⟨z, hz⟩ : ∃ z, z = binI p x.code k.toNat := ⟨_, rfl⟩
        rw [← hz] at HMB
        have HC : Hid (∀ W, Below w6.heap.size w6 W → Calls Try.prog 25 #[.agg #[.int .i64 p.bins, .int .i64 p.passes, .slice A0 p.order.length c0], .string x.code, .int .i64 k] W fun e W' => e = .returned (.int .i64 z) ∧ Below w6.heap.size w6 W') := fun W l => by
          refine (impl_PlanBin _ p x.code k W (HP.out.on (later_trans L6.out l)) HPK.out).mono ?_
          rintro e W' ⟨rfl, b⟩
          exact ⟨by rw [hz], later_trans l b⟩
        clear hz
        have ld := later_drew b8'
        have hi0 : (0 : Int) ≤ (i : Int) := by omega
        by_cases hzm : z = m.bin
        · have hzb : (z != m.bin) = false := by simp [hzm]
          have HN2 := Lib.hid (HNN.out (HMB.out.trans hzb))
          clear hzm
          go_wp2_with fail
          go_region_held3 (fun W => Below w6.heap.size w6 W) (first | exact ld | exact l9) (first | (go_at_call 25; (with_reducible refine (HC.out _ ld).mono ?_); rintro e w9 ⟨rfl, l9⟩))
          all_goals
            go_wp2_with fail
            go_roundw
            case rel => exact ⟨j + 1, n, by omega, by go_num, rfl, by omega, HN2.out, l9⟩
            case measure => simp [intOf]; omega
        · have hzb : (z != m.bin) = true := by simp [hzm]
          have HN2 := Lib.hid (HNY.out (HMB.out.trans hzb))
          have HMW2 := Lib.hid (HMW.out (HMB.out.trans hzb))
          clear hzm
          go_wp2_with fail
          go_region_held3 (fun W => Below w6.heap.size w6 W) (first | exact ld | exact l9) (first | (go_at_call 25; (with_reducible refine (HC.out _ ld).mono ?_); rintro e w9 ⟨rfl, l9⟩))
          all_goals
            have v1 : w9.cell? ⟨bx, o + j * 2, none⟩ = some (.int .i64 m.id) := V1.out w9 l9
            go_wp2_with fail
            refine (so_number _ W m.id _ (HW6.out.on l9)).mono ?_
            rw [HMW2.out]
            rintro e w10 ⟨rfl, b10⟩
            have l10 := later_trans l9 b10
            clear l9 b10
            go_wp2_with fail
            go_roundw
            case rel => exact ⟨j + 1, n + 1, by omega, by go_num, by go_num, by omega, HN2.out, l10⟩
            case measure => simp [intOf]; omega
    · have HE : Hid (((n : Int) == (W.length : Int)) = true) := by
        have e : j = ms.length := by omega
        have h := HN.out
        rw [e, List.take_of_length_le (Nat.le_refl _), HWL.out] at h
        show _ = _
        rw [h]; simp
      have he := HE.out
      go_wp2_with fail
      go_ret
      exact ⟨rfl, HWB.out.trans (l7.mono HWB.out.size)⟩

end Go.Proofs.Ytekjjgnokjhleaa
