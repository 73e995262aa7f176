/- FnRepair: the walk of the law. -/
import Derived.Test.YtekjjgnokjhleaaQ24
import Derived.Test.YtekjjgnokjhleaaQ32
import Derived.Test.YtekjjgnokjhleaaQ25
import Derived.Test.YtekjjgnokjhleaaQ33
import Derived.Test.YtekjjgnokjhleaaQ34
import Derived.Deep.RegionHeld3
namespace Go.Proofs.Ytekjjgnokjhleaa
open Go.RowKit

set_option maxRecDepth 100000 in
set_option maxHeartbeats 4000000 in
theorem walk_FnRepair (w : World) (v : Value) (bs : List UInt8) (hv : rd w w.heap.size v bs) :
    Calls Try.prog 7 #[v] w fun e w' => e = .returned (.bool true) ∧ Below w.heap.size w w' := by
  have hv0 := hv
  obtain ⟨A, n, c, rfl, hn, hc, hm, _⟩ := hv
  subst hn
  unfold maxLen at hm
  go_enter Try.func7, Try.ntmps7
  by_cases hsz : 1048576 < bs.length
  · go_wp2_with fail
    go_ret
    exact ⟨rfl, Below.refl _ _⟩
  go_wp2_with fail
  refine (draw_DrawRepairBins _ bs w hv0).mono ?_
  rintro e w1 ⟨vp, vb, p, xss, k, rfl, ov, ob, hk, hxl, hol, b1⟩
  have hvp := ov.rdp
  obtain ⟨A0, c0, e0⟩ := openP hvp
  obtain ⟨w0, hw0⟩ : ∃ w0, w0 = w1.alloc (Obj.cells #[.int .i64 p.bins, .int .i64 p.passes, .slice A0 p.order.length c0] 25) := ⟨_, rfl⟩
  have q0 := box_cells hw0 0 (.int .i64 p.bins) rfl
  have q1 := box_cells hw0 1 (.int .i64 p.passes) rfl
  have q2 := box_cells hw0 2 (.slice A0 p.order.length c0) rfl
  have HT := Lib.hid (box_later hw0).1
  have HP := Lib.hid (hvp.on HT.out)
  subst e0
  have HB := Lib.hid (ob.rd.on HT.out)
  have HWB : Hid (Below w.heap.size w w0) := b1.trans (HT.out.mono b1.size)
  have HW0 := Lib.hid hw0
  have l0 := Below.refl w0.heap.size w0
  clear hw0 hvp ov ob b1 HT hv0
  go_wp2_with fail
  rw [← HW0.out]
  refine (impl_RepairBins _ _ p xss k _ HP.out HB.out).mono ?_
  rintro e w2 ⟨vX, vO, vs, rfl, ox, oo, _, b2⟩
  have HX2 : Hid (rd w2 w2.heap.size vX (rbBins p xss k)) := ownLL.rd ⟨vs, ox⟩
  have HO2 : Hid (rd w2 w2.heap.size vO (rbRest p xss k)) := oo.rd
  have l2 := later_trans l0 b2
  clear ox oo b2 l0
  go_wp2_with fail
  refine (spec_RepairBins _ _ p xss k _ (HP.out.on l2) (HB.out.on l2) (by omega)).mono ?_
  rintro e w3 ⟨vY, vP, vt, rfl, oy, op, _, b3⟩
  have HX3 := Lib.hid (HX2.out.on b3)
  have HO3 := Lib.hid (HO2.out.on b3)
  have HY3 : Hid (rd w3 w3.heap.size vY (rbBins p xss k)) := ownLL.rd ⟨vt, oy⟩
  have HQ3 : Hid (rd w3 w3.heap.size vP (rbRest p xss k)) := op.rd
  have l3 := later_trans l2 b3
  clear oy op b3 l2 HX2 HO2
  go_wp2_with fail
  refine (so_bins _ _ _ _ HX3.out HY3.out).mono ?_
  rintro e w4 ⟨rfl, b4⟩
  have HX4 := Lib.hid (HX3.out.on b4)
  have HO4 := Lib.hid (HO3.out.on b4)
  have HY4 := Lib.hid (HY3.out.on b4)
  have HQ4 := Lib.hid (HQ3.out.on b4)
  have l4 := later_trans l3 b4
  clear b4 l3 HX3 HO3 HY3 HQ3
  go_wp2_with fail
  refine (so_batch _ _ _ _ HO4.out HQ4.out).mono ?_
  rintro e w5 ⟨rfl, b5⟩
  have HX5 := Lib.hid (HX4.out.on b5)
  have HO5 := Lib.hid (HO4.out.on b5)
  have HY5 := Lib.hid (HY4.out.on b5)
  have HQ5 := Lib.hid (HQ4.out.on b5)
  have l5 := later_trans l4 b5
  clear b5 l4 HX4 HO4 HY4 HQ4
  have htt : ((true : Bool) != true) = false := rfl
  have hff : ((false : Bool) != false) = false := rfl
  have hfe : ((false : Bool) == false) = true := rfl
  cases hok : binsOk p xss k
  · clear hok
    go_wp2_with fail
    refine (so_bins _ _ _ _ HX5.out HY5.out).mono ?_
    rintro e w6 ⟨rfl, b6⟩
    have HO6 := Lib.hid (HO5.out.on b6)
    have HQ6 := Lib.hid (HQ5.out.on b6)
    have l6 := later_trans l5 b6
    go_wp2_with fail
    refine (so_batch _ _ _ _ HO6.out HQ6.out).mono ?_
    rintro e w7 ⟨rfl, b7⟩
    have l7 := later_trans l6 b7
    go_wp2_with fail
    go_ret
    exact ⟨rfl, HWB.out.trans (l7.mono HWB.out.size)⟩
  have HOK := Lib.hid hok; clear hok HY5 HQ5

  obtain ⟨hpk, hbn, hbk⟩ := binsOk_iff.1 HOK.out
  have hpb := planOk_bins (passOk_iff.1 hpk).1
  have HPK := Lib.hid hpk
  have hxn : xss.length ≤ 16 := by omega
  have hfl60 := okB_len' hbk
  have HBK := Lib.hid hbk
  have HCO : Hid (collected xss = xss.flatten) := collected_yes (by unfold collectOk; rw [hbk, decide_eq_true (by omega)]; rfl)
  have HRX : Hid (rbBins p xss k = repBins (rbF p k) xss) := by show _ = _; unfold rbBins; rw [if_pos HOK.out]
  have HRR : Hid (rbRest p xss k = repRest (rbF p k) xss) := by show _ = _; unfold rbRest; rw [if_pos HOK.out]
  have HOX : Hid (binsOk p (repBins (rbF p k) xss) k = true) := binsOk_rep HOK.out
  have HRG : Hid (rightRows (rbF p k) (repBins (rbF p k) xss)) := rep_right _ _
  have HCX : Hid (collected (repBins (rbF p k) xss) = (repBins (rbF p k) xss).flatten) := collected_yes (by unfold collectOk; rw [okB_repBins _ _ hbk, repBins_len, decide_eq_true (by omega)]; rfl)
  have HAG : Hid (rbBins p (repBins (rbF p k) xss) k = repBins (rbF p k) xss ∧ rbRest p (repBins (rbF p k) xss) k = [] ∧ wrongL p (repBins (rbF p k) xss) k = []) := by
    refine ⟨?_, ?_, ?_⟩
    · unfold rbBins; rw [if_pos HOX.out]; exact (right_rep HRG.out).1
    · unfold rbRest; rw [if_pos HOX.out]; exact (right_rep HRG.out).2
    · rw [wrongL_yes HOX.out]; exact right_wrong HRG.out
  have HSM : Hid (sameL ((repBins (rbF p k) xss).flatten ++ repRest (rbF p k) xss) xss.flatten) := rep_same hbk fun x => by
    have := rbF_range hpb.1 k x
    rw [hbn]; omega
  have HWR : Hid (wrongL p xss k = wrongTo (rbF p k) xss xss.length) := wrongL_yes HOK.out
  have hXl : (repBins (rbF p k) xss).length = xss.length := repBins_len _ _
  have hXf : (repBins (rbF p k) xss).flatten.length ≤ 60 := Nat.le_trans (repBins_flat _ _) hfl60
  have hRf : (repRest (rbF p k) xss).length ≤ 60 := by
    have := HSM.out.2
    rw [List.length_append] at this
    omega
  rw [HRX.out] at HX5
  rw [HRR.out] at HO5
  have HBN := Lib.hid hbn
  have HAT : Hid (∀ (j i : Nat) (hj : j < xss.length) (hi : i < xss[j].length) (hf : rbF p k xss[j][i] = (j : Int)) (hr : j < (repBins (rbF p k) xss).length), ∃ h : (kpRow (rbF p k) j (xss[j].take i)).length < (repBins (rbF p k) xss)[j].length, (repBins (rbF p k) xss)[j][(kpRow (rbF p k) j (xss[j].take i)).length] = xss[j][i]) := fun j i hj hi hf hr => rep_at hj hi hf hr
  have HWI : Hid (∀ (j : Nat) (hj : j < xss.length) (x : Ltr) (hx : x ∈ xss[j]), x.id ∈ wrongL p xss k ↔ rbF p k x ≠ (j : Int)) := fun j hj x hx => by rw [HWR.out]; exact wrong_iff hbk hj hx
  clear hpk hbn hbk HRX HRR
  generalize repBins (rbF p k) xss = X at *
  generalize repRest (rbF p k) xss = R at *
  go_wp2_with fail
  refine (impl_CollectBins _ xss _ (HB.out.on l5)).mono ?_
  rw [HCO.out]
  rintro e w6 ⟨vBe, rfl, oBe, b6⟩
  have HBE6 : Hid (rd w6 w6.heap.size vBe xss.flatten) := oBe.rd
  have HX6 := Lib.hid (HX5.out.on b6)
  have HO6 := Lib.hid (HO5.out.on b6)
  have l6 := later_trans l5 b6
  clear oBe b6 l5 HX5 HO5
  go_wp2_with fail
  refine (impl_CollectBins _ X _ HX6.out).mono ?_
  rw [HCX.out]
  rintro e w7 ⟨vAf, rfl, oAf, b7⟩
  have HAF7 : Hid (rd w7 w7.heap.size vAf X.flatten) := oAf.rd
  have HBE7 := Lib.hid (HBE6.out.on b7)
  have HX7 := Lib.hid (HX6.out.on b7)
  have HO7 := Lib.hid (HO6.out.on b7)
  have l7 := later_trans l6 b7
  clear oAf b7 l6 HX6 HO6 HBE6
  go_wp2_with fail
  refine (impl_WrongLetters _ _ p xss k _ (HP.out.on l7) (HB.out.on l7)).mono ?_
  rintro e w8 ⟨vW, rfl, oW, b8⟩
  have HW8 : Hid (rd w8 w8.heap.size vW (wrongL p xss k)) := oW.rd
  have HAF8 := Lib.hid (HAF7.out.on b8)
  have HBE8 := Lib.hid (HBE7.out.on b8)
  have HX8 := Lib.hid (HX7.out.on b8)
  have HO8 := Lib.hid (HO7.out.on b8)
  have l8 := later_trans l7 b8
  clear oW b8 l7 HX7 HO7 HBE7 HAF7
  generalize wrongL p xss k = WR at *
  have hvb := HB.out
  obtain ⟨Ab, nb, cb, hvb, hnb, _, hmb, hrb⟩ := hvb
  subst hnb hvb
  have HRB := Lib.hid hrb; clear hrb
  have hvx := HX8.out
  obtain ⟨Ax, nx, cx, hvx, hnx, _, hmx, hrx⟩ := hvx
  subst hnx hvx
  have HRXX := Lib.hid hrx; clear hrx
  unfold maxLen at hmb hmx
  have bq0 : ∀ W, Below w8.heap.size w8 W → W.cell? ⟨w1.heap.size, 0, none⟩ = some (.int .i64 p.bins) := fun W h => q0 W (later_trans l8 h)
  have bq1 : ∀ W, Below w8.heap.size w8 W → W.cell? ⟨w1.heap.size, 1, none⟩ = some (.int .i64 p.passes) := fun W h => q1 W (later_trans l8 h)
  have bq2 : ∀ W, Below w8.heap.size w8 W → W.cell? ⟨w1.heap.size, 2, none⟩ = some (.slice A0 p.order.length c0) := fun W h => q2 W (later_trans l8 h)
  have L8 := Lib.hid l8
  clear q0 q1 q2 l8
  have hXL := Lib.hid hXl; clear hXl
  go_wp2_with fail
  go_loopw [17] (fun i wr => ∃ j : Nat, j ≤ xss.length ∧ i = .int .i64 j ∧ Below w8.heap.size w8 wr) (fun i _ => xss.length - (intOf i).toNat)
  case atStart => exact ⟨0, Nat.zero_le _, rfl, Below.refl _ _⟩
  case round =>
    obtain ⟨j, hj, rfl, lj⟩ := hrel
    obtain ⟨w9, rfl⟩ : ∃ w9 : World, w9 = wr := ⟨_, rfl⟩
    by_cases hlt : j < xss.length
    · obtain ⟨bx, o, vr, rfl, hbx, hu, c1⟩ := HRB.out.rowU j hlt
      have hjX : j < X.length := by have := hXL.out; omega
      obtain ⟨by_, oy, vr', rfl, hby, hu', c1'⟩ := HRXX.out.rowU j hjX
      obtain ⟨Ar, nr, cr, hvr, hnr, _, hmr, hrr⟩ := hu
      subst hnr hvr
      have HRR := Lib.hid hrr; clear hrr
      obtain ⟨Ar', nr', cr', hvr', hnr', _, hmr', hrr'⟩ := hu'
      subst hnr' hvr'
      have HRR' := Lib.hid hrr'; clear hrr'
      unfold maxLen at hmr hmr'
      have HAJ : Hid (∀ (i : Nat) (hi : i < xss[j].length) (hf : rbF p k xss[j][i] = (j : Int)), ∃ h : (kpRow (rbF p k) j (xss[j].take i)).length < X[j].length, X[j][(kpRow (rbF p k) j (xss[j].take i)).length] = xss[j][i]) := fun i hi hf => HAT.out j i hlt hi hf hjX
      have HWJ : Hid (∀ x ∈ xss[j], x.id ∈ WR ↔ rbF p k x ≠ (j : Int)) := fun x hx => HWI.out j hlt x hx
      have hyl := row_le_flat hlt
      have hji : (j : Int) < (xss.length : Int) := by omega
      have hjXi : (j : Int) < (X.length : Int) := by omega
      generalize xss[j] = Y at *
      generalize X[j] = Z at *
      have d1 : ∀ W, Below w8.heap.size w8 W → W.cell? ⟨bx, o + j, none⟩ = some (.slice Ar Y.length cr) := fun W h => c1 W (later_trans L8.out h)
      have d2 : ∀ W, Below w8.heap.size w8 W → W.cell? ⟨by_, oy + j, none⟩ = some (.slice Ar' Z.length cr') := fun W h => c1' W h
      clear c1 c1'
      go_wp2_with fail
      go_loopw [18, 19] (fun t i wr => ∃ n : Nat, n ≤ Y.length ∧ i = .int .i64 n ∧ t = .int .i64 ((kpRow (rbF p k) j (Y.take n)).length : Nat) ∧ Below w8.heap.size w8 wr) (fun _ i _ => Y.length - (intOf i).toNat)
      case atStart => exact ⟨0, Nat.zero_le _, rfl, rfl, lj⟩
      case round =>
        obtain ⟨n, hn, rfl, rfl, ln⟩ := hrel
        obtain ⟨w10, rfl⟩ : ∃ w10 : World, w10 = wr := ⟨_, rfl⟩
        clear lj
        have hq := kpRow_len (rbF p k) j (Y.take n)
        rw [List.length_take] at hq
        have hq2 : (kpRow (rbF p k) j (Y.take n)).length ≤ 60 := by omega
        clear hq
        by_cases hnl : n < Y.length
        · obtain ⟨bz, oz, rfl, hbz, _, g1, g2⟩ := HRR.out.ltrU n hnl
          have HWN : Hid (Y[n].id ∈ WR ↔ rbF p k Y[n] ≠ (j : Int)) := HWJ.out _ (List.getElem_mem hnl)
          have HHIT : Hid (∀ h : rbF p k Y[n] = (j : Int), kpRow (rbF p k) j (Y.take (n + 1)) = kpRow (rbF p k) j (Y.take n) ++ [Y[n]]) := fun h => kpRow_hit hnl h
          have HMISS : Hid (∀ h : rbF p k Y[n] ≠ (j : Int), kpRow (rbF p k) j (Y.take (n + 1)) = kpRow (rbF p k) j (Y.take n)) := fun h => kpRow_miss hnl h
          have HAN : Hid (∀ h : rbF p k Y[n] = (j : Int), ∃ h : (kpRow (rbF p k) j (Y.take n)).length < Z.length, Z[(kpRow (rbF p k) j (Y.take n)).length] = Y[n]) := fun h => HAJ.out n hnl h
          have hni : (n : Int) < (Y.length : Int) := by omega
          have e0 := d1 _ ln
          have e1 := g1 _ (later_trans L8.out ln)
          generalize hQ : (kpRow (rbF p k) j (Y.take n)).length = q at *
          go_wp2_with fail
          clear e0 e1
          by_cases hf : rbF p k Y[n] = (j : Int)
          · have HDC : Hid (decide (Y[n].id ∈ WR) = false) := decide_eq_false fun h => HWN.out.1 h hf
            obtain ⟨hqz, hqe⟩ := HAN.out hf
            have HNX : Hid ((kpRow (rbF p k) j (Y.take (n + 1))).length = q + 1) := by show _ = _; rw [HHIT.out hf, List.length_append, hQ]; rfl
            obtain ⟨bz', oz', ez, hbz', _, h1, h2⟩ := HRR'.out.ltrU q hqz
            rw [hqe] at h1 h2
            clear hf hQ HWN HHIT HMISS HAN hqe
            generalize Y[n] = y at *
            subst ez
            refine (so_number _ WR y.id _ (HW8.out.on ln)).mono ?_
            rw [HDC.out]
            rintro e w11 ⟨rfl, b11⟩
            have l11 := later_trans ln b11
            have e0 := d1 _ l11
            have e1 := d2 _ l11
            have e2 := g1 _ (later_trans L8.out l11)
            have e3 := g2 _ (later_trans L8.out l11)
            have e4 := h1 _ l11
            have e5 := h2 _ l11
            have hqi : (q : Int) < (Z.length : Int) := by omega
            have hge : decide ((Z.length : Int) ≤ (q : Int)) = false := decide_eq_false (by omega)
            have r1 := ltr_neq y.id y.id y.code y.code
            have r2 := ltr_guard
            have r3 : ltrEq ⟨y.id, y.code⟩ ⟨y.id, y.code⟩ = true := (ltrEq_iff _ _).2 rfl
            clear d1 d2 g1 g2 h1 h2 ln b11
            go_wp2
            go_quiet (fail)
            go_wp2
            go_roundw
            case rel => exact ⟨n + 1, by omega, by go_num, by rw [HNX.out]; go_num, below_drewN l11 _⟩
            case measure => simp [intOf]; omega
          · have HDC : Hid (decide (Y[n].id ∈ WR) = true) := decide_eq_true (HWN.out.2 hf)
            have HNX : Hid ((kpRow (rbF p k) j (Y.take (n + 1))).length = q) := by show _ = _; rw [HMISS.out hf, hQ]
            clear hf hQ HWN HHIT HMISS HAN
            generalize Y[n] = y at *
            refine (so_number _ WR y.id _ (HW8.out.on ln)).mono ?_
            rw [HDC.out]
            rintro e w11 ⟨rfl, b11⟩
            have l11 := later_trans ln b11
            clear d1 d2 g1 g2 ln b11
            go_wp2_with fail
            go_roundw
            case rel => exact ⟨n + 1, by omega, by go_num, by rw [HNX.out], l11⟩
            case measure => simp [intOf]; omega
        · have e0 := d1 _ ln
          go_wp2_with fail
          go_roundw
          case rel => exact ⟨j + 1, by omega, by go_num, ln⟩
          case measure => simp [intOf]; omega
    · clear hj
      go_wp2_with fail
      refine (impl_RepairBins _ _ p X k _ (HP.out.on (later_trans L8.out lj)) (HX8.out.on lj)).mono ?_
      rw [HOX.out, HAG.out.1, HAG.out.2.1]
      rintro e w10 ⟨vX2, vO2, vs2, rfl, ox2, oo2, _, b10⟩
      have HA10 : Hid (rd w10 w10.heap.size vX2 X) := ownLL.rd ⟨vs2, ox2⟩
      obtain ⟨Ao, no, co, hvo, hno, _, _, _⟩ := oo2.rd
      subst hno hvo
      have l10 := later_trans lj b10
      clear ox2 oo2 b10 lj
      have c0' := bq0 _ l10
      have c1' := bq1 _ l10
      have c2' := bq2 _ l10
      go_wp2_with fail
      refine (impl_WrongLetters _ _ p X k _ (HP.out.on (later_trans L8.out l10)) (HX8.out.on l10)).mono ?_
      rw [HAG.out.2.2]
      rintro e w11 ⟨vW2, rfl, oW2, b11⟩
      obtain ⟨Aw, nw, cw, hvw, hnw, _, _, _⟩ := oW2.rd
      subst hnw hvw
      have l11 := later_trans l10 b11
      have HA11 := Lib.hid (HA10.out.on b11)
      clear oW2 b11 l10 HA10 c0' c1' c2'
      obtain ⟨i0, hi, hz0, hz1, hz2⟩ := info_parts Try.infoLtr
      have oE := own.made0 (α := Ltr) w11 44 (Nat.le_refl _)
      have hB12 : Below w11.heap.size w11 (w11.alloc (Obj.cells #[] 44)) := (Below.refl _ _).alloc (Nat.le_refl _) _
      have hz12 : w11.heap.size ≤ (w11.alloc (Obj.cells #[] 44)).heap.size := by simp
      have HAFE : Hid (rd (w11.alloc (Obj.cells #[] 44)) (w11.alloc (Obj.cells #[] 44)).heap.size vAf X.flatten) := (HAF8.out.on l11).on hB12
      have HO11 := Lib.hid (HO8.out.on l11)
      go_wp2_with (first | (at_builtin; refine wpList_appendAllG (α := Ltr) (by rfl) (.tmp 161) (.tmp 162) _ rfl w11.heap.size 44 i0 _ 24 Try.underlying34 hi hz0 hz1 hz2 rfl (by decide) (.slice (some ⟨w11.heap.size, 0, none⟩) 0 0) [] rfl oE _ X.flatten rfl _ HAFE.out (by unfold maxLen; simp only [List.length_nil]; omega) (by simp only [List.length_nil]; omega) hz12 ?_; intro v13 w13 o13 hg13 _; have l13 : Below w11.heap.size w11 w13 := hB12.trans (below_append oE hg13 hz12); rw [List.nil_append] at o13; have hz13 := l13.size; have HO13 := Lib.hid (HO11.out.on l13); clear hg13 oE hB12 hz12) | (at_builtin; refine wpList_appendAllG (α := Ltr) (by rfl) (.tmp 163) (.tmp 164) _ rfl w11.heap.size 44 i0 _ 24 Try.underlying34 hi hz0 hz1 hz2 rfl (by decide) v13 X.flatten rfl o13 _ R rfl _ HO13.out (by unfold maxLen; omega) (by omega) hz13 ?_; intro v14 w14 o14 hg14 _; have l14 : Below w11.heap.size w11 w14 := l13.trans (below_append o13 hg14 hz13); clear hg14 o13))
      have l14' := later_trans l11 l14
      refine (so_all _ _ _ xss.flatten _ o14.rd (HBE8.out.on l14') HBK.out HSM.out).mono ?_
      rintro e w15 ⟨rfl, b15⟩
      have l15 := later_trans l14' b15
      have HA15 := Lib.hid ((HA11.out.on l14).on b15)
      clear l14' b15
      go_wp2_with fail
      refine (so_bins _ _ X _ HA15.out (HX8.out.on l15)).mono ?_
      rintro e w16 ⟨rfl, b16⟩
      have l16 := later_trans l15 b16
      go_wp2_with fail
      go_ret
      exact ⟨rfl, HWB.out.trans ((later_trans L8.out l16).mono HWB.out.size)⟩

end Go.Proofs.Ytekjjgnokjhleaa
