/- FnFaultyPass: the walk of the law. -/
import Derived.Test.YtekjjgnokjhleaaQ24
import Derived.Test.YtekjjgnokjhleaaQ29
import Derived.Test.YtekjjgnokjhleaaQ30
import Derived.Deep.RegionHeld3
namespace Go.Proofs.Ytekjjgnokjhleaa
open Go.RowKit

set_option maxRecDepth 100000 in
set_option maxHeartbeats 4000000 in
theorem walk_FnFaultyPass (w : World) (v : Value) (bs : List UInt8) (hv : rd w w.heap.size v bs) :
    Calls Try.prog 4 #[v] w fun e w' => e = .returned (.bool true) ∧ Below w.heap.size w w' := by
  have hv0 := hv
  obtain ⟨A, n, c, rfl, hn, hc, hm, _⟩ := hv
  subst hn
  unfold maxLen at hm
  go_enter Try.func4, Try.ntmps4
  by_cases hsz : 1048576 < bs.length
  · go_wp2_with fail
    go_ret
    exact ⟨rfl, Below.refl _ _⟩
  go_wp2_with fail
  refine (draw_DrawFaultyPass _ bs w hv0).mono ?_
  rintro e w1 ⟨vp, vb, vm, p, xs, k, ms, rfl, ov, ob, om, hk, hxl, hml, hol, b1⟩
  have hvp := ov.rdp
  obtain ⟨A0, c0, e0⟩ := openP hvp
  obtain ⟨w0, hw0⟩ : ∃ w0, w0 = w1.alloc (Obj.cells #[.int .i64 p.bins, .int .i64 p.passes, .slice A0 p.order.length c0] 25) := ⟨_, rfl⟩
  have q0 := box_cells hw0 0 (.int .i64 p.bins) rfl
  have q1 := box_cells hw0 1 (.int .i64 p.passes) rfl
  have q2 := box_cells hw0 2 (.slice A0 p.order.length c0) rfl
  have HT := Lib.hid (box_later hw0).1
  have HP := Lib.hid (hvp.on HT.out)
  subst e0
  have HB := Lib.hid (ob.rd.on HT.out)
  have HM := Lib.hid (om.rd.on HT.out)
  have HWB : Hid (Below w.heap.size w w0) := b1.trans (HT.out.mono b1.size)
  have HW0 := Lib.hid hw0
  have l0 := Below.refl w0.heap.size w0
  clear hw0 hvp ov ob om b1 HT hv0
  go_wp2_with fail
  rw [← HW0.out]
  refine (impl_FaultyPass _ _ _ p xs k ms _ HP.out HB.out HM.out).mono ?_
  rintro e w2 ⟨vX, vO, vs, rfl, ox, oo, _, b2⟩
  have HX2 : Hid (rd w2 w2.heap.size vX (fpBins p xs k ms)) := ownLL.rd ⟨vs, ox⟩
  have HO2 : Hid (rd w2 w2.heap.size vO (fpRest p xs k ms)) := oo.rd
  have l2 := later_trans l0 b2
  clear ox oo b2 l0
  go_wp2_with fail
  refine (spec_FaultyPass _ _ _ p xs k ms _ (HP.out.on l2) (HB.out.on l2) (HM.out.on l2)).mono ?_
  rintro e w3 ⟨vY, vP, vt, rfl, oy, op, _, b3⟩
  have HX3 := Lib.hid (HX2.out.on b3)
  have HO3 := Lib.hid (HO2.out.on b3)
  have HY3 : Hid (rd w3 w3.heap.size vY (fpBins p xs k ms)) := ownLL.rd ⟨vt, oy⟩
  have HQ3 : Hid (rd w3 w3.heap.size vP (fpRest p xs k ms)) := op.rd
  have l3 := later_trans l2 b3
  clear oy op b3 l2 HX2 HO2
  go_wp2_with fail
  refine (so_bins _ _ _ _ HX3.out HY3.out).mono ?_
  rintro e w4 ⟨rfl, b4⟩
  have HX4 := Lib.hid (HX3.out.on b4)
  have HO4 := Lib.hid (HO3.out.on b4)
  have HY4 := Lib.hid (HY3.out.on b4)
  have HQ4 := Lib.hid (HQ3.out.on b4)
  have l4 := later_trans l3 b4
  clear b4 l3 HX3 HO3 HY3 HQ3
  go_wp2_with fail
  refine (so_batch _ _ _ _ HO4.out HQ4.out).mono ?_
  rintro e w5 ⟨rfl, b5⟩
  have HX5 := Lib.hid (HX4.out.on b5)
  have HO5 := Lib.hid (HO4.out.on b5)
  have HY5 := Lib.hid (HY4.out.on b5)
  have HQ5 := Lib.hid (HQ4.out.on b5)
  have l5 := later_trans l4 b5
  clear b5 l4 HX4 HO4 HY4 HQ4
  have htt : ((true : Bool) != true) = false := rfl
  have hff : ((false : Bool) != false) = false := rfl
  have hfe : ((false : Bool) == false) = true := rfl
  cases hok : fpOk p xs k ms
  · clear hok
    go_wp2_with fail
    refine (so_bins _ _ _ _ HX5.out HY5.out).mono ?_
    rintro e w6 ⟨rfl, b6⟩
    have HO6 := Lib.hid (HO5.out.on b6)
    have HQ6 := Lib.hid (HQ5.out.on b6)
    have l6 := later_trans l5 b6
    go_wp2_with fail
    refine (so_batch _ _ _ _ HO6.out HQ6.out).mono ?_
    rintro e w7 ⟨rfl, b7⟩
    have l7 := later_trans l6 b7
    go_wp2_with fail
    go_ret
    exact ⟨rfl, HWB.out.trans (l7.mono HWB.out.size)⟩
  have HOK := Lib.hid hok; clear hok HY5 HQ5

  have HOB := Lib.hid (fpOk_iff.1 HOK.out).2.1
  have HPK : Hid (passOk p k = true) := passOk_iff.2 (fpOk_iff.1 HOK.out).1
  have hXl := (fpBins_len p xs k ms)
  have hRl := fpRest_len p xs k ms
  have hNB := fp_nil_bins HOK.out
  have HNB := Lib.hid hNB; clear hNB
  have HNK := Lib.hid (fpOk_nil HOK.out)
  have HSM : Hid (sameL (fpRest p xs k ms ++ (fpBins p xs k ms).flatten) xs) := fp_same HOK.out
  have HDU : Hid (∀ j (hj : j < (fpBins p xs k ms).length) i (hi : i < (fpBins p xs k ms)[j].length), misBin ms (fpBins p xs k ms)[j][i] (binI p (fpBins p xs k ms)[j][i].code k.toNat) = (j : Int)) := fun j hj i hi => fp_due HOK.out hj hi
  obtain ⟨hXl1, hXl2⟩ := hXl
  generalize fpBins p xs k ms = X at *
  generalize fpRest p xs k ms = R at *
  go_wp2_with fail
  refine (impl_PlanPass _ _ p xs k _ (HP.out.on l5) (HB.out.on l5)).mono ?_
  rw [HNB.out.2.2]
  rintro e w6 ⟨vC, vD, vu, rfl, oc, od, _, b6⟩
  have HC6 : Hid (rd w6 w6.heap.size vC (ppBins p xs k)) := ownLL.rd ⟨vu, oc⟩
  have HD6 : Hid (rd w6 w6.heap.size vD (ppRest p xs k)) := od.rd
  have HX6 := Lib.hid (HX5.out.on b6)
  have HO6 := Lib.hid (HO5.out.on b6)
  have l6 := later_trans l5 b6
  clear oc od b6 l5 HX5 HO5
  go_wp2_with fail
  refine (impl_FaultyPass _ _ _ p xs k [] _ (HP.out.on l6) (HB.out.on l6) rd.nil_).mono ?_
  rw [HNK.out, HNB.out.1, HNB.out.2.1]
  rintro e w7 ⟨vE, vF, vx, rfl, oe, of_, _, b7⟩
  have HE7 : Hid (rd w7 w7.heap.size vE (ppBins p xs k)) := ownLL.rd ⟨vx, oe⟩
  have HF7 : Hid (rd w7 w7.heap.size vF (ppRest p xs k)) := of_.rd
  have HC7 := Lib.hid (HC6.out.on b7)
  have HD7 := Lib.hid (HD6.out.on b7)
  have HX7 := Lib.hid (HX6.out.on b7)
  have HO7 := Lib.hid (HO6.out.on b7)
  have l7 := later_trans l6 b7
  clear oe of_ b7 l6 HX6 HO6 HC6 HD6 HNB HNK
  generalize ppBins p xs k = PB at *
  generalize ppRest p xs k = PR at *
  have hvm := HM.out
  obtain ⟨Am, nm, cm, hvm, hnm, _, hmm, hrm⟩ := hvm
  subst hnm hvm
  have HRM := Lib.hid hrm; clear hrm
  have hvx := HX7.out
  obtain ⟨Ax, nx, cx, hvx, hnx, _, hmx, hrx⟩ := hvx
  subst hnx hvx
  have HRX := Lib.hid hrx; clear hrx
  unfold maxLen at hmm hmx
  obtain ⟨i0, hi, hz0, hz1, hz2⟩ := info_parts Try.infoLtr
  have bq0 : ∀ W, Below w7.heap.size w7 W → W.cell? ⟨w1.heap.size, 0, none⟩ = some (.int .i64 p.bins) := fun W h => q0 W (later_trans l7 h)
  have bq1 : ∀ W, Below w7.heap.size w7 W → W.cell? ⟨w1.heap.size, 1, none⟩ = some (.int .i64 p.passes) := fun W h => q1 W (later_trans l7 h)
  have bq2 : ∀ W, Below w7.heap.size w7 W → W.cell? ⟨w1.heap.size, 2, none⟩ = some (.slice A0 p.order.length c0) := fun W h => q2 W (later_trans l7 h)
  have L7 := Lib.hid l7
  clear q0 q1 q2 l7
  have oE := own.made0 (α := Ltr) w7 44 (Nat.le_refl _)
  have hB8 : Below w7.heap.size w7 (w7.alloc (Obj.cells #[] 44)) := (Below.refl _ _).alloc (Nat.le_refl _) _
  have hz8 : w7.heap.size ≤ (w7.alloc (Obj.cells #[] 44)).heap.size := by simp
  have HO8 : Hid (rd (w7.alloc (Obj.cells #[] 44)) (w7.alloc (Obj.cells #[] 44)).heap.size vO R) := HO7.out.on hB8
  go_wp2_with (at_builtin; refine wpList_appendAll (α := Ltr) rfl (.tmp 101) (.tmp 102) _ rfl w7.heap.size 44 i0 _ 24 Try.underlying34 hi hz0 hz1 hz2 rfl (by decide) (.slice (some ⟨w7.heap.size, 0, none⟩) 0 0) [] rfl oE _ R rfl _ HO8.out (by unfold maxLen; simp; omega) (by simp; omega) hz8 ?_; intro v8 w8 o8 hg8 _)
  have l8 : Below w7.heap.size w7 w8 := hB8.trans (below_append oE hg8 hz8)
  rw [List.nil_append] at o8
  clear hg8 hB8 hz8 oE HO8
  go_wp2_with fail
  go_loopw [19, 20] (fun t i wr => ∃ j : Nat, j ≤ X.length ∧ i = .int .i64 j ∧ own 44 w7.heap.size wr t (R ++ (X.take j).flatten) ∧ Below w7.heap.size w7 wr) (fun _ i _ => X.length - (intOf i).toNat)
  case atStart => exact ⟨0, Nat.zero_le _, rfl, by simpa using o8, l8⟩
  case round =>
    obtain ⟨j, hj, rfl, oj, lj⟩ := hrel
    obtain ⟨w9, rfl⟩ : ∃ w9 : World, w9 = wr := ⟨_, rfl⟩
    clear o8 l8
    by_cases hlt : j < X.length
    · obtain ⟨bx, o, vr, rfl, hbx, hu, c1⟩ := HRX.out.rowU j hlt
      have HU := Lib.hid hu
      obtain ⟨Ar, nr, cr, hvr, hnr, _, hmr, hrr⟩ := hu
      subst hnr hvr
      have HRR := Lib.hid hrr; clear hrr
      unfold maxLen at hmr
      have HDJ : Hid (∀ i (hi : i < X[j].length), misBin ms X[j][i] (binI p X[j][i].code k.toNat) = (j : Int)) := fun i hi => HDU.out j hlt i hi
      have HSJ : Hid ((X.take (j + 1)).flatten = (X.take j).flatten ++ X[j]) := by show _ = _; rw [List.take_succ_eq_append_getElem hlt, List.flatten_append]; simp
      have hlen : (X.take j).flatten.length + X[j].length ≤ 60 := by
        have h1 := HSJ.out
        have h2 := flatten_take_len X (j + 1)
        rw [h1, List.length_append] at h2
        omega
      have hji : (j : Int) < (X.length : Int) := by omega
      generalize X[j] = Y at *
      generalize (X.take j).flatten = Z at *
      have c2 := c1 _ lj
      go_wp2_with fail
      clear c2
      go_loopw [19, 21] (fun t i wr => ∃ n : Nat, n ≤ Y.length ∧ i = .int .i64 n ∧ own 44 w7.heap.size wr t (R ++ (Z ++ Y.take n)) ∧ Below w7.heap.size w7 wr) (fun _ i _ => Y.length - (intOf i).toNat)
      case atStart => exact ⟨0, Nat.zero_le _, rfl, by simpa using oj, lj⟩
      case round =>
        obtain ⟨n, hn, rfl, on, ln⟩ := hrel
        obtain ⟨w10, rfl⟩ : ∃ w10 : World, w10 = wr := ⟨_, rfl⟩
        clear oj lj
        have c2 := c1 _ ln
        by_cases hnl : n < Y.length
        · obtain ⟨by_, oy, rfl, hby, hyok, d1, d2⟩ := HRR.out.ltrU n hnl
          have HDN := Lib.hid (HDJ.out n hnl)
          have HYN : Hid (Y.take (n + 1) = Y.take n ++ [Y[n]]) := List.take_succ_eq_append_getElem hnl
          have hyl : (Y.take n).length ≤ 60 := by simp; omega
          generalize Y[n] = y at *
          have hni : (n : Int) < (Y.length : Int) := by omega
          have e1 := d1 _ ln
          have e2 := d2 _ ln
          obtain ⟨At, nt, ct, hvt, hnt, _, hmt, _⟩ := on.rd
          subst hnt hvt
          have ON := Lib.hid on
          clear on
          obtain ⟨wC, hwC⟩ : ∃ u, u = w10.alloc (Obj.cells #[.int .i64 y.id, .string y.code] 44) := ⟨_, rfl⟩
          have lC : Below w7.heap.size w7 wC := by rw [hwC]; exact later_alloc ln _
          have HOC : Hid (own 44 w7.heap.size wC (.slice At (R ++ (Z ++ Y.take n)).length ct) (R ++ (Z ++ Y.take n))) := by rw [hwC]; exact ON.out.alloc _
          have hzC : w10.heap.size < wC.heap.size := by rw [hwC]; simp
          have hbC : wC.heap[w10.heap.size]? = some (.cells #[.int .i64 y.id, .string y.code] 44 (0, 0)) := by rw [hwC]; exact heap_alloc_new w10 _
          have UC : ∀ W, Below wC.heap.size wC W → W.cell? ⟨w10.heap.size, 0, none⟩ = some (.int .i64 y.id) ∧ W.cell? ⟨w10.heap.size, 1, none⟩ = some (.string y.code) := fun W hW => by
            have h := (hW.block w10.heap.size hzC).trans hbC
            exact ⟨by rw [cell_of_row _ _ _ _ _ _ h]; rfl, by rw [cell_of_row _ _ _ _ _ _ h]; rfl⟩
          obtain ⟨f1, f2⟩ := UC wC (Below.refl _ _)
          have f2' := f2
          rw [hwC] at f2'
          have HWC := Lib.hid hwC; clear hwC hbC
          have a0 := bq0 _ lC
          have a1 := bq1 _ lC
          have a2 := bq2 _ lC
          rw [HWC.out] at a0 a1 a2
          go_wp2_with fail
          rw [← HWC.out]
          clear a0 a1 a2 f2' e1 e2 c2
          refine (impl_PlanBin _ p y.code k _ (HP.out.on (later_trans L7.out lC)) HPK.out).mono ?_
          rintro e wD ⟨rfl, bD⟩
          have HOD := Lib.hid (HOC.out.below bD)
          have lD := later_trans lC bD
          have UD := Lib.hid (fun W (hW : Below wD.heap.size wD W) => UC W (later_trans bD hW))
          have hzD : w10.heap.size < wD.heap.size := by have := bD.size; omega
          clear UC f1 f2 bD lC HOC
          obtain ⟨z, hz⟩ : ∃ z, z = binI p y.code k.toNat := ⟨_, rfl⟩
          rw [← hz] at HDN ⊢
          clear hz
          have hsl : (R ++ (Z ++ Y.take n)).length ≤ 300 := by simp only [List.length_append]; omega
          have HSL := Lib.hid hsl
          generalize hZZ : R ++ (Z ++ Y.take n) = ZZ at *
          have HZZ := Lib.hid hZZ; clear hZZ
          go_wp2_with fail
          go_loopw [23, 24] (fun t i wr => ∃ q : Nat, q ≤ ms.length ∧ i = .int .i64 q ∧ t = .int .i64 (misBin (ms.take q) y z) ∧ Below wD.heap.size wD wr) (fun _ i _ => ms.length - (intOf i).toNat)
          case atStart => exact ⟨0, Nat.zero_le _, rfl, rfl, Below.refl _ _⟩
          case round =>
            obtain ⟨q, hq, rfl, rfl, bb⟩ := hrel
            obtain ⟨wF, rfl⟩ : ∃ wF : World, wF = wr := ⟨_, rfl⟩
            obtain ⟨f1, f2⟩ := UD.out wF bb
            have lF := later_trans lD bb
            by_cases hql : q < ms.length
            · obtain ⟨bm, om, rfl, hbm, _, m1, m2⟩ := HRM.out.misU q hql
              have HMT : Hid (misBin (ms.take (q + 1)) y z = if ms[q].id = y.id then ms[q].bin else misBin (ms.take q) y z) := misBin_take hql y z
              generalize ms[q] = mm at *
              have m1' := m1 _ (later_trans L7.out lF)
              have m2' := m2 _ (later_trans L7.out lF)
              have hqi : (q : Int) < (ms.length : Int) := by omega
              clear m1 m2 lF
              by_cases he : mm.id = y.id
              · have hb : (mm.id == y.id) = true := by simp [he]
                have HMT2 : Hid (misBin (ms.take (q + 1)) y z = mm.bin) := by show _ = _; rw [HMT.out, if_pos he]
                clear he
                go_wp2
                go_quiet (fail)
                go_wp2
                go_roundw
                case rel => exact ⟨q + 1, by omega, by go_num, by rw [HMT2.out], below_drewN bb _⟩
                case measure => simp [intOf]; omega
              · have hb : (mm.id == y.id) = false := by simp [he]
                have HMT2 : Hid (misBin (ms.take (q + 1)) y z = misBin (ms.take q) y z) := by show _ = _; rw [HMT.out, if_neg he]
                clear he
                go_wp2
                go_quiet (fail)
                go_wp2
                go_roundw
                case rel => exact ⟨q + 1, by omega, by go_num, by rw [HMT2.out], below_drewN bb _⟩
                case measure => simp [intOf]; omega
            · have e : q = ms.length := by omega
              subst e
              rw [List.take_of_length_le (Nat.le_refl _), HDN.out]
              have hjj : ((j : Int) != (j : Int)) = false := by simp
              have hzF := lF.size
              have HOF := Lib.hid (HOD.out.below bb)
              clear HOD
              have hob := HOF.out
              go_wp2_with (at_builtin; refine wpList_append1 (α := Ltr) rfl (.tmp 153) (.tmp 155) _ rfl w7.heap.size 44 i0 _ 24 Try.underlying34 hi hz0 hz1 hz2 rfl (by decide) (.slice At ZZ.length ct) ZZ y rfl (HOF.out.alloc _) ⟨wF.heap.size, 0, none⟩ 1 (Ltr.cells y) rfl ⟨hyok, rfl⟩ (news_at wF _ (Ltr.cells y)) (by have := HSL.out; unfold maxLen; omega) (by have := HSL.out; omega) (by simp; omega) ?_; intro vG wG oG hgG _)
              have lG : Below w7.heap.size w7 wG := (later_alloc lF _).trans (below_append (HOF.out.alloc _) hgG (by simp; omega))
              clear hgG
              go_wp2_with fail
              go_roundw
              case rel => exact ⟨n + 1, by omega, by go_num, by rw [HYN.out, ← List.append_assoc, ← List.append_assoc, List.append_assoc R, HZZ.out]; exact oG, lG⟩
              case measure => simp [intOf]; omega
        · go_wp2_with fail
          go_roundw
          case rel => exact ⟨j + 1, by omega, by go_num, by rw [HSJ.out]; rw [List.take_of_length_le (by omega)] at on; exact on, ln⟩
          case measure => simp [intOf]; omega
    · have e : j = X.length := by omega
      subst e
      rw [List.take_of_length_le (Nat.le_refl _)] at oj
      have OJ := Lib.hid oj
      clear oj
      go_wp2_with fail
      refine (so_bins _ _ PB _ (HE7.out.on lj) (HC7.out.on lj)).mono ?_
      rintro e wF ⟨rfl, bF⟩
      have OF := Lib.hid (OJ.out.below bF)
      have lF := later_trans lj bF
      clear OJ lj bF
      go_wp2_with fail
      refine (so_batch _ _ PR _ (HF7.out.on lF) (HD7.out.on lF)).mono ?_
      rintro e wG ⟨rfl, bG⟩
      have OG := Lib.hid (OF.out.below bG)
      have lG := later_trans lF bG
      clear OF lF bG
      go_wp2_with fail
      refine (so_all _ _ _ xs _ OG.out.rd (HB.out.on (later_trans L7.out lG)) HOB.out HSM.out).mono ?_
      rintro e wH ⟨rfl, bH⟩
      have lH := later_trans (later_trans L7.out lG) bH
      go_wp2_with fail
      go_ret
      exact ⟨rfl, HWB.out.trans (lH.mono HWB.out.size)⟩

end Go.Proofs.Ytekjjgnokjhleaa
