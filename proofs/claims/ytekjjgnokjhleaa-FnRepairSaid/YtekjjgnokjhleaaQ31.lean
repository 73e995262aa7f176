/- B16 -/
import Derived.Test.YtekjjgnokjhleaaQ29
namespace Go.Proofs.Ytekjjgnokjhleaa
open Go.RowKit

set_option maxRecDepth 100000 in
set_option maxHeartbeats 6400000 in
theorem spec_l7Repair (v vb : Value) (p : Pln) (xss : List (List Ltr)) (k : Nat) (w : World) (hv : rdP w w.heap.size v p) (hb : rd w w.heap.size vb xss) (h1 : binsOk p xss (k : Int) = true) :
    Calls Try.prog 88 #[v, vb, .int .i64 k] w fun e w' => ∃ vB vO vs, e = .returned (.tuple #[vB, vO]) ∧ isLL 34 44 w.heap.size w' vB (repBins (rbF p (k : Int)) xss) vs ∧ own 44 w.heap.size w' vO (repRest (rbF p (k : Int)) xss) ∧ farLL vO vB vs ∧ Below w.heap.size w w' := by
  obtain ⟨A0, c0, e0⟩ := openP hv
  obtain ⟨w0, hw0⟩ : ∃ w0, w0 = w.alloc (Obj.cells #[.int .i64 p.bins, .int .i64 p.passes, .slice A0 p.order.length c0] 25) := ⟨_, rfl⟩
  have q0 := box_cells hw0 0 (.int .i64 p.bins) rfl
  have q1 := box_cells hw0 1 (.int .i64 p.passes) rfl
  have q2 := box_cells hw0 2 (.slice A0 p.order.length c0) rfl
  have HT := Lib.hid (box_later hw0).1
  have HP := Lib.hid (hv.on HT.out)
  have HB := Lib.hid (hb.on HT.out)
  subst e0
  have hz0 : w0.heap.size = w.heap.size + 1 := by subst hw0; simp
  have HZ0 := Lib.hid hz0; clear hz0
  have HW0 := Lib.hid hw0; clear hw0 hv hb
  have l0 := Below.refl w0.heap.size w0
  have hwlt : w.heap.size ≤ w0.heap.size := HT.out.size
  obtain ⟨A, n, c, rfl, hn, hc, hm, hr⟩ := HB.out
  subst hn
  unfold maxLen at hm
  have HR := Lib.hid hr; clear hr
  obtain ⟨i0, hi, hzz, hz1, hz2⟩ := info_parts Try.infoRow
  obtain ⟨i1, ji, jz0, jz1, jz2⟩ := info_parts Try.infoLtr
  obtain ⟨hk1, hk2, hk3⟩ := binsOk_iff.1 h1
  obtain ⟨hp1, hp2, hp3⟩ := passOk_iff.1 hk1
  obtain ⟨g1, g2, g3, g4, g5⟩ := planOk_bins hp1
  clear h1 hk1 hp1
  have HFL := Lib.hid (okB_len' hk3)
  have hx16 : xss.length ≤ 16 := by omega
  have HBN := Lib.hid hk2
  clear hk3 hk2
  have hk4 : k ≤ 4 := by omega
  obtain ⟨f, HFF⟩ : ∃ f : Ltr → Int, Hid (f = rbF p (k : Int)) := ⟨_, rfl⟩
  have HFX : Hid (∀ x, f x = binI p x.code k) := fun x => by rw [HFF.out]; show binI p x.code _ = _; rw [Int.toNat_natCast]
  have HFR : Hid (∀ x, -1 ≤ f x ∧ f x < xss.length) := fun x => by
    rw [HFX.out]
    have h1 := binI_range p x.code k g1
    have h2 := HBN.out
    omega
  have HY : Hid (repBins (rbF p (k : Int)) xss = addTo f (keptTo f xss xss.length) (wlTo f xss xss.length) ∧ repRest (rbF p (k : Int)) xss = restOf f (wlTo f xss xss.length)) := by
    unfold repBins repRest; rw [HFF.out]; exact ⟨rfl, rfl⟩
  clear hp2 hp3
  have hmk := make_row (P := Try.prog) 37 34 i0 _ Try.underlying37 hi hzz xss.length (by rw [hz2]; omega) (by omega)
  have hord : p.order.length ≤ 1000 := by omega
  go_enter Try.func88, Try.ntmps88
  go_wp2
  rw [← HW0.out]
  obtain ⟨vs0, hoz⟩ := made_nil_row (α := Ltr) w0 34 44 xss.length w0.heap.size (Nat.le_refl _) (by unfold maxLen; omega)
  have lz : Below w0.heap.size w0 (w0.alloc (Obj.cells (madeCells #[.slice none 0 0] xss.length) 34)) := later_alloc l0 _
  have hs1 : (w0.alloc (Obj.cells (madeCells #[.slice none 0 0] xss.length) 34)).heap.size = w.heap.size + 1 + 1 := by simp [HZ0.out]
  generalize (w0.alloc (Obj.cells (madeCells #[.slice none 0 0] xss.length) 34)) = wz at *
  have hG0 : w0.heap.size ≤ w.heap.size + 1 := Nat.le_of_eq HZ0.out
  have hoz2 := hoz
  rw [show (Value.slice (some ⟨w0.heap.size, 0, none⟩) xss.length xss.length) = (Value.slice (some ⟨w.heap.size + 1, 0, none⟩) xss.length xss.length) by rw [HZ0.out]] at hoz2
  clear hoz
  have hoe1 : own (α := Ltr) 44 w0.heap.size (wz.alloc (Obj.cells #[] 44)) (.slice (some ⟨wz.heap.size, 0, none⟩) 0 0) [] := own.made0 wz _ lz.size
  have lz2 := later_alloc lz (Obj.cells #[] 44)
  have hb1 : Below wz.heap.size wz (wz.alloc (Obj.cells #[] 44)) := later_alloc (Below.refl _ _) _
  have hs2 : (wz.alloc (Obj.cells #[] 44)).heap.size = w.heap.size + 1 + 1 + 1 := by simp [hs1]
  have hfe : farLL (.slice (some ⟨w.heap.size + 1 + 1, 0, none⟩) 0 0) (.slice (some ⟨w.heap.size + 1, 0, none⟩) xss.length xss.length) vs0 := by
    refine ⟨.inr (by show some _ ≠ some _; simp), fun k hk => .inr fun e => ?_⟩
    obtain ⟨z1, z2, z3, _⟩ := hoz2
    have hh : w.heap.size + 1 + 1 < wz.heap.size := ((z3 k hk (by omega)).blk _ e.symm).2
    omega
  have hfe2 : farLL (.slice (some ⟨w.heap.size + 1 + 1 + 1, 0, none⟩) 0 0) (.slice (some ⟨w.heap.size + 1, 0, none⟩) xss.length xss.length) vs0 := by
    refine ⟨.inr (by show some _ ≠ some _; simp; omega), fun k hk => .inr fun e => ?_⟩
    obtain ⟨z1, z2, z3, _⟩ := hoz2
    have hh : w.heap.size + 1 + 1 + 1 < wz.heap.size := ((z3 k hk (by omega)).blk _ e.symm).2
    omega
  rw [hs1] at hoe1
  have hoz3 := hoz2.below hb1
  generalize (wz.alloc (Obj.cells #[] 44)) = wy at *
  have hoe2 : own (α := Ltr) 44 w0.heap.size (wy.alloc (Obj.cells #[] 44)) (.slice (some ⟨wy.heap.size, 0, none⟩) 0 0) [] := own.made0 wy _ lz2.size
  have lz3 := later_alloc lz2 (Obj.cells #[] 44)
  have hb2 : Below wy.heap.size wy (wy.alloc (Obj.cells #[] 44)) := later_alloc (Below.refl _ _) _
  rw [hs2] at hoe2
  have HOZ := Lib.hid (hoz3.below hb2)
  have HOE1 := Lib.hid (hoe1.below hb2)
  have HOE2 := Lib.hid hoe2
  have HFE := Lib.hid hfe; have HFE2 := Lib.hid hfe2
  have HAP : Hid (apart (.slice (some ⟨w.heap.size + 1 + 1 + 1, 0, none⟩) 0 0) (.slice (some ⟨w.heap.size + 1 + 1, 0, none⟩) 0 0)) := .inr (by show some _ ≠ some _; simp)
  clear hoz2 hoz3 hoe1 hoe2 hfe hfe2 hb1 hb2 lz lz2 hs1 hs2
  generalize (wy.alloc (Obj.cells #[] 44)) = wx at *
  generalize hGr : w.heap.size + 1 + 1 + 1 = GR at *
  generalize hGw : w.heap.size + 1 + 1 = GW at *
  generalize hG : w.heap.size + 1 = G at *
  have HGG := Lib.hid hG; have HGW := Lib.hid hGw; have HGR := Lib.hid hGr
  clear hG hGw hGr hmk
  go_loopw [9, 11] (fun t i wr => ∃ (j : Nat) (vs : List Value), j ≤ xss.length ∧ i = .int .i64 j ∧ Below w0.heap.size w0 wr ∧ isLL 34 44 w0.heap.size wr (.slice (some ⟨G, 0, none⟩) xss.length xss.length) (keptTo f xss j) vs ∧ own 44 w0.heap.size wr t (wlTo f xss j) ∧ Hid (farLL t (.slice (some ⟨G, 0, none⟩) xss.length xss.length) vs) ∧ own (α := Ltr) 44 w0.heap.size wr (.slice (some ⟨GR, 0, none⟩) 0 0) [] ∧ Hid (farLL (.slice (some ⟨GR, 0, none⟩) 0 0) (.slice (some ⟨G, 0, none⟩) xss.length xss.length) vs) ∧ Hid (apart (.slice (some ⟨GR, 0, none⟩) 0 0) t)) (fun _ i _ => xss.length - (intOf i).toNat)
  case atStart =>
    refine ⟨0, vs0, Nat.zero_le _, rfl, lz3, ?_, HOE1.out, HFE.out, HOE2.out, HFE2.out, HAP.out⟩
    rw [keptTo_nil]
    exact HOZ.out
  case round =>
    obtain ⟨j, vs, hj, rfl, lr, hB, hO, HFAR, hE, HFRE, HAPR⟩ := hrel
    obtain ⟨w2, rfl⟩ : ∃ w2 : World, w2 = wr := ⟨_, rfl⟩
    have HBB := Lib.hid hB; have HO := Lib.hid hO; have HE := Lib.hid hE
    clear lz3 HOZ hB l0 hE HOE1 HOE2 HFE HFE2 HAP
    by_cases hlt : j < xss.length
    · obtain ⟨AO, mO, cO, rfl, hmO, _, _, _⟩ := hO.rd
      subst hmO
      clear hO
      obtain ⟨b, o, u, rfl, hb, hu, c1⟩ := HR.out.rowU j hlt
      have HS1 := Lib.hid (keptTo_done (f := f) hlt)
      have HS2 := Lib.hid (wlTo_succ (f := f) hlt)
      have HS0 := Lib.hid (keptTo_start (f := f) hlt)
      have HL : Hid ((wlTo f xss j).length + xss[j].length ≤ 60) := by
        show _ ≤ _
        have h1 := wlTo_le f xss j (by omega)
        have h2 := flatten_take_len xss (j + 1)
        rw [List.take_succ_eq_append_getElem hlt, List.flatten_append, List.length_append] at h2
        simp only [List.flatten_cons, List.flatten_nil, List.append_nil] at h2
        have := HFL.out
        omega
      generalize xss[j] = ys at *
      obtain ⟨K, HK⟩ : ∃ K, Hid (keptTo f xss j = K) := ⟨_, rfl⟩
      have HKL : Hid (j < K.length) := by show _ < _; rw [← HK.out, keptTo_len]; exact hlt
      rw [HK.out] at HBB HS1 HS0
      generalize wlTo f xss j = zs at *
      obtain ⟨A2, m2, c2, rfl, hm2, hc2, hmm2, hr2⟩ := hu
      subst hm2
      unfold maxLen at hmm2
      have HU := Lib.hid hr2; clear hr2
      have hji : (j : Int) < (xss.length : Int) := by omega
      go_wp2_with fail
      go_loopw [9, 12] (fun t i wi => ∃ (m : Nat) (vs : List Value), m ≤ ys.length ∧ i = .int .i64 m ∧ Below w0.heap.size w0 wi ∧ isLL 34 44 w0.heap.size wi (.slice (some ⟨G, 0, none⟩) xss.length xss.length) (K.set j (kpRow f j (ys.take m))) vs ∧ own 44 w0.heap.size wi t (zs ++ wlRow f j (ys.take m)) ∧ Hid (farLL t (.slice (some ⟨G, 0, none⟩) xss.length xss.length) vs) ∧ own (α := Ltr) 44 w0.heap.size wi (.slice (some ⟨GR, 0, none⟩) 0 0) [] ∧ Hid (farLL (.slice (some ⟨GR, 0, none⟩) 0 0) (.slice (some ⟨G, 0, none⟩) xss.length xss.length) vs) ∧ Hid (apart (.slice (some ⟨GR, 0, none⟩) 0 0) t)) (fun _ i _ => ys.length - (intOf i).toNat)
      case atStart =>
        refine ⟨0, vs, Nat.zero_le _, rfl, lr, ?_, by simpa [wlRow] using HO.out, HFAR.out, HE.out, HFRE.out, HAPR.out⟩
        rw [List.take_zero, HS0.out]
        exact HBB.out
      case round =>
        obtain ⟨m, vs2, hm', rfl, li, hBi, hOi, HFARi, hEi, HFREi, HAPRi⟩ := hrel
        obtain ⟨w3, rfl⟩ : ∃ w3 : World, w3 = wr := ⟨_, rfl⟩
        have HBI := Lib.hid hBi; clear hBi lr HBB HO HFAR HE HFRE HAPR
        have HEI := Lib.hid hEi; clear hEi
        by_cases hmt : m < ys.length
        · have HOI := Lib.hid hOi
          obtain ⟨AI, mI, cI, rfl, hmI, _, _, _⟩ := hOi.rd
          subst hmI
          clear hOi
          obtain ⟨b', o', rfl, hb', ⟨hxi, hxc⟩, d1, d2⟩ := HU.out.ltrU m hmt
          have HKH : Hid (∀ h : f ys[m] = (j : Int), K.set j (kpRow f j (ys.take (m + 1))) = (K.set j (kpRow f j (ys.take m))).set j ((K.set j (kpRow f j (ys.take m)))[j]'(by rw [List.length_set]; exact HKL.out) ++ [ys[m]]) ∧ wlRow f j (ys.take (m + 1)) = wlRow f j (ys.take m)) := fun h => by
            refine ⟨?_, wlRow_hit hmt h⟩
            rw [kpRow_hit hmt h]
            exact (set_push (L := K) (r := kpRow f j (ys.take m)) (by rw [List.length_set]; exact HKL.out) rfl).symm
          have HKM : Hid (∀ h : f ys[m] ≠ (j : Int), K.set j (kpRow f j (ys.take (m + 1))) = K.set j (kpRow f j (ys.take m)) ∧ wlRow f j (ys.take (m + 1)) = wlRow f j (ys.take m) ++ [ys[m]]) := fun h => ⟨by rw [kpRow_miss hmt h], wlRow_miss hmt h⟩
          have HWL := Lib.hid (wlRow_len f j (ys.take m))
          have HKPL := Lib.hid (kpRow_len f j (ys.take m))
          have HLJ : Hid (∃ h : j < (K.set j (kpRow f j (ys.take m))).length, (K.set j (kpRow f j (ys.take m)))[j] = kpRow f j (ys.take m)) := ⟨by rw [List.length_set]; exact HKL.out, by rw [List.getElem_set_self]⟩
          obtain ⟨x, hx⟩ : ∃ x, x = ys[m] := ⟨_, rfl⟩
          rw [← hx] at d1 d2 hxi hxc HKH HKM
          clear hx
          have hrl : (wlRow f j (ys.take m)).length ≤ ys.length ∧ (kpRow f j (ys.take m)).length ≤ ys.length := by have h1 := HWL.out; have h2 := HKPL.out; rw [List.length_take] at h1 h2; omega
          generalize wlRow f j (ys.take m) = rs at *
          generalize kpRow f j (ys.take m) = qs at *
          obtain ⟨hLj, hLq⟩ := HLJ.out
          have hmi : (m : Int) < (ys.length : Int) := by omega
          obtain ⟨r, HRR⟩ : ∃ r, Hid (f x = r) := ⟨_, rfl⟩
          have hzl : (zs ++ rs).length ≤ 60 := by rw [List.length_append]; have := HL.out; omega
          generalize hzr : zs ++ rs = zr at *
          have HZR := Lib.hid hzr; clear hzr
          have ld := later_drew li
          have HC : Hid (∀ W, Below w0.heap.size w0 W → Calls Try.prog 77 #[.agg #[.int .i64 p.bins, .int .i64 p.passes, .slice A0 p.order.length c0], .string x.code, .int .i64 k] W fun e w' => e = .returned (.int .i64 r) ∧ Below W.heap.size W w') := fun W hW => by
            rw [← HRR.out, HFX.out]
            exact spec_l3Bin _ p x.code k W (HP.out.on hW) g1 g2 hk4 hord
          go_wp2
          go_region_held3 (fun W => Below w0.heap.size w0 W) (first | exact ld | exact later_trans ld b4) (first | (go_at_call 77; refine (HC.out _ ld).mono ?_; rintro e w4 ⟨rfl, b4⟩))
          have l4 := later_trans ld b4
          have B4 : Below w3.heap.size w3 w4 := later_trans ((Below.refl _ _).drew) b4
          have HO4 := Lib.hid (HOI.out.below B4)
          have HB4 := Lib.hid (HBI.out.below B4)
          have HE4 := Lib.hid (HEI.out.below B4)
          have hs4 : w0.heap.size ≤ w4.heap.size := l4.size
          clear b4 B4 ld
          by_cases hrj : r = (j : Int)
          · have hrj' : (r == (j : Int)) = true := by simp [hrj]
            have hql : qs.length ≤ 60 := by have := HL.out; omega
            obtain ⟨HX1, HX2⟩ : Hid (K.set j (kpRow f j (ys.take (m + 1))) = (K.set j qs).set j ((K.set j qs)[j]'hLj ++ [x])) ∧ Hid (wlRow f j (ys.take (m + 1)) = rs) := ⟨(HKH.out (by rw [HRR.out]; exact hrj)).1, (HKH.out (by rw [HRR.out]; exact hrj)).2⟩
            have HJE := Lib.hid hrj; clear hrj
            obtain ⟨hlv, hov, hgv⟩ : ∃ hlv : j < vs2.length, own 44 w0.heap.size w4 vs2[j] qs ∧ apart vs2[j] (.slice (some ⟨G, 0, none⟩) xss.length xss.length) := by
              obtain ⟨z1, z2, z3, z4, z5⟩ := HB4.out
              have h3 := z3 j (by omega) hLj
              rw [hLq] at h3
              exact ⟨by omega, h3, z5 j (by omega)⟩
            have hcG : w4.cell? ⟨G, j, none⟩ = some vs2[j] := own_cellv HB4.out.1 j hlv
            have hfG : w4.frozen? ⟨G, j, none⟩ = false := HB4.out.1.freeAt j
            obtain ⟨u, hu⟩ : ∃ u, u = vs2[j] := ⟨_, rfl⟩
            have HUU := Lib.hid hu
            rw [← hu] at hov hgv hcG
            clear hu
            obtain ⟨Au, mu, cu, rfl, hmu, _, _, _⟩ := hov.rd
            subst hmu
            have HOV := Lib.hid hov; clear hov
            have HGV := Lib.hid hgv; clear hgv
            have hGs : some G ≠ (Value.slice Au qs.length cu).ownBlock := by
              have h := HGV.out
              unfold apart at h
              rcases h with h | h
              · rw [h]; simp
              · exact fun e => h e.symm
            have HGS := Lib.hid hGs; clear hGs
            have hGlt : G < w4.heap.size := (HB4.out.1.blk G rfl).2
            go_wp2
            go_region_law (first | ((refine step_append1 (α := Ltr) (by rfl) (.tmp 53) (.tmp 61) 34 (by rfl) w0.heap.size 44 i1 _ 24 Try.underlying34 ji jz0 jz1 jz2 rfl (by decide) (.slice Au qs.length cu) qs x (by rfl) ((HOV.out.alloc _).drew) ⟨w4.heap.size, 0, none⟩ 1 (Ltr.cells x) (by rfl) ⟨⟨hxi, hxc⟩, rfl⟩ (news_drew w4 _ (Ltr.cells x)) (by unfold maxLen; omega) (by omega) (by simp; omega) ?_; intro g cap w5 ho5 hg5 ha5 hl5; have hcG5 : w5.cell? ⟨G, j, none⟩ = some (.slice Au qs.length cu) := (hg5.cell_far ⟨G, j, none⟩ (by simp; omega) HGS.out).trans (by go_simp); have hfG5 : w5.frozen? ⟨G, j, none⟩ = false := (hg5.frozen_far ⟨G, j, none⟩ (by simp; omega) HGS.out).trans (by go_simp))))
            all_goals
              have hWD : Below w4.heap.size w4 (w4.alloc (Obj.cells #[Value.int IntKind.i64 x.id, Value.string x.code] 44)).drew := later_drew (later_alloc (Below.refl _ _) _)
              obtain ⟨p1, p2, p3⟩ := place_step HB4.out HO4.out HFARi.out hWD hlv hLj HUU.out hLq.symm ho5 hg5 ha5
              obtain ⟨_, p5, p6⟩ := place_step HB4.out HE4.out HFREi.out hWD hlv hLj HUU.out hLq.symm ho5 hg5 ha5
              have p4 := place_later (G := G) (d := j) (g := g) (m := qs.length + 1) (cap := cap) (later_drew (later_alloc l4 (Obj.cells #[Value.int IntKind.i64 x.id, Value.string x.code] 44))) hg5 (fun j hj => (HOV.out.blk j hj).1) hG0
              have P1 := Lib.hid p1; have P2 := Lib.hid p2; have P3 := Lib.hid p3; have P5 := Lib.hid p5; have P6 := Lib.hid p6
              clear p1 p2 p3 p5 p6 hWD
              go_wp2
              go_roundw
              case rel => exact ⟨m + 1, _, by omega, by go_num, p4, by rw [HX1.out]; exact P1.out, by rw [HX2.out, HZR.out]; exact P2.out, P3.out, P5.out, P6.out, HAPRi.out⟩
              case measure => simp [intOf]; omega
          · have hrj' : (r == (j : Int)) = false := by simp [hrj]
            obtain ⟨HX1, HX2⟩ : Hid (K.set j (kpRow f j (ys.take (m + 1))) = K.set j qs) ∧ Hid (wlRow f j (ys.take (m + 1)) = rs ++ [x]) := ⟨(HKM.out (by rw [HRR.out]; exact hrj)).1, (HKM.out (by rw [HRR.out]; exact hrj)).2⟩
            have HJE := Lib.hid hrj; clear hrj
            go_wp2_with (at_builtin; refine wpList_append1' (α := Ltr) rfl (.tmp 64) (.tmp 72) 34 rfl w0.heap.size 44 i1 _ 24 Try.underlying34 ji jz0 jz1 jz2 rfl (by decide) (.slice AI zr.length cI) zr x rfl (HO4.out.alloc _) ⟨w4.heap.size, 0, none⟩ 1 (Ltr.cells x) rfl ⟨⟨hxi, hxc⟩, rfl⟩ (news_at w4 _ (Ltr.cells x)) (by unfold maxLen; omega) (by omega) (by simp; omega) ?_; intro g cap w5 ho5 hg5 ha5 hl5)
            have HB5 := Lib.hid (farLL_grown (HB4.out.below ((Below.refl _ _).alloc (Nat.le_refl _) _)) HFARi.out hg5)
            have HE5 := Lib.hid ((HE4.out.below ((Below.refl _ _).alloc (Nat.le_refl _) (Obj.cells #[Value.int IntKind.i64 x.id, Value.string x.code] 44))).grown hg5 HAPRi.out)
            have l5 : Below w0.heap.size w0 w5 := (later_alloc l4 (Obj.cells #[Value.int IntKind.i64 x.id, Value.string x.code] 44)).grown hg5 (by simp; omega) fun q hq => (HO4.out.blk q hq).1
            have HFAR5 : Hid (farLL (.slice (some ⟨g, 0, none⟩) (zr.length + 1) cap) (.slice (some ⟨G, 0, none⟩) xss.length xss.length) vs2) := farLL_app HB4.out HFARi.out ha5 (by simp)
            have HAP5 : Hid (apart (.slice (some ⟨GR, 0, none⟩) 0 0) (.slice (some ⟨g, 0, none⟩) (zr.length + 1) cap)) := apart_symm (apart_app (apart_symm HAPRi.out) ha5 fun j hj => by have := (HE4.out.blk j hj).2; simp; omega)
            go_wp2
            go_roundw
            case rel => exact ⟨m + 1, vs2, by omega, by go_num, l5, by rw [HX1.out]; exact HB5.out, by rw [HX2.out, ← List.append_assoc, HZR.out]; exact ho5, HFAR5, HE5.out, HFREi.out, HAP5⟩
            case measure => simp [intOf]; omega
        · have HJE := Lib.hid (show m = ys.length by omega)
          rw [HJE.out, List.take_length, ← HS2.out] at hOi
          have hBi := HBI.out
          rw [HJE.out, List.take_length, HS1.out] at hBi
          have HO2 := Lib.hid hOi; clear hOi
          have HB2 := Lib.hid hBi; clear hBi
          go_wp2_with fail
          go_roundw
          case rel => exact ⟨j + 1, vs2, by omega, by go_num, li, HB2.out, HO2.out, HFARi.out, HEI.out, HFREi.out, HAPRi.out⟩
          case measure => simp [intOf]; omega
    · have HJE := Lib.hid (show j = xss.length by omega)
      have hB := HBB.out
      rw [HJE.out] at hB hO
      have HWLE := Lib.hid (wlTo_le' f xss)
      have HKRL : Hid (∀ d (h : d < (keptTo f xss xss.length).length), (keptTo f xss xss.length)[d].length ≤ 60) := fun d h => Nat.le_trans (kept_row_len f xss xss.length d h) HFL.out
      have HYB := Lib.hid HY.out.1
      have HYO := Lib.hid HY.out.2
      obtain ⟨K, hK⟩ : ∃ K, keptTo f xss xss.length = K := ⟨_, rfl⟩
      rw [hK] at hB HKRL HYB
      have HKL : Hid (K.length = xss.length) := by show _ = _; rw [← hK, keptTo_len]
      clear hK
      generalize wlTo f xss xss.length = ws at *
      have hws : ws.length ≤ 60 := Nat.le_trans HWLE.out HFL.out
      have HBB2 := Lib.hid hB; clear hB HBB HO
      obtain ⟨AW, mW, cW, rfl, hmW, _, _, _⟩ := hO.rd
      subst hmW
      have HOW := Lib.hid hO; clear hO
      clear HR HB
      go_wp2_with fail
      go_loopw [10, 13] (fun t i wi => ∃ (q : Nat) (vs : List Value), q ≤ ws.length ∧ i = .int .i64 q ∧ Below w0.heap.size w0 wi ∧ isLL 34 44 w0.heap.size wi (.slice (some ⟨G, 0, none⟩) xss.length xss.length) (addTo f K (ws.take q)) vs ∧ own 44 w0.heap.size wi t (restOf f (ws.take q)) ∧ own 44 w0.heap.size wi (.slice AW ws.length cW) ws ∧ Hid (farLL t (.slice (some ⟨G, 0, none⟩) xss.length xss.length) vs) ∧ Hid (farLL (.slice AW ws.length cW) (.slice (some ⟨G, 0, none⟩) xss.length xss.length) vs) ∧ Hid (apart t (.slice AW ws.length cW))) (fun _ i _ => ws.length - (intOf i).toNat)
      case atStart =>
        refine ⟨0, vs, Nat.zero_le _, rfl, lr, ?_, HE.out, HOW.out, HFRE.out, HFAR.out, HAPR.out⟩
        rw [List.take_zero, addTo_nil]
        exact HBB2.out
      case round =>
        obtain ⟨q, vs2, hq, rfl, li, hBi, hOi, hWi, HFARi, HFARw, HAPW⟩ := hrel
        obtain ⟨w3, rfl⟩ : ∃ w3 : World, w3 = wr := ⟨_, rfl⟩
        have HBI := Lib.hid hBi; clear hBi lr HBB2 HFAR HOW HE HFRE HAPR
        have HWI := Lib.hid hWi; clear hWi
        by_cases hqt : q < ws.length
        · have HOI := Lib.hid hOi
          obtain ⟨AI, mI, cI, rfl, hmI, _, _, _⟩ := hOi.rd
          subst hmI
          clear hOi
          obtain ⟨b', o', rfl, hb', ⟨hxi, hxc⟩, d1, d2⟩ := HWI.out.rd.rows.ltrU q hqt
          have HX : Hid (∀ x, x = ws[q] → (f x < 0 → addTo f K (ws.take (q + 1)) = addTo f K (ws.take q) ∧ restOf f (ws.take (q + 1)) = restOf f (ws.take q) ++ [x]) ∧ ∀ d : Nat, f x = (d : Int) → ∀ hd : d < (addTo f K (ws.take q)).length, addTo f K (ws.take (q + 1)) = (addTo f K (ws.take q)).set d ((addTo f K (ws.take q))[d] ++ [x]) ∧ restOf f (ws.take (q + 1)) = restOf f (ws.take q)) := fun x hx => by
            subst hx
            exact ⟨fun h => ⟨addTo_skip hqt h, restOf_step hqt h⟩, fun d hd hd' => ⟨addTo_hit hqt hd hd', restOf_skip hqt (by omega)⟩⟩
          have HRL := Lib.hid (show (restOf f (ws.take q)).length ≤ 60 from Nat.le_trans (filter_len_le _ ws q) (by omega))
          have HAL : Hid (∀ d (h : d < (addTo f K (ws.take q)).length), (addTo f K (ws.take q))[d].length ≤ 120) := fun d h => by
            have h1 := add_row_len f K (ws.take q) d 60 h HKRL.out
            have h2 := List.length_take_le q ws
            omega
          have HALN : Hid ((addTo f K (ws.take q)).length = xss.length) := by show _ = _; rw [addTo_len]; exact HKL.out
          obtain ⟨x, hx⟩ : ∃ x, x = ws[q] := ⟨_, rfl⟩
          have HX2 := Lib.hid (HX.out x hx)
          rw [← hx] at d1 d2 hxi hxc
          clear hx HX
          generalize addTo f K (ws.take q) = L at *
          generalize restOf f (ws.take q) = rs at *
          have hmi : (q : Int) < (ws.length : Int) := by omega
          obtain ⟨fx1, fx2⟩ := HFR.out x
          obtain ⟨r, HRR⟩ : ∃ r, Hid (f x = r) := ⟨_, rfl⟩
          rw [HRR.out] at fx1 fx2
          have ld := later_drew li
          have l33 : Below w3.heap.size w3 w3 := Below.refl _ _
          have HC : Hid (∀ W, Below w0.heap.size w0 W → Calls Try.prog 77 #[.agg #[.int .i64 p.bins, .int .i64 p.passes, .slice A0 p.order.length c0], .string x.code, .int .i64 k] W fun e w' => e = .returned (.int .i64 r) ∧ Below W.heap.size W w') := fun W hW => by
            rw [← HRR.out, HFX.out]
            exact spec_l3Bin _ p x.code k W (HP.out.on hW) g1 g2 hk4 hord
          have e1 := d1 w3 l33
          have e2 := d2 w3 l33
          have hbx : b' < w3.heap.size := hb'
          go_wp2
          go_region_held3 (fun W => Below w0.heap.size w0 W ∧ Below w3.heap.size w3 W) (first | exact ⟨ld, later_drew l33⟩ | exact ⟨later_trans ld b4, later_trans (later_drew l33) b4⟩) (first | (go_at_call 77; refine (HC.out _ ld).mono ?_; rintro e w4 ⟨rfl, b4⟩))
          have l4 := later_trans ld b4
          have B4 : Below w3.heap.size w3 w4 := later_trans ((Below.refl _ _).drew) b4
          have HO4 := Lib.hid (HOI.out.below B4)
          have HW4 := Lib.hid (HWI.out.below B4)
          have HB4 := Lib.hid (HBI.out.below B4)
          have f1 := d1 w4 B4
          have f2 := d2 w4 B4
          have hs4 : w0.heap.size ≤ w4.heap.size := l4.size
          have hbx4 : b' < w4.heap.size := Nat.lt_of_lt_of_le hb' B4.size
          clear b4 B4 ld l33 d1 d2 e1 e2 hbx
          have hrl := HRL.out
          by_cases hneg : r < 0
          · obtain ⟨HX3, HX4⟩ : Hid (addTo f K (ws.take (q + 1)) = L) ∧ Hid (restOf f (ws.take (q + 1)) = rs ++ [x]) := ⟨(HX2.out.1 (by rw [HRR.out]; exact hneg)).1, (HX2.out.1 (by rw [HRR.out]; exact hneg)).2⟩
            go_wp2_with (at_builtin; refine wpList_append1' (α := Ltr) rfl (.tmp 90) (.tmp 95) 34 rfl w0.heap.size 44 i1 _ 24 Try.underlying34 ji jz0 jz1 jz2 rfl (by decide) (.slice AI rs.length cI) rs x rfl (HO4.out.alloc _) ⟨w4.heap.size, 0, none⟩ 1 (Ltr.cells x) rfl ⟨⟨hxi, hxc⟩, rfl⟩ (news_at w4 _ (Ltr.cells x)) (by unfold maxLen; omega) (by omega) (by simp; omega) ?_; intro g cap w5 ho5 hg5 ha5 hl5)
            have HB5 := Lib.hid (farLL_grown (HB4.out.below ((Below.refl _ _).alloc (Nat.le_refl _) _)) HFARi.out hg5)
            have HW5 := Lib.hid ((HW4.out.below ((Below.refl _ _).alloc (Nat.le_refl _) (Obj.cells #[Value.int IntKind.i64 x.id, Value.string x.code] 44))).grown hg5 (apart_symm HAPW.out))
            have l5 : Below w0.heap.size w0 w5 := (later_alloc l4 (Obj.cells #[Value.int IntKind.i64 x.id, Value.string x.code] 44)).grown hg5 (by simp; omega) fun q hq => (HO4.out.blk q hq).1
            have HFAR5 : Hid (farLL (.slice (some ⟨g, 0, none⟩) (rs.length + 1) cap) (.slice (some ⟨G, 0, none⟩) xss.length xss.length) vs2) := farLL_app HB4.out HFARi.out ha5 (by simp)
            have HAP5 : Hid (apart (.slice (some ⟨g, 0, none⟩) (rs.length + 1) cap) (.slice (some ⟨b', o', none⟩) ws.length cW)) := apart_app HAPW.out ha5 fun j hj => by have := (HW4.out.blk j hj).2; simp; omega
            go_wp2
            go_roundw
            case rel => exact ⟨q + 1, vs2, by omega, by go_num, l5, by rw [HX3.out]; exact HB5.out, by rw [HX4.out]; exact ho5, HW5.out, HFAR5, HFARw.out, HAP5⟩
            case measure => simp [intOf]; omega
          · obtain ⟨d, hd⟩ := Int.eq_ofNat_of_zero_le (show 0 ≤ r by omega)
            have hLj : d < L.length := by have := HALN.out; omega
            obtain ⟨HX3, HX4⟩ : Hid (addTo f K (ws.take (q + 1)) = L.set d (L[d] ++ [x])) ∧ Hid (restOf f (ws.take (q + 1)) = rs) := ⟨(HX2.out.2 d (by rw [HRR.out]; exact hd) hLj).1, (HX2.out.2 d (by rw [HRR.out]; exact hd) hLj).2⟩
            have hql : L[d].length ≤ 120 := HAL.out d hLj
            obtain ⟨qs, hqs⟩ : ∃ qs, qs = L[d] := ⟨_, rfl⟩
            have HQS := Lib.hid hqs
            obtain ⟨hlv, hov, hgv⟩ : ∃ hlv : d < vs2.length, own 44 w0.heap.size w4 vs2[d] qs ∧ apart vs2[d] (.slice (some ⟨G, 0, none⟩) xss.length xss.length) := by
              obtain ⟨z1, z2, z3, z4, z5⟩ := HB4.out
              have h3 := z3 d (by omega) hLj
              rw [← hqs] at h3
              exact ⟨by omega, h3, z5 d (by omega)⟩
            rw [← hqs] at hql
            clear hqs
            have hcG : w4.cell? ⟨G, d, none⟩ = some vs2[d] := own_cellv HB4.out.1 d hlv
            have hfG : w4.frozen? ⟨G, d, none⟩ = false := HB4.out.1.freeAt d
            obtain ⟨u, hu⟩ : ∃ u, u = vs2[d] := ⟨_, rfl⟩
            have HUU := Lib.hid hu
            rw [← hu] at hov hgv hcG
            clear hu
            obtain ⟨Au, mu, cu, rfl, hmu, _, _, _⟩ := hov.rd
            subst hmu
            have HOV := Lib.hid hov; clear hov
            have HGV := Lib.hid hgv; clear hgv
            have HD := Lib.hid hd
            rw [HD.out]
            have hdn : (d : Int) < (xss.length : Int) := by omega
            have hd0 : ¬ ((d : Int) < 0) := by omega
            clear hd hneg fx1 fx2
            have hGs : some G ≠ (Value.slice Au qs.length cu).ownBlock := by
              have h := HGV.out
              unfold apart at h
              rcases h with h | h
              · rw [h]; simp
              · exact fun e => h e.symm
            have HGS := Lib.hid hGs; clear hGs
            have hGlt : G < w4.heap.size := (HB4.out.1.blk G rfl).2
            go_wp2
            go_region_law (first | ((refine step_append1 (α := Ltr) (by rfl) (.tmp 102) (.tmp 107) 34 (by rfl) w0.heap.size 44 i1 _ 24 Try.underlying34 ji jz0 jz1 jz2 rfl (by decide) (.slice Au qs.length cu) qs x (by rfl) ((HOV.out.alloc _).drew) ⟨w4.heap.size, 0, none⟩ 1 (Ltr.cells x) (by rfl) ⟨⟨hxi, hxc⟩, rfl⟩ (news_drew w4 _ (Ltr.cells x)) (by unfold maxLen; omega) (by omega) (by simp; omega) ?_; intro g cap w5 ho5 hg5 ha5 hl5; have hcG5 : w5.cell? ⟨G, d, none⟩ = some (.slice Au qs.length cu) := (hg5.cell_far ⟨G, d, none⟩ (by simp; omega) HGS.out).trans (by go_simp); have hfG5 : w5.frozen? ⟨G, d, none⟩ = false := (hg5.frozen_far ⟨G, d, none⟩ (by simp; omega) HGS.out).trans (by go_simp))))
            all_goals
              have hWD : Below w4.heap.size w4 (w4.alloc (Obj.cells #[Value.int IntKind.i64 x.id, Value.string x.code] 44)).drew := later_drew (later_alloc (Below.refl _ _) _)
              obtain ⟨p1, p2, p3⟩ := place_step HB4.out HO4.out HFARi.out hWD hlv hLj HUU.out HQS.out ho5 hg5 ha5
              obtain ⟨_, p5, p6⟩ := place_step HB4.out HW4.out HFARw.out hWD hlv hLj HUU.out HQS.out ho5 hg5 ha5
              have p4 := place_later (G := G) (d := d) (g := g) (m := qs.length + 1) (cap := cap) (later_drew (later_alloc l4 (Obj.cells #[Value.int IntKind.i64 x.id, Value.string x.code] 44))) hg5 (fun j hj => (HOV.out.blk j hj).1) hG0
              have P1 := Lib.hid p1; have P2 := Lib.hid p2; have P3 := Lib.hid p3; have P5 := Lib.hid p5; have P6 := Lib.hid p6
              clear p1 p2 p3 p5 p6 hWD
              go_wp2
              go_roundw
              case rel => exact ⟨q + 1, _, by omega, by go_num, p4, by rw [HX3.out]; exact P1.out, by rw [HX4.out]; exact P2.out, P5.out, P3.out, P6.out, HAPW.out⟩
              case measure => simp [intOf]; omega
        · have HJE := Lib.hid (show q = ws.length by omega)
          go_wp2
          go_ret2
          have hB := HBI.out
          have hF := HFARi.out
          rw [HJE.out, List.take_length, ← HYB.out] at hB
          rw [HJE.out, List.take_length, ← HYO.out] at hOi
          exact ⟨_, _, vs2, rfl, hB.base_ hwlt, hOi.base_ hwlt, hF, later_trans HT.out li⟩

end Go.Proofs.Ytekjjgnokjhleaa
