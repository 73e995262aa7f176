/- B13 B14 -/
import Derived.Test.YtpinkbodbedajaaGreatDoorQ17
import Derived.Test.YtpinkbodbedajaaGreatDoorQ7
namespace Go.Proofs.YtpinkbodbedajaaGreatDoor
open Go.RowKit

theorem rd.rows {α : Type} [El α] {w : World} {B n c : Nat} {A : Option Addr} {xs : List α} (h : rd w B (.slice A n c) xs) : rdA w B A xs := by
  obtain ⟨A', n', c', h1, _, _, _, hr⟩ := h
  injection h1 with h1 h2 h3
  subst h1
  exact hr
theorem row_le_flat {α : Type} {xss : List (List α)} {k : Nat} (h : k < xss.length) : xss[k].length ≤ xss.flatten.length := (List.sublist_flatten_of_mem (List.getElem_mem h)).length_le
theorem kept_row_len (f : Ltr → Int) (xss : List (List Ltr)) (n d : Nat) (h : d < (keptTo f xss n).length) : (keptTo f xss n)[d].length ≤ xss.flatten.length := by
  rw [keptTo_get]
  have hd : d < xss.length := by rw [keptTo_len] at h; exact h
  split
  · rw [List.getD_eq_getElem?_getD, List.getElem?_eq_getElem hd]
    exact Nat.le_trans (kpRow_len _ _ _) (row_le_flat hd)
  · simp
theorem add_row_len (f : Ltr → Int) (base : List (List Ltr)) (zs : List Ltr) (d B : Nat) (h : d < (addTo f base zs).length) (hb : ∀ d (h : d < base.length), base[d].length ≤ B) : (addTo f base zs)[d].length ≤ B + zs.length := by
  have hd : d < base.length := by rw [addTo_len] at h; exact h
  rw [addTo_get _ _ _ _ _ hd, List.length_append]
  have := hb d hd
  have := kpRow_len f d zs
  omega

set_option maxRecDepth 100000 in
set_option maxHeartbeats 6400000 in
theorem impl_RepairBins (v vb : Value) (p : Pln) (xss : List (List Ltr)) (k : Int) (w : World) (hv : rdP w w.heap.size v p) (hb : rd w w.heap.size vb xss) :
    Calls Tryz.prog 260 #[v, vb, .int .i64 k] w fun e w' => ∃ vB vO vs, e = .returned (.tuple #[vB, vO, .bool (binsOk p xss k)]) ∧ isLL 29 89 w.heap.size w' vB (rbBins p xss k) vs ∧ own 89 w.heap.size w' vO (rbRest p xss k) ∧ farLL vO vB vs ∧ Below w.heap.size w w' := by
  obtain ⟨A0, c0, e0⟩ := openP hv
  obtain ⟨w0, hw0⟩ : ∃ w0, w0 = w.alloc (Obj.cells #[.int .i64 p.bins, .int .i64 p.passes, .slice A0 p.order.length c0] 25) := ⟨_, rfl⟩
  have q0 := box_cells hw0 0 (.int .i64 p.bins) rfl
  have q1 := box_cells hw0 1 (.int .i64 p.passes) rfl
  have q2 := box_cells hw0 2 (.slice A0 p.order.length c0) rfl
  have HT := Lib.hid (box_later hw0).1
  have HP := Lib.hid (hv.on HT.out)
  have HB := Lib.hid (hb.on HT.out)
  obtain ⟨A, n, c, rfl, hn, hc, hm, hr⟩ := hb.on HT.out
  subst hn
  unfold maxLen at hm
  have HR := Lib.hid hr; clear hr
  subst e0
  have hz0 : w0.heap.size = w.heap.size + 1 := by subst hw0; simp
  have HZ0 := Lib.hid hz0; clear hz0
  have HW0 := Lib.hid hw0; clear hw0 hv hb
  have l0 := Below.refl w0.heap.size w0
  have hwlt : w.heap.size ≤ w0.heap.size := HT.out.size
  have HNO : Hid (∀ h : binsOk p xss k = false, ∀ W : World, isLL 29 89 w.heap.size W (.slice none 0 0) (rbBins p xss k) [] ∧ own 89 w.heap.size W (.slice none 0 0) (rbRest p xss k)) := fun h W => by
    unfold rbBins rbRest; rw [h]; exact ⟨isLL_nil _ _ _ _, own.nil_ _ _ _⟩
  obtain ⟨i0, hi, hzz, hz1, hz2⟩ := info_parts Tryz.infoRow
  obtain ⟨i1, ji, jz0, jz1, jz2⟩ := info_parts Tryz.infoLtr
  go_enter Tryz.func260, Tryz.ntmps260
  go_wp2_with fail
  rw [← HW0.out]
  refine (impl_binsOfPass _ _ p xss k _ HP.out HB.out).mono ?_
  rintro e w1 ⟨rfl, b1⟩
  have l1 := later_trans l0 b1
  cases h1 : binsOk p xss k
  · have HF := Lib.hid h1; clear h1
    go_wp2_with fail
    go_ret3
    exact ⟨_, _, [], ret_tup (by rw [HF.out] <;> rfl), (HNO.out HF.out _).1, (HNO.out HF.out _).2, ⟨.inl rfl, fun k h => absurd h (Nat.not_lt_zero k)⟩, later_trans HT.out l1⟩
  obtain ⟨hk1, hk2, hk3⟩ := binsOk_iff.1 h1
  obtain ⟨hp1, hp2, hp3⟩ := passOk_iff.1 hk1
  obtain ⟨g1, g2, g3, g4, g5⟩ := planOk_bins hp1
  have HF := Lib.hid h1; clear h1 hk1 hp1
  have HFL := Lib.hid (okB_len' hk3)
  have hx16 : xss.length ≤ 16 := by omega
  obtain ⟨N, hN⟩ : ∃ N, xss.length = N := ⟨_, rfl⟩
  have HBN := Lib.hid hk2
  clear hk3 hk2
  obtain ⟨k, rfl⟩ := Int.eq_ofNat_of_zero_le hp2
  have hk4 : k ≤ 4 := by omega
  obtain ⟨f, HFF⟩ : ∃ f : Ltr → Int, Hid (f = rbF p (k : Int)) := ⟨_, rfl⟩
  have HFX : Hid (∀ x, f x = binI p x.code k) := fun x => by rw [HFF.out]; show binI p x.code _ = _; rw [Int.toNat_natCast]
  have HFR : Hid (∀ x, -1 ≤ f x ∧ f x < xss.length) := fun x => by
    rw [HFX.out]
    have h1 := binI_range p x.code k g1
    have h2 := HBN.out
    omega
  have HY : Hid (rbBins p xss (k : Int) = addTo f (keptTo f xss xss.length) (wlTo f xss xss.length) ∧ rbRest p xss (k : Int) = restOf f (wlTo f xss xss.length)) := by
    unfold rbBins rbRest; rw [HF.out, HFF.out]; exact ⟨rfl, rfl⟩
  clear hp2 hp3 hN
  have hmk := make_row (P := Tryz.prog) 37 29 i0 _ Tryz.underlying37 hi hzz xss.length (by rw [hz2]; omega) (by omega)
  go_wp2
  obtain ⟨vs0, hoz⟩ := made_nil_row (α := Ltr) w1 29 89 xss.length w0.heap.size l1.size (by unfold maxLen; omega)
  have lz : Below w0.heap.size w0 (w1.alloc (Obj.cells (madeCells #[.slice none 0 0] xss.length) 29)) := later_alloc l1 _
  have hG0 : w0.heap.size ≤ w1.heap.size := l1.size
  generalize (w1.alloc (Obj.cells (madeCells #[.slice none 0 0] xss.length) 29)) = wz at *
  generalize w1.heap.size = G at *
  clear b1 l1 hmk
  have HOZ := Lib.hid hoz; clear hoz
  go_loopw [10, 29] (fun t i wr => ∃ (j : Nat) (vs : List Value), j ≤ xss.length ∧ i = .int .i64 j ∧ Below w0.heap.size w0 wr ∧ isLL 29 89 w0.heap.size wr (.slice (some ⟨G, 0, none⟩) xss.length xss.length) (keptTo f xss j) vs ∧ own 89 w0.heap.size wr t (wlTo f xss j) ∧ Hid (farLL t (.slice (some ⟨G, 0, none⟩) xss.length xss.length) vs)) (fun _ i _ => xss.length - (intOf i).toNat)
  case atStart =>
    refine ⟨0, vs0, Nat.zero_le _, rfl, lz, ?_, own.nil_ _ _ _, .inl rfl, fun k hk => .inl rfl⟩
    rw [keptTo_nil]
    exact HOZ.out
  case round =>
    obtain ⟨j, vs, hj, rfl, lr, hB, hO, HFAR⟩ := hrel
    obtain ⟨w2, rfl⟩ : ∃ w2 : World, w2 = wr := ⟨_, rfl⟩
    have HBB := Lib.hid hB; have HO := Lib.hid hO
    clear lz HOZ hB l0
    by_cases hlt : j < xss.length
    · obtain ⟨AO, mO, cO, rfl, hmO, _, _, _⟩ := hO.rd
      subst hmO
      clear hO
      obtain ⟨b, o, u, rfl, hb, hu, c1⟩ := HR.out.rowU j hlt
      have HS1 := Lib.hid (keptTo_done (f := f) hlt)
      have HS2 := Lib.hid (wlTo_succ (f := f) hlt)
      have HS0 := Lib.hid (keptTo_start (f := f) hlt)
      have HL : Hid ((wlTo f xss j).length + xss[j].length ≤ 60) := by
        show _ ≤ _
        have h1 := wlTo_le f xss j (by omega)
        have h2 := flatten_take_len xss (j + 1)
        rw [List.take_succ_eq_append_getElem hlt, List.flatten_append, List.length_append] at h2
        simp only [List.flatten_cons, List.flatten_nil, List.append_nil] at h2
        have := HFL.out
        omega
      generalize xss[j] = ys at *
      obtain ⟨K, HK⟩ : ∃ K, Hid (keptTo f xss j = K) := ⟨_, rfl⟩
      have HKL : Hid (j < K.length) := by show _ < _; rw [← HK.out, keptTo_len]; exact hlt
      rw [HK.out] at HBB HS1 HS0
      generalize wlTo f xss j = zs at *
      obtain ⟨A2, m2, c2, rfl, hm2, hc2, hmm2, hr2⟩ := hu
      subst hm2
      unfold maxLen at hmm2
      have HU := Lib.hid hr2; clear hr2
      have hji : (j : Int) < (xss.length : Int) := by omega
      go_wp2_with fail
      go_loopw [10, 36] (fun t i wi => ∃ (m : Nat) (vs : List Value), m ≤ ys.length ∧ i = .int .i64 m ∧ Below w0.heap.size w0 wi ∧ isLL 29 89 w0.heap.size wi (.slice (some ⟨G, 0, none⟩) xss.length xss.length) (K.set j (kpRow f j (ys.take m))) vs ∧ own 89 w0.heap.size wi t (zs ++ wlRow f j (ys.take m)) ∧ Hid (farLL t (.slice (some ⟨G, 0, none⟩) xss.length xss.length) vs)) (fun _ i _ => ys.length - (intOf i).toNat)
      case atStart =>
        refine ⟨0, vs, Nat.zero_le _, rfl, lr, ?_, by simpa [wlRow] using HO.out, HFAR.out⟩
        rw [List.take_zero, HS0.out]
        exact HBB.out
      case round =>
        obtain ⟨m, vs2, hm', rfl, li, hBi, hOi, HFARi⟩ := hrel
        obtain ⟨w3, rfl⟩ : ∃ w3 : World, w3 = wr := ⟨_, rfl⟩
        have HBI := Lib.hid hBi; clear hBi lr HBB HO HFAR
        by_cases hmt : m < ys.length
        · have HOI := Lib.hid hOi
          obtain ⟨AI, mI, cI, rfl, hmI, _, _, _⟩ := hOi.rd
          subst hmI
          clear hOi
          obtain ⟨b', o', rfl, hb', ⟨hxi, hxc⟩, d1, d2⟩ := HU.out.ltrU m hmt
          have HKH : Hid (∀ h : f ys[m] = (j : Int), K.set j (kpRow f j (ys.take (m + 1))) = (K.set j (kpRow f j (ys.take m))).set j ((K.set j (kpRow f j (ys.take m)))[j]'(by rw [List.length_set]; exact HKL.out) ++ [ys[m]]) ∧ wlRow f j (ys.take (m + 1)) = wlRow f j (ys.take m)) := fun h => by
            refine ⟨?_, wlRow_hit hmt h⟩
            rw [kpRow_hit hmt h]
            exact (set_push (L := K) (r := kpRow f j (ys.take m)) (by rw [List.length_set]; exact HKL.out) rfl).symm
          have HKM : Hid (∀ h : f ys[m] ≠ (j : Int), K.set j (kpRow f j (ys.take (m + 1))) = K.set j (kpRow f j (ys.take m)) ∧ wlRow f j (ys.take (m + 1)) = wlRow f j (ys.take m) ++ [ys[m]]) := fun h => ⟨by rw [kpRow_miss hmt h], wlRow_miss hmt h⟩
          have HWL := Lib.hid (wlRow_len f j (ys.take m))
          have HKPL := Lib.hid (kpRow_len f j (ys.take m))
          have HLJ : Hid (∃ h : j < (K.set j (kpRow f j (ys.take m))).length, (K.set j (kpRow f j (ys.take m)))[j] = kpRow f j (ys.take m)) := ⟨by rw [List.length_set]; exact HKL.out, by rw [List.getElem_set_self]⟩
          obtain ⟨x, hx⟩ : ∃ x, x = ys[m] := ⟨_, rfl⟩
          rw [← hx] at d1 d2 hxi hxc HKH HKM
          clear hx
          have hrl : (wlRow f j (ys.take m)).length ≤ ys.length ∧ (kpRow f j (ys.take m)).length ≤ ys.length := by have h1 := HWL.out; have h2 := HKPL.out; rw [List.length_take] at h1 h2; omega
          obtain ⟨L, hL⟩ : ∃ L, L = K.set j (kpRow f j (ys.take m)) := ⟨_, rfl⟩
          have HLE := Lib.hid hL; clear hL
          generalize wlRow f j (ys.take m) = rs at *
          generalize kpRow f j (ys.take m) = qs at *
          obtain ⟨hLj, hLq⟩ := HLJ.out
          obtain ⟨wl, hwl⟩ : ∃ wl : World, wl = w3.alloc (Obj.cells #[.int .i64 x.id, .string x.code] 89) := ⟨_, rfl⟩
          have y0 := box_cells hwl 0 (.int .i64 x.id) rfl
          have y1 := box_cells hwl 1 (.string x.code) rfl
          have ll := later_trans li (box_later hwl).1
          have BL := Lib.hid (box_later hwl).1
          have hwll : w3.heap.size < wl.heap.size := (box_later hwl).2
          have HWL2 := Lib.hid hwl; clear hwl
          have hmi : (m : Int) < (ys.length : Int) := by omega
          obtain ⟨r, HRR⟩ : ∃ r, Hid (f x = r) := ⟨_, rfl⟩
          go_wp2_with fail
          rw [← HWL2.out]
          refine (impl_binOf _ p x.code k _ (HP.out.on ll) g1 g2 hk4 (by omega)).mono ?_
          rw [← HFX.out, HRR.out]
          rintro e w4 ⟨rfl, b4⟩
          have l4 := later_trans ll b4
          have m4 := later_trans (Below.refl wl.heap.size wl) b4
          have B4 := BL.out.trans (m4.mono BL.out.size)
          have HO4 := Lib.hid (HOI.out.below B4)
          have HB4 := Lib.hid (HBI.out.below B4)
          have hs4 : w0.heap.size ≤ w4.heap.size := l4.size
          have hs5 : wl.heap.size ≤ w4.heap.size := m4.size
          clear b4 B4
          have hzl : (zs ++ rs).length ≤ 60 := by rw [List.length_append]; have := HL.out; omega
          generalize hzr : zs ++ rs = zr at *
          have HZR := Lib.hid hzr; clear hzr
          by_cases hrj : r = (j : Int)
          · have hrj' : (r == (j : Int)) = true := by simp [hrj]
            have hql : qs.length ≤ 60 := by have := HL.out; omega
            obtain ⟨HX1, HX2⟩ : Hid (K.set j (kpRow f j (ys.take (m + 1))) = (K.set j qs).set j ((K.set j qs)[j]'hLj ++ [x])) ∧ Hid (wlRow f j (ys.take (m + 1)) = rs) := ⟨(HKH.out (by rw [HRR.out]; exact hrj)).1, (HKH.out (by rw [HRR.out]; exact hrj)).2⟩
            have HE := Lib.hid hrj; clear hrj
            obtain ⟨hlv, hov, hgv⟩ : ∃ hlv : j < vs2.length, own 89 w0.heap.size w4 vs2[j] qs ∧ apart vs2[j] (.slice (some ⟨G, 0, none⟩) xss.length xss.length) := by
              obtain ⟨z1, z2, z3, z4, z5⟩ := HB4.out
              have h3 := z3 j (by omega) hLj
              rw [hLq] at h3
              exact ⟨by omega, h3, z5 j (by omega)⟩
            have hcG : w4.cell? ⟨G, j, none⟩ = some vs2[j] := own_cellv HB4.out.1 j hlv
            have hfG : w4.frozen? ⟨G, j, none⟩ = false := HB4.out.1.freeAt j
            obtain ⟨u, hu⟩ : ∃ u, u = vs2[j] := ⟨_, rfl⟩
            have HUU := Lib.hid hu
            rw [← hu] at hov hgv hcG
            clear hu
            obtain ⟨Au, mu, cu, rfl, hmu, _, _, _⟩ := hov.rd
            subst hmu
            have HOV := Lib.hid hov; clear hov
            have HGV := Lib.hid hgv; clear hgv
            have x0 := y0 w4 m4
            have x1 := y1 w4 m4
            have hGs : some G ≠ (Value.slice Au qs.length cu).ownBlock := by
              have h := HGV.out
              unfold apart at h
              rcases h with h | h
              · rw [h]; simp
              · exact fun e => h e.symm
            have HGS := Lib.hid hGs; clear hGs
            have hGlt : G < w4.heap.size := (HB4.out.1.blk G rfl).2
            go_wp2
            go_region_law (first | go_loud ((refine step_append1 (α := Ltr) (by rfl) (.tmp 52) (.tmp 54) 29 (by rfl) w0.heap.size 89 i1 _ 24 Tryz.underlying29 ji jz0 jz1 jz2 rfl (by decide) (.slice Au qs.length cu) qs x (by rfl) ((HOV.out.alloc _).drew) ⟨w4.heap.size, 0, none⟩ 1 (Ltr.cells x) (by rfl) ⟨⟨hxi, hxc⟩, rfl⟩ (news_drew w4 _ (Ltr.cells x)) (by unfold maxLen; omega) (by omega) (by simp; omega) ?_; intro g cap w5 ho5 hg5 ha5 hl5; have hcG5 : w5.cell? ⟨G, j, none⟩ = some (.slice Au qs.length cu) := (hg5.cell_far ⟨G, j, none⟩ (by simp; omega) HGS.out).trans (by go_simp); have hfG5 : w5.frozen? ⟨G, j, none⟩ = false := (hg5.frozen_far ⟨G, j, none⟩ (by simp; omega) HGS.out).trans (by go_simp))))
            all_goals
              have hWD : Below w4.heap.size w4 (w4.alloc (Obj.cells #[Value.int IntKind.i64 x.id, Value.string x.code] 89)).drew := later_drew (later_alloc (Below.refl _ _) _)
              obtain ⟨p1, p2, p3⟩ := place_step HB4.out HO4.out HFARi.out hWD hlv hLj HUU.out hLq.symm ho5 hg5 ha5
              have p4 := place_later (G := G) (d := j) (g := g) (m := qs.length + 1) (cap := cap) (later_drew (later_alloc l4 (Obj.cells #[Value.int IntKind.i64 x.id, Value.string x.code] 89))) hg5 (fun j hj => (HOV.out.blk j hj).1) hG0
              have P1 := Lib.hid p1; have P2 := Lib.hid p2; have P3 := Lib.hid p3
              clear p1 p2 p3 hWD
              go_wp2
              go_roundw
              case rel => exact ⟨m + 1, _, by omega, by go_num, p4, by rw [HX1.out]; exact P1.out, by rw [HX2.out, HZR.out]; exact P2.out, P3.out⟩
              case measure => simp [intOf]; omega
          · have hrj' : (r == (j : Int)) = false := by simp [hrj]
            obtain ⟨HX1, HX2⟩ : Hid (K.set j (kpRow f j (ys.take (m + 1))) = K.set j qs) ∧ Hid (wlRow f j (ys.take (m + 1)) = rs ++ [x]) := ⟨(HKM.out (by rw [HRR.out]; exact hrj)).1, (HKM.out (by rw [HRR.out]; exact hrj)).2⟩
            have HE := Lib.hid hrj; clear hrj
            go_wp2_with (at_builtin; refine wpList_append1' (α := Ltr) rfl (.tmp 57) (.tmp 59) 29 rfl w0.heap.size 89 i1 _ 24 Tryz.underlying29 ji jz0 jz1 jz2 rfl (by decide) (.slice AI zr.length cI) zr x rfl (HO4.out.alloc _) ⟨w4.heap.size, 0, none⟩ 1 (Ltr.cells x) rfl ⟨⟨hxi, hxc⟩, rfl⟩ (news_at w4 _ (Ltr.cells x)) (by unfold maxLen; omega) (by omega) (by simp; omega) ?_; intro g cap w5 ho5 hg5 ha5 hl5)
            have HB5 := Lib.hid (farLL_grown (HB4.out.below ((Below.refl _ _).alloc (Nat.le_refl _) _)) HFARi.out hg5)
            have l5 : Below w0.heap.size w0 w5 := (later_alloc l4 (Obj.cells #[Value.int IntKind.i64 x.id, Value.string x.code] 89)).grown hg5 (by simp; omega) fun q hq => (HO4.out.blk q hq).1
            have HFAR5 : Hid (farLL (.slice (some ⟨g, 0, none⟩) (zr.length + 1) cap) (.slice (some ⟨G, 0, none⟩) xss.length xss.length) vs2) := farLL_app HB4.out HFARi.out ha5 (by simp)
            go_wp2
            go_roundw
            case rel => exact ⟨m + 1, vs2, by omega, by go_num, l5, by rw [HX1.out]; exact HB5.out, by rw [HX2.out, ← List.append_assoc, HZR.out]; exact ho5, HFAR5⟩
            case measure => simp [intOf]; omega
        · have HE := Lib.hid (show m = ys.length by omega)
          rw [HE.out, List.take_length, ← HS2.out] at hOi
          have hBi := HBI.out
          rw [HE.out, List.take_length, HS1.out] at hBi
          have HO2 := Lib.hid hOi; clear hOi
          have HB2 := Lib.hid hBi; clear hBi
          go_wp2_with fail
          go_roundw
          case rel => exact ⟨j + 1, vs2, by omega, by go_num, li, HB2.out, HO2.out, HFARi.out⟩
          case measure => simp [intOf]; omega
    · have HE := Lib.hid (show j = xss.length by omega)
      have hB := HBB.out
      rw [HE.out] at hB hO
      have HWLE := Lib.hid (wlTo_le' f xss)
      have HKRL : Hid (∀ d (h : d < (keptTo f xss xss.length).length), (keptTo f xss xss.length)[d].length ≤ 60) := fun d h => Nat.le_trans (kept_row_len f xss xss.length d h) HFL.out
      have HYB := Lib.hid HY.out.1
      have HYO := Lib.hid HY.out.2
      obtain ⟨K, hK⟩ : ∃ K, keptTo f xss xss.length = K := ⟨_, rfl⟩
      rw [hK] at hB HKRL HYB
      have HKL : Hid (K.length = xss.length) := by show _ = _; rw [← hK, keptTo_len]
      clear hK
      generalize wlTo f xss xss.length = ws at *
      have hws : ws.length ≤ 60 := Nat.le_trans HWLE.out HFL.out
      have HBB2 := Lib.hid hB; clear hB HBB HO
      obtain ⟨AW, mW, cW, rfl, hmW, _, _, _⟩ := hO.rd
      subst hmW
      have HOW := Lib.hid hO; clear hO
      clear HR HB
      go_wp2_with fail
      go_loopw [11, 65] (fun t i wi => ∃ (q : Nat) (vs : List Value), q ≤ ws.length ∧ i = .int .i64 q ∧ Below w0.heap.size w0 wi ∧ isLL 29 89 w0.heap.size wi (.slice (some ⟨G, 0, none⟩) xss.length xss.length) (addTo f K (ws.take q)) vs ∧ own 89 w0.heap.size wi t (restOf f (ws.take q)) ∧ own 89 w0.heap.size wi (.slice AW ws.length cW) ws ∧ Hid (farLL t (.slice (some ⟨G, 0, none⟩) xss.length xss.length) vs) ∧ Hid (farLL (.slice AW ws.length cW) (.slice (some ⟨G, 0, none⟩) xss.length xss.length) vs) ∧ Hid (apart t (.slice AW ws.length cW))) (fun _ i _ => ws.length - (intOf i).toNat)
      case atStart =>
        refine ⟨0, vs, Nat.zero_le _, rfl, lr, ?_, own.nil_ _ _ _, HOW.out, ⟨.inl rfl, fun k hk => .inl rfl⟩, HFAR.out, .inl rfl⟩
        rw [List.take_zero, addTo_nil]
        exact HBB2.out
      case round =>
        obtain ⟨q, vs2, hq, rfl, li, hBi, hOi, hWi, HFARi, HFARw, HAPW⟩ := hrel
        obtain ⟨w3, rfl⟩ : ∃ w3 : World, w3 = wr := ⟨_, rfl⟩
        have HBI := Lib.hid hBi; clear hBi lr HBB2 HFAR HOW
        have HWI := Lib.hid hWi; clear hWi
        by_cases hqt : q < ws.length
        · have HOI := Lib.hid hOi
          obtain ⟨AI, mI, cI, rfl, hmI, _, _, _⟩ := hOi.rd
          subst hmI
          clear hOi
          obtain ⟨b', o', rfl, hb', ⟨hxi, hxc⟩, d1, d2⟩ := HWI.out.rd.rows.ltrU q hqt
          have HX : Hid (∀ x, x = ws[q] → (f x < 0 → addTo f K (ws.take (q + 1)) = addTo f K (ws.take q) ∧ restOf f (ws.take (q + 1)) = restOf f (ws.take q) ++ [x]) ∧ ∀ d : Nat, f x = (d : Int) → ∀ hd : d < (addTo f K (ws.take q)).length, addTo f K (ws.take (q + 1)) = (addTo f K (ws.take q)).set d ((addTo f K (ws.take q))[d] ++ [x]) ∧ restOf f (ws.take (q + 1)) = restOf f (ws.take q)) := fun x hx => by
            subst hx
            exact ⟨fun h => ⟨addTo_skip hqt h, restOf_step hqt h⟩, fun d hd hd' => ⟨addTo_hit hqt hd hd', restOf_skip hqt (by omega)⟩⟩
          have HRL := Lib.hid (show (restOf f (ws.take q)).length ≤ 60 from Nat.le_trans (filter_len_le _ ws q) (by omega))
          have HAL : Hid (∀ d (h : d < (addTo f K (ws.take q)).length), (addTo f K (ws.take q))[d].length ≤ 120) := fun d h => by
            have h1 := add_row_len f K (ws.take q) d 60 h HKRL.out
            have h2 := List.length_take_le q ws
            omega
          have HALN : Hid ((addTo f K (ws.take q)).length = xss.length) := by show _ = _; rw [addTo_len]; exact HKL.out
          obtain ⟨x, hx⟩ : ∃ x, x = ws[q] := ⟨_, rfl⟩
          have HX2 := Lib.hid (HX.out x hx)
          rw [← hx] at d1 d2 hxi hxc
          clear hx HX
          replace d1 := d1 w3 (Below.refl _ _)
          replace d2 := d2 w3 (Below.refl _ _)
          generalize addTo f K (ws.take q) = L at *
          generalize restOf f (ws.take q) = rs at *
          obtain ⟨wl, hwl⟩ : ∃ wl : World, wl = w3.alloc (Obj.cells #[.int .i64 x.id, .string x.code] 89) := ⟨_, rfl⟩
          have y0 := box_cells hwl 0 (.int .i64 x.id) rfl
          have y1 := box_cells hwl 1 (.string x.code) rfl
          have ll := later_trans li (box_later hwl).1
          have BL := Lib.hid (box_later hwl).1
          have hwll : w3.heap.size < wl.heap.size := (box_later hwl).2
          have HWL2 := Lib.hid hwl; clear hwl
          have hmi : (q : Int) < (ws.length : Int) := by omega
          obtain ⟨fx1, fx2⟩ := HFR.out x
          obtain ⟨r, HRR⟩ : ∃ r, Hid (f x = r) := ⟨_, rfl⟩
          rw [HRR.out] at fx1 fx2
          go_wp2_with fail
          rw [← HWL2.out]
          refine (impl_binOf _ p x.code k _ (HP.out.on ll) g1 g2 hk4 (by omega)).mono ?_
          rw [← HFX.out, HRR.out]
          rintro e w4 ⟨rfl, b4⟩
          have l4 := later_trans ll b4
          have m4 := later_trans (Below.refl wl.heap.size wl) b4
          have B4 := BL.out.trans (m4.mono BL.out.size)
          have HO4 := Lib.hid (HOI.out.below B4)
          have HW4 := Lib.hid (HWI.out.below B4)
          have HB4 := Lib.hid (HBI.out.below B4)
          have hs4 : w0.heap.size ≤ w4.heap.size := l4.size
          have hs5 : wl.heap.size ≤ w4.heap.size := m4.size
          clear b4 B4
          have hrl := HRL.out
          by_cases hneg : r < 0
          · obtain ⟨HX3, HX4⟩ : Hid (addTo f K (ws.take (q + 1)) = L) ∧ Hid (restOf f (ws.take (q + 1)) = rs ++ [x]) := ⟨(HX2.out.1 (by rw [HRR.out]; exact hneg)).1, (HX2.out.1 (by rw [HRR.out]; exact hneg)).2⟩
            go_wp2_with (at_builtin; refine wpList_append1' (α := Ltr) rfl (.tmp 76) (.tmp 78) 29 rfl w0.heap.size 89 i1 _ 24 Tryz.underlying29 ji jz0 jz1 jz2 rfl (by decide) (.slice AI rs.length cI) rs x rfl (HO4.out.alloc _) ⟨w4.heap.size, 0, none⟩ 1 (Ltr.cells x) rfl ⟨⟨hxi, hxc⟩, rfl⟩ (news_at w4 _ (Ltr.cells x)) (by unfold maxLen; omega) (by omega) (by simp; omega) ?_; intro g cap w5 ho5 hg5 ha5 hl5)
            have HB5 := Lib.hid (farLL_grown (HB4.out.below ((Below.refl _ _).alloc (Nat.le_refl _) _)) HFARi.out hg5)
            have HW5 := Lib.hid ((HW4.out.below ((Below.refl _ _).alloc (Nat.le_refl _) (Obj.cells #[Value.int IntKind.i64 x.id, Value.string x.code] 89))).grown hg5 (apart_symm HAPW.out))
            have l5 : Below w0.heap.size w0 w5 := (later_alloc l4 (Obj.cells #[Value.int IntKind.i64 x.id, Value.string x.code] 89)).grown hg5 (by simp; omega) fun q hq => (HO4.out.blk q hq).1
            have HFAR5 : Hid (farLL (.slice (some ⟨g, 0, none⟩) (rs.length + 1) cap) (.slice (some ⟨G, 0, none⟩) xss.length xss.length) vs2) := farLL_app HB4.out HFARi.out ha5 (by simp)
            have HAP5 : Hid (apart (.slice (some ⟨g, 0, none⟩) (rs.length + 1) cap) (.slice (some ⟨b', o', none⟩) ws.length cW)) := apart_app HAPW.out ha5 fun j hj => by have := (HW4.out.blk j hj).2; simp; omega
            go_wp2
            go_roundw
            case rel => exact ⟨q + 1, vs2, by omega, by go_num, l5, by rw [HX3.out]; exact HB5.out, by rw [HX4.out]; exact ho5, HW5.out, HFAR5, HFARw.out, HAP5⟩
            case measure => simp [intOf]; omega
          · obtain ⟨d, hd⟩ := Int.eq_ofNat_of_zero_le (show 0 ≤ r by omega)
            have hLj : d < L.length := by have := HALN.out; omega
            obtain ⟨HX3, HX4⟩ : Hid (addTo f K (ws.take (q + 1)) = L.set d (L[d] ++ [x])) ∧ Hid (restOf f (ws.take (q + 1)) = rs) := ⟨(HX2.out.2 d (by rw [HRR.out]; exact hd) hLj).1, (HX2.out.2 d (by rw [HRR.out]; exact hd) hLj).2⟩
            have hql : L[d].length ≤ 120 := HAL.out d hLj
            obtain ⟨qs, hqs⟩ : ∃ qs, qs = L[d] := ⟨_, rfl⟩
            have HQS := Lib.hid hqs
            obtain ⟨hlv, hov, hgv⟩ : ∃ hlv : d < vs2.length, own 89 w0.heap.size w4 vs2[d] qs ∧ apart vs2[d] (.slice (some ⟨G, 0, none⟩) xss.length xss.length) := by
              obtain ⟨z1, z2, z3, z4, z5⟩ := HB4.out
              have h3 := z3 d (by omega) hLj
              rw [← hqs] at h3
              exact ⟨by omega, h3, z5 d (by omega)⟩
            rw [← hqs] at hql
            clear hqs
            have hcG : w4.cell? ⟨G, d, none⟩ = some vs2[d] := own_cellv HB4.out.1 d hlv
            have hfG : w4.frozen? ⟨G, d, none⟩ = false := HB4.out.1.freeAt d
            obtain ⟨u, hu⟩ : ∃ u, u = vs2[d] := ⟨_, rfl⟩
            have HUU := Lib.hid hu
            rw [← hu] at hov hgv hcG
            clear hu
            obtain ⟨Au, mu, cu, rfl, hmu, _, _, _⟩ := hov.rd
            subst hmu
            have HOV := Lib.hid hov; clear hov
            have HGV := Lib.hid hgv; clear hgv
            have HD := Lib.hid hd
            rw [HD.out]
            have hdn : (d : Int) < (xss.length : Int) := by omega
            have hd0 : ¬ ((d : Int) < 0) := by omega
            clear hd hneg fx1 fx2
            have x0 := y0 w4 m4
            have x1 := y1 w4 m4
            have hGs : some G ≠ (Value.slice Au qs.length cu).ownBlock := by
              have h := HGV.out
              unfold apart at h
              rcases h with h | h
              · rw [h]; simp
              · exact fun e => h e.symm
            have HGS := Lib.hid hGs; clear hGs
            have hGlt : G < w4.heap.size := (HB4.out.1.blk G rfl).2
            go_wp2
            go_region_law (first | go_loud ((refine step_append1 (α := Ltr) (by rfl) (.tmp 85) (.tmp 87) 29 (by rfl) w0.heap.size 89 i1 _ 24 Tryz.underlying29 ji jz0 jz1 jz2 rfl (by decide) (.slice Au qs.length cu) qs x (by rfl) ((HOV.out.alloc _).drew) ⟨w4.heap.size, 0, none⟩ 1 (Ltr.cells x) (by rfl) ⟨⟨hxi, hxc⟩, rfl⟩ (news_drew w4 _ (Ltr.cells x)) (by unfold maxLen; omega) (by omega) (by simp; omega) ?_; intro g cap w5 ho5 hg5 ha5 hl5; have hcG5 : w5.cell? ⟨G, d, none⟩ = some (.slice Au qs.length cu) := (hg5.cell_far ⟨G, d, none⟩ (by simp; omega) HGS.out).trans (by go_simp); have hfG5 : w5.frozen? ⟨G, d, none⟩ = false := (hg5.frozen_far ⟨G, d, none⟩ (by simp; omega) HGS.out).trans (by go_simp))))
            all_goals
              have hWD : Below w4.heap.size w4 (w4.alloc (Obj.cells #[Value.int IntKind.i64 x.id, Value.string x.code] 89)).drew := later_drew (later_alloc (Below.refl _ _) _)
              obtain ⟨p1, p2, p3⟩ := place_step HB4.out HO4.out HFARi.out hWD hlv hLj HUU.out HQS.out ho5 hg5 ha5
              obtain ⟨_, p5, p6⟩ := place_step HB4.out HW4.out HFARw.out hWD hlv hLj HUU.out HQS.out ho5 hg5 ha5
              have p4 := place_later (G := G) (d := d) (g := g) (m := qs.length + 1) (cap := cap) (later_drew (later_alloc l4 (Obj.cells #[Value.int IntKind.i64 x.id, Value.string x.code] 89))) hg5 (fun j hj => (HOV.out.blk j hj).1) hG0
              have P1 := Lib.hid p1; have P2 := Lib.hid p2; have P3 := Lib.hid p3; have P5 := Lib.hid p5; have P6 := Lib.hid p6
              clear p1 p2 p3 p5 p6 hWD
              go_wp2
              go_roundw
              case rel => exact ⟨q + 1, _, by omega, by go_num, p4, by rw [HX3.out]; exact P1.out, by rw [HX4.out]; exact P2.out, P5.out, P3.out, P6.out, HAPW.out⟩
              case measure => simp [intOf]; omega
        · have HE := Lib.hid (show q = ws.length by omega)
          go_wp2
          go_ret3
          have hB := HBI.out
          have hF := HFARi.out
          rw [HE.out, List.take_length, ← HYB.out] at hB
          rw [HE.out, List.take_length, ← HYO.out] at hOi
          exact ⟨_, _, vs2, ret_tup (by rw [HF.out] <;> rfl), hB.base_ hwlt, hOi.base_ hwlt, hF, later_trans HT.out li⟩

set_option maxRecDepth 100000 in
set_option maxHeartbeats 1600000 in
theorem impl_RunRepaired (v vb vm : Value) (p : Pln) (xs : List Ltr) (k : Int) (ms : List Mis) (w : World) (hv : rdP w w.heap.size v p) (hb : rd w w.heap.size vb xs) (hm : rd w w.heap.size vm ms) :
    Calls Tryz.prog 217 #[v, vb, .int .i64 k, vm] w fun e w' => ∃ vL, e = .returned (.tuple #[vL, .bool (fpOk p xs k ms)]) ∧ own 89 w.heap.size w' vL (rpdRound p xs k ms) ∧ Below w.heap.size w w' := by
  obtain ⟨A0, c0, e0⟩ := openP hv
  obtain ⟨w0, hw0⟩ : ∃ w0, w0 = w.alloc (Obj.cells #[.int .i64 p.bins, .int .i64 p.passes, .slice A0 p.order.length c0] 25) := ⟨_, rfl⟩
  have q0 := box_cells hw0 0 (.int .i64 p.bins) rfl
  have q1 := box_cells hw0 1 (.int .i64 p.passes) rfl
  have q2 := box_cells hw0 2 (.slice A0 p.order.length c0) rfl
  have HT := Lib.hid (box_later hw0).1
  have HP := Lib.hid (hv.on HT.out)
  have HB := Lib.hid (hb.on HT.out)
  have HM := Lib.hid (hm.on HT.out)
  subst e0
  have HW0 := Lib.hid hw0; clear hw0 hv hb hm
  have l0 := Below.refl w0.heap.size w0
  have hwlt : w.heap.size ≤ w0.heap.size := HT.out.size
  have HNO : Hid (∀ h : fpOk p xs k ms = false, ∀ W : World, own 89 w.heap.size W (.slice none 0 0) (rpdRound p xs k ms)) := fun h W => by
    unfold rpdRound; rw [h]; exact own.nil_ _ _ _
  go_enter Tryz.func217, Tryz.ntmps217
  go_wp2_with fail
  rw [← HW0.out]
  refine (impl_faultyValid _ _ _ p xs k ms _ HP.out HB.out HM.out).mono ?_
  rintro e w1 ⟨rfl, b1⟩
  have l1 := later_trans l0 b1
  cases h1 : fpOk p xs k ms
  · have HF := Lib.hid h1; clear h1
    go_wp2_with fail
    go_ret2
    exact ⟨_, ret_tup (by rw [HF.out] <;> rfl), HNO.out HF.out _, later_trans HT.out l1⟩
  obtain ⟨⟨hp1, hp2, hp3⟩, h2, h3⟩ := fpOk_iff.1 h1
  obtain ⟨g1, g2, g3, g4, g5⟩ := planOk_bins hp1
  have hxl := okB_len' h2
  have HG := Lib.hid (misOk_good' h3)
  have HRR := Lib.hid (rpd_round h1)
  have HF := Lib.hid h1; clear h1 h2 h3 hp1
  obtain ⟨k, rfl⟩ := Int.eq_ofNat_of_zero_le hp2
  have HBE : Hid (befBins p xs (k : Int) ms = binsOf (fun x => misBin ms x (binI p x.code k)) p.bins.toNat (passesN p 0 k xs)) := by
    show _ = _; unfold befBins fpF; rw [Int.toNat_natCast]
  have HPL := Lib.hid (passesN_len p k 0 xs)
  go_wp2_with fail
  refine (impl_doPasses _ _ p xs 0 k _ (HP.out.on l1) (HB.out.on l1) g1 g2 (by omega) (Nat.zero_le _) (by omega) (by omega)).mono ?_
  rintro e w2 ⟨vL, vO, rfl, hL, hO, hA, b2⟩
  have l2 := later_trans l1 b2
  have HL := Lib.hid hL
  clear hL hO hA
  go_wp2_with fail
  refine (impl_placeLetters _ _ _ p (passesN p 0 k xs) k ms _ (HP.out.on l2) HL.out.rd (HM.out.on l2) g1 g2 (by omega) (by omega) HG.out (by have := HPL.out; omega)).mono ?_
  rw [← HBE.out]
  rintro e w3 ⟨vB, vO3, vs, rfl, hB, hR, hF, b3⟩
  have l3 := later_trans l2 b3
  have HBB := Lib.hid (show ownLL 29 89 w2.heap.size w3 vB (befBins p xs (k : Int) ms) from ⟨vs, hB⟩)
  clear hB hR hF
  go_wp2_with fail
  refine (impl_RepairBins _ _ p (befBins p xs (k : Int) ms) k _ (HP.out.on l3) HBB.out.rd).mono ?_
  rintro e w4 ⟨vB4, vO4, vs4, rfl, hB4, hR4, hF4, b4⟩
  have l4 := later_trans l3 b4
  have HB4 := Lib.hid (show ownLL 29 89 w3.heap.size w4 vB4 (rbBins p (befBins p xs (k : Int) ms) k) from ⟨vs4, hB4⟩)
  clear hB4 hR4 hF4
  generalize hrb : rbBins p (befBins p xs (k : Int) ms) k = rb at *
  have HRB := Lib.hid hrb; clear hrb
  go_wp2_with fail
  refine (impl_FinishPasses _ _ p rb k _ (HP.out.on l4) HB4.out.rd).mono ?_
  rw [HRR.out.2.1, HRR.out.2.2]
  rintro e w5 ⟨vR, rfl, hR, b5⟩
  have l5 := later_trans l4 b5
  have HR5 := Lib.hid hR; clear hR
  go_wp2_with fail
  go_ret2
  exact ⟨_, ret_tup (by rw [HF.out] <;> rfl), HR5.out.base_ (Nat.le_trans hwlt l4.size), later_trans HT.out l5⟩

end Go.Proofs.YtpinkbodbedajaaGreatDoor

namespace Go.Proofs.YtpinkbodbedajaaGreatDoor
open Go.RowKit


end Go.Proofs.YtpinkbodbedajaaGreatDoor
