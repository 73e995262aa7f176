/- B14 -/
import Derived.Test.YtekjjgnokjhleaaQ27
import Derived.Test.YtekjjgnokjhleaaQ7
namespace Go.Proofs.Ytekjjgnokjhleaa
open Go.RowKit

set_option maxRecDepth 100000 in
set_option maxHeartbeats 800000 in
theorem spec_ownLL (v : Value) (xss : List (List Ltr)) (w : World) (hv : rd w w.heap.size v xss) (hn : xss.length ≤ 1000) (hl : xss.flatten.length ≤ 1048576) :
    Calls Try.prog 72 #[v] w fun e w' => ∃ v' vs, e = .returned v' ∧ isLL 34 44 w.heap.size w' v' xss vs ∧ Below w.heap.size w w' := by
  obtain ⟨A, n, c, rfl, hn', hc, hm, hr⟩ := hv
  subst hn'
  unfold maxLen at hm
  have HR := Lib.hid hr; clear hr
  obtain ⟨i0, hi, hzz, hz1, hz2⟩ := info_parts Try.infoRow
  obtain ⟨i1, ji, jz0, jz1, jz2⟩ := info_parts Try.infoLtr
  go_enter Try.func72, Try.ntmps72
  go_wp2
  have ho0 : own (α := Value) 34 w.heap.size (w.alloc (Obj.cells #[] 34)) (.slice (some ⟨w.heap.size, 0, none⟩) 0 0) [] := own.made0 w _ (Nat.le_refl _)
  have l0 : Below w.heap.size w (w.alloc (Obj.cells #[] 34)) := (Below.refl _ _).alloc (Nat.le_refl _) _
  have HI0 : Hid (isLL (α := Ltr) 34 44 w.heap.size (w.alloc (Obj.cells #[] 34)) (.slice (some ⟨w.heap.size, 0, none⟩) 0 0) [] []) := ⟨ho0, rfl, fun k h => absurd h (Nat.not_lt_zero k), fun j k h => absurd h (Nat.not_lt_zero j), fun k h => absurd h (Nat.not_lt_zero k)⟩
  clear ho0
  generalize (w.alloc (Obj.cells #[] 34)) = w0 at *
  go_loopw [3, 9] (fun t i wr => ∃ (k : Nat) (vs : List Value), k ≤ xss.length ∧ i = .int .i64 k ∧ Below w.heap.size w wr ∧ isLL 34 44 w.heap.size wr t (xss.take k) vs) (fun _ i _ => xss.length - (intOf i).toNat)
  case atStart => exact ⟨0, [], Nat.zero_le _, rfl, l0, HI0.out⟩
  case round =>
    obtain ⟨k, vs, hk, rfl, lr, hB⟩ := hrel
    obtain ⟨w1, rfl⟩ : ∃ w1 : World, w1 = wr := ⟨_, rfl⟩
    have HB := Lib.hid hB
    clear l0 HI0
    by_cases hlt : k < xss.length
    · obtain ⟨AO, mO, cO, rfl, hmO, _, _, _⟩ := hB.1.rd
      subst hmO
      have hvl : vs.length = k := by rw [hB.2.1, List.length_take]; omega
      clear hB
      obtain ⟨b, o, u, rfl, hb, hu, c1⟩ := HR.out.rowU k hlt
      have HS : Hid (xss.take (k + 1) = xss.take k ++ [xss[k]]) := List.take_succ_eq_append_getElem hlt
      have hyl : xss[k].length ≤ 1048576 := Nat.le_trans (row_le_flat hlt) hl
      generalize xss[k] = ys at *
      obtain ⟨A2, m2, c2, rfl, hm2, hc2, hmm2, hr2⟩ := hu
      have HU : Hid (rd w w.heap.size (.slice A2 m2 c2) ys) := ⟨A2, m2, c2, rfl, hm2, hc2, hmm2, hr2⟩
      clear hm2 hc2 hmm2 hr2
      have hki : (k : Int) < (xss.length : Int) := by omega
      have HVL := Lib.hid hvl; clear hvl
      have hs1 : w.heap.size ≤ w1.heap.size := lr.size
      have HE0 : Hid (own (α := Ltr) 44 w1.heap.size (w1.alloc (Obj.cells #[] 44)) (.slice (some ⟨w1.heap.size, 0, none⟩) 0 0) []) := own.made0 w1 _ (Nat.le_refl _)
      have la : Below w1.heap.size w1 (w1.alloc (Obj.cells #[] 44)) := later_alloc (Below.refl _ _) _
      have hvb : vs.length ≤ 1000 := by have := HVL.out; omega
      go_wp2_with (first | (at_builtin; refine wpList_appendAll (α := Ltr) rfl (.tmp 14) (.tmp 15) 34 rfl w1.heap.size 44 i1 _ 24 Try.underlying34 ji jz0 jz1 jz2 rfl (by decide) (.slice (some ⟨w1.heap.size, 0, none⟩) 0 0) [] rfl HE0.out (.slice A2 m2 c2) ys rfl (w1.alloc (Obj.cells #[] 44)).heap.size (HU.out.on (later_trans lr la)) (by unfold maxLen; simp; omega) (by simp; omega) la.size ?_; intro v' w2 ho2 hg2 _; have l2 : Below w1.heap.size w1 w2 := la.trans (below_append HE0.out hg2 la.size); rw [List.nil_append] at ho2; have HO2 := Lib.hid ho2; have hs2 : w1.heap.size ≤ w2.heap.size := l2.size; have lr2 := later_trans lr l2; obtain ⟨A5, m5, c5, rfl, hm5, _, _, _⟩ := ho2.rd; subst hm5; clear ho2 hg2; have HB2 := Lib.hid (HB.out.below l2); have HF2 : Hid (farLL (.slice A5 ys.length c5) (.slice AO vs.length cO) vs) := ⟨apart_gt HO2.out HB.out.1 (Nat.le_refl _), fun i hi => apart_gt HO2.out (HB.out.2.2.1 i hi (by have := HB.out.2.1; omega)) (Nat.le_refl _)⟩) | (at_builtin; refine wpList_append1' (α := Value) rfl (.tmp 13) (.tmp 17) 37 rfl w.heap.size 34 i0 _ 24 Try.underlying37 hi hzz hz1 hz2 rfl (by decide) (.slice AO vs.length cO) vs (.slice A5 ys.length c5) rfl (HB2.out.1.alloc _) ⟨w2.heap.size, 0, none⟩ 1 [.slice A5 ys.length c5] rfl ⟨rfl, rfl⟩ (news_at w2 _ [.slice A5 ys.length c5]) (by unfold maxLen; omega) (by omega) (by simp; omega) ?_; intro g cap w3 ho3 hg3 ha3 hl3))
      have l3 : Below w.heap.size w w3 := (later_alloc lr2 (Obj.cells #[.slice A5 ys.length c5] 34)).grown hg3 (by simp; omega) fun q hq => (HB2.out.1.blk q hq).1
      have HB3 := Lib.hid (isLL.snoc (HB2.out.below (later_alloc (Below.refl _ _) (Obj.cells #[.slice A5 ys.length c5] 34))) ((HO2.out.base_ hs1).alloc (Obj.cells #[.slice A5 ys.length c5] 34)) HF2.out ho3 hg3 ha3)
      go_wp2
      go_roundw
      case rel => exact ⟨k + 1, _, by omega, by go_num, l3, by rw [HS.out]; exact HB3.out⟩
      case measure => simp [intOf]; omega
    · have HE := Lib.hid (show k = xss.length by omega)
      go_wp2
      go_ret
      have h := HB.out
      rw [HE.out, List.take_length] at h
      exact ⟨_, vs, rfl, h, lr⟩

set_option maxRecDepth 100000 in
set_option maxHeartbeats 6400000 in
theorem spec_l7Faulty (v vb vm : Value) (p : Pln) (xs : List Ltr) (k0 : Nat) (ms : List Mis) (w : World) (hv : rdP w w.heap.size v p) (hb : rd w w.heap.size vb xs) (hm : rd w w.heap.size vm ms)
    (h1 : 2 ≤ p.bins) (h2 : p.bins ≤ 16) (hk0 : k0 ≤ 4) (hord : p.order.length ≤ 1000) (hms : misOk p ms = true) (hl : xs.length ≤ 1000) :
    Calls Try.prog 113 #[v, vb, .int .i64 k0, vm] w fun e w' => ∃ vB vO vs, e = .returned (.tuple #[vB, vO]) ∧ isLL 34 44 w.heap.size w' vB (binsOf (fun x => misBin ms x (binI p x.code k0)) p.bins.toNat xs) vs ∧ own 44 w.heap.size w' vO (restOf (fun x => misBin ms x (binI p x.code k0)) xs) ∧ farLL vO vB vs ∧ Below w.heap.size w w' := by
  obtain ⟨A0, c0, e0⟩ := openP hv
  obtain ⟨w0, hw0⟩ : ∃ w0, w0 = w.alloc (Obj.cells #[.int .i64 p.bins, .int .i64 p.passes, .slice A0 p.order.length c0] 25) := ⟨_, rfl⟩
  have q0 := box_cells hw0 0 (.int .i64 p.bins) rfl
  have q1 := box_cells hw0 1 (.int .i64 p.passes) rfl
  have q2 := box_cells hw0 2 (.slice A0 p.order.length c0) rfl
  have HT := Lib.hid (box_later hw0).1
  have HP := Lib.hid (hv.on HT.out)
  have HB := Lib.hid (hb.on HT.out)
  have HM := Lib.hid (hm.on HT.out)
  subst e0
  have hz0 : w0.heap.size = w.heap.size + 1 := by subst hw0; simp
  have HZ0 := Lib.hid hz0; clear hz0
  have HW0 := Lib.hid hw0; clear hw0 hv hb hm
  have l0 := Below.refl w0.heap.size w0
  have hwlt : w.heap.size ≤ w0.heap.size := HT.out.size
  obtain ⟨A, n, cp, rfl, hn, hc, hmx, hr⟩ := HB.out
  subst hn
  unfold maxLen at hmx
  have HR := Lib.hid hr; clear hr
  obtain ⟨AM, nM, cM, rfl, hnM, hcM, hmM, hrM⟩ := HM.out
  subst hnM
  unfold maxLen at hmM
  have HRM := Lib.hid hrM; clear hrM
  have hwlt' : w.heap.size < w0.heap.size := by have := HZ0.out; omega
  obtain ⟨N, hN⟩ := Int.eq_ofNat_of_zero_le (show 0 ≤ p.bins by omega)
  have hNN : p.bins.toNat = N := by omega
  have HNN := Lib.hid hNN; clear hNN
  have hN16 : N ≤ 16 := by omega
  obtain ⟨i0, hi, hzz, hz1, hz2⟩ := info_parts Try.infoRow
  have hmk := make_row (P := Try.prog) 37 34 i0 _ Try.underlying37 hi hzz N (by rw [hz2]; omega) (by omega)
  rw [← hN] at hmk
  have HN := Lib.hid hN; clear hN
  obtain ⟨i1, ji, jz0, jz1, jz2⟩ := info_parts Try.infoLtr
  have HMS := Lib.hid (misOk_good' hms)
  have HMD := Lib.hid (misOk_ids hms)
  have hml : ms.length ≤ 60 := (misOk_iff.1 hms).2.1
  clear hms
  have HF : Hid (∀ x : Ltr, -1 ≤ misBin ms x (binI p x.code k0) ∧ misBin ms x (binI p x.code k0) < N) := fun x => by
    have := misBin_range HMS.out x _ (binI_range p x.code k0 h1)
    have := HN.out
    omega
  obtain ⟨f, HFF⟩ : ∃ f : Ltr → Int, Hid (f = fun x => misBin ms x (binI p x.code k0)) := ⟨_, rfl⟩
  rw [← HFF.out]
  have HFX : Hid (∀ x, f x = misBin ms x (binI p x.code k0)) := fun x => by rw [HFF.out]
  rw [HNN.out]
  go_enter Try.func113, Try.ntmps113
  go_wp2
  rw [← HW0.out]
  obtain ⟨vs0, hoz⟩ := made_nil_row (α := Ltr) w0 34 44 N w0.heap.size (Nat.le_refl _) (by unfold maxLen; omega)
  have lz : Below w0.heap.size w0 (w0.alloc (Obj.cells (madeCells #[.slice none 0 0] N) 34)) := later_alloc l0 _
  have hzz2 : (w0.alloc (Obj.cells (madeCells #[.slice none 0 0] N) 34)).heap.size = w.heap.size + 1 + 1 := by simp [HZ0.out]
  generalize (w0.alloc (Obj.cells (madeCells #[.slice none 0 0] N) 34)) = wz at *
  have hG0 : w0.heap.size ≤ w.heap.size + 1 := Nat.le_of_eq HZ0.out
  have hoz2 := hoz
  rw [show (Value.slice (some ⟨w0.heap.size, 0, none⟩) N N) = (Value.slice (some ⟨w.heap.size + 1, 0, none⟩) N N) by rw [HZ0.out]] at hoz2
  clear hoz
  have hoe : own (α := Ltr) 44 w0.heap.size (wz.alloc (Obj.cells #[] 44)) (.slice (some ⟨wz.heap.size, 0, none⟩) 0 0) [] := own.made0 wz _ lz.size
  rw [hzz2] at hoe
  have hfe : farLL (.slice (some ⟨w.heap.size + 1 + 1, 0, none⟩) 0 0) (.slice (some ⟨w.heap.size + 1, 0, none⟩) N N) vs0 := by
    refine ⟨.inr (by show some _ ≠ some _; simp), fun k hk => .inr fun e => ?_⟩
    obtain ⟨z1, z2, z3, _⟩ := hoz2
    have hh : w.heap.size + 1 + 1 < wz.heap.size := ((z3 k hk (by omega)).blk _ e.symm).2
    omega
  have HFE := Lib.hid hfe
  have HOE := Lib.hid hoe
  have HOZ := Lib.hid (hoz2.below ((Below.refl _ _).alloc (Nat.le_refl _) (Obj.cells #[] 44)))
  have lz2 := later_alloc lz (Obj.cells #[] 44)
  clear hoz2 hoe hzz2 lz hfe
  generalize hgw : wz.alloc (Obj.cells #[] 44) = wy at *
  clear hgw
  generalize hG2 : w.heap.size + 1 + 1 = G2 at *
  generalize hG : w.heap.size + 1 = G at *
  have HGG := Lib.hid hG; have HGG2 := Lib.hid hG2; clear hG hG2 hmk
  go_loopw [11, 12] (fun t i wr => ∃ (k : Nat) (vs : List Value), k ≤ xs.length ∧ i = .int .i64 k ∧ Below w0.heap.size w0 wr ∧ isLL 34 44 w0.heap.size wr (.slice (some ⟨G, 0, none⟩) N N) (binsOf f N (xs.take k)) vs ∧ own 44 w0.heap.size wr t (restOf f (xs.take k)) ∧ Hid (farLL t (.slice (some ⟨G, 0, none⟩) N N) vs)) (fun _ i _ => xs.length - (intOf i).toNat)
  case atStart =>
    refine ⟨0, vs0, Nat.zero_le _, rfl, lz2, ?_, HOE.out, HFE.out⟩
    rw [List.take_zero, binsOf_nil]
    exact HOZ.out
  case round =>
    obtain ⟨k, vs, hk, rfl, lr, hB, hO, HFAR⟩ := hrel
    obtain ⟨w1, rfl⟩ : ∃ w1 : World, w1 = wr := ⟨_, rfl⟩
    have HBI := Lib.hid hB; have HO := Lib.hid hO
    clear l0 lz2 HOZ hB HOE HFE
    obtain ⟨AO, mO, cO, rfl, hmO, _, _, _⟩ := hO.rd
    subst hmO
    clear hO
    by_cases hlt : k < xs.length
    · obtain ⟨b, o, rfl, hb, ⟨hxi, hxc⟩, c1, c2⟩ := HR.out.ltrU k hlt
      obtain ⟨x, hx⟩ : ∃ x, x = xs[k] := ⟨_, rfl⟩
      have HX := Lib.hid hx
      rw [← hx] at c1 c2 hxi hxc
      clear hx
      have hki : (k : Int) < (xs.length : Int) := by omega
      have ld := later_drew lr
      have HC : Hid (∀ W, Below w0.heap.size w0 W → Calls Try.prog 77 #[.agg #[.int .i64 p.bins, .int .i64 p.passes, .slice A0 p.order.length c0], .string x.code, .int .i64 k0] W fun e w' => e = .returned (.int .i64 (binI p x.code k0)) ∧ Below W.heap.size W w') := fun W hW => 
        spec_l3Bin _ p x.code k0 W (HP.out.on hW) h1 h2 hk0 hord
      obtain ⟨fx1, fx2⟩ := HF.out x
      rw [← HFX.out] at fx1 fx2
      have HFXK : Hid (f xs[k] = f x) := by show _ = _; rw [← HX.out]
      have HZL : Hid ((restOf f (xs.take k)).length ≤ 1000) := by
        show _ ≤ _
        have := filter_len_le (fun x => decide (f x < 0)) xs k
        unfold restOf
        omega
      obtain ⟨b0, HB0⟩ : ∃ b0, Hid (binI p x.code k0 = b0) := ⟨_, rfl⟩
      rw [HB0.out] at HC
      have HFB : Hid (f x = misBin ms x b0) := by show _ = _; rw [HFX.out, HB0.out]
      go_wp2
      go_region_held3 (fun W => Below w0.heap.size w0 W) (first | exact ld | exact later_trans ld b3) (first | (go_at_call 77; refine (HC.out _ ld).mono ?_; rintro e w3 ⟨rfl, b3⟩))
      have lw3 := later_trans ld b3
      have B3 : Below w1.heap.size w1 w3 := later_trans ((Below.refl _ _).drew) b3
      have hs3 : w0.heap.size ≤ w3.heap.size := lw3.size
      have HB3 := Lib.hid (HBI.out.below B3); have HO3 := Lib.hid (HO.out.below B3)
      clear b3 ld B3
      rcases ixI_cases ms x.id with ⟨hq, hn⟩ | ⟨kk, hkk, hq, hid⟩
      · have HE : Hid (b0 = f x) := by show _ = _; rw [HFB.out, misBin_none hn]
        clear hn
        go_wp2_with fail
        refine (l7Index_is (HM.out.on lw3) hq).mono ?_
        clear hq
        rintro e w4 ⟨rfl, rfl⟩
        rw [HE.out]
        by_cases hneg : f x < 0
        · have HS1 := Lib.hid (binsOf_skip (f := f) (n := N) hlt (by rw [HFXK.out]; exact hneg))
          have HS2 := Lib.hid (restOf_step (f := f) hlt (by rw [HFXK.out]; exact hneg))
          have hzl := HZL.out
          go_wp2_with (at_builtin; refine wpList_append1' (α := Ltr) rfl (.tmp 49) (.tmp 54) 34 rfl w0.heap.size 44 i1 _ 24 Try.underlying34 ji jz0 jz1 jz2 rfl (by decide) (.slice AO (restOf f (xs.take k)).length cO) (restOf f (xs.take k)) x rfl (HO3.out.alloc _) ⟨w3.heap.size, 0, none⟩ 1 (Ltr.cells x) rfl ⟨⟨hxi, hxc⟩, rfl⟩ (news_at w3 _ (Ltr.cells x)) (by unfold maxLen; omega) (by omega) (by simp; omega) ?_; intro g cap w4 ho4 hg4 ha4 hl4)
          have HB4 := Lib.hid (farLL_grown (HB3.out.below ((Below.refl _ _).alloc (Nat.le_refl _) _)) HFAR.out hg4)
          have b4 : Below w0.heap.size w0 w4 := by
            refine (later_alloc lw3 (Obj.cells #[Value.int IntKind.i64 x.id, Value.string x.code] 44)).grown hg4 (by simp; omega) fun j hj => ?_
            exact (HO3.out.blk j hj).1
          have HFAR4 : Hid (farLL (.slice (some ⟨g, 0, none⟩) ((restOf f (xs.take k)).length + 1) cap) (.slice (some ⟨G, 0, none⟩) N N) vs) := farLL_app HB3.out HFAR.out ha4 (by simp)
          go_wp2
          go_roundw
          case rel => exact ⟨k + 1, vs, by omega, by go_num, b4, by rw [HS1.out]; exact HB4.out, by rw [HS2.out, ← HX.out]; exact ho4, HFAR4⟩
          case measure => simp [intOf]; omega
        · obtain ⟨d, hd⟩ := Int.eq_ofNat_of_zero_le (show 0 ≤ f x by omega)
          have hdN : d < N := by omega
          have HD := Lib.hid hd
          have HS2 := Lib.hid (restOf_skip (f := f) hlt (by rw [HFXK.out]; omega))
          have hlb : d < (binsOf f N (xs.take k)).length := by rw [binsOf_len]; exact hdN
          have HS1 := Lib.hid (binsOf_step (f := f) (n := N) (d := d) hlt (by rw [HFXK.out]; exact HD.out) hlb)
          obtain ⟨hlv, hov, hgv⟩ : ∃ hlv : d < vs.length, own 44 w0.heap.size w3 vs[d] (binsOf f N (xs.take k))[d] ∧ apart vs[d] (.slice (some ⟨G, 0, none⟩) N N) := by
            obtain ⟨z1, z2, z3, z4, z5⟩ := HB3.out
            exact ⟨by omega, z3 d (by omega) hlb, z5 d (by omega)⟩
          have hcG : w3.cell? ⟨G, d, none⟩ = some vs[d] := own_cellv HB3.out.1 d hlv
          have hfG : w3.frozen? ⟨G, d, none⟩ = false := HB3.out.1.freeAt d
          have hzl : (binsOf f N (xs.take k))[d].length ≤ 1000 := by
            rw [binsOf_get]
            have := filter_len_le (fun x => f x == (d : Int)) xs k
            omega
          obtain ⟨zs, hzs⟩ : ∃ zs, zs = (binsOf f N (xs.take k))[d] := ⟨_, rfl⟩
          have HZS := Lib.hid hzs
          rw [← hzs] at hov hzl
          clear hzs
          obtain ⟨u, hu⟩ : ∃ u, u = vs[d] := ⟨_, rfl⟩
          have HU := Lib.hid hu
          rw [← hu] at hov hgv hcG
          clear hu
          obtain ⟨Au, mu, cu, rfl, hmu, _, _, _⟩ := hov.rd
          subst hmu
          have HOV := Lib.hid hov; clear hov
          have HGV := Lib.hid hgv; clear hgv
          first | rw [HD.out] | rw [HD.out] at e2
          have hdn : (d : Int) < (N : Int) := by omega
          have hd0 : ¬ ((d : Int) < 0) := by omega
          have hGs : some G ≠ (Value.slice Au zs.length cu).ownBlock := by
            have h := HGV.out
            unfold apart at h
            rcases h with h | h
            · rw [h]; simp
            · exact fun e => h e.symm
          have HGS := Lib.hid hGs; clear hGs
          have hGlt : G < w3.heap.size := (HB3.out.1.blk G rfl).2
          go_wp2
          go_region_law (first | ((refine step_append1 (α := Ltr) (by rfl) (.tmp 61) (.tmp 66) 34 (by rfl) w0.heap.size 44 i1 _ 24 Try.underlying34 ji jz0 jz1 jz2 rfl (by decide) (.slice Au zs.length cu) zs x (by rfl) ((HOV.out.alloc _).drew) ⟨w3.heap.size, 0, none⟩ 1 (Ltr.cells x) (by rfl) ⟨⟨hxi, hxc⟩, rfl⟩ (news_drew w3 _ (Ltr.cells x)) (by unfold maxLen; omega) (by omega) (by simp; omega) ?_; intro g cap w4 ho4 hg4 ha4 hl4; have hcG4 : w4.cell? ⟨G, d, none⟩ = some (.slice Au zs.length cu) := (hg4.cell_far ⟨G, d, none⟩ (by simp; omega) HGS.out).trans (by go_simp); have hfG4 : w4.frozen? ⟨G, d, none⟩ = false := (hg4.frozen_far ⟨G, d, none⟩ (by simp; omega) HGS.out).trans (by go_simp))))
          all_goals
            have hWD : Below w3.heap.size w3 (w3.alloc (Obj.cells #[Value.int IntKind.i64 x.id, Value.string x.code] 44)).drew := later_drew (later_alloc (Below.refl _ _) _)
            obtain ⟨p1, p2, p3⟩ := place_step HB3.out HO3.out HFAR.out hWD hlv hlb HU.out HZS.out ho4 hg4 ha4
            have p4 := place_later (G := G) (d := d) (g := g) (m := zs.length + 1) (cap := cap) (later_drew (later_alloc lw3 (Obj.cells #[Value.int IntKind.i64 x.id, Value.string x.code] 44))) hg4 (fun j hj => (HOV.out.blk j hj).1) hG0
            have P1 := Lib.hid p1; have P2 := Lib.hid p2; have P3 := Lib.hid p3
            clear p1 p2 p3 hWD
            go_wp2
            go_roundw
            case rel => exact ⟨k + 1, _, by omega, by go_num, p4, by rw [HS1.out, ← HX.out]; exact P1.out, by rw [HS2.out]; exact P2.out, P3.out⟩
            case measure => simp [intOf]; omega
      · have HE : Hid (ms[kk].bin = f x) := by show _ = _; rw [HFB.out, misBin_hit hkk hid HMD.out]
        clear hid
        obtain ⟨bM, oM, rfl, hbM, _, e1, e2⟩ := HRM.out.misU kk hkk
        rw [HE.out] at e2
        clear e1 HE
        have hkm : (kk : Int) < (ms.length : Int) := by omega
        have hk0' : ¬ ((kk : Int) < 0) := by omega
        go_wp2_with fail
        refine (l7Index_is (HM.out.on lw3) hq).mono ?_
        clear hq
        rintro e w4 ⟨rfl, rfl⟩
        by_cases hneg : f x < 0
        · have HS1 := Lib.hid (binsOf_skip (f := f) (n := N) hlt (by rw [HFXK.out]; exact hneg))
          have HS2 := Lib.hid (restOf_step (f := f) hlt (by rw [HFXK.out]; exact hneg))
          have hzl := HZL.out
          go_wp2_with (at_builtin; refine wpList_append1' (α := Ltr) rfl (.tmp 49) (.tmp 54) 34 rfl w0.heap.size 44 i1 _ 24 Try.underlying34 ji jz0 jz1 jz2 rfl (by decide) (.slice AO (restOf f (xs.take k)).length cO) (restOf f (xs.take k)) x rfl (HO3.out.alloc _) ⟨w3.heap.size, 0, none⟩ 1 (Ltr.cells x) rfl ⟨⟨hxi, hxc⟩, rfl⟩ (news_at w3 _ (Ltr.cells x)) (by unfold maxLen; omega) (by omega) (by simp; omega) ?_; intro g cap w4 ho4 hg4 ha4 hl4)
          have HB4 := Lib.hid (farLL_grown (HB3.out.below ((Below.refl _ _).alloc (Nat.le_refl _) _)) HFAR.out hg4)
          have b4 : Below w0.heap.size w0 w4 := by
            refine (later_alloc lw3 (Obj.cells #[Value.int IntKind.i64 x.id, Value.string x.code] 44)).grown hg4 (by simp; omega) fun j hj => ?_
            exact (HO3.out.blk j hj).1
          have HFAR4 : Hid (farLL (.slice (some ⟨g, 0, none⟩) ((restOf f (xs.take k)).length + 1) cap) (.slice (some ⟨G, 0, none⟩) N N) vs) := farLL_app HB3.out HFAR.out ha4 (by simp)
          go_wp2
          go_roundw
          case rel => exact ⟨k + 1, vs, by omega, by go_num, b4, by rw [HS1.out]; exact HB4.out, by rw [HS2.out, ← HX.out]; exact ho4, HFAR4⟩
          case measure => simp [intOf]; omega
        · obtain ⟨d, hd⟩ := Int.eq_ofNat_of_zero_le (show 0 ≤ f x by omega)
          have hdN : d < N := by omega
          have HD := Lib.hid hd
          have HS2 := Lib.hid (restOf_skip (f := f) hlt (by rw [HFXK.out]; omega))
          have hlb : d < (binsOf f N (xs.take k)).length := by rw [binsOf_len]; exact hdN
          have HS1 := Lib.hid (binsOf_step (f := f) (n := N) (d := d) hlt (by rw [HFXK.out]; exact HD.out) hlb)
          obtain ⟨hlv, hov, hgv⟩ : ∃ hlv : d < vs.length, own 44 w0.heap.size w3 vs[d] (binsOf f N (xs.take k))[d] ∧ apart vs[d] (.slice (some ⟨G, 0, none⟩) N N) := by
            obtain ⟨z1, z2, z3, z4, z5⟩ := HB3.out
            exact ⟨by omega, z3 d (by omega) hlb, z5 d (by omega)⟩
          have hcG : w3.cell? ⟨G, d, none⟩ = some vs[d] := own_cellv HB3.out.1 d hlv
          have hfG : w3.frozen? ⟨G, d, none⟩ = false := HB3.out.1.freeAt d
          have hzl : (binsOf f N (xs.take k))[d].length ≤ 1000 := by
            rw [binsOf_get]
            have := filter_len_le (fun x => f x == (d : Int)) xs k
            omega
          obtain ⟨zs, hzs⟩ : ∃ zs, zs = (binsOf f N (xs.take k))[d] := ⟨_, rfl⟩
          have HZS := Lib.hid hzs
          rw [← hzs] at hov hzl
          clear hzs
          obtain ⟨u, hu⟩ : ∃ u, u = vs[d] := ⟨_, rfl⟩
          have HU := Lib.hid hu
          rw [← hu] at hov hgv hcG
          clear hu
          obtain ⟨Au, mu, cu, rfl, hmu, _, _, _⟩ := hov.rd
          subst hmu
          have HOV := Lib.hid hov; clear hov
          have HGV := Lib.hid hgv; clear hgv
          first | rw [HD.out] | rw [HD.out] at e2
          have hdn : (d : Int) < (N : Int) := by omega
          have hd0 : ¬ ((d : Int) < 0) := by omega
          have hGs : some G ≠ (Value.slice Au zs.length cu).ownBlock := by
            have h := HGV.out
            unfold apart at h
            rcases h with h | h
            · rw [h]; simp
            · exact fun e => h e.symm
          have HGS := Lib.hid hGs; clear hGs
          have hGlt : G < w3.heap.size := (HB3.out.1.blk G rfl).2
          go_wp2
          go_region_law (first | ((refine step_append1 (α := Ltr) (by rfl) (.tmp 61) (.tmp 66) 34 (by rfl) w0.heap.size 44 i1 _ 24 Try.underlying34 ji jz0 jz1 jz2 rfl (by decide) (.slice Au zs.length cu) zs x (by rfl) ((HOV.out.alloc _).drew) ⟨w3.heap.size, 0, none⟩ 1 (Ltr.cells x) (by rfl) ⟨⟨hxi, hxc⟩, rfl⟩ (news_drew w3 _ (Ltr.cells x)) (by unfold maxLen; omega) (by omega) (by simp; omega) ?_; intro g cap w4 ho4 hg4 ha4 hl4; have hcG4 : w4.cell? ⟨G, d, none⟩ = some (.slice Au zs.length cu) := (hg4.cell_far ⟨G, d, none⟩ (by simp; omega) HGS.out).trans (by go_simp); have hfG4 : w4.frozen? ⟨G, d, none⟩ = false := (hg4.frozen_far ⟨G, d, none⟩ (by simp; omega) HGS.out).trans (by go_simp))))
          all_goals
            have hWD : Below w3.heap.size w3 (w3.alloc (Obj.cells #[Value.int IntKind.i64 x.id, Value.string x.code] 44)).drew := later_drew (later_alloc (Below.refl _ _) _)
            obtain ⟨p1, p2, p3⟩ := place_step HB3.out HO3.out HFAR.out hWD hlv hlb HU.out HZS.out ho4 hg4 ha4
            have p4 := place_later (G := G) (d := d) (g := g) (m := zs.length + 1) (cap := cap) (later_drew (later_alloc lw3 (Obj.cells #[Value.int IntKind.i64 x.id, Value.string x.code] 44))) hg4 (fun j hj => (HOV.out.blk j hj).1) hG0
            have P1 := Lib.hid p1; have P2 := Lib.hid p2; have P3 := Lib.hid p3
            clear p1 p2 p3 hWD
            go_wp2
            go_roundw
            case rel => exact ⟨k + 1, _, by omega, by go_num, p4, by rw [HS1.out, ← HX.out]; exact P1.out, by rw [HS2.out]; exact P2.out, P3.out⟩
            case measure => simp [intOf]; omega
    · have HE := Lib.hid (show k = xs.length by omega)
      go_wp2
      go_ret2
      have hB := HBI.out
      have hO := HO.out
      have hF := HFAR.out
      rw [HE.out, List.take_length] at hB hO hF ⊢
      exact ⟨_, _, vs, rfl, hB.base_ (Nat.le_of_lt hwlt'), hO.base_ (Nat.le_of_lt hwlt'), hF, later_trans HT.out lr⟩

end Go.Proofs.Ytekjjgnokjhleaa
