/- B5 B10 -/
import Derived.Test.YtffbcfaahegglaaDoorQ11
import Derived.Test.YtffbcfaahegglaaDoorQ15
import Derived.IntWalk
namespace Go.Proofs.YtffbcfaahegglaaDoor
open Go.RowKit

set_option maxHeartbeats 800000 in
theorem spec_l2Collect (v : Value) (xss : List (List Ltr)) (w : World) (hv : rd w w.heap.size v xss) (hl : xss.flatten.length ≤ 1048576) :
    Calls Tryd.prog 124 #[v] w fun e w' => ∃ v', e = .returned v' ∧ own 98 w.heap.size w' v' xss.flatten ∧ Below w.heap.size w w' := by
  obtain ⟨A, n, c, rfl, hn, hc, hm, hr⟩ := hv
  subst hn
  unfold maxLen at hm
  have HR := Lib.hid hr; clear hr
  have HL := Lib.hid hl; clear hl
  obtain ⟨i0, hi, hz0, hz1, hz2⟩ := info_parts Tryd.infoLtr
  go_enter Tryd.func124, Tryd.ntmps124
  go_wp2
  have ho0 : own (α := Ltr) 98 w.heap.size (w.alloc (Obj.cells #[] 98)) (.slice (some ⟨w.heap.size, 0, none⟩) 0 0) [] := own.made0 w _ (Nat.le_refl _)
  have l0 : Below w.heap.size w (w.alloc (Obj.cells #[] 98)) := (Below.refl _ _).alloc (Nat.le_refl _) _
  generalize (w.alloc (Obj.cells #[] 98)) = w0 at *
  go_loopw [3, 4] (fun t i wr => ∃ k : Nat, k ≤ xss.length ∧ i = .int .i64 k ∧ Below w.heap.size w wr ∧ own 98 w.heap.size wr t (xss.take k).flatten) (fun _ i _ => xss.length - (intOf i).toNat)
  case atStart => exact ⟨0, Nat.zero_le _, rfl, l0, ho0⟩
  case round =>
    obtain ⟨k, hk, rfl, lr, ho⟩ := hrel
    obtain ⟨w1, rfl⟩ : ∃ w1 : World, w1 = wr := ⟨_, rfl⟩
    clear l0 ho0
    by_cases hlt : k < xss.length
    · obtain ⟨b, o, u, rfl, hb, hu, c1⟩ := HR.out.rowU k hlt
      have HS : Hid ((xss.take (k + 1)).flatten = (xss.take k).flatten ++ xss[k]) := by show _ = _; rw [List.take_succ_eq_append_getElem hlt, List.flatten_append]; simp
      have HLB : Hid ((xss.take k).flatten.length + xss[k].length ≤ 1048576) := by
        show _ ≤ _
        rw [← List.length_append, ← HS.out]
        have : (xss.take (k + 1)).flatten.length ≤ xss.flatten.length := by
          conv => rhs; rw [← List.take_append_drop (k + 1) xss, List.flatten_append, List.length_append]
          omega
        have := HL.out
        omega
      generalize xss[k] = ys at *
      obtain ⟨A2, m2, c2, rfl, hm2, hc2, hmm2, hr2⟩ := hu
      have hu : rd w w.heap.size (.slice A2 m2 c2) ys := ⟨A2, m2, c2, rfl, hm2, hc2, hmm2, hr2⟩
      clear hm2 hc2 hmm2 hr2
      have HU := Lib.hid hu; clear hu
      generalize hys : (xss.take k).flatten = zs at *
      have HYS := Lib.hid hys; clear hys
      have ho' := Lib.hid ho
      obtain ⟨A3, m3, c3, rfl, hm3, _, _, _⟩ := ho.rd
      subst hm3
      clear ho
      have hbd := HLB.out
      go_wp2_with (at_builtin; refine wpList_appendAll (α := Ltr) rfl (.tmp 12) (.tmp 16) 27 rfl w.heap.size 98 i0 _ 24 Tryd.underlying27 hi hz0 hz1 hz2 rfl (by decide) (.slice A3 zs.length c3) zs rfl ho'.out (.slice A2 m2 c2) ys rfl w1.heap.size (HU.out.on lr) (by have := HLB.out; unfold maxLen; omega) (by have := HLB.out; omega) lr.size ?_; intro v' w2 ho2 hg2 _)
      have l2 : Below w.heap.size w w2 := lr.trans (below_append ho'.out hg2 lr.size)
      go_wp2
      go_roundw
      case rel => exact ⟨k + 1, by omega, by go_num, l2, by rw [HS.out]; exact ho2⟩
      case measure => simp [intOf]; omega
    · have HE := Lib.hid (show k = xss.length by omega)
      go_wp2
      go_ret
      exact ⟨_, rfl, by rw [HE.out, List.take_length] at ho; exact ho, lr⟩

set_option maxRecDepth 100000 in
set_option maxHeartbeats 3200000 in
theorem spec_l3Pass (v vb : Value) (p : Pln) (xs : List Ltr) (k0 : Nat) (w : World) (hv : rdP w w.heap.size v p) (hb : rd w w.heap.size vb xs)
    (h1 : 2 ≤ p.bins) (h2 : p.bins ≤ 16) (hk0 : k0 ≤ 4) (hord : p.order.length ≤ 1000) (hl : xs.length ≤ 1000) :
    Calls Tryd.prog 123 #[v, vb, .int .i64 k0] w fun e w' => ∃ vB vO vs, e = .returned (.tuple #[vB, vO]) ∧ isLL 27 98 w.heap.size w' vB (binsOf (fun x => binI p x.code k0) p.bins.toNat xs) vs ∧ own 98 w.heap.size w' vO (restOf (fun x => binI p x.code k0) xs) ∧ farLL vO vB vs ∧ Below w.heap.size w w' := by
  obtain ⟨A0, c0, e0⟩ := openP hv
  obtain ⟨w0, hw0⟩ : ∃ w0, w0 = w.alloc (Obj.cells #[.int .i64 p.bins, .int .i64 p.passes, .slice A0 p.order.length c0] 89) := ⟨_, rfl⟩
  have q0 := box_cells hw0 0 (.int .i64 p.bins) rfl
  have q1 := box_cells hw0 1 (.int .i64 p.passes) rfl
  have q2 := box_cells hw0 2 (.slice A0 p.order.length c0) rfl
  have HT := Lib.hid (box_later hw0).1
  have HP := Lib.hid (hv.on HT.out)
  have hb' := hb.on HT.out
  subst e0
  obtain ⟨A, n, cp, rfl, hn, hc, hmx, hr⟩ := hb'
  subst hn
  unfold maxLen at hmx
  have HR := Lib.hid hr
  have hz0 : w0.heap.size = w.heap.size + 1 := by subst hw0; simp
  have hwlt : w.heap.size < w0.heap.size := by omega
  have HZ0 := Lib.hid hz0
  have HW0 := Lib.hid hw0; clear hw0 hv hb hr hz0
  have l0 := Below.refl w0.heap.size w0
  obtain ⟨N, hN⟩ := Int.eq_ofNat_of_zero_le (show 0 ≤ p.bins by omega)
  have hNN : p.bins.toNat = N := by omega
  have HNN := Lib.hid hNN; clear hNN
  have hN16 : N ≤ 16 := by omega
  obtain ⟨i0, hi, hzz, hz1, hz2⟩ := info_parts Tryd.infoRow
  have hmk := make_row (P := Tryd.prog) 58 27 i0 _ Tryd.underlying58 hi hzz N (by rw [hz2]; omega) (by omega)
  rw [← hN] at hmk
  have HN := Lib.hid hN; clear hN
  obtain ⟨i1, ji, jz0, jz1, jz2⟩ := info_parts Tryd.infoLtr
  have HF : Hid (∀ x : Ltr, -1 ≤ binI p x.code k0 ∧ binI p x.code k0 < N) := fun x => by
    have := binI_range p x.code k0 h1
    have := HN.out
    omega
  obtain ⟨f, HFF⟩ : ∃ f : Ltr → Int, Hid (f = fun x => binI p x.code k0) := ⟨_, rfl⟩
  rw [← HFF.out]
  have HFX : Hid (∀ x, f x = binI p x.code k0) := fun x => by rw [HFF.out]
  rw [HNN.out]
  go_enter Tryd.func123, Tryd.ntmps123
  go_wp2
  rw [← HW0.out]
  obtain ⟨vs0, hoz⟩ := made_nil_row (α := Ltr) w0 27 98 N w0.heap.size (Nat.le_refl _) (by unfold maxLen; omega)
  have lz : Below w0.heap.size w0 (w0.alloc (Obj.cells (madeCells #[.slice none 0 0] N) 27)) := later_alloc l0 _
  have hzz2 : (w0.alloc (Obj.cells (madeCells #[.slice none 0 0] N) 27)).heap.size = w.heap.size + 1 + 1 := by simp [HZ0.out]
  generalize (w0.alloc (Obj.cells (madeCells #[.slice none 0 0] N) 27)) = wz at *
  have hG0 : w0.heap.size ≤ w.heap.size + 1 := Nat.le_of_eq HZ0.out
  have hoz2 := hoz
  rw [show (Value.slice (some ⟨w0.heap.size, 0, none⟩) N N) = (Value.slice (some ⟨w.heap.size + 1, 0, none⟩) N N) by rw [HZ0.out]] at hoz2
  clear hoz
  have hoe : own (α := Ltr) 98 w0.heap.size (wz.alloc (Obj.cells #[] 98)) (.slice (some ⟨wz.heap.size, 0, none⟩) 0 0) [] := own.made0 wz _ lz.size
  rw [hzz2] at hoe
  have hfe : farLL (.slice (some ⟨w.heap.size + 1 + 1, 0, none⟩) 0 0) (.slice (some ⟨w.heap.size + 1, 0, none⟩) N N) vs0 := by
    refine ⟨.inr (by show some _ ≠ some _; simp), fun k hk => .inr fun e => ?_⟩
    obtain ⟨z1, z2, z3, _⟩ := hoz2
    have hh : w.heap.size + 1 + 1 < wz.heap.size := ((z3 k hk (by omega)).blk _ e.symm).2
    omega
  have HFE := Lib.hid hfe
  have HOE := Lib.hid hoe
  have HOZ := Lib.hid (hoz2.below ((Below.refl _ _).alloc (Nat.le_refl _) (Obj.cells #[] 98)))
  have lz2 := later_alloc lz (Obj.cells #[] 98)
  clear hoz2 hoe hzz2 lz hfe
  generalize hgw : wz.alloc (Obj.cells #[] 98) = wy at *
  clear hgw
  generalize hG2 : w.heap.size + 1 + 1 = G2 at *
  generalize hG : w.heap.size + 1 = G at *
  have HGG := Lib.hid hG; have HGG2 := Lib.hid hG2; clear hG hG2 hmk
  go_loopw [9, 10] (fun t i wr => ∃ (k : Nat) (vs : List Value), k ≤ xs.length ∧ i = .int .i64 k ∧ Below w0.heap.size w0 wr ∧ isLL 27 98 w0.heap.size wr (.slice (some ⟨G, 0, none⟩) N N) (binsOf f N (xs.take k)) vs ∧ own 98 w0.heap.size wr t (restOf f (xs.take k)) ∧ Hid (farLL t (.slice (some ⟨G, 0, none⟩) N N) vs)) (fun _ i _ => xs.length - (intOf i).toNat)
  case atStart =>
    refine ⟨0, vs0, Nat.zero_le _, rfl, lz2, ?_, HOE.out, HFE.out⟩
    rw [List.take_zero, binsOf_nil]
    exact HOZ.out
  case round =>
    obtain ⟨k, vs, hk, rfl, lr, hB, hO, HFAR⟩ := hrel
    obtain ⟨w1, rfl⟩ : ∃ w1 : World, w1 = wr := ⟨_, rfl⟩
    have HB := Lib.hid hB; have HO := Lib.hid hO
    clear l0 lz2 HOZ hB HOE HFE
    obtain ⟨AO, mO, cO, rfl, hmO, _, _, _⟩ := hO.rd
    subst hmO
    clear hO
    by_cases hlt : k < xs.length
    · obtain ⟨b, o, rfl, hb, ⟨hxi, hxc⟩, c1, c2⟩ := HR.out.ltrU k hlt
      obtain ⟨x, hx⟩ : ∃ x, x = xs[k] := ⟨_, rfl⟩
      have HX := Lib.hid hx
      rw [← hx] at c1 c2 hxi hxc
      clear hx
      have hki : (k : Int) < (xs.length : Int) := by omega
      have ld := later_drew lr
      have HC : Hid (∀ W, Below w0.heap.size w0 W → Calls Tryd.prog 139 #[.agg #[.int .i64 p.bins, .int .i64 p.passes, .slice A0 p.order.length c0], .string x.code, .int .i64 k0] W fun e w' => e = .returned (.int .i64 (f x)) ∧ Below W.heap.size W w') := fun W hW => by
        rw [HFX.out]
        exact spec_l3Bin _ p x.code k0 W (HP.out.on hW) h1 h2 hk0 hord
      go_wp2
      go_region_held3 (fun W => Below w0.heap.size w0 W) (first | exact ld | exact later_trans ld b3) (first | (go_at_call 139; refine (HC.out _ ld).mono ?_; rintro e w3 ⟨rfl, b3⟩))
      have lw3 := later_trans ld b3
      have B3 : Below w1.heap.size w1 w3 := later_trans ((Below.refl _ _).drew) b3
      obtain ⟨fx1, fx2⟩ := HF.out x
      rw [← HFX.out] at fx1 fx2
      have HFXK : Hid (f xs[k] = f x) := by show _ = _; rw [← HX.out]
      have hs3 : w0.heap.size ≤ w3.heap.size := lw3.size
      have HB3 := Lib.hid (HB.out.below B3); have HO3 := Lib.hid (HO.out.below B3)
      clear b3 ld B3
      have HZL : Hid ((restOf f (xs.take k)).length ≤ 1000) := by
        show _ ≤ _
        have := filter_len_le (fun x => decide (f x < 0)) xs k
        unfold restOf
        omega
      by_cases hneg : f x < 0
      · have HS1 := Lib.hid (binsOf_skip (f := f) (n := N) hlt (by rw [HFXK.out]; exact hneg))
        have HS2 := Lib.hid (restOf_step (f := f) hlt (by rw [HFXK.out]; exact hneg))
        have hzl := HZL.out
        go_wp2_with (at_builtin; refine wpList_append1' (α := Ltr) rfl (.tmp 32) (.tmp 37) 27 rfl w0.heap.size 98 i1 _ 24 Tryd.underlying27 ji jz0 jz1 jz2 rfl (by decide) (.slice AO (restOf f (xs.take k)).length cO) (restOf f (xs.take k)) x rfl (HO3.out.alloc _) ⟨w3.heap.size, 0, none⟩ 1 (Ltr.cells x) rfl ⟨⟨hxi, hxc⟩, rfl⟩ (news_at w3 _ (Ltr.cells x)) (by unfold maxLen; omega) (by omega) (by simp; omega) ?_; intro g cap w4 ho4 hg4 ha4 hl4)
        have HB4 := Lib.hid (farLL_grown (HB3.out.below ((Below.refl _ _).alloc (Nat.le_refl _) _)) HFAR.out hg4)
        have b4 : Below w0.heap.size w0 w4 := by
          refine (later_alloc lw3 (Obj.cells #[Value.int IntKind.i64 x.id, Value.string x.code] 98)).grown hg4 (by simp; omega) fun j hj => ?_
          exact (HO3.out.blk j hj).1
        have HFAR4 : Hid (farLL (.slice (some ⟨g, 0, none⟩) ((restOf f (xs.take k)).length + 1) cap) (.slice (some ⟨G, 0, none⟩) N N) vs) := farLL_app HB3.out HFAR.out ha4 (by simp)
        go_wp2
        go_roundw
        case rel => exact ⟨k + 1, vs, by omega, by go_num, b4, by rw [HS1.out]; exact HB4.out, by rw [HS2.out, ← HX.out]; exact ho4, HFAR4⟩
        case measure => simp [intOf]; omega
      · obtain ⟨d, hd⟩ := Int.eq_ofNat_of_zero_le (show 0 ≤ f x by omega)
        have hdN : d < N := by omega
        have HD := Lib.hid hd
        have HS2 := Lib.hid (restOf_skip (f := f) hlt (by rw [HFXK.out]; omega))
        have hlb : d < (binsOf f N (xs.take k)).length := by rw [binsOf_len]; exact hdN
        have HS1 := Lib.hid (binsOf_step (f := f) (n := N) (d := d) hlt (by rw [HFXK.out]; exact HD.out) hlb)
        obtain ⟨hlv, hov, hgv⟩ : ∃ hlv : d < vs.length, own 98 w0.heap.size w3 vs[d] (binsOf f N (xs.take k))[d] ∧ apart vs[d] (.slice (some ⟨G, 0, none⟩) N N) := by
          obtain ⟨z1, z2, z3, z4, z5⟩ := HB3.out
          exact ⟨by omega, z3 d (by omega) hlb, z5 d (by omega)⟩
        have hcG : w3.cell? ⟨G, d, none⟩ = some vs[d] := own_cellv HB3.out.1 d hlv
        have hfG : w3.frozen? ⟨G, d, none⟩ = false := HB3.out.1.freeAt d
        have hzl : (binsOf f N (xs.take k))[d].length ≤ 1000 := by
          rw [binsOf_get]
          have := filter_len_le (fun x => f x == (d : Int)) xs k
          omega
        obtain ⟨zs, hzs⟩ : ∃ zs, zs = (binsOf f N (xs.take k))[d] := ⟨_, rfl⟩
        have HZS := Lib.hid hzs
        rw [← hzs] at hov hzl
        clear hzs
        obtain ⟨u, hu⟩ : ∃ u, u = vs[d] := ⟨_, rfl⟩
        have HU := Lib.hid hu
        rw [← hu] at hov hgv hcG
        clear hu
        obtain ⟨Au, mu, cu, rfl, hmu, _, _, _⟩ := hov.rd
        subst hmu
        have HOV := Lib.hid hov; clear hov
        have HGV := Lib.hid hgv; clear hgv
        rw [HD.out]
        have hdn : (d : Int) < (N : Int) := by omega
        have hd0 : ¬ ((d : Int) < 0) := by omega
        have hGs : some G ≠ (Value.slice Au zs.length cu).ownBlock := by
          have h := HGV.out
          unfold apart at h
          rcases h with h | h
          · rw [h]; simp
          · exact fun e => h e.symm
        have HGS := Lib.hid hGs; clear hGs
        have hGlt : G < w3.heap.size := (HB3.out.1.blk G rfl).2
        go_wp2
        go_region_law (first | ((refine step_append1 (α := Ltr) (by rfl) (.tmp 44) (.tmp 49) 27 (by rfl) w0.heap.size 98 i1 _ 24 Tryd.underlying27 ji jz0 jz1 jz2 rfl (by decide) (.slice Au zs.length cu) zs x (by rfl) ((HOV.out.alloc _).drew) ⟨w3.heap.size, 0, none⟩ 1 (Ltr.cells x) (by rfl) ⟨⟨hxi, hxc⟩, rfl⟩ (news_drew w3 _ (Ltr.cells x)) (by unfold maxLen; omega) (by omega) (by simp; omega) ?_; intro g cap w4 ho4 hg4 ha4 hl4; have hcG4 : w4.cell? ⟨G, d, none⟩ = some (.slice Au zs.length cu) := (hg4.cell_far ⟨G, d, none⟩ (by simp; omega) HGS.out).trans (by go_simp); have hfG4 : w4.frozen? ⟨G, d, none⟩ = false := (hg4.frozen_far ⟨G, d, none⟩ (by simp; omega) HGS.out).trans (by go_simp))))
        all_goals
          have hWD : Below w3.heap.size w3 (w3.alloc (Obj.cells #[Value.int IntKind.i64 x.id, Value.string x.code] 98)).drew := later_drew (later_alloc (Below.refl _ _) _)
          obtain ⟨p1, p2, p3⟩ := place_step HB3.out HO3.out HFAR.out hWD hlv hlb HU.out HZS.out ho4 hg4 ha4
          have p4 := place_later (G := G) (d := d) (g := g) (m := zs.length + 1) (cap := cap) (later_drew (later_alloc lw3 (Obj.cells #[Value.int IntKind.i64 x.id, Value.string x.code] 98))) hg4 (fun j hj => (HOV.out.blk j hj).1) hG0
          have P1 := Lib.hid p1; have P2 := Lib.hid p2; have P3 := Lib.hid p3
          clear p1 p2 p3 hWD
          go_wp2
          go_roundw
          case rel => exact ⟨k + 1, _, by omega, by go_num, p4, by rw [HS1.out, ← HX.out]; exact P1.out, by rw [HS2.out]; exact P2.out, P3.out⟩
          case measure => simp [intOf]; omega
    · have HE := Lib.hid (show k = xs.length by omega)
      go_wp2
      go_ret2
      have hB := HB.out
      have hO := HO.out
      have hF := HFAR.out
      rw [HE.out, List.take_length] at hB hO hF ⊢
      exact ⟨_, _, vs, rfl, hB.base_ (Nat.le_of_lt hwlt), hO.base_ (Nat.le_of_lt hwlt), hF, later_trans HT.out lr⟩

end Go.Proofs.YtffbcfaahegglaaDoor

namespace Go.Proofs.YtffbcfaahegglaaDoor
open Go.RowKit

set_option maxRecDepth 100000 in
set_option maxHeartbeats 1600000 in
theorem spec_RunPlan (v vb : Value) (p : Pln) (xs : List Ltr) (w : World) (hv : rdP w w.heap.size v p) (hb : rd w w.heap.size vb xs) :
    Calls Tryd.prog 99 #[v, vb] w fun e w' => ∃ vL vO, e = .returned (.tuple #[vL, vO, .bool (rpOk p xs)]) ∧ own 98 w.heap.size w' vL (rpRound p xs) ∧ own 98 w.heap.size w' vO (rpRest p xs) ∧ apart vL vO ∧ Below w.heap.size w w' := by
  obtain ⟨A0, c0, e0⟩ := openP hv
  obtain ⟨w0, hw0⟩ : ∃ w0, w0 = w.alloc (Obj.cells #[.int .i64 p.bins, .int .i64 p.passes, .slice A0 p.order.length c0] 89) := ⟨_, rfl⟩
  have q0 := box_cells hw0 0 (.int .i64 p.bins) rfl
  have q1 := box_cells hw0 1 (.int .i64 p.passes) rfl
  have q2 := box_cells hw0 2 (.slice A0 p.order.length c0) rfl
  have HT := Lib.hid (box_later hw0).1
  have HP := Lib.hid (hv.on HT.out)
  have HB := Lib.hid (hb.on HT.out)
  subst e0
  have HW0 := Lib.hid hw0; clear hw0 hv hb
  have l0 := Below.refl w0.heap.size w0
  have hwlt : w.heap.size ≤ w0.heap.size := HT.out.size
  have HQ : Hid (rpOk p xs = (planOk p && okB xs)) := rfl
  go_enter Tryd.func99, Tryd.ntmps99
  go_wp2_with fail
  rw [← HW0.out]
  refine (spec_l3Ready _ _ p xs _ HP.out HB.out).mono ?_
  rintro e w1 ⟨rfl, b1⟩
  have l1 := later_trans l0 b1
  cases h1 : (planOk p && okB xs)
  · have HF : Hid (rpOk p xs = false) := by show _ = _; rw [HQ.out, h1]
    clear h1
    have HE : Hid (rpRound p xs = [] ∧ rpRest p xs = []) := by unfold rpRound rpRest; rw [HF.out]; exact ⟨rfl, rfl⟩
    have o1 : own (α := Ltr) 98 w.heap.size (w1.alloc (.cells #[] 98)) (.slice (some ⟨w1.heap.size, 0, none⟩) 0 0) [] := own.made0 w1 _ (Nat.le_trans hwlt l1.size)
    have o2 : own (α := Ltr) 98 w.heap.size ((w1.alloc (.cells #[] 98)).alloc (.cells #[] 98)) (.slice (some ⟨(w1.alloc (.cells #[] 98)).heap.size, 0, none⟩) 0 0) [] := own.made0 _ _ (by simp; exact Nat.le_trans (Nat.le_trans hwlt l1.size) (Nat.le_succ _))
    have O1 := Lib.hid (o1.alloc (.cells #[] 98)); have O2 := Lib.hid o2
    clear o1 o2
    go_wp2_with fail
    go_ret3
    refine ⟨_, _, ret_tup (by rw [HF.out] <;> rfl), by rw [HE.out.1]; exact O1.out, by rw [HE.out.2]; simpa using O2.out, .inr (by show some _ ≠ some _; simp), later_trans HT.out (later_alloc (later_alloc l1 _) _)⟩
  have hh := h1
  rw [Bool.and_eq_true] at hh
  obtain ⟨g1, g2, g3, g4, g5⟩ := planOk_bins hh.1
  have hxl := okB_len' hh.2
  have HF : Hid (rpOk p xs = true) := by show _ = _; rw [HQ.out, h1]
  clear h1 hh
  obtain ⟨M, hM⟩ := Int.eq_ofNat_of_zero_le (show 0 ≤ p.passes by omega)
  have HMM := Lib.hid hM; clear hM
  have hm1 : 1 ≤ M ∧ M ≤ 4 := by have := HMM.out; omega
  have HY : Hid (rpRound p xs = passesN p 0 M xs ∧ rpRest p xs = restOf (fun x => binI p x.code 0) xs) := by
    unfold rpRound rpRest; rw [HF.out, HMM.out, Int.toNat_natCast]; exact ⟨rfl, rfl⟩
  go_wp2_with fail
  refine (spec_l3Pass _ _ p xs 0 _ (HP.out.on l1) (HB.out.on l1) g1 g2 (by omega) (by omega) (by omega)).mono ?_
  rintro e w2 ⟨vB, vO, vs, rfl, hB, hR, hF, b2⟩
  have l2 := later_trans l1 b2
  have HBB : Hid (ownLL 27 98 w0.heap.size w2 vB (binsOf (fun x => binI p x.code 0) p.bins.toNat (passesN p 0 0 xs))) := ⟨vs, hB.base_ l1.size⟩
  have HRR := Lib.hid (hR.base_ l1.size)
  clear hB hR hF b2
  go_wp2_with fail
  go_loopw [7, 9] (fun t i wr => ∃ j : Nat, j + 1 ≤ M ∧ i = .int .i64 ((j : Int) + 1) ∧ Below w0.heap.size w0 wr ∧ ownLL 27 98 w0.heap.size wr t (binsOf (fun x => binI p x.code j) p.bins.toNat (passesN p 0 j xs)) ∧ own 98 w0.heap.size wr vO (restOf (fun x => binI p x.code 0) xs)) (fun _ i _ => M - (intOf i).toNat)
  case atStart => exact ⟨0, hm1.1, by go_num, l2, HBB.out, HRR.out⟩
  case round =>
    obtain ⟨j, hj, rfl, lr, hB, hR⟩ := hrel
    obtain ⟨w3, rfl⟩ : ∃ w3 : World, w3 = wr := ⟨_, rfl⟩
    clear l2 HBB HRR l1 l0
    obtain ⟨A7, n7, c7, rfl, hn7, hc7, hm7, _⟩ := hB.rd
    clear hn7 hc7 hm7
    have HRd := Lib.hid hB.rd
    have HR := Lib.hid hR
    have hfl : (binsOf (fun x => binI p x.code j) p.bins.toNat (passesN p 0 j xs)).flatten.length ≤ 60 := Nat.le_trans (flatten_length_binsOf _) (Nat.le_trans (passesN_len p j 0 xs) hxl)
    have HS : Hid (passesN p 0 (j + 1) xs = (binsOf (fun x => binI p x.code j) p.bins.toNat (passesN p 0 j xs)).flatten) := by
      have := passesN_succ p j 0 xs
      rw [Nat.zero_add] at this
      exact this
    rw [← HS.out] at hfl
    clear hB hR
    have CJ : Hid (∀ W, Below w3.heap.size w3 W → Calls Tryd.prog 124 #[.slice A7 n7 c7] W fun e w' => ∃ v', e = .returned v' ∧ own 98 W.heap.size w' v' (passesN p 0 (j + 1) xs) ∧ Below W.heap.size W w') := fun W hW => by
      have h := spec_l2Collect _ _ W (HRd.out.on hW) (by rw [← HS.out]; omega)
      rw [← HS.out] at h
      exact h
    generalize hys : passesN p 0 (j + 1) xs = ys at *
    have HYS := Lib.hid hys; clear hys
    by_cases hlt : j + 1 < M
    · have hlt' : (j : Int) + 1 < p.passes := by have := HMM.out; omega
      have CD : Hid (∀ W, Below w0.heap.size w0 W → ∀ vf, rd W W.heap.size vf ys → Calls Tryd.prog 123 #[.agg #[.int .i64 p.bins, .int .i64 p.passes, .slice A0 p.order.length c0], vf, .int .i64 ((j : Int) + 1)] W fun e w' => ∃ vB vO vs, e = .returned (.tuple #[vB, vO]) ∧ isLL 27 98 W.heap.size w' vB (binsOf (fun x => binI p x.code (j + 1)) p.bins.toNat ys) vs ∧ own 98 W.heap.size w' vO (restOf (fun x => binI p x.code (j + 1)) ys) ∧ farLL vO vB vs ∧ Below W.heap.size W w') := fun W hW vf hf =>
        spec_l3Pass _ vf p ys (j + 1) W (HP.out.on hW) hf g1 g2 (by omega) (by omega) (by omega)
      have ld := later_drew lr
      have hw1 : IntKind.i64.wrap ((j : Int) + 1) = (j : Int) + 1 := IntWalk.i64_in _ (by omega)
      have l3d : Below w3.heap.size w3 w3.drew := later_drew (Below.refl _ _)
      go_wp2
      go_region_held3 (fun W => Below w0.heap.size w0 W) (first | exact ld | exact later_trans ld b4 | exact later_trans (later_trans ld b4) b5) (first | (go_at_call 124; refine (CJ.out _ l3d).mono ?_; rintro e w4 ⟨vf, rfl, o4, b4⟩) | (go_at_call 123; refine (CD.out _ (later_trans ld b4) _ o4.rd).mono ?_; rintro e w5 ⟨vB5, vO5, vs5, rfl, hB5, hO5, hF5, b5⟩))
      have l5 := later_trans (later_trans ld b4) b5
      have HB5 : Hid (ownLL 27 98 w0.heap.size w5 vB5 (binsOf (fun x => binI p x.code (j + 1)) p.bins.toNat (passesN p 0 (j + 1) xs))) := by
        rw [HYS.out]; exact ⟨vs5, hB5.base_ (later_trans ld b4).size⟩
      have HR5 := Lib.hid (HR.out.below (later_trans (later_trans l3d b4) b5))
      clear hB5 hO5 hF5 o4 b4 b5
      go_wp2
      go_roundw
      case rel => exact ⟨j + 1, by omega, by go_num, l5, HB5.out, HR5.out⟩
      case measure => simp [intOf]; omega
    · have hlt' : ¬ ((j : Int) + 1 < p.passes) := by have := HMM.out; omega
      have HE := Lib.hid (show j + 1 = M by omega)
      go_wp2_with fail
      refine (CJ.out _ (Below.refl _ _)).mono ?_
      rintro e w4 ⟨v4, rfl, o4, b4⟩
      have l4 := later_trans lr b4
      have HA := Lib.hid (apart_gt o4 HR.out (Nat.le_refl _))
      have O4 := Lib.hid (o4.base_ (Nat.le_trans hwlt lr.size))
      have R4 := Lib.hid ((HR.out.below b4).base_ hwlt)
      clear o4
      go_wp2_with fail
      go_ret3
      exact ⟨_, _, ret_tup (by rw [HF.out] <;> rfl), by rw [HY.out.1, ← HE.out, HYS.out]; exact O4.out, by rw [HY.out.2]; exact R4.out, HA.out, later_trans HT.out l4⟩


end Go.Proofs.YtffbcfaahegglaaDoor
