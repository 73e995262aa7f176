/- B5 B10 DC SR1 D1 -/
import Derived.Test.YtpinkbodbedajaaGreatDoorQ5
import Derived.Test.YtpinkbodbedajaaGreatDoorQ8
import Derived.IntWalk
import Derived.Test.YtpinkbodbedajaaGreatDoorQ10
import Derived.Test.YtpinkbodbedajaaGreatDoorQ11
import Derived.Test.YtpinkbodbedajaaGreatDoorQ2
namespace Go.Proofs.YtpinkbodbedajaaGreatDoor
open Go.RowKit

set_option maxHeartbeats 800000 in
theorem spec_l2Collect (v : Value) (xss : List (List Ltr)) (w : World) (hv : rd w w.heap.size v xss) (hl : xss.flatten.length ≤ 1048576) :
    Calls Tryz.prog 96 #[v] w fun e w' => ∃ v', e = .returned v' ∧ own 89 w.heap.size w' v' xss.flatten ∧ Below w.heap.size w w' := by
  obtain ⟨A, n, c, rfl, hn, hc, hm, hr⟩ := hv
  subst hn
  unfold maxLen at hm
  have HR := Lib.hid hr; clear hr
  have HL := Lib.hid hl; clear hl
  obtain ⟨i0, hi, hz0, hz1, hz2⟩ := info_parts Tryz.infoLtr
  go_enter Tryz.func96, Tryz.ntmps96
  go_wp2
  have ho0 : own (α := Ltr) 89 w.heap.size (w.alloc (Obj.cells #[] 89)) (.slice (some ⟨w.heap.size, 0, none⟩) 0 0) [] := own.made0 w _ (Nat.le_refl _)
  have l0 : Below w.heap.size w (w.alloc (Obj.cells #[] 89)) := (Below.refl _ _).alloc (Nat.le_refl _) _
  generalize (w.alloc (Obj.cells #[] 89)) = w0 at *
  go_loopw [3, 4] (fun t i wr => ∃ k : Nat, k ≤ xss.length ∧ i = .int .i64 k ∧ Below w.heap.size w wr ∧ own 89 w.heap.size wr t (xss.take k).flatten) (fun _ i _ => xss.length - (intOf i).toNat)
  case atStart => exact ⟨0, Nat.zero_le _, rfl, l0, ho0⟩
  case round =>
    obtain ⟨k, hk, rfl, lr, ho⟩ := hrel
    obtain ⟨w1, rfl⟩ : ∃ w1 : World, w1 = wr := ⟨_, rfl⟩
    clear l0 ho0
    by_cases hlt : k < xss.length
    · obtain ⟨b, o, u, rfl, hb, hu, c1⟩ := HR.out.rowU k hlt
      have HS : Hid ((xss.take (k + 1)).flatten = (xss.take k).flatten ++ xss[k]) := by show _ = _; rw [List.take_succ_eq_append_getElem hlt, List.flatten_append]; simp
      have HLB : Hid ((xss.take k).flatten.length + xss[k].length ≤ 1048576) := by
        show _ ≤ _
        rw [← List.length_append, ← HS.out]
        have : (xss.take (k + 1)).flatten.length ≤ xss.flatten.length := by
          conv => rhs; rw [← List.take_append_drop (k + 1) xss, List.flatten_append, List.length_append]
          omega
        have := HL.out
        omega
      generalize xss[k] = ys at *
      obtain ⟨A2, m2, c2, rfl, hm2, hc2, hmm2, hr2⟩ := hu
      have hu : rd w w.heap.size (.slice A2 m2 c2) ys := ⟨A2, m2, c2, rfl, hm2, hc2, hmm2, hr2⟩
      clear hm2 hc2 hmm2 hr2
      have HU := Lib.hid hu; clear hu
      generalize hys : (xss.take k).flatten = zs at *
      have HYS := Lib.hid hys; clear hys
      have ho' := Lib.hid ho
      obtain ⟨A3, m3, c3, rfl, hm3, _, _, _⟩ := ho.rd
      subst hm3
      clear ho
      have hbd := HLB.out
      go_wp2_with (at_builtin; refine wpList_appendAll (α := Ltr) rfl (.tmp 12) (.tmp 16) 29 rfl w.heap.size 89 i0 _ 24 Tryz.underlying29 hi hz0 hz1 hz2 rfl (by decide) (.slice A3 zs.length c3) zs rfl ho'.out (.slice A2 m2 c2) ys rfl w1.heap.size (HU.out.on lr) (by have := HLB.out; unfold maxLen; omega) (by have := HLB.out; omega) lr.size ?_; intro v' w2 ho2 hg2 _)
      have l2 : Below w.heap.size w w2 := lr.trans (below_append ho'.out hg2 lr.size)
      go_wp2
      go_roundw
      case rel => exact ⟨k + 1, by omega, by go_num, l2, by rw [HS.out]; exact ho2⟩
      case measure => simp [intOf]; omega
    · have HE := Lib.hid (show k = xss.length by omega)
      go_wp2
      go_ret
      exact ⟨_, rfl, by rw [HE.out, List.take_length] at ho; exact ho, lr⟩

set_option maxRecDepth 100000 in
set_option maxHeartbeats 3200000 in
theorem spec_l3Pass (v vb : Value) (p : Pln) (xs : List Ltr) (k0 : Nat) (w : World) (hv : rdP w w.heap.size v p) (hb : rd w w.heap.size vb xs)
    (h1 : 2 ≤ p.bins) (h2 : p.bins ≤ 16) (hk0 : k0 ≤ 4) (hord : p.order.length ≤ 1000) (hl : xs.length ≤ 1000) :
    Calls Tryz.prog 95 #[v, vb, .int .i64 k0] w fun e w' => ∃ vB vO vs, e = .returned (.tuple #[vB, vO]) ∧ isLL 29 89 w.heap.size w' vB (binsOf (fun x => binI p x.code k0) p.bins.toNat xs) vs ∧ own 89 w.heap.size w' vO (restOf (fun x => binI p x.code k0) xs) ∧ farLL vO vB vs ∧ Below w.heap.size w w' := by
  obtain ⟨A0, c0, e0⟩ := openP hv
  obtain ⟨w0, hw0⟩ : ∃ w0, w0 = w.alloc (Obj.cells #[.int .i64 p.bins, .int .i64 p.passes, .slice A0 p.order.length c0] 25) := ⟨_, rfl⟩
  have q0 := box_cells hw0 0 (.int .i64 p.bins) rfl
  have q1 := box_cells hw0 1 (.int .i64 p.passes) rfl
  have q2 := box_cells hw0 2 (.slice A0 p.order.length c0) rfl
  have HT := Lib.hid (box_later hw0).1
  have HP := Lib.hid (hv.on HT.out)
  have hb' := hb.on HT.out
  subst e0
  obtain ⟨A, n, cp, rfl, hn, hc, hmx, hr⟩ := hb'
  subst hn
  unfold maxLen at hmx
  have HR := Lib.hid hr
  have hz0 : w0.heap.size = w.heap.size + 1 := by subst hw0; simp
  have hwlt : w.heap.size < w0.heap.size := by omega
  have HZ0 := Lib.hid hz0
  have HW0 := Lib.hid hw0; clear hw0 hv hb hr hz0
  have l0 := Below.refl w0.heap.size w0
  obtain ⟨N, hN⟩ := Int.eq_ofNat_of_zero_le (show 0 ≤ p.bins by omega)
  have hNN : p.bins.toNat = N := by omega
  have HNN := Lib.hid hNN; clear hNN
  have hN16 : N ≤ 16 := by omega
  obtain ⟨i0, hi, hzz, hz1, hz2⟩ := info_parts Tryz.infoRow
  have hmk := make_row (P := Tryz.prog) 37 29 i0 _ Tryz.underlying37 hi hzz N (by rw [hz2]; omega) (by omega)
  rw [← hN] at hmk
  have HN := Lib.hid hN; clear hN
  obtain ⟨i1, ji, jz0, jz1, jz2⟩ := info_parts Tryz.infoLtr
  have HF : Hid (∀ x : Ltr, -1 ≤ binI p x.code k0 ∧ binI p x.code k0 < N) := fun x => by
    have := binI_range p x.code k0 h1
    have := HN.out
    omega
  obtain ⟨f, HFF⟩ : ∃ f : Ltr → Int, Hid (f = fun x => binI p x.code k0) := ⟨_, rfl⟩
  rw [← HFF.out]
  have HFX : Hid (∀ x, f x = binI p x.code k0) := fun x => by rw [HFF.out]
  rw [HNN.out]
  go_enter Tryz.func95, Tryz.ntmps95
  go_wp2
  rw [← HW0.out]
  obtain ⟨vs0, hoz⟩ := made_nil_row (α := Ltr) w0 29 89 N w0.heap.size (Nat.le_refl _) (by unfold maxLen; omega)
  have lz : Below w0.heap.size w0 (w0.alloc (Obj.cells (madeCells #[.slice none 0 0] N) 29)) := later_alloc l0 _
  have hzz2 : (w0.alloc (Obj.cells (madeCells #[.slice none 0 0] N) 29)).heap.size = w.heap.size + 1 + 1 := by simp [HZ0.out]
  generalize (w0.alloc (Obj.cells (madeCells #[.slice none 0 0] N) 29)) = wz at *
  have hG0 : w0.heap.size ≤ w.heap.size + 1 := Nat.le_of_eq HZ0.out
  have hoz2 := hoz
  rw [show (Value.slice (some ⟨w0.heap.size, 0, none⟩) N N) = (Value.slice (some ⟨w.heap.size + 1, 0, none⟩) N N) by rw [HZ0.out]] at hoz2
  clear hoz
  have hoe : own (α := Ltr) 89 w0.heap.size (wz.alloc (Obj.cells #[] 89)) (.slice (some ⟨wz.heap.size, 0, none⟩) 0 0) [] := own.made0 wz _ lz.size
  rw [hzz2] at hoe
  have hfe : farLL (.slice (some ⟨w.heap.size + 1 + 1, 0, none⟩) 0 0) (.slice (some ⟨w.heap.size + 1, 0, none⟩) N N) vs0 := by
    refine ⟨.inr (by show some _ ≠ some _; simp), fun k hk => .inr fun e => ?_⟩
    obtain ⟨z1, z2, z3, _⟩ := hoz2
    have hh : w.heap.size + 1 + 1 < wz.heap.size := ((z3 k hk (by omega)).blk _ e.symm).2
    omega
  have HFE := Lib.hid hfe
  have HOE := Lib.hid hoe
  have HOZ := Lib.hid (hoz2.below ((Below.refl _ _).alloc (Nat.le_refl _) (Obj.cells #[] 89)))
  have lz2 := later_alloc lz (Obj.cells #[] 89)
  clear hoz2 hoe hzz2 lz hfe
  generalize hgw : wz.alloc (Obj.cells #[] 89) = wy at *
  clear hgw
  generalize hG2 : w.heap.size + 1 + 1 = G2 at *
  generalize hG : w.heap.size + 1 = G at *
  have HGG := Lib.hid hG; have HGG2 := Lib.hid hG2; clear hG hG2 hmk
  go_loopw [9, 10] (fun t i wr => ∃ (k : Nat) (vs : List Value), k ≤ xs.length ∧ i = .int .i64 k ∧ Below w0.heap.size w0 wr ∧ isLL 29 89 w0.heap.size wr (.slice (some ⟨G, 0, none⟩) N N) (binsOf f N (xs.take k)) vs ∧ own 89 w0.heap.size wr t (restOf f (xs.take k)) ∧ Hid (farLL t (.slice (some ⟨G, 0, none⟩) N N) vs)) (fun _ i _ => xs.length - (intOf i).toNat)
  case atStart =>
    refine ⟨0, vs0, Nat.zero_le _, rfl, lz2, ?_, HOE.out, HFE.out⟩
    rw [List.take_zero, binsOf_nil]
    exact HOZ.out
  case round =>
    obtain ⟨k, vs, hk, rfl, lr, hB, hO, HFAR⟩ := hrel
    obtain ⟨w1, rfl⟩ : ∃ w1 : World, w1 = wr := ⟨_, rfl⟩
    have HB := Lib.hid hB; have HO := Lib.hid hO
    clear l0 lz2 HOZ hB HOE HFE
    obtain ⟨AO, mO, cO, rfl, hmO, _, _, _⟩ := hO.rd
    subst hmO
    clear hO
    by_cases hlt : k < xs.length
    · obtain ⟨b, o, rfl, hb, ⟨hxi, hxc⟩, c1, c2⟩ := HR.out.ltrU k hlt
      obtain ⟨x, hx⟩ : ∃ x, x = xs[k] := ⟨_, rfl⟩
      have HX := Lib.hid hx
      rw [← hx] at c1 c2 hxi hxc
      clear hx
      have hki : (k : Int) < (xs.length : Int) := by omega
      have ld := later_drew lr
      have HC : Hid (∀ W, Below w0.heap.size w0 W → Calls Tryz.prog 162 #[.agg #[.int .i64 p.bins, .int .i64 p.passes, .slice A0 p.order.length c0], .string x.code, .int .i64 k0] W fun e w' => e = .returned (.int .i64 (f x)) ∧ Below W.heap.size W w') := fun W hW => by
        rw [HFX.out]
        exact spec_l3Bin _ p x.code k0 W (HP.out.on hW) h1 h2 hk0 hord
      go_wp2
      go_region_held3 (fun W => Below w0.heap.size w0 W) (first | exact ld | exact later_trans ld b3) (first | (go_at_call 162; refine (HC.out _ ld).mono ?_; rintro e w3 ⟨rfl, b3⟩))
      have lw3 := later_trans ld b3
      have B3 : Below w1.heap.size w1 w3 := later_trans ((Below.refl _ _).drew) b3
      obtain ⟨fx1, fx2⟩ := HF.out x
      rw [← HFX.out] at fx1 fx2
      have HFXK : Hid (f xs[k] = f x) := by show _ = _; rw [← HX.out]
      have hs3 : w0.heap.size ≤ w3.heap.size := lw3.size
      have HB3 := Lib.hid (HB.out.below B3); have HO3 := Lib.hid (HO.out.below B3)
      clear b3 ld B3
      have HZL : Hid ((restOf f (xs.take k)).length ≤ 1000) := by
        show _ ≤ _
        have := filter_len_le (fun x => decide (f x < 0)) xs k
        unfold restOf
        omega
      by_cases hneg : f x < 0
      · have HS1 := Lib.hid (binsOf_skip (f := f) (n := N) hlt (by rw [HFXK.out]; exact hneg))
        have HS2 := Lib.hid (restOf_step (f := f) hlt (by rw [HFXK.out]; exact hneg))
        have hzl := HZL.out
        go_wp2_with (at_builtin; refine wpList_append1' (α := Ltr) rfl (.tmp 32) (.tmp 37) 29 rfl w0.heap.size 89 i1 _ 24 Tryz.underlying29 ji jz0 jz1 jz2 rfl (by decide) (.slice AO (restOf f (xs.take k)).length cO) (restOf f (xs.take k)) x rfl (HO3.out.alloc _) ⟨w3.heap.size, 0, none⟩ 1 (Ltr.cells x) rfl ⟨⟨hxi, hxc⟩, rfl⟩ (news_at w3 _ (Ltr.cells x)) (by unfold maxLen; omega) (by omega) (by simp; omega) ?_; intro g cap w4 ho4 hg4 ha4 hl4)
        have HB4 := Lib.hid (farLL_grown (HB3.out.below ((Below.refl _ _).alloc (Nat.le_refl _) _)) HFAR.out hg4)
        have b4 : Below w0.heap.size w0 w4 := by
          refine (later_alloc lw3 (Obj.cells #[Value.int IntKind.i64 x.id, Value.string x.code] 89)).grown hg4 (by simp; omega) fun j hj => ?_
          exact (HO3.out.blk j hj).1
        have HFAR4 : Hid (farLL (.slice (some ⟨g, 0, none⟩) ((restOf f (xs.take k)).length + 1) cap) (.slice (some ⟨G, 0, none⟩) N N) vs) := farLL_app HB3.out HFAR.out ha4 (by simp)
        go_wp2
        go_roundw
        case rel => exact ⟨k + 1, vs, by omega, by go_num, b4, by rw [HS1.out]; exact HB4.out, by rw [HS2.out, ← HX.out]; exact ho4, HFAR4⟩
        case measure => simp [intOf]; omega
      · obtain ⟨d, hd⟩ := Int.eq_ofNat_of_zero_le (show 0 ≤ f x by omega)
        have hdN : d < N := by omega
        have HD := Lib.hid hd
        have HS2 := Lib.hid (restOf_skip (f := f) hlt (by rw [HFXK.out]; omega))
        have hlb : d < (binsOf f N (xs.take k)).length := by rw [binsOf_len]; exact hdN
        have HS1 := Lib.hid (binsOf_step (f := f) (n := N) (d := d) hlt (by rw [HFXK.out]; exact HD.out) hlb)
        obtain ⟨hlv, hov, hgv⟩ : ∃ hlv : d < vs.length, own 89 w0.heap.size w3 vs[d] (binsOf f N (xs.take k))[d] ∧ apart vs[d] (.slice (some ⟨G, 0, none⟩) N N) := by
          obtain ⟨z1, z2, z3, z4, z5⟩ := HB3.out
          exact ⟨by omega, z3 d (by omega) hlb, z5 d (by omega)⟩
        have hcG : w3.cell? ⟨G, d, none⟩ = some vs[d] := own_cellv HB3.out.1 d hlv
        have hfG : w3.frozen? ⟨G, d, none⟩ = false := HB3.out.1.freeAt d
        have hzl : (binsOf f N (xs.take k))[d].length ≤ 1000 := by
          rw [binsOf_get]
          have := filter_len_le (fun x => f x == (d : Int)) xs k
          omega
        obtain ⟨zs, hzs⟩ : ∃ zs, zs = (binsOf f N (xs.take k))[d] := ⟨_, rfl⟩
        have HZS := Lib.hid hzs
        rw [← hzs] at hov hzl
        clear hzs
        obtain ⟨u, hu⟩ : ∃ u, u = vs[d] := ⟨_, rfl⟩
        have HU := Lib.hid hu
        rw [← hu] at hov hgv hcG
        clear hu
        obtain ⟨Au, mu, cu, rfl, hmu, _, _, _⟩ := hov.rd
        subst hmu
        have HOV := Lib.hid hov; clear hov
        have HGV := Lib.hid hgv; clear hgv
        rw [HD.out]
        have hdn : (d : Int) < (N : Int) := by omega
        have hd0 : ¬ ((d : Int) < 0) := by omega
        have hGs : some G ≠ (Value.slice Au zs.length cu).ownBlock := by
          have h := HGV.out
          unfold apart at h
          rcases h with h | h
          · rw [h]; simp
          · exact fun e => h e.symm
        have HGS := Lib.hid hGs; clear hGs
        have hGlt : G < w3.heap.size := (HB3.out.1.blk G rfl).2
        go_wp2
        go_region_law (first | ((refine step_append1 (α := Ltr) (by rfl) (.tmp 44) (.tmp 49) 29 (by rfl) w0.heap.size 89 i1 _ 24 Tryz.underlying29 ji jz0 jz1 jz2 rfl (by decide) (.slice Au zs.length cu) zs x (by rfl) ((HOV.out.alloc _).drew) ⟨w3.heap.size, 0, none⟩ 1 (Ltr.cells x) (by rfl) ⟨⟨hxi, hxc⟩, rfl⟩ (news_drew w3 _ (Ltr.cells x)) (by unfold maxLen; omega) (by omega) (by simp; omega) ?_; intro g cap w4 ho4 hg4 ha4 hl4; have hcG4 : w4.cell? ⟨G, d, none⟩ = some (.slice Au zs.length cu) := (hg4.cell_far ⟨G, d, none⟩ (by simp; omega) HGS.out).trans (by go_simp); have hfG4 : w4.frozen? ⟨G, d, none⟩ = false := (hg4.frozen_far ⟨G, d, none⟩ (by simp; omega) HGS.out).trans (by go_simp))))
        all_goals
          have hWD : Below w3.heap.size w3 (w3.alloc (Obj.cells #[Value.int IntKind.i64 x.id, Value.string x.code] 89)).drew := later_drew (later_alloc (Below.refl _ _) _)
          obtain ⟨p1, p2, p3⟩ := place_step HB3.out HO3.out HFAR.out hWD hlv hlb HU.out HZS.out ho4 hg4 ha4
          have p4 := place_later (G := G) (d := d) (g := g) (m := zs.length + 1) (cap := cap) (later_drew (later_alloc lw3 (Obj.cells #[Value.int IntKind.i64 x.id, Value.string x.code] 89))) hg4 (fun j hj => (HOV.out.blk j hj).1) hG0
          have P1 := Lib.hid p1; have P2 := Lib.hid p2; have P3 := Lib.hid p3
          clear p1 p2 p3 hWD
          go_wp2
          go_roundw
          case rel => exact ⟨k + 1, _, by omega, by go_num, p4, by rw [HS1.out, ← HX.out]; exact P1.out, by rw [HS2.out]; exact P2.out, P3.out⟩
          case measure => simp [intOf]; omega
    · have HE := Lib.hid (show k = xs.length by omega)
      go_wp2
      go_ret2
      have hB := HB.out
      have hO := HO.out
      have hF := HFAR.out
      rw [HE.out, List.take_length] at hB hO hF ⊢
      exact ⟨_, _, vs, rfl, hB.base_ (Nat.le_of_lt hwlt), hO.base_ (Nat.le_of_lt hwlt), hF, later_trans HT.out lr⟩

end Go.Proofs.YtpinkbodbedajaaGreatDoor

namespace Go.Proofs.YtpinkbodbedajaaGreatDoor
open Go.RowKit

set_option maxRecDepth 100000 in
set_option maxHeartbeats 1600000 in
theorem spec_RunPlan (v vb : Value) (p : Pln) (xs : List Ltr) (w : World) (hv : rdP w w.heap.size v p) (hb : rd w w.heap.size vb xs) :
    Calls Tryz.prog 35 #[v, vb] w fun e w' => ∃ vL vO, e = .returned (.tuple #[vL, vO, .bool (rpOk p xs)]) ∧ own 89 w.heap.size w' vL (rpRound p xs) ∧ own 89 w.heap.size w' vO (rpRest p xs) ∧ apart vL vO ∧ Below w.heap.size w w' := by
  obtain ⟨A0, c0, e0⟩ := openP hv
  obtain ⟨w0, hw0⟩ : ∃ w0, w0 = w.alloc (Obj.cells #[.int .i64 p.bins, .int .i64 p.passes, .slice A0 p.order.length c0] 25) := ⟨_, rfl⟩
  have q0 := box_cells hw0 0 (.int .i64 p.bins) rfl
  have q1 := box_cells hw0 1 (.int .i64 p.passes) rfl
  have q2 := box_cells hw0 2 (.slice A0 p.order.length c0) rfl
  have HT := Lib.hid (box_later hw0).1
  have HP := Lib.hid (hv.on HT.out)
  have HB := Lib.hid (hb.on HT.out)
  subst e0
  have HW0 := Lib.hid hw0; clear hw0 hv hb
  have l0 := Below.refl w0.heap.size w0
  have hwlt : w.heap.size ≤ w0.heap.size := HT.out.size
  have HQ : Hid (rpOk p xs = (planOk p && okB xs)) := rfl
  go_enter Tryz.func35, Tryz.ntmps35
  go_wp2_with fail
  rw [← HW0.out]
  refine (spec_l3Ready _ _ p xs _ HP.out HB.out).mono ?_
  rintro e w1 ⟨rfl, b1⟩
  have l1 := later_trans l0 b1
  cases h1 : (planOk p && okB xs)
  · have HF : Hid (rpOk p xs = false) := by show _ = _; rw [HQ.out, h1]
    clear h1
    have HE : Hid (rpRound p xs = [] ∧ rpRest p xs = []) := by unfold rpRound rpRest; rw [HF.out]; exact ⟨rfl, rfl⟩
    have o1 : own (α := Ltr) 89 w.heap.size (w1.alloc (.cells #[] 89)) (.slice (some ⟨w1.heap.size, 0, none⟩) 0 0) [] := own.made0 w1 _ (Nat.le_trans hwlt l1.size)
    have o2 : own (α := Ltr) 89 w.heap.size ((w1.alloc (.cells #[] 89)).alloc (.cells #[] 89)) (.slice (some ⟨(w1.alloc (.cells #[] 89)).heap.size, 0, none⟩) 0 0) [] := own.made0 _ _ (by simp; exact Nat.le_trans (Nat.le_trans hwlt l1.size) (Nat.le_succ _))
    have O1 := Lib.hid (o1.alloc (.cells #[] 89)); have O2 := Lib.hid o2
    clear o1 o2
    go_wp2_with fail
    go_ret3
    refine ⟨_, _, ret_tup (by rw [HF.out] <;> rfl), by rw [HE.out.1]; exact O1.out, by rw [HE.out.2]; simpa using O2.out, .inr (by show some _ ≠ some _; simp), later_trans HT.out (later_alloc (later_alloc l1 _) _)⟩
  have hh := h1
  rw [Bool.and_eq_true] at hh
  obtain ⟨g1, g2, g3, g4, g5⟩ := planOk_bins hh.1
  have hxl := okB_len' hh.2
  have HF : Hid (rpOk p xs = true) := by show _ = _; rw [HQ.out, h1]
  clear h1 hh
  obtain ⟨M, hM⟩ := Int.eq_ofNat_of_zero_le (show 0 ≤ p.passes by omega)
  have HMM := Lib.hid hM; clear hM
  have hm1 : 1 ≤ M ∧ M ≤ 4 := by have := HMM.out; omega
  have HY : Hid (rpRound p xs = passesN p 0 M xs ∧ rpRest p xs = restOf (fun x => binI p x.code 0) xs) := by
    unfold rpRound rpRest; rw [HF.out, HMM.out, Int.toNat_natCast]; exact ⟨rfl, rfl⟩
  go_wp2_with fail
  refine (spec_l3Pass _ _ p xs 0 _ (HP.out.on l1) (HB.out.on l1) g1 g2 (by omega) (by omega) (by omega)).mono ?_
  rintro e w2 ⟨vB, vO, vs, rfl, hB, hR, hF, b2⟩
  have l2 := later_trans l1 b2
  have HBB : Hid (ownLL 29 89 w0.heap.size w2 vB (binsOf (fun x => binI p x.code 0) p.bins.toNat (passesN p 0 0 xs))) := ⟨vs, hB.base_ l1.size⟩
  have HRR := Lib.hid (hR.base_ l1.size)
  clear hB hR hF b2
  go_wp2_with fail
  go_loopw [7, 9] (fun t i wr => ∃ j : Nat, j + 1 ≤ M ∧ i = .int .i64 ((j : Int) + 1) ∧ Below w0.heap.size w0 wr ∧ ownLL 29 89 w0.heap.size wr t (binsOf (fun x => binI p x.code j) p.bins.toNat (passesN p 0 j xs)) ∧ own 89 w0.heap.size wr vO (restOf (fun x => binI p x.code 0) xs)) (fun _ i _ => M - (intOf i).toNat)
  case atStart => exact ⟨0, hm1.1, by go_num, l2, HBB.out, HRR.out⟩
  case round =>
    obtain ⟨j, hj, rfl, lr, hB, hR⟩ := hrel
    obtain ⟨w3, rfl⟩ : ∃ w3 : World, w3 = wr := ⟨_, rfl⟩
    clear l2 HBB HRR l1 l0
    obtain ⟨A7, n7, c7, rfl, hn7, hc7, hm7, _⟩ := hB.rd
    clear hn7 hc7 hm7
    have HRd := Lib.hid hB.rd
    have HR := Lib.hid hR
    have hfl : (binsOf (fun x => binI p x.code j) p.bins.toNat (passesN p 0 j xs)).flatten.length ≤ 60 := Nat.le_trans (flatten_length_binsOf _) (Nat.le_trans (passesN_len p j 0 xs) hxl)
    have HS : Hid (passesN p 0 (j + 1) xs = (binsOf (fun x => binI p x.code j) p.bins.toNat (passesN p 0 j xs)).flatten) := by
      have := passesN_succ p j 0 xs
      rw [Nat.zero_add] at this
      exact this
    rw [← HS.out] at hfl
    clear hB hR
    have CJ : Hid (∀ W, Below w3.heap.size w3 W → Calls Tryz.prog 96 #[.slice A7 n7 c7] W fun e w' => ∃ v', e = .returned v' ∧ own 89 W.heap.size w' v' (passesN p 0 (j + 1) xs) ∧ Below W.heap.size W w') := fun W hW => by
      have h := spec_l2Collect _ _ W (HRd.out.on hW) (by rw [← HS.out]; omega)
      rw [← HS.out] at h
      exact h
    generalize hys : passesN p 0 (j + 1) xs = ys at *
    have HYS := Lib.hid hys; clear hys
    by_cases hlt : j + 1 < M
    · have hlt' : (j : Int) + 1 < p.passes := by have := HMM.out; omega
      have CD : Hid (∀ W, Below w0.heap.size w0 W → ∀ vf, rd W W.heap.size vf ys → Calls Tryz.prog 95 #[.agg #[.int .i64 p.bins, .int .i64 p.passes, .slice A0 p.order.length c0], vf, .int .i64 ((j : Int) + 1)] W fun e w' => ∃ vB vO vs, e = .returned (.tuple #[vB, vO]) ∧ isLL 29 89 W.heap.size w' vB (binsOf (fun x => binI p x.code (j + 1)) p.bins.toNat ys) vs ∧ own 89 W.heap.size w' vO (restOf (fun x => binI p x.code (j + 1)) ys) ∧ farLL vO vB vs ∧ Below W.heap.size W w') := fun W hW vf hf =>
        spec_l3Pass _ vf p ys (j + 1) W (HP.out.on hW) hf g1 g2 (by omega) (by omega) (by omega)
      have ld := later_drew lr
      have hw1 : IntKind.i64.wrap ((j : Int) + 1) = (j : Int) + 1 := IntWalk.i64_in _ (by omega)
      have l3d : Below w3.heap.size w3 w3.drew := later_drew (Below.refl _ _)
      go_wp2
      go_region_held3 (fun W => Below w0.heap.size w0 W) (first | exact ld | exact later_trans ld b4 | exact later_trans (later_trans ld b4) b5) (first | (go_at_call 96; refine (CJ.out _ l3d).mono ?_; rintro e w4 ⟨vf, rfl, o4, b4⟩) | (go_at_call 95; refine (CD.out _ (later_trans ld b4) _ o4.rd).mono ?_; rintro e w5 ⟨vB5, vO5, vs5, rfl, hB5, hO5, hF5, b5⟩))
      have l5 := later_trans (later_trans ld b4) b5
      have HB5 : Hid (ownLL 29 89 w0.heap.size w5 vB5 (binsOf (fun x => binI p x.code (j + 1)) p.bins.toNat (passesN p 0 (j + 1) xs))) := by
        rw [HYS.out]; exact ⟨vs5, hB5.base_ (later_trans ld b4).size⟩
      have HR5 := Lib.hid (HR.out.below (later_trans (later_trans l3d b4) b5))
      clear hB5 hO5 hF5 o4 b4 b5
      go_wp2
      go_roundw
      case rel => exact ⟨j + 1, by omega, by go_num, l5, HB5.out, HR5.out⟩
      case measure => simp [intOf]; omega
    · have hlt' : ¬ ((j : Int) + 1 < p.passes) := by have := HMM.out; omega
      have HE := Lib.hid (show j + 1 = M by omega)
      go_wp2_with fail
      refine (CJ.out _ (Below.refl _ _)).mono ?_
      rintro e w4 ⟨v4, rfl, o4, b4⟩
      have l4 := later_trans lr b4
      have HA := Lib.hid (apart_gt o4 HR.out (Nat.le_refl _))
      have O4 := Lib.hid (o4.base_ (Nat.le_trans hwlt lr.size))
      have R4 := Lib.hid ((HR.out.below b4).base_ hwlt)
      clear o4
      go_wp2_with fail
      go_ret3
      exact ⟨_, _, ret_tup (by rw [HF.out] <;> rfl), by rw [HY.out.1, ← HE.out, HYS.out]; exact O4.out, by rw [HY.out.2]; exact R4.out, HA.out, later_trans HT.out l4⟩


end Go.Proofs.YtpinkbodbedajaaGreatDoor

namespace Go.Proofs.YtpinkbodbedajaaGreatDoor
open Go.RowKit

theorem Tryz.sizeRpt : (Tryz.prog.info? 33).map (·.size) = some 4 := by kernel_rfl
def runDayPost (T : TypeId) (d : Dy) (xs : List Ltr) (w : World) (e : Ending) (w' : World) : Prop :=
  ∃ vR, e = .returned (.tuple #[vR, .bool (rdOk d xs)]) ∧ ownR T w.heap.size w' vR (rptOf d xs) ∧ Below w.heap.size w w'
theorem runDay_no {T : TypeId} {d : Dy} {xs : List Ltr} {w w' : World} (h : rdOk d xs = false) (hb : Below w.heap.size w w') :
    runDayPost T d xs w (.returned (.tuple #[.agg #[.slice none 0 0, .slice none 0 0, .slice none 0 0, .slice none 0 0], .bool false])) w' :=
  ⟨_, by rw [h], by unfold rptOf; rw [h]; exact ownR.none_ _ _ _, hb⟩
theorem runDay_yes {T g b1 b2 b3 : Nat} {d : Dy} {xs : List Ltr} {w w5 : World} {vR vS vH vK : Value} (h : rdOk d xs = true) (hg : w.heap.size ≤ g) (h1 : g < b1) (h2 : g < b2) (h3 : g < b3)
    (oR : own T b3 w5 vR (dayRpt d xs).round) (oS : own T b3 w5 vS (dayRpt d xs).strange) (oH : own T b2 w5 vH (dayRpt d xs).held) (oK : own T b1 w5 vK (dayRpt d xs).stuck)
    (ha : apart vR vS ∧ apart vR vH ∧ apart vR vK ∧ apart vS vH ∧ apart vS vK ∧ apart vH vK) (hb : Below w.heap.size w w5) :
    runDayPost T d xs w (.returned (.tuple #[.agg #[vR, vS, vH, vK], .bool true])) ((((w5.setCell ⟨g, 0, none⟩ vR).setCell ⟨g, 1, none⟩ vS).setCell ⟨g, 2, none⟩ vH).setCell ⟨g, 3, none⟩ vK) := by
  have key : ∀ {b : Nat} {v : Value} {ys : List Ltr}, g < b → own T b w5 v ys → own T w.heap.size ((((w5.setCell ⟨g, 0, none⟩ vR).setCell ⟨g, 1, none⟩ vS).setCell ⟨g, 2, none⟩ vH).setCell ⟨g, 3, none⟩ vK) v ys := fun hlt ho =>
    (own_out (own_out (own_out (own_out ho ⟨g, 0, none⟩ vR hlt) ⟨g, 1, none⟩ vS hlt) ⟨g, 2, none⟩ vH hlt) ⟨g, 3, none⟩ vK hlt).base_ (Nat.le_of_lt (Nat.lt_of_le_of_lt hg hlt))
  refine ⟨_, by rw [h], ?_, later_set (later_set (later_set (later_set hb (p := ⟨g, 0, none⟩) hg vR) (p := ⟨g, 1, none⟩) hg vS) (p := ⟨g, 2, none⟩) hg vH) (p := ⟨g, 3, none⟩) hg vK⟩
  unfold rptOf
  rw [if_pos h]
  exact ⟨vR, vS, vH, vK, rfl, key h3 oR, key h3 oS, key h2 oH, key h1 oK, ha⟩

set_option maxRecDepth 100000 in
set_option maxHeartbeats 3200000 in
theorem impl_RunDay (v vb : Value) (d : Dy) (xs : List Ltr) (w : World) (hv : rdD w w.heap.size v d) (hb : rd w w.heap.size vb xs) :
    Calls Tryz.prog 8 #[v, vb] w (runDayPost 89 d xs w) := by
  obtain ⟨A0, c0, A1, c1, A2, c2, e0⟩ := openD hv
  obtain ⟨w0, hw0⟩ : ∃ w0, w0 = w.alloc (Obj.cells #[.int .i64 d.plan.bins, .int .i64 d.plan.passes, .slice A0 d.plan.order.length c0, .slice A1 d.fwds.length c1, .slice A2 d.held.length c2, .int .i64 d.size] 28) := ⟨_, rfl⟩
  have q0 := box_cells hw0 0 (.int .i64 d.plan.bins) rfl
  have q1 := box_cells hw0 1 (.int .i64 d.plan.passes) rfl
  have q2 := box_cells hw0 2 (.slice A0 d.plan.order.length c0) rfl
  have q3 := box_cells hw0 3 (.slice A1 d.fwds.length c1) rfl
  have q4 := box_cells hw0 4 (.slice A2 d.held.length c2) rfl
  have q5 := box_cells hw0 5 (.int .i64 d.size) rfl
  have HT := Lib.hid (box_later hw0).1
  have hv1 := hv.on HT.out
  subst e0
  have HD := Lib.hid hv1
  obtain ⟨hp, ho, hf, hh, hsz⟩ := partsD hv1
  have HP := Lib.hid hp; have HF := Lib.hid hf; have HH := Lib.hid hh
  clear hp ho hf hv hv1 hh hsz
  have HB := Lib.hid (hb.on HT.out)
  have hz0 : w0.heap.size = w.heap.size + 1 := by subst hw0; simp
  have HW0 := Lib.hid hw0; clear hw0 hb
  have l0 := Below.refl w0.heap.size w0
  obtain ⟨W, hW⟩ : ∃ W, W = w0.alloc (Obj.cells #[.slice none 0 0, .slice none 0 0, .slice none 0 0, .slice none 0 0] 33) := ⟨_, rfl⟩
  have lW : Below w0.heap.size w0 W := by subst hW; exact later_alloc l0 _
  have E2 : Hid (W.heap[w.heap.size + 1]? = some (.cells #[.slice none 0 0, .slice none 0 0, .slice none 0 0, .slice none 0 0] 33 (0, 0))) := by
    show _ = _
    rw [← hz0]
    subst hW
    exact heap_alloc_new w0 _
  have HZW : Hid (w.heap.size + 1 < W.heap.size) := by
    show _ < _
    subst hW
    simp
    omega
  have HZ0 := Lib.hid hz0; clear hz0
  have HW := Lib.hid hW; clear hW
  have HQ : Hid (rdOk d xs = (dayOk d && okB xs)) := rfl
  go_enter Tryz.func8, Tryz.ntmps8
  go_wp2_with fail
  rw [← HW0.out, ← HW.out]
  refine (impl_DayValid _ d _ (HD.out.on lW)).mono ?_
  rintro e w1 ⟨rfl, b1⟩
  have l1 := later_trans lW b1
  replace E2 := Lib.hid (blk_below E2.out b1)
  have k0 := blk_cell E2.out 0 (.slice none 0 0) rfl
  have k1 := blk_cell E2.out 1 (.slice none 0 0) rfl
  have k2 := blk_cell E2.out 2 (.slice none 0 0) rfl
  have k3 := blk_cell E2.out 3 (.slice none 0 0) rfl
  have kf := blk_free E2.out
  have hb0 : w.heap.size ≤ w.heap.size + 1 := Nat.le_succ _
  cases h1 : dayOk d
  · have HF : Hid (rdOk d xs = false) := by show _ = _; rw [HQ.out, h1]; rfl
    clear h1
    go_wp2_with fail
    refine out_box1 rfl rfl (four_set E2.out) Tryz.underlying33 rfl Tryz.sizeRpt rfl ?_
    exact runDay_no HF.out (later_set (later_set (later_set (later_set (later_trans HT.out l1) (p := ⟨w.heap.size + 1, 0, none⟩) hb0 _) (p := ⟨w.heap.size + 1, 1, none⟩) hb0 _) (p := ⟨w.heap.size + 1, 2, none⟩) hb0 _) (p := ⟨w.heap.size + 1, 3, none⟩) hb0 _)
  have H1 := Lib.hid h1; clear h1
  go_wp2_with fail
  refine (impl_BatchValid _ xs _ (HB.out.on l1)).mono ?_
  rintro e w2 ⟨rfl, b2⟩
  have l2 := later_trans l1 b2
  replace E2 := Lib.hid (blk_below E2.out b2)
  clear k0 k1 k2 k3 kf
  have k0 := blk_cell E2.out 0 (.slice none 0 0) rfl
  have k1 := blk_cell E2.out 1 (.slice none 0 0) rfl
  have k2 := blk_cell E2.out 2 (.slice none 0 0) rfl
  have k3 := blk_cell E2.out 3 (.slice none 0 0) rfl
  have kf := blk_free E2.out
  cases h2 : okB xs
  · have HF : Hid (rdOk d xs = false) := by show _ = _; rw [HQ.out, h2]; simp
    clear h2
    go_wp2_with fail
    refine out_box1 rfl rfl (four_set E2.out) Tryz.underlying33 rfl Tryz.sizeRpt rfl ?_
    exact runDay_no HF.out (later_set (later_set (later_set (later_set (later_trans HT.out l2) (p := ⟨w.heap.size + 1, 0, none⟩) hb0 _) (p := ⟨w.heap.size + 1, 1, none⟩) hb0 _) (p := ⟨w.heap.size + 1, 2, none⟩) hb0 _) (p := ⟨w.heap.size + 1, 3, none⟩) hb0 _)
  have HFF : Hid (rdOk d xs = true) := by show _ = _; rw [HQ.out, H1.out, h2]; rfl
  clear h2 k0 k1 k2 k3 kf hb0
  have HSZ : Hid (w.heap.size + 1 < w2.heap.size) := by
    have h1 := HZW.out; have h2 := b1.size; have h3 := b2.size
    show _ < _
    omega
  clear b1 b2
  go_wp2_with fail
  refine (impl_ForwardBatch _ _ d.fwds xs _ (HF.out.on l2) (HB.out.on l2)).mono ?_
  rintro e w3 ⟨vA, vK, rfl, oA, oK, hAK, b3⟩
  have l3 := later_trans l2 b3
  replace E2 := Lib.hid (blk_below E2.out b3)
  have HSZ3 : Hid (w2.heap.size ≤ w3.heap.size) := Lib.hid b3.size
  have OA := Lib.hid oA; have OK := Lib.hid oK
  obtain ⟨Ak, nk, ck, rfl, hnk, _, _, _⟩ := oK.rd
  subst hnk
  clear oA oK b3
  go_wp2_with fail
  refine (impl_HoldBatch _ _ (fwSent d.fwds xs) d.held _ OA.out.rd (HH.out.on l3)).mono ?_
  rintro e w4 ⟨vF, vH, rfl, oF, oH, hFH, b4⟩
  have l4 := later_trans l3 b4
  replace E2 := Lib.hid (blk_below E2.out b4)
  have HSZ4 : Hid (w3.heap.size ≤ w4.heap.size) := Lib.hid b4.size
  have HAP1 := Lib.hid (apart_gt oH OK.out (Nat.le_refl _))
  replace OK := Lib.hid (OK.out.below b4)
  have OF := Lib.hid oF; have OH := Lib.hid oH
  obtain ⟨Ah, nh, ch, rfl, hnh, _, _, _⟩ := oH.rd
  subst hnh
  clear oF oH b4 OA
  go_wp2_with fail
  refine (impl_RunPlan _ _ d.plan (hbFree d.held (fwSent d.fwds xs)) _ (HP.out.on l4) OF.out.rd).mono ?_
  rintro e w5 ⟨vR, vS, rfl, oR, oS, hRS, b5⟩
  have l5 := later_trans l4 b5
  replace E2 := Lib.hid (blk_below E2.out b5)
  have HAP : Hid (apart vR vS ∧ apart vR (.slice Ah (hbHeld d.held (fwSent d.fwds xs)).length ch) ∧ apart vR (.slice Ak (fwStuck d.fwds xs).length ck) ∧ apart vS (.slice Ah (hbHeld d.held (fwSent d.fwds xs)).length ch) ∧ apart vS (.slice Ak (fwStuck d.fwds xs).length ck) ∧ apart (.slice Ah (hbHeld d.held (fwSent d.fwds xs)).length ch) (.slice Ak (fwStuck d.fwds xs).length ck)) :=
    ⟨hRS, apart_gt oR OH.out (Nat.le_refl _), apart_gt oR OK.out (Nat.le_refl _), apart_gt oS OH.out (Nat.le_refl _), apart_gt oS OK.out (Nat.le_refl _), HAP1.out⟩
  replace OK := Lib.hid (OK.out.below b5); replace OH := Lib.hid (OH.out.below b5)
  have OR := Lib.hid oR; have OS := Lib.hid oS
  obtain ⟨Ar, nr, cr, rfl, hnr, _, _, _⟩ := oR.rd
  subst hnr
  obtain ⟨As, ns, cs, rfl, hns, _, _, _⟩ := oS.rd
  subst hns
  clear oR oS hRS b5 OF HAP1 hAK hFH
  have k0 := blk_cell E2.out 0 (.slice none 0 0) rfl
  have k1 := blk_cell E2.out 1 (.slice none 0 0) rfl
  have k2 := blk_cell E2.out 2 (.slice none 0 0) rfl
  have k3 := blk_cell E2.out 3 (.slice none 0 0) rfl
  have kf := blk_free E2.out
  go_wp2_with fail
  refine out_box1 rfl rfl (four_set E2.out) Tryz.underlying33 rfl Tryz.sizeRpt rfl ?_
  have h1 := HSZ.out; have h2 := HSZ3.out; have h3 := HSZ4.out
  exact runDay_yes HFF.out (Nat.le_succ _) h1 (Nat.lt_of_lt_of_le h1 h2) (Nat.lt_of_lt_of_le h1 (Nat.le_trans h2 h3)) OR.out OS.out OH.out OK.out HAP.out (later_trans HT.out l5)

set_option maxRecDepth 100000 in
set_option maxHeartbeats 3200000 in
theorem spec_RunDay (v vb : Value) (d : Dy) (xs : List Ltr) (w : World) (hv : rdD w w.heap.size v d) (hb : rd w w.heap.size vb xs) :
    Calls Tryz.prog 9 #[v, vb] w (runDayPost 89 d xs w) := by
  obtain ⟨A0, c0, A1, c1, A2, c2, e0⟩ := openD hv
  obtain ⟨w0, hw0⟩ : ∃ w0, w0 = w.alloc (Obj.cells #[.int .i64 d.plan.bins, .int .i64 d.plan.passes, .slice A0 d.plan.order.length c0, .slice A1 d.fwds.length c1, .slice A2 d.held.length c2, .int .i64 d.size] 28) := ⟨_, rfl⟩
  have q0 := box_cells hw0 0 (.int .i64 d.plan.bins) rfl
  have q1 := box_cells hw0 1 (.int .i64 d.plan.passes) rfl
  have q2 := box_cells hw0 2 (.slice A0 d.plan.order.length c0) rfl
  have q3 := box_cells hw0 3 (.slice A1 d.fwds.length c1) rfl
  have q4 := box_cells hw0 4 (.slice A2 d.held.length c2) rfl
  have q5 := box_cells hw0 5 (.int .i64 d.size) rfl
  have HT := Lib.hid (box_later hw0).1
  have hv1 := hv.on HT.out
  subst e0
  have HD := Lib.hid hv1
  obtain ⟨hp, ho, hf, hh, hsz⟩ := partsD hv1
  have HP := Lib.hid hp; have HF := Lib.hid hf; have HH := Lib.hid hh
  clear hp ho hf hv hv1 hh hsz
  have HB := Lib.hid (hb.on HT.out)
  have hz0 : w0.heap.size = w.heap.size + 1 := by subst hw0; simp
  have HW0 := Lib.hid hw0; clear hw0 hb
  have l0 := Below.refl w0.heap.size w0
  obtain ⟨W, hW⟩ : ∃ W, W = w0.alloc (Obj.cells #[.slice none 0 0, .slice none 0 0, .slice none 0 0, .slice none 0 0] 33) := ⟨_, rfl⟩
  have lW : Below w0.heap.size w0 W := by subst hW; exact later_alloc l0 _
  have E2 : Hid (W.heap[w.heap.size + 1]? = some (.cells #[.slice none 0 0, .slice none 0 0, .slice none 0 0, .slice none 0 0] 33 (0, 0))) := by
    show _ = _
    rw [← hz0]
    subst hW
    exact heap_alloc_new w0 _
  have HZW : Hid (w.heap.size + 1 < W.heap.size) := by
    show _ < _
    subst hW
    simp
    omega
  have HZ0 := Lib.hid hz0; clear hz0
  have HW := Lib.hid hW; clear hW
  have HQ : Hid (rdOk d xs = (dayOk d && okB xs)) := rfl
  go_enter Tryz.func9, Tryz.ntmps9
  go_wp2_with fail
  rw [← HW0.out, ← HW.out]
  refine (spec_DayValid _ d _ (HD.out.on lW)).mono ?_
  rintro e w1 ⟨rfl, b1⟩
  have l1 := later_trans lW b1
  replace E2 := Lib.hid (blk_below E2.out b1)
  have k0 := blk_cell E2.out 0 (.slice none 0 0) rfl
  have k1 := blk_cell E2.out 1 (.slice none 0 0) rfl
  have k2 := blk_cell E2.out 2 (.slice none 0 0) rfl
  have k3 := blk_cell E2.out 3 (.slice none 0 0) rfl
  have kf := blk_free E2.out
  have hb0 : w.heap.size ≤ w.heap.size + 1 := Nat.le_succ _
  cases h1 : dayOk d
  · have HF : Hid (rdOk d xs = false) := by show _ = _; rw [HQ.out, h1]; rfl
    clear h1
    go_wp2_with fail
    refine out_box1 rfl rfl (four_set E2.out) Tryz.underlying33 rfl Tryz.sizeRpt rfl ?_
    exact runDay_no HF.out (later_set (later_set (later_set (later_set (later_trans HT.out l1) (p := ⟨w.heap.size + 1, 0, none⟩) hb0 _) (p := ⟨w.heap.size + 1, 1, none⟩) hb0 _) (p := ⟨w.heap.size + 1, 2, none⟩) hb0 _) (p := ⟨w.heap.size + 1, 3, none⟩) hb0 _)
  have H1 := Lib.hid h1; clear h1
  go_wp2_with fail
  refine (spec_BatchValid _ xs _ (HB.out.on l1)).mono ?_
  rintro e w2 ⟨rfl, b2⟩
  have l2 := later_trans l1 b2
  replace E2 := Lib.hid (blk_below E2.out b2)
  clear k0 k1 k2 k3 kf
  have k0 := blk_cell E2.out 0 (.slice none 0 0) rfl
  have k1 := blk_cell E2.out 1 (.slice none 0 0) rfl
  have k2 := blk_cell E2.out 2 (.slice none 0 0) rfl
  have k3 := blk_cell E2.out 3 (.slice none 0 0) rfl
  have kf := blk_free E2.out
  cases h2 : okB xs
  · have HF : Hid (rdOk d xs = false) := by show _ = _; rw [HQ.out, h2]; simp
    clear h2
    go_wp2_with fail
    refine out_box1 rfl rfl (four_set E2.out) Tryz.underlying33 rfl Tryz.sizeRpt rfl ?_
    exact runDay_no HF.out (later_set (later_set (later_set (later_set (later_trans HT.out l2) (p := ⟨w.heap.size + 1, 0, none⟩) hb0 _) (p := ⟨w.heap.size + 1, 1, none⟩) hb0 _) (p := ⟨w.heap.size + 1, 2, none⟩) hb0 _) (p := ⟨w.heap.size + 1, 3, none⟩) hb0 _)
  have HFF : Hid (rdOk d xs = true) := by show _ = _; rw [HQ.out, H1.out, h2]; rfl
  clear h2 k0 k1 k2 k3 kf hb0
  have HSZ : Hid (w.heap.size + 1 < w2.heap.size) := by
    have h1 := HZW.out; have h2 := b1.size; have h3 := b2.size
    show _ < _
    omega
  clear b1 b2
  go_wp2_with fail
  refine (spec_ForwardBatch _ _ d.fwds xs _ (HF.out.on l2) (HB.out.on l2)).mono ?_
  rintro e w3 ⟨vA, vK, rfl, oA, oK, hAK, b3⟩
  have l3 := later_trans l2 b3
  replace E2 := Lib.hid (blk_below E2.out b3)
  have HSZ3 : Hid (w2.heap.size ≤ w3.heap.size) := Lib.hid b3.size
  have OA := Lib.hid oA; have OK := Lib.hid oK
  obtain ⟨Ak, nk, ck, rfl, hnk, _, _, _⟩ := oK.rd
  subst hnk
  clear oA oK b3
  go_wp2_with fail
  refine (spec_HoldBatch _ _ (fwSent d.fwds xs) d.held _ OA.out.rd (HH.out.on l3)).mono ?_
  rintro e w4 ⟨vF, vH, rfl, oF, oH, hFH, b4⟩
  have l4 := later_trans l3 b4
  replace E2 := Lib.hid (blk_below E2.out b4)
  have HSZ4 : Hid (w3.heap.size ≤ w4.heap.size) := Lib.hid b4.size
  have HAP1 := Lib.hid (apart_gt oH OK.out (Nat.le_refl _))
  replace OK := Lib.hid (OK.out.below b4)
  have OF := Lib.hid oF; have OH := Lib.hid oH
  obtain ⟨Ah, nh, ch, rfl, hnh, _, _, _⟩ := oH.rd
  subst hnh
  clear oF oH b4 OA
  go_wp2_with fail
  refine (spec_RunPlan _ _ d.plan (hbFree d.held (fwSent d.fwds xs)) _ (HP.out.on l4) OF.out.rd).mono ?_
  rintro e w5 ⟨vR, vS, rfl, oR, oS, hRS, b5⟩
  have l5 := later_trans l4 b5
  replace E2 := Lib.hid (blk_below E2.out b5)
  have HAP : Hid (apart vR vS ∧ apart vR (.slice Ah (hbHeld d.held (fwSent d.fwds xs)).length ch) ∧ apart vR (.slice Ak (fwStuck d.fwds xs).length ck) ∧ apart vS (.slice Ah (hbHeld d.held (fwSent d.fwds xs)).length ch) ∧ apart vS (.slice Ak (fwStuck d.fwds xs).length ck) ∧ apart (.slice Ah (hbHeld d.held (fwSent d.fwds xs)).length ch) (.slice Ak (fwStuck d.fwds xs).length ck)) :=
    ⟨hRS, apart_gt oR OH.out (Nat.le_refl _), apart_gt oR OK.out (Nat.le_refl _), apart_gt oS OH.out (Nat.le_refl _), apart_gt oS OK.out (Nat.le_refl _), HAP1.out⟩
  replace OK := Lib.hid (OK.out.below b5); replace OH := Lib.hid (OH.out.below b5)
  have OR := Lib.hid oR; have OS := Lib.hid oS
  obtain ⟨Ar, nr, cr, rfl, hnr, _, _, _⟩ := oR.rd
  subst hnr
  obtain ⟨As, ns, cs, rfl, hns, _, _, _⟩ := oS.rd
  subst hns
  clear oR oS hRS b5 OF HAP1 hAK hFH
  have k0 := blk_cell E2.out 0 (.slice none 0 0) rfl
  have k1 := blk_cell E2.out 1 (.slice none 0 0) rfl
  have k2 := blk_cell E2.out 2 (.slice none 0 0) rfl
  have k3 := blk_cell E2.out 3 (.slice none 0 0) rfl
  have kf := blk_free E2.out
  go_wp2_with fail
  refine out_box1 rfl rfl (four_set E2.out) Tryz.underlying33 rfl Tryz.sizeRpt rfl ?_
  have h1 := HSZ.out; have h2 := HSZ3.out; have h3 := HSZ4.out
  exact runDay_yes HFF.out (Nat.le_succ _) h1 (Nat.lt_of_lt_of_le h1 h2) (Nat.lt_of_lt_of_le h1 (Nat.le_trans h2 h3)) OR.out OS.out OH.out OK.out HAP.out (later_trans HT.out l5)

end Go.Proofs.YtpinkbodbedajaaGreatDoor

namespace Go.Proofs.YtpinkbodbedajaaGreatDoor
open Go.RowKit

set_option maxRecDepth 100000 in
set_option maxHeartbeats 1600000 in
theorem so_reports (v v' : Value) (r : Rpt) (w : World) (hv : rdR w w.heap.size v r) (hv' : rdR w w.heap.size v' r) :
    Calls Tryz.prog 10 #[v, v'] w fun e w' => e = .returned (.bool true) ∧ Below w.heap.size w w' := by
  obtain ⟨A0, a0, A1, a1, A2, a2, A3, a3, e0⟩ := openR hv
  obtain ⟨B0, b0, B1, b1, B2, b2, B3, b3, e1⟩ := openR hv'
  obtain ⟨wa, hwa⟩ : ∃ wa, wa = w.alloc (Obj.cells #[.slice A0 r.round.length a0, .slice A1 r.strange.length a1, .slice A2 r.held.length a2, .slice A3 r.stuck.length a3] 33) := ⟨_, rfl⟩
  obtain ⟨wb, hwb⟩ : ∃ wb, wb = wa.alloc (Obj.cells #[.slice B0 r.round.length b0, .slice B1 r.strange.length b1, .slice B2 r.held.length b2, .slice B3 r.stuck.length b3] 33) := ⟨_, rfl⟩
  have q0 := fun W h => box_cells hwa 0 (.slice A0 r.round.length a0) rfl W (later_trans (box_later hwb).1 h)
  have q1 := fun W h => box_cells hwa 1 (.slice A1 r.strange.length a1) rfl W (later_trans (box_later hwb).1 h)
  have q2 := fun W h => box_cells hwa 2 (.slice A2 r.held.length a2) rfl W (later_trans (box_later hwb).1 h)
  have q3 := fun W h => box_cells hwa 3 (.slice A3 r.stuck.length a3) rfl W (later_trans (box_later hwb).1 h)
  have r0 := box_cells hwb 0 (.slice B0 r.round.length b0) rfl
  have r1 := box_cells hwb 1 (.slice B1 r.strange.length b1) rfl
  have r2 := box_cells hwb 2 (.slice B2 r.held.length b2) rfl
  have r3 := box_cells hwb 3 (.slice B3 r.stuck.length b3) rfl
  have HT := Lib.hid (later_trans (box_later hwa).1 (box_later hwb).1)
  have h1 := hv.on HT.out
  have h2 := hv'.on HT.out
  subst e0 e1
  obtain ⟨p0, p1, p2, p3⟩ := partsR h1
  obtain ⟨s0, s1, s2, s3⟩ := partsR h2
  have P0 := Lib.hid p0; have P1 := Lib.hid p1; have P2 := Lib.hid p2; have P3 := Lib.hid p3
  have S0 := Lib.hid s0; have S1 := Lib.hid s1; have S2 := Lib.hid s2; have S3 := Lib.hid s3
  have hza : wa.heap.size = w.heap.size + 1 := by subst hwa; simp
  rw [hza] at r0 r1 r2 r3
  clear hv hv' h1 h2 p0 p1 p2 p3 s0 s1 s2 s3 hza
  have HWA := Lib.hid hwa; have HWB := Lib.hid hwb
  clear hwa hwb
  have l0 := Below.refl wb.heap.size wb
  go_enter Tryz.func10, Tryz.ntmps10
  go_wp2_with fail
  rw [← HWA.out, ← HWB.out]
  refine (so_batch _ _ r.round _ P0.out S0.out).mono ?_
  rintro e w1 ⟨rfl, c1⟩
  have l1 := later_trans l0 c1
  go_wp2_with fail
  refine (so_batch _ _ r.strange _ (P1.out.on l1) (S1.out.on l1)).mono ?_
  rintro e w2 ⟨rfl, c2⟩
  have l2 := later_trans l1 c2
  go_wp2_with fail
  refine (so_batch _ _ r.held _ (P2.out.on l2) (S2.out.on l2)).mono ?_
  rintro e w3 ⟨rfl, c3⟩
  have l3 := later_trans l2 c3
  go_wp2_with fail
  refine (so_batch _ _ r.stuck _ (P3.out.on l3) (S3.out.on l3)).mono ?_
  rintro e w4 ⟨rfl, c4⟩
  have l4 := later_trans l3 c4
  go_wp2_with fail
  go_ret
  exact ⟨rfl, later_trans HT.out l4⟩

end Go.Proofs.YtpinkbodbedajaaGreatDoor

namespace Go.Proofs.YtpinkbodbedajaaGreatDoor
open Go.RowKit

theorem list_own (T base : Nat) (w : World) (xs : List Int) (hx : ∀ x ∈ xs, isI64 x) (hm : xs.length ≤ maxLen) (hb : base ≤ w.heap.size) :
    own T base (w.alloc (.cells (xs.map (Value.int .i64)).toArray T)) (.slice (some ⟨w.heap.size, 0, none⟩) xs.length xs.length) xs := by
  have h1 : (xs.map fun x => [Value.int .i64 x]).flatten = xs.map (Value.int .i64) := by
    clear hm hx
    induction xs with
    | nil => rfl
    | cons x xs ih => simp [ih]
  refine ⟨xs.map fun x => [Value.int .i64 x], ⟨?_, .inr ⟨w.heap.size, xs.length, _, rfl, hb, heap_alloc_new w _, Nat.le_refl _, hm, by simp [El.size], ?_⟩⟩, by simp, fun k hk hk' => ?_⟩
  · rw [h1]
    simp [El.size]
  · rw [h1]
    simp only [El.size, Nat.mul_one]
    exact List.take_of_length_le (by simp)
  · simp only [List.getElem_map]
    exact ⟨hx _ (List.getElem_mem hk), rfl⟩

theorem rd_open (v : Value) (bs : List UInt8) (w : World) (hv : rd w w.heap.size v bs) :
    Calls Tryz.prog 42 #[v] w fun e w' => ∃ g, e = .returned (.pointer (some ⟨g, 0, none⟩)) ∧ w.heap.size ≤ g ∧ rdr w' g 0 ∧ Below w.heap.size w w' := by
  obtain ⟨A, n, c, rfl, hn, hc, hm, hr⟩ := hv
  subst hn
  have HM := hm
  unfold maxLen at hm
  have HR := Lib.hid hr; clear hr
  have HMM := Lib.hid HM; clear HM
  go_enter Tryz.func42, Tryz.ntmps42
  by_cases h : 2000 < bs.length
  · have HH : Hid (rdr (w.alloc (Obj.cells #[Value.slice A 2000 c, Value.int IntKind.i64 0] 140)) w.heap.size 0) :=
      ⟨A, 2000, c, bs.take 2000, heap_alloc_new w _, by simp; omega, Nat.le_refl _, by omega, HMM.out, (HR.out.take 2000).keep fun p hp => World.cell?_alloc_lt w _ p hp⟩
    go_wp2
    go_ret
    exact ⟨w.heap.size, rfl, Nat.le_refl _, HH.out, (Below.refl _ _).alloc (Nat.le_refl _) _⟩
  · have HH : Hid (rdr (w.alloc (Obj.cells #[Value.slice A bs.length c, Value.int IntKind.i64 0] 140)) w.heap.size 0) :=
      ⟨A, bs.length, c, bs, heap_alloc_new w _, rfl, by omega, hc, HMM.out, HR.out.keep fun p hp => World.cell?_alloc_lt w _ p hp⟩
    go_wp2
    go_ret
    exact ⟨w.heap.size, rfl, Nat.le_refl _, HH.out, (Below.refl _ _).alloc (Nat.le_refl _) _⟩

set_option maxHeartbeats 400000 in
theorem rd_num (T g p : Nat) (v : Value) (xs : List Int) (w : World) (hr : rdr w g p) (hp : p ≤ 1099511627776) (hv : own T (g + 1) w v xs) (h0 : 0 < xs.length) :
    Calls Tryz.prog 103 #[.pointer (some ⟨g, 0, none⟩), v] w fun e w' => ∃ x ∈ xs, e = .returned (.int .i64 x) ∧ rdr w' g (p + 1) ∧ w.grownBy w' (some g) := by
  have hlen : xs.length ≤ maxLen := by
    obtain ⟨A, n, c, _, hn, hc, hm, _⟩ := hv.rd
    omega
  have hne : v.ownBlock = none ∨ v.ownBlock ≠ some g := by
    cases hb : v.ownBlock with
    | none => exact .inl rfl
    | some k => exact .inr fun e => by have := (hv.blk k hb).1; injection e; omega
  have HV := Lib.hid (fun (W : World) (hg : w.grownBy W (some g)) => (hv.grown hg hne).rd)
  obtain ⟨A, n, c, rfl, hn, hc, hm, _⟩ := hv.rd
  subst hn
  unfold maxLen at hm
  clear hne hv
  go_enter Tryz.func103, Tryz.ntmps103
  go_wp2_with fail
  refine (rd_pick g p _ w hr hp ⟨by omega, by omega⟩).mono ?_
  rintro e w1 ⟨x, rfl, hx, hr1, hg⟩
  obtain ⟨x0, x1⟩ := hx.2 (by omega)
  obtain ⟨q, rfl⟩ := Int.eq_ofNat_of_zero_le x0
  obtain ⟨A', n', c', e1, _, _, _, hrd⟩ := HV.out w1 hg
  injection e1 with e1 e2 e3
  subst e1
  obtain ⟨b, o, rfl, hb, hi, c1⟩ := hrd.int q (by omega)
  have hmem : xs[q]'(by omega) ∈ xs := List.getElem_mem _
  generalize xs[q] = y at *
  have HM := Lib.hid hmem; clear hmem hx e2 e3
  go_wp2
  go_ret
  exact ⟨y, HM.out, rfl, hr1, hg⟩

/-- The decimal text of a number that is not negative. -/
def decL (n : Nat) : List UInt8 := if n = 0 then [48] else dec10 n
def decB (n : Nat) : ByteArray := ⟨(decL n).toArray⟩
theorem dec10_small {m : Nat} (h0 : 0 < m) (h : m ≤ 9) : dec10 m = [b8 (48 + m)] := by
  rw [dec10_step h0, show m / 10 = 0 by omega, show m % 10 = m by omega, show dec10 0 = [] by rw [dec10]]
  unfold b8
  rw [show (48 + (m : Int)).toNat = 48 + m by omega]
  rfl

set_option maxHeartbeats 400000 in
theorem spec_l9Dec (n : Nat) (w : World) (hn : n ≤ 9223372036854775807) :
    Calls Tryz.prog 142 #[.int .i64 n] w fun e w' => e = .returned (.string (decB n)) ∧ Below w.heap.size w w' := by
  have hbs := byteString
  have h0 : (0 : Int) ≤ (n : Int) := by omega
  go_enter Tryz.func142, Tryz.ntmps142
  go_wp2
  go_loopw [0, 3] (fun t s wr => ∃ (m : Nat) (u : ByteArray), m ≤ n ∧ t = .int .i64 m ∧ s = .string u ∧ u.size ≤ 20 ∧ Hid (n = 0 ∧ m = 0 ∧ u = ⟨#[]⟩ ∨ 0 < m ∧ dec10 n = dec10 m ++ u.data.toList) ∧ Hid (m * 10 ^ u.size ≤ n) ∧ Below w.heap.size w wr) (fun t _ _ => (intOf t).toNat)
  case atStart =>
    refine ⟨n, _, Nat.le_refl _, rfl, rfl, Nat.zero_le _, ?_, (by show n * 10 ^ 0 ≤ n; omega), Below.refl _ _⟩
    by_cases h : n = 0
    · exact .inl ⟨h, h, rfl⟩
    · exact .inr ⟨by omega, by simp⟩
  case round =>
    obtain ⟨m, u, hm, rfl, rfl, hu, HD, HP, hbl⟩ := hrel
    obtain ⟨w1, rfl⟩ : ∃ w1 : World, w1 = wr := ⟨_, rfl⟩
    by_cases h9 : 9 < m
    · have hu19 : u.size ≤ 19 := by
        apply Classical.byContradiction
        intro hc
        have h1 := HP.out
        have h2 : 10 ^ 20 ≤ 10 ^ u.size := Nat.pow_le_pow_right (by omega) (by omega)
        have h3 : 10 * 10 ^ 20 ≤ m * 10 ^ u.size := Nat.mul_le_mul (by omega) h2
        omega
      go_wp2
      go_roundw
      case rel =>
        refine ⟨m / 10, _, by omega, by go_num, rfl, by rw [ByteArray.size_append]; show 1 + _ ≤ 20; omega, .inr ⟨by omega, ?_⟩, ?_, hbl.alloc hbl.size _⟩
        · rcases HD.out with ⟨_, h, _⟩ | ⟨_, h⟩
          · omega
          · rw [h, ba_append, dec10_step (n := m) (by omega), List.append_assoc]
            show _ = dec10 (m / 10) ++ ([b8 (48 + (m : Int) % 10)] ++ _)
            unfold b8
            rw [show (48 + (m : Int) % 10).toNat = 48 + m % 10 by omega]
        · show _ ≤ _
          have h1 := HP.out
          have h2 : (m / 10) * 10 ≤ m := Nat.div_mul_le_self _ _
          rw [ByteArray.size_append, show (ByteArray.mk #[b8 (48 + (m : Int) % 10)]).size = 1 from rfl, Nat.pow_add, Nat.pow_one, ← Nat.mul_assoc]
          exact Nat.le_trans (Nat.mul_le_mul_right _ h2) h1
      case measure => simp [intOf]; omega
    · go_wp2
      go_ret
      refine ⟨ret_str ?_, hbl.alloc hbl.size _⟩
      apply ba_ext
      rw [ba_append]
      rcases HD.out with ⟨h1, h2, h3⟩ | ⟨h1, h2⟩
      · subst h1 h2 h3
        rfl
      · show _ = decL n
        unfold decL
        rw [if_neg (by omega), h2, dec10_small h1 (by omega)]

/-- The last k decimal digits of a number. -/
def showL : Nat → Nat → List UInt8
  | _, 0 => []
  | n, k + 1 => showL (n / 10) k ++ [b8 (48 + (n : Int) % 10)]
def showB (n k : Nat) : ByteArray := ⟨(showL n k).toArray⟩
theorem showL_len : ∀ (k n : Nat), (showL n k).length = k
  | 0, _ => rfl
  | k + 1, n => by rw [showL, List.length_append, showL_len k]; rfl
theorem showB_size (n k : Nat) : (showB n k).size = k := by
  show (showL n k).toArray.size = k
  rw [List.size_toArray, showL_len]

set_option maxHeartbeats 400000 in
theorem spec_l1Show (n k : Nat) (w : World) (hn : n ≤ 9223372036854775807) (hk : k ≤ 60) :
    Calls Tryz.prog 74 #[.int .i64 n, .int .i64 k] w fun e w' => e = .returned (.string (showB n k)) ∧ Below w.heap.size w w' := by
  go_enter Tryz.func74, Tryz.ntmps74
  go_wp2_with fail
  go_loopw [0, 5, 6] (fun t s i wr => ∃ (m j : Nat) (u : ByteArray), m ≤ n ∧ j ≤ k ∧ t = .int .i64 m ∧ s = .string u ∧ i = .int .i64 j ∧ u.size ≤ j ∧ Hid (showL n k = showL m (k - j) ++ u.data.toList) ∧ Below w.heap.size w wr) (fun _ _ i _ => k - (intOf i).toNat)
  case atStart => exact ⟨n, 0, _, Nat.le_refl _, Nat.zero_le _, rfl, rfl, rfl, Nat.le_refl _, by show _ = _; simp, Below.refl _ _⟩
  case round =>
    obtain ⟨m, j, u, hm, hj, rfl, rfl, rfl, hu, HD, hbl⟩ := hrel
    obtain ⟨w1, rfl⟩ : ∃ w1 : World, w1 = wr := ⟨_, rfl⟩
    by_cases hlt : j < k
    · go_wp2_with fail
      refine (spec_l9Dec (m % 10) _ (by omega)).mono ?_
      rintro e w2 ⟨rfl, hb⟩
      have hd1 : (decB (m % 10)).size = 1 := by
        show (decL _).toArray.size = 1
        unfold decL
        split
        · rfl
        · rw [dec10_small (by omega) (by omega)]; rfl
      have HDD : Hid ((decB (m % 10)).data.toList = [b8 (48 + (m : Int) % 10)]) := by
        show decL _ = _
        unfold decL
        split
        · rename_i h
          rw [show (m : Int) % 10 = 0 by omega]; rfl
        · rw [dec10_small (by omega) (by omega)]; rfl
      generalize decB (m % 10) = d at *
      go_wp2_with fail
      go_roundw
      case rel =>
        refine ⟨m / 10, j + 1, _, by omega, by omega, by go_num, rfl, by go_num, by rw [ByteArray.size_append]; omega, ?_, hbl.trans (hb.mono hbl.size)⟩
        show _ = _
        rw [HD.out, ba_append, HDD.out, show k - j = (k - (j + 1)) + 1 by omega, showL, List.append_assoc]
      case measure => simp [intOf]; omega
    · have HE := Lib.hid (show k - j = 0 by omega)
      go_wp2_with fail
      go_ret
      refine ⟨ret_str ?_, hbl⟩
      apply ba_ext
      show _ = showL n k
      rw [HD.out, HE.out, showL]
      rfl

end Go.Proofs.YtpinkbodbedajaaGreatDoor
