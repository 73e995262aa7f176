/- B5 B10 DC LP ULL MK MK2 GFwd UD UR UR2 BN B11 B12 B13 B14 DT NT D1 NG JA JB -/
import Derived.Test.YtpinkbodbedajaaGreatDoorQ8
import Derived.Test.YtpinkbodbedajaaGreatDoorQ11
import Derived.IntWalk
import Derived.Test.YtpinkbodbedajaaGreatDoorQ12
import Derived.Test.YtpinkbodbedajaaGreatDoorQ1
import Derived.StillTailTactics
import Derived.Handy
import Derived.Test.YtpinkbodbedajaaGreatDoorQ6
import Derived.Test.YtpinkbodbedajaaGreatDoorQ9
import Derived.Test.YtpinkbodbedajaaGreatDoorQ2
import Derived.Test.YtpinkbodbedajaaGreatDoorQ7
import Derived.Laws.IdiomStrings
import Derived.Deep.RegionHeld3
namespace Go.Proofs.YtpinkbodbedajaaGreatDoor
open Go.RowKit

set_option maxHeartbeats 800000 in
theorem spec_l2Collect (v : Value) (xss : List (List Ltr)) (w : World) (hv : rd w w.heap.size v xss) (hl : xss.flatten.length ≤ 1048576) :
    Calls Tryz.prog 96 #[v] w fun e w' => ∃ v', e = .returned v' ∧ own 89 w.heap.size w' v' xss.flatten ∧ Below w.heap.size w w' := by
  obtain ⟨A, n, c, rfl, hn, hc, hm, hr⟩ := hv
  subst hn
  unfold maxLen at hm
  have HR := Lib.hid hr; clear hr
  have HL := Lib.hid hl; clear hl
  obtain ⟨i0, hi, hz0, hz1, hz2⟩ := info_parts Tryz.infoLtr
  go_enter Tryz.func96, Tryz.ntmps96
  go_wp2
  have ho0 : own (α := Ltr) 89 w.heap.size (w.alloc (Obj.cells #[] 89)) (.slice (some ⟨w.heap.size, 0, none⟩) 0 0) [] := own.made0 w _ (Nat.le_refl _)
  have l0 : Below w.heap.size w (w.alloc (Obj.cells #[] 89)) := (Below.refl _ _).alloc (Nat.le_refl _) _
  generalize (w.alloc (Obj.cells #[] 89)) = w0 at *
  go_loopw [3, 4] (fun t i wr => ∃ k : Nat, k ≤ xss.length ∧ i = .int .i64 k ∧ Below w.heap.size w wr ∧ own 89 w.heap.size wr t (xss.take k).flatten) (fun _ i _ => xss.length - (intOf i).toNat)
  case atStart => exact ⟨0, Nat.zero_le _, rfl, l0, ho0⟩
  case round =>
    obtain ⟨k, hk, rfl, lr, ho⟩ := hrel
    obtain ⟨w1, rfl⟩ : ∃ w1 : World, w1 = wr := ⟨_, rfl⟩
    clear l0 ho0
    by_cases hlt : k < xss.length
    · obtain ⟨b, o, u, rfl, hb, hu, c1⟩ := HR.out.rowU k hlt
      have HS : Hid ((xss.take (k + 1)).flatten = (xss.take k).flatten ++ xss[k]) := by show _ = _; rw [List.take_succ_eq_append_getElem hlt, List.flatten_append]; simp
      have HLB : Hid ((xss.take k).flatten.length + xss[k].length ≤ 1048576) := by
        show _ ≤ _
        rw [← List.length_append, ← HS.out]
        have : (xss.take (k + 1)).flatten.length ≤ xss.flatten.length := by
          conv => rhs; rw [← List.take_append_drop (k + 1) xss, List.flatten_append, List.length_append]
          omega
        have := HL.out
        omega
      generalize xss[k] = ys at *
      obtain ⟨A2, m2, c2, rfl, hm2, hc2, hmm2, hr2⟩ := hu
      have hu : rd w w.heap.size (.slice A2 m2 c2) ys := ⟨A2, m2, c2, rfl, hm2, hc2, hmm2, hr2⟩
      clear hm2 hc2 hmm2 hr2
      have HU := Lib.hid hu; clear hu
      generalize hys : (xss.take k).flatten = zs at *
      have HYS := Lib.hid hys; clear hys
      have ho' := Lib.hid ho
      obtain ⟨A3, m3, c3, rfl, hm3, _, _, _⟩ := ho.rd
      subst hm3
      clear ho
      have hbd := HLB.out
      go_wp2_with (at_builtin; refine wpList_appendAll (α := Ltr) rfl (.tmp 12) (.tmp 16) 29 rfl w.heap.size 89 i0 _ 24 Tryz.underlying29 hi hz0 hz1 hz2 rfl (by decide) (.slice A3 zs.length c3) zs rfl ho'.out (.slice A2 m2 c2) ys rfl w1.heap.size (HU.out.on lr) (by have := HLB.out; unfold maxLen; omega) (by have := HLB.out; omega) lr.size ?_; intro v' w2 ho2 hg2 _)
      have l2 : Below w.heap.size w w2 := lr.trans (below_append ho'.out hg2 lr.size)
      go_wp2
      go_roundw
      case rel => exact ⟨k + 1, by omega, by go_num, l2, by rw [HS.out]; exact ho2⟩
      case measure => simp [intOf]; omega
    · have HE := Lib.hid (show k = xss.length by omega)
      go_wp2
      go_ret
      exact ⟨_, rfl, by rw [HE.out, List.take_length] at ho; exact ho, lr⟩

set_option maxRecDepth 100000 in
set_option maxHeartbeats 3200000 in
theorem spec_l3Pass (v vb : Value) (p : Pln) (xs : List Ltr) (k0 : Nat) (w : World) (hv : rdP w w.heap.size v p) (hb : rd w w.heap.size vb xs)
    (h1 : 2 ≤ p.bins) (h2 : p.bins ≤ 16) (hk0 : k0 ≤ 4) (hord : p.order.length ≤ 1000) (hl : xs.length ≤ 1000) :
    Calls Tryz.prog 95 #[v, vb, .int .i64 k0] w fun e w' => ∃ vB vO vs, e = .returned (.tuple #[vB, vO]) ∧ isLL 29 89 w.heap.size w' vB (binsOf (fun x => binI p x.code k0) p.bins.toNat xs) vs ∧ own 89 w.heap.size w' vO (restOf (fun x => binI p x.code k0) xs) ∧ farLL vO vB vs ∧ Below w.heap.size w w' := by
  obtain ⟨A0, c0, e0⟩ := openP hv
  obtain ⟨w0, hw0⟩ : ∃ w0, w0 = w.alloc (Obj.cells #[.int .i64 p.bins, .int .i64 p.passes, .slice A0 p.order.length c0] 25) := ⟨_, rfl⟩
  have q0 := box_cells hw0 0 (.int .i64 p.bins) rfl
  have q1 := box_cells hw0 1 (.int .i64 p.passes) rfl
  have q2 := box_cells hw0 2 (.slice A0 p.order.length c0) rfl
  have HT := Lib.hid (box_later hw0).1
  have HP := Lib.hid (hv.on HT.out)
  have hb' := hb.on HT.out
  subst e0
  obtain ⟨A, n, cp, rfl, hn, hc, hmx, hr⟩ := hb'
  subst hn
  unfold maxLen at hmx
  have HR := Lib.hid hr
  have hz0 : w0.heap.size = w.heap.size + 1 := by subst hw0; simp
  have hwlt : w.heap.size < w0.heap.size := by omega
  have HZ0 := Lib.hid hz0
  have HW0 := Lib.hid hw0; clear hw0 hv hb hr hz0
  have l0 := Below.refl w0.heap.size w0
  obtain ⟨N, hN⟩ := Int.eq_ofNat_of_zero_le (show 0 ≤ p.bins by omega)
  have hNN : p.bins.toNat = N := by omega
  have HNN := Lib.hid hNN; clear hNN
  have hN16 : N ≤ 16 := by omega
  obtain ⟨i0, hi, hzz, hz1, hz2⟩ := info_parts Tryz.infoRow
  have hmk := make_row (P := Tryz.prog) 37 29 i0 _ Tryz.underlying37 hi hzz N (by rw [hz2]; omega) (by omega)
  rw [← hN] at hmk
  have HN := Lib.hid hN; clear hN
  obtain ⟨i1, ji, jz0, jz1, jz2⟩ := info_parts Tryz.infoLtr
  have HF : Hid (∀ x : Ltr, -1 ≤ binI p x.code k0 ∧ binI p x.code k0 < N) := fun x => by
    have := binI_range p x.code k0 h1
    have := HN.out
    omega
  obtain ⟨f, HFF⟩ : ∃ f : Ltr → Int, Hid (f = fun x => binI p x.code k0) := ⟨_, rfl⟩
  rw [← HFF.out]
  have HFX : Hid (∀ x, f x = binI p x.code k0) := fun x => by rw [HFF.out]
  rw [HNN.out]
  go_enter Tryz.func95, Tryz.ntmps95
  go_wp2
  rw [← HW0.out]
  obtain ⟨vs0, hoz⟩ := made_nil_row (α := Ltr) w0 29 89 N w0.heap.size (Nat.le_refl _) (by unfold maxLen; omega)
  have lz : Below w0.heap.size w0 (w0.alloc (Obj.cells (madeCells #[.slice none 0 0] N) 29)) := later_alloc l0 _
  have hzz2 : (w0.alloc (Obj.cells (madeCells #[.slice none 0 0] N) 29)).heap.size = w.heap.size + 1 + 1 := by simp [HZ0.out]
  generalize (w0.alloc (Obj.cells (madeCells #[.slice none 0 0] N) 29)) = wz at *
  have hG0 : w0.heap.size ≤ w.heap.size + 1 := Nat.le_of_eq HZ0.out
  have hoz2 := hoz
  rw [show (Value.slice (some ⟨w0.heap.size, 0, none⟩) N N) = (Value.slice (some ⟨w.heap.size + 1, 0, none⟩) N N) by rw [HZ0.out]] at hoz2
  clear hoz
  have hoe : own (α := Ltr) 89 w0.heap.size (wz.alloc (Obj.cells #[] 89)) (.slice (some ⟨wz.heap.size, 0, none⟩) 0 0) [] := own.made0 wz _ lz.size
  rw [hzz2] at hoe
  have hfe : farLL (.slice (some ⟨w.heap.size + 1 + 1, 0, none⟩) 0 0) (.slice (some ⟨w.heap.size + 1, 0, none⟩) N N) vs0 := by
    refine ⟨.inr (by show some _ ≠ some _; simp), fun k hk => .inr fun e => ?_⟩
    obtain ⟨z1, z2, z3, _⟩ := hoz2
    have hh : w.heap.size + 1 + 1 < wz.heap.size := ((z3 k hk (by omega)).blk _ e.symm).2
    omega
  have HFE := Lib.hid hfe
  have HOE := Lib.hid hoe
  have HOZ := Lib.hid (hoz2.below ((Below.refl _ _).alloc (Nat.le_refl _) (Obj.cells #[] 89)))
  have lz2 := later_alloc lz (Obj.cells #[] 89)
  clear hoz2 hoe hzz2 lz hfe
  generalize hgw : wz.alloc (Obj.cells #[] 89) = wy at *
  clear hgw
  generalize hG2 : w.heap.size + 1 + 1 = G2 at *
  generalize hG : w.heap.size + 1 = G at *
  have HGG := Lib.hid hG; have HGG2 := Lib.hid hG2; clear hG hG2 hmk
  go_loopw [9, 10] (fun t i wr => ∃ (k : Nat) (vs : List Value), k ≤ xs.length ∧ i = .int .i64 k ∧ Below w0.heap.size w0 wr ∧ isLL 29 89 w0.heap.size wr (.slice (some ⟨G, 0, none⟩) N N) (binsOf f N (xs.take k)) vs ∧ own 89 w0.heap.size wr t (restOf f (xs.take k)) ∧ Hid (farLL t (.slice (some ⟨G, 0, none⟩) N N) vs)) (fun _ i _ => xs.length - (intOf i).toNat)
  case atStart =>
    refine ⟨0, vs0, Nat.zero_le _, rfl, lz2, ?_, HOE.out, HFE.out⟩
    rw [List.take_zero, binsOf_nil]
    exact HOZ.out
  case round =>
    obtain ⟨k, vs, hk, rfl, lr, hB, hO, HFAR⟩ := hrel
    obtain ⟨w1, rfl⟩ : ∃ w1 : World, w1 = wr := ⟨_, rfl⟩
    have HB := Lib.hid hB; have HO := Lib.hid hO
    clear l0 lz2 HOZ hB HOE HFE
    obtain ⟨AO, mO, cO, rfl, hmO, _, _, _⟩ := hO.rd
    subst hmO
    clear hO
    by_cases hlt : k < xs.length
    · obtain ⟨b, o, rfl, hb, ⟨hxi, hxc⟩, c1, c2⟩ := HR.out.ltrU k hlt
      obtain ⟨x, hx⟩ : ∃ x, x = xs[k] := ⟨_, rfl⟩
      have HX := Lib.hid hx
      rw [← hx] at c1 c2 hxi hxc
      clear hx
      have hki : (k : Int) < (xs.length : Int) := by omega
      have ld := later_drew lr
      have HC : Hid (∀ W, Below w0.heap.size w0 W → Calls Tryz.prog 162 #[.agg #[.int .i64 p.bins, .int .i64 p.passes, .slice A0 p.order.length c0], .string x.code, .int .i64 k0] W fun e w' => e = .returned (.int .i64 (f x)) ∧ Below W.heap.size W w') := fun W hW => by
        rw [HFX.out]
        exact spec_l3Bin _ p x.code k0 W (HP.out.on hW) h1 h2 hk0 hord
      go_wp2
      go_region_held3 (fun W => Below w0.heap.size w0 W) (first | exact ld | exact later_trans ld b3) (first | (go_at_call 162; refine (HC.out _ ld).mono ?_; rintro e w3 ⟨rfl, b3⟩))
      have lw3 := later_trans ld b3
      have B3 : Below w1.heap.size w1 w3 := later_trans ((Below.refl _ _).drew) b3
      obtain ⟨fx1, fx2⟩ := HF.out x
      rw [← HFX.out] at fx1 fx2
      have HFXK : Hid (f xs[k] = f x) := by show _ = _; rw [← HX.out]
      have hs3 : w0.heap.size ≤ w3.heap.size := lw3.size
      have HB3 := Lib.hid (HB.out.below B3); have HO3 := Lib.hid (HO.out.below B3)
      clear b3 ld B3
      have HZL : Hid ((restOf f (xs.take k)).length ≤ 1000) := by
        show _ ≤ _
        have := filter_len_le (fun x => decide (f x < 0)) xs k
        unfold restOf
        omega
      by_cases hneg : f x < 0
      · have HS1 := Lib.hid (binsOf_skip (f := f) (n := N) hlt (by rw [HFXK.out]; exact hneg))
        have HS2 := Lib.hid (restOf_step (f := f) hlt (by rw [HFXK.out]; exact hneg))
        have hzl := HZL.out
        go_wp2_with (at_builtin; refine wpList_append1' (α := Ltr) rfl (.tmp 32) (.tmp 37) 29 rfl w0.heap.size 89 i1 _ 24 Tryz.underlying29 ji jz0 jz1 jz2 rfl (by decide) (.slice AO (restOf f (xs.take k)).length cO) (restOf f (xs.take k)) x rfl (HO3.out.alloc _) ⟨w3.heap.size, 0, none⟩ 1 (Ltr.cells x) rfl ⟨⟨hxi, hxc⟩, rfl⟩ (news_at w3 _ (Ltr.cells x)) (by unfold maxLen; omega) (by omega) (by simp; omega) ?_; intro g cap w4 ho4 hg4 ha4 hl4)
        have HB4 := Lib.hid (farLL_grown (HB3.out.below ((Below.refl _ _).alloc (Nat.le_refl _) _)) HFAR.out hg4)
        have b4 : Below w0.heap.size w0 w4 := by
          refine (later_alloc lw3 (Obj.cells #[Value.int IntKind.i64 x.id, Value.string x.code] 89)).grown hg4 (by simp; omega) fun j hj => ?_
          exact (HO3.out.blk j hj).1
        have HFAR4 : Hid (farLL (.slice (some ⟨g, 0, none⟩) ((restOf f (xs.take k)).length + 1) cap) (.slice (some ⟨G, 0, none⟩) N N) vs) := farLL_app HB3.out HFAR.out ha4 (by simp)
        go_wp2
        go_roundw
        case rel => exact ⟨k + 1, vs, by omega, by go_num, b4, by rw [HS1.out]; exact HB4.out, by rw [HS2.out, ← HX.out]; exact ho4, HFAR4⟩
        case measure => simp [intOf]; omega
      · obtain ⟨d, hd⟩ := Int.eq_ofNat_of_zero_le (show 0 ≤ f x by omega)
        have hdN : d < N := by omega
        have HD := Lib.hid hd
        have HS2 := Lib.hid (restOf_skip (f := f) hlt (by rw [HFXK.out]; omega))
        have hlb : d < (binsOf f N (xs.take k)).length := by rw [binsOf_len]; exact hdN
        have HS1 := Lib.hid (binsOf_step (f := f) (n := N) (d := d) hlt (by rw [HFXK.out]; exact HD.out) hlb)
        obtain ⟨hlv, hov, hgv⟩ : ∃ hlv : d < vs.length, own 89 w0.heap.size w3 vs[d] (binsOf f N (xs.take k))[d] ∧ apart vs[d] (.slice (some ⟨G, 0, none⟩) N N) := by
          obtain ⟨z1, z2, z3, z4, z5⟩ := HB3.out
          exact ⟨by omega, z3 d (by omega) hlb, z5 d (by omega)⟩
        have hcG : w3.cell? ⟨G, d, none⟩ = some vs[d] := own_cellv HB3.out.1 d hlv
        have hfG : w3.frozen? ⟨G, d, none⟩ = false := HB3.out.1.freeAt d
        have hzl : (binsOf f N (xs.take k))[d].length ≤ 1000 := by
          rw [binsOf_get]
          have := filter_len_le (fun x => f x == (d : Int)) xs k
          omega
        obtain ⟨zs, hzs⟩ : ∃ zs, zs = (binsOf f N (xs.take k))[d] := ⟨_, rfl⟩
        have HZS := Lib.hid hzs
        rw [← hzs] at hov hzl
        clear hzs
        obtain ⟨u, hu⟩ : ∃ u, u = vs[d] := ⟨_, rfl⟩
        have HU := Lib.hid hu
        rw [← hu] at hov hgv hcG
        clear hu
        obtain ⟨Au, mu, cu, rfl, hmu, _, _, _⟩ := hov.rd
        subst hmu
        have HOV := Lib.hid hov; clear hov
        have HGV := Lib.hid hgv; clear hgv
        rw [HD.out]
        have hdn : (d : Int) < (N : Int) := by omega
        have hd0 : ¬ ((d : Int) < 0) := by omega
        have hGs : some G ≠ (Value.slice Au zs.length cu).ownBlock := by
          have h := HGV.out
          unfold apart at h
          rcases h with h | h
          · rw [h]; simp
          · exact fun e => h e.symm
        have HGS := Lib.hid hGs; clear hGs
        have hGlt : G < w3.heap.size := (HB3.out.1.blk G rfl).2
        go_wp2
        go_region_law (first | ((refine step_append1 (α := Ltr) (by rfl) (.tmp 44) (.tmp 49) 29 (by rfl) w0.heap.size 89 i1 _ 24 Tryz.underlying29 ji jz0 jz1 jz2 rfl (by decide) (.slice Au zs.length cu) zs x (by rfl) ((HOV.out.alloc _).drew) ⟨w3.heap.size, 0, none⟩ 1 (Ltr.cells x) (by rfl) ⟨⟨hxi, hxc⟩, rfl⟩ (news_drew w3 _ (Ltr.cells x)) (by unfold maxLen; omega) (by omega) (by simp; omega) ?_; intro g cap w4 ho4 hg4 ha4 hl4; have hcG4 : w4.cell? ⟨G, d, none⟩ = some (.slice Au zs.length cu) := (hg4.cell_far ⟨G, d, none⟩ (by simp; omega) HGS.out).trans (by go_simp); have hfG4 : w4.frozen? ⟨G, d, none⟩ = false := (hg4.frozen_far ⟨G, d, none⟩ (by simp; omega) HGS.out).trans (by go_simp))))
        all_goals
          have hWD : Below w3.heap.size w3 (w3.alloc (Obj.cells #[Value.int IntKind.i64 x.id, Value.string x.code] 89)).drew := later_drew (later_alloc (Below.refl _ _) _)
          obtain ⟨p1, p2, p3⟩ := place_step HB3.out HO3.out HFAR.out hWD hlv hlb HU.out HZS.out ho4 hg4 ha4
          have p4 := place_later (G := G) (d := d) (g := g) (m := zs.length + 1) (cap := cap) (later_drew (later_alloc lw3 (Obj.cells #[Value.int IntKind.i64 x.id, Value.string x.code] 89))) hg4 (fun j hj => (HOV.out.blk j hj).1) hG0
          have P1 := Lib.hid p1; have P2 := Lib.hid p2; have P3 := Lib.hid p3
          clear p1 p2 p3 hWD
          go_wp2
          go_roundw
          case rel => exact ⟨k + 1, _, by omega, by go_num, p4, by rw [HS1.out, ← HX.out]; exact P1.out, by rw [HS2.out]; exact P2.out, P3.out⟩
          case measure => simp [intOf]; omega
    · have HE := Lib.hid (show k = xs.length by omega)
      go_wp2
      go_ret2
      have hB := HB.out
      have hO := HO.out
      have hF := HFAR.out
      rw [HE.out, List.take_length] at hB hO hF ⊢
      exact ⟨_, _, vs, rfl, hB.base_ (Nat.le_of_lt hwlt), hO.base_ (Nat.le_of_lt hwlt), hF, later_trans HT.out lr⟩

end Go.Proofs.YtpinkbodbedajaaGreatDoor

namespace Go.Proofs.YtpinkbodbedajaaGreatDoor
open Go.RowKit

set_option maxRecDepth 100000 in
set_option maxHeartbeats 1600000 in
theorem spec_RunPlan (v vb : Value) (p : Pln) (xs : List Ltr) (w : World) (hv : rdP w w.heap.size v p) (hb : rd w w.heap.size vb xs) :
    Calls Tryz.prog 35 #[v, vb] w fun e w' => ∃ vL vO, e = .returned (.tuple #[vL, vO, .bool (rpOk p xs)]) ∧ own 89 w.heap.size w' vL (rpRound p xs) ∧ own 89 w.heap.size w' vO (rpRest p xs) ∧ apart vL vO ∧ Below w.heap.size w w' := by
  obtain ⟨A0, c0, e0⟩ := openP hv
  obtain ⟨w0, hw0⟩ : ∃ w0, w0 = w.alloc (Obj.cells #[.int .i64 p.bins, .int .i64 p.passes, .slice A0 p.order.length c0] 25) := ⟨_, rfl⟩
  have q0 := box_cells hw0 0 (.int .i64 p.bins) rfl
  have q1 := box_cells hw0 1 (.int .i64 p.passes) rfl
  have q2 := box_cells hw0 2 (.slice A0 p.order.length c0) rfl
  have HT := Lib.hid (box_later hw0).1
  have HP := Lib.hid (hv.on HT.out)
  have HB := Lib.hid (hb.on HT.out)
  subst e0
  have HW0 := Lib.hid hw0; clear hw0 hv hb
  have l0 := Below.refl w0.heap.size w0
  have hwlt : w.heap.size ≤ w0.heap.size := HT.out.size
  have HQ : Hid (rpOk p xs = (planOk p && okB xs)) := rfl
  go_enter Tryz.func35, Tryz.ntmps35
  go_wp2_with fail
  rw [← HW0.out]
  refine (spec_l3Ready _ _ p xs _ HP.out HB.out).mono ?_
  rintro e w1 ⟨rfl, b1⟩
  have l1 := later_trans l0 b1
  cases h1 : (planOk p && okB xs)
  · have HF : Hid (rpOk p xs = false) := by show _ = _; rw [HQ.out, h1]
    clear h1
    have HE : Hid (rpRound p xs = [] ∧ rpRest p xs = []) := by unfold rpRound rpRest; rw [HF.out]; exact ⟨rfl, rfl⟩
    have o1 : own (α := Ltr) 89 w.heap.size (w1.alloc (.cells #[] 89)) (.slice (some ⟨w1.heap.size, 0, none⟩) 0 0) [] := own.made0 w1 _ (Nat.le_trans hwlt l1.size)
    have o2 : own (α := Ltr) 89 w.heap.size ((w1.alloc (.cells #[] 89)).alloc (.cells #[] 89)) (.slice (some ⟨(w1.alloc (.cells #[] 89)).heap.size, 0, none⟩) 0 0) [] := own.made0 _ _ (by simp; exact Nat.le_trans (Nat.le_trans hwlt l1.size) (Nat.le_succ _))
    have O1 := Lib.hid (o1.alloc (.cells #[] 89)); have O2 := Lib.hid o2
    clear o1 o2
    go_wp2_with fail
    go_ret3
    refine ⟨_, _, ret_tup (by rw [HF.out] <;> rfl), by rw [HE.out.1]; exact O1.out, by rw [HE.out.2]; simpa using O2.out, .inr (by show some _ ≠ some _; simp), later_trans HT.out (later_alloc (later_alloc l1 _) _)⟩
  have hh := h1
  rw [Bool.and_eq_true] at hh
  obtain ⟨g1, g2, g3, g4, g5⟩ := planOk_bins hh.1
  have hxl := okB_len' hh.2
  have HF : Hid (rpOk p xs = true) := by show _ = _; rw [HQ.out, h1]
  clear h1 hh
  obtain ⟨M, hM⟩ := Int.eq_ofNat_of_zero_le (show 0 ≤ p.passes by omega)
  have HMM := Lib.hid hM; clear hM
  have hm1 : 1 ≤ M ∧ M ≤ 4 := by have := HMM.out; omega
  have HY : Hid (rpRound p xs = passesN p 0 M xs ∧ rpRest p xs = restOf (fun x => binI p x.code 0) xs) := by
    unfold rpRound rpRest; rw [HF.out, HMM.out, Int.toNat_natCast]; exact ⟨rfl, rfl⟩
  go_wp2_with fail
  refine (spec_l3Pass _ _ p xs 0 _ (HP.out.on l1) (HB.out.on l1) g1 g2 (by omega) (by omega) (by omega)).mono ?_
  rintro e w2 ⟨vB, vO, vs, rfl, hB, hR, hF, b2⟩
  have l2 := later_trans l1 b2
  have HBB : Hid (ownLL 29 89 w0.heap.size w2 vB (binsOf (fun x => binI p x.code 0) p.bins.toNat (passesN p 0 0 xs))) := ⟨vs, hB.base_ l1.size⟩
  have HRR := Lib.hid (hR.base_ l1.size)
  clear hB hR hF b2
  go_wp2_with fail
  go_loopw [7, 9] (fun t i wr => ∃ j : Nat, j + 1 ≤ M ∧ i = .int .i64 ((j : Int) + 1) ∧ Below w0.heap.size w0 wr ∧ ownLL 29 89 w0.heap.size wr t (binsOf (fun x => binI p x.code j) p.bins.toNat (passesN p 0 j xs)) ∧ own 89 w0.heap.size wr vO (restOf (fun x => binI p x.code 0) xs)) (fun _ i _ => M - (intOf i).toNat)
  case atStart => exact ⟨0, hm1.1, by go_num, l2, HBB.out, HRR.out⟩
  case round =>
    obtain ⟨j, hj, rfl, lr, hB, hR⟩ := hrel
    obtain ⟨w3, rfl⟩ : ∃ w3 : World, w3 = wr := ⟨_, rfl⟩
    clear l2 HBB HRR l1 l0
    obtain ⟨A7, n7, c7, rfl, hn7, hc7, hm7, _⟩ := hB.rd
    clear hn7 hc7 hm7
    have HRd := Lib.hid hB.rd
    have HR := Lib.hid hR
    have hfl : (binsOf (fun x => binI p x.code j) p.bins.toNat (passesN p 0 j xs)).flatten.length ≤ 60 := Nat.le_trans (flatten_length_binsOf _) (Nat.le_trans (passesN_len p j 0 xs) hxl)
    have HS : Hid (passesN p 0 (j + 1) xs = (binsOf (fun x => binI p x.code j) p.bins.toNat (passesN p 0 j xs)).flatten) := by
      have := passesN_succ p j 0 xs
      rw [Nat.zero_add] at this
      exact this
    rw [← HS.out] at hfl
    clear hB hR
    have CJ : Hid (∀ W, Below w3.heap.size w3 W → Calls Tryz.prog 96 #[.slice A7 n7 c7] W fun e w' => ∃ v', e = .returned v' ∧ own 89 W.heap.size w' v' (passesN p 0 (j + 1) xs) ∧ Below W.heap.size W w') := fun W hW => by
      have h := spec_l2Collect _ _ W (HRd.out.on hW) (by rw [← HS.out]; omega)
      rw [← HS.out] at h
      exact h
    generalize hys : passesN p 0 (j + 1) xs = ys at *
    have HYS := Lib.hid hys; clear hys
    by_cases hlt : j + 1 < M
    · have hlt' : (j : Int) + 1 < p.passes := by have := HMM.out; omega
      have CD : Hid (∀ W, Below w0.heap.size w0 W → ∀ vf, rd W W.heap.size vf ys → Calls Tryz.prog 95 #[.agg #[.int .i64 p.bins, .int .i64 p.passes, .slice A0 p.order.length c0], vf, .int .i64 ((j : Int) + 1)] W fun e w' => ∃ vB vO vs, e = .returned (.tuple #[vB, vO]) ∧ isLL 29 89 W.heap.size w' vB (binsOf (fun x => binI p x.code (j + 1)) p.bins.toNat ys) vs ∧ own 89 W.heap.size w' vO (restOf (fun x => binI p x.code (j + 1)) ys) ∧ farLL vO vB vs ∧ Below W.heap.size W w') := fun W hW vf hf =>
        spec_l3Pass _ vf p ys (j + 1) W (HP.out.on hW) hf g1 g2 (by omega) (by omega) (by omega)
      have ld := later_drew lr
      have hw1 : IntKind.i64.wrap ((j : Int) + 1) = (j : Int) + 1 := IntWalk.i64_in _ (by omega)
      have l3d : Below w3.heap.size w3 w3.drew := later_drew (Below.refl _ _)
      go_wp2
      go_region_held3 (fun W => Below w0.heap.size w0 W) (first | exact ld | exact later_trans ld b4 | exact later_trans (later_trans ld b4) b5) (first | (go_at_call 96; refine (CJ.out _ l3d).mono ?_; rintro e w4 ⟨vf, rfl, o4, b4⟩) | (go_at_call 95; refine (CD.out _ (later_trans ld b4) _ o4.rd).mono ?_; rintro e w5 ⟨vB5, vO5, vs5, rfl, hB5, hO5, hF5, b5⟩))
      have l5 := later_trans (later_trans ld b4) b5
      have HB5 : Hid (ownLL 29 89 w0.heap.size w5 vB5 (binsOf (fun x => binI p x.code (j + 1)) p.bins.toNat (passesN p 0 (j + 1) xs))) := by
        rw [HYS.out]; exact ⟨vs5, hB5.base_ (later_trans ld b4).size⟩
      have HR5 := Lib.hid (HR.out.below (later_trans (later_trans l3d b4) b5))
      clear hB5 hO5 hF5 o4 b4 b5
      go_wp2
      go_roundw
      case rel => exact ⟨j + 1, by omega, by go_num, l5, HB5.out, HR5.out⟩
      case measure => simp [intOf]; omega
    · have hlt' : ¬ ((j : Int) + 1 < p.passes) := by have := HMM.out; omega
      have HE := Lib.hid (show j + 1 = M by omega)
      go_wp2_with fail
      refine (CJ.out _ (Below.refl _ _)).mono ?_
      rintro e w4 ⟨v4, rfl, o4, b4⟩
      have l4 := later_trans lr b4
      have HA := Lib.hid (apart_gt o4 HR.out (Nat.le_refl _))
      have O4 := Lib.hid (o4.base_ (Nat.le_trans hwlt lr.size))
      have R4 := Lib.hid ((HR.out.below b4).base_ hwlt)
      clear o4
      go_wp2_with fail
      go_ret3
      exact ⟨_, _, ret_tup (by rw [HF.out] <;> rfl), by rw [HY.out.1, ← HE.out, HYS.out]; exact O4.out, by rw [HY.out.2]; exact R4.out, HA.out, later_trans HT.out l4⟩


end Go.Proofs.YtpinkbodbedajaaGreatDoor

namespace Go.Proofs.YtpinkbodbedajaaGreatDoor
open Go.RowKit

end Go.Proofs.YtpinkbodbedajaaGreatDoor

namespace Go.Proofs.YtpinkbodbedajaaGreatDoor
open Go.RowKit

/-- A row of its own put in a place. -/
theorem isLL.put {α : Type} [Flat α] {T1 T2 base G n c : Nat} {w w1 : World} {vs : List Value} {xss : List (List α)} {ys : List α} {v' : Value} {d B : Nat}
    (h : isLL T1 T2 base w (.slice (some ⟨G, 0, none⟩) n c) xss vs) (hb : Below w.heap.size w w1)
    (hd : d < vs.length) (ho : own T2 B w1 v' ys) (hB : w.heap.size ≤ B) (hbase : base ≤ w.heap.size) :
    isLL T1 T2 base (w1.setCell ⟨G, d, none⟩ v') (.slice (some ⟨G, 0, none⟩) n c) (xss.set d ys) (vs.set d v') := by
  obtain ⟨h1, h2, h3, h4, h5⟩ := h
  have hv1 : v'.oneCell' = true := by
    rcases ho.form with ⟨rfl, _⟩ | ⟨g, c, rfl, _⟩ <;> rfl
  have q2 := (h1.below hb).setCell (k := d) (j := 0) hd (by decide) v' v' (fun ecs he => by
    obtain ⟨rfl, _⟩ := he
    exact ⟨rfl, hv1⟩)
  rw [show d * El.size Value + 0 = d from Nat.mul_one d] at q2
  have hset : w1.grownBy (w1.setCell ⟨G, d, none⟩ v') (some G) := grown_setCell (World.grownBy.refl _ _) (.inl rfl) _
  have hG := h1.blk G rfl
  have hvG : apart v' (.slice (some ⟨G, 0, none⟩) n c) := apart_gt ho h1 hB
  have hfar : ∀ i (hi : i < vs.length), apart v' vs[i] := fun i hi => apart_gt ho (h3 i hi (by omega)) hB
  refine ⟨q2, by simp [h2], fun k h h' => ?_, fun j k hj hk hne => ?_, fun k h => ?_⟩
  · by_cases hkd : k = d
    · subst hkd
      simp only [List.getElem_set_self]
      exact (ho.grown hset hvG).base_ (Nat.le_trans hbase hB)
    · rw [List.getElem_set_ne (by omega), List.getElem_set_ne (by omega)]
      have hk1 : k < vs.length := by simpa using h
      have hk2 : k < xss.length := by simpa using h'
      exact ((h3 k hk1 hk2).below hb).grown hset (h5 k hk1)
  · have hj' : j < vs.length := by simpa using hj
    have hk' : k < vs.length := by simpa using hk
    by_cases hjd : j = d
    · subst hjd
      simp only [List.getElem_set_self]
      rw [List.getElem_set_ne (by omega)]
      exact hfar k hk'
    · by_cases hkd : k = d
      · subst hkd
        simp only [List.getElem_set_self]
        rw [List.getElem_set_ne (by omega)]
        exact apart_symm (hfar j hj')
      · rw [List.getElem_set_ne (by omega), List.getElem_set_ne (by omega)]
        exact h4 j k hj' hk' hne
  · by_cases hkd : k = d
    · subst hkd; simp only [List.getElem_set_self]; exact hvG
    · rw [List.getElem_set_ne (by omega)]; exact h5 k (by simpa using h)

end Go.Proofs.YtpinkbodbedajaaGreatDoor

namespace Go.Proofs.YtpinkbodbedajaaGreatDoor
open Go.RowKit





end Go.Proofs.YtpinkbodbedajaaGreatDoor

namespace Go.Proofs.YtpinkbodbedajaaGreatDoor
open Go.RowKit

/-- A row of rows and a row beside it, of the call's own, in blocks before hi. -/
def seg2 (T1 T2 lo hi : Nat) (w : World) (vB vO : Value) (xss : List (List Ltr)) (ys : List Ltr) : Prop :=
  ∃ vs, isLL T1 T2 lo w vB xss vs ∧ own T2 lo w vO ys ∧ farLL vO vB vs ∧ (∀ k, vB.ownBlock = some k → k < hi) ∧ (∀ i (h : i < vs.length) k, vs[i].ownBlock = some k → k < hi) ∧ ∀ k, vO.ownBlock = some k → k < hi
section
variable {T1 T2 lo hi : Nat} {w w' : World} {vB vO : Value} {xss : List (List Ltr)} {ys : List Ltr}
theorem seg2.of {vs : List Value} (h : isLL T1 T2 lo w vB xss vs) (ho : own T2 lo w vO ys) (hf : farLL vO vB vs) : seg2 T1 T2 lo w.heap.size w vB vO xss ys :=
  ⟨vs, h, ho, hf, fun k hk => (h.1.blk k hk).2, fun i hi k hk => ((h.2.2.1 i hi (by have := h.2.1; omega)).blk k hk).2, fun k hk => (ho.blk k hk).2⟩
theorem seg2.alone (h : ownLL T1 T2 lo w vB xss) : seg2 T1 T2 lo w.heap.size w vB (.slice none 0 0) xss [] := by
  obtain ⟨vs, h⟩ := h
  exact seg2.of h (own.nil_ _ _ _) ⟨.inl rfl, fun k hk => .inl rfl⟩
theorem seg2.below (h : seg2 T1 T2 lo hi w vB vO xss ys) (hb : Below w.heap.size w w') : seg2 T1 T2 lo hi w' vB vO xss ys := by
  obtain ⟨vs, h1, h2, h3, h4, h5, h6⟩ := h
  exact ⟨vs, h1.below hb, h2.below hb, h3, h4, h5, h6⟩
theorem seg2.out {a b : Nat} (h : seg2 T1 T2 lo hi w vB vO xss ys) (ho : OutI a b w w') (hd : hi ≤ a ∨ b ≤ lo) : seg2 T1 T2 lo hi w' vB vO xss ys := by
  obtain ⟨vs, ⟨g1, g2, g3, g4, g5⟩, h2, h3, h4, h5, h6⟩ := h
  refine ⟨vs, ⟨g1.keepBlk fun k hk => ho.block k (g1.blk k hk).2 (by have q1 := (g1.blk k hk).1; have q2 := h4 k hk; omega), g2, fun i hi hi' => ?_, g4, g5⟩, h2.keepBlk fun k hk => ho.block k (h2.blk k hk).2 (by have q1 := (h2.blk k hk).1; have q2 := h6 k hk; omega), h3, h4, h5, h6⟩
  exact (g3 i hi hi').keepBlk fun k hk => ho.block k ((g3 i hi hi').blk k hk).2 (by have q1 := ((g3 i hi hi').blk k hk).1; have q2 := h5 i hi k hk; omega)
end




end Go.Proofs.YtpinkbodbedajaaGreatDoor

namespace Go.Proofs.YtpinkbodbedajaaGreatDoor
open Go.RowKit



end Go.Proofs.YtpinkbodbedajaaGreatDoor

namespace Go.Proofs.YtpinkbodbedajaaGreatDoor
open Go.RowKit





end Go.Proofs.YtpinkbodbedajaaGreatDoor

namespace Go.Proofs.YtpinkbodbedajaaGreatDoor
open Go.RowKit






end Go.Proofs.YtpinkbodbedajaaGreatDoor

namespace Go.Proofs.YtpinkbodbedajaaGreatDoor
open Go.RowKit


theorem seg.grown {α : Type} [Flat α] {T lo hi : Nat} {w w' : World} {v : Value} {xs : List α} {row : Option Nat} (h : seg T lo hi w v xs) (hg : w.grownBy w' row) (hv : v.ownBlock = none ∨ v.ownBlock ≠ row) : seg T lo hi w' v xs := ⟨h.1.grown hg hv, h.2⟩


/-! ### Marks of a day -/
def segD (T1 T2 lo hi : Nat) (w : World) (v : Value) (d : Dy) : Prop :=
  ∃ vo vf vh, v = .agg #[.int .i64 d.plan.bins, .int .i64 d.plan.passes, vo, vf, vh, .int .i64 d.size] ∧ isI64 d.plan.bins ∧ isI64 d.plan.passes ∧ isI64 d.size ∧ seg T1 lo hi w vo d.plan.order ∧ seg T2 lo hi w vf d.fwds ∧ seg T1 lo hi w vh d.held ∧ (apart vo vf ∧ apart vo vh ∧ apart vf vh)
theorem segD.of {T1 T2 lo : Nat} {w : World} {v : Value} {d : Dy} (h : ownD T1 T2 lo w v d) : segD T1 T2 lo w.heap.size w v d := by
  obtain ⟨vo, vf, vh, h1, h2, h3, h4, h5, h6, h7, h8⟩ := h
  exact ⟨vo, vf, vh, h1, h2, h3, h4, seg.of h5, seg.of h6, seg.of h7, h8⟩
theorem segD.below {T1 T2 lo hi : Nat} {w w' : World} {v : Value} {d : Dy} (h : segD T1 T2 lo hi w v d) (hb : Below w.heap.size w w') : segD T1 T2 lo hi w' v d := by
  obtain ⟨vo, vf, vh, h1, h2, h3, h4, h5, h6, h7, h8⟩ := h
  exact ⟨vo, vf, vh, h1, h2, h3, h4, h5.below hb, h6.below hb, h7.below hb, h8⟩
theorem segD.out {T1 T2 lo hi a b : Nat} {w w' : World} {v : Value} {d : Dy} (h : segD T1 T2 lo hi w v d) (ho : OutI a b w w') (hd : hi ≤ a ∨ b ≤ lo) : segD T1 T2 lo hi w' v d := by
  obtain ⟨vo, vf, vh, h1, h2, h3, h4, h5, h6, h7, h8⟩ := h
  exact ⟨vo, vf, vh, h1, h2, h3, h4, h5.out ho hd, h6.out ho hd, h7.out ho hd, h8⟩
theorem segD.rd {T1 T2 lo hi : Nat} {w : World} {v : Value} {d : Dy} (h : segD T1 T2 lo hi w v d) : rdD w w.heap.size v d := by
  obtain ⟨vo, vf, vh, h1, h2, h3, h4, h5, h6, h7, h8⟩ := h
  exact ⟨vo, vf, vh, h1, h2, h3, h4, h5.rd, h6.rd, h7.rd⟩

end Go.Proofs.YtpinkbodbedajaaGreatDoor

namespace Go.Proofs.YtpinkbodbedajaaGreatDoor
open Go.RowKit
end Go.Proofs.YtpinkbodbedajaaGreatDoor

namespace Go.Proofs.YtpinkbodbedajaaGreatDoor
open Go.RowKit

/-! ### The missort of a letter: the first one is the last one. -/
/-! ### Valid batches -/
theorem okB_pw {xs : List Ltr} : okB xs = true ↔ xs.length ≤ 60 ∧ (∀ x ∈ xs, 1 ≤ x.id ∧ x.id ≤ 9999 ∧ isCode x.code = true) ∧ xs.Pairwise fun x y => x.id ≠ y.id := by
  rw [okB_iff, List.pairwise_iff_getElem]
  constructor
  · rintro ⟨h1, h2⟩
    refine ⟨h1, fun x hx => ?_, fun i j hi hj hij => (h2 j hj).2.2.2 i hij⟩
    obtain ⟨k, hk, rfl⟩ := List.getElem_of_mem hx
    exact ⟨(h2 k hk).1, (h2 k hk).2.1, (h2 k hk).2.2.1⟩
  · rintro ⟨h1, h2, h3⟩
    exact ⟨h1, fun k hk => ⟨(h2 _ (List.getElem_mem hk)).1, (h2 _ (List.getElem_mem hk)).2.1, (h2 _ (List.getElem_mem hk)).2.2, fun j hj => h3 j k (by omega) hk hj⟩⟩
theorem pw_inj {xs : List Ltr} (h : xs.Pairwise fun x y => x.id ≠ y.id) : ∀ x ∈ xs, ∀ y ∈ xs, x.id = y.id → x = y := by
  intro x hx y hy e
  obtain ⟨i, hi, rfl⟩ := List.getElem_of_mem hx
  obtain ⟨j, hj, rfl⟩ := List.getElem_of_mem hy
  rw [List.pairwise_iff_getElem] at h
  rcases Nat.lt_trichotomy i j with h1 | h1 | h1
  · exact absurd e (h i j hi hj h1)
  · subst h1; rfl
  · exact absurd e.symm (h j i hj hi h1)
/-- Rows that a function on letters tells apart. -/
theorem okB_rows {xs : List Ltr} {xss : List (List Ltr)} (f : Ltr → Int) (h : okB xs = true) (hl : xss.flatten.length ≤ xs.length) (hm : ∀ ys ∈ xss, ∀ x ∈ ys, x ∈ xs) (hp : ∀ ys ∈ xss, ys.Pairwise fun x y => x.id ≠ y.id)
    (hf : ∀ k (hk : k < xss.length), ∀ x ∈ xss[k], f x = (k : Int)) : okB xss.flatten = true := by
  obtain ⟨h1, h2, h3⟩ := okB_pw.1 h
  refine okB_pw.2 ⟨by omega, fun x hx => ?_, ?_⟩
  · obtain ⟨ys, hys, hxy⟩ := List.mem_flatten.1 hx
    exact h2 x (hm ys hys x hxy)
  · rw [List.pairwise_flatten]
    refine ⟨hp, ?_⟩
    rw [List.pairwise_iff_getElem]
    intro i j hi hj hij x hx y hy e
    have := pw_inj h3 x (hm _ (List.getElem_mem hi) x hx) y (hm _ (List.getElem_mem hj) y hy) e
    subst this
    have h4 := hf i hi x hx
    have h5 := hf j hj x hy
    omega
theorem okB_binsOf {xs : List Ltr} (f : Ltr → Int) (n : Nat) (h : okB xs = true) : okB (binsOf f n xs).flatten = true := by
  refine okB_rows f h (flatten_length_binsOf xs) (fun ys hys x hx => ?_) (fun ys hys => ?_) (fun k hk x hx => ?_)
  · obtain ⟨k, hk, rfl⟩ := List.getElem_of_mem hys
    rw [binsOf_get] at hx
    exact (List.mem_filter.1 hx).1
  · obtain ⟨k, hk, rfl⟩ := List.getElem_of_mem hys
    rw [binsOf_get]
    exact (okB_pw.1 h).2.2.filter _
  · rw [binsOf_get] at hx
    simpa using (List.mem_filter.1 hx).2
theorem okB_passesN (p : Pln) : ∀ (n k : Nat) (xs : List Ltr), okB xs = true → okB (passesN p k n xs) = true
  | 0, _, _, h => h
  | n + 1, k, xs, h => okB_passesN p n (k + 1) _ (okB_binsOf _ _ h)

/-! ### Repaired bins -/
/-! ### What the functions give -/
end Go.Proofs.YtpinkbodbedajaaGreatDoor

namespace Go.Proofs.YtpinkbodbedajaaGreatDoor
open Go.RowKit




end Go.Proofs.YtpinkbodbedajaaGreatDoor

namespace Go.Proofs.YtpinkbodbedajaaGreatDoor
open Go.RowKit

/-- A row of rows that grows by one row. -/
theorem isLL.snoc {α : Type} [Flat α] {T1 T2 base g m cap : Nat} {w w1 : World} {v u : Value} {vs : List Value} {xss : List (List α)} {ys : List α}
    (h : isLL T1 T2 base w v xss vs) (ho : own T2 base w u ys) (hf : farLL u v vs) (hn : own T1 base w1 (.slice (some ⟨g, 0, none⟩) m cap) (vs ++ [u])) (hg : w.grownBy w1 v.ownBlock) (ha : some g = v.ownBlock ∨ g = w.heap.size) :
    isLL T1 T2 base w1 (.slice (some ⟨g, 0, none⟩) m cap) (xss ++ [ys]) (vs ++ [u]) := by
  obtain ⟨h1, h2, h3, h4, h5⟩ := h
  have hfu : ∀ k (hk : k < (vs ++ [u]).length), apart (vs ++ [u])[k] v := fun k hk => by
    by_cases hkv : k < vs.length
    · rw [List.getElem_append_left hkv]; exact h5 k hkv
    · rw [List.getElem_append_right (by omega)]
      have : k - vs.length = 0 := by simp at hk; omega
      simp only [this, List.getElem_cons_zero]; exact hf.1
  have hlt : ∀ k (hk : k < (vs ++ [u]).length) j, (vs ++ [u])[k].ownBlock = some j → j < w.heap.size := fun k hk j => by
    by_cases hkv : k < vs.length
    · rw [List.getElem_append_left hkv]; exact fun e => ((h3 k hkv (by omega)).blk j e).2
    · rw [List.getElem_append_right (by omega)]
      have : k - vs.length = 0 := by simp at hk; omega
      simp only [this, List.getElem_cons_zero]; exact fun e => (ho.blk j e).2
  refine ⟨hn, by simp [h2], fun k hk hk' => ?_, fun j k hj hk hne => ?_, fun k hk => ?_⟩
  · by_cases hkv : k < vs.length
    · rw [List.getElem_append_left hkv, List.getElem_append_left (by omega)]
      exact (h3 k hkv (by omega)).grown hg (h5 k hkv)
    · have e1 : k - vs.length = 0 := by simp at hk; omega
      have e2 : k - xss.length = 0 := by omega
      rw [List.getElem_append_right (by omega), List.getElem_append_right (by omega)]
      simp only [e1, e2, List.getElem_cons_zero]
      exact ho.grown hg hf.1
  · by_cases hjv : j < vs.length
    · by_cases hkv : k < vs.length
      · rw [List.getElem_append_left hjv, List.getElem_append_left hkv]; exact h4 j k hjv hkv hne
      · have e1 : k - vs.length = 0 := by simp at hk; omega
        rw [List.getElem_append_left hjv, List.getElem_append_right (by omega)]
        simp only [e1, List.getElem_cons_zero]; exact apart_symm (hf.2 j hjv)
    · have e1 : j - vs.length = 0 := by simp at hj; omega
      by_cases hkv : k < vs.length
      · rw [List.getElem_append_right (by omega), List.getElem_append_left hkv]
        simp only [e1, List.getElem_cons_zero]; exact hf.2 k hkv
      · exfalso; simp at hj hk; omega
  · exact apart_symm (apart_app (apart_symm (hfu k hk)) ha fun j hj => hlt k hk j hj)




end Go.Proofs.YtpinkbodbedajaaGreatDoor

namespace Go.Proofs.YtpinkbodbedajaaGreatDoor
open Go.RowKit

theorem rd.rows {α : Type} [El α] {w : World} {B n c : Nat} {A : Option Addr} {xs : List α} (h : rd w B (.slice A n c) xs) : rdA w B A xs := by
  obtain ⟨A', n', c', h1, _, _, _, hr⟩ := h
  injection h1 with h1 h2 h3
  subst h1
  exact hr


end Go.Proofs.YtpinkbodbedajaaGreatDoor

namespace Go.Proofs.YtpinkbodbedajaaGreatDoor
open Go.RowKit


end Go.Proofs.YtpinkbodbedajaaGreatDoor

namespace Go.Proofs.YtpinkbodbedajaaGreatDoor
open Go.RowKit

/-! ### Plain facts -/
theorem own.made1 {α : Type} [Flat α] (w : World) (T : TypeId) (cs : List Value) (x : α) {base : Nat} (hel : El.el w w.heap.size x cs) (hb : base ≤ w.heap.size) : own T base (w.alloc (.cells cs.toArray T)) (.slice (some ⟨w.heap.size, 0, none⟩) 1 1) [x] := by
  refine ⟨[cs], ⟨by simp [El.len hel], .inr ⟨w.heap.size, 1, cs.toArray, rfl, hb, heap_alloc_new w _, Nat.le_refl _, by unfold maxLen; omega, by simp [El.len hel], ?_⟩⟩, rfl, fun k h1 h2 => ?_⟩
  · show List.take (1 * El.size α) _ = _
    rw [Nat.one_mul, ← El.len hel]; simp
  · have hk : k = 0 := by simp at h1; omega
    subst hk
    exact Flat.free hel


end Go.Proofs.YtpinkbodbedajaaGreatDoor

namespace Go.Proofs.YtpinkbodbedajaaGreatDoor
open Go.RowKit




end Go.Proofs.YtpinkbodbedajaaGreatDoor

namespace Go.Proofs.YtpinkbodbedajaaGreatDoor
open Go.RowKit

theorem list_own (T base : Nat) (w : World) (xs : List Int) (hx : ∀ x ∈ xs, isI64 x) (hm : xs.length ≤ maxLen) (hb : base ≤ w.heap.size) :
    own T base (w.alloc (.cells (xs.map (Value.int .i64)).toArray T)) (.slice (some ⟨w.heap.size, 0, none⟩) xs.length xs.length) xs := by
  have h1 : (xs.map fun x => [Value.int .i64 x]).flatten = xs.map (Value.int .i64) := by
    clear hm hx
    induction xs with
    | nil => rfl
    | cons x xs ih => simp [ih]
  refine ⟨xs.map fun x => [Value.int .i64 x], ⟨?_, .inr ⟨w.heap.size, xs.length, _, rfl, hb, heap_alloc_new w _, Nat.le_refl _, hm, by simp [El.size], ?_⟩⟩, by simp, fun k hk hk' => ?_⟩
  · rw [h1]
    simp [El.size]
  · rw [h1]
    simp only [El.size, Nat.mul_one]
    exact List.take_of_length_le (by simp)
  · simp only [List.getElem_map]
    exact ⟨hx _ (List.getElem_mem hk), rfl⟩

theorem rd_open (v : Value) (bs : List UInt8) (w : World) (hv : rd w w.heap.size v bs) :
    Calls Tryz.prog 42 #[v] w fun e w' => ∃ g, e = .returned (.pointer (some ⟨g, 0, none⟩)) ∧ w.heap.size ≤ g ∧ rdr w' g 0 ∧ Below w.heap.size w w' := by
  obtain ⟨A, n, c, rfl, hn, hc, hm, hr⟩ := hv
  subst hn
  have HM := hm
  unfold maxLen at hm
  have HR := Lib.hid hr; clear hr
  have HMM := Lib.hid HM; clear HM
  go_enter Tryz.func42, Tryz.ntmps42
  by_cases h : 2000 < bs.length
  · have HH : Hid (rdr (w.alloc (Obj.cells #[Value.slice A 2000 c, Value.int IntKind.i64 0] 140)) w.heap.size 0) :=
      ⟨A, 2000, c, bs.take 2000, heap_alloc_new w _, by simp; omega, Nat.le_refl _, by omega, HMM.out, (HR.out.take 2000).keep fun p hp => World.cell?_alloc_lt w _ p hp⟩
    go_wp2
    go_ret
    exact ⟨w.heap.size, rfl, Nat.le_refl _, HH.out, (Below.refl _ _).alloc (Nat.le_refl _) _⟩
  · have HH : Hid (rdr (w.alloc (Obj.cells #[Value.slice A bs.length c, Value.int IntKind.i64 0] 140)) w.heap.size 0) :=
      ⟨A, bs.length, c, bs, heap_alloc_new w _, rfl, by omega, hc, HMM.out, HR.out.keep fun p hp => World.cell?_alloc_lt w _ p hp⟩
    go_wp2
    go_ret
    exact ⟨w.heap.size, rfl, Nat.le_refl _, HH.out, (Below.refl _ _).alloc (Nat.le_refl _) _⟩

set_option maxHeartbeats 400000 in
theorem rd_num (T g p : Nat) (v : Value) (xs : List Int) (w : World) (hr : rdr w g p) (hp : p ≤ 1099511627776) (hv : own T (g + 1) w v xs) (h0 : 0 < xs.length) :
    Calls Tryz.prog 103 #[.pointer (some ⟨g, 0, none⟩), v] w fun e w' => ∃ x ∈ xs, e = .returned (.int .i64 x) ∧ rdr w' g (p + 1) ∧ w.grownBy w' (some g) := by
  have hlen : xs.length ≤ maxLen := by
    obtain ⟨A, n, c, _, hn, hc, hm, _⟩ := hv.rd
    omega
  have hne : v.ownBlock = none ∨ v.ownBlock ≠ some g := by
    cases hb : v.ownBlock with
    | none => exact .inl rfl
    | some k => exact .inr fun e => by have := (hv.blk k hb).1; injection e; omega
  have HV := Lib.hid (fun (W : World) (hg : w.grownBy W (some g)) => (hv.grown hg hne).rd)
  obtain ⟨A, n, c, rfl, hn, hc, hm, _⟩ := hv.rd
  subst hn
  unfold maxLen at hm
  clear hne hv
  go_enter Tryz.func103, Tryz.ntmps103
  go_wp2_with fail
  refine (rd_pick g p _ w hr hp ⟨by omega, by omega⟩).mono ?_
  rintro e w1 ⟨x, rfl, hx, hr1, hg⟩
  obtain ⟨x0, x1⟩ := hx.2 (by omega)
  obtain ⟨q, rfl⟩ := Int.eq_ofNat_of_zero_le x0
  obtain ⟨A', n', c', e1, _, _, _, hrd⟩ := HV.out w1 hg
  injection e1 with e1 e2 e3
  subst e1
  obtain ⟨b, o, rfl, hb, hi, c1⟩ := hrd.int q (by omega)
  have hmem : xs[q]'(by omega) ∈ xs := List.getElem_mem _
  generalize xs[q] = y at *
  have HM := Lib.hid hmem; clear hmem hx e2 e3
  go_wp2
  go_ret
  exact ⟨y, HM.out, rfl, hr1, hg⟩

/-- The decimal text of a number that is not negative. -/
def decL (n : Nat) : List UInt8 := if n = 0 then [48] else dec10 n
def decB (n : Nat) : ByteArray := ⟨(decL n).toArray⟩
theorem dec10_small {m : Nat} (h0 : 0 < m) (h : m ≤ 9) : dec10 m = [b8 (48 + m)] := by
  rw [dec10_step h0, show m / 10 = 0 by omega, show m % 10 = m by omega, show dec10 0 = [] by rw [dec10]]
  unfold b8
  rw [show (48 + (m : Int)).toNat = 48 + m by omega]
  rfl

set_option maxHeartbeats 400000 in
theorem spec_l9Dec (n : Nat) (w : World) (hn : n ≤ 9223372036854775807) :
    Calls Tryz.prog 142 #[.int .i64 n] w fun e w' => e = .returned (.string (decB n)) ∧ Below w.heap.size w w' := by
  have hbs := byteString
  have h0 : (0 : Int) ≤ (n : Int) := by omega
  go_enter Tryz.func142, Tryz.ntmps142
  go_wp2
  go_loopw [0, 3] (fun t s wr => ∃ (m : Nat) (u : ByteArray), m ≤ n ∧ t = .int .i64 m ∧ s = .string u ∧ u.size ≤ 20 ∧ Hid (n = 0 ∧ m = 0 ∧ u = ⟨#[]⟩ ∨ 0 < m ∧ dec10 n = dec10 m ++ u.data.toList) ∧ Hid (m * 10 ^ u.size ≤ n) ∧ Below w.heap.size w wr) (fun t _ _ => (intOf t).toNat)
  case atStart =>
    refine ⟨n, _, Nat.le_refl _, rfl, rfl, Nat.zero_le _, ?_, (by show n * 10 ^ 0 ≤ n; omega), Below.refl _ _⟩
    by_cases h : n = 0
    · exact .inl ⟨h, h, rfl⟩
    · exact .inr ⟨by omega, by simp⟩
  case round =>
    obtain ⟨m, u, hm, rfl, rfl, hu, HD, HP, hbl⟩ := hrel
    obtain ⟨w1, rfl⟩ : ∃ w1 : World, w1 = wr := ⟨_, rfl⟩
    by_cases h9 : 9 < m
    · have hu19 : u.size ≤ 19 := by
        apply Classical.byContradiction
        intro hc
        have h1 := HP.out
        have h2 : 10 ^ 20 ≤ 10 ^ u.size := Nat.pow_le_pow_right (by omega) (by omega)
        have h3 : 10 * 10 ^ 20 ≤ m * 10 ^ u.size := Nat.mul_le_mul (by omega) h2
        omega
      go_wp2
      go_roundw
      case rel =>
        refine ⟨m / 10, _, by omega, by go_num, rfl, by rw [ByteArray.size_append]; show 1 + _ ≤ 20; omega, .inr ⟨by omega, ?_⟩, ?_, hbl.alloc hbl.size _⟩
        · rcases HD.out with ⟨_, h, _⟩ | ⟨_, h⟩
          · omega
          · rw [h, ba_append, dec10_step (n := m) (by omega), List.append_assoc]
            show _ = dec10 (m / 10) ++ ([b8 (48 + (m : Int) % 10)] ++ _)
            unfold b8
            rw [show (48 + (m : Int) % 10).toNat = 48 + m % 10 by omega]
        · show _ ≤ _
          have h1 := HP.out
          have h2 : (m / 10) * 10 ≤ m := Nat.div_mul_le_self _ _
          rw [ByteArray.size_append, show (ByteArray.mk #[b8 (48 + (m : Int) % 10)]).size = 1 from rfl, Nat.pow_add, Nat.pow_one, ← Nat.mul_assoc]
          exact Nat.le_trans (Nat.mul_le_mul_right _ h2) h1
      case measure => simp [intOf]; omega
    · go_wp2
      go_ret
      refine ⟨ret_str ?_, hbl.alloc hbl.size _⟩
      apply ba_ext
      rw [ba_append]
      rcases HD.out with ⟨h1, h2, h3⟩ | ⟨h1, h2⟩
      · subst h1 h2 h3
        rfl
      · show _ = decL n
        unfold decL
        rw [if_neg (by omega), h2, dec10_small h1 (by omega)]

/-- The last k decimal digits of a number. -/
def showL : Nat → Nat → List UInt8
  | _, 0 => []
  | n, k + 1 => showL (n / 10) k ++ [b8 (48 + (n : Int) % 10)]
def showB (n k : Nat) : ByteArray := ⟨(showL n k).toArray⟩
theorem showL_len : ∀ (k n : Nat), (showL n k).length = k
  | 0, _ => rfl
  | k + 1, n => by rw [showL, List.length_append, showL_len k]; rfl
theorem showB_size (n k : Nat) : (showB n k).size = k := by
  show (showL n k).toArray.size = k
  rw [List.size_toArray, showL_len]

set_option maxHeartbeats 400000 in
theorem spec_l1Show (n k : Nat) (w : World) (hn : n ≤ 9223372036854775807) (hk : k ≤ 60) :
    Calls Tryz.prog 74 #[.int .i64 n, .int .i64 k] w fun e w' => e = .returned (.string (showB n k)) ∧ Below w.heap.size w w' := by
  go_enter Tryz.func74, Tryz.ntmps74
  go_wp2_with fail
  go_loopw [0, 5, 6] (fun t s i wr => ∃ (m j : Nat) (u : ByteArray), m ≤ n ∧ j ≤ k ∧ t = .int .i64 m ∧ s = .string u ∧ i = .int .i64 j ∧ u.size ≤ j ∧ Hid (showL n k = showL m (k - j) ++ u.data.toList) ∧ Below w.heap.size w wr) (fun _ _ i _ => k - (intOf i).toNat)
  case atStart => exact ⟨n, 0, _, Nat.le_refl _, Nat.zero_le _, rfl, rfl, rfl, Nat.le_refl _, by show _ = _; simp, Below.refl _ _⟩
  case round =>
    obtain ⟨m, j, u, hm, hj, rfl, rfl, rfl, hu, HD, hbl⟩ := hrel
    obtain ⟨w1, rfl⟩ : ∃ w1 : World, w1 = wr := ⟨_, rfl⟩
    by_cases hlt : j < k
    · go_wp2_with fail
      refine (spec_l9Dec (m % 10) _ (by omega)).mono ?_
      rintro e w2 ⟨rfl, hb⟩
      have hd1 : (decB (m % 10)).size = 1 := by
        show (decL _).toArray.size = 1
        unfold decL
        split
        · rfl
        · rw [dec10_small (by omega) (by omega)]; rfl
      have HDD : Hid ((decB (m % 10)).data.toList = [b8 (48 + (m : Int) % 10)]) := by
        show decL _ = _
        unfold decL
        split
        · rename_i h
          rw [show (m : Int) % 10 = 0 by omega]; rfl
        · rw [dec10_small (by omega) (by omega)]; rfl
      generalize decB (m % 10) = d at *
      go_wp2_with fail
      go_roundw
      case rel =>
        refine ⟨m / 10, j + 1, _, by omega, by omega, by go_num, rfl, by go_num, by rw [ByteArray.size_append]; omega, ?_, hbl.trans (hb.mono hbl.size)⟩
        show _ = _
        rw [HD.out, ba_append, HDD.out, show k - j = (k - (j + 1)) + 1 by omega, showL, List.append_assoc]
      case measure => simp [intOf]; omega
    · have HE := Lib.hid (show k - j = 0 by omega)
      go_wp2_with fail
      go_ret
      refine ⟨ret_str ?_, hbl⟩
      apply ba_ext
      show _ = showL n k
      rw [HD.out, HE.out, showL]
      rfl

end Go.Proofs.YtpinkbodbedajaaGreatDoor

namespace Go.Proofs.YtpinkbodbedajaaGreatDoor
open Go.RowKit

theorem Tryz.infoByte : (Tryz.prog.info? 5).map (fun i => (i.zero, i.size, i.bytes)) = some (some (.int .u8 0), 1, 1) := by kernel_rfl

end Go.Proofs.YtpinkbodbedajaaGreatDoor

namespace Go.Proofs.YtpinkbodbedajaaGreatDoor
open Go.RowKit

/-- A row of bytes: all of block g. -/
def byteRow (w : World) (g : Nat) (l : List UInt8) : Prop := w.heap[g]? = some (.cells (l.map fun b => Value.int .u8 b.toNat).toArray 5 (0, 0))
theorem byteRow.cell {w : World} {g : Nat} {l : List UInt8} (h : byteRow w g l) (i : Nat) (hi : i < l.length) : w.cell? ⟨g, i, none⟩ = some (.int .u8 (l[i].toNat : Int)) :=
  blk_cell h i _ (by simp [hi])
theorem byteRow.free {w : World} {g : Nat} {l : List UInt8} (h : byteRow w g l) (i : Nat) : w.frozen? ⟨g, i, none⟩ = false := blk_free h i
theorem byteRow.set {w : World} {g : Nat} {l : List UInt8} (h : byteRow w g l) (i : Nat) (b : UInt8) : byteRow (w.setCell ⟨g, i, none⟩ (.int .u8 (b.toNat : Int))) g (l.set i b) := by
  have h1 := blk_set h i (.int .u8 (b.toNat : Int))
  unfold byteRow
  rw [h1, List.map_set]
  simp
theorem byteRow.below {w w' : World} {g : Nat} {l : List UInt8} (h : byteRow w g l) (hb : Below w.heap.size w w') : byteRow w' g l := blk_below h hb
theorem byteRow.str {w : World} {g c m : Nat} {l : List UInt8} (h : byteRow w g l) (hm : m ≤ l.length) : (convert 22 9 (.slice (some ⟨g, 0, none⟩) m c)).run Tryz.prog w = .ok (.string ⟨(l.take m).toArray⟩) w := by
  have h1 := run_convert_bytes_back (P := Tryz.prog) w 22 9 5 ⟨g, 0, none⟩ c (l.take m) Tryz.underlying22 Tryz.underlying5 Tryz.underlying9 (fun j hj => by
    have hj2 : j < l.length := by rw [List.length_take] at hj; omega
    rw [List.getElem_take]
    have := h.cell j hj2
    rw [add_lit]
    simpa using this)
  have hl : (l.take m).length = m := by rw [List.length_take]; omega
  rw [hl] at h1
  exact h1

end Go.Proofs.YtpinkbodbedajaaGreatDoor

namespace Go.Proofs.YtpinkbodbedajaaGreatDoor
open Go.RowKit

structure Plc where
  area : Int
  walk : Int
  point : Int
end Go.Proofs.YtpinkbodbedajaaGreatDoor
