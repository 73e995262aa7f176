/- FnRepairedLast: the walk of the law. -/
import Derived.Test.YtekjjgnokjhleaaQ24
import Derived.Test.YtekjjgnokjhleaaQ32
import Derived.Test.YtekjjgnokjhleaaQ30
import Derived.Deep.RegionHeld3
namespace Go.Proofs.Ytekjjgnokjhleaa
open Go.RowKit

theorem powI_gt {b : Int} (h : 2 ≤ b) : ∀ {n : Nat}, 0 < n → 1 < powI b n
  | 0, h0 => absurd h0 (Nat.lt_irrefl 0)
  | n + 1, _ => by
    have := powI_pos h n
    rw [powI_succ]
    have : 1 * 2 ≤ powI b n * b := Int.mul_le_mul this h (by omega) (by omega)
    omega

set_option maxRecDepth 100000 in
set_option maxHeartbeats 2000000 in
theorem walk_FnRepairedLast (w : World) (v : Value) (bs : List UInt8) (hv : rd w w.heap.size v bs) :
    Calls Try.prog 10 #[v] w fun e w' => e = .returned (.bool true) ∧ Below w.heap.size w w' := by
  have hv0 := hv
  obtain ⟨A, n, c, rfl, hn, hc, hm, _⟩ := hv
  subst hn
  unfold maxLen at hm
  go_enter Try.func10, Try.ntmps10
  by_cases hsz : 1048576 < bs.length
  · go_wp2_with fail
    go_ret
    exact ⟨rfl, Below.refl _ _⟩
  go_wp2_with fail
  refine (draw_DrawRunRepaired _ bs w hv0).mono ?_
  rintro e w1 ⟨vp, vb, vm, p, xs, k, ms, rfl, ov, ob, om, hk, hxl, hml, hol, b1⟩
  have hvp := ov.rdp
  obtain ⟨A0, c0, e0⟩ := openP hvp
  obtain ⟨w0, hw0⟩ : ∃ w0, w0 = w1.alloc (Obj.cells #[.int .i64 p.bins, .int .i64 p.passes, .slice A0 p.order.length c0] 25) := ⟨_, rfl⟩
  have q0 := box_cells hw0 0 (.int .i64 p.bins) rfl
  have q1 := box_cells hw0 1 (.int .i64 p.passes) rfl
  have q2 := box_cells hw0 2 (.slice A0 p.order.length c0) rfl
  have HT := Lib.hid (box_later hw0).1
  have HP := Lib.hid (hvp.on HT.out)
  subst e0
  have HB := Lib.hid (ob.rd.on HT.out)
  have HM := Lib.hid (om.rd.on HT.out)
  have HWB : Hid (Below w.heap.size w w0) := b1.trans (HT.out.mono b1.size)
  have HW0 := Lib.hid hw0
  have l0 := Below.refl w0.heap.size w0
  clear hw0 hvp ov ob om b1 HT hv0
  go_wp2_with fail
  rw [← HW0.out]
  refine (impl_RunRepaired _ _ _ p xs k ms _ HP.out HB.out HM.out).mono ?_
  rintro e w2 ⟨vx, rfl, ox, b2⟩
  have OX2 := Lib.hid ox
  have l2 := later_trans l0 b2
  clear ox b2 l0
  go_wp2_with fail
  refine (spec_RunRepaired _ _ _ p xs k ms _ (HP.out.on l2) (HB.out.on l2) (HM.out.on l2)).mono ?_
  rintro e w3 ⟨vw, rfl, ow, b3⟩
  have OX3 := Lib.hid (OX2.out.below b3)
  have OW3 := Lib.hid ow
  have l3 := later_trans l2 b3
  clear ow b3 l2 OX2
  have htt : ((true : Bool) != true) = false := rfl
  have hff : ((false : Bool) != false) = false := rfl
  have hfe : ((false : Bool) == false) = true := rfl
  cases hok : fpOk p xs k ms
  · clear hok
    go_wp2_with fail
    go_ret
    exact ⟨rfl, HWB.out.trans (l3.mono HWB.out.size)⟩
  have HOK := Lib.hid hok; clear hok

  clear OX3
  have hpb := planOk_bins (fpOk_iff.1 HOK.out).1.1
  obtain ⟨K, hK⟩ : ∃ K : Nat, p.passes = (K : Int) + 1 := ⟨(p.passes - 1).toNat, by omega⟩
  have HPL : Hid (fpOk p xs K ms = true) := fpOk_at HOK.out (by omega) (by omega)
  have hwr : IntKind.i64.wrap (p.passes - 1) = (K : Int) := by rw [IntWalk.i64_in _ (by omega)]; omega
  have hKP : Hid ((K : Int) + 1 = p.passes) := hK.symm
  have hK4 : K ≤ 3 := by omega
  have HPK : Hid (passOk p K = true) := passOk_iff.2 (fpOk_iff.1 HPL.out).1
  clear hK
  go_wp2_with fail
  refine (impl_RunRepaired _ _ _ p xs K ms _ (HP.out.on l3) (HB.out.on l3) (HM.out.on l3)).mono ?_
  rw [HPL.out]
  rintro e w4 ⟨vX, rfl, oX, b4⟩
  have HX0 : Hid (rpOk p (rpdRound p xs K ms) = true) := rpd_rp HPL.out
  have HXA : Hid ((rpdRound p xs K ms).Pairwise fun x y => rbF p K x ≤ rbF p K y) := rpd_last_asc HPL.out hKP.out
  have HXM : Hid ((rpdRound p xs K ms).length ≤ keptN p (rpdRound p xs K ms) + ms.length) := rpd_last_moved HPL.out hKP.out
  have HXO : Hid (∀ h : K = 0, inOrd p (rpdRound p xs K ms)) := fun h => by subst h; exact rpd_first HPL.out
  have hXl : (rpdRound p xs K ms).length ≤ 60 := rpdRound_len _ _ _ _
  obtain ⟨X, hX⟩ : ∃ X, X = rpdRound p xs K ms := ⟨_, rfl⟩
  rw [← hX] at oX HX0 HXA HXM HXO hXl
  clear hX
  have OX4 := Lib.hid oX
  have l4 := later_trans l3 b4
  have hrx := oX.rd
  obtain ⟨Ax, nx, cx, hvx, hnx, _, hmx, hrdx⟩ := hrx
  subst hnx hvx
  unfold maxLen at hmx
  have HRX := Lib.hid hrdx
  clear oX b4 l3 hrdx
  go_wp2_with fail
  go_loopw [14] (fun i wr => ∃ m : Nat, m ≤ X.length ∧ i = .int .i64 ((m : Int) + 1) ∧ Below w4.heap.size w4 wr) (fun i _ => 100 - (intOf i).toNat)
  case atStart => exact ⟨0, Nat.zero_le _, rfl, Below.refl _ _⟩
  case round =>
    obtain ⟨m, hm, rfl, bb⟩ := hrel
    obtain ⟨w5, rfl⟩ : ∃ w5 : World, w5 = wr := ⟨_, rfl⟩
    have l5 := later_trans l4 bb
    by_cases hlt : m + 1 < X.length
    · obtain ⟨bx, o, rfl, hbx, _, _, c2⟩ := HRX.out.ltrU m (by omega)
      obtain ⟨bx', o', e', _, _, _, d2⟩ := HRX.out.ltrU (m + 1) hlt
      injection e' with e'
      injection e' with e1 e2
      subst e1 e2
      have HLE : Hid (binI p X[m].code K ≤ binI p X[m + 1].code K) := List.pairwise_iff_getElem.1 HXA.out m (m + 1) (by omega) hlt (by omega)
      generalize X[m] = y at *
      generalize X[m + 1] = z at *
      obtain ⟨z1, hz1⟩ : ∃ z1, z1 = binI p y.code K := ⟨_, rfl⟩
      obtain ⟨z2, hz2⟩ : ∃ z2, z2 = binI p z.code K := ⟨_, rfl⟩
      have HC1 : Hid (∀ W, Below w4.heap.size w4 W → Calls Try.prog 25 #[.agg #[.int .i64 p.bins, .int .i64 p.passes, .slice A0 p.order.length c0], .string y.code, .int .i64 K] W fun e W' => e = .returned (.int .i64 z1) ∧ Below w4.heap.size w4 W') := fun W l => by
        refine (impl_PlanBin _ p y.code K W (HP.out.on (later_trans l4 l)) HPK.out).mono ?_
        rintro e W' ⟨rfl, b⟩
        exact ⟨by rw [hz1]; rfl, later_trans l b⟩
      have HC2 : Hid (∀ W, Below w4.heap.size w4 W → Calls Try.prog 25 #[.agg #[.int .i64 p.bins, .int .i64 p.passes, .slice A0 p.order.length c0], .string z.code, .int .i64 K] W fun e W' => e = .returned (.int .i64 z2) ∧ Below w4.heap.size w4 W') := fun W l => by
        refine (impl_PlanBin _ p z.code K W (HP.out.on (later_trans l4 l)) HPK.out).mono ?_
        rintro e W' ⟨rfl, b⟩
        exact ⟨by rw [hz2]; rfl, later_trans l b⟩
      have hlz : decide (z2 < z1) = false := decide_eq_false (by rw [hz1, hz2]; have := HLE.out; omega)
      clear hz1 hz2
      have hk0 : (0 : Int) ≤ (m : Int) + 1 := by omega
      have hki : (m : Int) + 1 < (X.length : Int) := by omega
      have hkk : (m : Int) < (X.length : Int) := by omega
      have hkt : ((m : Int) + 1).toNat = m + 1 := by omega
      have hws : IntKind.i64.wrap (m : Int) = (m : Int) := IntWalk.i64_in _ (by omega)
      have hws2 : IntKind.i64.wrap ((m : Int) + 1 - 1) = (m : Int) := by rw [IntWalk.i64_in _ (by omega)]; omega
      have u0 : ∀ W, Below w4.heap.size w4 W → W.cell? ⟨w1.heap.size, 0, none⟩ = some (.int .i64 p.bins) := fun W h => q0 W (later_trans l4 h)
      have u1 : ∀ W, Below w4.heap.size w4 W → W.cell? ⟨w1.heap.size, 1, none⟩ = some (.int .i64 p.passes) := fun W h => q1 W (later_trans l4 h)
      have u2 : ∀ W, Below w4.heap.size w4 W → W.cell? ⟨w1.heap.size, 2, none⟩ = some (.slice A0 p.order.length c0) := fun W h => q2 W (later_trans l4 h)
      have Q0 := Lib.hid q0; have Q1 := Lib.hid q1; have Q2 := Lib.hid q2
      have L4 := Lib.hid l4
      clear q0 q1 q2 l4 l5
      have ld := later_drew bb
      go_wp2_with fail
      go_region_held3 (fun W => Below w4.heap.size w4 W) (first | exact ld | exact l7 | exact l6) (first | (go_at_call 25; (with_reducible refine (HC1.out _ l6).mono ?_); rintro e w7 ⟨rfl, l7⟩) | (go_at_call 25; (with_reducible refine (HC2.out _ l6).mono ?_); rintro e w7 ⟨rfl, l7⟩) | (go_at_call 25; (with_reducible refine (HC1.out _ ld).mono ?_); rintro e w6 ⟨rfl, l6⟩) | (go_at_call 25; (with_reducible refine (HC2.out _ ld).mono ?_); rintro e w6 ⟨rfl, l6⟩))
      all_goals
        go_wp2_with fail
        go_roundw
        case rel => exact ⟨m + 1, by omega, by go_num, l7⟩
        case measure => simp [intOf]; omega
    · have OX5 := Lib.hid (OX4.out.below bb)
      clear bb OX4 l4
      have hvm := HM.out
      obtain ⟨Am, nm, cm, hvm, hnm, _, hmm, _⟩ := hvm
      subst hnm hvm
      unfold maxLen at hmm
      have HMV : Hid (movedI p X = (X.length : Int) - keptN p X) := movedI_ok HX0.out
      have hml : (X.length : Int) - keptN p X ≤ (ms.length : Int) := by have := HXM.out; omega
      obtain ⟨mv, hmv⟩ : ∃ mv, mv = (X.length : Int) - keptN p X := ⟨_, rfl⟩
      rw [← hmv] at HMV hml
      clear hmv
      by_cases hK0 : K = 0
      · have HXO2 := Lib.hid (HXO.out hK0)
        subst hK0
        have hd : decide ((0 : Int) < ((0 : Nat) : Int)) = false := rfl
        go_wp2_with fail
        refine (impl_MovedLetters _ _ p X _ (HP.out.on l5) OX5.out.rd).mono ?_
        rw [HMV.out]
        rintro e w6 ⟨rfl, b6⟩
        have OX6 := Lib.hid (OX5.out.below b6)
        have l6 := later_trans l5 b6
        have hdm : decide (mv ≤ (ms.length : Int)) = true := decide_eq_true hml
        clear b6 l5
        go_wp2_with fail
        refine (impl_InOrder _ _ p X _ (HP.out.on l6) OX6.out.rd).mono ?_
        rintro e w7 ⟨b, rfl, hb, b7⟩
        obtain rfl : b = true := hb.2 ⟨HX0.out, HXO2.out⟩
        have l7 := later_trans l6 b7
        go_wp2_with fail
        go_ret
        exact ⟨rfl, HWB.out.trans (l7.mono HWB.out.size)⟩
      · have hKp : (0 : Int) < (K : Int) := by omega
        have hd : decide ((0 : Int) < (K : Int)) = true := decide_eq_true hKp
        have HSH : Hid (shapeOk p.bins K = true) := shapeOk_iff.2 ⟨hpb.1, hpb.2.1, by omega, by omega⟩
        have hpw : 1 < powI p.bins K := powI_gt hpb.1 (by omega)
        go_wp2_with fail
        refine (impl_CapacityOf p.bins K _ HSH.out).mono ?_
        rw [Int.toNat_natCast]
        obtain ⟨P, hP⟩ : ∃ P, P = powI p.bins K := ⟨_, rfl⟩
        rw [← hP] at hpw ⊢
        clear hP
        rintro e _ ⟨rfl, rfl⟩
        go_wp2_with fail
        refine (impl_MovedLetters _ _ p X _ (HP.out.on l5) OX5.out.rd).mono ?_
        rw [HMV.out]
        rintro e w6 ⟨rfl, b6⟩
        have l6 := later_trans l5 b6
        have hdm : decide (mv ≤ (ms.length : Int)) = true := decide_eq_true hml
        have hdP : decide (1 < P) = true := decide_eq_true hpw
        clear b6 l5
        go_wp2_with fail
        go_ret
        exact ⟨rfl, HWB.out.trans (l6.mono HWB.out.size)⟩

end Go.Proofs.Ytekjjgnokjhleaa
