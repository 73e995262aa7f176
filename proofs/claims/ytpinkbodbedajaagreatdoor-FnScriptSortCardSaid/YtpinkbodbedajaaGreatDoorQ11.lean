/- B6 B7 B8 B9 G2 U0 E3 UM RD F3 DA DB W4 B5 B10 DC LP ULL MK MK2 GFwd UD -/
import Derived.Test.YtpinkbodbedajaaGreatDoorQ8
import Derived.Test.YtpinkbodbedajaaGreatDoorQ10
import Derived.Test.YtpinkbodbedajaaGreatDoorQ2
import Derived.IntWalk
import Derived.Test.YtpinkbodbedajaaGreatDoorQ7
import Derived.Deep.QuietTactic
import Derived.BigQuiet
import Derived.Test.YtpinkbodbedajaaGreatDoorQ1
import Derived.Test.YtpinkbodbedajaaGreatDoorQ6
import Derived.Test.YtpinkbodbedajaaGreatDoorQ3
import Derived.StillTailTactics
import Derived.Handy
namespace Go.Proofs.YtpinkbodbedajaaGreatDoor
open Go.RowKit

theorem outN_len (p : Pln) : ∀ (n k : Nat) (xs : List Ltr), (outN p k n xs).length ≤ n * xs.length
  | 0, _, _ => by simp [outN]
  | n + 1, k, xs => by
    show (restOf _ xs ++ outN p (k + 1) n (pass1 p k xs)).length ≤ _
    have h1 := outN_len p n (k + 1) (pass1 p k xs)
    have h2 := pass1_len p k xs
    have h3 : n * (pass1 p k xs).length ≤ n * xs.length := Nat.mul_le_mul_left _ h2
    have h4 : (restOf (fun x => binI p x.code k) xs).length ≤ xs.length := List.length_filter_le _ _
    rw [List.length_append, Nat.add_mul, Nat.one_mul]
    omega

set_option maxRecDepth 100000 in
set_option maxHeartbeats 1600000 in
theorem impl_doPasses (v vb : Value) (p : Pln) (xs : List Ltr) (k0 k1 : Nat) (w : World) (hv : rdP w w.heap.size v p) (hb : rd w w.heap.size vb xs)
    (h1 : 2 ≤ p.bins) (h2 : p.bins ≤ 16) (hk1 : k1 ≤ 4) (hk01 : k0 ≤ k1) (hord : p.order.length ≤ 1000) (hl : xs.length ≤ 500) :
    Calls Tryz.prog 93 #[v, vb, .int .i64 k0, .int .i64 k1] w fun e w' => ∃ vL vO, e = .returned (.tuple #[vL, vO]) ∧ own 89 w.heap.size w' vL (passesN p k0 (k1 - k0) xs) ∧ own 89 w.heap.size w' vO (outN p k0 (k1 - k0) xs) ∧ apart vL vO ∧ Below w.heap.size w w' := by
  obtain ⟨A0, c0, e0⟩ := openP hv
  obtain ⟨w0, hw0⟩ : ∃ w0, w0 = w.alloc (Obj.cells #[.int .i64 p.bins, .int .i64 p.passes, .slice A0 p.order.length c0] 25) := ⟨_, rfl⟩
  have q0 := box_cells hw0 0 (.int .i64 p.bins) rfl
  have q1 := box_cells hw0 1 (.int .i64 p.passes) rfl
  have q2 := box_cells hw0 2 (.slice A0 p.order.length c0) rfl
  have HT := Lib.hid (box_later hw0).1
  have HP := Lib.hid (hv.on HT.out)
  have HB := Lib.hid (hb.on HT.out)
  subst e0
  have HW0 := Lib.hid hw0; clear hw0 hv hb
  have l0 := Below.refl w0.heap.size w0
  obtain ⟨i1, ji, jz0, jz1, jz2⟩ := info_parts Tryz.infoLtr
  have hwlt : w.heap.size ≤ w0.heap.size := HT.out.size
  go_enter Tryz.func93, Tryz.ntmps93
  go_wp2_with fail
  rw [← HW0.out]
  refine (impl_copyLetters _ xs _ HB.out (by omega)).mono ?_
  rintro e w1 ⟨v1, rfl, o1, b1⟩
  have l1 := later_trans l0 b1
  have O1 := Lib.hid o1; clear o1 b1 l0
  go_wp2_with fail
  go_loopw [10, 11, 12] (fun t u i wr => ∃ j : Nat, j ≤ k1 - k0 ∧ i = .int .i64 ((k0 + j : Nat) : Int) ∧ Below w0.heap.size w0 wr ∧ own 89 w0.heap.size wr t (passesN p k0 j xs) ∧ own 89 w0.heap.size wr u (outN p k0 j xs) ∧ Hid (apart t u)) (fun _ _ i _ => k1 - (intOf i).toNat)
  case atStart => exact ⟨0, Nat.zero_le _, rfl, l1, O1.out, own.nil_ _ _ _, apart_symm (.inl rfl)⟩
  case round =>
    obtain ⟨j, hj, rfl, lr, hL, hO, HA⟩ := hrel
    obtain ⟨w2, rfl⟩ : ∃ w2 : World, w2 = wr := ⟨_, rfl⟩
    have HL := Lib.hid hL; have HO := Lib.hid hO
    obtain ⟨AO, mO, cO, rfl, hmO, _, _, _⟩ := hO.rd
    obtain ⟨AL, mL, cL, rfl, hmL, _, _, _⟩ := hL.rd
    subst hmO hmL
    clear hL hO l1 O1
    have HLL := Lib.hid (passesN_len p j k0 xs)
    have HOL := Lib.hid (outN_len p j k0 xs)
    have HS1 : Hid (passesN p k0 (j + 1) xs = (binsOf (fun x => binI p x.code (k0 + j)) p.bins.toNat (passesN p k0 j xs)).flatten) := passesN_succ p j k0 xs
    have HS2 : Hid (outN p k0 (j + 1) xs = outN p k0 j xs ++ restOf (fun x => binI p x.code (k0 + j)) (passesN p k0 j xs)) := outN_succ p j k0 xs
    generalize hys : passesN p k0 j xs = ys at *
    generalize hzs : outN p k0 j xs = zs at *
    have HYZ : Hid (passesN p k0 j xs = ys ∧ outN p k0 j xs = zs) := ⟨hys, hzs⟩
    clear hys hzs
    have hyl : ys.length ≤ 500 := by have := HLL.out; omega
    have hzl : zs.length ≤ 2000 := by
      have h := HOL.out
      have h3 : j * xs.length ≤ 4 * 500 := Nat.mul_le_mul (by omega) hl
      omega
    clear HLL HOL
    by_cases hlt : k0 + j < k1
    · have HPL := Lib.hid (fun W (hW : Below w0.heap.size w0 W) (hr : rd W W.heap.size (.slice AL ys.length cL) ys) => impl_placeLetters _ _ (.slice none 0 0) p ys (k0 + j) [] W (HP.out.on hW) hr rd.nil_ h1 h2 (by omega) hord (fun m hm => by simp at hm) (by omega))
      go_wp2_with fail
      refine (HPL.out _ lr HL.out.rd).mono ?_
      rintro e w3 ⟨vB, vO, vs, rfl, hB, hR, hF, b3⟩
      have hB' : isLL 29 89 w2.heap.size w3 vB (binsOf (fun x => binI p x.code (k0 + j)) p.bins.toNat ys) vs := hB
      have hR' : own 89 w2.heap.size w3 vO (restOf (fun x => binI p x.code (k0 + j)) ys) := hR
      have hfl : (binsOf (fun x => binI p x.code (k0 + j)) p.bins.toNat ys).flatten.length ≤ 1048576 := Nat.le_trans (flatten_length_binsOf ys) (by omega)
      have hrl : (restOf (fun x => binI p x.code (k0 + j)) ys).length ≤ 500 := Nat.le_trans (List.length_filter_le _ _) hyl
      generalize (binsOf (fun x => binI p x.code (k0 + j)) p.bins.toNat ys) = bs at *
      generalize (restOf (fun x => binI p x.code (k0 + j)) ys) = rs at *
      have l3 := later_trans lr b3
      have HB3 := Lib.hid (show rd w3 w3.heap.size vB bs from ownLL.rd ⟨vs, hB'⟩)
      have HR3 := Lib.hid hR'
      have HO3 := Lib.hid (HO.out.below b3)
      clear hB hB' hR hR' hF HL HA b3
      go_wp2_with fail
      refine (impl_joinBins _ bs _ HB3.out hfl).mono ?_
      rintro e w4 ⟨v4, rfl, o4, b4⟩
      have l4 := later_trans l3 b4
      have HA4 := Lib.hid (apart_gt o4 HO3.out (Nat.le_refl _))
      have O4 := Lib.hid (o4.base_ l3.size)
      have HR4 := Lib.hid (HR3.out.below b4)
      have HO4 := Lib.hid (HO3.out.below b4)
      clear o4 b4 HR3 HO3 HB3
      have hs4 : w0.heap.size ≤ w4.heap.size := l4.size
      obtain ⟨AR, mR, cR, hvr, hmR, _, _, _⟩ := HR4.out.rd
      subst hvr hmR
      go_wp2_with (at_builtin; refine wpList_appendAll (α := Ltr) rfl (.tmp 32) (.tmp 33) 29 rfl w0.heap.size 89 i1 _ 24 Tryz.underlying29 ji jz0 jz1 jz2 rfl (by decide) (.slice AO zs.length cO) zs rfl HO4.out (.slice AR rs.length cR) rs rfl w4.heap.size HR4.out.rd (by unfold maxLen; omega) (by omega) hs4 ?_; intro v5 w5 ho5 hg5 ha5)
      have l5 : Below w0.heap.size w0 w5 := l4.trans (below_append HO4.out hg5 hs4)
      have O5 := Lib.hid (O4.out.grown hg5 HA4.out)
      have HA5 : Hid (apart v4 v5) := by
        show apart _ _
        have h := HA4.out
        unfold apart at *
        rcases ha5 with e5 | e5
        · rw [e5]; exact h
        · cases hb4 : v4.ownBlock with
          | none => exact .inl rfl
          | some q =>
            refine .inr fun e => ?_
            rw [e5] at e
            injection e with e
            have := (O4.out.blk q hb4).2
            omega
      go_wp2
      go_roundw
      case rel => exact ⟨j + 1, by omega, by go_num, l5, by rw [HS1.out]; exact O5.out, by rw [HS2.out]; exact ho5, HA5⟩
      case measure => simp [intOf]; omega
    · have HE := Lib.hid (show k1 - k0 = j by omega)
      go_wp2
      go_ret2
      rw [HE.out]
      exact ⟨_, _, rfl, by rw [HYZ.out.1]; exact HL.out.base_ hwlt, by rw [HYZ.out.2]; exact HO.out.base_ hwlt, HA.out, later_trans HT.out lr⟩

/-- Whether bins are those of a batch. -/
def collectOk (xss : List (List Ltr)) : Bool := decide (xss.length ≤ 60) && okB xss.flatten
def collected (xss : List (List Ltr)) : List Ltr := if collectOk xss then xss.flatten else []
theorem collected_no {xss : List (List Ltr)} (h : collectOk xss = false) : collected xss = [] := by unfold collected; rw [h]; rfl
theorem collected_yes {xss : List (List Ltr)} (h : collectOk xss = true) : collected xss = xss.flatten := by unfold collected; rw [if_pos h]
theorem flatten_take_len {α : Type} (xss : List (List α)) (k : Nat) : (xss.take k).flatten.length ≤ xss.flatten.length := by
  conv => rhs; rw [← List.take_append_drop k xss, List.flatten_append, List.length_append]
  omega
theorem okB_long {xs : List Ltr} (h : 60 < xs.length) : okB xs = false := by unfold okB; rw [decide_eq_false (by omega)]; rfl

set_option maxRecDepth 100000 in
set_option maxHeartbeats 1600000 in
theorem impl_CollectBins (v : Value) (xss : List (List Ltr)) (w : World) (hv : rd w w.heap.size v xss) :
    Calls Tryz.prog 60 #[v] w fun e w' => ∃ vL, e = .returned (.tuple #[vL, .bool (collectOk xss)]) ∧ own 89 w.heap.size w' vL (collected xss) ∧ Below w.heap.size w w' := by
  obtain ⟨A, n, c, rfl, hn, hc, hm, hr⟩ := hv
  subst hn
  unfold maxLen at hm
  have HR := Lib.hid hr; clear hr
  have l0 := Below.refl w.heap.size w
  obtain ⟨i0, hi, hz0, hz1, hz2⟩ := info_parts Tryz.infoLtr
  have HQ : Hid (collectOk xss = (decide (xss.length ≤ 60) && okB xss.flatten)) := rfl
  have HNO : Hid (∀ h : collectOk xss = false, ∀ W : World, own 89 w.heap.size W (.slice none 0 0) (collected xss)) := fun h W => by rw [collected_no h]; exact own.nil_ _ _ _
  go_enter Tryz.func60, Tryz.ntmps60
  by_cases h60 : (60 : Int) < (xss.length : Int)
  · have HF : Hid (collectOk xss = false) := by show _ = _; rw [HQ.out, decide_eq_false (by omega)]; rfl
    go_wp2
    go_ret2
    exact ⟨_, ret_tup (by rw [HF.out] <;> rfl), HNO.out HF.out _, l0⟩
  have H60 := Lib.hid (show xss.length ≤ 60 by omega)
  go_wp2
  go_loopw [4, 12] (fun t i wr => ∃ k : Nat, k ≤ xss.length ∧ i = .int .i64 k ∧ Below w.heap.size w wr ∧ own 89 w.heap.size wr t (xss.take k).flatten ∧ (xss.take k).flatten.length ≤ 60) (fun _ i _ => xss.length - (intOf i).toNat)
  case atStart => exact ⟨0, Nat.zero_le _, rfl, l0, own.nil_ _ _ _, by simp⟩
  case round =>
    obtain ⟨k, hk, rfl, lr, ho, hf60⟩ := hrel
    obtain ⟨w1, rfl⟩ : ∃ w1 : World, w1 = wr := ⟨_, rfl⟩
    clear l0
    by_cases hlt : k < xss.length
    · obtain ⟨b, o, u, rfl, hb, hu, c1⟩ := HR.out.rowU k hlt
      have HS : Hid ((xss.take (k + 1)).flatten = (xss.take k).flatten ++ xss[k]) := by show _ = _; rw [List.take_succ_eq_append_getElem hlt, List.flatten_append]; simp
      have HTL := Lib.hid (flatten_take_len xss (k + 1))
      generalize xss[k] = ys at *
      obtain ⟨A2, m2, c2, rfl, hm2, hc2, hmm2, hr2⟩ := hu
      have hu : rd w w.heap.size (.slice A2 m2 c2) ys := ⟨A2, m2, c2, rfl, hm2, hc2, hmm2, hr2⟩
      subst hm2
      clear hr2
      unfold maxLen at hmm2
      have HU := Lib.hid hu; clear hu
      generalize hys : (xss.take k).flatten = zs at *
      have HYS := Lib.hid hys; clear hys
      have ho' := Lib.hid ho
      obtain ⟨A3, m3, c3, rfl, hm3, _, _, _⟩ := ho.rd
      subst hm3
      clear ho
      by_cases hbig : (60 : Int) - (zs.length : Int) < (ys.length : Int)
      · have HF : Hid (collectOk xss = false) := by
          show _ = _
          rw [HQ.out, okB_long (by have h1 := HTL.out; have h2 := congrArg List.length HS.out; rw [List.length_append] at h2; omega)]
          simp
        go_wp2
        go_ret2
        exact ⟨_, ret_tup (by rw [HF.out] <;> rfl), HNO.out HF.out _, lr⟩
      · go_wp2_with (at_builtin; refine wpList_appendAll (α := Ltr) rfl (.tmp 22) (.tmp 23) 29 rfl w.heap.size 89 i0 _ 24 Tryz.underlying29 hi hz0 hz1 hz2 rfl (by decide) (.slice A3 zs.length c3) zs rfl ho'.out (.slice A2 ys.length c2) ys rfl w1.heap.size (HU.out.on lr) (by unfold maxLen; omega) (by omega) lr.size ?_; intro v' w2 ho2 hg2 _)
        have l2 : Below w.heap.size w w2 := lr.trans (below_append ho'.out hg2 lr.size)
        have HLE : Hid ((zs ++ ys).length ≤ 60) := by show _ ≤ _; rw [List.length_append]; omega
        go_wp2
        go_roundw
        case rel => exact ⟨k + 1, by omega, by go_num, l2, by rw [HS.out]; exact ho2, by rw [HS.out]; exact HLE.out⟩
        case measure => simp [intOf]; omega
    · have HE := Lib.hid (show k = xss.length by omega)
      rw [HE.out, List.take_length] at ho
      clear hf60
      obtain ⟨fl, hfl⟩ : ∃ fl, xss.flatten = fl := ⟨_, rfl⟩
      rw [hfl] at ho
      have HFL := Lib.hid hfl; clear hfl
      have HO := Lib.hid ho
      obtain ⟨A3, m3, c3, rfl, hm3, _, _, _⟩ := ho.rd
      subst hm3
      clear ho
      go_wp2_with fail
      refine (impl_BatchValid _ fl _ HO.out.rd).mono ?_
      rintro e w2 ⟨rfl, b2⟩
      have l2 := later_trans lr b2
      have HO2 := Lib.hid (HO.out.below b2)
      cases hx : okB fl
      · have HF : Hid (collectOk xss = false) := by show _ = _; rw [HQ.out, HFL.out, hx]; simp
        clear hx
        go_wp2_with fail
        go_ret2
        exact ⟨_, ret_tup (by rw [HF.out] <;> rfl), HNO.out HF.out _, l2⟩
      · have HF : Hid (collectOk xss = true) := by show _ = _; rw [HQ.out, HFL.out, hx, decide_eq_true H60.out]; rfl
        clear hx
        go_wp2_with fail
        go_ret2
        exact ⟨_, ret_tup (by rw [HF.out] <;> rfl), by rw [collected_yes HF.out, HFL.out]; exact HO2.out, l2⟩

end Go.Proofs.YtpinkbodbedajaaGreatDoor

namespace Go.Proofs.YtpinkbodbedajaaGreatDoor
open Go.RowKit

def rpOk (p : Pln) (xs : List Ltr) : Bool := planOk p && okB xs
def rpRound (p : Pln) (xs : List Ltr) : List Ltr := if rpOk p xs then passesN p 0 p.passes.toNat xs else []
def rpRest (p : Pln) (xs : List Ltr) : List Ltr := if rpOk p xs then restOf (fun x => binI p x.code 0) xs else []
theorem isLL_nil {α : Type} [El α] (T1 T2 base : Nat) (w : World) : isLL (α := α) T1 T2 base w (.slice none 0 0) [] [] :=
  ⟨own.nil_ _ _ _, rfl, fun k h => absurd h (Nat.not_lt_zero k), fun j k h => absurd h (Nat.not_lt_zero j), fun k h => absurd h (Nat.not_lt_zero k)⟩
theorem okB_len' {xs : List Ltr} (h : okB xs = true) : xs.length ≤ 60 := (okB_iff.1 h).1


set_option maxRecDepth 100000 in
set_option maxHeartbeats 800000 in
theorem impl_RunPlan (v vb : Value) (p : Pln) (xs : List Ltr) (w : World) (hv : rdP w w.heap.size v p) (hb : rd w w.heap.size vb xs) :
    Calls Tryz.prog 34 #[v, vb] w fun e w' => ∃ vL vO, e = .returned (.tuple #[vL, vO, .bool (rpOk p xs)]) ∧ own 89 w.heap.size w' vL (rpRound p xs) ∧ own 89 w.heap.size w' vO (rpRest p xs) ∧ apart vL vO ∧ Below w.heap.size w w' := by
  obtain ⟨A0, c0, e0⟩ := openP hv
  obtain ⟨w0, hw0⟩ : ∃ w0, w0 = w.alloc (Obj.cells #[.int .i64 p.bins, .int .i64 p.passes, .slice A0 p.order.length c0] 25) := ⟨_, rfl⟩
  have q0 := box_cells hw0 0 (.int .i64 p.bins) rfl
  have q1 := box_cells hw0 1 (.int .i64 p.passes) rfl
  have q2 := box_cells hw0 2 (.slice A0 p.order.length c0) rfl
  have HT := Lib.hid (box_later hw0).1
  have HP := Lib.hid (hv.on HT.out)
  have HB := Lib.hid (hb.on HT.out)
  subst e0
  have HW0 := Lib.hid hw0; clear hw0 hv hb
  have l0 := Below.refl w0.heap.size w0
  have hwlt : w.heap.size ≤ w0.heap.size := HT.out.size
  have HNO : Hid (∀ h : rpOk p xs = false, ∀ W : World, own 89 w.heap.size W (.slice none 0 0) (rpRound p xs) ∧ own 89 w.heap.size W (.slice none 0 0) (rpRest p xs)) := fun h W => by
    unfold rpRound rpRest; rw [h]; exact ⟨own.nil_ _ _ _, own.nil_ _ _ _⟩
  have HQ : Hid (rpOk p xs = (planOk p && okB xs)) := rfl
  go_enter Tryz.func34, Tryz.ntmps34
  go_wp2_with fail
  rw [← HW0.out]
  refine (impl_PlanValid _ p _ HP.out).mono ?_
  rintro e w1 ⟨rfl, b1⟩
  have l1 := later_trans l0 b1
  cases h1 : planOk p
  · have HF : Hid (rpOk p xs = false) := by show _ = _; rw [HQ.out, h1]; rfl
    clear h1
    go_wp2_with fail
    go_ret3
    exact ⟨_, _, ret_tup (by rw [HF.out] <;> rfl), (HNO.out HF.out _).1, (HNO.out HF.out _).2, .inl rfl, later_trans HT.out l1⟩
  obtain ⟨g1, g2, g3, g4, g5⟩ := planOk_bins h1
  have H1 := Lib.hid h1; clear h1
  go_wp2_with fail
  refine (impl_BatchValid _ xs _ (HB.out.on l1)).mono ?_
  rintro e w2 ⟨rfl, b2⟩
  have l2 := later_trans l1 b2
  cases h2 : okB xs
  · have HF : Hid (rpOk p xs = false) := by show _ = _; rw [HQ.out, h2, Bool.and_false]
    clear h2
    go_wp2_with fail
    go_ret3
    exact ⟨_, _, ret_tup (by rw [HF.out] <;> rfl), (HNO.out HF.out _).1, (HNO.out HF.out _).2, .inl rfl, later_trans HT.out l2⟩
  have hxl := okB_len' h2
  have HF : Hid (rpOk p xs = true) := by show _ = _; rw [HQ.out, h2, H1.out]; rfl
  clear h2
  obtain ⟨M, hM⟩ := Int.eq_ofNat_of_zero_le (show 0 ≤ p.passes by omega)
  have HMM := Lib.hid hM; clear hM
  have hm1 : 1 ≤ M ∧ M ≤ 4 := by have := HMM.out; omega
  have HY : Hid (rpRound p xs = passesN p 0 M xs ∧ rpRest p xs = outN p 0 M xs) := by
    unfold rpRound rpRest; rw [HF.out, HMM.out, Int.toNat_natCast]
    refine ⟨rfl, ?_⟩
    obtain ⟨M', rfl⟩ : ∃ M', M = M' + 1 := ⟨M - 1, by omega⟩
    rw [outN_first g1]; rfl
  have HD := Lib.hid (fun W (hW : Below w0.heap.size w0 W) => impl_doPasses _ _ p xs 0 M W (HP.out.on hW) (HB.out.on hW) g1 g2 hm1.2 (Nat.zero_le _) (by omega) (by omega))
  have HD2 : Hid (∀ W, Below w0.heap.size w0 W → Calls Tryz.prog 93 #[.agg #[.int .i64 p.bins, .int .i64 p.passes, .slice A0 p.order.length c0], vb, .int .i64 0, .int .i64 p.passes] W fun e w' => ∃ vL vO, e = .returned (.tuple #[vL, vO]) ∧ own 89 W.heap.size w' vL (passesN p 0 M xs) ∧ own 89 W.heap.size w' vO (outN p 0 M xs) ∧ apart vL vO ∧ Below W.heap.size W w') := fun W hW => by
    have h := HD.out W hW
    rw [← HMM.out] at h
    exact h
  clear HD
  go_wp2_with fail
  refine (HD2.out _ l2).mono ?_
  rintro e w3 ⟨vL, vO, rfl, hL, hO, hA, b3⟩
  have l3 := later_trans l2 b3
  have HL := Lib.hid hL; have HO := Lib.hid hO; have HA := Lib.hid hA
  clear hL hO hA
  go_wp2_with fail
  go_ret3
  exact ⟨_, _, ret_tup (by rw [HF.out] <;> rfl), by rw [HY.out.1]; exact HL.out.base_ (Nat.le_trans hwlt l2.size), by rw [HY.out.2]; exact HO.out.base_ (Nat.le_trans hwlt l2.size), HA.out, later_trans HT.out l3⟩


end Go.Proofs.YtpinkbodbedajaaGreatDoor

namespace Go.Proofs.YtpinkbodbedajaaGreatDoor
open Go.RowKit


end Go.Proofs.YtpinkbodbedajaaGreatDoor

namespace Go.Proofs.YtpinkbodbedajaaGreatDoor
open Go.RowKit


end Go.Proofs.YtpinkbodbedajaaGreatDoor

namespace Go.Proofs.YtpinkbodbedajaaGreatDoor
open Go.RowKit




theorem Tryz.infoStr : (Tryz.prog.info? 9).map (fun i => (i.zero, i.size, i.bytes)) = some (some (.string ⟨#[]⟩), 1, 16) := by kernel_rfl





end Go.Proofs.YtpinkbodbedajaaGreatDoor

namespace Go.Proofs.YtpinkbodbedajaaGreatDoor
open Go.RowKit

/-! plans -/


end Go.Proofs.YtpinkbodbedajaaGreatDoor

namespace Go.Proofs.YtpinkbodbedajaaGreatDoor
open Go.RowKit



end Go.Proofs.YtpinkbodbedajaaGreatDoor

namespace Go.Proofs.YtpinkbodbedajaaGreatDoor
open Go.RowKit


/-! Frames of what marks: only blocks from lo on, before hi, turn. -/
structure OutI (lo hi : Nat) (w w' : World) : Prop where
  os : w'.os = w.os
  tape : w'.tape = w.tape
  output : w'.output = w.output
  size : w.heap.size ≤ w'.heap.size
  block : ∀ k, k < w.heap.size → k < lo ∨ hi ≤ k → w'.heap[k]? = w.heap[k]?
theorem OutI.refl (lo hi : Nat) (w : World) : OutI lo hi w w := ⟨rfl, rfl, rfl, Nat.le_refl _, fun _ _ _ => rfl⟩
theorem OutI.trans {lo hi : Nat} {a b c : World} (h : OutI lo hi a b) (k : OutI lo hi b c) : OutI lo hi a c :=
  ⟨k.os.trans h.os, k.tape.trans h.tape, k.output.trans h.output, Nat.le_trans h.size k.size, fun i hi hne => (k.block i (Nat.lt_of_lt_of_le hi h.size) hne).trans (h.block i hi hne)⟩
theorem OutI.of_below {lo hi : Nat} {w w' : World} (h : Below w.heap.size w w') : OutI lo hi w w' := ⟨h.os, h.tape, h.output, h.size, fun k hk _ => h.block k hk⟩
theorem OutI.later {lo hi : Nat} {a w w' : World} (h : OutI lo hi w w') (hb : Below a.heap.size a w) (hlo : a.heap.size ≤ lo) : Below a.heap.size a w' :=
  ⟨h.os.trans hb.os, h.tape.trans hb.tape, h.output.trans hb.output, Nat.le_trans hb.size h.size, fun k hk => (h.block k (Nat.lt_of_lt_of_le hk hb.size) (.inl (by omega))).trans (hb.block k hk)⟩
theorem own.keepBlk {α : Type} [Flat α] {T base : Nat} {w w' : World} {v : Value} {xs : List α} (h : own T base w v xs) (hk : ∀ k, v.ownBlock = some k → w'.heap[k]? = w.heap[k]?) : own T base w' v xs := by
  obtain ⟨css, ⟨h1, h2⟩, hl, he⟩ := h
  refine ⟨css, ⟨h1, ?_⟩, hl, fun k a b => Flat.free (he k a b)⟩
  rcases h2 with h2 | ⟨g, cap, cur, hv, hg, hh, r⟩
  · exact .inl h2
  · exact .inr ⟨g, cap, cur, hv, hg, by rw [hk g (by rw [hv]; rfl)]; exact hh, r⟩
/-- A row of the call's own, in blocks before hi. -/
def seg {α : Type} [El α] (T lo hi : Nat) (w : World) (v : Value) (xs : List α) : Prop := own T lo w v xs ∧ ∀ k, v.ownBlock = some k → k < hi
theorem seg.of {α : Type} [El α] {T lo : Nat} {w : World} {v : Value} {xs : List α} (h : own T lo w v xs) : seg T lo w.heap.size w v xs := ⟨h, fun k hk => (h.blk k hk).2⟩
theorem seg.below {α : Type} [El α] {T lo hi : Nat} {w w' : World} {v : Value} {xs : List α} (h : seg T lo hi w v xs) (hb : Below w.heap.size w w') : seg T lo hi w' v xs := ⟨h.1.below hb, h.2⟩
theorem seg.out {α : Type} [Flat α] {T lo hi a b : Nat} {w w' : World} {v : Value} {xs : List α} (h : seg T lo hi w v xs) (ho : OutI a b w w') (hd : hi ≤ a ∨ b ≤ lo) : seg T lo hi w' v xs :=
  ⟨h.1.keepBlk fun k hk => ho.block k (h.1.blk k hk).2 (by have h1 := (h.1.blk k hk).1; have h2 := h.2 k hk; omega), h.2⟩
theorem seg.rd {α : Type} [El α] {T lo hi : Nat} {w : World} {v : Value} {xs : List α} (h : seg T lo hi w v xs) : rd w w.heap.size v xs := h.1.rd
def segP (T lo hi : Nat) (w : World) (v : Value) (p : Pln) : Prop := ∃ vo, v = .agg #[.int .i64 p.bins, .int .i64 p.passes, vo] ∧ isI64 p.bins ∧ isI64 p.passes ∧ seg T lo hi w vo p.order
theorem segP.of {T lo : Nat} {w : World} {v : Value} {p : Pln} (h : ownP T lo w v p) : segP T lo w.heap.size w v p := by
  obtain ⟨vo, h1, h2, h3, h4⟩ := h
  exact ⟨vo, h1, h2, h3, seg.of h4⟩
theorem segP.below {T lo hi : Nat} {w w' : World} {v : Value} {p : Pln} (h : segP T lo hi w v p) (hb : Below w.heap.size w w') : segP T lo hi w' v p := by
  obtain ⟨vo, h1, h2, h3, h4⟩ := h
  exact ⟨vo, h1, h2, h3, h4.below hb⟩
theorem segP.out {T lo hi a b : Nat} {w w' : World} {v : Value} {p : Pln} (h : segP T lo hi w v p) (ho : OutI a b w w') (hd : hi ≤ a ∨ b ≤ lo) : segP T lo hi w' v p := by
  obtain ⟨vo, h1, h2, h3, h4⟩ := h
  exact ⟨vo, h1, h2, h3, h4.out ho hd⟩
theorem segP.rd {T lo hi : Nat} {w : World} {v : Value} {p : Pln} (h : segP T lo hi w v p) : rdP w w.heap.size v p := by
  obtain ⟨vo, h1, h2, h3, h4⟩ := h
  exact ⟨vo, h1, h2, h3, h4.rd⟩



end Go.Proofs.YtpinkbodbedajaaGreatDoor

namespace Go.Proofs.YtpinkbodbedajaaGreatDoor
open Go.RowKit

/-! ### Forwarding -/
/-! ### Holding -/
/-! ### The report -/
structure Rpt where
  round : List Ltr
  strange : List Ltr
  held : List Ltr
  stuck : List Ltr
def rdR (w : World) (B : Nat) (v : Value) (r : Rpt) : Prop :=
  ∃ v0 v1 v2 v3, v = .agg #[v0, v1, v2, v3] ∧ rd w B v0 r.round ∧ rd w B v1 r.strange ∧ rd w B v2 r.held ∧ rd w B v3 r.stuck
theorem rdR.below {w w' : World} {B : Nat} {v : Value} {r : Rpt} (h : rdR w B v r) (hb : Below B w w') : rdR w' B v r := by
  obtain ⟨v0, v1, v2, v3, h1, h2, h3, h4, h5⟩ := h
  exact ⟨v0, v1, v2, v3, h1, h2.below hb, h3.below hb, h4.below hb, h5.below hb⟩
theorem rdR.more {w : World} {B B' : Nat} {v : Value} {r : Rpt} (h : rdR w B v r) (hB : B ≤ B') : rdR w B' v r := by
  obtain ⟨v0, v1, v2, v3, h1, h2, h3, h4, h5⟩ := h
  exact ⟨v0, v1, v2, v3, h1, h2.more hB, h3.more hB, h4.more hB, h5.more hB⟩
theorem rdR.on {w w' : World} {v : Value} {r : Rpt} (h : rdR w w.heap.size v r) (hb : Below w.heap.size w w') : rdR w' w'.heap.size v r := (h.below hb).more hb.size
/-- Four rows of the call's own, each apart from the others. -/
def ownR (T base : Nat) (w : World) (v : Value) (r : Rpt) : Prop :=
  ∃ v0 v1 v2 v3, v = .agg #[v0, v1, v2, v3] ∧ own T base w v0 r.round ∧ own T base w v1 r.strange ∧ own T base w v2 r.held ∧ own T base w v3 r.stuck ∧ (apart v0 v1 ∧ apart v0 v2 ∧ apart v0 v3 ∧ apart v1 v2 ∧ apart v1 v3 ∧ apart v2 v3)
theorem ownR.rd {T base : Nat} {w : World} {v : Value} {r : Rpt} (h : ownR T base w v r) : rdR w w.heap.size v r := by
  obtain ⟨v0, v1, v2, v3, h1, h2, h3, h4, h5, _⟩ := h
  exact ⟨v0, v1, v2, v3, h1, h2.rd, h3.rd, h4.rd, h5.rd⟩
theorem ownR.below {T base : Nat} {w w' : World} {v : Value} {r : Rpt} (h : ownR T base w v r) (hb : Below w.heap.size w w') : ownR T base w' v r := by
  obtain ⟨v0, v1, v2, v3, h1, h2, h3, h4, h5, h6⟩ := h
  exact ⟨v0, v1, v2, v3, h1, h2.below hb, h3.below hb, h4.below hb, h5.below hb, h6⟩
theorem ownR.none_ (T base : Nat) (w : World) : ownR T base w (.agg #[.slice none 0 0, .slice none 0 0, .slice none 0 0, .slice none 0 0]) ⟨[], [], [], []⟩ :=
  ⟨_, _, _, _, rfl, own.nil_ _ _ _, own.nil_ _ _ _, own.nil_ _ _ _, own.nil_ _ _ _, .inl rfl, .inl rfl, .inl rfl, .inl rfl, .inl rfl, .inl rfl⟩
/-- The same, in blocks before hi. -/
def segR (T lo hi : Nat) (w : World) (v : Value) (r : Rpt) : Prop :=
  ∃ v0 v1 v2 v3, v = .agg #[v0, v1, v2, v3] ∧ seg T lo hi w v0 r.round ∧ seg T lo hi w v1 r.strange ∧ seg T lo hi w v2 r.held ∧ seg T lo hi w v3 r.stuck ∧ (apart v0 v1 ∧ apart v0 v2 ∧ apart v0 v3 ∧ apart v1 v2 ∧ apart v1 v3 ∧ apart v2 v3)
theorem segR.of {T lo : Nat} {w : World} {v : Value} {r : Rpt} (h : ownR T lo w v r) : segR T lo w.heap.size w v r := by
  obtain ⟨v0, v1, v2, v3, h1, h2, h3, h4, h5, h6⟩ := h
  exact ⟨v0, v1, v2, v3, h1, seg.of h2, seg.of h3, seg.of h4, seg.of h5, h6⟩
theorem segR.below {T lo hi : Nat} {w w' : World} {v : Value} {r : Rpt} (h : segR T lo hi w v r) (hb : Below w.heap.size w w') : segR T lo hi w' v r := by
  obtain ⟨v0, v1, v2, v3, h1, h2, h3, h4, h5, h6⟩ := h
  exact ⟨v0, v1, v2, v3, h1, h2.below hb, h3.below hb, h4.below hb, h5.below hb, h6⟩
theorem segR.out {T lo hi a b : Nat} {w w' : World} {v : Value} {r : Rpt} (h : segR T lo hi w v r) (ho : OutI a b w w') (hd : hi ≤ a ∨ b ≤ lo) : segR T lo hi w' v r := by
  obtain ⟨v0, v1, v2, v3, h1, h2, h3, h4, h5, h6⟩ := h
  exact ⟨v0, v1, v2, v3, h1, h2.out ho hd, h3.out ho hd, h4.out ho hd, h5.out ho hd, h6⟩
theorem segR.rd {T lo hi : Nat} {w : World} {v : Value} {r : Rpt} (h : segR T lo hi w v r) : rdR w w.heap.size v r := by
  obtain ⟨v0, v1, v2, v3, h1, h2, h3, h4, h5, _⟩ := h
  exact ⟨v0, v1, v2, v3, h1, h2.rd, h3.rd, h4.rd, h5.rd⟩

end Go.Proofs.YtpinkbodbedajaaGreatDoor

namespace Go.Proofs.YtpinkbodbedajaaGreatDoor
open Go.RowKit


end Go.Proofs.YtpinkbodbedajaaGreatDoor

namespace Go.Proofs.YtpinkbodbedajaaGreatDoor
open Go.RowKit

end Go.Proofs.YtpinkbodbedajaaGreatDoor

namespace Go.Proofs.YtpinkbodbedajaaGreatDoor
open Go.RowKit

end Go.Proofs.YtpinkbodbedajaaGreatDoor

namespace Go.Proofs.YtpinkbodbedajaaGreatDoor
open Go.RowKit

section
variable {P : Program} {fn : Func} {R : Ending → World → Prop} {a : Act} {w : World} {p u v r : Tmp} {ty : TypeId} {g : Nat} {t : TypeId} {cs : Array Value} {d : TypeDesc}
end

/-- A box of four cells. -/
structure box4 (g : Nat) (a b c d : Value) (w : World) : Prop where
  lt : g < w.heap.size
  c0 : w.cell? ⟨g, 0, none⟩ = some a
  c1 : w.cell? ⟨g, 1, none⟩ = some b
  c2 : w.cell? ⟨g, 2, none⟩ = some c
  c3 : w.cell? ⟨g, 3, none⟩ = some d
theorem box4.of {w u : World} {a b c d : Value} {T : TypeId} (h : u = w.alloc (Obj.cells #[a, b, c, d] T)) : box4 w.heap.size a b c d u :=
  ⟨(box_later h).2, box_cells h 0 a rfl u (Below.refl _ _), box_cells h 1 b rfl u (Below.refl _ _), box_cells h 2 c rfl u (Below.refl _ _), box_cells h 3 d rfl u (Below.refl _ _)⟩
theorem box4.below {g : Nat} {a b c d : Value} {w w' : World} (h : box4 g a b c d w) (hb : Below w.heap.size w w') : box4 g a b c d w' :=
  ⟨Nat.lt_of_lt_of_le h.lt hb.size, (hb.cell (p := ⟨g, 0, none⟩) h.lt).trans h.c0, (hb.cell (p := ⟨g, 1, none⟩) h.lt).trans h.c1, (hb.cell (p := ⟨g, 2, none⟩) h.lt).trans h.c2, (hb.cell (p := ⟨g, 3, none⟩) h.lt).trans h.c3⟩
theorem OutI.cell {lo hi g i : Nat} {w w' : World} (h : OutI lo hi w w') (hg : g < w.heap.size) (hd : g < lo ∨ hi ≤ g) : w'.cell? ⟨g, i, none⟩ = w.cell? ⟨g, i, none⟩ := by
  unfold World.cell?
  simp only [h.block g hg hd]
theorem box4.out {g lo hi : Nat} {a b c d : Value} {w w' : World} (h : box4 g a b c d w) (ho : OutI lo hi w w') (hd : g < lo ∨ hi ≤ g) : box4 g a b c d w' :=
  ⟨Nat.lt_of_lt_of_le h.lt ho.size, (ho.cell h.lt hd).trans h.c0, (ho.cell h.lt hd).trans h.c1, (ho.cell h.lt hd).trans h.c2, (ho.cell h.lt hd).trans h.c3⟩
theorem box4.grown {g : Nat} {a b c d : Value} {w w' : World} {row : Option Nat} (h : box4 g a b c d w) (hg : w.grownBy w' row) (hne : some g ≠ row) : box4 g a b c d w' :=
  ⟨Nat.lt_of_lt_of_le h.lt hg.size, (hg.cell_far ⟨g, 0, none⟩ h.lt hne).trans h.c0, (hg.cell_far ⟨g, 1, none⟩ h.lt hne).trans h.c1, (hg.cell_far ⟨g, 2, none⟩ h.lt hne).trans h.c2, (hg.cell_far ⟨g, 3, none⟩ h.lt hne).trans h.c3⟩

end Go.Proofs.YtpinkbodbedajaaGreatDoor

namespace Go.Proofs.YtpinkbodbedajaaGreatDoor
open Go.RowKit

set_option maxHeartbeats 800000 in
theorem spec_l2Collect (v : Value) (xss : List (List Ltr)) (w : World) (hv : rd w w.heap.size v xss) (hl : xss.flatten.length ≤ 1048576) :
    Calls Tryz.prog 96 #[v] w fun e w' => ∃ v', e = .returned v' ∧ own 89 w.heap.size w' v' xss.flatten ∧ Below w.heap.size w w' := by
  obtain ⟨A, n, c, rfl, hn, hc, hm, hr⟩ := hv
  subst hn
  unfold maxLen at hm
  have HR := Lib.hid hr; clear hr
  have HL := Lib.hid hl; clear hl
  obtain ⟨i0, hi, hz0, hz1, hz2⟩ := info_parts Tryz.infoLtr
  go_enter Tryz.func96, Tryz.ntmps96
  go_wp2
  have ho0 : own (α := Ltr) 89 w.heap.size (w.alloc (Obj.cells #[] 89)) (.slice (some ⟨w.heap.size, 0, none⟩) 0 0) [] := own.made0 w _ (Nat.le_refl _)
  have l0 : Below w.heap.size w (w.alloc (Obj.cells #[] 89)) := (Below.refl _ _).alloc (Nat.le_refl _) _
  generalize (w.alloc (Obj.cells #[] 89)) = w0 at *
  go_loopw [3, 4] (fun t i wr => ∃ k : Nat, k ≤ xss.length ∧ i = .int .i64 k ∧ Below w.heap.size w wr ∧ own 89 w.heap.size wr t (xss.take k).flatten) (fun _ i _ => xss.length - (intOf i).toNat)
  case atStart => exact ⟨0, Nat.zero_le _, rfl, l0, ho0⟩
  case round =>
    obtain ⟨k, hk, rfl, lr, ho⟩ := hrel
    obtain ⟨w1, rfl⟩ : ∃ w1 : World, w1 = wr := ⟨_, rfl⟩
    clear l0 ho0
    by_cases hlt : k < xss.length
    · obtain ⟨b, o, u, rfl, hb, hu, c1⟩ := HR.out.rowU k hlt
      have HS : Hid ((xss.take (k + 1)).flatten = (xss.take k).flatten ++ xss[k]) := by show _ = _; rw [List.take_succ_eq_append_getElem hlt, List.flatten_append]; simp
      have HLB : Hid ((xss.take k).flatten.length + xss[k].length ≤ 1048576) := by
        show _ ≤ _
        rw [← List.length_append, ← HS.out]
        have : (xss.take (k + 1)).flatten.length ≤ xss.flatten.length := by
          conv => rhs; rw [← List.take_append_drop (k + 1) xss, List.flatten_append, List.length_append]
          omega
        have := HL.out
        omega
      generalize xss[k] = ys at *
      obtain ⟨A2, m2, c2, rfl, hm2, hc2, hmm2, hr2⟩ := hu
      have hu : rd w w.heap.size (.slice A2 m2 c2) ys := ⟨A2, m2, c2, rfl, hm2, hc2, hmm2, hr2⟩
      clear hm2 hc2 hmm2 hr2
      have HU := Lib.hid hu; clear hu
      generalize hys : (xss.take k).flatten = zs at *
      have HYS := Lib.hid hys; clear hys
      have ho' := Lib.hid ho
      obtain ⟨A3, m3, c3, rfl, hm3, _, _, _⟩ := ho.rd
      subst hm3
      clear ho
      have hbd := HLB.out
      go_wp2_with (at_builtin; refine wpList_appendAll (α := Ltr) rfl (.tmp 12) (.tmp 16) 29 rfl w.heap.size 89 i0 _ 24 Tryz.underlying29 hi hz0 hz1 hz2 rfl (by decide) (.slice A3 zs.length c3) zs rfl ho'.out (.slice A2 m2 c2) ys rfl w1.heap.size (HU.out.on lr) (by have := HLB.out; unfold maxLen; omega) (by have := HLB.out; omega) lr.size ?_; intro v' w2 ho2 hg2 _)
      have l2 : Below w.heap.size w w2 := lr.trans (below_append ho'.out hg2 lr.size)
      go_wp2
      go_roundw
      case rel => exact ⟨k + 1, by omega, by go_num, l2, by rw [HS.out]; exact ho2⟩
      case measure => simp [intOf]; omega
    · have HE := Lib.hid (show k = xss.length by omega)
      go_wp2
      go_ret
      exact ⟨_, rfl, by rw [HE.out, List.take_length] at ho; exact ho, lr⟩

set_option maxRecDepth 100000 in
set_option maxHeartbeats 3200000 in
theorem spec_l3Pass (v vb : Value) (p : Pln) (xs : List Ltr) (k0 : Nat) (w : World) (hv : rdP w w.heap.size v p) (hb : rd w w.heap.size vb xs)
    (h1 : 2 ≤ p.bins) (h2 : p.bins ≤ 16) (hk0 : k0 ≤ 4) (hord : p.order.length ≤ 1000) (hl : xs.length ≤ 1000) :
    Calls Tryz.prog 95 #[v, vb, .int .i64 k0] w fun e w' => ∃ vB vO vs, e = .returned (.tuple #[vB, vO]) ∧ isLL 29 89 w.heap.size w' vB (binsOf (fun x => binI p x.code k0) p.bins.toNat xs) vs ∧ own 89 w.heap.size w' vO (restOf (fun x => binI p x.code k0) xs) ∧ farLL vO vB vs ∧ Below w.heap.size w w' := by
  obtain ⟨A0, c0, e0⟩ := openP hv
  obtain ⟨w0, hw0⟩ : ∃ w0, w0 = w.alloc (Obj.cells #[.int .i64 p.bins, .int .i64 p.passes, .slice A0 p.order.length c0] 25) := ⟨_, rfl⟩
  have q0 := box_cells hw0 0 (.int .i64 p.bins) rfl
  have q1 := box_cells hw0 1 (.int .i64 p.passes) rfl
  have q2 := box_cells hw0 2 (.slice A0 p.order.length c0) rfl
  have HT := Lib.hid (box_later hw0).1
  have HP := Lib.hid (hv.on HT.out)
  have hb' := hb.on HT.out
  subst e0
  obtain ⟨A, n, cp, rfl, hn, hc, hmx, hr⟩ := hb'
  subst hn
  unfold maxLen at hmx
  have HR := Lib.hid hr
  have hz0 : w0.heap.size = w.heap.size + 1 := by subst hw0; simp
  have hwlt : w.heap.size < w0.heap.size := by omega
  have HZ0 := Lib.hid hz0
  have HW0 := Lib.hid hw0; clear hw0 hv hb hr hz0
  have l0 := Below.refl w0.heap.size w0
  obtain ⟨N, hN⟩ := Int.eq_ofNat_of_zero_le (show 0 ≤ p.bins by omega)
  have hNN : p.bins.toNat = N := by omega
  have HNN := Lib.hid hNN; clear hNN
  have hN16 : N ≤ 16 := by omega
  obtain ⟨i0, hi, hzz, hz1, hz2⟩ := info_parts Tryz.infoRow
  have hmk := make_row (P := Tryz.prog) 37 29 i0 _ Tryz.underlying37 hi hzz N (by rw [hz2]; omega) (by omega)
  rw [← hN] at hmk
  have HN := Lib.hid hN; clear hN
  obtain ⟨i1, ji, jz0, jz1, jz2⟩ := info_parts Tryz.infoLtr
  have HF : Hid (∀ x : Ltr, -1 ≤ binI p x.code k0 ∧ binI p x.code k0 < N) := fun x => by
    have := binI_range p x.code k0 h1
    have := HN.out
    omega
  obtain ⟨f, HFF⟩ : ∃ f : Ltr → Int, Hid (f = fun x => binI p x.code k0) := ⟨_, rfl⟩
  rw [← HFF.out]
  have HFX : Hid (∀ x, f x = binI p x.code k0) := fun x => by rw [HFF.out]
  rw [HNN.out]
  go_enter Tryz.func95, Tryz.ntmps95
  go_wp2
  rw [← HW0.out]
  obtain ⟨vs0, hoz⟩ := made_nil_row (α := Ltr) w0 29 89 N w0.heap.size (Nat.le_refl _) (by unfold maxLen; omega)
  have lz : Below w0.heap.size w0 (w0.alloc (Obj.cells (madeCells #[.slice none 0 0] N) 29)) := later_alloc l0 _
  have hzz2 : (w0.alloc (Obj.cells (madeCells #[.slice none 0 0] N) 29)).heap.size = w.heap.size + 1 + 1 := by simp [HZ0.out]
  generalize (w0.alloc (Obj.cells (madeCells #[.slice none 0 0] N) 29)) = wz at *
  have hG0 : w0.heap.size ≤ w.heap.size + 1 := Nat.le_of_eq HZ0.out
  have hoz2 := hoz
  rw [show (Value.slice (some ⟨w0.heap.size, 0, none⟩) N N) = (Value.slice (some ⟨w.heap.size + 1, 0, none⟩) N N) by rw [HZ0.out]] at hoz2
  clear hoz
  have hoe : own (α := Ltr) 89 w0.heap.size (wz.alloc (Obj.cells #[] 89)) (.slice (some ⟨wz.heap.size, 0, none⟩) 0 0) [] := own.made0 wz _ lz.size
  rw [hzz2] at hoe
  have hfe : farLL (.slice (some ⟨w.heap.size + 1 + 1, 0, none⟩) 0 0) (.slice (some ⟨w.heap.size + 1, 0, none⟩) N N) vs0 := by
    refine ⟨.inr (by show some _ ≠ some _; simp), fun k hk => .inr fun e => ?_⟩
    obtain ⟨z1, z2, z3, _⟩ := hoz2
    have hh : w.heap.size + 1 + 1 < wz.heap.size := ((z3 k hk (by omega)).blk _ e.symm).2
    omega
  have HFE := Lib.hid hfe
  have HOE := Lib.hid hoe
  have HOZ := Lib.hid (hoz2.below ((Below.refl _ _).alloc (Nat.le_refl _) (Obj.cells #[] 89)))
  have lz2 := later_alloc lz (Obj.cells #[] 89)
  clear hoz2 hoe hzz2 lz hfe
  generalize hgw : wz.alloc (Obj.cells #[] 89) = wy at *
  clear hgw
  generalize hG2 : w.heap.size + 1 + 1 = G2 at *
  generalize hG : w.heap.size + 1 = G at *
  have HGG := Lib.hid hG; have HGG2 := Lib.hid hG2; clear hG hG2 hmk
  go_loopw [9, 10] (fun t i wr => ∃ (k : Nat) (vs : List Value), k ≤ xs.length ∧ i = .int .i64 k ∧ Below w0.heap.size w0 wr ∧ isLL 29 89 w0.heap.size wr (.slice (some ⟨G, 0, none⟩) N N) (binsOf f N (xs.take k)) vs ∧ own 89 w0.heap.size wr t (restOf f (xs.take k)) ∧ Hid (farLL t (.slice (some ⟨G, 0, none⟩) N N) vs)) (fun _ i _ => xs.length - (intOf i).toNat)
  case atStart =>
    refine ⟨0, vs0, Nat.zero_le _, rfl, lz2, ?_, HOE.out, HFE.out⟩
    rw [List.take_zero, binsOf_nil]
    exact HOZ.out
  case round =>
    obtain ⟨k, vs, hk, rfl, lr, hB, hO, HFAR⟩ := hrel
    obtain ⟨w1, rfl⟩ : ∃ w1 : World, w1 = wr := ⟨_, rfl⟩
    have HB := Lib.hid hB; have HO := Lib.hid hO
    clear l0 lz2 HOZ hB HOE HFE
    obtain ⟨AO, mO, cO, rfl, hmO, _, _, _⟩ := hO.rd
    subst hmO
    clear hO
    by_cases hlt : k < xs.length
    · obtain ⟨b, o, rfl, hb, ⟨hxi, hxc⟩, c1, c2⟩ := HR.out.ltrU k hlt
      obtain ⟨x, hx⟩ : ∃ x, x = xs[k] := ⟨_, rfl⟩
      have HX := Lib.hid hx
      rw [← hx] at c1 c2 hxi hxc
      clear hx
      have hki : (k : Int) < (xs.length : Int) := by omega
      have ld := later_drew lr
      have HC : Hid (∀ W, Below w0.heap.size w0 W → Calls Tryz.prog 162 #[.agg #[.int .i64 p.bins, .int .i64 p.passes, .slice A0 p.order.length c0], .string x.code, .int .i64 k0] W fun e w' => e = .returned (.int .i64 (f x)) ∧ Below W.heap.size W w') := fun W hW => by
        rw [HFX.out]
        exact spec_l3Bin _ p x.code k0 W (HP.out.on hW) h1 h2 hk0 hord
      go_wp2
      go_region_held3 (fun W => Below w0.heap.size w0 W) (first | exact ld | exact later_trans ld b3) (first | (go_at_call 162; refine (HC.out _ ld).mono ?_; rintro e w3 ⟨rfl, b3⟩))
      have lw3 := later_trans ld b3
      have B3 : Below w1.heap.size w1 w3 := later_trans ((Below.refl _ _).drew) b3
      obtain ⟨fx1, fx2⟩ := HF.out x
      rw [← HFX.out] at fx1 fx2
      have HFXK : Hid (f xs[k] = f x) := by show _ = _; rw [← HX.out]
      have hs3 : w0.heap.size ≤ w3.heap.size := lw3.size
      have HB3 := Lib.hid (HB.out.below B3); have HO3 := Lib.hid (HO.out.below B3)
      clear b3 ld B3
      have HZL : Hid ((restOf f (xs.take k)).length ≤ 1000) := by
        show _ ≤ _
        have := filter_len_le (fun x => decide (f x < 0)) xs k
        unfold restOf
        omega
      by_cases hneg : f x < 0
      · have HS1 := Lib.hid (binsOf_skip (f := f) (n := N) hlt (by rw [HFXK.out]; exact hneg))
        have HS2 := Lib.hid (restOf_step (f := f) hlt (by rw [HFXK.out]; exact hneg))
        have hzl := HZL.out
        go_wp2_with (at_builtin; refine wpList_append1' (α := Ltr) rfl (.tmp 32) (.tmp 37) 29 rfl w0.heap.size 89 i1 _ 24 Tryz.underlying29 ji jz0 jz1 jz2 rfl (by decide) (.slice AO (restOf f (xs.take k)).length cO) (restOf f (xs.take k)) x rfl (HO3.out.alloc _) ⟨w3.heap.size, 0, none⟩ 1 (Ltr.cells x) rfl ⟨⟨hxi, hxc⟩, rfl⟩ (news_at w3 _ (Ltr.cells x)) (by unfold maxLen; omega) (by omega) (by simp; omega) ?_; intro g cap w4 ho4 hg4 ha4 hl4)
        have HB4 := Lib.hid (farLL_grown (HB3.out.below ((Below.refl _ _).alloc (Nat.le_refl _) _)) HFAR.out hg4)
        have b4 : Below w0.heap.size w0 w4 := by
          refine (later_alloc lw3 (Obj.cells #[Value.int IntKind.i64 x.id, Value.string x.code] 89)).grown hg4 (by simp; omega) fun j hj => ?_
          exact (HO3.out.blk j hj).1
        have HFAR4 : Hid (farLL (.slice (some ⟨g, 0, none⟩) ((restOf f (xs.take k)).length + 1) cap) (.slice (some ⟨G, 0, none⟩) N N) vs) := farLL_app HB3.out HFAR.out ha4 (by simp)
        go_wp2
        go_roundw
        case rel => exact ⟨k + 1, vs, by omega, by go_num, b4, by rw [HS1.out]; exact HB4.out, by rw [HS2.out, ← HX.out]; exact ho4, HFAR4⟩
        case measure => simp [intOf]; omega
      · obtain ⟨d, hd⟩ := Int.eq_ofNat_of_zero_le (show 0 ≤ f x by omega)
        have hdN : d < N := by omega
        have HD := Lib.hid hd
        have HS2 := Lib.hid (restOf_skip (f := f) hlt (by rw [HFXK.out]; omega))
        have hlb : d < (binsOf f N (xs.take k)).length := by rw [binsOf_len]; exact hdN
        have HS1 := Lib.hid (binsOf_step (f := f) (n := N) (d := d) hlt (by rw [HFXK.out]; exact HD.out) hlb)
        obtain ⟨hlv, hov, hgv⟩ : ∃ hlv : d < vs.length, own 89 w0.heap.size w3 vs[d] (binsOf f N (xs.take k))[d] ∧ apart vs[d] (.slice (some ⟨G, 0, none⟩) N N) := by
          obtain ⟨z1, z2, z3, z4, z5⟩ := HB3.out
          exact ⟨by omega, z3 d (by omega) hlb, z5 d (by omega)⟩
        have hcG : w3.cell? ⟨G, d, none⟩ = some vs[d] := own_cellv HB3.out.1 d hlv
        have hfG : w3.frozen? ⟨G, d, none⟩ = false := HB3.out.1.freeAt d
        have hzl : (binsOf f N (xs.take k))[d].length ≤ 1000 := by
          rw [binsOf_get]
          have := filter_len_le (fun x => f x == (d : Int)) xs k
          omega
        obtain ⟨zs, hzs⟩ : ∃ zs, zs = (binsOf f N (xs.take k))[d] := ⟨_, rfl⟩
        have HZS := Lib.hid hzs
        rw [← hzs] at hov hzl
        clear hzs
        obtain ⟨u, hu⟩ : ∃ u, u = vs[d] := ⟨_, rfl⟩
        have HU := Lib.hid hu
        rw [← hu] at hov hgv hcG
        clear hu
        obtain ⟨Au, mu, cu, rfl, hmu, _, _, _⟩ := hov.rd
        subst hmu
        have HOV := Lib.hid hov; clear hov
        have HGV := Lib.hid hgv; clear hgv
        rw [HD.out]
        have hdn : (d : Int) < (N : Int) := by omega
        have hd0 : ¬ ((d : Int) < 0) := by omega
        have hGs : some G ≠ (Value.slice Au zs.length cu).ownBlock := by
          have h := HGV.out
          unfold apart at h
          rcases h with h | h
          · rw [h]; simp
          · exact fun e => h e.symm
        have HGS := Lib.hid hGs; clear hGs
        have hGlt : G < w3.heap.size := (HB3.out.1.blk G rfl).2
        go_wp2
        go_region_law (first | ((refine step_append1 (α := Ltr) (by rfl) (.tmp 44) (.tmp 49) 29 (by rfl) w0.heap.size 89 i1 _ 24 Tryz.underlying29 ji jz0 jz1 jz2 rfl (by decide) (.slice Au zs.length cu) zs x (by rfl) ((HOV.out.alloc _).drew) ⟨w3.heap.size, 0, none⟩ 1 (Ltr.cells x) (by rfl) ⟨⟨hxi, hxc⟩, rfl⟩ (news_drew w3 _ (Ltr.cells x)) (by unfold maxLen; omega) (by omega) (by simp; omega) ?_; intro g cap w4 ho4 hg4 ha4 hl4; have hcG4 : w4.cell? ⟨G, d, none⟩ = some (.slice Au zs.length cu) := (hg4.cell_far ⟨G, d, none⟩ (by simp; omega) HGS.out).trans (by go_simp); have hfG4 : w4.frozen? ⟨G, d, none⟩ = false := (hg4.frozen_far ⟨G, d, none⟩ (by simp; omega) HGS.out).trans (by go_simp))))
        all_goals
          have hWD : Below w3.heap.size w3 (w3.alloc (Obj.cells #[Value.int IntKind.i64 x.id, Value.string x.code] 89)).drew := later_drew (later_alloc (Below.refl _ _) _)
          obtain ⟨p1, p2, p3⟩ := place_step HB3.out HO3.out HFAR.out hWD hlv hlb HU.out HZS.out ho4 hg4 ha4
          have p4 := place_later (G := G) (d := d) (g := g) (m := zs.length + 1) (cap := cap) (later_drew (later_alloc lw3 (Obj.cells #[Value.int IntKind.i64 x.id, Value.string x.code] 89))) hg4 (fun j hj => (HOV.out.blk j hj).1) hG0
          have P1 := Lib.hid p1; have P2 := Lib.hid p2; have P3 := Lib.hid p3
          clear p1 p2 p3 hWD
          go_wp2
          go_roundw
          case rel => exact ⟨k + 1, _, by omega, by go_num, p4, by rw [HS1.out, ← HX.out]; exact P1.out, by rw [HS2.out]; exact P2.out, P3.out⟩
          case measure => simp [intOf]; omega
    · have HE := Lib.hid (show k = xs.length by omega)
      go_wp2
      go_ret2
      have hB := HB.out
      have hO := HO.out
      have hF := HFAR.out
      rw [HE.out, List.take_length] at hB hO hF ⊢
      exact ⟨_, _, vs, rfl, hB.base_ (Nat.le_of_lt hwlt), hO.base_ (Nat.le_of_lt hwlt), hF, later_trans HT.out lr⟩

end Go.Proofs.YtpinkbodbedajaaGreatDoor

namespace Go.Proofs.YtpinkbodbedajaaGreatDoor
open Go.RowKit

set_option maxRecDepth 100000 in
set_option maxHeartbeats 1600000 in
theorem spec_RunPlan (v vb : Value) (p : Pln) (xs : List Ltr) (w : World) (hv : rdP w w.heap.size v p) (hb : rd w w.heap.size vb xs) :
    Calls Tryz.prog 35 #[v, vb] w fun e w' => ∃ vL vO, e = .returned (.tuple #[vL, vO, .bool (rpOk p xs)]) ∧ own 89 w.heap.size w' vL (rpRound p xs) ∧ own 89 w.heap.size w' vO (rpRest p xs) ∧ apart vL vO ∧ Below w.heap.size w w' := by
  obtain ⟨A0, c0, e0⟩ := openP hv
  obtain ⟨w0, hw0⟩ : ∃ w0, w0 = w.alloc (Obj.cells #[.int .i64 p.bins, .int .i64 p.passes, .slice A0 p.order.length c0] 25) := ⟨_, rfl⟩
  have q0 := box_cells hw0 0 (.int .i64 p.bins) rfl
  have q1 := box_cells hw0 1 (.int .i64 p.passes) rfl
  have q2 := box_cells hw0 2 (.slice A0 p.order.length c0) rfl
  have HT := Lib.hid (box_later hw0).1
  have HP := Lib.hid (hv.on HT.out)
  have HB := Lib.hid (hb.on HT.out)
  subst e0
  have HW0 := Lib.hid hw0; clear hw0 hv hb
  have l0 := Below.refl w0.heap.size w0
  have hwlt : w.heap.size ≤ w0.heap.size := HT.out.size
  have HQ : Hid (rpOk p xs = (planOk p && okB xs)) := rfl
  go_enter Tryz.func35, Tryz.ntmps35
  go_wp2_with fail
  rw [← HW0.out]
  refine (spec_l3Ready _ _ p xs _ HP.out HB.out).mono ?_
  rintro e w1 ⟨rfl, b1⟩
  have l1 := later_trans l0 b1
  cases h1 : (planOk p && okB xs)
  · have HF : Hid (rpOk p xs = false) := by show _ = _; rw [HQ.out, h1]
    clear h1
    have HE : Hid (rpRound p xs = [] ∧ rpRest p xs = []) := by unfold rpRound rpRest; rw [HF.out]; exact ⟨rfl, rfl⟩
    have o1 : own (α := Ltr) 89 w.heap.size (w1.alloc (.cells #[] 89)) (.slice (some ⟨w1.heap.size, 0, none⟩) 0 0) [] := own.made0 w1 _ (Nat.le_trans hwlt l1.size)
    have o2 : own (α := Ltr) 89 w.heap.size ((w1.alloc (.cells #[] 89)).alloc (.cells #[] 89)) (.slice (some ⟨(w1.alloc (.cells #[] 89)).heap.size, 0, none⟩) 0 0) [] := own.made0 _ _ (by simp; exact Nat.le_trans (Nat.le_trans hwlt l1.size) (Nat.le_succ _))
    have O1 := Lib.hid (o1.alloc (.cells #[] 89)); have O2 := Lib.hid o2
    clear o1 o2
    go_wp2_with fail
    go_ret3
    refine ⟨_, _, ret_tup (by rw [HF.out] <;> rfl), by rw [HE.out.1]; exact O1.out, by rw [HE.out.2]; simpa using O2.out, .inr (by show some _ ≠ some _; simp), later_trans HT.out (later_alloc (later_alloc l1 _) _)⟩
  have hh := h1
  rw [Bool.and_eq_true] at hh
  obtain ⟨g1, g2, g3, g4, g5⟩ := planOk_bins hh.1
  have hxl := okB_len' hh.2
  have HF : Hid (rpOk p xs = true) := by show _ = _; rw [HQ.out, h1]
  clear h1 hh
  obtain ⟨M, hM⟩ := Int.eq_ofNat_of_zero_le (show 0 ≤ p.passes by omega)
  have HMM := Lib.hid hM; clear hM
  have hm1 : 1 ≤ M ∧ M ≤ 4 := by have := HMM.out; omega
  have HY : Hid (rpRound p xs = passesN p 0 M xs ∧ rpRest p xs = restOf (fun x => binI p x.code 0) xs) := by
    unfold rpRound rpRest; rw [HF.out, HMM.out, Int.toNat_natCast]; exact ⟨rfl, rfl⟩
  go_wp2_with fail
  refine (spec_l3Pass _ _ p xs 0 _ (HP.out.on l1) (HB.out.on l1) g1 g2 (by omega) (by omega) (by omega)).mono ?_
  rintro e w2 ⟨vB, vO, vs, rfl, hB, hR, hF, b2⟩
  have l2 := later_trans l1 b2
  have HBB : Hid (ownLL 29 89 w0.heap.size w2 vB (binsOf (fun x => binI p x.code 0) p.bins.toNat (passesN p 0 0 xs))) := ⟨vs, hB.base_ l1.size⟩
  have HRR := Lib.hid (hR.base_ l1.size)
  clear hB hR hF b2
  go_wp2_with fail
  go_loopw [7, 9] (fun t i wr => ∃ j : Nat, j + 1 ≤ M ∧ i = .int .i64 ((j : Int) + 1) ∧ Below w0.heap.size w0 wr ∧ ownLL 29 89 w0.heap.size wr t (binsOf (fun x => binI p x.code j) p.bins.toNat (passesN p 0 j xs)) ∧ own 89 w0.heap.size wr vO (restOf (fun x => binI p x.code 0) xs)) (fun _ i _ => M - (intOf i).toNat)
  case atStart => exact ⟨0, hm1.1, by go_num, l2, HBB.out, HRR.out⟩
  case round =>
    obtain ⟨j, hj, rfl, lr, hB, hR⟩ := hrel
    obtain ⟨w3, rfl⟩ : ∃ w3 : World, w3 = wr := ⟨_, rfl⟩
    clear l2 HBB HRR l1 l0
    obtain ⟨A7, n7, c7, rfl, hn7, hc7, hm7, _⟩ := hB.rd
    clear hn7 hc7 hm7
    have HRd := Lib.hid hB.rd
    have HR := Lib.hid hR
    have hfl : (binsOf (fun x => binI p x.code j) p.bins.toNat (passesN p 0 j xs)).flatten.length ≤ 60 := Nat.le_trans (flatten_length_binsOf _) (Nat.le_trans (passesN_len p j 0 xs) hxl)
    have HS : Hid (passesN p 0 (j + 1) xs = (binsOf (fun x => binI p x.code j) p.bins.toNat (passesN p 0 j xs)).flatten) := by
      have := passesN_succ p j 0 xs
      rw [Nat.zero_add] at this
      exact this
    rw [← HS.out] at hfl
    clear hB hR
    have CJ : Hid (∀ W, Below w3.heap.size w3 W → Calls Tryz.prog 96 #[.slice A7 n7 c7] W fun e w' => ∃ v', e = .returned v' ∧ own 89 W.heap.size w' v' (passesN p 0 (j + 1) xs) ∧ Below W.heap.size W w') := fun W hW => by
      have h := spec_l2Collect _ _ W (HRd.out.on hW) (by rw [← HS.out]; omega)
      rw [← HS.out] at h
      exact h
    generalize hys : passesN p 0 (j + 1) xs = ys at *
    have HYS := Lib.hid hys; clear hys
    by_cases hlt : j + 1 < M
    · have hlt' : (j : Int) + 1 < p.passes := by have := HMM.out; omega
      have CD : Hid (∀ W, Below w0.heap.size w0 W → ∀ vf, rd W W.heap.size vf ys → Calls Tryz.prog 95 #[.agg #[.int .i64 p.bins, .int .i64 p.passes, .slice A0 p.order.length c0], vf, .int .i64 ((j : Int) + 1)] W fun e w' => ∃ vB vO vs, e = .returned (.tuple #[vB, vO]) ∧ isLL 29 89 W.heap.size w' vB (binsOf (fun x => binI p x.code (j + 1)) p.bins.toNat ys) vs ∧ own 89 W.heap.size w' vO (restOf (fun x => binI p x.code (j + 1)) ys) ∧ farLL vO vB vs ∧ Below W.heap.size W w') := fun W hW vf hf =>
        spec_l3Pass _ vf p ys (j + 1) W (HP.out.on hW) hf g1 g2 (by omega) (by omega) (by omega)
      have ld := later_drew lr
      have hw1 : IntKind.i64.wrap ((j : Int) + 1) = (j : Int) + 1 := IntWalk.i64_in _ (by omega)
      have l3d : Below w3.heap.size w3 w3.drew := later_drew (Below.refl _ _)
      go_wp2
      go_region_held3 (fun W => Below w0.heap.size w0 W) (first | exact ld | exact later_trans ld b4 | exact later_trans (later_trans ld b4) b5) (first | (go_at_call 96; refine (CJ.out _ l3d).mono ?_; rintro e w4 ⟨vf, rfl, o4, b4⟩) | (go_at_call 95; refine (CD.out _ (later_trans ld b4) _ o4.rd).mono ?_; rintro e w5 ⟨vB5, vO5, vs5, rfl, hB5, hO5, hF5, b5⟩))
      have l5 := later_trans (later_trans ld b4) b5
      have HB5 : Hid (ownLL 29 89 w0.heap.size w5 vB5 (binsOf (fun x => binI p x.code (j + 1)) p.bins.toNat (passesN p 0 (j + 1) xs))) := by
        rw [HYS.out]; exact ⟨vs5, hB5.base_ (later_trans ld b4).size⟩
      have HR5 := Lib.hid (HR.out.below (later_trans (later_trans l3d b4) b5))
      clear hB5 hO5 hF5 o4 b4 b5
      go_wp2
      go_roundw
      case rel => exact ⟨j + 1, by omega, by go_num, l5, HB5.out, HR5.out⟩
      case measure => simp [intOf]; omega
    · have hlt' : ¬ ((j : Int) + 1 < p.passes) := by have := HMM.out; omega
      have HE := Lib.hid (show j + 1 = M by omega)
      go_wp2_with fail
      refine (CJ.out _ (Below.refl _ _)).mono ?_
      rintro e w4 ⟨v4, rfl, o4, b4⟩
      have l4 := later_trans lr b4
      have HA := Lib.hid (apart_gt o4 HR.out (Nat.le_refl _))
      have O4 := Lib.hid (o4.base_ (Nat.le_trans hwlt lr.size))
      have R4 := Lib.hid ((HR.out.below b4).base_ hwlt)
      clear o4
      go_wp2_with fail
      go_ret3
      exact ⟨_, _, ret_tup (by rw [HF.out] <;> rfl), by rw [HY.out.1, ← HE.out, HYS.out]; exact O4.out, by rw [HY.out.2]; exact R4.out, HA.out, later_trans HT.out l4⟩


end Go.Proofs.YtpinkbodbedajaaGreatDoor

namespace Go.Proofs.YtpinkbodbedajaaGreatDoor
open Go.RowKit

end Go.Proofs.YtpinkbodbedajaaGreatDoor

namespace Go.Proofs.YtpinkbodbedajaaGreatDoor
open Go.RowKit

/-- A row of its own put in a place. -/
theorem isLL.put {α : Type} [Flat α] {T1 T2 base G n c : Nat} {w w1 : World} {vs : List Value} {xss : List (List α)} {ys : List α} {v' : Value} {d B : Nat}
    (h : isLL T1 T2 base w (.slice (some ⟨G, 0, none⟩) n c) xss vs) (hb : Below w.heap.size w w1)
    (hd : d < vs.length) (ho : own T2 B w1 v' ys) (hB : w.heap.size ≤ B) (hbase : base ≤ w.heap.size) :
    isLL T1 T2 base (w1.setCell ⟨G, d, none⟩ v') (.slice (some ⟨G, 0, none⟩) n c) (xss.set d ys) (vs.set d v') := by
  obtain ⟨h1, h2, h3, h4, h5⟩ := h
  have hv1 : v'.oneCell' = true := by
    rcases ho.form with ⟨rfl, _⟩ | ⟨g, c, rfl, _⟩ <;> rfl
  have q2 := (h1.below hb).setCell (k := d) (j := 0) hd (by decide) v' v' (fun ecs he => by
    obtain ⟨rfl, _⟩ := he
    exact ⟨rfl, hv1⟩)
  rw [show d * El.size Value + 0 = d from Nat.mul_one d] at q2
  have hset : w1.grownBy (w1.setCell ⟨G, d, none⟩ v') (some G) := grown_setCell (World.grownBy.refl _ _) (.inl rfl) _
  have hG := h1.blk G rfl
  have hvG : apart v' (.slice (some ⟨G, 0, none⟩) n c) := apart_gt ho h1 hB
  have hfar : ∀ i (hi : i < vs.length), apart v' vs[i] := fun i hi => apart_gt ho (h3 i hi (by omega)) hB
  refine ⟨q2, by simp [h2], fun k h h' => ?_, fun j k hj hk hne => ?_, fun k h => ?_⟩
  · by_cases hkd : k = d
    · subst hkd
      simp only [List.getElem_set_self]
      exact (ho.grown hset hvG).base_ (Nat.le_trans hbase hB)
    · rw [List.getElem_set_ne (by omega), List.getElem_set_ne (by omega)]
      have hk1 : k < vs.length := by simpa using h
      have hk2 : k < xss.length := by simpa using h'
      exact ((h3 k hk1 hk2).below hb).grown hset (h5 k hk1)
  · have hj' : j < vs.length := by simpa using hj
    have hk' : k < vs.length := by simpa using hk
    by_cases hjd : j = d
    · subst hjd
      simp only [List.getElem_set_self]
      rw [List.getElem_set_ne (by omega)]
      exact hfar k hk'
    · by_cases hkd : k = d
      · subst hkd
        simp only [List.getElem_set_self]
        rw [List.getElem_set_ne (by omega)]
        exact apart_symm (hfar j hj')
      · rw [List.getElem_set_ne (by omega), List.getElem_set_ne (by omega)]
        exact h4 j k hj' hk' hne
  · by_cases hkd : k = d
    · subst hkd; simp only [List.getElem_set_self]; exact hvG
    · rw [List.getElem_set_ne (by omega)]; exact h5 k (by simpa using h)

end Go.Proofs.YtpinkbodbedajaaGreatDoor

namespace Go.Proofs.YtpinkbodbedajaaGreatDoor
open Go.RowKit





end Go.Proofs.YtpinkbodbedajaaGreatDoor

namespace Go.Proofs.YtpinkbodbedajaaGreatDoor
open Go.RowKit

/-- A row of rows and a row beside it, of the call's own, in blocks before hi. -/
def seg2 (T1 T2 lo hi : Nat) (w : World) (vB vO : Value) (xss : List (List Ltr)) (ys : List Ltr) : Prop :=
  ∃ vs, isLL T1 T2 lo w vB xss vs ∧ own T2 lo w vO ys ∧ farLL vO vB vs ∧ (∀ k, vB.ownBlock = some k → k < hi) ∧ (∀ i (h : i < vs.length) k, vs[i].ownBlock = some k → k < hi) ∧ ∀ k, vO.ownBlock = some k → k < hi
section
variable {T1 T2 lo hi : Nat} {w w' : World} {vB vO : Value} {xss : List (List Ltr)} {ys : List Ltr}
theorem seg2.of {vs : List Value} (h : isLL T1 T2 lo w vB xss vs) (ho : own T2 lo w vO ys) (hf : farLL vO vB vs) : seg2 T1 T2 lo w.heap.size w vB vO xss ys :=
  ⟨vs, h, ho, hf, fun k hk => (h.1.blk k hk).2, fun i hi k hk => ((h.2.2.1 i hi (by have := h.2.1; omega)).blk k hk).2, fun k hk => (ho.blk k hk).2⟩
theorem seg2.alone (h : ownLL T1 T2 lo w vB xss) : seg2 T1 T2 lo w.heap.size w vB (.slice none 0 0) xss [] := by
  obtain ⟨vs, h⟩ := h
  exact seg2.of h (own.nil_ _ _ _) ⟨.inl rfl, fun k hk => .inl rfl⟩
theorem seg2.below (h : seg2 T1 T2 lo hi w vB vO xss ys) (hb : Below w.heap.size w w') : seg2 T1 T2 lo hi w' vB vO xss ys := by
  obtain ⟨vs, h1, h2, h3, h4, h5, h6⟩ := h
  exact ⟨vs, h1.below hb, h2.below hb, h3, h4, h5, h6⟩
theorem seg2.out {a b : Nat} (h : seg2 T1 T2 lo hi w vB vO xss ys) (ho : OutI a b w w') (hd : hi ≤ a ∨ b ≤ lo) : seg2 T1 T2 lo hi w' vB vO xss ys := by
  obtain ⟨vs, ⟨g1, g2, g3, g4, g5⟩, h2, h3, h4, h5, h6⟩ := h
  refine ⟨vs, ⟨g1.keepBlk fun k hk => ho.block k (g1.blk k hk).2 (by have q1 := (g1.blk k hk).1; have q2 := h4 k hk; omega), g2, fun i hi hi' => ?_, g4, g5⟩, h2.keepBlk fun k hk => ho.block k (h2.blk k hk).2 (by have q1 := (h2.blk k hk).1; have q2 := h6 k hk; omega), h3, h4, h5, h6⟩
  exact (g3 i hi hi').keepBlk fun k hk => ho.block k ((g3 i hi hi').blk k hk).2 (by have q1 := ((g3 i hi hi').blk k hk).1; have q2 := h5 i hi k hk; omega)
end




end Go.Proofs.YtpinkbodbedajaaGreatDoor

namespace Go.Proofs.YtpinkbodbedajaaGreatDoor
open Go.RowKit



end Go.Proofs.YtpinkbodbedajaaGreatDoor

namespace Go.Proofs.YtpinkbodbedajaaGreatDoor
open Go.RowKit





end Go.Proofs.YtpinkbodbedajaaGreatDoor

namespace Go.Proofs.YtpinkbodbedajaaGreatDoor
open Go.RowKit






end Go.Proofs.YtpinkbodbedajaaGreatDoor
