/- B6 B7 B8 B9 G2 U0 -/
import Derived.Test.YtpinkbodbedajaaGreatDoorQ8
import Derived.Test.YtpinkbodbedajaaGreatDoorQ10
import Derived.Test.YtpinkbodbedajaaGreatDoorQ4
import Derived.IntWalk
import Derived.Test.YtpinkbodbedajaaGreatDoorQ3
import Derived.Deep.QuietTactic
import Derived.BigQuiet
namespace Go.Proofs.YtpinkbodbedajaaGreatDoor
open Go.RowKit

theorem outN_len (p : Pln) : ∀ (n k : Nat) (xs : List Ltr), (outN p k n xs).length ≤ n * xs.length
  | 0, _, _ => by simp [outN]
  | n + 1, k, xs => by
    show (restOf _ xs ++ outN p (k + 1) n (pass1 p k xs)).length ≤ _
    have h1 := outN_len p n (k + 1) (pass1 p k xs)
    have h2 := pass1_len p k xs
    have h3 : n * (pass1 p k xs).length ≤ n * xs.length := Nat.mul_le_mul_left _ h2
    have h4 : (restOf (fun x => binI p x.code k) xs).length ≤ xs.length := List.length_filter_le _ _
    rw [List.length_append, Nat.add_mul, Nat.one_mul]
    omega

set_option maxRecDepth 100000 in
set_option maxHeartbeats 1600000 in
theorem impl_doPasses (v vb : Value) (p : Pln) (xs : List Ltr) (k0 k1 : Nat) (w : World) (hv : rdP w w.heap.size v p) (hb : rd w w.heap.size vb xs)
    (h1 : 2 ≤ p.bins) (h2 : p.bins ≤ 16) (hk1 : k1 ≤ 4) (hk01 : k0 ≤ k1) (hord : p.order.length ≤ 1000) (hl : xs.length ≤ 500) :
    Calls Tryz.prog 93 #[v, vb, .int .i64 k0, .int .i64 k1] w fun e w' => ∃ vL vO, e = .returned (.tuple #[vL, vO]) ∧ own 89 w.heap.size w' vL (passesN p k0 (k1 - k0) xs) ∧ own 89 w.heap.size w' vO (outN p k0 (k1 - k0) xs) ∧ apart vL vO ∧ Below w.heap.size w w' := by
  obtain ⟨A0, c0, e0⟩ := openP hv
  obtain ⟨w0, hw0⟩ : ∃ w0, w0 = w.alloc (Obj.cells #[.int .i64 p.bins, .int .i64 p.passes, .slice A0 p.order.length c0] 25) := ⟨_, rfl⟩
  have q0 := box_cells hw0 0 (.int .i64 p.bins) rfl
  have q1 := box_cells hw0 1 (.int .i64 p.passes) rfl
  have q2 := box_cells hw0 2 (.slice A0 p.order.length c0) rfl
  have HT := Lib.hid (box_later hw0).1
  have HP := Lib.hid (hv.on HT.out)
  have HB := Lib.hid (hb.on HT.out)
  subst e0
  have HW0 := Lib.hid hw0; clear hw0 hv hb
  have l0 := Below.refl w0.heap.size w0
  obtain ⟨i1, ji, jz0, jz1, jz2⟩ := info_parts Tryz.infoLtr
  have hwlt : w.heap.size ≤ w0.heap.size := HT.out.size
  go_enter Tryz.func93, Tryz.ntmps93
  go_wp2_with fail
  rw [← HW0.out]
  refine (impl_copyLetters _ xs _ HB.out (by omega)).mono ?_
  rintro e w1 ⟨v1, rfl, o1, b1⟩
  have l1 := later_trans l0 b1
  have O1 := Lib.hid o1; clear o1 b1 l0
  go_wp2_with fail
  go_loopw [10, 11, 12] (fun t u i wr => ∃ j : Nat, j ≤ k1 - k0 ∧ i = .int .i64 ((k0 + j : Nat) : Int) ∧ Below w0.heap.size w0 wr ∧ own 89 w0.heap.size wr t (passesN p k0 j xs) ∧ own 89 w0.heap.size wr u (outN p k0 j xs) ∧ Hid (apart t u)) (fun _ _ i _ => k1 - (intOf i).toNat)
  case atStart => exact ⟨0, Nat.zero_le _, rfl, l1, O1.out, own.nil_ _ _ _, apart_symm (.inl rfl)⟩
  case round =>
    obtain ⟨j, hj, rfl, lr, hL, hO, HA⟩ := hrel
    obtain ⟨w2, rfl⟩ : ∃ w2 : World, w2 = wr := ⟨_, rfl⟩
    have HL := Lib.hid hL; have HO := Lib.hid hO
    obtain ⟨AO, mO, cO, rfl, hmO, _, _, _⟩ := hO.rd
    obtain ⟨AL, mL, cL, rfl, hmL, _, _, _⟩ := hL.rd
    subst hmO hmL
    clear hL hO l1 O1
    have HLL := Lib.hid (passesN_len p j k0 xs)
    have HOL := Lib.hid (outN_len p j k0 xs)
    have HS1 : Hid (passesN p k0 (j + 1) xs = (binsOf (fun x => binI p x.code (k0 + j)) p.bins.toNat (passesN p k0 j xs)).flatten) := passesN_succ p j k0 xs
    have HS2 : Hid (outN p k0 (j + 1) xs = outN p k0 j xs ++ restOf (fun x => binI p x.code (k0 + j)) (passesN p k0 j xs)) := outN_succ p j k0 xs
    generalize hys : passesN p k0 j xs = ys at *
    generalize hzs : outN p k0 j xs = zs at *
    have HYZ : Hid (passesN p k0 j xs = ys ∧ outN p k0 j xs = zs) := ⟨hys, hzs⟩
    clear hys hzs
    have hyl : ys.length ≤ 500 := by have := HLL.out; omega
    have hzl : zs.length ≤ 2000 := by
      have h := HOL.out
      have h3 : j * xs.length ≤ 4 * 500 := Nat.mul_le_mul (by omega) hl
      omega
    clear HLL HOL
    by_cases hlt : k0 + j < k1
    · have HPL := Lib.hid (fun W (hW : Below w0.heap.size w0 W) (hr : rd W W.heap.size (.slice AL ys.length cL) ys) => impl_placeLetters _ _ (.slice none 0 0) p ys (k0 + j) [] W (HP.out.on hW) hr rd.nil_ h1 h2 (by omega) hord (fun m hm => by simp at hm) (by omega))
      go_wp2_with fail
      refine (HPL.out _ lr HL.out.rd).mono ?_
      rintro e w3 ⟨vB, vO, vs, rfl, hB, hR, hF, b3⟩
      have hB' : isLL 29 89 w2.heap.size w3 vB (binsOf (fun x => binI p x.code (k0 + j)) p.bins.toNat ys) vs := hB
      have hR' : own 89 w2.heap.size w3 vO (restOf (fun x => binI p x.code (k0 + j)) ys) := hR
      have hfl : (binsOf (fun x => binI p x.code (k0 + j)) p.bins.toNat ys).flatten.length ≤ 1048576 := Nat.le_trans (flatten_length_binsOf ys) (by omega)
      have hrl : (restOf (fun x => binI p x.code (k0 + j)) ys).length ≤ 500 := Nat.le_trans (List.length_filter_le _ _) hyl
      generalize (binsOf (fun x => binI p x.code (k0 + j)) p.bins.toNat ys) = bs at *
      generalize (restOf (fun x => binI p x.code (k0 + j)) ys) = rs at *
      have l3 := later_trans lr b3
      have HB3 := Lib.hid (show rd w3 w3.heap.size vB bs from ownLL.rd ⟨vs, hB'⟩)
      have HR3 := Lib.hid hR'
      have HO3 := Lib.hid (HO.out.below b3)
      clear hB hB' hR hR' hF HL HA b3
      go_wp2_with fail
      refine (impl_joinBins _ bs _ HB3.out hfl).mono ?_
      rintro e w4 ⟨v4, rfl, o4, b4⟩
      have l4 := later_trans l3 b4
      have HA4 := Lib.hid (apart_gt o4 HO3.out (Nat.le_refl _))
      have O4 := Lib.hid (o4.base_ l3.size)
      have HR4 := Lib.hid (HR3.out.below b4)
      have HO4 := Lib.hid (HO3.out.below b4)
      clear o4 b4 HR3 HO3 HB3
      have hs4 : w0.heap.size ≤ w4.heap.size := l4.size
      obtain ⟨AR, mR, cR, hvr, hmR, _, _, _⟩ := HR4.out.rd
      subst hvr hmR
      go_wp2_with (at_builtin; refine wpList_appendAll (α := Ltr) rfl (.tmp 32) (.tmp 33) 29 rfl w0.heap.size 89 i1 _ 24 Tryz.underlying29 ji jz0 jz1 jz2 rfl (by decide) (.slice AO zs.length cO) zs rfl HO4.out (.slice AR rs.length cR) rs rfl w4.heap.size HR4.out.rd (by unfold maxLen; omega) (by omega) hs4 ?_; intro v5 w5 ho5 hg5 ha5)
      have l5 : Below w0.heap.size w0 w5 := l4.trans (below_append HO4.out hg5 hs4)
      have O5 := Lib.hid (O4.out.grown hg5 HA4.out)
      have HA5 : Hid (apart v4 v5) := by
        show apart _ _
        have h := HA4.out
        unfold apart at *
        rcases ha5 with e5 | e5
        · rw [e5]; exact h
        · cases hb4 : v4.ownBlock with
          | none => exact .inl rfl
          | some q =>
            refine .inr fun e => ?_
            rw [e5] at e
            injection e with e
            have := (O4.out.blk q hb4).2
            omega
      go_wp2
      go_roundw
      case rel => exact ⟨j + 1, by omega, by go_num, l5, by rw [HS1.out]; exact O5.out, by rw [HS2.out]; exact ho5, HA5⟩
      case measure => simp [intOf]; omega
    · have HE := Lib.hid (show k1 - k0 = j by omega)
      go_wp2
      go_ret2
      rw [HE.out]
      exact ⟨_, _, rfl, by rw [HYZ.out.1]; exact HL.out.base_ hwlt, by rw [HYZ.out.2]; exact HO.out.base_ hwlt, HA.out, later_trans HT.out lr⟩

/-- Whether bins are those of a batch. -/
def collectOk (xss : List (List Ltr)) : Bool := decide (xss.length ≤ 60) && okB xss.flatten
def collected (xss : List (List Ltr)) : List Ltr := if collectOk xss then xss.flatten else []
theorem collected_no {xss : List (List Ltr)} (h : collectOk xss = false) : collected xss = [] := by unfold collected; rw [h]; rfl
theorem collected_yes {xss : List (List Ltr)} (h : collectOk xss = true) : collected xss = xss.flatten := by unfold collected; rw [if_pos h]
theorem flatten_take_len {α : Type} (xss : List (List α)) (k : Nat) : (xss.take k).flatten.length ≤ xss.flatten.length := by
  conv => rhs; rw [← List.take_append_drop k xss, List.flatten_append, List.length_append]
  omega
theorem okB_long {xs : List Ltr} (h : 60 < xs.length) : okB xs = false := by unfold okB; rw [decide_eq_false (by omega)]; rfl

set_option maxRecDepth 100000 in
set_option maxHeartbeats 1600000 in
theorem impl_CollectBins (v : Value) (xss : List (List Ltr)) (w : World) (hv : rd w w.heap.size v xss) :
    Calls Tryz.prog 60 #[v] w fun e w' => ∃ vL, e = .returned (.tuple #[vL, .bool (collectOk xss)]) ∧ own 89 w.heap.size w' vL (collected xss) ∧ Below w.heap.size w w' := by
  obtain ⟨A, n, c, rfl, hn, hc, hm, hr⟩ := hv
  subst hn
  unfold maxLen at hm
  have HR := Lib.hid hr; clear hr
  have l0 := Below.refl w.heap.size w
  obtain ⟨i0, hi, hz0, hz1, hz2⟩ := info_parts Tryz.infoLtr
  have HQ : Hid (collectOk xss = (decide (xss.length ≤ 60) && okB xss.flatten)) := rfl
  have HNO : Hid (∀ h : collectOk xss = false, ∀ W : World, own 89 w.heap.size W (.slice none 0 0) (collected xss)) := fun h W => by rw [collected_no h]; exact own.nil_ _ _ _
  go_enter Tryz.func60, Tryz.ntmps60
  by_cases h60 : (60 : Int) < (xss.length : Int)
  · have HF : Hid (collectOk xss = false) := by show _ = _; rw [HQ.out, decide_eq_false (by omega)]; rfl
    go_wp2
    go_ret2
    exact ⟨_, ret_tup (by rw [HF.out] <;> rfl), HNO.out HF.out _, l0⟩
  have H60 := Lib.hid (show xss.length ≤ 60 by omega)
  go_wp2
  go_loopw [4, 12] (fun t i wr => ∃ k : Nat, k ≤ xss.length ∧ i = .int .i64 k ∧ Below w.heap.size w wr ∧ own 89 w.heap.size wr t (xss.take k).flatten ∧ (xss.take k).flatten.length ≤ 60) (fun _ i _ => xss.length - (intOf i).toNat)
  case atStart => exact ⟨0, Nat.zero_le _, rfl, l0, own.nil_ _ _ _, by simp⟩
  case round =>
    obtain ⟨k, hk, rfl, lr, ho, hf60⟩ := hrel
    obtain ⟨w1, rfl⟩ : ∃ w1 : World, w1 = wr := ⟨_, rfl⟩
    clear l0
    by_cases hlt : k < xss.length
    · obtain ⟨b, o, u, rfl, hb, hu, c1⟩ := HR.out.rowU k hlt
      have HS : Hid ((xss.take (k + 1)).flatten = (xss.take k).flatten ++ xss[k]) := by show _ = _; rw [List.take_succ_eq_append_getElem hlt, List.flatten_append]; simp
      have HTL := Lib.hid (flatten_take_len xss (k + 1))
      generalize xss[k] = ys at *
      obtain ⟨A2, m2, c2, rfl, hm2, hc2, hmm2, hr2⟩ := hu
      have hu : rd w w.heap.size (.slice A2 m2 c2) ys := ⟨A2, m2, c2, rfl, hm2, hc2, hmm2, hr2⟩
      subst hm2
      clear hr2
      unfold maxLen at hmm2
      have HU := Lib.hid hu; clear hu
      generalize hys : (xss.take k).flatten = zs at *
      have HYS := Lib.hid hys; clear hys
      have ho' := Lib.hid ho
      obtain ⟨A3, m3, c3, rfl, hm3, _, _, _⟩ := ho.rd
      subst hm3
      clear ho
      by_cases hbig : (60 : Int) - (zs.length : Int) < (ys.length : Int)
      · have HF : Hid (collectOk xss = false) := by
          show _ = _
          rw [HQ.out, okB_long (by have h1 := HTL.out; have h2 := congrArg List.length HS.out; rw [List.length_append] at h2; omega)]
          simp
        go_wp2
        go_ret2
        exact ⟨_, ret_tup (by rw [HF.out] <;> rfl), HNO.out HF.out _, lr⟩
      · go_wp2_with (at_builtin; refine wpList_appendAll (α := Ltr) rfl (.tmp 22) (.tmp 23) 29 rfl w.heap.size 89 i0 _ 24 Tryz.underlying29 hi hz0 hz1 hz2 rfl (by decide) (.slice A3 zs.length c3) zs rfl ho'.out (.slice A2 ys.length c2) ys rfl w1.heap.size (HU.out.on lr) (by unfold maxLen; omega) (by omega) lr.size ?_; intro v' w2 ho2 hg2 _)
        have l2 : Below w.heap.size w w2 := lr.trans (below_append ho'.out hg2 lr.size)
        have HLE : Hid ((zs ++ ys).length ≤ 60) := by show _ ≤ _; rw [List.length_append]; omega
        go_wp2
        go_roundw
        case rel => exact ⟨k + 1, by omega, by go_num, l2, by rw [HS.out]; exact ho2, by rw [HS.out]; exact HLE.out⟩
        case measure => simp [intOf]; omega
    · have HE := Lib.hid (show k = xss.length by omega)
      rw [HE.out, List.take_length] at ho
      clear hf60
      obtain ⟨fl, hfl⟩ : ∃ fl, xss.flatten = fl := ⟨_, rfl⟩
      rw [hfl] at ho
      have HFL := Lib.hid hfl; clear hfl
      have HO := Lib.hid ho
      obtain ⟨A3, m3, c3, rfl, hm3, _, _, _⟩ := ho.rd
      subst hm3
      clear ho
      go_wp2_with fail
      refine (impl_BatchValid _ fl _ HO.out.rd).mono ?_
      rintro e w2 ⟨rfl, b2⟩
      have l2 := later_trans lr b2
      have HO2 := Lib.hid (HO.out.below b2)
      cases hx : okB fl
      · have HF : Hid (collectOk xss = false) := by show _ = _; rw [HQ.out, HFL.out, hx]; simp
        clear hx
        go_wp2_with fail
        go_ret2
        exact ⟨_, ret_tup (by rw [HF.out] <;> rfl), HNO.out HF.out _, l2⟩
      · have HF : Hid (collectOk xss = true) := by show _ = _; rw [HQ.out, HFL.out, hx, decide_eq_true H60.out]; rfl
        clear hx
        go_wp2_with fail
        go_ret2
        exact ⟨_, ret_tup (by rw [HF.out] <;> rfl), by rw [collected_yes HF.out, HFL.out]; exact HO2.out, l2⟩

end Go.Proofs.YtpinkbodbedajaaGreatDoor

namespace Go.Proofs.YtpinkbodbedajaaGreatDoor
open Go.RowKit

/-- What PlanPass and RunPlan give. -/
def ppOk (p : Pln) (xs : List Ltr) (k : Int) : Bool := passOk p k && okB xs
def ppBins (p : Pln) (xs : List Ltr) (k : Int) : List (List Ltr) := if ppOk p xs k then binsOf (fun x => binI p x.code k.toNat) p.bins.toNat xs else []
def ppRest (p : Pln) (xs : List Ltr) (k : Int) : List Ltr := if ppOk p xs k then restOf (fun x => binI p x.code k.toNat) xs else []
def rpOk (p : Pln) (xs : List Ltr) : Bool := planOk p && okB xs
def rpRound (p : Pln) (xs : List Ltr) : List Ltr := if rpOk p xs then passesN p 0 p.passes.toNat xs else []
def rpRest (p : Pln) (xs : List Ltr) : List Ltr := if rpOk p xs then restOf (fun x => binI p x.code 0) xs else []
def binsOk (p : Pln) (xss : List (List Ltr)) (k : Int) : Bool := passOk p k && (xss.length == p.bins.toNat) && okB xss.flatten
def finished (p : Pln) (xss : List (List Ltr)) (k : Int) : List Ltr := if binsOk p xss k then passesN p (k.toNat + 1) (p.passes.toNat - (k.toNat + 1)) xss.flatten else []
theorem isLL_nil {α : Type} [El α] (T1 T2 base : Nat) (w : World) : isLL (α := α) T1 T2 base w (.slice none 0 0) [] [] :=
  ⟨own.nil_ _ _ _, rfl, fun k h => absurd h (Nat.not_lt_zero k), fun j k h => absurd h (Nat.not_lt_zero j), fun k h => absurd h (Nat.not_lt_zero k)⟩
theorem okB_len' {xs : List Ltr} (h : okB xs = true) : xs.length ≤ 60 := (okB_iff.1 h).1

set_option maxRecDepth 100000 in
set_option maxHeartbeats 800000 in
theorem impl_PlanPass (v vb : Value) (p : Pln) (xs : List Ltr) (k : Int) (w : World) (hv : rdP w w.heap.size v p) (hb : rd w w.heap.size vb xs) :
    Calls Tryz.prog 280 #[v, vb, .int .i64 k] w fun e w' => ∃ vB vO vs, e = .returned (.tuple #[vB, vO, .bool (ppOk p xs k)]) ∧ isLL 29 89 w.heap.size w' vB (ppBins p xs k) vs ∧ own 89 w.heap.size w' vO (ppRest p xs k) ∧ farLL vO vB vs ∧ Below w.heap.size w w' := by
  obtain ⟨A0, c0, e0⟩ := openP hv
  obtain ⟨w0, hw0⟩ : ∃ w0, w0 = w.alloc (Obj.cells #[.int .i64 p.bins, .int .i64 p.passes, .slice A0 p.order.length c0] 25) := ⟨_, rfl⟩
  have q0 := box_cells hw0 0 (.int .i64 p.bins) rfl
  have q1 := box_cells hw0 1 (.int .i64 p.passes) rfl
  have q2 := box_cells hw0 2 (.slice A0 p.order.length c0) rfl
  have HT := Lib.hid (box_later hw0).1
  have HP := Lib.hid (hv.on HT.out)
  have HB := Lib.hid (hb.on HT.out)
  subst e0
  have HW0 := Lib.hid hw0; clear hw0 hv hb
  have l0 := Below.refl w0.heap.size w0
  have hwlt : w.heap.size ≤ w0.heap.size := HT.out.size
  have HNO : Hid (∀ h : ppOk p xs k = false, ∀ W : World, isLL 29 89 w.heap.size W (.slice none 0 0) (ppBins p xs k) [] ∧ own 89 w.heap.size W (.slice none 0 0) (ppRest p xs k)) := fun h W => by
    unfold ppBins ppRest; rw [h]; exact ⟨isLL_nil _ _ _ _, own.nil_ _ _ _⟩
  have HQ : Hid (ppOk p xs k = (passOk p k && okB xs)) := rfl
  go_enter Tryz.func280, Tryz.ntmps280
  go_wp2_with fail
  rw [← HW0.out]
  refine (impl_passValid _ p k _ HP.out).mono ?_
  rintro e w1 ⟨rfl, b1⟩
  have l1 := later_trans l0 b1
  cases h1 : passOk p k
  · have HF : Hid (ppOk p xs k = false) := by show _ = _; rw [HQ.out, h1]; rfl
    clear h1
    go_wp2_with fail
    go_ret3
    exact ⟨_, _, [], ret_tup (by rw [HF.out] <;> rfl), (HNO.out HF.out _).1, (HNO.out HF.out _).2, ⟨.inl rfl, fun k h => absurd h (Nat.not_lt_zero k)⟩, later_trans HT.out l1⟩
  obtain ⟨hp1, hp2, hp3⟩ := passOk_iff.1 h1
  obtain ⟨g1, g2, g3, g4, g5⟩ := planOk_bins hp1
  have H1 := Lib.hid h1; clear h1 hp1
  go_wp2_with fail
  refine (impl_BatchValid _ xs _ (HB.out.on l1)).mono ?_
  rintro e w2 ⟨rfl, b2⟩
  have l2 := later_trans l1 b2
  cases h2 : okB xs
  · have HF : Hid (ppOk p xs k = false) := by show _ = _; rw [HQ.out, h2, Bool.and_false]
    clear h2
    go_wp2_with fail
    go_ret3
    exact ⟨_, _, [], ret_tup (by rw [HF.out] <;> rfl), (HNO.out HF.out _).1, (HNO.out HF.out _).2, ⟨.inl rfl, fun k h => absurd h (Nat.not_lt_zero k)⟩, later_trans HT.out l2⟩
  have hxl := okB_len' h2
  have HF : Hid (ppOk p xs k = true) := by show _ = _; rw [HQ.out, h2, H1.out]; rfl
  have HY : Hid (ppBins p xs k = binsOf (fun x => binI p x.code k.toNat) p.bins.toNat xs ∧ ppRest p xs k = restOf (fun x => binI p x.code k.toNat) xs) := by
    unfold ppBins ppRest; rw [HF.out]; exact ⟨rfl, rfl⟩
  clear h2
  obtain ⟨k, rfl⟩ := Int.eq_ofNat_of_zero_le hp2
  go_wp2_with fail
  refine (impl_placeLetters _ _ (.slice none 0 0) p xs k [] _ (HP.out.on l2) (HB.out.on l2) rd.nil_ g1 g2 (by omega) (by omega) (fun m hm => by simp at hm) (by omega)).mono ?_
  rintro e w3 ⟨vB, vO, vs, rfl, hB, hR, hF, b3⟩
  have l3 := later_trans l2 b3
  have HBB := Lib.hid hB; have HRR := Lib.hid hR; have HFF := Lib.hid hF
  clear hB hR hF
  go_wp2_with fail
  go_ret3
  have hh := HY.out
  rw [Int.toNat_natCast] at hh
  exact ⟨_, _, vs, ret_tup (by rw [HF.out] <;> rfl), by rw [hh.1]; exact HBB.out.base_ (Nat.le_trans hwlt l2.size), by rw [hh.2]; exact HRR.out.base_ (Nat.le_trans hwlt l2.size), HFF.out, later_trans HT.out l3⟩

set_option maxRecDepth 100000 in
set_option maxHeartbeats 800000 in
theorem impl_RunPlan (v vb : Value) (p : Pln) (xs : List Ltr) (w : World) (hv : rdP w w.heap.size v p) (hb : rd w w.heap.size vb xs) :
    Calls Tryz.prog 34 #[v, vb] w fun e w' => ∃ vL vO, e = .returned (.tuple #[vL, vO, .bool (rpOk p xs)]) ∧ own 89 w.heap.size w' vL (rpRound p xs) ∧ own 89 w.heap.size w' vO (rpRest p xs) ∧ apart vL vO ∧ Below w.heap.size w w' := by
  obtain ⟨A0, c0, e0⟩ := openP hv
  obtain ⟨w0, hw0⟩ : ∃ w0, w0 = w.alloc (Obj.cells #[.int .i64 p.bins, .int .i64 p.passes, .slice A0 p.order.length c0] 25) := ⟨_, rfl⟩
  have q0 := box_cells hw0 0 (.int .i64 p.bins) rfl
  have q1 := box_cells hw0 1 (.int .i64 p.passes) rfl
  have q2 := box_cells hw0 2 (.slice A0 p.order.length c0) rfl
  have HT := Lib.hid (box_later hw0).1
  have HP := Lib.hid (hv.on HT.out)
  have HB := Lib.hid (hb.on HT.out)
  subst e0
  have HW0 := Lib.hid hw0; clear hw0 hv hb
  have l0 := Below.refl w0.heap.size w0
  have hwlt : w.heap.size ≤ w0.heap.size := HT.out.size
  have HNO : Hid (∀ h : rpOk p xs = false, ∀ W : World, own 89 w.heap.size W (.slice none 0 0) (rpRound p xs) ∧ own 89 w.heap.size W (.slice none 0 0) (rpRest p xs)) := fun h W => by
    unfold rpRound rpRest; rw [h]; exact ⟨own.nil_ _ _ _, own.nil_ _ _ _⟩
  have HQ : Hid (rpOk p xs = (planOk p && okB xs)) := rfl
  go_enter Tryz.func34, Tryz.ntmps34
  go_wp2_with fail
  rw [← HW0.out]
  refine (impl_PlanValid _ p _ HP.out).mono ?_
  rintro e w1 ⟨rfl, b1⟩
  have l1 := later_trans l0 b1
  cases h1 : planOk p
  · have HF : Hid (rpOk p xs = false) := by show _ = _; rw [HQ.out, h1]; rfl
    clear h1
    go_wp2_with fail
    go_ret3
    exact ⟨_, _, ret_tup (by rw [HF.out] <;> rfl), (HNO.out HF.out _).1, (HNO.out HF.out _).2, .inl rfl, later_trans HT.out l1⟩
  obtain ⟨g1, g2, g3, g4, g5⟩ := planOk_bins h1
  have H1 := Lib.hid h1; clear h1
  go_wp2_with fail
  refine (impl_BatchValid _ xs _ (HB.out.on l1)).mono ?_
  rintro e w2 ⟨rfl, b2⟩
  have l2 := later_trans l1 b2
  cases h2 : okB xs
  · have HF : Hid (rpOk p xs = false) := by show _ = _; rw [HQ.out, h2, Bool.and_false]
    clear h2
    go_wp2_with fail
    go_ret3
    exact ⟨_, _, ret_tup (by rw [HF.out] <;> rfl), (HNO.out HF.out _).1, (HNO.out HF.out _).2, .inl rfl, later_trans HT.out l2⟩
  have hxl := okB_len' h2
  have HF : Hid (rpOk p xs = true) := by show _ = _; rw [HQ.out, h2, H1.out]; rfl
  clear h2
  obtain ⟨M, hM⟩ := Int.eq_ofNat_of_zero_le (show 0 ≤ p.passes by omega)
  have HMM := Lib.hid hM; clear hM
  have hm1 : 1 ≤ M ∧ M ≤ 4 := by have := HMM.out; omega
  have HY : Hid (rpRound p xs = passesN p 0 M xs ∧ rpRest p xs = outN p 0 M xs) := by
    unfold rpRound rpRest; rw [HF.out, HMM.out, Int.toNat_natCast]
    refine ⟨rfl, ?_⟩
    obtain ⟨M', rfl⟩ : ∃ M', M = M' + 1 := ⟨M - 1, by omega⟩
    rw [outN_first g1]; rfl
  have HD := Lib.hid (fun W (hW : Below w0.heap.size w0 W) => impl_doPasses _ _ p xs 0 M W (HP.out.on hW) (HB.out.on hW) g1 g2 hm1.2 (Nat.zero_le _) (by omega) (by omega))
  have HD2 : Hid (∀ W, Below w0.heap.size w0 W → Calls Tryz.prog 93 #[.agg #[.int .i64 p.bins, .int .i64 p.passes, .slice A0 p.order.length c0], vb, .int .i64 0, .int .i64 p.passes] W fun e w' => ∃ vL vO, e = .returned (.tuple #[vL, vO]) ∧ own 89 W.heap.size w' vL (passesN p 0 M xs) ∧ own 89 W.heap.size w' vO (outN p 0 M xs) ∧ apart vL vO ∧ Below W.heap.size W w') := fun W hW => by
    have h := HD.out W hW
    rw [← HMM.out] at h
    exact h
  clear HD
  go_wp2_with fail
  refine (HD2.out _ l2).mono ?_
  rintro e w3 ⟨vL, vO, rfl, hL, hO, hA, b3⟩
  have l3 := later_trans l2 b3
  have HL := Lib.hid hL; have HO := Lib.hid hO; have HA := Lib.hid hA
  clear hL hO hA
  go_wp2_with fail
  go_ret3
  exact ⟨_, _, ret_tup (by rw [HF.out] <;> rfl), by rw [HY.out.1]; exact HL.out.base_ (Nat.le_trans hwlt l2.size), by rw [HY.out.2]; exact HO.out.base_ (Nat.le_trans hwlt l2.size), HA.out, later_trans HT.out l3⟩

set_option maxRecDepth 100000 in
set_option maxHeartbeats 800000 in
theorem impl_binsOfPass (v vb : Value) (p : Pln) (xss : List (List Ltr)) (k : Int) (w : World) (hv : rdP w w.heap.size v p) (hb : rd w w.heap.size vb xss) :
    Calls Tryz.prog 287 #[v, vb, .int .i64 k] w fun e w' => e = .returned (.bool (binsOk p xss k)) ∧ Below w.heap.size w w' := by
  obtain ⟨A0, c0, e0⟩ := openP hv
  obtain ⟨w0, hw0⟩ : ∃ w0, w0 = w.alloc (Obj.cells #[.int .i64 p.bins, .int .i64 p.passes, .slice A0 p.order.length c0] 25) := ⟨_, rfl⟩
  have q0 := box_cells hw0 0 (.int .i64 p.bins) rfl
  have q1 := box_cells hw0 1 (.int .i64 p.passes) rfl
  have q2 := box_cells hw0 2 (.slice A0 p.order.length c0) rfl
  have HT := Lib.hid (box_later hw0).1
  have HP := Lib.hid (hv.on HT.out)
  have HB := Lib.hid (hb.on HT.out)
  obtain ⟨A, n, c, rfl, hn, hc, hm, _⟩ := hb
  subst hn
  unfold maxLen at hm
  subst e0
  have HW0 := Lib.hid hw0; clear hw0 hv 
  have l0 := Below.refl w0.heap.size w0
  have hwlt : w.heap.size ≤ w0.heap.size := HT.out.size
  have HQ : Hid (binsOk p xss k = (passOk p k && (xss.length == p.bins.toNat) && okB xss.flatten)) := rfl
  go_enter Tryz.func287, Tryz.ntmps287
  go_wp2_with fail
  rw [← HW0.out]
  refine (impl_passValid _ p k _ HP.out).mono ?_
  rintro e w1 ⟨rfl, b1⟩
  have l1 := later_trans l0 b1
  cases h1 : passOk p k
  · have HF : Hid (binsOk p xss k = false) := by show _ = _; rw [HQ.out, h1]; rfl
    clear h1
    go_wp2_with fail
    go_ret
    exact ⟨ret_bool HF.out.symm, later_trans HT.out l1⟩
  obtain ⟨g1, g2, g3, g4, g5⟩ := planOk_bins (passOk_iff.1 h1).1
  have H1 := Lib.hid h1; clear h1
  by_cases hln : (xss.length : Int) = p.bins
  · have hl2 : ((xss.length : Int) != p.bins) = false := by simp [hln]
    have HLB : Hid ((xss.length == p.bins.toNat) = true) := by show _ = _; rw [beq_iff_eq]; omega
    have HL60 : Hid (xss.length ≤ 60) := by show _ ≤ _; omega
    clear hln
    go_wp2_with fail
    refine (impl_CollectBins _ xss _ (HB.out.on l1)).mono ?_
    rintro e w2 ⟨vL, rfl, hL, b2⟩
    have l2 := later_trans l1 b2
    clear hL
    have HR : Hid (binsOk p xss k = collectOk xss) := by show _ = _; unfold collectOk; rw [HQ.out, H1.out, HLB.out, decide_eq_true HL60.out]; rfl
    generalize collectOk xss = r at *
    go_wp2_with fail
    go_ret
    exact ⟨ret_bool HR.out.symm, later_trans HT.out l2⟩
  · have hl2 : ((xss.length : Int) != p.bins) = true := by simp [hln]
    have HLB : Hid ((xss.length == p.bins.toNat) = false) := by show _ = _; rw [beq_eq_false_iff_ne]; omega
    clear hln
    go_wp2_with fail
    go_ret
    exact ⟨ret_bool (by rw [HQ.out, HLB.out]; simp), later_trans HT.out l1⟩

theorem binsOk_iff {p : Pln} {xss : List (List Ltr)} {k : Int} : binsOk p xss k = true ↔ passOk p k = true ∧ xss.length = p.bins.toNat ∧ okB xss.flatten = true := by
  unfold binsOk
  simp only [Bool.and_eq_true, beq_iff_eq, and_assoc]


end Go.Proofs.YtpinkbodbedajaaGreatDoor

namespace Go.Proofs.YtpinkbodbedajaaGreatDoor
open Go.RowKit

set_option maxRecDepth 100000 in
set_option maxHeartbeats 800000 in
theorem impl_FinishPasses (v vb : Value) (p : Pln) (xss : List (List Ltr)) (k : Int) (w : World) (hv : rdP w w.heap.size v p) (hb : rd w w.heap.size vb xss) :
    Calls Tryz.prog 261 #[v, vb, .int .i64 k] w fun e w' => ∃ vL, e = .returned (.tuple #[vL, .bool (binsOk p xss k)]) ∧ own 89 w.heap.size w' vL (finished p xss k) ∧ Below w.heap.size w w' := by
  obtain ⟨A0, c0, e0⟩ := openP hv
  obtain ⟨w0, hw0⟩ : ∃ w0, w0 = w.alloc (Obj.cells #[.int .i64 p.bins, .int .i64 p.passes, .slice A0 p.order.length c0] 25) := ⟨_, rfl⟩
  have q0 := box_cells hw0 0 (.int .i64 p.bins) rfl
  have q1 := box_cells hw0 1 (.int .i64 p.passes) rfl
  have q2 := box_cells hw0 2 (.slice A0 p.order.length c0) rfl
  have HT := Lib.hid (box_later hw0).1
  have HP := Lib.hid (hv.on HT.out)
  have HB := Lib.hid (hb.on HT.out)
  subst e0
  have HW0 := Lib.hid hw0; clear hw0 hv hb
  have l0 := Below.refl w0.heap.size w0
  have hwlt : w.heap.size ≤ w0.heap.size := HT.out.size
  have HNO : Hid (∀ h : binsOk p xss k = false, ∀ W : World, own 89 w.heap.size W (.slice none 0 0) (finished p xss k)) := fun h W => by
    unfold finished; rw [h]; exact own.nil_ _ _ _
  go_enter Tryz.func261, Tryz.ntmps261
  go_wp2_with fail
  rw [← HW0.out]
  refine (impl_binsOfPass _ _ p xss k _ HP.out HB.out).mono ?_
  rintro e w1 ⟨rfl, b1⟩
  have l1 := later_trans l0 b1
  cases h1 : binsOk p xss k
  · have HF := Lib.hid h1; clear h1
    go_wp2_with fail
    go_ret2
    exact ⟨_, ret_tup (by rw [HF.out] <;> rfl), HNO.out HF.out _, later_trans HT.out l1⟩
  obtain ⟨hk1, hk2, hk3⟩ := binsOk_iff.1 h1
  obtain ⟨hp1, hp2, hp3⟩ := passOk_iff.1 hk1
  obtain ⟨g1, g2, g3, g4, g5⟩ := planOk_bins hp1
  have HF := Lib.hid h1; clear h1 hk1 hp1
  have hfl := okB_len' hk3
  clear hk3 hk2
  obtain ⟨k, rfl⟩ := Int.eq_ofNat_of_zero_le hp2
  obtain ⟨M, hM⟩ := Int.eq_ofNat_of_zero_le (show 0 ≤ p.passes by omega)
  have HMM := Lib.hid hM; clear hM
  have hkM : k < M ∧ M ≤ 4 := by have := HMM.out; omega
  obtain ⟨fl, hfe⟩ : ∃ fl, xss.flatten = fl := ⟨_, rfl⟩
  have HFE := Lib.hid hfe
  rw [hfe] at hfl
  clear hfe
  have HY : Hid (finished p xss (k : Int) = passesN p (k + 1) (M - (k + 1)) fl) := by
    show _ = _
    unfold finished; rw [HF.out, HMM.out, Int.toNat_natCast, Int.toNat_natCast, HFE.out]; rfl
  have CJ : Hid (∀ W, Below w0.heap.size w0 W → Calls Tryz.prog 125 #[vb] W fun e w' => ∃ v', e = .returned v' ∧ own 89 W.heap.size w' v' fl ∧ Below W.heap.size W w') := fun W hW => by
    have h := impl_joinBins vb xss W (HB.out.on hW) (by rw [HFE.out]; omega)
    rw [HFE.out] at h
    exact h
  have CD : Hid (∀ W, Below w0.heap.size w0 W → ∀ vf, rd W W.heap.size vf fl → Calls Tryz.prog 93 #[.agg #[.int .i64 p.bins, .int .i64 p.passes, .slice A0 p.order.length c0], vf, .int .i64 ((k : Int) + 1), .int .i64 p.passes] W fun e w' => ∃ vL vO, e = .returned (.tuple #[vL, vO]) ∧ own 89 W.heap.size w' vL (passesN p (k + 1) (M - (k + 1)) fl) ∧ own 89 W.heap.size w' vO (outN p (k + 1) (M - (k + 1)) fl) ∧ apart vL vO ∧ Below W.heap.size W w') := fun W hW vf hf => by
    have h := impl_doPasses _ vf p fl (k + 1) M W (HP.out.on hW) hf g1 g2 hkM.2 (by omega) (by omega) (by omega)
    rw [← HMM.out] at h
    exact h
  have ld := later_drew l1
  have hw1 : IntKind.i64.wrap ((k : Int) + 1) = (k : Int) + 1 := IntWalk.i64_in _ (by omega)
  go_wp2
  go_region_held3 (fun W => Below w0.heap.size w0 W) (first | exact ld | exact later_trans ld b2 | exact later_trans (later_trans ld b2) b3) (first | (go_at_call 125; refine (CJ.out _ ld).mono ?_; rintro e w2 ⟨vf, rfl, o2, b2⟩) | (go_at_call 93; refine (CD.out _ (later_trans ld b2) _ o2.rd).mono ?_; rintro e w3 ⟨vL, vO, rfl, hL, hO, hA, b3⟩))
  have l3 := later_trans (later_trans ld b2) b3
  have HL := Lib.hid (hL.base_ (Nat.le_trans hwlt (later_trans ld b2).size))
  clear hL hO hA o2
  go_wp2
  go_ret2
  exact ⟨_, ret_tup (by rw [HF.out] <;> rfl), by rw [HY.out]; exact HL.out, later_trans HT.out l3⟩

end Go.Proofs.YtpinkbodbedajaaGreatDoor

namespace Go.Proofs.YtpinkbodbedajaaGreatDoor
open Go.RowKit

/-- The numbers of the letters in wrong bins, of the first n bins. -/
def wrongRow (f : Ltr → Int) (i : Nat) (ys : List Ltr) : List Int := (ys.filter fun x => f x != (i : Int)).map Ltr.id
def wrongTo (f : Ltr → Int) (xss : List (List Ltr)) (n : Nat) : List Int := (List.range n).flatMap fun i => wrongRow f i (xss.getD i [])
theorem wrongTo_succ {f : Ltr → Int} {xss : List (List Ltr)} {n : Nat} (h : n < xss.length) : wrongTo f xss (n + 1) = wrongTo f xss n ++ wrongRow f n xss[n] := by
  unfold wrongTo
  rw [List.range_succ, List.flatMap_append]
  simp [h]
theorem wrongRow_len (f : Ltr → Int) (i : Nat) (ys : List Ltr) : (wrongRow f i ys).length ≤ ys.length := by
  unfold wrongRow; rw [List.length_map]; exact List.length_filter_le _ _
theorem wrongTo_len (f : Ltr → Int) (xss : List (List Ltr)) : ∀ n, n ≤ xss.length → (wrongTo f xss n).length ≤ (xss.take n).flatten.length
  | 0, _ => by simp [wrongTo]
  | n + 1, h => by
    rw [wrongTo_succ (by omega), List.length_append, List.take_succ_eq_append_getElem (by omega), List.flatten_append, List.length_append]
    have h1 := wrongTo_len f xss n (by omega)
    have h2 := wrongRow_len f n xss[n]
    simp only [List.flatten_cons, List.flatten_nil, List.append_nil]
    omega
theorem wrongRow_step {f : Ltr → Int} {i : Nat} {ys : List Ltr} {m : Nat} (h : m < ys.length) : wrongRow f i (ys.take (m + 1)) = if f ys[m] = (i : Int) then wrongRow f i (ys.take m) else wrongRow f i (ys.take m) ++ [ys[m].id] := by
  unfold wrongRow
  rw [List.take_succ_eq_append_getElem h, List.filter_append, List.map_append]
  by_cases hf : f ys[m] = (i : Int)
  · simp [hf]
  · simp [hf]
def wrongL (p : Pln) (xss : List (List Ltr)) (k : Int) : List Int := if binsOk p xss k then wrongTo (fun x => binI p x.code k.toNat) xss xss.length else []
theorem wrongL_no {p : Pln} {xss : List (List Ltr)} {k : Int} (h : binsOk p xss k = false) : wrongL p xss k = [] := by unfold wrongL; rw [h]; rfl
theorem wrongL_yes {p : Pln} {xss : List (List Ltr)} {k : Int} (h : binsOk p xss k = true) : wrongL p xss k = wrongTo (fun x => binI p x.code k.toNat) xss xss.length := by unfold wrongL; rw [if_pos h]


end Go.Proofs.YtpinkbodbedajaaGreatDoor

namespace Go.Proofs.YtpinkbodbedajaaGreatDoor
open Go.RowKit

/-- What is left of l when n is taken; -1 if that is too much. -/
def leftOf (l n : Int) : Int := if l < n then -1 else l - n
def sumStr (xs : List ByteArray) : Nat := (xs.map fun x => x.size).sum
theorem sumStr_succ (xs : List ByteArray) (k : Nat) (h : k < xs.length) : sumStr (xs.take (k + 1)) = sumStr (xs.take k) + xs[k].size := by
  unfold sumStr; rw [List.take_succ_eq_append_getElem h, List.map_append, List.sum_append]; simp
theorem sumStr_le (xs : List ByteArray) (k : Nat) : sumStr (xs.take k) ≤ sumStr xs := by
  unfold sumStr
  conv => rhs; rw [← List.take_append_drop k xs, List.map_append, List.sum_append]
  omega



def planSz (p : Pln) : Int := p.order.length + sumStr p.order
theorem leftOf_range {l n : Int} (h1 : l ≤ 1048576) (hn : 0 ≤ n) : -1 ≤ leftOf l n ∧ leftOf l n ≤ 1048576 ∨ l < 0 := by
  unfold leftOf
  split <;> omega

theorem Tryz.infoStr : (Tryz.prog.info? 9).map (fun i => (i.zero, i.size, i.bytes)) = some (some (.string ⟨#[]⟩), 1, 16) := by kernel_rfl





end Go.Proofs.YtpinkbodbedajaaGreatDoor

namespace Go.Proofs.YtpinkbodbedajaaGreatDoor
open Go.RowKit

theorem leftOf_ok {l : Int} {n : Nat} (h : 0 ≤ leftOf l n) (hl : l ≤ 1048576) : 0 ≤ leftOf l n ∧ leftOf l n ≤ 1048576 ∧ n ≤ 1048576 := by
  unfold leftOf at *
  split at h <;> rename_i h1
  · omega
  · rw [if_neg h1]; omega
theorem lessOr_eq (l n : Int) : lessOr l n = leftOf l n := rfl
theorem leftOf_leftOf (l : Int) (m n : Nat) (hl : 0 ≤ l) : (if leftOf l m < 0 then -1 else leftOf (leftOf l m) n) = leftOf l ((m + n : Nat) : Int) := by
  unfold leftOf
  by_cases h : l < (m : Int)
  · rw [if_pos h]; simp only [show (-1 : Int) < 0 by omega, if_true]; rw [if_pos (by omega)]
  · rw [if_neg h, if_neg (by omega)]
    by_cases h2 : l - m < (n : Int)
    · rw [if_pos h2, if_pos (by omega)]
    · rw [if_neg h2, if_neg (by omega)]; omega

/-! plans -/
def szP (p : Pln) : Nat := p.order.length + sumStr p.order
def szL (xs : List Ltr) : Nat := xs.length + sumSz xs


end Go.Proofs.YtpinkbodbedajaaGreatDoor
