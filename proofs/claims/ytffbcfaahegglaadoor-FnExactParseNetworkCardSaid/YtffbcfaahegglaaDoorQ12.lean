/- B6 B7 B8 B9 RD F3 -/
import Derived.Test.YtffbcfaahegglaaDoorQ9
import Derived.Test.YtffbcfaahegglaaDoorQ11
import Derived.Test.YtffbcfaahegglaaDoorQ7
import Derived.IntWalk
import Derived.Test.YtffbcfaahegglaaDoorQ5
import Derived.Test.YtffbcfaahegglaaDoorQ3
import Derived.Test.YtffbcfaahegglaaDoorQ8
namespace Go.Proofs.YtffbcfaahegglaaDoor
open Go.RowKit

theorem outN_len (p : Pln) : ∀ (n k : Nat) (xs : List Ltr), (outN p k n xs).length ≤ n * xs.length
  | 0, _, _ => by simp [outN]
  | n + 1, k, xs => by
    show (restOf _ xs ++ outN p (k + 1) n (pass1 p k xs)).length ≤ _
    have h1 := outN_len p n (k + 1) (pass1 p k xs)
    have h2 := pass1_len p k xs
    have h3 : n * (pass1 p k xs).length ≤ n * xs.length := Nat.mul_le_mul_left _ h2
    have h4 : (restOf (fun x => binI p x.code k) xs).length ≤ xs.length := List.length_filter_le _ _
    rw [List.length_append, Nat.add_mul, Nat.one_mul]
    omega

/-- Whether bins are those of a batch. -/
def collectOk (xss : List (List Ltr)) : Bool := decide (xss.length ≤ 60) && okB xss.flatten
def collected (xss : List (List Ltr)) : List Ltr := if collectOk xss then xss.flatten else []
theorem collected_no {xss : List (List Ltr)} (h : collectOk xss = false) : collected xss = [] := by unfold collected; rw [h]; rfl
theorem collected_yes {xss : List (List Ltr)} (h : collectOk xss = true) : collected xss = xss.flatten := by unfold collected; rw [if_pos h]
theorem flatten_take_len {α : Type} (xss : List (List α)) (k : Nat) : (xss.take k).flatten.length ≤ xss.flatten.length := by
  conv => rhs; rw [← List.take_append_drop k xss, List.flatten_append, List.length_append]
  omega
theorem okB_long {xs : List Ltr} (h : 60 < xs.length) : okB xs = false := by unfold okB; rw [decide_eq_false (by omega)]; rfl

set_option maxRecDepth 100000 in
set_option maxHeartbeats 1600000 in
theorem impl_CollectBins (v : Value) (xss : List (List Ltr)) (w : World) (hv : rd w w.heap.size v xss) :
    Calls Tryd.prog 39 #[v] w fun e w' => ∃ vL, e = .returned (.tuple #[vL, .bool (collectOk xss)]) ∧ own 98 w.heap.size w' vL (collected xss) ∧ Below w.heap.size w w' := by
  obtain ⟨A, n, c, rfl, hn, hc, hm, hr⟩ := hv
  subst hn
  unfold maxLen at hm
  have HR := Lib.hid hr; clear hr
  have l0 := Below.refl w.heap.size w
  obtain ⟨i0, hi, hz0, hz1, hz2⟩ := info_parts Tryd.infoLtr
  have HQ : Hid (collectOk xss = (decide (xss.length ≤ 60) && okB xss.flatten)) := rfl
  have HNO : Hid (∀ h : collectOk xss = false, ∀ W : World, own 98 w.heap.size W (.slice none 0 0) (collected xss)) := fun h W => by rw [collected_no h]; exact own.nil_ _ _ _
  go_enter Tryd.func39, Tryd.ntmps39
  by_cases h60 : (60 : Int) < (xss.length : Int)
  · have HF : Hid (collectOk xss = false) := by show _ = _; rw [HQ.out, decide_eq_false (by omega)]; rfl
    go_wp2
    go_ret2
    exact ⟨_, ret_tup (by rw [HF.out] <;> rfl), HNO.out HF.out _, l0⟩
  have H60 := Lib.hid (show xss.length ≤ 60 by omega)
  go_wp2
  go_loopw [4, 12] (fun t i wr => ∃ k : Nat, k ≤ xss.length ∧ i = .int .i64 k ∧ Below w.heap.size w wr ∧ own 98 w.heap.size wr t (xss.take k).flatten ∧ (xss.take k).flatten.length ≤ 60) (fun _ i _ => xss.length - (intOf i).toNat)
  case atStart => exact ⟨0, Nat.zero_le _, rfl, l0, own.nil_ _ _ _, by simp⟩
  case round =>
    obtain ⟨k, hk, rfl, lr, ho, hf60⟩ := hrel
    obtain ⟨w1, rfl⟩ : ∃ w1 : World, w1 = wr := ⟨_, rfl⟩
    clear l0
    by_cases hlt : k < xss.length
    · obtain ⟨b, o, u, rfl, hb, hu, c1⟩ := HR.out.rowU k hlt
      have HS : Hid ((xss.take (k + 1)).flatten = (xss.take k).flatten ++ xss[k]) := by show _ = _; rw [List.take_succ_eq_append_getElem hlt, List.flatten_append]; simp
      have HTL := Lib.hid (flatten_take_len xss (k + 1))
      generalize xss[k] = ys at *
      obtain ⟨A2, m2, c2, rfl, hm2, hc2, hmm2, hr2⟩ := hu
      have hu : rd w w.heap.size (.slice A2 m2 c2) ys := ⟨A2, m2, c2, rfl, hm2, hc2, hmm2, hr2⟩
      subst hm2
      clear hr2
      unfold maxLen at hmm2
      have HU := Lib.hid hu; clear hu
      generalize hys : (xss.take k).flatten = zs at *
      have HYS := Lib.hid hys; clear hys
      have ho' := Lib.hid ho
      obtain ⟨A3, m3, c3, rfl, hm3, _, _, _⟩ := ho.rd
      subst hm3
      clear ho
      by_cases hbig : (60 : Int) - (zs.length : Int) < (ys.length : Int)
      · have HF : Hid (collectOk xss = false) := by
          show _ = _
          rw [HQ.out, okB_long (by have h1 := HTL.out; have h2 := congrArg List.length HS.out; rw [List.length_append] at h2; omega)]
          simp
        go_wp2
        go_ret2
        exact ⟨_, ret_tup (by rw [HF.out] <;> rfl), HNO.out HF.out _, lr⟩
      · go_wp2_with (at_builtin; refine wpList_appendAll (α := Ltr) rfl (.tmp 22) (.tmp 23) 27 rfl w.heap.size 98 i0 _ 24 Tryd.underlying27 hi hz0 hz1 hz2 rfl (by decide) (.slice A3 zs.length c3) zs rfl ho'.out (.slice A2 ys.length c2) ys rfl w1.heap.size (HU.out.on lr) (by unfold maxLen; omega) (by omega) lr.size ?_; intro v' w2 ho2 hg2 _)
        have l2 : Below w.heap.size w w2 := lr.trans (below_append ho'.out hg2 lr.size)
        have HLE : Hid ((zs ++ ys).length ≤ 60) := by show _ ≤ _; rw [List.length_append]; omega
        go_wp2
        go_roundw
        case rel => exact ⟨k + 1, by omega, by go_num, l2, by rw [HS.out]; exact ho2, by rw [HS.out]; exact HLE.out⟩
        case measure => simp [intOf]; omega
    · have HE := Lib.hid (show k = xss.length by omega)
      rw [HE.out, List.take_length] at ho
      clear hf60
      obtain ⟨fl, hfl⟩ : ∃ fl, xss.flatten = fl := ⟨_, rfl⟩
      rw [hfl] at ho
      have HFL := Lib.hid hfl; clear hfl
      have HO := Lib.hid ho
      obtain ⟨A3, m3, c3, rfl, hm3, _, _, _⟩ := ho.rd
      subst hm3
      clear ho
      go_wp2_with fail
      refine (impl_BatchValid _ fl _ HO.out.rd).mono ?_
      rintro e w2 ⟨rfl, b2⟩
      have l2 := later_trans lr b2
      have HO2 := Lib.hid (HO.out.below b2)
      cases hx : okB fl
      · have HF : Hid (collectOk xss = false) := by show _ = _; rw [HQ.out, HFL.out, hx]; simp
        clear hx
        go_wp2_with fail
        go_ret2
        exact ⟨_, ret_tup (by rw [HF.out] <;> rfl), HNO.out HF.out _, l2⟩
      · have HF : Hid (collectOk xss = true) := by show _ = _; rw [HQ.out, HFL.out, hx, decide_eq_true H60.out]; rfl
        clear hx
        go_wp2_with fail
        go_ret2
        exact ⟨_, ret_tup (by rw [HF.out] <;> rfl), by rw [collected_yes HF.out, HFL.out]; exact HO2.out, l2⟩

end Go.Proofs.YtffbcfaahegglaaDoor

namespace Go.Proofs.YtffbcfaahegglaaDoor
open Go.RowKit

/-- What PlanPass and RunPlan give. -/
def ppOk (p : Pln) (xs : List Ltr) (k : Int) : Bool := passOk p k && okB xs
def ppBins (p : Pln) (xs : List Ltr) (k : Int) : List (List Ltr) := if ppOk p xs k then binsOf (fun x => binI p x.code k.toNat) p.bins.toNat xs else []
def ppRest (p : Pln) (xs : List Ltr) (k : Int) : List Ltr := if ppOk p xs k then restOf (fun x => binI p x.code k.toNat) xs else []
def rpOk (p : Pln) (xs : List Ltr) : Bool := planOk p && okB xs
def rpRound (p : Pln) (xs : List Ltr) : List Ltr := if rpOk p xs then passesN p 0 p.passes.toNat xs else []
def rpRest (p : Pln) (xs : List Ltr) : List Ltr := if rpOk p xs then restOf (fun x => binI p x.code 0) xs else []
def binsOk (p : Pln) (xss : List (List Ltr)) (k : Int) : Bool := passOk p k && (xss.length == p.bins.toNat) && okB xss.flatten
def finished (p : Pln) (xss : List (List Ltr)) (k : Int) : List Ltr := if binsOk p xss k then passesN p (k.toNat + 1) (p.passes.toNat - (k.toNat + 1)) xss.flatten else []
theorem isLL_nil {α : Type} [El α] (T1 T2 base : Nat) (w : World) : isLL (α := α) T1 T2 base w (.slice none 0 0) [] [] :=
  ⟨own.nil_ _ _ _, rfl, fun k h => absurd h (Nat.not_lt_zero k), fun j k h => absurd h (Nat.not_lt_zero j), fun k h => absurd h (Nat.not_lt_zero k)⟩
theorem okB_len' {xs : List Ltr} (h : okB xs = true) : xs.length ≤ 60 := (okB_iff.1 h).1


theorem binsOk_iff {p : Pln} {xss : List (List Ltr)} {k : Int} : binsOk p xss k = true ↔ passOk p k = true ∧ xss.length = p.bins.toNat ∧ okB xss.flatten = true := by
  unfold binsOk
  simp only [Bool.and_eq_true, beq_iff_eq, and_assoc]


end Go.Proofs.YtffbcfaahegglaaDoor

namespace Go.Proofs.YtffbcfaahegglaaDoor
open Go.RowKit


end Go.Proofs.YtffbcfaahegglaaDoor

namespace Go.Proofs.YtffbcfaahegglaaDoor
open Go.RowKit

/-- The numbers of the letters in wrong bins, of the first n bins. -/
def wrongRow (f : Ltr → Int) (i : Nat) (ys : List Ltr) : List Int := (ys.filter fun x => f x != (i : Int)).map Ltr.id
def wrongTo (f : Ltr → Int) (xss : List (List Ltr)) (n : Nat) : List Int := (List.range n).flatMap fun i => wrongRow f i (xss.getD i [])
theorem wrongTo_succ {f : Ltr → Int} {xss : List (List Ltr)} {n : Nat} (h : n < xss.length) : wrongTo f xss (n + 1) = wrongTo f xss n ++ wrongRow f n xss[n] := by
  unfold wrongTo
  rw [List.range_succ, List.flatMap_append]
  simp [h]
theorem wrongRow_len (f : Ltr → Int) (i : Nat) (ys : List Ltr) : (wrongRow f i ys).length ≤ ys.length := by
  unfold wrongRow; rw [List.length_map]; exact List.length_filter_le _ _
theorem wrongTo_len (f : Ltr → Int) (xss : List (List Ltr)) : ∀ n, n ≤ xss.length → (wrongTo f xss n).length ≤ (xss.take n).flatten.length
  | 0, _ => by simp [wrongTo]
  | n + 1, h => by
    rw [wrongTo_succ (by omega), List.length_append, List.take_succ_eq_append_getElem (by omega), List.flatten_append, List.length_append]
    have h1 := wrongTo_len f xss n (by omega)
    have h2 := wrongRow_len f n xss[n]
    simp only [List.flatten_cons, List.flatten_nil, List.append_nil]
    omega
theorem wrongRow_step {f : Ltr → Int} {i : Nat} {ys : List Ltr} {m : Nat} (h : m < ys.length) : wrongRow f i (ys.take (m + 1)) = if f ys[m] = (i : Int) then wrongRow f i (ys.take m) else wrongRow f i (ys.take m) ++ [ys[m].id] := by
  unfold wrongRow
  rw [List.take_succ_eq_append_getElem h, List.filter_append, List.map_append]
  by_cases hf : f ys[m] = (i : Int)
  · simp [hf]
  · simp [hf]
def wrongL (p : Pln) (xss : List (List Ltr)) (k : Int) : List Int := if binsOk p xss k then wrongTo (fun x => binI p x.code k.toNat) xss xss.length else []
theorem wrongL_no {p : Pln} {xss : List (List Ltr)} {k : Int} (h : binsOk p xss k = false) : wrongL p xss k = [] := by unfold wrongL; rw [h]; rfl
theorem wrongL_yes {p : Pln} {xss : List (List Ltr)} {k : Int} (h : binsOk p xss k = true) : wrongL p xss k = wrongTo (fun x => binI p x.code k.toNat) xss xss.length := by unfold wrongL; rw [if_pos h]


end Go.Proofs.YtffbcfaahegglaaDoor

namespace Go.Proofs.YtffbcfaahegglaaDoor
open Go.RowKit

/-! ### Forwarding -/
def sentL (fs : List Fwd) (xs : List Ltr) : List Ltr := (xs.filter fun x => (follow fs x.code).2.2).map fun x => ⟨x.id, (follow fs x.code).1⟩
def stuckL (fs : List Fwd) (xs : List Ltr) : List Ltr := xs.filter fun x => !(follow fs x.code).2.2
theorem sentL_hit {fs : List Fwd} {xs : List Ltr} {k : Nat} (h : k < xs.length) (hf : (follow fs xs[k].code).2.2 = true) : sentL fs (xs.take (k + 1)) = sentL fs (xs.take k) ++ [⟨xs[k].id, (follow fs xs[k].code).1⟩] := by
  unfold sentL; rw [List.take_succ_eq_append_getElem h, List.filter_append, List.map_append]; simp [hf]
theorem sentL_miss {fs : List Fwd} {xs : List Ltr} {k : Nat} (h : k < xs.length) (hf : (follow fs xs[k].code).2.2 = false) : sentL fs (xs.take (k + 1)) = sentL fs (xs.take k) := by
  unfold sentL; rw [List.take_succ_eq_append_getElem h, List.filter_append, List.map_append]; simp [hf]
theorem stuckL_hit {fs : List Fwd} {xs : List Ltr} {k : Nat} (h : k < xs.length) (hf : (follow fs xs[k].code).2.2 = true) : stuckL fs (xs.take (k + 1)) = stuckL fs (xs.take k) := by
  unfold stuckL; rw [List.take_succ_eq_append_getElem h, List.filter_append]; simp [hf]
theorem stuckL_miss {fs : List Fwd} {xs : List Ltr} {k : Nat} (h : k < xs.length) (hf : (follow fs xs[k].code).2.2 = false) : stuckL fs (xs.take (k + 1)) = stuckL fs (xs.take k) ++ [xs[k]] := by
  unfold stuckL; rw [List.take_succ_eq_append_getElem h, List.filter_append]; simp [hf]
theorem sentL_len (fs : List Fwd) (xs : List Ltr) : (sentL fs xs).length ≤ xs.length := by
  unfold sentL; rw [List.length_map]; exact List.length_filter_le _ _
theorem stuckL_len (fs : List Fwd) (xs : List Ltr) : (stuckL fs xs).length ≤ xs.length := List.length_filter_le _ _
theorem take_len_le {α : Type} (xs : List α) (k : Nat) : (xs.take k).length ≤ k := by rw [List.length_take]; omega
def fwOk (fs : List Fwd) (xs : List Ltr) : Bool := fwdsOk fs && okB xs
def fwSent (fs : List Fwd) (xs : List Ltr) : List Ltr := if fwOk fs xs then sentL fs xs else []
def fwStuck (fs : List Fwd) (xs : List Ltr) : List Ltr := if fwOk fs xs then stuckL fs xs else []
theorem fwOk_len {fs : List Fwd} {xs : List Ltr} (h : fwOk fs xs = true) : fs.length ≤ 30 ∧ xs.length ≤ 60 := by
  unfold fwOk at h
  rw [Bool.and_eq_true] at h
  exact ⟨(fwdsOk_iff.1 h.1).1, okB_len' h.2⟩
theorem fwSent_len (fs : List Fwd) (xs : List Ltr) : (fwSent fs xs).length ≤ 60 := by
  unfold fwSent
  split
  · exact Nat.le_trans (sentL_len _ _) (fwOk_len (by assumption)).2
  · simp
theorem fwStuck_len (fs : List Fwd) (xs : List Ltr) : (fwStuck fs xs).length ≤ 60 := by
  unfold fwStuck
  split
  · exact Nat.le_trans (stuckL_len _ _) (fwOk_len (by assumption)).2
  · simp

/-! ### Holding -/
def freeL (hs : List ByteArray) (xs : List Ltr) : List Ltr := xs.filter fun x => decide (rkI hs x.code < 0)
def heldL (hs : List ByteArray) (xs : List Ltr) : List Ltr := xs.filter fun x => !decide (rkI hs x.code < 0)
theorem freeL_hit {hs : List ByteArray} {xs : List Ltr} {k : Nat} (h : k < xs.length) (hf : rkI hs xs[k].code < 0) : freeL hs (xs.take (k + 1)) = freeL hs (xs.take k) ++ [xs[k]] := by
  unfold freeL; rw [List.take_succ_eq_append_getElem h, List.filter_append]; simp [hf]
theorem freeL_miss {hs : List ByteArray} {xs : List Ltr} {k : Nat} (h : k < xs.length) (hf : ¬ rkI hs xs[k].code < 0) : freeL hs (xs.take (k + 1)) = freeL hs (xs.take k) := by
  unfold freeL; rw [List.take_succ_eq_append_getElem h, List.filter_append]; simp [hf]
theorem heldL_hit {hs : List ByteArray} {xs : List Ltr} {k : Nat} (h : k < xs.length) (hf : rkI hs xs[k].code < 0) : heldL hs (xs.take (k + 1)) = heldL hs (xs.take k) := by
  unfold heldL; rw [List.take_succ_eq_append_getElem h, List.filter_append]; simp [hf]
theorem heldL_miss {hs : List ByteArray} {xs : List Ltr} {k : Nat} (h : k < xs.length) (hf : ¬ rkI hs xs[k].code < 0) : heldL hs (xs.take (k + 1)) = heldL hs (xs.take k) ++ [xs[k]] := by
  unfold heldL; rw [List.take_succ_eq_append_getElem h, List.filter_append]; simp [hf]
theorem freeL_len (hs : List ByteArray) (xs : List Ltr) : (freeL hs xs).length ≤ xs.length := List.length_filter_le _ _
theorem heldL_len (hs : List ByteArray) (xs : List Ltr) : (heldL hs xs).length ≤ xs.length := List.length_filter_le _ _
def hbOk (hs : List ByteArray) (xs : List Ltr) : Bool := okB xs && heldOk hs
def hbFree (hs : List ByteArray) (xs : List Ltr) : List Ltr := if hbOk hs xs then freeL hs xs else []
def hbHeld (hs : List ByteArray) (xs : List Ltr) : List Ltr := if hbOk hs xs then heldL hs xs else []
theorem hbOk_len {hs : List ByteArray} {xs : List Ltr} (h : hbOk hs xs = true) : xs.length ≤ 60 ∧ hs.length ≤ 30 := by
  unfold hbOk heldOk at h
  simp only [Bool.and_eq_true, decide_eq_true_iff] at h
  exact ⟨okB_len' h.1, h.2.1⟩
theorem hbHeld_len (hs : List ByteArray) (xs : List Ltr) : (hbHeld hs xs).length ≤ 60 := by
  unfold hbHeld
  split
  · exact Nat.le_trans (heldL_len _ _) (hbOk_len (by assumption)).1
  · simp

/-! ### The report -/
structure Rpt where
  round : List Ltr
  strange : List Ltr
  held : List Ltr
  stuck : List Ltr
def dayRpt (d : Dy) (xs : List Ltr) : Rpt :=
  ⟨rpRound d.plan (hbFree d.held (fwSent d.fwds xs)), rpRest d.plan (hbFree d.held (fwSent d.fwds xs)), hbHeld d.held (fwSent d.fwds xs), fwStuck d.fwds xs⟩
def rdOk (d : Dy) (xs : List Ltr) : Bool := dayOk d && okB xs
def rptOf (d : Dy) (xs : List Ltr) : Rpt := if rdOk d xs then dayRpt d xs else ⟨[], [], [], []⟩
theorem rpOk_len {p : Pln} {xs : List Ltr} (h : rpOk p xs = true) : xs.length ≤ 60 := by
  unfold rpOk at h
  rw [Bool.and_eq_true] at h
  exact okB_len' h.2
theorem rpRound_len (p : Pln) (xs : List Ltr) : (rpRound p xs).length ≤ 60 := by
  unfold rpRound
  split
  · exact Nat.le_trans (passesN_len _ _ _ _) (rpOk_len (by assumption))
  · simp
theorem rpRest_len (p : Pln) (xs : List Ltr) : (rpRest p xs).length ≤ 60 := by
  unfold rpRest restOf
  split
  · exact Nat.le_trans (List.length_filter_le _ _) (rpOk_len (by assumption))
  · simp
theorem rptOf_len (d : Dy) (xs : List Ltr) : (rptOf d xs).round.length ≤ 60 ∧ (rptOf d xs).strange.length ≤ 60 ∧ (rptOf d xs).held.length ≤ 60 ∧ (rptOf d xs).stuck.length ≤ 60 := by
  unfold rptOf
  split
  · exact ⟨rpRound_len _ _, rpRest_len _ _, hbHeld_len _ _, fwStuck_len _ _⟩
  · simp

def rdR (w : World) (B : Nat) (v : Value) (r : Rpt) : Prop :=
  ∃ v0 v1 v2 v3, v = .agg #[v0, v1, v2, v3] ∧ rd w B v0 r.round ∧ rd w B v1 r.strange ∧ rd w B v2 r.held ∧ rd w B v3 r.stuck
theorem rdR.below {w w' : World} {B : Nat} {v : Value} {r : Rpt} (h : rdR w B v r) (hb : Below B w w') : rdR w' B v r := by
  obtain ⟨v0, v1, v2, v3, h1, h2, h3, h4, h5⟩ := h
  exact ⟨v0, v1, v2, v3, h1, h2.below hb, h3.below hb, h4.below hb, h5.below hb⟩
theorem rdR.more {w : World} {B B' : Nat} {v : Value} {r : Rpt} (h : rdR w B v r) (hB : B ≤ B') : rdR w B' v r := by
  obtain ⟨v0, v1, v2, v3, h1, h2, h3, h4, h5⟩ := h
  exact ⟨v0, v1, v2, v3, h1, h2.more hB, h3.more hB, h4.more hB, h5.more hB⟩
theorem rdR.on {w w' : World} {v : Value} {r : Rpt} (h : rdR w w.heap.size v r) (hb : Below w.heap.size w w') : rdR w' w'.heap.size v r := (h.below hb).more hb.size
theorem openR {w : World} {B : Nat} {v : Value} {r : Rpt} (h : rdR w B v r) : ∃ A0 c0 A1 c1 A2 c2 A3 c3, v = .agg #[.slice A0 r.round.length c0, .slice A1 r.strange.length c1, .slice A2 r.held.length c2, .slice A3 r.stuck.length c3] := by
  obtain ⟨v0, v1, v2, v3, rfl, ⟨A0, n0, c0, rfl, rfl, _⟩, ⟨A1, n1, c1, rfl, rfl, _⟩, ⟨A2, n2, c2, rfl, rfl, _⟩, ⟨A3, n3, c3, rfl, rfl, _⟩⟩ := h
  exact ⟨A0, c0, A1, c1, A2, c2, A3, c3, rfl⟩
theorem partsR {w : World} {B : Nat} {r : Rpt} {v0 v1 v2 v3 : Value} (h : rdR w B (.agg #[v0, v1, v2, v3]) r) : rd w B v0 r.round ∧ rd w B v1 r.strange ∧ rd w B v2 r.held ∧ rd w B v3 r.stuck := by
  obtain ⟨a0, a1, a2, a3, h1, h2, h3, h4, h5⟩ := h
  injection h1 with h1
  injection h1 with h1
  simp only [List.cons.injEq, and_true] at h1
  obtain ⟨rfl, rfl, rfl, rfl⟩ := h1
  exact ⟨h2, h3, h4, h5⟩
/-- Four rows of the call's own, each apart from the others. -/
def ownR (T base : Nat) (w : World) (v : Value) (r : Rpt) : Prop :=
  ∃ v0 v1 v2 v3, v = .agg #[v0, v1, v2, v3] ∧ own T base w v0 r.round ∧ own T base w v1 r.strange ∧ own T base w v2 r.held ∧ own T base w v3 r.stuck ∧ (apart v0 v1 ∧ apart v0 v2 ∧ apart v0 v3 ∧ apart v1 v2 ∧ apart v1 v3 ∧ apart v2 v3)
theorem ownR.rd {T base : Nat} {w : World} {v : Value} {r : Rpt} (h : ownR T base w v r) : rdR w w.heap.size v r := by
  obtain ⟨v0, v1, v2, v3, h1, h2, h3, h4, h5, _⟩ := h
  exact ⟨v0, v1, v2, v3, h1, h2.rd, h3.rd, h4.rd, h5.rd⟩
theorem ownR.below {T base : Nat} {w w' : World} {v : Value} {r : Rpt} (h : ownR T base w v r) (hb : Below w.heap.size w w') : ownR T base w' v r := by
  obtain ⟨v0, v1, v2, v3, h1, h2, h3, h4, h5, h6⟩ := h
  exact ⟨v0, v1, v2, v3, h1, h2.below hb, h3.below hb, h4.below hb, h5.below hb, h6⟩
theorem ownR.none_ (T base : Nat) (w : World) : ownR T base w (.agg #[.slice none 0 0, .slice none 0 0, .slice none 0 0, .slice none 0 0]) ⟨[], [], [], []⟩ :=
  ⟨_, _, _, _, rfl, own.nil_ _ _ _, own.nil_ _ _ _, own.nil_ _ _ _, own.nil_ _ _ _, .inl rfl, .inl rfl, .inl rfl, .inl rfl, .inl rfl, .inl rfl⟩
/-- The same, in blocks before hi. -/
def segR (T lo hi : Nat) (w : World) (v : Value) (r : Rpt) : Prop :=
  ∃ v0 v1 v2 v3, v = .agg #[v0, v1, v2, v3] ∧ seg T lo hi w v0 r.round ∧ seg T lo hi w v1 r.strange ∧ seg T lo hi w v2 r.held ∧ seg T lo hi w v3 r.stuck ∧ (apart v0 v1 ∧ apart v0 v2 ∧ apart v0 v3 ∧ apart v1 v2 ∧ apart v1 v3 ∧ apart v2 v3)
theorem segR.of {T lo : Nat} {w : World} {v : Value} {r : Rpt} (h : ownR T lo w v r) : segR T lo w.heap.size w v r := by
  obtain ⟨v0, v1, v2, v3, h1, h2, h3, h4, h5, h6⟩ := h
  exact ⟨v0, v1, v2, v3, h1, seg.of h2, seg.of h3, seg.of h4, seg.of h5, h6⟩
theorem segR.below {T lo hi : Nat} {w w' : World} {v : Value} {r : Rpt} (h : segR T lo hi w v r) (hb : Below w.heap.size w w') : segR T lo hi w' v r := by
  obtain ⟨v0, v1, v2, v3, h1, h2, h3, h4, h5, h6⟩ := h
  exact ⟨v0, v1, v2, v3, h1, h2.below hb, h3.below hb, h4.below hb, h5.below hb, h6⟩
theorem segR.out {T lo hi a b : Nat} {w w' : World} {v : Value} {r : Rpt} (h : segR T lo hi w v r) (ho : OutI a b w w') (hd : hi ≤ a ∨ b ≤ lo) : segR T lo hi w' v r := by
  obtain ⟨v0, v1, v2, v3, h1, h2, h3, h4, h5, h6⟩ := h
  exact ⟨v0, v1, v2, v3, h1, h2.out ho hd, h3.out ho hd, h4.out ho hd, h5.out ho hd, h6⟩
theorem segR.rd {T lo hi : Nat} {w : World} {v : Value} {r : Rpt} (h : segR T lo hi w v r) : rdR w w.heap.size v r := by
  obtain ⟨v0, v1, v2, v3, h1, h2, h3, h4, h5, _⟩ := h
  exact ⟨v0, v1, v2, v3, h1, h2.rd, h3.rd, h4.rd, h5.rd⟩

end Go.Proofs.YtffbcfaahegglaaDoor

namespace Go.Proofs.YtffbcfaahegglaaDoor
open Go.RowKit

theorem heldOk_bad {xs : List ByteArray} {k : Nat} (hk : k < xs.length) (h : isCode xs[k] = false) : heldOk xs = false := by
  unfold heldOk
  rw [Bool.and_eq_false_iff]
  exact .inr (List.all_eq_false.2 ⟨xs[k], List.getElem_mem _, by simp [h]⟩)
theorem heldOk_all {xs : List ByteArray} (h : ∀ j (hj : j < xs.length), isCode xs[j] = true) : heldOk xs = decide (xs.length ≤ 30) := by
  unfold heldOk
  rw [List.all_eq_true.2 fun x hx => by
    obtain ⟨j, hj, rfl⟩ := List.getElem_of_mem hx
    exact h j hj, Bool.and_true]

set_option maxHeartbeats 800000 in
theorem spec_DayValid (v : Value) (d : Dy) (w : World) (hv : rdD w w.heap.size v d) :
    Calls Tryd.prog 96 #[v] w fun e w' => e = .returned (.bool (dayOk d)) ∧ Below w.heap.size w w' := by
  obtain ⟨A0, c0, A1, c1, A2, c2, e0⟩ := openD hv
  obtain ⟨w0, hw0⟩ : ∃ w0, w0 = w.alloc (Obj.cells #[.int .i64 d.plan.bins, .int .i64 d.plan.passes, .slice A0 d.plan.order.length c0, .slice A1 d.fwds.length c1, .slice A2 d.held.length c2, .int .i64 d.size] 92) := ⟨_, rfl⟩
  have q0 := box_cells hw0 0 (.int .i64 d.plan.bins) rfl
  have q1 := box_cells hw0 1 (.int .i64 d.plan.passes) rfl
  have q2 := box_cells hw0 2 (.slice A0 d.plan.order.length c0) rfl
  have q3 := box_cells hw0 3 (.slice A1 d.fwds.length c1) rfl
  have q4 := box_cells hw0 4 (.slice A2 d.held.length c2) rfl
  have q5 := box_cells hw0 5 (.int .i64 d.size) rfl
  have HT := Lib.hid (box_later hw0).1
  have hv1 := hv.on HT.out
  subst e0
  obtain ⟨hp, ho, hf, hh, _⟩ := partsD hv1
  have HP := Lib.hid hp; have HF := Lib.hid hf; have HH := Lib.hid hh
  have hm : d.held.length ≤ 9223372036854775807 := by
    obtain ⟨A, n, c, e1, e2, e3, e4, e5⟩ := hh
    unfold maxLen at e4
    omega
  obtain ⟨A, n, c, e1, e2, e3, e4, hrr⟩ := hh
  injection e1 with e1 e1' e1''
  subst e1 e1' e1''
  have HR := Lib.hid hrr
  clear hp ho hf hv hv1 hrr e2
  have HW0 := Lib.hid hw0; clear hw0
  have l0 := Below.refl w0.heap.size w0
  have HQ : Hid (dayOk d = (planOk d.plan && fwdsOk d.fwds && heldOk d.held && sizeOk d.size)) := rfl
  go_enter Tryd.func96, Tryd.ntmps96
  go_wp2
  rw [← HW0.out]
  go_loop [3] (fun i => ∃ k : Nat, k ≤ d.held.length ∧ i = .int .i64 k ∧ Hid (∀ j (h : j < d.held.length), j < k → isCode d.held[j] = true)) (fun i => d.held.length - (intOf i).toNat)
  case atStart => exact ⟨0, Nat.zero_le _, rfl, fun j _ hj => absurd hj (Nat.not_lt_zero j)⟩
  case round =>
    obtain ⟨k, hk, rfl, HG⟩ := hrel
    by_cases hlt : k < d.held.length
    · obtain ⟨b, o, rfl, hb, hok, x1⟩ := HR.out.strU k hlt
      have HX : Hid (∀ h : isCode d.held[k] = true, ∀ j (h1 : j < d.held.length), j < k + 1 → isCode d.held[j] = true) := fun h j h1 hj => by
        by_cases hjk : j < k
        · exact HG.out j h1 hjk
        · obtain rfl : j = k := by omega
          exact h
      have HY := Lib.hid (heldOk_bad hlt)
      generalize d.held[k] = x at *
      obtain ⟨r, HRR⟩ : ∃ r, Hid (isCode x = r) := ⟨_, rfl⟩
      go_wp2_with fail
      refine (spec_CodeValid x _ hok).mono ?_
      rw [HRR.out]
      rintro e w1 ⟨rfl, rfl⟩
      cases r
      · go_wp2_with fail
        go_ret
        exact ⟨ret_bool (by rw [HQ.out, HY.out HRR.out]; simp), HT.out⟩
      · go_wp2_with fail
        go_round
        case rel => exact ⟨k + 1, by omega, by go_num, HX.out HRR.out⟩
        case measure => simp [intOf]; omega
    · have HE := Lib.hid (heldOk_all fun j hj => HG.out j hj (by omega))
      go_wp2_with fail
      refine (spec_PlanValid _ d.plan _ HP.out).mono ?_
      rintro e w1 ⟨rfl, b1⟩
      have l1 := later_trans l0 b1
      cases h1 : planOk d.plan
      · have H1 := Lib.hid h1; clear h1
        go_wp2_with fail
        go_ret
        exact ⟨ret_bool (by rw [HQ.out, H1.out]; rfl), later_trans HT.out l1⟩
      have H1 := Lib.hid h1; clear h1
      go_wp2_with fail
      refine (spec_ForwardsValid _ d.fwds _ (HF.out.on l1)).mono ?_
      rintro e w2 ⟨rfl, rfl⟩
      cases h2 : fwdsOk d.fwds
      · have H2 := Lib.hid h2; clear h2
        go_wp2_with fail
        go_ret
        exact ⟨ret_bool (by rw [HQ.out, H1.out, H2.out]; rfl), later_trans HT.out l1⟩
      have H2 := Lib.hid h2; clear h2
      by_cases h30 : (d.held.length : Int) ≤ 30
      · have HE2 : Hid (heldOk d.held = true) := by show _ = _; rw [HE.out, decide_eq_true (by omega)]
        go_wp2_with fail
        refine (spec_l5Size d.size _).mono ?_
        rintro e w3 ⟨rfl, rfl⟩
        obtain ⟨r, HRR⟩ : ∃ r, Hid (sizeOk d.size = r) := ⟨_, rfl⟩
        rw [HRR.out]
        go_wp2_with fail
        go_ret
        exact ⟨ret_bool (by rw [HQ.out, H1.out, H2.out, HE2.out, HRR.out]; rfl), later_trans HT.out l1⟩
      · have HE2 : Hid (heldOk d.held = false) := by show _ = _; rw [HE.out, decide_eq_false (by omega)]
        have hd := decide_eq_false h30
        go_wp2_with fail
        go_ret
        exact ⟨ret_bool (by rw [HQ.out, H1.out, H2.out, HE2.out]; rfl), later_trans HT.out l1⟩

def rankI (p : Pln) (c : ByteArray) : Int := if planOk p then rkI p.order c else -1

end Go.Proofs.YtffbcfaahegglaaDoor
