/- RD F2 -/
import Derived.Test.YtiaepapdofcnjaaQ3
import Derived.Test.YtiaepapdofcnjaaQ12
import Derived.Test.YtiaepapdofcnjaaQ13
import Derived.Test.YtiaepapdofcnjaaQ10
namespace Go.Proofs.Ytiaepapdofcnjaa
open Go.RowKit

/-! ### Forwarding -/
def sentL (fs : List Fwd) (xs : List Ltr) : List Ltr := (xs.filter fun x => (follow fs x.code).2.2).map fun x => ⟨x.id, (follow fs x.code).1⟩
def stuckL (fs : List Fwd) (xs : List Ltr) : List Ltr := xs.filter fun x => !(follow fs x.code).2.2
theorem sentL_hit {fs : List Fwd} {xs : List Ltr} {k : Nat} (h : k < xs.length) (hf : (follow fs xs[k].code).2.2 = true) : sentL fs (xs.take (k + 1)) = sentL fs (xs.take k) ++ [⟨xs[k].id, (follow fs xs[k].code).1⟩] := by
  unfold sentL; rw [List.take_succ_eq_append_getElem h, List.filter_append, List.map_append]; simp [hf]
theorem sentL_miss {fs : List Fwd} {xs : List Ltr} {k : Nat} (h : k < xs.length) (hf : (follow fs xs[k].code).2.2 = false) : sentL fs (xs.take (k + 1)) = sentL fs (xs.take k) := by
  unfold sentL; rw [List.take_succ_eq_append_getElem h, List.filter_append, List.map_append]; simp [hf]
theorem stuckL_hit {fs : List Fwd} {xs : List Ltr} {k : Nat} (h : k < xs.length) (hf : (follow fs xs[k].code).2.2 = true) : stuckL fs (xs.take (k + 1)) = stuckL fs (xs.take k) := by
  unfold stuckL; rw [List.take_succ_eq_append_getElem h, List.filter_append]; simp [hf]
theorem stuckL_miss {fs : List Fwd} {xs : List Ltr} {k : Nat} (h : k < xs.length) (hf : (follow fs xs[k].code).2.2 = false) : stuckL fs (xs.take (k + 1)) = stuckL fs (xs.take k) ++ [xs[k]] := by
  unfold stuckL; rw [List.take_succ_eq_append_getElem h, List.filter_append]; simp [hf]
theorem sentL_len (fs : List Fwd) (xs : List Ltr) : (sentL fs xs).length ≤ xs.length := by
  unfold sentL; rw [List.length_map]; exact List.length_filter_le _ _
theorem stuckL_len (fs : List Fwd) (xs : List Ltr) : (stuckL fs xs).length ≤ xs.length := List.length_filter_le _ _
theorem take_len_le {α : Type} (xs : List α) (k : Nat) : (xs.take k).length ≤ k := by rw [List.length_take]; omega
def fwOk (fs : List Fwd) (xs : List Ltr) : Bool := fwdsOk fs && okB xs
def fwSent (fs : List Fwd) (xs : List Ltr) : List Ltr := if fwOk fs xs then sentL fs xs else []
def fwStuck (fs : List Fwd) (xs : List Ltr) : List Ltr := if fwOk fs xs then stuckL fs xs else []
theorem fwOk_len {fs : List Fwd} {xs : List Ltr} (h : fwOk fs xs = true) : fs.length ≤ 30 ∧ xs.length ≤ 60 := by
  unfold fwOk at h
  rw [Bool.and_eq_true] at h
  exact ⟨(fwdsOk_iff.1 h.1).1, okB_len' h.2⟩
theorem fwSent_len (fs : List Fwd) (xs : List Ltr) : (fwSent fs xs).length ≤ 60 := by
  unfold fwSent
  split
  · exact Nat.le_trans (sentL_len _ _) (fwOk_len (by assumption)).2
  · simp
theorem fwStuck_len (fs : List Fwd) (xs : List Ltr) : (fwStuck fs xs).length ≤ 60 := by
  unfold fwStuck
  split
  · exact Nat.le_trans (stuckL_len _ _) (fwOk_len (by assumption)).2
  · simp

/-! ### Holding -/
def freeL (hs : List ByteArray) (xs : List Ltr) : List Ltr := xs.filter fun x => decide (rkI hs x.code < 0)
def heldL (hs : List ByteArray) (xs : List Ltr) : List Ltr := xs.filter fun x => !decide (rkI hs x.code < 0)
theorem freeL_hit {hs : List ByteArray} {xs : List Ltr} {k : Nat} (h : k < xs.length) (hf : rkI hs xs[k].code < 0) : freeL hs (xs.take (k + 1)) = freeL hs (xs.take k) ++ [xs[k]] := by
  unfold freeL; rw [List.take_succ_eq_append_getElem h, List.filter_append]; simp [hf]
theorem freeL_miss {hs : List ByteArray} {xs : List Ltr} {k : Nat} (h : k < xs.length) (hf : ¬ rkI hs xs[k].code < 0) : freeL hs (xs.take (k + 1)) = freeL hs (xs.take k) := by
  unfold freeL; rw [List.take_succ_eq_append_getElem h, List.filter_append]; simp [hf]
theorem heldL_hit {hs : List ByteArray} {xs : List Ltr} {k : Nat} (h : k < xs.length) (hf : rkI hs xs[k].code < 0) : heldL hs (xs.take (k + 1)) = heldL hs (xs.take k) := by
  unfold heldL; rw [List.take_succ_eq_append_getElem h, List.filter_append]; simp [hf]
theorem heldL_miss {hs : List ByteArray} {xs : List Ltr} {k : Nat} (h : k < xs.length) (hf : ¬ rkI hs xs[k].code < 0) : heldL hs (xs.take (k + 1)) = heldL hs (xs.take k) ++ [xs[k]] := by
  unfold heldL; rw [List.take_succ_eq_append_getElem h, List.filter_append]; simp [hf]
theorem freeL_len (hs : List ByteArray) (xs : List Ltr) : (freeL hs xs).length ≤ xs.length := List.length_filter_le _ _
theorem heldL_len (hs : List ByteArray) (xs : List Ltr) : (heldL hs xs).length ≤ xs.length := List.length_filter_le _ _
def hbOk (hs : List ByteArray) (xs : List Ltr) : Bool := okB xs && heldOk hs
def hbFree (hs : List ByteArray) (xs : List Ltr) : List Ltr := if hbOk hs xs then freeL hs xs else []
def hbHeld (hs : List ByteArray) (xs : List Ltr) : List Ltr := if hbOk hs xs then heldL hs xs else []
theorem hbOk_len {hs : List ByteArray} {xs : List Ltr} (h : hbOk hs xs = true) : xs.length ≤ 60 ∧ hs.length ≤ 30 := by
  unfold hbOk heldOk at h
  simp only [Bool.and_eq_true, decide_eq_true_iff] at h
  exact ⟨okB_len' h.1, h.2.1⟩
theorem hbHeld_len (hs : List ByteArray) (xs : List Ltr) : (hbHeld hs xs).length ≤ 60 := by
  unfold hbHeld
  split
  · exact Nat.le_trans (heldL_len _ _) (hbOk_len (by assumption)).1
  · simp

/-! ### The report -/
structure Rpt where
  round : List Ltr
  strange : List Ltr
  held : List Ltr
  stuck : List Ltr
def dayRpt (d : Dy) (xs : List Ltr) : Rpt :=
  ⟨rpRound d.plan (hbFree d.held (fwSent d.fwds xs)), rpRest d.plan (hbFree d.held (fwSent d.fwds xs)), hbHeld d.held (fwSent d.fwds xs), fwStuck d.fwds xs⟩
def rdOk (d : Dy) (xs : List Ltr) : Bool := dayOk d && okB xs
def rptOf (d : Dy) (xs : List Ltr) : Rpt := if rdOk d xs then dayRpt d xs else ⟨[], [], [], []⟩
theorem rpOk_len {p : Pln} {xs : List Ltr} (h : rpOk p xs = true) : xs.length ≤ 60 := by
  unfold rpOk at h
  rw [Bool.and_eq_true] at h
  exact okB_len' h.2
theorem rpRound_len (p : Pln) (xs : List Ltr) : (rpRound p xs).length ≤ 60 := by
  unfold rpRound
  split
  · exact Nat.le_trans (passesN_len _ _ _ _) (rpOk_len (by assumption))
  · simp
theorem rpRest_len (p : Pln) (xs : List Ltr) : (rpRest p xs).length ≤ 60 := by
  unfold rpRest restOf
  split
  · exact Nat.le_trans (List.length_filter_le _ _) (rpOk_len (by assumption))
  · simp
theorem rptOf_len (d : Dy) (xs : List Ltr) : (rptOf d xs).round.length ≤ 60 ∧ (rptOf d xs).strange.length ≤ 60 ∧ (rptOf d xs).held.length ≤ 60 ∧ (rptOf d xs).stuck.length ≤ 60 := by
  unfold rptOf
  split
  · exact ⟨rpRound_len _ _, rpRest_len _ _, hbHeld_len _ _, fwStuck_len _ _⟩
  · simp

def rdR (w : World) (B : Nat) (v : Value) (r : Rpt) : Prop :=
  ∃ v0 v1 v2 v3, v = .agg #[v0, v1, v2, v3] ∧ rd w B v0 r.round ∧ rd w B v1 r.strange ∧ rd w B v2 r.held ∧ rd w B v3 r.stuck
theorem rdR.below {w w' : World} {B : Nat} {v : Value} {r : Rpt} (h : rdR w B v r) (hb : Below B w w') : rdR w' B v r := by
  obtain ⟨v0, v1, v2, v3, h1, h2, h3, h4, h5⟩ := h
  exact ⟨v0, v1, v2, v3, h1, h2.below hb, h3.below hb, h4.below hb, h5.below hb⟩
theorem rdR.more {w : World} {B B' : Nat} {v : Value} {r : Rpt} (h : rdR w B v r) (hB : B ≤ B') : rdR w B' v r := by
  obtain ⟨v0, v1, v2, v3, h1, h2, h3, h4, h5⟩ := h
  exact ⟨v0, v1, v2, v3, h1, h2.more hB, h3.more hB, h4.more hB, h5.more hB⟩
theorem rdR.on {w w' : World} {v : Value} {r : Rpt} (h : rdR w w.heap.size v r) (hb : Below w.heap.size w w') : rdR w' w'.heap.size v r := (h.below hb).more hb.size
theorem openR {w : World} {B : Nat} {v : Value} {r : Rpt} (h : rdR w B v r) : ∃ A0 c0 A1 c1 A2 c2 A3 c3, v = .agg #[.slice A0 r.round.length c0, .slice A1 r.strange.length c1, .slice A2 r.held.length c2, .slice A3 r.stuck.length c3] := by
  obtain ⟨v0, v1, v2, v3, rfl, ⟨A0, n0, c0, rfl, rfl, _⟩, ⟨A1, n1, c1, rfl, rfl, _⟩, ⟨A2, n2, c2, rfl, rfl, _⟩, ⟨A3, n3, c3, rfl, rfl, _⟩⟩ := h
  exact ⟨A0, c0, A1, c1, A2, c2, A3, c3, rfl⟩
theorem partsR {w : World} {B : Nat} {r : Rpt} {v0 v1 v2 v3 : Value} (h : rdR w B (.agg #[v0, v1, v2, v3]) r) : rd w B v0 r.round ∧ rd w B v1 r.strange ∧ rd w B v2 r.held ∧ rd w B v3 r.stuck := by
  obtain ⟨a0, a1, a2, a3, h1, h2, h3, h4, h5⟩ := h
  injection h1 with h1
  injection h1 with h1
  simp only [List.cons.injEq, and_true] at h1
  obtain ⟨rfl, rfl, rfl, rfl⟩ := h1
  exact ⟨h2, h3, h4, h5⟩
/-- Four rows of the call's own, each apart from the others. -/
def ownR (T base : Nat) (w : World) (v : Value) (r : Rpt) : Prop :=
  ∃ v0 v1 v2 v3, v = .agg #[v0, v1, v2, v3] ∧ own T base w v0 r.round ∧ own T base w v1 r.strange ∧ own T base w v2 r.held ∧ own T base w v3 r.stuck ∧ (apart v0 v1 ∧ apart v0 v2 ∧ apart v0 v3 ∧ apart v1 v2 ∧ apart v1 v3 ∧ apart v2 v3)
theorem ownR.rd {T base : Nat} {w : World} {v : Value} {r : Rpt} (h : ownR T base w v r) : rdR w w.heap.size v r := by
  obtain ⟨v0, v1, v2, v3, h1, h2, h3, h4, h5, _⟩ := h
  exact ⟨v0, v1, v2, v3, h1, h2.rd, h3.rd, h4.rd, h5.rd⟩
theorem ownR.below {T base : Nat} {w w' : World} {v : Value} {r : Rpt} (h : ownR T base w v r) (hb : Below w.heap.size w w') : ownR T base w' v r := by
  obtain ⟨v0, v1, v2, v3, h1, h2, h3, h4, h5, h6⟩ := h
  exact ⟨v0, v1, v2, v3, h1, h2.below hb, h3.below hb, h4.below hb, h5.below hb, h6⟩
theorem ownR.none_ (T base : Nat) (w : World) : ownR T base w (.agg #[.slice none 0 0, .slice none 0 0, .slice none 0 0, .slice none 0 0]) ⟨[], [], [], []⟩ :=
  ⟨_, _, _, _, rfl, own.nil_ _ _ _, own.nil_ _ _ _, own.nil_ _ _ _, own.nil_ _ _ _, .inl rfl, .inl rfl, .inl rfl, .inl rfl, .inl rfl, .inl rfl⟩
/-- The same, in blocks before hi. -/
def segR (T lo hi : Nat) (w : World) (v : Value) (r : Rpt) : Prop :=
  ∃ v0 v1 v2 v3, v = .agg #[v0, v1, v2, v3] ∧ seg T lo hi w v0 r.round ∧ seg T lo hi w v1 r.strange ∧ seg T lo hi w v2 r.held ∧ seg T lo hi w v3 r.stuck ∧ (apart v0 v1 ∧ apart v0 v2 ∧ apart v0 v3 ∧ apart v1 v2 ∧ apart v1 v3 ∧ apart v2 v3)
theorem segR.of {T lo : Nat} {w : World} {v : Value} {r : Rpt} (h : ownR T lo w v r) : segR T lo w.heap.size w v r := by
  obtain ⟨v0, v1, v2, v3, h1, h2, h3, h4, h5, h6⟩ := h
  exact ⟨v0, v1, v2, v3, h1, seg.of h2, seg.of h3, seg.of h4, seg.of h5, h6⟩
theorem segR.below {T lo hi : Nat} {w w' : World} {v : Value} {r : Rpt} (h : segR T lo hi w v r) (hb : Below w.heap.size w w') : segR T lo hi w' v r := by
  obtain ⟨v0, v1, v2, v3, h1, h2, h3, h4, h5, h6⟩ := h
  exact ⟨v0, v1, v2, v3, h1, h2.below hb, h3.below hb, h4.below hb, h5.below hb, h6⟩
theorem segR.out {T lo hi a b : Nat} {w w' : World} {v : Value} {r : Rpt} (h : segR T lo hi w v r) (ho : OutI a b w w') (hd : hi ≤ a ∨ b ≤ lo) : segR T lo hi w' v r := by
  obtain ⟨v0, v1, v2, v3, h1, h2, h3, h4, h5, h6⟩ := h
  exact ⟨v0, v1, v2, v3, h1, h2.out ho hd, h3.out ho hd, h4.out ho hd, h5.out ho hd, h6⟩
theorem segR.rd {T lo hi : Nat} {w : World} {v : Value} {r : Rpt} (h : segR T lo hi w v r) : rdR w w.heap.size v r := by
  obtain ⟨v0, v1, v2, v3, h1, h2, h3, h4, h5, _⟩ := h
  exact ⟨v0, v1, v2, v3, h1, h2.rd, h3.rd, h4.rd, h5.rd⟩

end Go.Proofs.Ytiaepapdofcnjaa

namespace Go.Proofs.Ytiaepapdofcnjaa
open Go.RowKit

theorem codeI_is {s : ByteArray} {r : Bool} {w : World} (hs : s.size ≤ maxLen) (h : isCode s = r) : Calls Try.prog 154 #[.string s] w fun e w' => e = .returned (.bool r) ∧ w = w' := by
  rw [← h]; exact impl_CodeValid s w hs
theorem codeS_is {s : ByteArray} {r : Bool} {w : World} (hs : s.size ≤ maxLen) (h : isCode s = r) : Calls Try.prog 145 #[.string s] w fun e w' => e = .returned (.bool r) ∧ w = w' := by
  rw [← h]; exact spec_CodeValid s w hs
theorem fwdI_ge (fs : List Fwd) (k : Nat) (c : ByteArray) {r : Int} (h : fwdI (fs.take k) c = r) : (fs.take k).all (fun y => !sEq y.src c) = !decide (0 ≤ r) := by
  have := fiI_ge (fun y : Fwd => sEq y.src c) (fs.take k)
  rw [← h]
  unfold fwdI
  rw [this, Bool.not_not]
theorem fwdI_self {fs : List Fwd} {k : Nat} (h : k < fs.length) : (fwdI fs fs[k].src == (k : Int)) = (fs.take k).all (fun y => !sEq y.src fs[k].src) :=
  fiI_self (p := fun y : Fwd => sEq y.src fs[k].src) h (sEq_refl _)

set_option maxRecDepth 100000 in
set_option maxHeartbeats 1600000 in
theorem spec_ForwardsValid (v : Value) (fs : List Fwd) (w : World) (hv : rd w w.heap.size v fs) :
    Calls Try.prog 146 #[v] w fun e w' => e = .returned (.bool (fwdsOk fs)) ∧ w = w' := by
  obtain ⟨A, n, cp, rfl, hn, hc, hm, hr⟩ := hv
  have hv0 := Lib.hid (show rd w w.heap.size (.slice A n cp) fs from ⟨A, n, cp, rfl, hn, hc, hm, hr⟩)
  subst hn
  unfold maxLen at hm
  have HR := Lib.hid hr; clear hr
  have l0 := Below.refl w.heap.size w
  go_enter Try.func146, Try.ntmps146
  go_wp2
  go_loop [3] (fun i => ∃ k : Nat, k ≤ fs.length ∧ i = .int .i64 k ∧ Hid (∀ j, j < k → goodF fs j = true)) (fun i => fs.length - (intOf i).toNat)
  case atStart => exact ⟨0, Nat.zero_le _, rfl, fun j hj => absurd hj (Nat.not_lt_zero j)⟩
  case round =>
    obtain ⟨k, hk, rfl, HG⟩ := hrel
    by_cases hlt : k < fs.length
    · obtain ⟨b, o, rfl, hb, ⟨ok1, ok2⟩, c1, c2⟩ := HR.out.fwdU k hlt
      have hG := Lib.hid (goodF_of hlt)
      have hS := Lib.hid (fwdI_self hlt)
      have hbad := Lib.hid (fun h => fwdsOk_bad hlt h)
      generalize fs[k] = x at *
      have hki : (k : Int) < (fs.length : Int) := by omega
      go_wp2_with fail
      refine (spec_CodeValid x.src _ ok1).mono ?_
      rintro e w1 ⟨rfl, rfl⟩
      cases h1 : isCode x.src
      · have H1 := Lib.hid h1; clear h1
        go_wp2_with fail
        go_ret
        exact ⟨ret_bool (hbad.out (by rw [hG.out, H1.out]; rfl)).symm, rfl⟩
      have H1 := Lib.hid h1; clear h1
      go_wp2_with fail
      refine (spec_CodeValid x.dst _ ok2).mono ?_
      rintro e w1 ⟨rfl, rfl⟩
      cases h2 : isCode x.dst
      · have H2 := Lib.hid h2; clear h2
        go_wp2_with fail
        go_ret
        exact ⟨ret_bool (hbad.out (by rw [hG.out, H1.out, H2.out]; rfl)).symm, rfl⟩
      have H2 := Lib.hid h2; clear h2
      obtain ⟨r, HRR⟩ : ∃ r, Hid (fwdI fs x.src = r) := ⟨_, rfl⟩
      go_wp2_with fail
      refine (spec_l4Index _ fs x.src _ hv0.out).mono ?_
      rw [HRR.out]
      rintro e w1 ⟨rfl, rfl⟩
      cases h3 : (r == (k : Int))
      · have H3 := Lib.hid h3
        have h3' : (r != (k : Int)) = true := by rw [bne, h3]; rfl
        clear h3
        go_wp2_with fail
        go_ret
        exact ⟨ret_bool (hbad.out (by rw [hG.out, ← hS.out, HRR.out, H3.out]; simp)).symm, rfl⟩
      · have H3 := Lib.hid h3
        have h3' : (r != (k : Int)) = false := by rw [bne, h3]; rfl
        clear h3
        go_wp2_with fail
        go_round
        case rel =>
          refine ⟨k + 1, by omega, by go_num, fun j hj => ?_⟩
          by_cases hjk : j < k
          · exact HG.out j hjk
          · obtain rfl : j = k := by omega
            rw [hG.out, H1.out, H2.out, ← hS.out, HRR.out, H3.out]; rfl
        case measure => simp [intOf]; omega
    · have HE := Lib.hid (show k = fs.length by omega)
      by_cases h30 : fs.length ≤ 30
      · have H30 := Lib.hid h30
        have h30' : (fs.length : Int) ≤ 30 := by omega
        go_wp2_with fail
        go_ret
        exact ⟨ret_bool (fwdsOk_good H30.out (by rw [← HE.out]; exact HG.out)).symm, rfl⟩
      · have H30 := Lib.hid h30
        have h30' : ¬ (fs.length : Int) ≤ 30 := by omega
        go_wp2_with fail
        go_ret
        exact ⟨ret_bool (fwdsOk_len H30.out).symm, rfl⟩

set_option maxRecDepth 100000 in
set_option maxHeartbeats 1600000 in
theorem impl_ForwardsValid (v : Value) (fs : List Fwd) (w : World) (hv : rd w w.heap.size v fs) :
    Calls Try.prog 151 #[v] w fun e w' => e = .returned (.bool (fwdsOk fs)) ∧ Below w.heap.size w w' := by
  obtain ⟨A, n, cp, rfl, hn, hc, hm, hr⟩ := hv
  have hv0 := Lib.hid (show rd w w.heap.size (.slice A n cp) fs from ⟨A, n, cp, rfl, hn, hc, hm, hr⟩)
  subst hn
  unfold maxLen at hm
  have HR := Lib.hid hr; clear hr
  have l0 := Below.refl w.heap.size w
  go_enter Try.func151, Try.ntmps151
  by_cases h30 : (30 : Int) < (fs.length : Int)
  · have HF := Lib.hid (show ¬ fs.length ≤ 30 by omega)
    go_wp2
    go_ret
    exact ⟨ret_bool (fwdsOk_len HF.out).symm, l0⟩
  have H30 := Lib.hid (show fs.length ≤ 30 by omega)
  go_wp2
  go_loopw [10] (fun i wr => ∃ k : Nat, k ≤ fs.length ∧ i = .int .i64 k ∧ Below w.heap.size w wr ∧ Hid (∀ j, j < k → goodF fs j = true)) (fun i _ => fs.length - (intOf i).toNat)
  case atStart => exact ⟨0, Nat.zero_le _, rfl, l0, fun j hj => absurd hj (Nat.not_lt_zero j)⟩
  case round =>
    obtain ⟨k, hk, rfl, lr, HG⟩ := hrel
    obtain ⟨w1, rfl⟩ : ∃ w1 : World, w1 = wr := ⟨_, rfl⟩
    clear l0
    by_cases hlt : k < fs.length
    · obtain ⟨b, o, rfl, hb, ⟨ok1, ok2⟩, c1, c2⟩ := HR.out.fwdU k hlt
      have hG := Lib.hid (goodF_of hlt)
      have hbad := Lib.hid (fun h => fwdsOk_bad hlt h)
      generalize fs[k] = x at *
      have hki : (k : Int) < (fs.length : Int) := by omega
      obtain ⟨wo, hwo⟩ : ∃ wo : World, wo = w1.alloc (Obj.cells #[.string x.src, .string x.dst] 175) := ⟨_, rfl⟩
      have lo : Below w.heap.size w wo := later_trans lr (box_later hwo).1
      have y0 := box_cells hwo 0 (.string x.src) rfl
      have y1 := box_cells hwo 1 (.string x.dst) rfl
      have lb := Below.refl wo.heap.size wo
      have hv1 := Lib.hid (hv0.out.on lo)
      have HWO := Lib.hid hwo; clear hwo
      cases h1 : isCode x.src
      · have H1 := Lib.hid h1; clear h1
        have C1 := Lib.hid (fun w => codeI_is (w := w) ok1 H1.out)
        go_wp2
        rw [← HWO.out]
        go_quiet (first | (go_at_call 154; refine quiet_c (C1.out _)))
        go_wp2
        go_ret
        exact ⟨ret_bool (hbad.out (by rw [hG.out, H1.out]; rfl)).symm, below_drewN lo _⟩
      have H1 := Lib.hid h1; clear h1
      have C1 := Lib.hid (fun w => codeI_is (w := w) ok1 H1.out)
      cases h2 : isCode x.dst
      · have H2 := Lib.hid h2; clear h2
        have C2 := Lib.hid (fun w => codeI_is (w := w) ok2 H2.out)
        go_wp2
        rw [← HWO.out]
        go_quiet (first | (go_at_call 154; first | with_reducible refine quiet_c (C1.out _) | with_reducible refine quiet_c (C2.out _)))
        go_wp2
        go_ret
        exact ⟨ret_bool (hbad.out (by rw [hG.out, H1.out, H2.out]; rfl)).symm, below_drewN lo _⟩
      have H2 := Lib.hid h2; clear h2
      have C2 := Lib.hid (fun w => codeI_is (w := w) ok2 H2.out)
      obtain ⟨r, HRR⟩ : ∃ r, Hid (fwdI (fs.take k) x.src = r) := ⟨_, rfl⟩
      have HGE := Lib.hid (fwdI_ge fs k x.src HRR.out)
      have C3 : Hid (∀ W, Below wo.heap.size wo W → Calls Try.prog 188 #[.slice (some ⟨b, o, none⟩) k cp, .string x.src] W fun e w' => e = .returned (.int .i64 r) ∧ Below W.heap.size W w') := fun W hW => by
        have h := impl_forwardOf (.slice (some ⟨b, o, none⟩) k cp) (fs.take k) x.src W ((hv1.out.on hW).take hk)
        rw [HRR.out] at h
        exact h
      have ld := later_drew lb
      have hkc : k ≤ cp := by omega
      have hkci : (k : Int) ≤ (cp : Int) := by omega
      by_cases hr0 : 0 ≤ r
      · have HD := Lib.hid (decide_eq_true hr0)
        go_wp2
        rw [← HWO.out]
        go_region_held3 (fun W => Below wo.heap.size wo W) (first | exact ld | exact later_trans ld b3) (first | (go_at_call 154; first | ((with_reducible refine (C1.out _).mono ?_); rintro e w' ⟨rfl, rfl⟩) | ((with_reducible refine (C2.out _).mono ?_); rintro e w' ⟨rfl, rfl⟩)) | (go_at_call 188; refine (C3.out _ ld).mono ?_; rintro e w3 ⟨rfl, b3⟩))
        have l3 := later_trans lo (later_trans ld b3)
        go_wp2
        go_ret
        exact ⟨ret_bool (hbad.out (by rw [hG.out, HGE.out, HD.out]; simp)).symm, l3⟩
      · have HD := Lib.hid (decide_eq_false hr0)
        go_wp2
        rw [← HWO.out]
        go_region_held3 (fun W => Below wo.heap.size wo W) (first | exact ld | exact later_trans ld b3) (first | (go_at_call 154; first | ((with_reducible refine (C1.out _).mono ?_); rintro e w' ⟨rfl, rfl⟩) | ((with_reducible refine (C2.out _).mono ?_); rintro e w' ⟨rfl, rfl⟩)) | (go_at_call 188; refine (C3.out _ ld).mono ?_; rintro e w3 ⟨rfl, b3⟩))
        have l3 := later_trans lo (later_trans ld b3)
        go_wp2
        go_roundw
        case rel =>
          refine ⟨k + 1, by omega, by go_num, l3, fun j hj => ?_⟩
          by_cases hjk : j < k
          · exact HG.out j hjk
          · obtain rfl : j = k := by omega
            rw [hG.out, H1.out, H2.out, HGE.out, HD.out]; rfl
        case measure => simp [intOf]; omega
    · have HE := Lib.hid (show k = fs.length by omega)
      go_wp2
      go_ret
      exact ⟨ret_bool (fwdsOk_good H30.out (by rw [← HE.out]; exact HG.out)).symm, lr⟩

/-- Where letters for a code arrive, if all is valid. -/
def resolve (fs : List Fwd) (c : ByteArray) : ByteArray × Nat × Bool := if isCode c && fwdsOk fs then follow fs c else (⟨#[]⟩, 0, false)


end Go.Proofs.Ytiaepapdofcnjaa
