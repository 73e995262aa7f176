/- UM RD -/
import Derived.Test.YtmangjjaijhcnaaQ10
import Derived.Test.YtmangjjaijhcnaaQ5
import Derived.Test.YtmangjjaijhcnaaQ9
import Derived.Test.YtmangjjaijhcnaaQ38
namespace Go.Proofs.Ytmangjjaijhcnaa
open Go.RowKit


/-! Frames of what marks: only blocks from lo on, before hi, turn. -/
structure OutI (lo hi : Nat) (w w' : World) : Prop where
  os : w'.os = w.os
  tape : w'.tape = w.tape
  output : w'.output = w.output
  size : w.heap.size ≤ w'.heap.size
  block : ∀ k, k < w.heap.size → k < lo ∨ hi ≤ k → w'.heap[k]? = w.heap[k]?
theorem OutI.refl (lo hi : Nat) (w : World) : OutI lo hi w w := ⟨rfl, rfl, rfl, Nat.le_refl _, fun _ _ _ => rfl⟩
theorem OutI.trans {lo hi : Nat} {a b c : World} (h : OutI lo hi a b) (k : OutI lo hi b c) : OutI lo hi a c :=
  ⟨k.os.trans h.os, k.tape.trans h.tape, k.output.trans h.output, Nat.le_trans h.size k.size, fun i hi hne => (k.block i (Nat.lt_of_lt_of_le hi h.size) hne).trans (h.block i hi hne)⟩
theorem OutI.of_below {lo hi : Nat} {w w' : World} (h : Below w.heap.size w w') : OutI lo hi w w' := ⟨h.os, h.tape, h.output, h.size, fun k hk _ => h.block k hk⟩
theorem OutI.of_grown {lo hi : Nat} {w w' : World} {row : Option Nat} (h : w.grownBy w' row) (hr : ∀ k, row = some k → lo ≤ k ∧ k < hi) : OutI lo hi w w' :=
  ⟨h.os, h.tape, h.output, h.size, fun k hk hne => h.block k hk (fun e => by have := hr k e.symm; omega)⟩
theorem OutI.later {lo hi : Nat} {a w w' : World} (h : OutI lo hi w w') (hb : Below a.heap.size a w) (hlo : a.heap.size ≤ lo) : Below a.heap.size a w' :=
  ⟨h.os.trans hb.os, h.tape.trans hb.tape, h.output.trans hb.output, Nat.le_trans hb.size h.size, fun k hk => (h.block k (Nat.lt_of_lt_of_le hk hb.size) (.inl (by omega))).trans (hb.block k hk)⟩
theorem own.keepBlk {α : Type} [Flat α] {T base : Nat} {w w' : World} {v : Value} {xs : List α} (h : own T base w v xs) (hk : ∀ k, v.ownBlock = some k → w'.heap[k]? = w.heap[k]?) : own T base w' v xs := by
  obtain ⟨css, ⟨h1, h2⟩, hl, he⟩ := h
  refine ⟨css, ⟨h1, ?_⟩, hl, fun k a b => Flat.free (he k a b)⟩
  rcases h2 with h2 | ⟨g, cap, cur, hv, hg, hh, r⟩
  · exact .inl h2
  · exact .inr ⟨g, cap, cur, hv, hg, by rw [hk g (by rw [hv]; rfl)]; exact hh, r⟩
/-- A row of the call's own, in blocks before hi. -/
def seg {α : Type} [El α] (T lo hi : Nat) (w : World) (v : Value) (xs : List α) : Prop := own T lo w v xs ∧ ∀ k, v.ownBlock = some k → k < hi
theorem seg.of {α : Type} [El α] {T lo : Nat} {w : World} {v : Value} {xs : List α} (h : own T lo w v xs) : seg T lo w.heap.size w v xs := ⟨h, fun k hk => (h.blk k hk).2⟩
theorem seg.below {α : Type} [El α] {T lo hi : Nat} {w w' : World} {v : Value} {xs : List α} (h : seg T lo hi w v xs) (hb : Below w.heap.size w w') : seg T lo hi w' v xs := ⟨h.1.below hb, h.2⟩
theorem seg.out {α : Type} [Flat α] {T lo hi a b : Nat} {w w' : World} {v : Value} {xs : List α} (h : seg T lo hi w v xs) (ho : OutI a b w w') (hd : hi ≤ a ∨ b ≤ lo) : seg T lo hi w' v xs :=
  ⟨h.1.keepBlk fun k hk => ho.block k (h.1.blk k hk).2 (by have h1 := (h.1.blk k hk).1; have h2 := h.2 k hk; omega), h.2⟩
theorem seg.rd {α : Type} [El α] {T lo hi : Nat} {w : World} {v : Value} {xs : List α} (h : seg T lo hi w v xs) : rd w w.heap.size v xs := h.1.rd
def segP (T lo hi : Nat) (w : World) (v : Value) (p : Pln) : Prop := ∃ vo, v = .agg #[.int .i64 p.bins, .int .i64 p.passes, vo] ∧ isI64 p.bins ∧ isI64 p.passes ∧ seg T lo hi w vo p.order
theorem segP.of {T lo : Nat} {w : World} {v : Value} {p : Pln} (h : ownP T lo w v p) : segP T lo w.heap.size w v p := by
  obtain ⟨vo, h1, h2, h3, h4⟩ := h
  exact ⟨vo, h1, h2, h3, seg.of h4⟩
theorem segP.below {T lo hi : Nat} {w w' : World} {v : Value} {p : Pln} (h : segP T lo hi w v p) (hb : Below w.heap.size w w') : segP T lo hi w' v p := by
  obtain ⟨vo, h1, h2, h3, h4⟩ := h
  exact ⟨vo, h1, h2, h3, h4.below hb⟩
theorem segP.out {T lo hi a b : Nat} {w w' : World} {v : Value} {p : Pln} (h : segP T lo hi w v p) (ho : OutI a b w w') (hd : hi ≤ a ∨ b ≤ lo) : segP T lo hi w' v p := by
  obtain ⟨vo, h1, h2, h3, h4⟩ := h
  exact ⟨vo, h1, h2, h3, h4.out ho hd⟩
theorem segP.rd {T lo hi : Nat} {w : World} {v : Value} {p : Pln} (h : segP T lo hi w v p) : rdP w w.heap.size v p := by
  obtain ⟨vo, h1, h2, h3, h4⟩ := h
  exact ⟨vo, h1, h2, h3, h4.rd⟩

theorem own_setStr {T base g n c : Nat} {w : World} {xs : List ByteArray} (h : own T base w (.slice (some ⟨g, 0, none⟩) n c) xs) {k : Nat} (hk : k < xs.length) (y : ByteArray) (hy : y.size ≤ maxLen) :
    own T base (w.setCell ⟨g, k, none⟩ (.string y)) (.slice (some ⟨g, 0, none⟩) n c) (xs.set k y) := by
  have h1 := h.setCell (k := k) (j := 0) hk (by decide) (.string y) y (fun ecs he => by
    obtain ⟨_, rfl⟩ := he
    exact ⟨hy, rfl⟩)
  rw [show k * El.size ByteArray + 0 = k from Nat.mul_one k] at h1
  exact h1
def marksS (k n : Nat) : List ByteArray := (List.range n).map fun i => markB (k + i)
theorem marksS_len (k n : Nat) : (marksS k n).length = n := by simp [marksS]
theorem marksS_get (k n i : Nat) (h : i < (marksS k n).length) : (marksS k n)[i] = markB (k + i) := by simp [marksS]
def markedS (k0 : Nat) (xs : List ByteArray) (k : Nat) : List ByteArray := marksS k0 k ++ xs.drop k
theorem markedS_len {k0 : Nat} {xs : List ByteArray} {k : Nat} (h : k ≤ xs.length) : (markedS k0 xs k).length = xs.length := by
  simp [markedS, marksS_len]; omega
theorem markedS_step {k0 : Nat} {xs : List ByteArray} {k : Nat} (h : k < xs.length) : (markedS k0 xs k).set k (markB (k0 + k)) = markedS k0 xs (k + 1) := by
  unfold markedS
  rw [List.set_append_right _ _ (by rw [marksS_len]; exact Nat.le_refl _), marksS_len, Nat.sub_self, List.drop_eq_getElem_cons h, List.set_cons_zero]
  unfold marksS
  rw [List.range_succ, List.map_append]
  simp

set_option maxHeartbeats 400000 in
theorem laws_markStringS (T base : Nat) (v : Value) (xs : List ByteArray) (k0 : Nat) (w : World) (hv : own T base w v xs) (hk0 : k0 ≤ 274877906944) (hl : xs.length ≤ 1073741824) :
    Calls Try.prog 35 #[v, .int .i64 k0] w fun e w' => e = .returned (.int .i64 ((k0 + xs.length : Nat) : Int)) ∧ own T base w' v (marksS k0 xs.length) ∧ w.grownBy w' v.ownBlock := by
  rcases hv.form with ⟨rfl, rfl⟩ | ⟨g, c, rfl, hg, hgl, hc, hm⟩
  · go_enter Try.func35, Try.ntmps35
    go_wp2
    go_loopw [1, 5] (fun t i wr => i = .int .i64 0 ∧ t = .int .i64 k0 ∧ wr = w) (fun _ _ _ => 0)
    case atStart => exact ⟨rfl, rfl, rfl⟩
    case round =>
      obtain ⟨rfl, rfl, rfl⟩ := hrel
      go_wp2
      go_ret
      exact ⟨ret_int (by simp), by simpa [marksS] using own.nil_ (α := ByteArray) _ _ _, World.grownBy.refl _ _⟩
  · unfold maxLen at hm
    have HV := Lib.hid hv; clear hv
    go_enter Try.func35, Try.ntmps35
    go_wp2
    go_loopw [1, 5] (fun t i wr => ∃ (k m : Nat), k ≤ xs.length ∧ i = .int .i64 k ∧ t = .int .i64 m ∧ Hid (m = k0 + k) ∧ w.grownBy wr (some g) ∧ own T base wr (.slice (some ⟨g, 0, none⟩) xs.length c) (markedS k0 xs k)) (fun _ i _ => xs.length - (intOf i).toNat)
    case atStart => exact ⟨0, k0, Nat.zero_le _, rfl, rfl, rfl, World.grownBy.refl _ _, by simpa [markedS, marksS] using HV.out⟩
    case round =>
      obtain ⟨k, m, hk, rfl, rfl, HM, hgr, ho⟩ := hrel
      obtain ⟨w1, rfl⟩ : ∃ w1 : World, w1 = wr := ⟨_, rfl⟩
      have hmb : (m : Int) ≤ 824633720832 := by have := HM.out; omega
      by_cases hlt : k < xs.length
      · have hlen := markedS_len (k0 := k0) hk
        have HST := Lib.hid (markedS_step (k0 := k0) hlt)
        generalize markedS k0 xs k = ys at *
        have hlt' : k < ys.length := by omega
        have HLEN := Lib.hid hlen; clear hlen
        have HO := Lib.hid ho; clear ho
        have hki : (k : Int) < (xs.length : Int) := by omega
        go_wp2_with fail
        refine (laws_markText m _ (by omega)).mono ?_
        rintro e w2 ⟨rfl, b2⟩
        have hgr2 : w.grownBy w2 (some g) := grown_below hgr b2
        have ho2 := HO.out.below b2
        obtain ⟨u0, g0⟩ := ho2.cellAt (j := k) (by show _ < _ * 1; omega)
        have f0 := ho2.freeAt k
        have HO3 := Lib.hid (own_setStr ho2 hlt' (markB m) (markB_size m (by omega)))
        have hgr3 : w.grownBy (w2.setCell ⟨g, k, none⟩ (.string (markB m))) (some g) := grown_setCell hgr2 (.inl rfl) _
        clear ho2 hgr hgr2 b2
        go_wp2_with fail
        go_roundw
        case rel =>
          refine ⟨k + 1, m + 1, by omega, by go_num, by go_num, by show _ = _; have := HM.out; omega, hgr3, ?_⟩
          have := HO3.out
          have hm2 := HM.out
          subst hm2
          rw [HST.out] at this
          exact this
        case measure => simp [intOf]; omega
      · have HE := Lib.hid (show k = xs.length by omega)
        have HO := Lib.hid ho; clear ho
        go_wp2
        go_ret
        refine ⟨ret_int ?_, ?_, hgr⟩
        · have := HM.out; have := HE.out; omega
        · have := HO.out
          have h2 := HE.out
          subst h2
          rw [markedS, List.drop_length, List.append_nil] at this
          exact this


end Go.Proofs.Ytmangjjaijhcnaa

namespace Go.Proofs.Ytmangjjaijhcnaa
open Go.RowKit

/-! ### Forwarding -/
def sentL (fs : List Fwd) (xs : List Ltr) : List Ltr := (xs.filter fun x => (follow fs x.code).2.2).map fun x => ⟨x.id, (follow fs x.code).1⟩
def stuckL (fs : List Fwd) (xs : List Ltr) : List Ltr := xs.filter fun x => !(follow fs x.code).2.2
theorem sentL_hit {fs : List Fwd} {xs : List Ltr} {k : Nat} (h : k < xs.length) (hf : (follow fs xs[k].code).2.2 = true) : sentL fs (xs.take (k + 1)) = sentL fs (xs.take k) ++ [⟨xs[k].id, (follow fs xs[k].code).1⟩] := by
  unfold sentL; rw [List.take_succ_eq_append_getElem h, List.filter_append, List.map_append]; simp [hf]
theorem sentL_miss {fs : List Fwd} {xs : List Ltr} {k : Nat} (h : k < xs.length) (hf : (follow fs xs[k].code).2.2 = false) : sentL fs (xs.take (k + 1)) = sentL fs (xs.take k) := by
  unfold sentL; rw [List.take_succ_eq_append_getElem h, List.filter_append, List.map_append]; simp [hf]
theorem stuckL_hit {fs : List Fwd} {xs : List Ltr} {k : Nat} (h : k < xs.length) (hf : (follow fs xs[k].code).2.2 = true) : stuckL fs (xs.take (k + 1)) = stuckL fs (xs.take k) := by
  unfold stuckL; rw [List.take_succ_eq_append_getElem h, List.filter_append]; simp [hf]
theorem stuckL_miss {fs : List Fwd} {xs : List Ltr} {k : Nat} (h : k < xs.length) (hf : (follow fs xs[k].code).2.2 = false) : stuckL fs (xs.take (k + 1)) = stuckL fs (xs.take k) ++ [xs[k]] := by
  unfold stuckL; rw [List.take_succ_eq_append_getElem h, List.filter_append]; simp [hf]
theorem sentL_len (fs : List Fwd) (xs : List Ltr) : (sentL fs xs).length ≤ xs.length := by
  unfold sentL; rw [List.length_map]; exact List.length_filter_le _ _
theorem stuckL_len (fs : List Fwd) (xs : List Ltr) : (stuckL fs xs).length ≤ xs.length := List.length_filter_le _ _
theorem take_len_le {α : Type} (xs : List α) (k : Nat) : (xs.take k).length ≤ k := by rw [List.length_take]; omega
def fwOk (fs : List Fwd) (xs : List Ltr) : Bool := fwdsOk fs && okB xs
def fwSent (fs : List Fwd) (xs : List Ltr) : List Ltr := if fwOk fs xs then sentL fs xs else []
def fwStuck (fs : List Fwd) (xs : List Ltr) : List Ltr := if fwOk fs xs then stuckL fs xs else []
theorem fwOk_len {fs : List Fwd} {xs : List Ltr} (h : fwOk fs xs = true) : fs.length ≤ 30 ∧ xs.length ≤ 60 := by
  unfold fwOk at h
  rw [Bool.and_eq_true] at h
  exact ⟨(fwdsOk_iff.1 h.1).1, okB_len' h.2⟩
theorem fwSent_len (fs : List Fwd) (xs : List Ltr) : (fwSent fs xs).length ≤ 60 := by
  unfold fwSent
  split
  · exact Nat.le_trans (sentL_len _ _) (fwOk_len (by assumption)).2
  · simp
theorem fwStuck_len (fs : List Fwd) (xs : List Ltr) : (fwStuck fs xs).length ≤ 60 := by
  unfold fwStuck
  split
  · exact Nat.le_trans (stuckL_len _ _) (fwOk_len (by assumption)).2
  · simp

/-! ### Holding -/
def freeL (hs : List ByteArray) (xs : List Ltr) : List Ltr := xs.filter fun x => decide (rkI hs x.code < 0)
def heldL (hs : List ByteArray) (xs : List Ltr) : List Ltr := xs.filter fun x => !decide (rkI hs x.code < 0)
theorem freeL_hit {hs : List ByteArray} {xs : List Ltr} {k : Nat} (h : k < xs.length) (hf : rkI hs xs[k].code < 0) : freeL hs (xs.take (k + 1)) = freeL hs (xs.take k) ++ [xs[k]] := by
  unfold freeL; rw [List.take_succ_eq_append_getElem h, List.filter_append]; simp [hf]
theorem freeL_miss {hs : List ByteArray} {xs : List Ltr} {k : Nat} (h : k < xs.length) (hf : ¬ rkI hs xs[k].code < 0) : freeL hs (xs.take (k + 1)) = freeL hs (xs.take k) := by
  unfold freeL; rw [List.take_succ_eq_append_getElem h, List.filter_append]; simp [hf]
theorem heldL_hit {hs : List ByteArray} {xs : List Ltr} {k : Nat} (h : k < xs.length) (hf : rkI hs xs[k].code < 0) : heldL hs (xs.take (k + 1)) = heldL hs (xs.take k) := by
  unfold heldL; rw [List.take_succ_eq_append_getElem h, List.filter_append]; simp [hf]
theorem heldL_miss {hs : List ByteArray} {xs : List Ltr} {k : Nat} (h : k < xs.length) (hf : ¬ rkI hs xs[k].code < 0) : heldL hs (xs.take (k + 1)) = heldL hs (xs.take k) ++ [xs[k]] := by
  unfold heldL; rw [List.take_succ_eq_append_getElem h, List.filter_append]; simp [hf]
theorem freeL_len (hs : List ByteArray) (xs : List Ltr) : (freeL hs xs).length ≤ xs.length := List.length_filter_le _ _
theorem heldL_len (hs : List ByteArray) (xs : List Ltr) : (heldL hs xs).length ≤ xs.length := List.length_filter_le _ _
def hbOk (hs : List ByteArray) (xs : List Ltr) : Bool := okB xs && heldOk hs
def hbFree (hs : List ByteArray) (xs : List Ltr) : List Ltr := if hbOk hs xs then freeL hs xs else []
def hbHeld (hs : List ByteArray) (xs : List Ltr) : List Ltr := if hbOk hs xs then heldL hs xs else []
theorem hbOk_len {hs : List ByteArray} {xs : List Ltr} (h : hbOk hs xs = true) : xs.length ≤ 60 ∧ hs.length ≤ 30 := by
  unfold hbOk heldOk at h
  simp only [Bool.and_eq_true, decide_eq_true_iff] at h
  exact ⟨okB_len' h.1, h.2.1⟩
theorem hbHeld_len (hs : List ByteArray) (xs : List Ltr) : (hbHeld hs xs).length ≤ 60 := by
  unfold hbHeld
  split
  · exact Nat.le_trans (heldL_len _ _) (hbOk_len (by assumption)).1
  · simp

/-! ### The report -/
structure Rpt where
  round : List Ltr
  strange : List Ltr
  held : List Ltr
  stuck : List Ltr
def dayRpt (d : Dy) (xs : List Ltr) : Rpt :=
  ⟨rpRound d.plan (hbFree d.held (fwSent d.fwds xs)), rpRest d.plan (hbFree d.held (fwSent d.fwds xs)), hbHeld d.held (fwSent d.fwds xs), fwStuck d.fwds xs⟩
def rdOk (d : Dy) (xs : List Ltr) : Bool := dayOk d && okB xs
def rptOf (d : Dy) (xs : List Ltr) : Rpt := if rdOk d xs then dayRpt d xs else ⟨[], [], [], []⟩
theorem rpOk_len {p : Pln} {xs : List Ltr} (h : rpOk p xs = true) : xs.length ≤ 60 := by
  unfold rpOk at h
  rw [Bool.and_eq_true] at h
  exact okB_len' h.2
theorem rpRound_len (p : Pln) (xs : List Ltr) : (rpRound p xs).length ≤ 60 := by
  unfold rpRound
  split
  · exact Nat.le_trans (passesN_len _ _ _ _) (rpOk_len (by assumption))
  · simp
theorem rpRest_len (p : Pln) (xs : List Ltr) : (rpRest p xs).length ≤ 60 := by
  unfold rpRest restOf
  split
  · exact Nat.le_trans (List.length_filter_le _ _) (rpOk_len (by assumption))
  · simp
theorem rptOf_len (d : Dy) (xs : List Ltr) : (rptOf d xs).round.length ≤ 60 ∧ (rptOf d xs).strange.length ≤ 60 ∧ (rptOf d xs).held.length ≤ 60 ∧ (rptOf d xs).stuck.length ≤ 60 := by
  unfold rptOf
  split
  · exact ⟨rpRound_len _ _, rpRest_len _ _, hbHeld_len _ _, fwStuck_len _ _⟩
  · simp

def rdR (w : World) (B : Nat) (v : Value) (r : Rpt) : Prop :=
  ∃ v0 v1 v2 v3, v = .agg #[v0, v1, v2, v3] ∧ rd w B v0 r.round ∧ rd w B v1 r.strange ∧ rd w B v2 r.held ∧ rd w B v3 r.stuck
theorem rdR.below {w w' : World} {B : Nat} {v : Value} {r : Rpt} (h : rdR w B v r) (hb : Below B w w') : rdR w' B v r := by
  obtain ⟨v0, v1, v2, v3, h1, h2, h3, h4, h5⟩ := h
  exact ⟨v0, v1, v2, v3, h1, h2.below hb, h3.below hb, h4.below hb, h5.below hb⟩
theorem rdR.more {w : World} {B B' : Nat} {v : Value} {r : Rpt} (h : rdR w B v r) (hB : B ≤ B') : rdR w B' v r := by
  obtain ⟨v0, v1, v2, v3, h1, h2, h3, h4, h5⟩ := h
  exact ⟨v0, v1, v2, v3, h1, h2.more hB, h3.more hB, h4.more hB, h5.more hB⟩
theorem rdR.on {w w' : World} {v : Value} {r : Rpt} (h : rdR w w.heap.size v r) (hb : Below w.heap.size w w') : rdR w' w'.heap.size v r := (h.below hb).more hb.size
theorem openR {w : World} {B : Nat} {v : Value} {r : Rpt} (h : rdR w B v r) : ∃ A0 c0 A1 c1 A2 c2 A3 c3, v = .agg #[.slice A0 r.round.length c0, .slice A1 r.strange.length c1, .slice A2 r.held.length c2, .slice A3 r.stuck.length c3] := by
  obtain ⟨v0, v1, v2, v3, rfl, ⟨A0, n0, c0, rfl, rfl, _⟩, ⟨A1, n1, c1, rfl, rfl, _⟩, ⟨A2, n2, c2, rfl, rfl, _⟩, ⟨A3, n3, c3, rfl, rfl, _⟩⟩ := h
  exact ⟨A0, c0, A1, c1, A2, c2, A3, c3, rfl⟩
theorem partsR {w : World} {B : Nat} {r : Rpt} {v0 v1 v2 v3 : Value} (h : rdR w B (.agg #[v0, v1, v2, v3]) r) : rd w B v0 r.round ∧ rd w B v1 r.strange ∧ rd w B v2 r.held ∧ rd w B v3 r.stuck := by
  obtain ⟨a0, a1, a2, a3, h1, h2, h3, h4, h5⟩ := h
  injection h1 with h1
  injection h1 with h1
  simp only [List.cons.injEq, and_true] at h1
  obtain ⟨rfl, rfl, rfl, rfl⟩ := h1
  exact ⟨h2, h3, h4, h5⟩
/-- Four rows of the call's own, each apart from the others. -/
def ownR (T base : Nat) (w : World) (v : Value) (r : Rpt) : Prop :=
  ∃ v0 v1 v2 v3, v = .agg #[v0, v1, v2, v3] ∧ own T base w v0 r.round ∧ own T base w v1 r.strange ∧ own T base w v2 r.held ∧ own T base w v3 r.stuck ∧ (apart v0 v1 ∧ apart v0 v2 ∧ apart v0 v3 ∧ apart v1 v2 ∧ apart v1 v3 ∧ apart v2 v3)
theorem ownR.rd {T base : Nat} {w : World} {v : Value} {r : Rpt} (h : ownR T base w v r) : rdR w w.heap.size v r := by
  obtain ⟨v0, v1, v2, v3, h1, h2, h3, h4, h5, _⟩ := h
  exact ⟨v0, v1, v2, v3, h1, h2.rd, h3.rd, h4.rd, h5.rd⟩
theorem ownR.below {T base : Nat} {w w' : World} {v : Value} {r : Rpt} (h : ownR T base w v r) (hb : Below w.heap.size w w') : ownR T base w' v r := by
  obtain ⟨v0, v1, v2, v3, h1, h2, h3, h4, h5, h6⟩ := h
  exact ⟨v0, v1, v2, v3, h1, h2.below hb, h3.below hb, h4.below hb, h5.below hb, h6⟩
theorem ownR.none_ (T base : Nat) (w : World) : ownR T base w (.agg #[.slice none 0 0, .slice none 0 0, .slice none 0 0, .slice none 0 0]) ⟨[], [], [], []⟩ :=
  ⟨_, _, _, _, rfl, own.nil_ _ _ _, own.nil_ _ _ _, own.nil_ _ _ _, own.nil_ _ _ _, .inl rfl, .inl rfl, .inl rfl, .inl rfl, .inl rfl, .inl rfl⟩
/-- The same, in blocks before hi. -/
def segR (T lo hi : Nat) (w : World) (v : Value) (r : Rpt) : Prop :=
  ∃ v0 v1 v2 v3, v = .agg #[v0, v1, v2, v3] ∧ seg T lo hi w v0 r.round ∧ seg T lo hi w v1 r.strange ∧ seg T lo hi w v2 r.held ∧ seg T lo hi w v3 r.stuck ∧ (apart v0 v1 ∧ apart v0 v2 ∧ apart v0 v3 ∧ apart v1 v2 ∧ apart v1 v3 ∧ apart v2 v3)
theorem segR.of {T lo : Nat} {w : World} {v : Value} {r : Rpt} (h : ownR T lo w v r) : segR T lo w.heap.size w v r := by
  obtain ⟨v0, v1, v2, v3, h1, h2, h3, h4, h5, h6⟩ := h
  exact ⟨v0, v1, v2, v3, h1, seg.of h2, seg.of h3, seg.of h4, seg.of h5, h6⟩
theorem segR.below {T lo hi : Nat} {w w' : World} {v : Value} {r : Rpt} (h : segR T lo hi w v r) (hb : Below w.heap.size w w') : segR T lo hi w' v r := by
  obtain ⟨v0, v1, v2, v3, h1, h2, h3, h4, h5, h6⟩ := h
  exact ⟨v0, v1, v2, v3, h1, h2.below hb, h3.below hb, h4.below hb, h5.below hb, h6⟩
theorem segR.out {T lo hi a b : Nat} {w w' : World} {v : Value} {r : Rpt} (h : segR T lo hi w v r) (ho : OutI a b w w') (hd : hi ≤ a ∨ b ≤ lo) : segR T lo hi w' v r := by
  obtain ⟨v0, v1, v2, v3, h1, h2, h3, h4, h5, h6⟩ := h
  exact ⟨v0, v1, v2, v3, h1, h2.out ho hd, h3.out ho hd, h4.out ho hd, h5.out ho hd, h6⟩
theorem segR.rd {T lo hi : Nat} {w : World} {v : Value} {r : Rpt} (h : segR T lo hi w v r) : rdR w w.heap.size v r := by
  obtain ⟨v0, v1, v2, v3, h1, h2, h3, h4, h5, _⟩ := h
  exact ⟨v0, v1, v2, v3, h1, h2.rd, h3.rd, h4.rd, h5.rd⟩

end Go.Proofs.Ytmangjjaijhcnaa
