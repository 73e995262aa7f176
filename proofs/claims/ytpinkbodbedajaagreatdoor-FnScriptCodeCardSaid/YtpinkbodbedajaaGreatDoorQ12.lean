/- E3 UM RD F3 -/
import Derived.Test.YtpinkbodbedajaaGreatDoorQ3
import Derived.Test.YtpinkbodbedajaaGreatDoorQ1
import Derived.Test.YtpinkbodbedajaaGreatDoorQ11
import Derived.Test.YtpinkbodbedajaaGreatDoorQ6
import Derived.Test.YtpinkbodbedajaaGreatDoorQ8
import Derived.Test.YtpinkbodbedajaaGreatDoorQ4
import Derived.Test.YtpinkbodbedajaaGreatDoorQ7
namespace Go.Proofs.YtpinkbodbedajaaGreatDoor
open Go.RowKit

/-- The marks that 'markLetterS' leaves in n letters. -/
def marksL (k n : Nat) : List Ltr := (List.range n).map fun i => ⟨((k + 2 * i : Nat) : Int), markB (k + 2 * i + 1)⟩
theorem marksL_len (k n : Nat) : (marksL k n).length = n := by simp [marksL]
theorem marksL_get (k n i : Nat) (h : i < (marksL k n).length) : (marksL k n)[i] = ⟨((k + 2 * i : Nat) : Int), markB (k + 2 * i + 1)⟩ := by simp [marksL]
theorem markB_size (k : Nat) (hk : k ≤ 1099511627776) : (markB k).size ≤ maxLen := by
  unfold markB
  have := dec10_len k
  split
  · show 2 ≤ maxLen
    unfold maxLen; omega
  · show (109 :: dec10 k).toArray.size ≤ maxLen
    rw [List.size_toArray, List.length_cons]
    unfold maxLen; omega

/-- The first k letters marked. -/
def markedTo (k0 : Nat) (xs : List Ltr) (k : Nat) : List Ltr := marksL k0 k ++ xs.drop k
theorem markedTo_len {k0 : Nat} {xs : List Ltr} {k : Nat} (h : k ≤ xs.length) : (markedTo k0 xs k).length = xs.length := by
  simp [markedTo, marksL_len]; omega
theorem markedTo_step {k0 : Nat} {xs : List Ltr} {k : Nat} (h : k < xs.length) : (markedTo k0 xs k).set k ⟨((k0 + 2 * k : Nat) : Int), markB (k0 + 2 * k + 1)⟩ = markedTo k0 xs (k + 1) := by
  unfold markedTo
  rw [List.set_append_right _ _ (by rw [marksL_len]; exact Nat.le_refl _), marksL_len, Nat.sub_self, List.drop_eq_getElem_cons h, List.set_cons_zero]
  unfold marksL
  rw [List.range_succ, List.map_append]
  simp



end Go.Proofs.YtpinkbodbedajaaGreatDoor

namespace Go.Proofs.YtpinkbodbedajaaGreatDoor
open Go.RowKit


/-! Frames of what marks: only blocks from lo on, before hi, turn. -/
structure OutI (lo hi : Nat) (w w' : World) : Prop where
  os : w'.os = w.os
  tape : w'.tape = w.tape
  output : w'.output = w.output
  size : w.heap.size ≤ w'.heap.size
  block : ∀ k, k < w.heap.size → k < lo ∨ hi ≤ k → w'.heap[k]? = w.heap[k]?
theorem OutI.refl (lo hi : Nat) (w : World) : OutI lo hi w w := ⟨rfl, rfl, rfl, Nat.le_refl _, fun _ _ _ => rfl⟩
theorem OutI.trans {lo hi : Nat} {a b c : World} (h : OutI lo hi a b) (k : OutI lo hi b c) : OutI lo hi a c :=
  ⟨k.os.trans h.os, k.tape.trans h.tape, k.output.trans h.output, Nat.le_trans h.size k.size, fun i hi hne => (k.block i (Nat.lt_of_lt_of_le hi h.size) hne).trans (h.block i hi hne)⟩
theorem OutI.of_below {lo hi : Nat} {w w' : World} (h : Below w.heap.size w w') : OutI lo hi w w' := ⟨h.os, h.tape, h.output, h.size, fun k hk _ => h.block k hk⟩
theorem OutI.of_grown {lo hi : Nat} {w w' : World} {row : Option Nat} (h : w.grownBy w' row) (hr : ∀ k, row = some k → lo ≤ k ∧ k < hi) : OutI lo hi w w' :=
  ⟨h.os, h.tape, h.output, h.size, fun k hk hne => h.block k hk (fun e => by have := hr k e.symm; omega)⟩
theorem OutI.later {lo hi : Nat} {a w w' : World} (h : OutI lo hi w w') (hb : Below a.heap.size a w) (hlo : a.heap.size ≤ lo) : Below a.heap.size a w' :=
  ⟨h.os.trans hb.os, h.tape.trans hb.tape, h.output.trans hb.output, Nat.le_trans hb.size h.size, fun k hk => (h.block k (Nat.lt_of_lt_of_le hk hb.size) (.inl (by omega))).trans (hb.block k hk)⟩
theorem own.keepBlk {α : Type} [Flat α] {T base : Nat} {w w' : World} {v : Value} {xs : List α} (h : own T base w v xs) (hk : ∀ k, v.ownBlock = some k → w'.heap[k]? = w.heap[k]?) : own T base w' v xs := by
  obtain ⟨css, ⟨h1, h2⟩, hl, he⟩ := h
  refine ⟨css, ⟨h1, ?_⟩, hl, fun k a b => Flat.free (he k a b)⟩
  rcases h2 with h2 | ⟨g, cap, cur, hv, hg, hh, r⟩
  · exact .inl h2
  · exact .inr ⟨g, cap, cur, hv, hg, by rw [hk g (by rw [hv]; rfl)]; exact hh, r⟩
/-- A row of the call's own, in blocks before hi. -/
def seg {α : Type} [El α] (T lo hi : Nat) (w : World) (v : Value) (xs : List α) : Prop := own T lo w v xs ∧ ∀ k, v.ownBlock = some k → k < hi
theorem seg.of {α : Type} [El α] {T lo : Nat} {w : World} {v : Value} {xs : List α} (h : own T lo w v xs) : seg T lo w.heap.size w v xs := ⟨h, fun k hk => (h.blk k hk).2⟩
theorem seg.below {α : Type} [El α] {T lo hi : Nat} {w w' : World} {v : Value} {xs : List α} (h : seg T lo hi w v xs) (hb : Below w.heap.size w w') : seg T lo hi w' v xs := ⟨h.1.below hb, h.2⟩
theorem seg.out {α : Type} [Flat α] {T lo hi a b : Nat} {w w' : World} {v : Value} {xs : List α} (h : seg T lo hi w v xs) (ho : OutI a b w w') (hd : hi ≤ a ∨ b ≤ lo) : seg T lo hi w' v xs :=
  ⟨h.1.keepBlk fun k hk => ho.block k (h.1.blk k hk).2 (by have h1 := (h.1.blk k hk).1; have h2 := h.2 k hk; omega), h.2⟩
theorem seg.rd {α : Type} [El α] {T lo hi : Nat} {w : World} {v : Value} {xs : List α} (h : seg T lo hi w v xs) : rd w w.heap.size v xs := h.1.rd
def segP (T lo hi : Nat) (w : World) (v : Value) (p : Pln) : Prop := ∃ vo, v = .agg #[.int .i64 p.bins, .int .i64 p.passes, vo] ∧ isI64 p.bins ∧ isI64 p.passes ∧ seg T lo hi w vo p.order
theorem segP.of {T lo : Nat} {w : World} {v : Value} {p : Pln} (h : ownP T lo w v p) : segP T lo w.heap.size w v p := by
  obtain ⟨vo, h1, h2, h3, h4⟩ := h
  exact ⟨vo, h1, h2, h3, seg.of h4⟩
theorem segP.below {T lo hi : Nat} {w w' : World} {v : Value} {p : Pln} (h : segP T lo hi w v p) (hb : Below w.heap.size w w') : segP T lo hi w' v p := by
  obtain ⟨vo, h1, h2, h3, h4⟩ := h
  exact ⟨vo, h1, h2, h3, h4.below hb⟩
theorem segP.out {T lo hi a b : Nat} {w w' : World} {v : Value} {p : Pln} (h : segP T lo hi w v p) (ho : OutI a b w w') (hd : hi ≤ a ∨ b ≤ lo) : segP T lo hi w' v p := by
  obtain ⟨vo, h1, h2, h3, h4⟩ := h
  exact ⟨vo, h1, h2, h3, h4.out ho hd⟩
theorem segP.rd {T lo hi : Nat} {w : World} {v : Value} {p : Pln} (h : segP T lo hi w v p) : rdP w w.heap.size v p := by
  obtain ⟨vo, h1, h2, h3, h4⟩ := h
  exact ⟨vo, h1, h2, h3, h4.rd⟩



end Go.Proofs.YtpinkbodbedajaaGreatDoor

namespace Go.Proofs.YtpinkbodbedajaaGreatDoor
open Go.RowKit

/-! ### Forwarding -/
def sentL (fs : List Fwd) (xs : List Ltr) : List Ltr := (xs.filter fun x => (follow fs x.code).2.2).map fun x => ⟨x.id, (follow fs x.code).1⟩
def stuckL (fs : List Fwd) (xs : List Ltr) : List Ltr := xs.filter fun x => !(follow fs x.code).2.2
theorem sentL_hit {fs : List Fwd} {xs : List Ltr} {k : Nat} (h : k < xs.length) (hf : (follow fs xs[k].code).2.2 = true) : sentL fs (xs.take (k + 1)) = sentL fs (xs.take k) ++ [⟨xs[k].id, (follow fs xs[k].code).1⟩] := by
  unfold sentL; rw [List.take_succ_eq_append_getElem h, List.filter_append, List.map_append]; simp [hf]
theorem sentL_miss {fs : List Fwd} {xs : List Ltr} {k : Nat} (h : k < xs.length) (hf : (follow fs xs[k].code).2.2 = false) : sentL fs (xs.take (k + 1)) = sentL fs (xs.take k) := by
  unfold sentL; rw [List.take_succ_eq_append_getElem h, List.filter_append, List.map_append]; simp [hf]
theorem stuckL_hit {fs : List Fwd} {xs : List Ltr} {k : Nat} (h : k < xs.length) (hf : (follow fs xs[k].code).2.2 = true) : stuckL fs (xs.take (k + 1)) = stuckL fs (xs.take k) := by
  unfold stuckL; rw [List.take_succ_eq_append_getElem h, List.filter_append]; simp [hf]
theorem stuckL_miss {fs : List Fwd} {xs : List Ltr} {k : Nat} (h : k < xs.length) (hf : (follow fs xs[k].code).2.2 = false) : stuckL fs (xs.take (k + 1)) = stuckL fs (xs.take k) ++ [xs[k]] := by
  unfold stuckL; rw [List.take_succ_eq_append_getElem h, List.filter_append]; simp [hf]
theorem sentL_len (fs : List Fwd) (xs : List Ltr) : (sentL fs xs).length ≤ xs.length := by
  unfold sentL; rw [List.length_map]; exact List.length_filter_le _ _
theorem stuckL_len (fs : List Fwd) (xs : List Ltr) : (stuckL fs xs).length ≤ xs.length := List.length_filter_le _ _
theorem take_len_le {α : Type} (xs : List α) (k : Nat) : (xs.take k).length ≤ k := by rw [List.length_take]; omega
def fwOk (fs : List Fwd) (xs : List Ltr) : Bool := fwdsOk fs && okB xs
def fwSent (fs : List Fwd) (xs : List Ltr) : List Ltr := if fwOk fs xs then sentL fs xs else []
def fwStuck (fs : List Fwd) (xs : List Ltr) : List Ltr := if fwOk fs xs then stuckL fs xs else []
theorem fwOk_len {fs : List Fwd} {xs : List Ltr} (h : fwOk fs xs = true) : fs.length ≤ 30 ∧ xs.length ≤ 60 := by
  unfold fwOk at h
  rw [Bool.and_eq_true] at h
  exact ⟨(fwdsOk_iff.1 h.1).1, okB_len' h.2⟩
theorem fwSent_len (fs : List Fwd) (xs : List Ltr) : (fwSent fs xs).length ≤ 60 := by
  unfold fwSent
  split
  · exact Nat.le_trans (sentL_len _ _) (fwOk_len (by assumption)).2
  · simp
theorem fwStuck_len (fs : List Fwd) (xs : List Ltr) : (fwStuck fs xs).length ≤ 60 := by
  unfold fwStuck
  split
  · exact Nat.le_trans (stuckL_len _ _) (fwOk_len (by assumption)).2
  · simp

/-! ### Holding -/
def freeL (hs : List ByteArray) (xs : List Ltr) : List Ltr := xs.filter fun x => decide (rkI hs x.code < 0)
def heldL (hs : List ByteArray) (xs : List Ltr) : List Ltr := xs.filter fun x => !decide (rkI hs x.code < 0)
theorem freeL_hit {hs : List ByteArray} {xs : List Ltr} {k : Nat} (h : k < xs.length) (hf : rkI hs xs[k].code < 0) : freeL hs (xs.take (k + 1)) = freeL hs (xs.take k) ++ [xs[k]] := by
  unfold freeL; rw [List.take_succ_eq_append_getElem h, List.filter_append]; simp [hf]
theorem freeL_miss {hs : List ByteArray} {xs : List Ltr} {k : Nat} (h : k < xs.length) (hf : ¬ rkI hs xs[k].code < 0) : freeL hs (xs.take (k + 1)) = freeL hs (xs.take k) := by
  unfold freeL; rw [List.take_succ_eq_append_getElem h, List.filter_append]; simp [hf]
theorem heldL_hit {hs : List ByteArray} {xs : List Ltr} {k : Nat} (h : k < xs.length) (hf : rkI hs xs[k].code < 0) : heldL hs (xs.take (k + 1)) = heldL hs (xs.take k) := by
  unfold heldL; rw [List.take_succ_eq_append_getElem h, List.filter_append]; simp [hf]
theorem heldL_miss {hs : List ByteArray} {xs : List Ltr} {k : Nat} (h : k < xs.length) (hf : ¬ rkI hs xs[k].code < 0) : heldL hs (xs.take (k + 1)) = heldL hs (xs.take k) ++ [xs[k]] := by
  unfold heldL; rw [List.take_succ_eq_append_getElem h, List.filter_append]; simp [hf]
theorem freeL_len (hs : List ByteArray) (xs : List Ltr) : (freeL hs xs).length ≤ xs.length := List.length_filter_le _ _
theorem heldL_len (hs : List ByteArray) (xs : List Ltr) : (heldL hs xs).length ≤ xs.length := List.length_filter_le _ _
def hbOk (hs : List ByteArray) (xs : List Ltr) : Bool := okB xs && heldOk hs
def hbFree (hs : List ByteArray) (xs : List Ltr) : List Ltr := if hbOk hs xs then freeL hs xs else []
def hbHeld (hs : List ByteArray) (xs : List Ltr) : List Ltr := if hbOk hs xs then heldL hs xs else []
theorem hbOk_len {hs : List ByteArray} {xs : List Ltr} (h : hbOk hs xs = true) : xs.length ≤ 60 ∧ hs.length ≤ 30 := by
  unfold hbOk heldOk at h
  simp only [Bool.and_eq_true, decide_eq_true_iff] at h
  exact ⟨okB_len' h.1, h.2.1⟩
theorem hbHeld_len (hs : List ByteArray) (xs : List Ltr) : (hbHeld hs xs).length ≤ 60 := by
  unfold hbHeld
  split
  · exact Nat.le_trans (heldL_len _ _) (hbOk_len (by assumption)).1
  · simp

/-! ### The report -/
structure Rpt where
  round : List Ltr
  strange : List Ltr
  held : List Ltr
  stuck : List Ltr
def dayRpt (d : Dy) (xs : List Ltr) : Rpt :=
  ⟨rpRound d.plan (hbFree d.held (fwSent d.fwds xs)), rpRest d.plan (hbFree d.held (fwSent d.fwds xs)), hbHeld d.held (fwSent d.fwds xs), fwStuck d.fwds xs⟩
def rdOk (d : Dy) (xs : List Ltr) : Bool := dayOk d && okB xs
def rptOf (d : Dy) (xs : List Ltr) : Rpt := if rdOk d xs then dayRpt d xs else ⟨[], [], [], []⟩
theorem rpOk_len {p : Pln} {xs : List Ltr} (h : rpOk p xs = true) : xs.length ≤ 60 := by
  unfold rpOk at h
  rw [Bool.and_eq_true] at h
  exact okB_len' h.2
theorem rpRound_len (p : Pln) (xs : List Ltr) : (rpRound p xs).length ≤ 60 := by
  unfold rpRound
  split
  · exact Nat.le_trans (passesN_len _ _ _ _) (rpOk_len (by assumption))
  · simp
theorem rpRest_len (p : Pln) (xs : List Ltr) : (rpRest p xs).length ≤ 60 := by
  unfold rpRest restOf
  split
  · exact Nat.le_trans (List.length_filter_le _ _) (rpOk_len (by assumption))
  · simp
theorem rptOf_len (d : Dy) (xs : List Ltr) : (rptOf d xs).round.length ≤ 60 ∧ (rptOf d xs).strange.length ≤ 60 ∧ (rptOf d xs).held.length ≤ 60 ∧ (rptOf d xs).stuck.length ≤ 60 := by
  unfold rptOf
  split
  · exact ⟨rpRound_len _ _, rpRest_len _ _, hbHeld_len _ _, fwStuck_len _ _⟩
  · simp

def rdR (w : World) (B : Nat) (v : Value) (r : Rpt) : Prop :=
  ∃ v0 v1 v2 v3, v = .agg #[v0, v1, v2, v3] ∧ rd w B v0 r.round ∧ rd w B v1 r.strange ∧ rd w B v2 r.held ∧ rd w B v3 r.stuck
theorem rdR.below {w w' : World} {B : Nat} {v : Value} {r : Rpt} (h : rdR w B v r) (hb : Below B w w') : rdR w' B v r := by
  obtain ⟨v0, v1, v2, v3, h1, h2, h3, h4, h5⟩ := h
  exact ⟨v0, v1, v2, v3, h1, h2.below hb, h3.below hb, h4.below hb, h5.below hb⟩
theorem rdR.more {w : World} {B B' : Nat} {v : Value} {r : Rpt} (h : rdR w B v r) (hB : B ≤ B') : rdR w B' v r := by
  obtain ⟨v0, v1, v2, v3, h1, h2, h3, h4, h5⟩ := h
  exact ⟨v0, v1, v2, v3, h1, h2.more hB, h3.more hB, h4.more hB, h5.more hB⟩
theorem rdR.on {w w' : World} {v : Value} {r : Rpt} (h : rdR w w.heap.size v r) (hb : Below w.heap.size w w') : rdR w' w'.heap.size v r := (h.below hb).more hb.size
theorem openR {w : World} {B : Nat} {v : Value} {r : Rpt} (h : rdR w B v r) : ∃ A0 c0 A1 c1 A2 c2 A3 c3, v = .agg #[.slice A0 r.round.length c0, .slice A1 r.strange.length c1, .slice A2 r.held.length c2, .slice A3 r.stuck.length c3] := by
  obtain ⟨v0, v1, v2, v3, rfl, ⟨A0, n0, c0, rfl, rfl, _⟩, ⟨A1, n1, c1, rfl, rfl, _⟩, ⟨A2, n2, c2, rfl, rfl, _⟩, ⟨A3, n3, c3, rfl, rfl, _⟩⟩ := h
  exact ⟨A0, c0, A1, c1, A2, c2, A3, c3, rfl⟩
theorem partsR {w : World} {B : Nat} {r : Rpt} {v0 v1 v2 v3 : Value} (h : rdR w B (.agg #[v0, v1, v2, v3]) r) : rd w B v0 r.round ∧ rd w B v1 r.strange ∧ rd w B v2 r.held ∧ rd w B v3 r.stuck := by
  obtain ⟨a0, a1, a2, a3, h1, h2, h3, h4, h5⟩ := h
  injection h1 with h1
  injection h1 with h1
  simp only [List.cons.injEq, and_true] at h1
  obtain ⟨rfl, rfl, rfl, rfl⟩ := h1
  exact ⟨h2, h3, h4, h5⟩
/-- Four rows of the call's own, each apart from the others. -/
def ownR (T base : Nat) (w : World) (v : Value) (r : Rpt) : Prop :=
  ∃ v0 v1 v2 v3, v = .agg #[v0, v1, v2, v3] ∧ own T base w v0 r.round ∧ own T base w v1 r.strange ∧ own T base w v2 r.held ∧ own T base w v3 r.stuck ∧ (apart v0 v1 ∧ apart v0 v2 ∧ apart v0 v3 ∧ apart v1 v2 ∧ apart v1 v3 ∧ apart v2 v3)
theorem ownR.rd {T base : Nat} {w : World} {v : Value} {r : Rpt} (h : ownR T base w v r) : rdR w w.heap.size v r := by
  obtain ⟨v0, v1, v2, v3, h1, h2, h3, h4, h5, _⟩ := h
  exact ⟨v0, v1, v2, v3, h1, h2.rd, h3.rd, h4.rd, h5.rd⟩
theorem ownR.below {T base : Nat} {w w' : World} {v : Value} {r : Rpt} (h : ownR T base w v r) (hb : Below w.heap.size w w') : ownR T base w' v r := by
  obtain ⟨v0, v1, v2, v3, h1, h2, h3, h4, h5, h6⟩ := h
  exact ⟨v0, v1, v2, v3, h1, h2.below hb, h3.below hb, h4.below hb, h5.below hb, h6⟩
theorem ownR.none_ (T base : Nat) (w : World) : ownR T base w (.agg #[.slice none 0 0, .slice none 0 0, .slice none 0 0, .slice none 0 0]) ⟨[], [], [], []⟩ :=
  ⟨_, _, _, _, rfl, own.nil_ _ _ _, own.nil_ _ _ _, own.nil_ _ _ _, own.nil_ _ _ _, .inl rfl, .inl rfl, .inl rfl, .inl rfl, .inl rfl, .inl rfl⟩
/-- The same, in blocks before hi. -/
def segR (T lo hi : Nat) (w : World) (v : Value) (r : Rpt) : Prop :=
  ∃ v0 v1 v2 v3, v = .agg #[v0, v1, v2, v3] ∧ seg T lo hi w v0 r.round ∧ seg T lo hi w v1 r.strange ∧ seg T lo hi w v2 r.held ∧ seg T lo hi w v3 r.stuck ∧ (apart v0 v1 ∧ apart v0 v2 ∧ apart v0 v3 ∧ apart v1 v2 ∧ apart v1 v3 ∧ apart v2 v3)
theorem segR.of {T lo : Nat} {w : World} {v : Value} {r : Rpt} (h : ownR T lo w v r) : segR T lo w.heap.size w v r := by
  obtain ⟨v0, v1, v2, v3, h1, h2, h3, h4, h5, h6⟩ := h
  exact ⟨v0, v1, v2, v3, h1, seg.of h2, seg.of h3, seg.of h4, seg.of h5, h6⟩
theorem segR.below {T lo hi : Nat} {w w' : World} {v : Value} {r : Rpt} (h : segR T lo hi w v r) (hb : Below w.heap.size w w') : segR T lo hi w' v r := by
  obtain ⟨v0, v1, v2, v3, h1, h2, h3, h4, h5, h6⟩ := h
  exact ⟨v0, v1, v2, v3, h1, h2.below hb, h3.below hb, h4.below hb, h5.below hb, h6⟩
theorem segR.out {T lo hi a b : Nat} {w w' : World} {v : Value} {r : Rpt} (h : segR T lo hi w v r) (ho : OutI a b w w') (hd : hi ≤ a ∨ b ≤ lo) : segR T lo hi w' v r := by
  obtain ⟨v0, v1, v2, v3, h1, h2, h3, h4, h5, h6⟩ := h
  exact ⟨v0, v1, v2, v3, h1, h2.out ho hd, h3.out ho hd, h4.out ho hd, h5.out ho hd, h6⟩
theorem segR.rd {T lo hi : Nat} {w : World} {v : Value} {r : Rpt} (h : segR T lo hi w v r) : rdR w w.heap.size v r := by
  obtain ⟨v0, v1, v2, v3, h1, h2, h3, h4, h5, _⟩ := h
  exact ⟨v0, v1, v2, v3, h1, h2.rd, h3.rd, h4.rd, h5.rd⟩

end Go.Proofs.YtpinkbodbedajaaGreatDoor

namespace Go.Proofs.YtpinkbodbedajaaGreatDoor
open Go.RowKit

set_option maxHeartbeats 800000 in
theorem impl_DayValid (v : Value) (d : Dy) (w : World) (hv : rdD w w.heap.size v d) :
    Calls Tryz.prog 47 #[v] w fun e w' => e = .returned (.bool (dayOk d)) ∧ Below w.heap.size w w' := by
  obtain ⟨A0, c0, A1, c1, A2, c2, e0⟩ := openD hv
  obtain ⟨w0, hw0⟩ : ∃ w0, w0 = w.alloc (Obj.cells #[.int .i64 d.plan.bins, .int .i64 d.plan.passes, .slice A0 d.plan.order.length c0, .slice A1 d.fwds.length c1, .slice A2 d.held.length c2, .int .i64 d.size] 28) := ⟨_, rfl⟩
  have q0 := box_cells hw0 0 (.int .i64 d.plan.bins) rfl
  have q1 := box_cells hw0 1 (.int .i64 d.plan.passes) rfl
  have q2 := box_cells hw0 2 (.slice A0 d.plan.order.length c0) rfl
  have q3 := box_cells hw0 3 (.slice A1 d.fwds.length c1) rfl
  have q4 := box_cells hw0 4 (.slice A2 d.held.length c2) rfl
  have q5 := box_cells hw0 5 (.int .i64 d.size) rfl
  have HT := Lib.hid (box_later hw0).1
  have hv1 := hv.on HT.out
  subst e0
  obtain ⟨hp, ho, hf, hh, _⟩ := partsD hv1
  have HP := Lib.hid hp; have HF := Lib.hid hf; have HH := Lib.hid hh
  clear hp ho hf hh hv hv1
  have HW0 := Lib.hid hw0; clear hw0
  have l0 := Below.refl w0.heap.size w0
  have HQ : Hid (dayOk d = (planOk d.plan && fwdsOk d.fwds && heldOk d.held && sizeOk d.size)) := rfl
  go_enter Tryz.func47, Tryz.ntmps47
  go_wp2_with fail
  rw [← HW0.out]
  refine (impl_PlanValid _ d.plan _ HP.out).mono ?_
  rintro e w1 ⟨rfl, b1⟩
  have l1 := later_trans l0 b1
  cases h1 : planOk d.plan
  · have H1 := Lib.hid h1; clear h1
    go_wp2_with fail
    go_ret
    exact ⟨ret_bool (by rw [HQ.out, H1.out]; rfl), later_trans HT.out l1⟩
  have H1 := Lib.hid h1; clear h1
  go_wp2_with fail
  refine (impl_ForwardsValid _ d.fwds _ (HF.out.on l1)).mono ?_
  rintro e w2 ⟨rfl, b2⟩
  have l2 := later_trans l1 b2
  cases h2 : fwdsOk d.fwds
  · have H2 := Lib.hid h2; clear h2
    go_wp2_with fail
    go_ret
    exact ⟨ret_bool (by rw [HQ.out, H1.out, H2.out]; rfl), later_trans HT.out l2⟩
  have H2 := Lib.hid h2; clear h2
  go_wp2_with fail
  refine (impl_heldValid _ d.held _ (HH.out.on l2)).mono ?_
  rintro e w3 ⟨rfl, rfl⟩
  cases h3 : heldOk d.held
  · have H3 := Lib.hid h3; clear h3
    go_wp2_with fail
    go_ret
    exact ⟨ret_bool (by rw [HQ.out, H1.out, H2.out, H3.out]; rfl), later_trans HT.out l2⟩
  have H3 := Lib.hid h3; clear h3
  go_wp2_with fail
  refine (impl_sizeValid d.size _).mono ?_
  rintro e w3 ⟨rfl, rfl⟩
  obtain ⟨r, HRR⟩ : ∃ r, Hid (sizeOk d.size = r) := ⟨_, rfl⟩
  rw [HRR.out]
  go_wp2_with fail
  go_ret
  exact ⟨ret_bool (by rw [HQ.out, H1.out, H2.out, H3.out, HRR.out]; rfl), later_trans HT.out l2⟩

theorem heldOk_bad {xs : List ByteArray} {k : Nat} (hk : k < xs.length) (h : isCode xs[k] = false) : heldOk xs = false := by
  unfold heldOk
  rw [Bool.and_eq_false_iff]
  exact .inr (List.all_eq_false.2 ⟨xs[k], List.getElem_mem _, by simp [h]⟩)
theorem heldOk_all {xs : List ByteArray} (h : ∀ j (hj : j < xs.length), isCode xs[j] = true) : heldOk xs = decide (xs.length ≤ 30) := by
  unfold heldOk
  rw [List.all_eq_true.2 fun x hx => by
    obtain ⟨j, hj, rfl⟩ := List.getElem_of_mem hx
    exact h j hj, Bool.and_true]

set_option maxHeartbeats 800000 in
theorem spec_DayValid (v : Value) (d : Dy) (w : World) (hv : rdD w w.heap.size v d) :
    Calls Tryz.prog 51 #[v] w fun e w' => e = .returned (.bool (dayOk d)) ∧ Below w.heap.size w w' := by
  obtain ⟨A0, c0, A1, c1, A2, c2, e0⟩ := openD hv
  obtain ⟨w0, hw0⟩ : ∃ w0, w0 = w.alloc (Obj.cells #[.int .i64 d.plan.bins, .int .i64 d.plan.passes, .slice A0 d.plan.order.length c0, .slice A1 d.fwds.length c1, .slice A2 d.held.length c2, .int .i64 d.size] 28) := ⟨_, rfl⟩
  have q0 := box_cells hw0 0 (.int .i64 d.plan.bins) rfl
  have q1 := box_cells hw0 1 (.int .i64 d.plan.passes) rfl
  have q2 := box_cells hw0 2 (.slice A0 d.plan.order.length c0) rfl
  have q3 := box_cells hw0 3 (.slice A1 d.fwds.length c1) rfl
  have q4 := box_cells hw0 4 (.slice A2 d.held.length c2) rfl
  have q5 := box_cells hw0 5 (.int .i64 d.size) rfl
  have HT := Lib.hid (box_later hw0).1
  have hv1 := hv.on HT.out
  subst e0
  obtain ⟨hp, ho, hf, hh, _⟩ := partsD hv1
  have HP := Lib.hid hp; have HF := Lib.hid hf; have HH := Lib.hid hh
  have hm : d.held.length ≤ 9223372036854775807 := by
    obtain ⟨A, n, c, e1, e2, e3, e4, e5⟩ := hh
    unfold maxLen at e4
    omega
  obtain ⟨A, n, c, e1, e2, e3, e4, hrr⟩ := hh
  injection e1 with e1 e1' e1''
  subst e1 e1' e1''
  have HR := Lib.hid hrr
  clear hp ho hf hv hv1 hrr e2
  have HW0 := Lib.hid hw0; clear hw0
  have l0 := Below.refl w0.heap.size w0
  have HQ : Hid (dayOk d = (planOk d.plan && fwdsOk d.fwds && heldOk d.held && sizeOk d.size)) := rfl
  go_enter Tryz.func51, Tryz.ntmps51
  go_wp2
  rw [← HW0.out]
  go_loop [3] (fun i => ∃ k : Nat, k ≤ d.held.length ∧ i = .int .i64 k ∧ Hid (∀ j (h : j < d.held.length), j < k → isCode d.held[j] = true)) (fun i => d.held.length - (intOf i).toNat)
  case atStart => exact ⟨0, Nat.zero_le _, rfl, fun j _ hj => absurd hj (Nat.not_lt_zero j)⟩
  case round =>
    obtain ⟨k, hk, rfl, HG⟩ := hrel
    by_cases hlt : k < d.held.length
    · obtain ⟨b, o, rfl, hb, hok, x1⟩ := HR.out.strU k hlt
      have HX : Hid (∀ h : isCode d.held[k] = true, ∀ j (h1 : j < d.held.length), j < k + 1 → isCode d.held[j] = true) := fun h j h1 hj => by
        by_cases hjk : j < k
        · exact HG.out j h1 hjk
        · obtain rfl : j = k := by omega
          exact h
      have HY := Lib.hid (heldOk_bad hlt)
      generalize d.held[k] = x at *
      obtain ⟨r, HRR⟩ : ∃ r, Hid (isCode x = r) := ⟨_, rfl⟩
      go_wp2_with fail
      refine (spec_CodeValid x _ hok).mono ?_
      rw [HRR.out]
      rintro e w1 ⟨rfl, rfl⟩
      cases r
      · go_wp2_with fail
        go_ret
        exact ⟨ret_bool (by rw [HQ.out, HY.out HRR.out]; simp), HT.out⟩
      · go_wp2_with fail
        go_round
        case rel => exact ⟨k + 1, by omega, by go_num, HX.out HRR.out⟩
        case measure => simp [intOf]; omega
    · have HE := Lib.hid (heldOk_all fun j hj => HG.out j hj (by omega))
      go_wp2_with fail
      refine (spec_PlanValid _ d.plan _ HP.out).mono ?_
      rintro e w1 ⟨rfl, b1⟩
      have l1 := later_trans l0 b1
      cases h1 : planOk d.plan
      · have H1 := Lib.hid h1; clear h1
        go_wp2_with fail
        go_ret
        exact ⟨ret_bool (by rw [HQ.out, H1.out]; rfl), later_trans HT.out l1⟩
      have H1 := Lib.hid h1; clear h1
      go_wp2_with fail
      refine (spec_ForwardsValid _ d.fwds _ (HF.out.on l1)).mono ?_
      rintro e w2 ⟨rfl, rfl⟩
      cases h2 : fwdsOk d.fwds
      · have H2 := Lib.hid h2; clear h2
        go_wp2_with fail
        go_ret
        exact ⟨ret_bool (by rw [HQ.out, H1.out, H2.out]; rfl), later_trans HT.out l1⟩
      have H2 := Lib.hid h2; clear h2
      by_cases h30 : (d.held.length : Int) ≤ 30
      · have HE2 : Hid (heldOk d.held = true) := by show _ = _; rw [HE.out, decide_eq_true (by omega)]
        go_wp2_with fail
        refine (spec_l5Size d.size _).mono ?_
        rintro e w3 ⟨rfl, rfl⟩
        obtain ⟨r, HRR⟩ : ∃ r, Hid (sizeOk d.size = r) := ⟨_, rfl⟩
        rw [HRR.out]
        go_wp2_with fail
        go_ret
        exact ⟨ret_bool (by rw [HQ.out, H1.out, H2.out, HE2.out, HRR.out]; rfl), later_trans HT.out l1⟩
      · have HE2 : Hid (heldOk d.held = false) := by show _ = _; rw [HE.out, decide_eq_false (by omega)]
        have hd := decide_eq_false h30
        go_wp2_with fail
        go_ret
        exact ⟨ret_bool (by rw [HQ.out, H1.out, H2.out, HE2.out]; rfl), later_trans HT.out l1⟩

def rankI (p : Pln) (c : ByteArray) : Int := if planOk p then rkI p.order c else -1
theorem impl_PlanRank (v : Value) (p : Pln) (c : ByteArray) (w : World) (hv : rdP w w.heap.size v p) :
    Calls Tryz.prog 203 #[v, .string c] w fun e w' => e = .returned (.int .i64 (rankI p c)) ∧ Below w.heap.size w w' := by
  obtain ⟨A0, c0, e0⟩ := openP hv
  obtain ⟨w0, hw0⟩ : ∃ w0, w0 = w.alloc (Obj.cells #[.int .i64 p.bins, .int .i64 p.passes, .slice A0 p.order.length c0] 25) := ⟨_, rfl⟩
  have q0 := box_cells hw0 0 (.int .i64 p.bins) rfl
  have q1 := box_cells hw0 1 (.int .i64 p.passes) rfl
  have q2 := box_cells hw0 2 (.slice A0 p.order.length c0) rfl
  have HT := Lib.hid (box_later hw0).1
  have HP := Lib.hid (hv.on HT.out)
  subst e0
  have HO : Hid (rd w0 w0.heap.size (.slice A0 p.order.length c0) p.order) := by
    obtain ⟨vo, h1, _, _, h4⟩ := HP.out
    injection h1 with h1
    injection h1 with h1
    simp only [List.cons.injEq, and_true, true_and] at h1
    subst h1
    exact h4
  have HW0 := Lib.hid hw0; clear hw0 hv
  have l0 := Below.refl w0.heap.size w0
  have HQ : Hid (rankI p c = if planOk p then rkI p.order c else -1) := rfl
  go_enter Tryz.func203, Tryz.ntmps203
  go_wp2_with fail
  rw [← HW0.out]
  refine (impl_PlanValid _ p _ HP.out).mono ?_
  rintro e w1 ⟨rfl, b1⟩
  have l1 := later_trans l0 b1
  cases h1 : planOk p
  · have H1 := Lib.hid h1; clear h1
    go_wp2_with fail
    go_ret
    exact ⟨ret_int (by rw [HQ.out, H1.out]; rfl), later_trans HT.out l1⟩
  have H1 := Lib.hid h1; clear h1
  go_wp2_with fail
  refine (slices_IndexS _ p.order c _ (HO.out.on l1)).mono ?_
  rintro e w2 ⟨rfl, rfl⟩
  obtain ⟨r, HRR⟩ : ∃ r, Hid (rkI p.order c = r) := ⟨_, rfl⟩
  rw [HRR.out]
  go_wp2_with fail
  go_ret
  exact ⟨ret_int (by rw [HQ.out, H1.out, HRR.out]; rfl), later_trans HT.out l1⟩

end Go.Proofs.YtpinkbodbedajaaGreatDoor
