/- UM SR -/
import Derived.Test.YtiaepapdofcnjaaQ5
import Derived.Test.YtiaepapdofcnjaaQ6
import Derived.Test.YtiaepapdofcnjaaQ4
import Derived.Shelf.SortG.Plain
import Derived.Shelf.SortG.SortNone
import Derived.Ground.SlgnProg
import Derived.Lib.SortBridge
import Derived.Test.YtiaepapdofcnjaaProg
namespace Go.Proofs.Ytiaepapdofcnjaa
open Go.RowKit

set_option maxHeartbeats 400000 in
theorem u_eqIS (v v' : Value) (xs : List Int) (w : World) (hv : rd w w.heap.size v xs) (hv' : rd w w.heap.size v' xs) :
    Calls Try.prog 63 #[v, v'] w fun e w' => e = .returned (.bool true) ∧ Below w.heap.size w w' := by
  obtain ⟨A, n, c, rfl, hn, hc, hm, hr⟩ := hv
  obtain ⟨A', n', c', rfl, hn', hc', hm', hr'⟩ := hv'
  subst hn hn'
  unfold maxLen at hm hm'
  have HR := Lib.hid hr; clear hr
  have HR' := Lib.hid hr'; clear hr'
  have hl1 : ((xs.length : Int) != (xs.length : Int)) = false := by simp
  have l0 := Below.refl w.heap.size w
  go_enter Try.func63, Try.ntmps63
  go_wp2
  go_loopw [5] (fun i wr => ∃ k : Nat, k ≤ xs.length ∧ i = .int .i64 k ∧ Below w.heap.size w wr) (fun i _ => xs.length - (intOf i).toNat)
  case atStart => exact ⟨0, Nat.zero_le _, rfl, l0⟩
  case round =>
    obtain ⟨k, hk, rfl, lr⟩ := hrel
    obtain ⟨w1, rfl⟩ : ∃ w1 : World, w1 = wr := ⟨_, rfl⟩
    clear l0
    by_cases hlt : k < xs.length
    · obtain ⟨b, o, rfl, hb, _, c1⟩ := HR.out.intU k hlt
      obtain ⟨b', o', rfl, hb', _, d1⟩ := HR'.out.intU k hlt
      generalize xs[k] = x at *
      have hki : (k : Int) < (xs.length : Int) := by omega
      have hq : (x != x) = false := by simp
      go_wp2
      go_quiet (fail)
      go_wp2
      go_roundw
      case rel => exact ⟨k + 1, by omega, by go_num, later_drewN lr _⟩
      case measure => simp [intOf]; omega
    · go_wp2
      go_ret
      exact ⟨rfl, lr⟩

/-- The marks that 'markIntS' leaves. -/
def marksI (k n : Nat) : List Int := (List.range n).map fun i => ((k + i : Nat) : Int)
theorem marksI_len (k n : Nat) : (marksI k n).length = n := by simp [marksI]
theorem marksI_get (k n i : Nat) (h : i < (marksI k n).length) : (marksI k n)[i] = ((k + i : Nat) : Int) := by simp [marksI]
def markedI (k0 : Nat) (xs : List Int) (k : Nat) : List Int := marksI k0 k ++ xs.drop k
theorem markedI_len {k0 : Nat} {xs : List Int} {k : Nat} (h : k ≤ xs.length) : (markedI k0 xs k).length = xs.length := by
  simp [markedI, marksI_len]; omega
theorem markedI_step {k0 : Nat} {xs : List Int} {k : Nat} (h : k < xs.length) : (markedI k0 xs k).set k ((k0 + k : Nat) : Int) = markedI k0 xs (k + 1) := by
  unfold markedI
  rw [List.set_append_right _ _ (by rw [marksI_len]; exact Nat.le_refl _), marksI_len, Nat.sub_self, List.drop_eq_getElem_cons h, List.set_cons_zero]
  unfold marksI
  rw [List.range_succ, List.map_append]
  simp

set_option maxHeartbeats 400000 in
theorem laws_markIntS (T base : Nat) (v : Value) (xs : List Int) (k0 : Nat) (w : World) (hv : own T base w v xs) (hk0 : k0 ≤ 274877906944) (hl : xs.length ≤ 1048576) :
    Calls Try.prog 64 #[v, .int .i64 k0] w fun e w' => e = .returned (.int .i64 ((k0 + xs.length : Nat) : Int)) ∧ own T base w' v (marksI k0 xs.length) ∧ w.grownBy w' v.ownBlock := by
  rcases hv.form with ⟨rfl, rfl⟩ | ⟨g, c, rfl, hg, hgl, hc, hm⟩
  · go_enter Try.func64, Try.ntmps64
    go_wp2
    go_loopw [1, 5] (fun t i wr => i = .int .i64 0 ∧ t = .int .i64 k0 ∧ wr = w) (fun _ _ _ => 0)
    case atStart => exact ⟨rfl, rfl, rfl⟩
    case round =>
      obtain ⟨rfl, rfl, rfl⟩ := hrel
      go_wp2
      go_ret
      exact ⟨ret_int (by simp), by simpa [marksI] using own.nil_ (α := Int) _ _ _, World.grownBy.refl _ _⟩
  · unfold maxLen at hm
    have HV := Lib.hid hv; clear hv
    go_enter Try.func64, Try.ntmps64
    go_wp2
    go_loopw [1, 5] (fun t i wr => ∃ k : Nat, k ≤ xs.length ∧ i = .int .i64 k ∧ t = .int .i64 ((k0 + k : Nat) : Int) ∧ w.grownBy wr (some g) ∧ own T base wr (.slice (some ⟨g, 0, none⟩) xs.length c) (markedI k0 xs k)) (fun _ i _ => xs.length - (intOf i).toNat)
    case atStart => exact ⟨0, Nat.zero_le _, rfl, rfl, World.grownBy.refl _ _, by simpa [markedI, marksI] using HV.out⟩
    case round =>
      obtain ⟨k, hk, rfl, rfl, hgr, ho⟩ := hrel
      obtain ⟨w1, rfl⟩ : ∃ w1 : World, w1 = wr := ⟨_, rfl⟩
      by_cases hlt : k < xs.length
      · have hlen := markedI_len (k0 := k0) hk
        have HST := Lib.hid (markedI_step (k0 := k0) hlt)
        generalize markedI k0 xs k = ys at *
        have hlt' : k < ys.length := by omega
        have HLEN := Lib.hid hlen; clear hlen
        obtain ⟨u0, g0⟩ := ho.cellAt (j := k) (by show _ < _ * 1; omega)
        have f0 := ho.freeAt k
        have HO1 := Lib.hid (own_setInt ho hlt' ((k0 : Int) + (k : Int)) (by unfold isI64; omega))
        clear ho
        have hkk : (k0 : Int) + (k : Int) ≤ 824633720832 := by omega
        have hki : (k : Int) < (xs.length : Int) := by omega
        have hgr1 : w.grownBy (w1.setCell ⟨g, k, none⟩ (.int .i64 ((k0 : Int) + (k : Int)))) (some g) := grown_setCell hgr (.inl rfl) _
        go_wp2
        go_roundw
        case rel =>
          refine ⟨k + 1, by omega, by go_num, by go_num, hgr1, ?_⟩
          have := HO1.out
          rw [show (k0 : Int) + (k : Int) = ((k0 + k : Nat) : Int) by omega, HST.out] at this
          rw [show (k0 : Int) + (k : Int) = ((k0 + k : Nat) : Int) by omega]
          exact this
        case measure => simp [intOf]; omega
      · have HE := Lib.hid (show k = xs.length by omega)
        have HO := Lib.hid ho; clear ho
        go_wp2
        go_ret
        refine ⟨ret_int ?_, ?_, hgr⟩
        · have := HE.out; omega
        · have := HO.out
          have h2 := HE.out
          subst h2
          rw [markedI, List.drop_length, List.append_nil] at this
          exact this

set_option maxHeartbeats 400000 in
theorem laws_heldIntS (v : Value) (n k0 : Nat) (w : World) (hv : rd w w.heap.size v (marksI k0 n)) (hk0 : k0 ≤ 274877906944) (hl : n ≤ 1048576) :
    Calls Try.prog 65 #[v, .int .i64 k0] w fun e w' => e = .returned (.int .i64 ((k0 + n : Nat) : Int)) ∧ w = w' := by
  obtain ⟨A, n', c, rfl, hn, hc, hm, hr⟩ := hv
  rw [marksI_len] at hn
  subst hn
  unfold maxLen at hm
  have HR := Lib.hid hr; clear hr
  have l0 := Below.refl w.heap.size w
  go_enter Try.func65, Try.ntmps65
  go_wp2
  go_loop [1, 5] (fun t i => ∃ k : Nat, k ≤ n' ∧ i = .int .i64 k ∧ t = .int .i64 ((k0 + k : Nat) : Int)) (fun _ i => n' - (intOf i).toNat)
  case atStart => exact ⟨0, Nat.zero_le _, rfl, rfl⟩
  case round =>
    obtain ⟨k, hk, rfl, rfl⟩ := hrel
    have hkk : (k0 : Int) + (k : Int) ≤ 824633720832 := by omega
    by_cases hlt : k < n'
    · obtain ⟨b, o, rfl, hb, _, c1⟩ := HR.out.intU k (by rw [marksI_len]; exact hlt)
      rw [marksI_get] at c1
      have hmm : ((k0 : Int) + (k : Int) != (k0 : Int) + (k : Int)) = false := by simp
      have hkn : (k : Int) < (n' : Int) := by omega
      go_wp2
      go_round
      case rel => exact ⟨k + 1, by omega, by go_num, by go_num⟩
      case measure => simp [intOf]; omega
    · have HE := Lib.hid (show k = n' by omega)
      go_wp2
      go_ret
      exact ⟨ret_int (by have := HE.out; omega), rfl⟩

/-! Frames of what marks: only blocks from lo on, before hi, turn. -/
structure OutI (lo hi : Nat) (w w' : World) : Prop where
  os : w'.os = w.os
  tape : w'.tape = w.tape
  output : w'.output = w.output
  size : w.heap.size ≤ w'.heap.size
  block : ∀ k, k < w.heap.size → k < lo ∨ hi ≤ k → w'.heap[k]? = w.heap[k]?
theorem OutI.refl (lo hi : Nat) (w : World) : OutI lo hi w w := ⟨rfl, rfl, rfl, Nat.le_refl _, fun _ _ _ => rfl⟩
theorem OutI.trans {lo hi : Nat} {a b c : World} (h : OutI lo hi a b) (k : OutI lo hi b c) : OutI lo hi a c :=
  ⟨k.os.trans h.os, k.tape.trans h.tape, k.output.trans h.output, Nat.le_trans h.size k.size, fun i hi hne => (k.block i (Nat.lt_of_lt_of_le hi h.size) hne).trans (h.block i hi hne)⟩
theorem OutI.of_below {lo hi : Nat} {w w' : World} (h : Below w.heap.size w w') : OutI lo hi w w' := ⟨h.os, h.tape, h.output, h.size, fun k hk _ => h.block k hk⟩
theorem OutI.of_grown {lo hi : Nat} {w w' : World} {row : Option Nat} (h : w.grownBy w' row) (hr : ∀ k, row = some k → lo ≤ k ∧ k < hi) : OutI lo hi w w' :=
  ⟨h.os, h.tape, h.output, h.size, fun k hk hne => h.block k hk (fun e => by have := hr k e.symm; omega)⟩
theorem OutI.later {lo hi : Nat} {a w w' : World} (h : OutI lo hi w w') (hb : Below a.heap.size a w) (hlo : a.heap.size ≤ lo) : Below a.heap.size a w' :=
  ⟨h.os.trans hb.os, h.tape.trans hb.tape, h.output.trans hb.output, Nat.le_trans hb.size h.size, fun k hk => (h.block k (Nat.lt_of_lt_of_le hk hb.size) (.inl (by omega))).trans (hb.block k hk)⟩
theorem own.keepBlk {α : Type} [Flat α] {T base : Nat} {w w' : World} {v : Value} {xs : List α} (h : own T base w v xs) (hk : ∀ k, v.ownBlock = some k → w'.heap[k]? = w.heap[k]?) : own T base w' v xs := by
  obtain ⟨css, ⟨h1, h2⟩, hl, he⟩ := h
  refine ⟨css, ⟨h1, ?_⟩, hl, fun k a b => Flat.free (he k a b)⟩
  rcases h2 with h2 | ⟨g, cap, cur, hv, hg, hh, r⟩
  · exact .inl h2
  · exact .inr ⟨g, cap, cur, hv, hg, by rw [hk g (by rw [hv]; rfl)]; exact hh, r⟩
/-- A row of the call's own, in blocks before hi. -/
def seg {α : Type} [El α] (T lo hi : Nat) (w : World) (v : Value) (xs : List α) : Prop := own T lo w v xs ∧ ∀ k, v.ownBlock = some k → k < hi
theorem seg.of {α : Type} [El α] {T lo : Nat} {w : World} {v : Value} {xs : List α} (h : own T lo w v xs) : seg T lo w.heap.size w v xs := ⟨h, fun k hk => (h.blk k hk).2⟩
theorem seg.below {α : Type} [El α] {T lo hi : Nat} {w w' : World} {v : Value} {xs : List α} (h : seg T lo hi w v xs) (hb : Below w.heap.size w w') : seg T lo hi w' v xs := ⟨h.1.below hb, h.2⟩
theorem seg.out {α : Type} [Flat α] {T lo hi a b : Nat} {w w' : World} {v : Value} {xs : List α} (h : seg T lo hi w v xs) (ho : OutI a b w w') (hd : hi ≤ a ∨ b ≤ lo) : seg T lo hi w' v xs :=
  ⟨h.1.keepBlk fun k hk => ho.block k (h.1.blk k hk).2 (by have h1 := (h.1.blk k hk).1; have h2 := h.2 k hk; omega), h.2⟩
theorem seg.rd {α : Type} [El α] {T lo hi : Nat} {w : World} {v : Value} {xs : List α} (h : seg T lo hi w v xs) : rd w w.heap.size v xs := h.1.rd
def segP (T lo hi : Nat) (w : World) (v : Value) (p : Pln) : Prop := ∃ vo, v = .agg #[.int .i64 p.bins, .int .i64 p.passes, vo] ∧ isI64 p.bins ∧ isI64 p.passes ∧ seg T lo hi w vo p.order
theorem segP.of {T lo : Nat} {w : World} {v : Value} {p : Pln} (h : ownP T lo w v p) : segP T lo w.heap.size w v p := by
  obtain ⟨vo, h1, h2, h3, h4⟩ := h
  exact ⟨vo, h1, h2, h3, seg.of h4⟩
theorem segP.below {T lo hi : Nat} {w w' : World} {v : Value} {p : Pln} (h : segP T lo hi w v p) (hb : Below w.heap.size w w') : segP T lo hi w' v p := by
  obtain ⟨vo, h1, h2, h3, h4⟩ := h
  exact ⟨vo, h1, h2, h3, h4.below hb⟩
theorem segP.out {T lo hi a b : Nat} {w w' : World} {v : Value} {p : Pln} (h : segP T lo hi w v p) (ho : OutI a b w w') (hd : hi ≤ a ∨ b ≤ lo) : segP T lo hi w' v p := by
  obtain ⟨vo, h1, h2, h3, h4⟩ := h
  exact ⟨vo, h1, h2, h3, h4.out ho hd⟩
theorem segP.rd {T lo hi : Nat} {w : World} {v : Value} {p : Pln} (h : segP T lo hi w v p) : rdP w w.heap.size v p := by
  obtain ⟨vo, h1, h2, h3, h4⟩ := h
  exact ⟨vo, h1, h2, h3, h4.rd⟩

theorem own_setStr {T base g n c : Nat} {w : World} {xs : List ByteArray} (h : own T base w (.slice (some ⟨g, 0, none⟩) n c) xs) {k : Nat} (hk : k < xs.length) (y : ByteArray) (hy : y.size ≤ maxLen) :
    own T base (w.setCell ⟨g, k, none⟩ (.string y)) (.slice (some ⟨g, 0, none⟩) n c) (xs.set k y) := by
  have h1 := h.setCell (k := k) (j := 0) hk (by decide) (.string y) y (fun ecs he => by
    obtain ⟨_, rfl⟩ := he
    exact ⟨hy, rfl⟩)
  rw [show k * El.size ByteArray + 0 = k from Nat.mul_one k] at h1
  exact h1
def marksS (k n : Nat) : List ByteArray := (List.range n).map fun i => markB (k + i)
theorem marksS_len (k n : Nat) : (marksS k n).length = n := by simp [marksS]
theorem marksS_get (k n i : Nat) (h : i < (marksS k n).length) : (marksS k n)[i] = markB (k + i) := by simp [marksS]
def markedS (k0 : Nat) (xs : List ByteArray) (k : Nat) : List ByteArray := marksS k0 k ++ xs.drop k
theorem markedS_len {k0 : Nat} {xs : List ByteArray} {k : Nat} (h : k ≤ xs.length) : (markedS k0 xs k).length = xs.length := by
  simp [markedS, marksS_len]; omega
theorem markedS_step {k0 : Nat} {xs : List ByteArray} {k : Nat} (h : k < xs.length) : (markedS k0 xs k).set k (markB (k0 + k)) = markedS k0 xs (k + 1) := by
  unfold markedS
  rw [List.set_append_right _ _ (by rw [marksS_len]; exact Nat.le_refl _), marksS_len, Nat.sub_self, List.drop_eq_getElem_cons h, List.set_cons_zero]
  unfold marksS
  rw [List.range_succ, List.map_append]
  simp

set_option maxHeartbeats 400000 in
theorem laws_markStringS (T base : Nat) (v : Value) (xs : List ByteArray) (k0 : Nat) (w : World) (hv : own T base w v xs) (hk0 : k0 ≤ 274877906944) (hl : xs.length ≤ 1048576) :
    Calls Try.prog 59 #[v, .int .i64 k0] w fun e w' => e = .returned (.int .i64 ((k0 + xs.length : Nat) : Int)) ∧ own T base w' v (marksS k0 xs.length) ∧ w.grownBy w' v.ownBlock := by
  rcases hv.form with ⟨rfl, rfl⟩ | ⟨g, c, rfl, hg, hgl, hc, hm⟩
  · go_enter Try.func59, Try.ntmps59
    go_wp2
    go_loopw [1, 5] (fun t i wr => i = .int .i64 0 ∧ t = .int .i64 k0 ∧ wr = w) (fun _ _ _ => 0)
    case atStart => exact ⟨rfl, rfl, rfl⟩
    case round =>
      obtain ⟨rfl, rfl, rfl⟩ := hrel
      go_wp2
      go_ret
      exact ⟨ret_int (by simp), by simpa [marksS] using own.nil_ (α := ByteArray) _ _ _, World.grownBy.refl _ _⟩
  · unfold maxLen at hm
    have HV := Lib.hid hv; clear hv
    go_enter Try.func59, Try.ntmps59
    go_wp2
    go_loopw [1, 5] (fun t i wr => ∃ (k m : Nat), k ≤ xs.length ∧ i = .int .i64 k ∧ t = .int .i64 m ∧ Hid (m = k0 + k) ∧ w.grownBy wr (some g) ∧ own T base wr (.slice (some ⟨g, 0, none⟩) xs.length c) (markedS k0 xs k)) (fun _ i _ => xs.length - (intOf i).toNat)
    case atStart => exact ⟨0, k0, Nat.zero_le _, rfl, rfl, rfl, World.grownBy.refl _ _, by simpa [markedS, marksS] using HV.out⟩
    case round =>
      obtain ⟨k, m, hk, rfl, rfl, HM, hgr, ho⟩ := hrel
      obtain ⟨w1, rfl⟩ : ∃ w1 : World, w1 = wr := ⟨_, rfl⟩
      have hmb : (m : Int) ≤ 824633720832 := by have := HM.out; omega
      by_cases hlt : k < xs.length
      · have hlen := markedS_len (k0 := k0) hk
        have HST := Lib.hid (markedS_step (k0 := k0) hlt)
        generalize markedS k0 xs k = ys at *
        have hlt' : k < ys.length := by omega
        have HLEN := Lib.hid hlen; clear hlen
        have HO := Lib.hid ho; clear ho
        have hki : (k : Int) < (xs.length : Int) := by omega
        go_wp2_with fail
        refine (laws_markText m _ (by omega)).mono ?_
        rintro e w2 ⟨rfl, b2⟩
        have hgr2 : w.grownBy w2 (some g) := grown_below hgr b2
        have ho2 := HO.out.below b2
        obtain ⟨u0, g0⟩ := ho2.cellAt (j := k) (by show _ < _ * 1; omega)
        have f0 := ho2.freeAt k
        have HO3 := Lib.hid (own_setStr ho2 hlt' (markB m) (markB_size m (by omega)))
        have hgr3 : w.grownBy (w2.setCell ⟨g, k, none⟩ (.string (markB m))) (some g) := grown_setCell hgr2 (.inl rfl) _
        clear ho2 hgr hgr2 b2
        go_wp2_with fail
        go_roundw
        case rel =>
          refine ⟨k + 1, m + 1, by omega, by go_num, by go_num, by show _ = _; have := HM.out; omega, hgr3, ?_⟩
          have := HO3.out
          have hm2 := HM.out
          subst hm2
          rw [HST.out] at this
          exact this
        case measure => simp [intOf]; omega
      · have HE := Lib.hid (show k = xs.length by omega)
        have HO := Lib.hid ho; clear ho
        go_wp2
        go_ret
        refine ⟨ret_int ?_, ?_, hgr⟩
        · have := HM.out; have := HE.out; omega
        · have := HO.out
          have h2 := HE.out
          subst h2
          rw [markedS, List.drop_length, List.append_nil] at this
          exact this

theorem u_wmP (T lo hi : Nat) (v : Value) (p : Pln) (k : Nat) (w : World) (hv : segP T lo hi w v p) (hk : k ≤ 274877906944) (hs : szP p ≤ 1048576) :
    Calls Try.prog 22 #[v, .int .i64 k] w fun e w' => e = .returned (.int .i64 ((k + p.order.length : Nat) : Int)) ∧ OutI lo hi w w' := by
  obtain ⟨vo, rfl, h2, h3, h4⟩ := hv
  have H4 := Lib.hid h4
  obtain ⟨A0, n0, c0, rfl, hn0, _⟩ := h4.rd
  subst hn0
  clear h4
  unfold szP at hs
  have HB : Hid (Below w.heap.size w (w.alloc (Obj.cells #[.int .i64 p.bins, .int .i64 p.passes, .slice A0 p.order.length c0] 32))) := (Below.refl _ _).alloc (Nat.le_refl _) _
  go_enter Try.func22, Try.ntmps22
  go_wp2_with fail
  refine (laws_markStringS T lo _ p.order k _ (H4.out.below HB.out).1 hk (by omega)).mono ?_
  rintro e w1 ⟨rfl, o1, g1⟩
  have HO := Lib.hid ((OutI.of_below HB.out).trans (OutI.of_grown (lo := lo) (hi := hi) g1 (fun j hj => ⟨((H4.out.below HB.out).1.blk j hj).1, H4.out.2 j hj⟩)))
  clear o1 g1
  go_wp2_with fail
  go_ret
  exact ⟨rfl, HO.out⟩

end Go.Proofs.Ytiaepapdofcnjaa

namespace Go.Proofs
open Go.Shelf
def Try.laysSort_ren : Go.Shelf.Ren := ⟨fun | 53 => 124 | 64 => 176 | 63 => 175 | 78 => 212 | 79 => 213 | 70 => 203 | 71 => 204 | 72 => 205 | 73 => 206 | 74 => 207 | 75 => 208 | 59 => 209 | 76 => 210 | 77 => 211 | 88 => 221 | 89 => 222 | 90 => 223 | 91 => 224 | 92 => 225 | 68 => 226 | 96 => 228 | n => n, fun | 22 => 86 | 23 => 3 | 3 => 3 | 51 => 196 | 0 => 0 | 67 => 224 | 69 => 226 | 4 => 4 | 61 => 217 | 60 => 216 | 44 => 221 | 5 => 5 | 9 => 9 | 75 => 231 | 79 => 235 | 83 => 238 | 84 => 239 | n => n, fun | n => n⟩
theorem Try.laysSort : Go.Proofs.SlLaysN.n53 Try.prog Try.laysSort_ren := {
  mixed := by kernel_rfl
  f53 := ⟨Try.f124.name, by decide, Try.func124.trans (congrArg some (by kernel_rfl))⟩
  f59 := ⟨Try.f209.name, by decide, Try.func209.trans (congrArg some (by kernel_rfl))⟩
  f63 := ⟨Try.f175.name, by decide, Try.func175.trans (congrArg some (by kernel_rfl))⟩
  f64 := Try.func176.trans (congrArg some (by kernel_rfl))
  f68 := ⟨Try.f226.name, by decide, Try.func226.trans (congrArg some (by kernel_rfl))⟩
  f70 := ⟨Try.f203.name, by decide, Try.func203.trans (congrArg some (by kernel_rfl))⟩
  f71 := ⟨Try.f204.name, by decide, Try.func204.trans (congrArg some (by kernel_rfl))⟩
  f72 := ⟨Try.f205.name, by decide, Try.func205.trans (congrArg some (by kernel_rfl))⟩
  f73 := ⟨Try.f206.name, by decide, Try.func206.trans (congrArg some (by kernel_rfl))⟩
  f74 := ⟨Try.f207.name, by decide, Try.func207.trans (congrArg some (by kernel_rfl))⟩
  f75 := ⟨Try.f208.name, by decide, Try.func208.trans (congrArg some (by kernel_rfl))⟩
  f76 := ⟨Try.f210.name, by decide, Try.func210.trans (congrArg some (by kernel_rfl))⟩
  f77 := ⟨Try.f211.name, by decide, Try.func211.trans (congrArg some (by kernel_rfl))⟩
  f78 := Try.func212.trans (congrArg some (by kernel_rfl))
  f79 := Try.func213.trans (congrArg some (by kernel_rfl))
  f88 := ⟨Try.f221.name, by decide, Try.func221.trans (congrArg some (by kernel_rfl))⟩
  f89 := Try.func222.trans (congrArg some (by kernel_rfl))
  f90 := Try.func223.trans (congrArg some (by kernel_rfl))
  f91 := ⟨Try.f224.name, by decide, Try.func224.trans (congrArg some (by kernel_rfl))⟩
  f92 := ⟨Try.f225.name, by decide, Try.func225.trans (congrArg some (by kernel_rfl))⟩
  f96 := ⟨Try.f228.name, by decide, Try.func228.trans (congrArg some (by kernel_rfl))⟩
  t0 := Try.underlying0
  a0 := Try.isAgg0
  z0 := Try.sizeOf0
  v0 := Try.zeroValue0
  t3 := Try.underlying3
  a3 := Try.isAgg3
  z3 := Try.sizeOf3
  v3 := Try.zeroValue3
  t4 := Try.underlying4
  a4 := Try.isAgg4
  z4 := Try.sizeOf4
  v4 := Try.zeroValue4
  t5 := Try.underlying5
  a5 := Try.isAgg5
  z5 := Try.sizeOf5
  v5 := Try.zeroValue5
  t9 := Try.underlying9
  a9 := Try.isAgg9
  z9 := Try.sizeOf9
  v9 := Try.zeroValue9
  t22 := Try.underlying86
  a22 := Try.isAgg86
  z22 := Try.sizeOf86
  v22 := Try.zeroValue86
  t23 := Try.underlying3
  a23 := Try.isAgg3
  z23 := Try.sizeOf3
  v23 := Try.zeroValue3
  t44 := Try.underlying221
  a44 := Try.isAgg221
  z44 := Try.sizeOf221
  v44 := Try.zeroValue221
  t51 := Try.underlying196
  a51 := Try.isAgg196
  z51 := Try.sizeOf196
  v51 := Try.zeroValue196
  t60 := Try.underlying216
  a60 := Try.isAgg216
  z60 := Try.sizeOf216
  v60 := Try.zeroValue216
  t61 := Try.underlying217
  a61 := Try.isAgg217
  z61 := Try.sizeOf217
  v61 := Try.zeroValue217
  t67 := Try.underlying224
  a67 := Try.isAgg224
  z67 := Try.sizeOf224
  v67 := Try.zeroValue224
  t69 := Try.underlying226
  a69 := Try.isAgg226
  z69 := Try.sizeOf226
  v69 := Try.zeroValue226
  t75 := Try.underlying231
  a75 := Try.isAgg231
  z75 := Try.sizeOf231
  v75 := Try.zeroValue231
  t79 := Try.underlying235
  a79 := Try.isAgg235
  z79 := Try.sizeOf235
  v79 := Try.zeroValue235
  t83 := Try.underlying238
  a83 := Try.isAgg238
  z83 := Try.sizeOf238
  v83 := Try.zeroValue238
  t84 := Try.underlying239
  a84 := Try.isAgg239
  z84 := Try.sizeOf239
  v84 := Try.zeroValue239 }
end Go.Proofs

namespace Go.Proofs.Ytiaepapdofcnjaa
open Go.RowKit

theorem grown_trans'' {a b c : World} {row : Option Nat} (h : a.grownBy b row) (k : b.grownBy c row) : a.grownBy c row :=
  ⟨k.os.trans h.os, k.tape.trans h.tape, k.output.trans h.output, Nat.le_trans h.size k.size, fun i hi hne => (k.block i (Nat.lt_of_lt_of_le hi h.size) hne).trans (h.block i hi hne)⟩
theorem own_setCells {T base g n c : Nat} : ∀ (ys : List Int) (k : Nat) (w : World) (xs : List Int), (∀ y ∈ ys, isI64 y) → k + ys.length ≤ xs.length → own T base w (.slice (some ⟨g, 0, none⟩) n c) xs →
    own T base (w.setCells g k (ys.map (Value.int .i64))) (.slice (some ⟨g, 0, none⟩) n c) (xs.take k ++ ys ++ xs.drop (k + ys.length)) ∧ w.grownBy (w.setCells g k (ys.map (Value.int .i64))) (some g)
  | [], k, w, xs, _, _, h => by
    refine ⟨?_, World.grownBy.refl _ _⟩
    simpa [World.setCells] using h
  | y :: ys, k, w, xs, hy, hl, h => by
    simp only [List.length_cons] at hl
    have h1 := own_setInt h (k := k) (by omega) y (hy y (by simp))
    obtain ⟨h2, h3⟩ := own_setCells ys (k + 1) (w.setCell ⟨g, k, none⟩ (.int .i64 y)) (xs.set k y) (fun z hz => hy z (by simp [hz])) (by rw [List.length_set]; omega) h1
    refine ⟨?_, grown_trans'' (grown_setCell (World.grownBy.refl _ _) (.inl rfl) _) h3⟩
    have e : (xs.set k y).take (k + 1) ++ ys ++ (xs.set k y).drop (k + 1 + ys.length) = xs.take k ++ y :: ys ++ xs.drop (k + (ys.length + 1)) := by
      rw [List.take_succ_eq_append_getElem (by rw [List.length_set]; omega), List.getElem_set_self, List.take_set_of_le (Nat.le_refl _), List.drop_set_of_lt (by omega)]
      rw [show k + 1 + ys.length = k + (ys.length + 1) by omega]
      simp
    rw [e] at h2
    exact h2
theorem own_grow {T base : Nat} {w : World} {v : Value} {xs : List Int} (h : own T base w v xs) (os : Array Obj) : own T base (Go.Sort.grow w os) v xs :=
  h.keepBlk fun k hk => by
    have := (h.blk k hk).2
    show (w.heap ++ os)[k]? = w.heap[k]?
    rw [Array.getElem?_append_left this]
theorem sorted_i64 {xs : List Int} (h : ∀ x ∈ xs, isI64 x) : ∀ y ∈ xs.mergeSort (fun x y => decide (x ≤ y)), isI64 y := fun y hy => h y ((List.mergeSort_perm xs _).mem_iff.1 hy)
theorem own_i64 {T base : Nat} {w : World} {v : Value} {xs : List Int} (h : own T base w v xs) : ∀ x ∈ xs, isI64 x := by
  intro x hx
  obtain ⟨k, hk, rfl⟩ := List.getElem_of_mem hx
  obtain ⟨A, n, c, rfl, _, _, _, hr⟩ := h.rd
  obtain ⟨b, o, _, _, hi, _⟩ := hr.intU k hk
  exact hi
theorem own_intz {T base g n c : Nat} {w : World} {xs : List Int} (h : own T base w (.slice (some ⟨g, 0, none⟩) n c) xs) (k : Nat) (hk : k < xs.length) : w.cell? ⟨g, 0 + k, none⟩ = some (.int .i64 xs[k]) := by
  obtain ⟨A', n', c', hv, _, _, _, hr⟩ := h.rd
  injection hv with e1 _ _
  subst e1
  obtain ⟨b, o, hA, _, _, c1⟩ := hr.intU k hk
  injection hA with hA
  injection hA with hA1 hA2
  subst hA1 hA2
  exact c1 w (Below.refl _ _)
theorem slices_SortI (T base : Nat) (v : Value) (xs : List Int) (w : World) (hv : own T base w v xs) (hl : xs.length ≤ 1048576) :
    Calls Try.prog 124 #[v] w fun e w' => e = .returned (.tuple #[]) ∧ own T base w' v (xs.mergeSort fun x y => decide (x ≤ y)) ∧ w.grownBy w' v.ownBlock := by
  rcases hv.form with ⟨rfl, rfl⟩ | ⟨g, c, rfl, hg, hgl, hc, hm⟩
  · refine (AnyG.slices_Sort_int_none Try.laysSort none 0 w).mono ?_
    rintro e w' ⟨rfl, rfl⟩
    exact ⟨rfl, by simpa using own.nil_ (α := Int) _ _ _, World.grownBy.refl _ _⟩
  · have hH : Go.Sort.Holds (Value.int .i64) w g 0 xs.toArray := fun j hj => by
      have hj' : j < xs.length := by simpa using hj
      refine ⟨?_, hv.freeAt _⟩
      rw [own_intz hv j hj']
      simp [hj']
    refine (AnyG.slices_Sort_int Try.laysSort g 0 c xs w hH hgl (by omega)).mono ?_
    rintro e w' ⟨rfl, q, os, rfl⟩
    rw [Lib.sorted_world (Value.int .i64) w g 0 q xs.toArray (xs.mergeSort fun x y => decide (x ≤ y)) os hH (by simp)]
    have bq : Below w.heap.size w (w.drewN q) := later_drewN (Below.refl _ _) q
    obtain ⟨h2, h3⟩ := own_setCells (xs.mergeSort fun x y => decide (x ≤ y)) 0 (w.drewN q) xs (sorted_i64 (own_i64 hv)) (by simp) (hv.below bq)
    have e : xs.take 0 ++ (xs.mergeSort fun x y => decide (x ≤ y)) ++ xs.drop (0 + (xs.mergeSort fun x y => decide (x ≤ y)).length) = xs.mergeSort fun x y => decide (x ≤ y) := by simp
    rw [e] at h2
    refine ⟨rfl, own_grow h2 os, ?_⟩
    have h4 := grown_trans'' (grown_below (World.grownBy.refl w (some g)) bq) h3
    exact ⟨h4.os, h4.tape, h4.output, Nat.le_trans h4.size (by simp [Go.Sort.grow]), fun k hk hne => by
      show (_ ++ os)[k]? = _
      rw [Array.getElem?_append_left (Nat.lt_of_lt_of_le hk h4.size)]
      exact h4.block k hk hne⟩

end Go.Proofs.Ytiaepapdofcnjaa
