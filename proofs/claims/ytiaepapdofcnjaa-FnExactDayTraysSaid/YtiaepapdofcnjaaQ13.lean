/- U0 E3 UM -/
import Derived.Test.YtiaepapdofcnjaaQ12
import Derived.Test.YtiaepapdofcnjaaQ5
import Derived.Test.YtiaepapdofcnjaaQ4
import Derived.Test.YtiaepapdofcnjaaQ2
import Derived.Test.YtiaepapdofcnjaaQ11
namespace Go.Proofs.Ytiaepapdofcnjaa
open Go.RowKit

theorem leftOf_ok {l : Int} {n : Nat} (h : 0 ≤ leftOf l n) (hl : l ≤ 1048576) : 0 ≤ leftOf l n ∧ leftOf l n ≤ 1048576 ∧ n ≤ 1048576 := by
  unfold leftOf at *
  split at h <;> rename_i h1
  · omega
  · rw [if_neg h1]; omega
theorem lessOr_eq (l n : Int) : lessOr l n = leftOf l n := rfl
theorem leftOf_leftOf (l : Int) (m n : Nat) (hl : 0 ≤ l) : (if leftOf l m < 0 then -1 else leftOf (leftOf l m) n) = leftOf l ((m + n : Nat) : Int) := by
  unfold leftOf
  by_cases h : l < (m : Int)
  · rw [if_pos h]; simp only [show (-1 : Int) < 0 by omega, if_true]; rw [if_pos (by omega)]
  · rw [if_neg h, if_neg (by omega)]
    by_cases h2 : l - m < (n : Int)
    · rw [if_pos h2, if_pos (by omega)]
    · rw [if_neg h2, if_neg (by omega)]; omega

/-! plans -/
def szP (p : Pln) : Nat := p.order.length + sumStr p.order
theorem u_szP (v : Value) (p : Pln) (l : Int) (w : World) (hv : rdP w w.heap.size v p) (h0 : 0 ≤ l) (h1 : l ≤ 1048576) :
    Calls Try.prog 13 #[v, .int .i64 l] w fun e w' => e = .returned (.int .i64 (leftOf l (szP p : Nat))) ∧ Below w.heap.size w w' := by
  rw [show leftOf l (szP p : Nat) = leftOf l (planSz p) by unfold szP planSz; rw [Int.natCast_add]]
  exact laws_szPlan v p l w hv h0 h1
theorem u_toP (v : Value) (p : Pln) (w : World) (hv : rdP w w.heap.size v p) (hs : szP p ≤ 1048576) :
    Calls Try.prog 16 #[v] w fun e w' => ∃ v', e = .returned v' ∧ ownP 9 w.heap.size w' v' p ∧ Below w.heap.size w w' :=
  laws_toPlan v p w hv (by unfold szP at hs; omega)
theorem u_eqP (v v' : Value) (p : Pln) (w : World) (hv : rdP w w.heap.size v p) (hv' : rdP w w.heap.size v' p) :
    Calls Try.prog 21 #[v, v'] w fun e w' => e = .returned (.bool true) ∧ Below w.heap.size w w' := laws_eqPlan v v' p w hv hv'
/-! letters -/
def szL (xs : List Ltr) : Nat := xs.length + sumSz xs
theorem u_szL (v : Value) (xs : List Ltr) (l : Int) (w : World) (hv : rd w w.heap.size v xs) (h0 : 0 ≤ l) (h1 : l ≤ 1048576) :
    Calls Try.prog 27 #[v, .int .i64 l] w fun e w' => e = .returned (.int .i64 (leftOf l (szL xs : Nat))) ∧ Below w.heap.size w w' := by
  rw [show leftOf l (szL xs : Nat) = lessOr l (xs.length + sumSz xs) by unfold szL; rw [Int.natCast_add, lessOr_eq]]
  exact laws_szLetterS v xs l w hv h0 h1
theorem u_toL (v : Value) (xs : List Ltr) (w : World) (hv : rd w w.heap.size v xs) (hs : szL xs ≤ 1048576) :
    Calls Try.prog 30 #[v] w fun e w' => ∃ v', e = .returned v' ∧ own 103 w.heap.size w' v' xs ∧ Below w.heap.size w w' :=
  laws_toLetterS v xs w hv (by unfold szL at hs; omega)
theorem u_eqL (v v' : Value) (xs : List Ltr) (w : World) (hv : rd w w.heap.size v xs) (hv' : rd w w.heap.size v' xs) :
    Calls Try.prog 20 #[v, v'] w fun e w' => e = .returned (.bool true) ∧ Below w.heap.size w w' := by
  have h := laws_eqLetterS v v' xs xs w hv hv'
  rw [show eqBy ltrEq xs xs = true from (eqBy_iff ltrEq_iff).2 rfl] at h
  exact h

/-! missorts -/
def szM (xs : List Mis) : Nat := xs.length
theorem u_szM (v : Value) (xs : List Mis) (l : Int) (w : World) (hv : rd w w.heap.size v xs) (h0 : 0 ≤ l) (h1 : l ≤ 1048576) :
    Calls Try.prog 28 #[v, .int .i64 l] w fun e w' => e = .returned (.int .i64 (leftOf l (szM xs : Nat))) ∧ Below w.heap.size w w' :=
  (laws_szMissortS v xs l w hv h0 h1).mono fun e w' ⟨h, hw⟩ => ⟨h, by subst hw; exact Below.refl _ _⟩
theorem u_toM (v : Value) (xs : List Mis) (w : World) (hv : rd w w.heap.size v xs) (hs : szM xs ≤ 1048576) :
    Calls Try.prog 31 #[v] w fun e w' => ∃ v', e = .returned v' ∧ own 97 w.heap.size w' v' xs ∧ Below w.heap.size w w' :=
  laws_toMissortS v xs w hv hs
theorem u_eqM (v v' : Value) (xs : List Mis) (w : World) (hv : rd w w.heap.size v xs) (hv' : rd w w.heap.size v' xs) :
    Calls Try.prog 33 #[v, v'] w fun e w' => e = .returned (.bool true) ∧ Below w.heap.size w w' := by
  have h := laws_eqMissortS v v' xs xs w hv hv'
  rw [show eqBy misEq xs xs = true from (eqBy_iff misEq_iff).2 rfl] at h
  exact h

end Go.Proofs.Ytiaepapdofcnjaa

namespace Go.Proofs.Ytiaepapdofcnjaa
open Go.RowKit

/-- The marks that 'markLetterS' leaves in n letters. -/
def marksL (k n : Nat) : List Ltr := (List.range n).map fun i => ⟨((k + 2 * i : Nat) : Int), markB (k + 2 * i + 1)⟩
theorem marksL_len (k n : Nat) : (marksL k n).length = n := by simp [marksL]
theorem marksL_get (k n i : Nat) (h : i < (marksL k n).length) : (marksL k n)[i] = ⟨((k + 2 * i : Nat) : Int), markB (k + 2 * i + 1)⟩ := by simp [marksL]
theorem markB_size (k : Nat) (hk : k ≤ 1099511627776) : (markB k).size ≤ maxLen := by
  unfold markB
  have := dec10_len k
  split
  · show 2 ≤ maxLen
    unfold maxLen; omega
  · show (109 :: dec10 k).toArray.size ≤ maxLen
    rw [List.size_toArray, List.length_cons]
    unfold maxLen; omega

/-- The first k letters marked. -/
def markedTo (k0 : Nat) (xs : List Ltr) (k : Nat) : List Ltr := marksL k0 k ++ xs.drop k
theorem markedTo_len {k0 : Nat} {xs : List Ltr} {k : Nat} (h : k ≤ xs.length) : (markedTo k0 xs k).length = xs.length := by
  simp [markedTo, marksL_len]; omega
theorem markedTo_step {k0 : Nat} {xs : List Ltr} {k : Nat} (h : k < xs.length) : (markedTo k0 xs k).set k ⟨((k0 + 2 * k : Nat) : Int), markB (k0 + 2 * k + 1)⟩ = markedTo k0 xs (k + 1) := by
  unfold markedTo
  rw [List.set_append_right _ _ (by rw [marksL_len]; exact Nat.le_refl _), marksL_len, Nat.sub_self, List.drop_eq_getElem_cons h, List.set_cons_zero]
  unfold marksL
  rw [List.range_succ, List.map_append]
  simp

set_option maxHeartbeats 400000 in
theorem laws_markLetterS (T base : Nat) (v : Value) (xs : List Ltr) (k0 : Nat) (w : World) (hv : own T base w v xs) (hk0 : k0 ≤ 274877906944) (hl : xs.length ≤ 1048576) :
    Calls Try.prog 24 #[v, .int .i64 k0] w fun e w' => e = .returned (.int .i64 ((k0 + 2 * xs.length : Nat) : Int)) ∧ own T base w' v (marksL k0 xs.length) ∧ w.grownBy w' v.ownBlock := by
  rcases hv.form with ⟨rfl, rfl⟩ | ⟨g, c, rfl, hg, hgl, hc, hm⟩
  · go_enter Try.func24, Try.ntmps24
    go_wp2
    go_loopw [1, 5] (fun t i wr => i = .int .i64 0 ∧ t = .int .i64 k0 ∧ wr = w) (fun _ _ _ => 0)
    case atStart => exact ⟨rfl, rfl, rfl⟩
    case round =>
      obtain ⟨rfl, rfl, rfl⟩ := hrel
      go_wp2
      go_ret
      exact ⟨ret_int (by simp), by simpa [marksL] using own.nil_ (α := Ltr) _ _ _, World.grownBy.refl _ _⟩
  · unfold maxLen at hm
    have HV := Lib.hid hv; clear hv
    go_enter Try.func24, Try.ntmps24
    go_wp2
    go_loopw [1, 5] (fun t i wr => ∃ (k m : Nat), k ≤ xs.length ∧ i = .int .i64 k ∧ t = .int .i64 m ∧ Hid (m = k0 + 2 * k) ∧ w.grownBy wr (some g) ∧ own T base wr (.slice (some ⟨g, 0, none⟩) xs.length c) (markedTo k0 xs k)) (fun _ i _ => xs.length - (intOf i).toNat)
    case atStart => exact ⟨0, k0, Nat.zero_le _, rfl, rfl, rfl, World.grownBy.refl _ _, by simpa [markedTo, marksL] using HV.out⟩
    case round =>
      obtain ⟨k, m, hk, rfl, rfl, HM, hgr, ho⟩ := hrel
      obtain ⟨w1, rfl⟩ : ∃ w1 : World, w1 = wr := ⟨_, rfl⟩
      have hmb : (m : Int) ≤ 824633720832 := by have := HM.out; omega
      by_cases hlt : k < xs.length
      · have hlen := markedTo_len (k0 := k0) hk
        have HST := Lib.hid (markedTo_step (k0 := k0) hlt)
        generalize markedTo k0 xs k = ys at *
        have HLEN := Lib.hid hlen; clear hlen
        have hlt' : k < ys.length := by rw [HLEN.out]; exact hlt
        have ho1 := ho.setCell (k := k) (j := 0) hlt' (by decide) (.int .i64 m) ⟨m, ys[k].code⟩ (fun ecs he => by
          obtain ⟨⟨h1, h2⟩, rfl⟩ := he
          exact ⟨⟨⟨by show _ ≤ (m : Int); omega, by show (m : Int) ≤ _; omega⟩, h2⟩, rfl⟩)
        obtain ⟨u0, g0⟩ := ho.cellAt (j := k * 2) (by show _ < _ * 2; omega)
        have f0 := ho.freeAt (k * 2)
        have HO1 := Lib.hid ho1; clear ho1
        have HO := Lib.hid ho; clear ho
        have hgr1 : w.grownBy (w1.setCell ⟨g, k * 2, none⟩ (.int .i64 m)) (some g) := grown_setCell hgr (.inl rfl) _
        go_wp2_with fail
        refine (laws_markText (m + 1) _ (by omega)).mono ?_
        rintro e w2 ⟨rfl, hb3⟩
        have hgr2 : w.grownBy w2 (some g) := grown_below hgr1 hb3
        have ho2 := HO1.out.below hb3
        have hlt2 : k < (ys.set k ⟨m, ys[k].code⟩).length := by simpa using hlt'
        have ho3 := ho2.setCell (k := k) (j := 1) hlt2 (by decide) (.string (markB (m + 1))) ⟨m, markB (m + 1)⟩ (fun ecs he => by
          obtain ⟨⟨h1, h2⟩, rfl⟩ := he
          refine ⟨⟨?_, markB_size (m + 1) (by omega)⟩, ?_⟩
          · simpa using h1
          · simp [Ltr.cells])
        obtain ⟨u1, g1⟩ := ho2.cellAt (j := k * 2 + 1) (by show _ < _ * 2; rw [List.length_set]; omega)
        have f1 := ho2.freeAt (k * 2 + 1)
        have HO3 := Lib.hid ho3; clear ho3 ho2
        have hgr3 : w.grownBy (w2.setCell ⟨g, k * 2 + 1, none⟩ (.string (markB (m + 1)))) (some g) := grown_setCell hgr2 (.inl rfl) _
        clear hgr1 hb3
        go_wp2_with fail
        go_roundw
        case rel =>
          refine ⟨k + 1, m + 2, by omega, by go_num, by go_num, by show _ = _; have := HM.out; omega, hgr3, ?_⟩
          have := HO3.out
          rw [List.set_set] at this
          have hm2 := HM.out
          subst hm2
          rw [HST.out] at this
          exact this
        case measure => simp [intOf]; omega
      · have HE := Lib.hid (show k = xs.length by omega)
        have HO := Lib.hid ho; clear ho
        go_wp2
        go_ret
        refine ⟨ret_int ?_, ?_, hgr⟩
        · have := HM.out; have := HE.out; omega
        · have := HO.out
          have h2 := HE.out
          subst h2
          rw [markedTo, List.drop_length, List.append_nil] at this
          exact this

set_option maxHeartbeats 400000 in
theorem laws_heldLetterS (v : Value) (n k0 : Nat) (w : World) (hv : rd w w.heap.size v (marksL k0 n)) (hk0 : k0 ≤ 274877906944) (hl : n ≤ 1048576) :
    Calls Try.prog 26 #[v, .int .i64 k0] w fun e w' => e = .returned (.int .i64 ((k0 + 2 * n : Nat) : Int)) ∧ Below w.heap.size w w' := by
  obtain ⟨A, n', c, rfl, hn, hc, hm, hr⟩ := hv
  rw [marksL_len] at hn
  subst hn
  unfold maxLen at hm
  have HR := Lib.hid hr; clear hr
  go_enter Try.func26, Try.ntmps26
  go_wp2
  go_loopw [1, 5] (fun t i wr => ∃ (k m : Nat), k ≤ n' ∧ i = .int .i64 k ∧ t = .int .i64 m ∧ Hid (m = k0 + 2 * k) ∧ Below w.heap.size w wr) (fun _ i _ => n' - (intOf i).toNat)
  case atStart => exact ⟨0, k0, Nat.zero_le _, rfl, rfl, rfl, Below.refl _ _⟩
  case round =>
    obtain ⟨k, m, hk, rfl, rfl, HM, hbl⟩ := hrel
    obtain ⟨w1, rfl⟩ : ∃ w1 : World, w1 = wr := ⟨_, rfl⟩
    have hmb : (m : Int) ≤ 824633720832 := by have := HM.out; omega
    by_cases hlt : k < n'
    · obtain ⟨b, o, rfl, hb, _, c1, c2⟩ := HR.out.ltr k (by rw [marksL_len]; exact hlt)
      rw [marksL_get] at c1 c2
      have hm2 := HM.out
      rw [← hm2] at c1 c2
      clear hm2
      have c1' : w1.cell? ⟨b, o + k * 2, none⟩ = some (.int .i64 m) := (hbl.cell (p := ⟨b, o + k * 2, none⟩) hb).trans c1
      have c2' : w1.cell? ⟨b, o + k * 2 + 1, none⟩ = some (.string (markB (m + 1))) := (hbl.cell (p := ⟨b, o + k * 2 + 1, none⟩) hb).trans c2
      clear c1 c2
      have hmm : ((m : Int) != (m : Int)) = false := by simp
      have hbz := hbl.size
      have hkn : (k : Int) < (n' : Int) := by omega
      go_wp2
      go_region_held3 (fun w' => w'.cell? ⟨b, o + k * 2 + 1, none⟩ = some (.string (markB (m + 1))))
        (first | go_keep | (exact (hb3.cell (p := ⟨b, o + k * 2 + 1, none⟩) (by simp; omega)).trans (by go_simp)))
        (first | (go_at_call 77; refine (laws_markText (m + 1) _ (by omega)).mono ?_; rintro e w2 ⟨rfl, hb3⟩))
      have hb4 : Below w.heap.size w w2 := hbl.trans ((Below.refl _ _).drew.trans (hb3.mono hbz))
      go_wp2
      go_roundw
      case rel => exact ⟨k + 1, m + 2, by omega, by go_num, by go_num, by show _ = _; have := HM.out; omega, hb4⟩
      case measure => simp [intOf]; omega
    · have HE := Lib.hid (show k = n' by omega)
      go_wp2
      go_ret
      exact ⟨ret_int (by have := HM.out; have := HE.out; omega), hbl⟩

end Go.Proofs.Ytiaepapdofcnjaa

namespace Go.Proofs.Ytiaepapdofcnjaa
open Go.RowKit

set_option maxHeartbeats 400000 in
theorem u_eqIS (v v' : Value) (xs : List Int) (w : World) (hv : rd w w.heap.size v xs) (hv' : rd w w.heap.size v' xs) :
    Calls Try.prog 63 #[v, v'] w fun e w' => e = .returned (.bool true) ∧ Below w.heap.size w w' := by
  obtain ⟨A, n, c, rfl, hn, hc, hm, hr⟩ := hv
  obtain ⟨A', n', c', rfl, hn', hc', hm', hr'⟩ := hv'
  subst hn hn'
  unfold maxLen at hm hm'
  have HR := Lib.hid hr; clear hr
  have HR' := Lib.hid hr'; clear hr'
  have hl1 : ((xs.length : Int) != (xs.length : Int)) = false := by simp
  have l0 := Below.refl w.heap.size w
  go_enter Try.func63, Try.ntmps63
  go_wp2
  go_loopw [5] (fun i wr => ∃ k : Nat, k ≤ xs.length ∧ i = .int .i64 k ∧ Below w.heap.size w wr) (fun i _ => xs.length - (intOf i).toNat)
  case atStart => exact ⟨0, Nat.zero_le _, rfl, l0⟩
  case round =>
    obtain ⟨k, hk, rfl, lr⟩ := hrel
    obtain ⟨w1, rfl⟩ : ∃ w1 : World, w1 = wr := ⟨_, rfl⟩
    clear l0
    by_cases hlt : k < xs.length
    · obtain ⟨b, o, rfl, hb, _, c1⟩ := HR.out.intU k hlt
      obtain ⟨b', o', rfl, hb', _, d1⟩ := HR'.out.intU k hlt
      generalize xs[k] = x at *
      have hki : (k : Int) < (xs.length : Int) := by omega
      have hq : (x != x) = false := by simp
      go_wp2
      go_quiet (fail)
      go_wp2
      go_roundw
      case rel => exact ⟨k + 1, by omega, by go_num, later_drewN lr _⟩
      case measure => simp [intOf]; omega
    · go_wp2
      go_ret
      exact ⟨rfl, lr⟩

/-- The marks that 'markIntS' leaves. -/
def marksI (k n : Nat) : List Int := (List.range n).map fun i => ((k + i : Nat) : Int)
theorem marksI_len (k n : Nat) : (marksI k n).length = n := by simp [marksI]
theorem marksI_get (k n i : Nat) (h : i < (marksI k n).length) : (marksI k n)[i] = ((k + i : Nat) : Int) := by simp [marksI]
def markedI (k0 : Nat) (xs : List Int) (k : Nat) : List Int := marksI k0 k ++ xs.drop k
theorem markedI_len {k0 : Nat} {xs : List Int} {k : Nat} (h : k ≤ xs.length) : (markedI k0 xs k).length = xs.length := by
  simp [markedI, marksI_len]; omega
theorem markedI_step {k0 : Nat} {xs : List Int} {k : Nat} (h : k < xs.length) : (markedI k0 xs k).set k ((k0 + k : Nat) : Int) = markedI k0 xs (k + 1) := by
  unfold markedI
  rw [List.set_append_right _ _ (by rw [marksI_len]; exact Nat.le_refl _), marksI_len, Nat.sub_self, List.drop_eq_getElem_cons h, List.set_cons_zero]
  unfold marksI
  rw [List.range_succ, List.map_append]
  simp

set_option maxHeartbeats 400000 in
theorem laws_markIntS (T base : Nat) (v : Value) (xs : List Int) (k0 : Nat) (w : World) (hv : own T base w v xs) (hk0 : k0 ≤ 274877906944) (hl : xs.length ≤ 1048576) :
    Calls Try.prog 64 #[v, .int .i64 k0] w fun e w' => e = .returned (.int .i64 ((k0 + xs.length : Nat) : Int)) ∧ own T base w' v (marksI k0 xs.length) ∧ w.grownBy w' v.ownBlock := by
  rcases hv.form with ⟨rfl, rfl⟩ | ⟨g, c, rfl, hg, hgl, hc, hm⟩
  · go_enter Try.func64, Try.ntmps64
    go_wp2
    go_loopw [1, 5] (fun t i wr => i = .int .i64 0 ∧ t = .int .i64 k0 ∧ wr = w) (fun _ _ _ => 0)
    case atStart => exact ⟨rfl, rfl, rfl⟩
    case round =>
      obtain ⟨rfl, rfl, rfl⟩ := hrel
      go_wp2
      go_ret
      exact ⟨ret_int (by simp), by simpa [marksI] using own.nil_ (α := Int) _ _ _, World.grownBy.refl _ _⟩
  · unfold maxLen at hm
    have HV := Lib.hid hv; clear hv
    go_enter Try.func64, Try.ntmps64
    go_wp2
    go_loopw [1, 5] (fun t i wr => ∃ k : Nat, k ≤ xs.length ∧ i = .int .i64 k ∧ t = .int .i64 ((k0 + k : Nat) : Int) ∧ w.grownBy wr (some g) ∧ own T base wr (.slice (some ⟨g, 0, none⟩) xs.length c) (markedI k0 xs k)) (fun _ i _ => xs.length - (intOf i).toNat)
    case atStart => exact ⟨0, Nat.zero_le _, rfl, rfl, World.grownBy.refl _ _, by simpa [markedI, marksI] using HV.out⟩
    case round =>
      obtain ⟨k, hk, rfl, rfl, hgr, ho⟩ := hrel
      obtain ⟨w1, rfl⟩ : ∃ w1 : World, w1 = wr := ⟨_, rfl⟩
      by_cases hlt : k < xs.length
      · have hlen := markedI_len (k0 := k0) hk
        have HST := Lib.hid (markedI_step (k0 := k0) hlt)
        generalize markedI k0 xs k = ys at *
        have hlt' : k < ys.length := by omega
        have HLEN := Lib.hid hlen; clear hlen
        obtain ⟨u0, g0⟩ := ho.cellAt (j := k) (by show _ < _ * 1; omega)
        have f0 := ho.freeAt k
        have HO1 := Lib.hid (own_setInt ho hlt' ((k0 : Int) + (k : Int)) (by unfold isI64; omega))
        clear ho
        have hkk : (k0 : Int) + (k : Int) ≤ 824633720832 := by omega
        have hki : (k : Int) < (xs.length : Int) := by omega
        have hgr1 : w.grownBy (w1.setCell ⟨g, k, none⟩ (.int .i64 ((k0 : Int) + (k : Int)))) (some g) := grown_setCell hgr (.inl rfl) _
        go_wp2
        go_roundw
        case rel =>
          refine ⟨k + 1, by omega, by go_num, by go_num, hgr1, ?_⟩
          have := HO1.out
          rw [show (k0 : Int) + (k : Int) = ((k0 + k : Nat) : Int) by omega, HST.out] at this
          rw [show (k0 : Int) + (k : Int) = ((k0 + k : Nat) : Int) by omega]
          exact this
        case measure => simp [intOf]; omega
      · have HE := Lib.hid (show k = xs.length by omega)
        have HO := Lib.hid ho; clear ho
        go_wp2
        go_ret
        refine ⟨ret_int ?_, ?_, hgr⟩
        · have := HE.out; omega
        · have := HO.out
          have h2 := HE.out
          subst h2
          rw [markedI, List.drop_length, List.append_nil] at this
          exact this

set_option maxHeartbeats 400000 in
theorem laws_heldIntS (v : Value) (n k0 : Nat) (w : World) (hv : rd w w.heap.size v (marksI k0 n)) (hk0 : k0 ≤ 274877906944) (hl : n ≤ 1048576) :
    Calls Try.prog 65 #[v, .int .i64 k0] w fun e w' => e = .returned (.int .i64 ((k0 + n : Nat) : Int)) ∧ w = w' := by
  obtain ⟨A, n', c, rfl, hn, hc, hm, hr⟩ := hv
  rw [marksI_len] at hn
  subst hn
  unfold maxLen at hm
  have HR := Lib.hid hr; clear hr
  have l0 := Below.refl w.heap.size w
  go_enter Try.func65, Try.ntmps65
  go_wp2
  go_loop [1, 5] (fun t i => ∃ k : Nat, k ≤ n' ∧ i = .int .i64 k ∧ t = .int .i64 ((k0 + k : Nat) : Int)) (fun _ i => n' - (intOf i).toNat)
  case atStart => exact ⟨0, Nat.zero_le _, rfl, rfl⟩
  case round =>
    obtain ⟨k, hk, rfl, rfl⟩ := hrel
    have hkk : (k0 : Int) + (k : Int) ≤ 824633720832 := by omega
    by_cases hlt : k < n'
    · obtain ⟨b, o, rfl, hb, _, c1⟩ := HR.out.intU k (by rw [marksI_len]; exact hlt)
      rw [marksI_get] at c1
      have hmm : ((k0 : Int) + (k : Int) != (k0 : Int) + (k : Int)) = false := by simp
      have hkn : (k : Int) < (n' : Int) := by omega
      go_wp2
      go_round
      case rel => exact ⟨k + 1, by omega, by go_num, by go_num⟩
      case measure => simp [intOf]; omega
    · have HE := Lib.hid (show k = n' by omega)
      go_wp2
      go_ret
      exact ⟨ret_int (by have := HE.out; omega), rfl⟩

/-! Frames of what marks: only blocks from lo on, before hi, turn. -/
structure OutI (lo hi : Nat) (w w' : World) : Prop where
  os : w'.os = w.os
  tape : w'.tape = w.tape
  output : w'.output = w.output
  size : w.heap.size ≤ w'.heap.size
  block : ∀ k, k < w.heap.size → k < lo ∨ hi ≤ k → w'.heap[k]? = w.heap[k]?
theorem OutI.refl (lo hi : Nat) (w : World) : OutI lo hi w w := ⟨rfl, rfl, rfl, Nat.le_refl _, fun _ _ _ => rfl⟩
theorem OutI.trans {lo hi : Nat} {a b c : World} (h : OutI lo hi a b) (k : OutI lo hi b c) : OutI lo hi a c :=
  ⟨k.os.trans h.os, k.tape.trans h.tape, k.output.trans h.output, Nat.le_trans h.size k.size, fun i hi hne => (k.block i (Nat.lt_of_lt_of_le hi h.size) hne).trans (h.block i hi hne)⟩
theorem OutI.of_below {lo hi : Nat} {w w' : World} (h : Below w.heap.size w w') : OutI lo hi w w' := ⟨h.os, h.tape, h.output, h.size, fun k hk _ => h.block k hk⟩
theorem OutI.of_grown {lo hi : Nat} {w w' : World} {row : Option Nat} (h : w.grownBy w' row) (hr : ∀ k, row = some k → lo ≤ k ∧ k < hi) : OutI lo hi w w' :=
  ⟨h.os, h.tape, h.output, h.size, fun k hk hne => h.block k hk (fun e => by have := hr k e.symm; omega)⟩
theorem OutI.later {lo hi : Nat} {a w w' : World} (h : OutI lo hi w w') (hb : Below a.heap.size a w) (hlo : a.heap.size ≤ lo) : Below a.heap.size a w' :=
  ⟨h.os.trans hb.os, h.tape.trans hb.tape, h.output.trans hb.output, Nat.le_trans hb.size h.size, fun k hk => (h.block k (Nat.lt_of_lt_of_le hk hb.size) (.inl (by omega))).trans (hb.block k hk)⟩
theorem own.keepBlk {α : Type} [Flat α] {T base : Nat} {w w' : World} {v : Value} {xs : List α} (h : own T base w v xs) (hk : ∀ k, v.ownBlock = some k → w'.heap[k]? = w.heap[k]?) : own T base w' v xs := by
  obtain ⟨css, ⟨h1, h2⟩, hl, he⟩ := h
  refine ⟨css, ⟨h1, ?_⟩, hl, fun k a b => Flat.free (he k a b)⟩
  rcases h2 with h2 | ⟨g, cap, cur, hv, hg, hh, r⟩
  · exact .inl h2
  · exact .inr ⟨g, cap, cur, hv, hg, by rw [hk g (by rw [hv]; rfl)]; exact hh, r⟩
/-- A row of the call's own, in blocks before hi. -/
def seg {α : Type} [El α] (T lo hi : Nat) (w : World) (v : Value) (xs : List α) : Prop := own T lo w v xs ∧ ∀ k, v.ownBlock = some k → k < hi
theorem seg.of {α : Type} [El α] {T lo : Nat} {w : World} {v : Value} {xs : List α} (h : own T lo w v xs) : seg T lo w.heap.size w v xs := ⟨h, fun k hk => (h.blk k hk).2⟩
theorem seg.below {α : Type} [El α] {T lo hi : Nat} {w w' : World} {v : Value} {xs : List α} (h : seg T lo hi w v xs) (hb : Below w.heap.size w w') : seg T lo hi w' v xs := ⟨h.1.below hb, h.2⟩
theorem seg.out {α : Type} [Flat α] {T lo hi a b : Nat} {w w' : World} {v : Value} {xs : List α} (h : seg T lo hi w v xs) (ho : OutI a b w w') (hd : hi ≤ a ∨ b ≤ lo) : seg T lo hi w' v xs :=
  ⟨h.1.keepBlk fun k hk => ho.block k (h.1.blk k hk).2 (by have h1 := (h.1.blk k hk).1; have h2 := h.2 k hk; omega), h.2⟩
theorem seg.rd {α : Type} [El α] {T lo hi : Nat} {w : World} {v : Value} {xs : List α} (h : seg T lo hi w v xs) : rd w w.heap.size v xs := h.1.rd
def segP (T lo hi : Nat) (w : World) (v : Value) (p : Pln) : Prop := ∃ vo, v = .agg #[.int .i64 p.bins, .int .i64 p.passes, vo] ∧ isI64 p.bins ∧ isI64 p.passes ∧ seg T lo hi w vo p.order
theorem segP.of {T lo : Nat} {w : World} {v : Value} {p : Pln} (h : ownP T lo w v p) : segP T lo w.heap.size w v p := by
  obtain ⟨vo, h1, h2, h3, h4⟩ := h
  exact ⟨vo, h1, h2, h3, seg.of h4⟩
theorem segP.below {T lo hi : Nat} {w w' : World} {v : Value} {p : Pln} (h : segP T lo hi w v p) (hb : Below w.heap.size w w') : segP T lo hi w' v p := by
  obtain ⟨vo, h1, h2, h3, h4⟩ := h
  exact ⟨vo, h1, h2, h3, h4.below hb⟩
theorem segP.out {T lo hi a b : Nat} {w w' : World} {v : Value} {p : Pln} (h : segP T lo hi w v p) (ho : OutI a b w w') (hd : hi ≤ a ∨ b ≤ lo) : segP T lo hi w' v p := by
  obtain ⟨vo, h1, h2, h3, h4⟩ := h
  exact ⟨vo, h1, h2, h3, h4.out ho hd⟩
theorem segP.rd {T lo hi : Nat} {w : World} {v : Value} {p : Pln} (h : segP T lo hi w v p) : rdP w w.heap.size v p := by
  obtain ⟨vo, h1, h2, h3, h4⟩ := h
  exact ⟨vo, h1, h2, h3, h4.rd⟩

theorem own_setStr {T base g n c : Nat} {w : World} {xs : List ByteArray} (h : own T base w (.slice (some ⟨g, 0, none⟩) n c) xs) {k : Nat} (hk : k < xs.length) (y : ByteArray) (hy : y.size ≤ maxLen) :
    own T base (w.setCell ⟨g, k, none⟩ (.string y)) (.slice (some ⟨g, 0, none⟩) n c) (xs.set k y) := by
  have h1 := h.setCell (k := k) (j := 0) hk (by decide) (.string y) y (fun ecs he => by
    obtain ⟨_, rfl⟩ := he
    exact ⟨hy, rfl⟩)
  rw [show k * El.size ByteArray + 0 = k from Nat.mul_one k] at h1
  exact h1
def marksS (k n : Nat) : List ByteArray := (List.range n).map fun i => markB (k + i)
theorem marksS_len (k n : Nat) : (marksS k n).length = n := by simp [marksS]
theorem marksS_get (k n i : Nat) (h : i < (marksS k n).length) : (marksS k n)[i] = markB (k + i) := by simp [marksS]
def markedS (k0 : Nat) (xs : List ByteArray) (k : Nat) : List ByteArray := marksS k0 k ++ xs.drop k
theorem markedS_len {k0 : Nat} {xs : List ByteArray} {k : Nat} (h : k ≤ xs.length) : (markedS k0 xs k).length = xs.length := by
  simp [markedS, marksS_len]; omega
theorem markedS_step {k0 : Nat} {xs : List ByteArray} {k : Nat} (h : k < xs.length) : (markedS k0 xs k).set k (markB (k0 + k)) = markedS k0 xs (k + 1) := by
  unfold markedS
  rw [List.set_append_right _ _ (by rw [marksS_len]; exact Nat.le_refl _), marksS_len, Nat.sub_self, List.drop_eq_getElem_cons h, List.set_cons_zero]
  unfold marksS
  rw [List.range_succ, List.map_append]
  simp

set_option maxHeartbeats 400000 in
theorem laws_markStringS (T base : Nat) (v : Value) (xs : List ByteArray) (k0 : Nat) (w : World) (hv : own T base w v xs) (hk0 : k0 ≤ 274877906944) (hl : xs.length ≤ 1048576) :
    Calls Try.prog 59 #[v, .int .i64 k0] w fun e w' => e = .returned (.int .i64 ((k0 + xs.length : Nat) : Int)) ∧ own T base w' v (marksS k0 xs.length) ∧ w.grownBy w' v.ownBlock := by
  rcases hv.form with ⟨rfl, rfl⟩ | ⟨g, c, rfl, hg, hgl, hc, hm⟩
  · go_enter Try.func59, Try.ntmps59
    go_wp2
    go_loopw [1, 5] (fun t i wr => i = .int .i64 0 ∧ t = .int .i64 k0 ∧ wr = w) (fun _ _ _ => 0)
    case atStart => exact ⟨rfl, rfl, rfl⟩
    case round =>
      obtain ⟨rfl, rfl, rfl⟩ := hrel
      go_wp2
      go_ret
      exact ⟨ret_int (by simp), by simpa [marksS] using own.nil_ (α := ByteArray) _ _ _, World.grownBy.refl _ _⟩
  · unfold maxLen at hm
    have HV := Lib.hid hv; clear hv
    go_enter Try.func59, Try.ntmps59
    go_wp2
    go_loopw [1, 5] (fun t i wr => ∃ (k m : Nat), k ≤ xs.length ∧ i = .int .i64 k ∧ t = .int .i64 m ∧ Hid (m = k0 + k) ∧ w.grownBy wr (some g) ∧ own T base wr (.slice (some ⟨g, 0, none⟩) xs.length c) (markedS k0 xs k)) (fun _ i _ => xs.length - (intOf i).toNat)
    case atStart => exact ⟨0, k0, Nat.zero_le _, rfl, rfl, rfl, World.grownBy.refl _ _, by simpa [markedS, marksS] using HV.out⟩
    case round =>
      obtain ⟨k, m, hk, rfl, rfl, HM, hgr, ho⟩ := hrel
      obtain ⟨w1, rfl⟩ : ∃ w1 : World, w1 = wr := ⟨_, rfl⟩
      have hmb : (m : Int) ≤ 824633720832 := by have := HM.out; omega
      by_cases hlt : k < xs.length
      · have hlen := markedS_len (k0 := k0) hk
        have HST := Lib.hid (markedS_step (k0 := k0) hlt)
        generalize markedS k0 xs k = ys at *
        have hlt' : k < ys.length := by omega
        have HLEN := Lib.hid hlen; clear hlen
        have HO := Lib.hid ho; clear ho
        have hki : (k : Int) < (xs.length : Int) := by omega
        go_wp2_with fail
        refine (laws_markText m _ (by omega)).mono ?_
        rintro e w2 ⟨rfl, b2⟩
        have hgr2 : w.grownBy w2 (some g) := grown_below hgr b2
        have ho2 := HO.out.below b2
        obtain ⟨u0, g0⟩ := ho2.cellAt (j := k) (by show _ < _ * 1; omega)
        have f0 := ho2.freeAt k
        have HO3 := Lib.hid (own_setStr ho2 hlt' (markB m) (markB_size m (by omega)))
        have hgr3 : w.grownBy (w2.setCell ⟨g, k, none⟩ (.string (markB m))) (some g) := grown_setCell hgr2 (.inl rfl) _
        clear ho2 hgr hgr2 b2
        go_wp2_with fail
        go_roundw
        case rel =>
          refine ⟨k + 1, m + 1, by omega, by go_num, by go_num, by show _ = _; have := HM.out; omega, hgr3, ?_⟩
          have := HO3.out
          have hm2 := HM.out
          subst hm2
          rw [HST.out] at this
          exact this
        case measure => simp [intOf]; omega
      · have HE := Lib.hid (show k = xs.length by omega)
        have HO := Lib.hid ho; clear ho
        go_wp2
        go_ret
        refine ⟨ret_int ?_, ?_, hgr⟩
        · have := HM.out; have := HE.out; omega
        · have := HO.out
          have h2 := HE.out
          subst h2
          rw [markedS, List.drop_length, List.append_nil] at this
          exact this

theorem u_wmP (T lo hi : Nat) (v : Value) (p : Pln) (k : Nat) (w : World) (hv : segP T lo hi w v p) (hk : k ≤ 274877906944) (hs : szP p ≤ 1048576) :
    Calls Try.prog 22 #[v, .int .i64 k] w fun e w' => e = .returned (.int .i64 ((k + p.order.length : Nat) : Int)) ∧ OutI lo hi w w' := by
  obtain ⟨vo, rfl, h2, h3, h4⟩ := hv
  have H4 := Lib.hid h4
  obtain ⟨A0, n0, c0, rfl, hn0, _⟩ := h4.rd
  subst hn0
  clear h4
  unfold szP at hs
  have HB : Hid (Below w.heap.size w (w.alloc (Obj.cells #[.int .i64 p.bins, .int .i64 p.passes, .slice A0 p.order.length c0] 32))) := (Below.refl _ _).alloc (Nat.le_refl _) _
  go_enter Try.func22, Try.ntmps22
  go_wp2_with fail
  refine (laws_markStringS T lo _ p.order k _ (H4.out.below HB.out).1 hk (by omega)).mono ?_
  rintro e w1 ⟨rfl, o1, g1⟩
  have HO := Lib.hid ((OutI.of_below HB.out).trans (OutI.of_grown (lo := lo) (hi := hi) g1 (fun j hj => ⟨((H4.out.below HB.out).1.blk j hj).1, H4.out.2 j hj⟩)))
  clear o1 g1
  go_wp2_with fail
  go_ret
  exact ⟨rfl, HO.out⟩

end Go.Proofs.Ytiaepapdofcnjaa
