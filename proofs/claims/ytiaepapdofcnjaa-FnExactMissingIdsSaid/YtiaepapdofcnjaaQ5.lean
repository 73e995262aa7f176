/- G2 U0 W2 -/
import Derived.Test.YtiaepapdofcnjaaQ4
import Derived.Deep.QuietTactic
import Derived.BigQuiet
import Derived.Test.YtiaepapdofcnjaaQ2
namespace Go.Proofs.Ytiaepapdofcnjaa
open Go.RowKit

/-- What is left of l when n is taken; -1 if that is too much. -/
def leftOf (l n : Int) : Int := if l < n then -1 else l - n
def sumStr (xs : List ByteArray) : Nat := (xs.map fun x => x.size).sum
theorem sumStr_succ (xs : List ByteArray) (k : Nat) (h : k < xs.length) : sumStr (xs.take (k + 1)) = sumStr (xs.take k) + xs[k].size := by
  unfold sumStr; rw [List.take_succ_eq_append_getElem h, List.map_append, List.sum_append]; simp
theorem sumStr_le (xs : List ByteArray) (k : Nat) : sumStr (xs.take k) ≤ sumStr xs := by
  unfold sumStr
  conv => rhs; rw [← List.take_append_drop k xs, List.map_append, List.sum_append]
  omega

set_option maxHeartbeats 400000 in
theorem laws_szStringS (v : Value) (xs : List ByteArray) (l : Int) (w : World) (hv : rd w w.heap.size v xs) (h0 : 0 ≤ l) (h1 : l ≤ 1048576) :
    Calls Try.prog 70 #[v, .int .i64 l] w fun e w' => e = .returned (.int .i64 (leftOf l (xs.length + sumStr xs))) ∧ w = w' := by
  obtain ⟨A, n, c, rfl, hn, hc, hm, hr⟩ := hv
  subst hn
  unfold maxLen at hm
  have HR := Lib.hid hr; clear hr
  go_enter Try.func70, Try.ntmps70
  by_cases h : l < xs.length
  · go_wp2
    go_ret
    exact ⟨ret_int (by unfold leftOf; rw [if_pos (by omega)]), rfl⟩
  · go_wp2
    go_loop [1, 5] (fun t i => ∃ (k : Nat) (m : Int), k ≤ xs.length ∧ i = .int .i64 k ∧ t = .int .i64 m ∧ 0 ≤ m ∧ m ≤ 1048576 ∧ Hid (m = l - xs.length - sumStr (xs.take k))) (fun _ i => xs.length - (intOf i).toNat)
    case atStart => exact ⟨0, _, Nat.zero_le _, rfl, rfl, by omega, by omega, by show _ = _; simp [sumStr]⟩
    case round =>
      obtain ⟨k, m, hk, rfl, rfl, m0, m1, HM⟩ := hrel
      by_cases hlt : k < xs.length
      · obtain ⟨b, o, rfl, hb, o3, c1⟩ := HR.out.str k hlt
        have HS := Lib.hid (sumStr_succ xs k hlt)
        have HL := Lib.hid (sumStr_le xs (k + 1))
        generalize xs[k] = x at *
        unfold maxLen at o3
        by_cases hs : m < x.size
        · go_wp2
          go_ret
          refine ⟨ret_int ?_, rfl⟩
          have := HM.out; have h2 := HS.out; have h3 := HL.out
          unfold leftOf; rw [if_pos (by omega)]
        · have hnn : 0 ≤ m - (x.size : Int) := by omega
          have hnn2 : m - (x.size : Int) ≤ 1048576 := by omega
          go_wp2
          go_round
          case rel =>
            refine ⟨k + 1, _, by omega, by go_num, rfl, hnn, hnn2, ?_⟩
            show _ = _
            have := HM.out; have h2 := HS.out
            omega
          case measure => simp [intOf]; omega
      · have HE := Lib.hid (show k = xs.length by omega)
        go_wp2
        go_ret
        refine ⟨ret_int ?_, rfl⟩
        have := HM.out
        rw [HE.out, List.take_length] at this
        unfold leftOf; rw [if_neg (by omega)]; omega

theorem laws_szMissortS (v : Value) (xs : List Mis) (l : Int) (w : World) (hv : rd w w.heap.size v xs) (h0 : 0 ≤ l) (h1 : l ≤ 1048576) :
    Calls Try.prog 28 #[v, .int .i64 l] w fun e w' => e = .returned (.int .i64 (leftOf l xs.length)) ∧ w = w' := by
  obtain ⟨A, n, c, rfl, hn, hc, hm, hr⟩ := hv
  subst hn
  unfold maxLen at hm
  clear hr
  go_enter Try.func28, Try.ntmps28
  by_cases h : l < xs.length
  · go_wp2
    go_ret
    exact ⟨ret_int (by unfold leftOf; rw [if_pos (by omega)]), rfl⟩
  · go_wp2
    go_ret
    exact ⟨ret_int (by unfold leftOf; rw [if_neg (by omega)]), rfl⟩

def planSz (p : Pln) : Int := p.order.length + sumStr p.order
theorem leftOf_range {l n : Int} (h1 : l ≤ 1048576) (hn : 0 ≤ n) : -1 ≤ leftOf l n ∧ leftOf l n ≤ 1048576 ∨ l < 0 := by
  unfold leftOf
  split <;> omega
theorem laws_szPlan (v : Value) (p : Pln) (l : Int) (w : World) (hv : rdP w w.heap.size v p) (h0 : 0 ≤ l) (h1 : l ≤ 1048576) :
    Calls Try.prog 13 #[v, .int .i64 l] w fun e w' => e = .returned (.int .i64 (leftOf l (planSz p))) ∧ Below w.heap.size w w' := by
  obtain ⟨vo, rfl, hi1, hi2, hr⟩ := hv
  have hr1 := hr.on ((Below.refl _ _).alloc (Nat.le_refl _) (Obj.cells #[Value.int IntKind.i64 p.bins, Value.int IntKind.i64 p.passes, vo] 24))
  have HR1 := Lib.hid hr1; clear hr1
  obtain ⟨A, n, c, rfl, hn, hc, hm, hr⟩ := hr
  subst hn
  clear hr
  go_enter Try.func13, Try.ntmps13
  go_wp2_with fail
  refine (laws_szStringS _ p.order l _ HR1.out h0 h1).mono ?_
  rintro e w1 ⟨rfl, rfl⟩
  have hp : 0 ≤ planSz p := by unfold planSz; omega
  rw [show (p.order.length : Int) + sumStr p.order = planSz p from rfl]
  obtain ⟨z, HZ⟩ : ∃ z, Hid (planSz p = z) := ⟨_, rfl⟩
  rw [HZ.out] at hp
  rw [HZ.out]
  by_cases h : l < z
  · have he : leftOf l z = -1 := by unfold leftOf; rw [if_pos h]
    rw [he]
    have HE := Lib.hid he
    clear he h
    go_wp2_with fail
    go_ret
    exact ⟨ret_int (by rw [HZ.out, HE.out]), (Below.refl _ _).alloc (Nat.le_refl _) _⟩
  · have he : leftOf l z = l - z := by unfold leftOf; rw [if_neg h]
    rw [he]
    have hn : ¬ (l - z < 0) := by omega
    have HE := Lib.hid he
    clear he h
    go_wp2_with fail
    go_ret
    exact ⟨ret_int (by rw [HZ.out, HE.out]), (Below.refl _ _).alloc (Nat.le_refl _) _⟩

theorem Try.infoStr : (Try.prog.info? 9).map (fun i => (i.zero, i.size, i.bytes)) = some (some (.string ⟨#[]⟩), 1, 16) := by kernel_rfl

set_option maxHeartbeats 400000 in
theorem laws_toStringS (v : Value) (xs : List ByteArray) (w : World) (hv : rd w w.heap.size v xs) (hl : xs.length ≤ 1048576) :
    Calls Try.prog 73 #[v] w fun e w' => ∃ v', e = .returned v' ∧ own 9 w.heap.size w' v' xs ∧ Below w.heap.size w w' := by
  obtain ⟨A, n, c, rfl, hn, hc, hm, hr⟩ := hv
  subst hn
  unfold maxLen at hm
  have HR := Lib.hid hr; clear hr
  obtain ⟨i0, hi, hz0, hz1, hz2⟩ := info_parts Try.infoStr
  have hmk := make_row (P := Try.prog) 22 9 i0 _ Try.underlying22 hi hz0 xs.length (by rw [hz2]; omega) (by omega)
  go_enter Try.func73, Try.ntmps73
  go_wp2
  have hf0 : filled 9 (w.alloc (Obj.cells (madeCells #[.string ⟨#[]⟩] xs.length) 9)) w.heap.size xs.length 0 xs := filled.made w _ _ _ (by rw [size_madeCells]; exact (Nat.mul_one _).symm) xs
  have hb0 : Below w.heap.size w (w.alloc (Obj.cells (madeCells #[.string ⟨#[]⟩] xs.length) 9)) := (Below.refl _ _).alloc (Nat.le_refl _) _
  generalize w.alloc (Obj.cells (madeCells #[.string ⟨#[]⟩] xs.length) 9) = w0 at *
  clear hmk
  go_loopw [4] (fun i wr => ∃ k : Nat, k ≤ xs.length ∧ i = .int .i64 k ∧ Below w.heap.size w wr ∧ filled 9 wr w.heap.size xs.length k xs) (fun i _ => xs.length - (intOf i).toNat)
  case atStart => exact ⟨0, Nat.zero_le _, rfl, hb0, hf0⟩
  case round =>
    obtain ⟨k, hk, rfl, hbl, hf⟩ := hrel
    obtain ⟨w1, rfl⟩ : ∃ w1 : World, w1 = wr := ⟨_, rfl⟩
    clear hf0 hb0
    by_cases hlt : k < xs.length
    · obtain ⟨b, o, rfl, hb, hok, c1⟩ := HR.out.str k hlt
      have HST := Lib.hid (fun (W : World) (hF : filled 9 W w.heap.size xs.length k xs) => hF.step hlt (Nat.le_refl _) (ecs := [.string xs[k]]) ⟨hok, rfl⟩)
      generalize xs[k] = x at *
      have c1' : w1.cell? ⟨b, o + k, none⟩ = some (.string x) := (hbl.cell (p := ⟨b, o + k, none⟩) hb).trans c1
      clear c1
      obtain ⟨u0, g0⟩ := hf.cell (j := k) (by show _ < _ * 1; omega)
      have f0 := hf.free k
      have HF := Lib.hid hf; clear hf
      go_wp2
      go_roundw
      case rel =>
        have := HST.out w1 HF.out
        rw [show k * El.size ByteArray = k from Nat.mul_one k] at this
        exact ⟨k + 1, by omega, by go_num, hbl.trans (setAll_below [.string x] w1 k _ (Nat.le_refl _)), this⟩
      case measure => simp [intOf]; omega
    · have HE := Lib.hid (show k = xs.length by omega)
      have HF := Lib.hid hf; clear hf
      go_wp2
      go_ret
      exact ⟨_, rfl, (HE.out ▸ HF.out : filled _ _ _ _ xs.length _).own rfl (Nat.le_refl _) (by unfold maxLen; omega), hbl⟩

set_option maxHeartbeats 400000 in
theorem laws_eqStringS (v v' : Value) (xs ys : List ByteArray) (w : World) (hv : rd w w.heap.size v xs) (hv' : rd w w.heap.size v' ys) :
    Calls Try.prog 57 #[v, v'] w fun e w' => e = .returned (.bool (eqBy sEq xs ys)) ∧ Below w.heap.size w w' := by
  obtain ⟨A, n, c, rfl, hn, hc, hm, hr⟩ := hv
  obtain ⟨A', n', c', rfl, hn', hc', hm', hr'⟩ := hv'
  subst hn hn'
  unfold maxLen at hm hm'
  have HR := Lib.hid hr; clear hr
  have HR' := Lib.hid hr'; clear hr'
  go_enter Try.func57, Try.ntmps57
  by_cases hl : xs.length = ys.length
  · have hl1 : ((xs.length : Int) != (ys.length : Int)) = false := by simp [hl]
    have HL := Lib.hid hl; clear hl
    go_wp2
    go_loopw [5] (fun i wr => ∃ k : Nat, k ≤ xs.length ∧ i = .int .i64 k ∧ Below w.heap.size w wr ∧ Hid (∀ j (h1 : j < xs.length) (h2 : j < ys.length), j < k → sEq xs[j] ys[j] = true)) (fun i _ => xs.length - (intOf i).toNat)
    case atStart => exact ⟨0, Nat.zero_le _, rfl, Below.refl _ _, fun j _ _ hj => absurd hj (Nat.not_lt_zero j)⟩
    case round =>
      obtain ⟨k, hk, rfl, hbl, HG⟩ := hrel
      obtain ⟨w1, rfl⟩ : ∃ w1 : World, w1 = wr := ⟨_, rfl⟩
      by_cases hlt : k < xs.length
      · have hlt' : k < ys.length := by rw [← HL.out]; exact hlt
        obtain ⟨b, o, rfl, hb, _, c1⟩ := HR.out.str k hlt
        obtain ⟨b', o', rfl, hb', _, d1⟩ := HR'.out.str k hlt'
        have hbad := Lib.hid (fun h => eqBy_bad (p := sEq) k hlt hlt' h)
        have HX : Hid (∀ h : sEq xs[k] ys[k] = true, ∀ j (h1 : j < xs.length) (h2 : j < ys.length), j < k + 1 → sEq xs[j] ys[j] = true) := fun h j h1 h2 hj => by
          by_cases hjk : j < k
          · exact HG.out j h1 h2 hjk
          · obtain rfl : j = k := by omega
            exact h
        generalize xs[k] = x at *
        generalize ys[k] = y at *
        have c1' : w1.cell? ⟨b, o + k, none⟩ = some (.string x) := (hbl.cell (p := ⟨b, o + k, none⟩) hb).trans c1
        have d1' : w1.cell? ⟨b', o' + k, none⟩ = some (.string y) := (hbl.cell (p := ⟨b', o' + k, none⟩) hb').trans d1
        clear c1 d1
        have hki : (k : Int) < (xs.length : Int) := by omega
        have hki' : (k : Int) < (ys.length : Int) := by omega
        cases he : sEq x y
        · have he' := Lib.hid he
          have hq : (x.toList == y.toList) = false := he
          clear he
          go_wp2
          go_quiet (fail)
          go_wp2
          go_ret
          exact ⟨ret_bool (hbad.out he'.out).symm, below_drewN hbl _⟩
        · have he' := Lib.hid he
          have hq : (x.toList == y.toList) = true := he
          clear he
          go_wp2
          go_quiet (fail)
          go_wp2
          go_roundw
          case rel => exact ⟨k + 1, by omega, by go_num, below_drewN hbl _, HX.out he'.out⟩
          case measure => simp [intOf]; omega
      · have HE := Lib.hid (show k = xs.length by omega)
        go_wp2
        go_ret
        exact ⟨ret_bool (eqBy_good HL.out fun j h1 h2 => HG.out j h1 h2 (by rw [HE.out]; exact h1)).symm, hbl⟩
  · have hl1 : ((xs.length : Int) != (ys.length : Int)) = true := by simp; omega
    have HL := Lib.hid hl; clear hl
    go_wp2
    go_ret
    exact ⟨ret_bool (eqBy_len HL.out).symm, Below.refl _ _⟩

set_option maxHeartbeats 400000 in
theorem laws_toPlan (v : Value) (p : Pln) (w : World) (hv : rdP w w.heap.size v p) (hl : p.order.length ≤ 1048576) :
    Calls Try.prog 16 #[v] w fun e w' => ∃ v', e = .returned v' ∧ ownP 9 w.heap.size w' v' p ∧ Below w.heap.size w w' := by
  obtain ⟨vo, rfl, hi1, hi2, hr⟩ := hv
  obtain ⟨A, n, c, rfl, hn, hc, hm, hra⟩ := hr
  subst hn
  have HR0 := Lib.hid (show rd w w.heap.size (.slice A p.order.length c) p.order from ⟨A, _, c, rfl, rfl, hc, hm, hra⟩)
  clear hra
  go_enter Try.func16, Try.ntmps16
  go_wp2_with fail
  obtain ⟨W3, hW3⟩ : ∃ W3, W3 = (((w.alloc (Obj.cells #[Value.int IntKind.i64 p.bins, Value.int IntKind.i64 p.passes, Value.slice A p.order.length c] 24)).alloc (Obj.cells #[Value.int IntKind.i64 0, Value.int IntKind.i64 0, Value.slice none 0 0] 32)).alloc (Obj.cells #[Value.int IntKind.i64 p.bins, Value.int IntKind.i64 p.passes, Value.slice none 0 0] 32)) := ⟨_, rfl⟩
  have z3 : W3.heap.size = w.heap.size + 1 + 1 + 1 := by subst hW3; simp
  have B3 : Below w.heap.size w W3 := by subst hW3; go_grown
  have k0 : W3.cell? ⟨w.heap.size + 1 + 1, 0, none⟩ = some (.int .i64 p.bins) := by subst hW3; go_simp
  have k1 : W3.cell? ⟨w.heap.size + 1 + 1, 1, none⟩ = some (.int .i64 p.passes) := by subst hW3; go_simp
  have k2 : W3.cell? ⟨w.heap.size + 1 + 1, 2, none⟩ = some (.slice none 0 0) := by subst hW3; go_simp
  have j0 : W3.cell? ⟨w.heap.size + 1, 0, none⟩ = some (.int .i64 0) := by subst hW3; go_simp
  have j1 : W3.cell? ⟨w.heap.size + 1, 1, none⟩ = some (.int .i64 0) := by subst hW3; go_simp
  have j2 : W3.cell? ⟨w.heap.size + 1, 2, none⟩ = some (.slice none 0 0) := by subst hW3; go_simp
  have f2 : W3.frozen? ⟨w.heap.size + 1 + 1, 2, none⟩ = false := by subst hW3; go_simp
  have g0 : W3.frozen? ⟨w.heap.size + 1, 0, none⟩ = false := by subst hW3; go_simp
  have g1 : W3.frozen? ⟨w.heap.size + 1, 1, none⟩ = false := by subst hW3; go_simp
  have g2 : W3.frozen? ⟨w.heap.size + 1, 2, none⟩ = false := by subst hW3; go_simp
  rw [← hW3]
  clear hW3
  refine (laws_toStringS _ p.order _ (HR0.out.on B3) hl).mono ?_
  rintro e w4 ⟨v4, rfl, o4, b4⟩
  have lk : w.heap.size + 1 + 1 < W3.heap.size := by omega
  have lj : w.heap.size + 1 < W3.heap.size := by omega
  replace k0 := (b4.cell (p := ⟨w.heap.size + 1 + 1, 0, none⟩) lk).trans k0
  replace k1 := (b4.cell (p := ⟨w.heap.size + 1 + 1, 1, none⟩) lk).trans k1
  replace k2 := (b4.cell (p := ⟨w.heap.size + 1 + 1, 2, none⟩) lk).trans k2
  replace j0 := (b4.cell (p := ⟨w.heap.size + 1, 0, none⟩) lj).trans j0
  replace j1 := (b4.cell (p := ⟨w.heap.size + 1, 1, none⟩) lj).trans j1
  replace j2 := (b4.cell (p := ⟨w.heap.size + 1, 2, none⟩) lj).trans j2
  replace f2 := (b4.frozen (p := ⟨w.heap.size + 1 + 1, 2, none⟩) lk).trans f2
  replace g0 := (b4.frozen (p := ⟨w.heap.size + 1, 0, none⟩) lj).trans g0
  replace g1 := (b4.frozen (p := ⟨w.heap.size + 1, 1, none⟩) lj).trans g1
  replace g2 := (b4.frozen (p := ⟨w.heap.size + 1, 2, none⟩) lj).trans g2
  have B4 : Below w.heap.size w w4 := B3.trans (b4.mono (by omega))
  obtain ⟨A4, n4, c4, hv4, hn4, _⟩ := o4.rd
  subst hv4 hn4
  have O4 := Lib.hid o4; clear o4
  have HB4 := Lib.hid B4; clear B4 B3
  go_wp2_with fail
  have O5 := own_out (own_out (own_out (own_out O4.out ⟨w.heap.size + 1 + 1, 2, none⟩ (Value.slice A4 p.order.length c4) lk) ⟨w.heap.size + 1, 0, none⟩ (Value.int IntKind.i64 p.bins) lj) ⟨w.heap.size + 1, 1, none⟩ (Value.int IntKind.i64 p.passes) lj) ⟨w.heap.size + 1, 2, none⟩ (Value.slice A4 p.order.length c4) lj
  have HO5 := Lib.hid O5; clear O5
  refine bodyPost_ret (v := .agg #[.int .i64 p.bins, .int .i64 p.passes, .slice A4 p.order.length c4]) (by simp [results, Try.results16, go_sem, j0, j1, j2]) rfl ⟨_, rfl, ⟨_, rfl, hi1, hi2, HO5.out.base_ (by omega)⟩, ?_⟩
  have B4 := HB4.out
  exact (((B4.setCell (by simp; omega) _).setCell (by simp) _).setCell (by simp) _).setCell (by simp) _

set_option maxHeartbeats 400000 in
theorem laws_eqPlan (v v' : Value) (p : Pln) (w : World) (hv : rdP w w.heap.size v p) (hv' : rdP w w.heap.size v' p) :
    Calls Try.prog 21 #[v, v'] w fun e w' => e = .returned (.bool true) ∧ Below w.heap.size w w' := by
  obtain ⟨vo, rfl, hi1, hi2, hr⟩ := hv
  obtain ⟨vo', rfl, _, _, hr'⟩ := hv'
  have HR := Lib.hid hr
  have HR' := Lib.hid hr'
  obtain ⟨A, n, c, rfl, hn, hc, hm, _⟩ := hr
  obtain ⟨A', n', c', rfl, hn', hc', hm', _⟩ := hr'
  subst hn hn'
  have hq : eqBy sEq p.order p.order = true := (eqBy_iff fun _ _ => sEq_iff).2 rfl
  have HQ := Lib.hid hq; clear hq
  have g1 : (p.bins != p.bins) = false := by simp
  have g2 : (p.passes != p.passes) = false := by simp
  have hB : Below w.heap.size w ((w.alloc (Obj.cells #[Value.int IntKind.i64 p.bins, Value.int IntKind.i64 p.passes, Value.slice A p.order.length c] 32)).alloc (Obj.cells #[Value.int IntKind.i64 p.bins, Value.int IntKind.i64 p.passes, Value.slice A' p.order.length c'] 32)) := ((Below.refl _ _).alloc (Nat.le_refl _) _).alloc (by simp) _
  have HB := Lib.hid hB; clear hB
  go_enter Try.func21, Try.ntmps21
  go_wp2_with fail
  refine (laws_eqStringS _ _ p.order p.order _ (HR.out.on HB.out) (HR'.out.on HB.out)).mono ?_
  rw [HQ.out]
  rintro e w1 ⟨rfl, b1⟩
  go_wp2_with fail
  go_ret
  exact ⟨rfl, HB.out.trans (b1.mono HB.out.size)⟩

end Go.Proofs.Ytiaepapdofcnjaa

namespace Go.Proofs.Ytiaepapdofcnjaa
open Go.RowKit

theorem leftOf_ok {l : Int} {n : Nat} (h : 0 ≤ leftOf l n) (hl : l ≤ 1048576) : 0 ≤ leftOf l n ∧ leftOf l n ≤ 1048576 ∧ n ≤ 1048576 := by
  unfold leftOf at *
  split at h <;> rename_i h1
  · omega
  · rw [if_neg h1]; omega
theorem lessOr_eq (l n : Int) : lessOr l n = leftOf l n := rfl
theorem leftOf_leftOf (l : Int) (m n : Nat) (hl : 0 ≤ l) : (if leftOf l m < 0 then -1 else leftOf (leftOf l m) n) = leftOf l ((m + n : Nat) : Int) := by
  unfold leftOf
  by_cases h : l < (m : Int)
  · rw [if_pos h]; simp only [show (-1 : Int) < 0 by omega, if_true]; rw [if_pos (by omega)]
  · rw [if_neg h, if_neg (by omega)]
    by_cases h2 : l - m < (n : Int)
    · rw [if_pos h2, if_pos (by omega)]
    · rw [if_neg h2, if_neg (by omega)]; omega

/-! plans -/
def szP (p : Pln) : Nat := p.order.length + sumStr p.order
theorem u_szP (v : Value) (p : Pln) (l : Int) (w : World) (hv : rdP w w.heap.size v p) (h0 : 0 ≤ l) (h1 : l ≤ 1048576) :
    Calls Try.prog 13 #[v, .int .i64 l] w fun e w' => e = .returned (.int .i64 (leftOf l (szP p : Nat))) ∧ Below w.heap.size w w' := by
  rw [show leftOf l (szP p : Nat) = leftOf l (planSz p) by unfold szP planSz; rw [Int.natCast_add]]
  exact laws_szPlan v p l w hv h0 h1
theorem u_toP (v : Value) (p : Pln) (w : World) (hv : rdP w w.heap.size v p) (hs : szP p ≤ 1048576) :
    Calls Try.prog 16 #[v] w fun e w' => ∃ v', e = .returned v' ∧ ownP 9 w.heap.size w' v' p ∧ Below w.heap.size w w' :=
  laws_toPlan v p w hv (by unfold szP at hs; omega)
theorem u_eqP (v v' : Value) (p : Pln) (w : World) (hv : rdP w w.heap.size v p) (hv' : rdP w w.heap.size v' p) :
    Calls Try.prog 21 #[v, v'] w fun e w' => e = .returned (.bool true) ∧ Below w.heap.size w w' := laws_eqPlan v v' p w hv hv'
/-! letters -/
def szL (xs : List Ltr) : Nat := xs.length + sumSz xs
theorem u_szL (v : Value) (xs : List Ltr) (l : Int) (w : World) (hv : rd w w.heap.size v xs) (h0 : 0 ≤ l) (h1 : l ≤ 1048576) :
    Calls Try.prog 27 #[v, .int .i64 l] w fun e w' => e = .returned (.int .i64 (leftOf l (szL xs : Nat))) ∧ Below w.heap.size w w' := by
  rw [show leftOf l (szL xs : Nat) = lessOr l (xs.length + sumSz xs) by unfold szL; rw [Int.natCast_add, lessOr_eq]]
  exact laws_szLetterS v xs l w hv h0 h1
theorem u_toL (v : Value) (xs : List Ltr) (w : World) (hv : rd w w.heap.size v xs) (hs : szL xs ≤ 1048576) :
    Calls Try.prog 30 #[v] w fun e w' => ∃ v', e = .returned v' ∧ own 103 w.heap.size w' v' xs ∧ Below w.heap.size w w' :=
  laws_toLetterS v xs w hv (by unfold szL at hs; omega)
theorem u_eqL (v v' : Value) (xs : List Ltr) (w : World) (hv : rd w w.heap.size v xs) (hv' : rd w w.heap.size v' xs) :
    Calls Try.prog 20 #[v, v'] w fun e w' => e = .returned (.bool true) ∧ Below w.heap.size w w' := by
  have h := laws_eqLetterS v v' xs xs w hv hv'
  rw [show eqBy ltrEq xs xs = true from (eqBy_iff ltrEq_iff).2 rfl] at h
  exact h

/-! missorts -/
def szM (xs : List Mis) : Nat := xs.length
theorem u_szM (v : Value) (xs : List Mis) (l : Int) (w : World) (hv : rd w w.heap.size v xs) (h0 : 0 ≤ l) (h1 : l ≤ 1048576) :
    Calls Try.prog 28 #[v, .int .i64 l] w fun e w' => e = .returned (.int .i64 (leftOf l (szM xs : Nat))) ∧ Below w.heap.size w w' :=
  (laws_szMissortS v xs l w hv h0 h1).mono fun e w' ⟨h, hw⟩ => ⟨h, by subst hw; exact Below.refl _ _⟩
theorem u_toM (v : Value) (xs : List Mis) (w : World) (hv : rd w w.heap.size v xs) (hs : szM xs ≤ 1048576) :
    Calls Try.prog 31 #[v] w fun e w' => ∃ v', e = .returned v' ∧ own 97 w.heap.size w' v' xs ∧ Below w.heap.size w w' :=
  laws_toMissortS v xs w hv hs
theorem u_eqM (v v' : Value) (xs : List Mis) (w : World) (hv : rd w w.heap.size v xs) (hv' : rd w w.heap.size v' xs) :
    Calls Try.prog 33 #[v, v'] w fun e w' => e = .returned (.bool true) ∧ Below w.heap.size w w' := by
  have h := laws_eqMissortS v v' xs xs w hv hv'
  rw [show eqBy misEq xs xs = true from (eqBy_iff misEq_iff).2 rfl] at h
  exact h

end Go.Proofs.Ytiaepapdofcnjaa

namespace Go.Proofs.Ytiaepapdofcnjaa
open Go.RowKit

theorem listOf {α : Type} {p : Nat → α → Prop} : ∀ {n : Nat}, (∀ i, i < n → ∃ y, p i y) → ∃ xs : List α, xs.length = n ∧ ∀ i (h : i < xs.length), p i xs[i]
  | 0, _ => ⟨[], rfl, fun i h => absurd h (Nat.not_lt_zero i)⟩
  | n + 1, h => by
    obtain ⟨xs, hl, hp⟩ := listOf (n := n) (fun i hi => h i (by omega))
    obtain ⟨y, hy⟩ := h n (by omega)
    refine ⟨xs ++ [y], by simp [hl], fun i hi => ?_⟩
    by_cases hin : i < xs.length
    · rw [List.getElem_append_left hin]
      exact hp i hin
    · have : i = n := by simp at hi; omega
      subst this
      rw [List.getElem_append_right (by omega)]
      simpa [hl] using hy

theorem run_append_of_nil {P : Program} (w : World) (base : Nat) (t ty e : TypeId) (i : TypeInfo) (size : Nat) (ht : P.underlying t = some (.slice e)) (hi : P.info? e = some i)
    (v : Value) (n : Nat) (xs : List Value) (hown : w.ownsRow base e size v n xs) (c : Nat) : (Builtin.append_ #[t, t] ty #[v, .slice none 0 c]).run P w = .ok v w := by
  rcases hown.2 with ⟨rfl, rfl⟩ | ⟨g, cap, cur, rfl, _, _, hnc, _⟩
  · simp [Builtin.append_, run_underlying ht, sizeOf, typeInfo, hi, Builtin.lenOf, Builtin.firstCells]
  · simp [Builtin.append_, run_underlying ht, sizeOf, typeInfo, hi, Builtin.lenOf, Builtin.firstCells, hnc, storeCells]

/-- 'out = append(out, xs...)': what the builtin does. -/
theorem run_appendAll {α : Type} [Flat α] {P : Program} (w : World) (base : Nat) (t ty e : TypeId) (i : TypeInfo) (z : Value) (bytes : Nat) (ht : P.underlying t = some (.slice e)) (hi : P.info? e = some i) (hz : i.zero = some z)
    (hsize : i.size = El.size α) (hby : i.bytes = bytes) (hzs : z.cells.size = El.size α) (hsz : 0 < El.size α)
    (v : Value) (xs : List α) (hown : own e base w v xs) (vx : Value) (ys : List α) (B : Nat) (hr : rd w B vx ys)
    (h63 : xs.length + ys.length ≤ maxLen) (hbytes : (xs.length + ys.length) * bytes ≤ 140737488355328) (hbase : base ≤ w.heap.size) :
    ∃ v' w', (Builtin.append_ #[t, t] ty #[v, vx]).run P w = .ok v' w' ∧ own e base w' v' (xs ++ ys) ∧ w.grownBy w' v.ownBlock ∧ (v'.ownBlock = v.ownBlock ∨ v'.ownBlock = some w.heap.size) := by
  obtain ⟨css, hrow, hl, he⟩ := hown
  obtain ⟨A, n, c, rfl, hn, hc, hm, hrd⟩ := hr
  subst hn
  have hex := listOf (n := ys.length) (p := fun k (cs : List Value) => ∀ h : k < ys.length, ∃ b o, A = some ⟨b, o, none⟩ ∧ El.el w B ys[k] cs ∧ ∀ j u, cs[j]? = some u → w.cell? ⟨b, o + (k * El.size α + j), none⟩ = some u) (fun k hk => by
    obtain ⟨b, o, cs, h1, _, h3, h4⟩ := hrd k hk
    exact ⟨cs, fun _ => ⟨b, o, h1, h3, h4⟩⟩)
  obtain ⟨dss, hdl, hds⟩ := hex
  have hdlen : ∀ x ∈ dss, x.length = El.size α := fun x hx => by
    obtain ⟨k, hk, rfl⟩ := List.getElem_of_mem hx
    obtain ⟨_, _, _, h, _⟩ := hds k hk (by omega)
    exact El.len h
  have hownew : ∀ v' w', w'.ownsRow base e (El.size α) v' (xs.length + ys.length) (css.flatten ++ dss.flatten) → own e base w' v' (xs ++ ys) := fun v' w' ho => by
    refine ⟨css ++ dss, by simpa using ho, by simp [hl, hdl], fun k h1 h2 => ?_⟩
    by_cases hk : k < xs.length
    · rw [List.getElem_append_left hk, List.getElem_append_left (by omega)]
      exact Flat.free (he k hk (by omega))
    · have hkl : k - xs.length < ys.length := by simp at h1; omega
      rw [List.getElem_append_right (by omega), List.getElem_append_right (by omega)]
      obtain ⟨_, _, _, h, _⟩ := hds (k - xs.length) (by omega) hkl
      simp only [hl]
      exact Flat.free h
  cases A with
  | none =>
    have h0 : ys.length = 0 := by
      rcases Nat.eq_zero_or_pos ys.length with h | h
      · exact h
      · obtain ⟨_, _, _, h1, _⟩ := hrd 0 h
        cases h1
    have hy : ys = [] := List.eq_nil_of_length_eq_zero h0
    subst hy
    have hd : dss = [] := List.eq_nil_of_length_eq_zero (by simpa using hdl)
    subst hd
    exact ⟨v, w, run_append_of_nil w base t ty e i _ ht hi v _ _ hrow c, hownew v w (by simpa using hrow), World.grownBy.refl w _, .inl rfl⟩
  | some ad =>
    have hcells : ∀ j u, dss.flatten[j]? = some u → w.cell? (ad.add j) = some u := fun j u hu => by
      have hjl : j < dss.flatten.length := (List.getElem?_eq_some_iff.1 hu).1
      rw [flatten_length hdlen, hdl] at hjl
      have hk : j / El.size α < ys.length := Nat.div_lt_of_lt_mul (by rw [Nat.mul_comm]; exact hjl)
      have hr' : j % El.size α < El.size α := Nat.mod_lt _ hsz
      have hj : j = j / El.size α * El.size α + j % El.size α := by rw [Nat.mul_comm]; exact (Nat.div_add_mod j _).symm
      obtain ⟨b, o, hA, _, hcc⟩ := hds (j / El.size α) (by omega) hk
      injection hA with hA
      subst hA
      rw [add_lit, hj]
      refine hcc _ u ?_
      rw [hj] at hu
      rw [← hu, flatten_get hdlen (by omega) hr']
    obtain ⟨v', w', hrun, h2, h3, _, h5⟩ := run_append_own_at (P := P) w base t ty e i z (El.size α) bytes ht hi hz hsize hby hzs hsz v xs.length css.flatten hrow ad ys.length c dss.flatten (by rw [flatten_length hdlen, hdl]) hcells
      (fun u hu => by
        obtain ⟨cs, hcs, hu'⟩ := List.mem_flatten.1 hu
        obtain ⟨k, hk, rfl⟩ := List.getElem_of_mem hcs
        obtain ⟨_, _, _, h, _⟩ := hds k hk (by omega)
        exact El.one h u hu') h63 hbytes hbase
    exact ⟨v', w', hrun, hownew v' w' h2, h3, h5⟩

theorem wp_appendAll {α : Type} [Flat α] {P : Program} {w : World} {o : Oper} {a : Act} {K : Act → World → Prop} {Q : Exit → Act → World → Prop} (s x : Operand) (t : TypeId)
    (ho : o.op = .call { callee := .builtin .append, args := #[s, x], argTypes := #[t, t] })
    (base : Nat) (e : TypeId) (i : TypeInfo) (z : Value) (bytes : Nat) (ht : P.underlying t = some (.slice e)) (hi : P.info? e = some i) (hz : i.zero = some z)
    (hsize : i.size = El.size α) (hby : i.bytes = bytes) (hzs : z.cells.size = El.size α) (hsz : 0 < El.size α)
    (v : Value) (xs : List α) (hs : a.eval s = v) (hown : own e base w v xs) (vx : Value) (ys : List α) (hx : a.eval x = vx) (B : Nat) (hr : rd w B vx ys)
    (h63 : xs.length + ys.length ≤ maxLen) (hbytes : (xs.length + ys.length) * bytes ≤ 140737488355328) (hbase : base ≤ w.heap.size)
    (h : ∀ v' w', own e base w' v' (xs ++ ys) → w.grownBy w' v.ownBlock → (v'.ownBlock = v.ownBlock ∨ v'.ownBlock = some w.heap.size) → K (a.put o.dst v') w') : o.wp P a w K Q := by
  obtain ⟨v', w', hrun, h2, h3, h4⟩ := run_appendAll (P := P) w base t o.type e i z bytes ht hi hz hsize hby hzs hsz v xs hown vx ys B hr h63 hbytes hbase
  unfold Oper.wp execOp
  simp only [ho, resolve, invoke, builtin, Sem.run_bind, Sem.run_pure, Result.andThen_ok, List.map_toArray, List.map_cons, List.map_nil, hs, hx, hrun]
  exact h v' w' h2 h3 h4

theorem wpList_appendAll {α : Type} [Flat α] {P : Program} {w : World} {ops : Array Oper} {rest : List Oper} {o : Oper} {a : Act} {Q : Exit → Act → World → Prop} (hgd : o.guard = none) (s x : Operand) (t : TypeId)
    (ho : o.op = .call { callee := .builtin .append, args := #[s, x], argTypes := #[t, t] })
    (base : Nat) (e : TypeId) (i : TypeInfo) (z : Value) (bytes : Nat) (ht : P.underlying t = some (.slice e)) (hi : P.info? e = some i) (hz : i.zero = some z)
    (hsize : i.size = El.size α) (hby : i.bytes = bytes) (hzs : z.cells.size = El.size α) (hsz : 0 < El.size α)
    (v : Value) (xs : List α) (hs : a.eval s = v) (hown : own e base w v xs) (vx : Value) (ys : List α) (hx : a.eval x = vx) (B : Nat) (hr : rd w B vx ys)
    (h63 : xs.length + ys.length ≤ maxLen) (hbytes : (xs.length + ys.length) * bytes ≤ 140737488355328) (hbase : base ≤ w.heap.size)
    (h : ∀ v' w', own e base w' v' (xs ++ ys) → w.grownBy w' v.ownBlock → (v'.ownBlock = v.ownBlock ∨ v'.ownBlock = some w.heap.size) → wpList P ops Q rest (a.put o.dst v') w') : wpList P ops Q (o :: rest) a w :=
  wpList_plain hgd fun _ hK => wp_appendAll s x t ho base e i z bytes ht hi hz hsize hby hzs hsz v xs hs hown vx ys hx B hr h63 hbytes hbase fun v' w' h2 h3 h4 => hK _ _ (h v' w' h2 h3 h4)

theorem own_some {α : Type} [El α] {T base n c : Nat} {A : Option Addr} {w : World} {xs : List α} (h : own T base w (.slice A n c) xs) (h0 : 0 < xs.length) :
    ∃ g, A = some ⟨g, 0, none⟩ ∧ base ≤ g ∧ g < w.heap.size ∧ xs.length ≤ c ∧ c ≤ maxLen := by
  rcases h.form with ⟨_, h1⟩ | ⟨g, c', h1, h2, h3, h4, h5⟩
  · subst h1; simp at h0
  · injection h1 with e1 e2 e3
    subst e1 e3
    exact ⟨g, rfl, h2, h3, h4, h5⟩

end Go.Proofs.Ytiaepapdofcnjaa
