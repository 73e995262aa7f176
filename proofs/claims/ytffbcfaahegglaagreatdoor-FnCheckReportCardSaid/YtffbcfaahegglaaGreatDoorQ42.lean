/- GMis G2 -/
import Derived.Test.YtffbcfaahegglaaGreatDoorQ5
import Derived.Test.YtffbcfaahegglaaGreatDoorQ4
import Derived.StillTailTactics
import Derived.Handy
import Derived.Test.YtffbcfaahegglaaGreatDoorQ6
import Derived.Deep.QuietTactic
import Derived.BigQuiet
namespace Go.Proofs.YtffbcfaahegglaaGreatDoor
open Go.RowKit


def misEq (x y : Mis) : Bool := (x.id == y.id) && (x.bin == y.bin)
theorem misEq_iff (x y : Mis) : misEq x y = true ↔ x = y := by
  cases x; cases y; simp [misEq, sEq_iff]

theorem Tryz.infoMis : (Tryz.prog.info? 147).map (fun i => (i.zero, i.size, i.bytes)) = some (some (.agg #[.int .i64 0, .int .i64 0]), 2, 16) := by kernel_rfl



end Go.Proofs.YtffbcfaahegglaaGreatDoor

namespace Go.Proofs.YtffbcfaahegglaaGreatDoor
open Go.RowKit

/-- What is left of l when n is taken; -1 if that is too much. -/
def leftOf (l n : Int) : Int := if l < n then -1 else l - n
def sumStr (xs : List ByteArray) : Nat := (xs.map fun x => x.size).sum
theorem sumStr_succ (xs : List ByteArray) (k : Nat) (h : k < xs.length) : sumStr (xs.take (k + 1)) = sumStr (xs.take k) + xs[k].size := by
  unfold sumStr; rw [List.take_succ_eq_append_getElem h, List.map_append, List.sum_append]; simp
theorem sumStr_le (xs : List ByteArray) (k : Nat) : sumStr (xs.take k) ≤ sumStr xs := by
  unfold sumStr
  conv => rhs; rw [← List.take_append_drop k xs, List.map_append, List.sum_append]
  omega

set_option maxHeartbeats 400000 in
theorem laws_szStringS (v : Value) (xs : List ByteArray) (l : Int) (w : World) (hv : rd w w.heap.size v xs) (h0 : 0 ≤ l) (h1 : l ≤ 1048576) :
    Calls Tryz.prog 33 #[v, .int .i64 l] w fun e w' => e = .returned (.int .i64 (leftOf l (xs.length + sumStr xs))) ∧ w = w' := by
  obtain ⟨A, n, c, rfl, hn, hc, hm, hr⟩ := hv
  subst hn
  unfold maxLen at hm
  have HR := Lib.hid hr; clear hr
  go_enter Tryz.func33, Tryz.ntmps33
  by_cases h : l < xs.length
  · go_wp2
    go_ret
    exact ⟨ret_int (by unfold leftOf; rw [if_pos (by omega)]), rfl⟩
  · go_wp2
    go_loop [1, 5] (fun t i => ∃ (k : Nat) (m : Int), k ≤ xs.length ∧ i = .int .i64 k ∧ t = .int .i64 m ∧ 0 ≤ m ∧ m ≤ 1048576 ∧ Hid (m = l - xs.length - sumStr (xs.take k))) (fun _ i => xs.length - (intOf i).toNat)
    case atStart => exact ⟨0, _, Nat.zero_le _, rfl, rfl, by omega, by omega, by show _ = _; simp [sumStr]⟩
    case round =>
      obtain ⟨k, m, hk, rfl, rfl, m0, m1, HM⟩ := hrel
      by_cases hlt : k < xs.length
      · obtain ⟨b, o, rfl, hb, o3, c1⟩ := HR.out.str k hlt
        have HS := Lib.hid (sumStr_succ xs k hlt)
        have HL := Lib.hid (sumStr_le xs (k + 1))
        generalize xs[k] = x at *
        unfold maxLen at o3
        by_cases hs : m < x.size
        · go_wp2
          go_ret
          refine ⟨ret_int ?_, rfl⟩
          have := HM.out; have h2 := HS.out; have h3 := HL.out
          unfold leftOf; rw [if_pos (by omega)]
        · have hnn : 0 ≤ m - (x.size : Int) := by omega
          have hnn2 : m - (x.size : Int) ≤ 1048576 := by omega
          go_wp2
          go_round
          case rel =>
            refine ⟨k + 1, _, by omega, by go_num, rfl, hnn, hnn2, ?_⟩
            show _ = _
            have := HM.out; have h2 := HS.out
            omega
          case measure => simp [intOf]; omega
      · have HE := Lib.hid (show k = xs.length by omega)
        go_wp2
        go_ret
        refine ⟨ret_int ?_, rfl⟩
        have := HM.out
        rw [HE.out, List.take_length] at this
        unfold leftOf; rw [if_neg (by omega)]; omega


def planSz (p : Pln) : Int := p.order.length + sumStr p.order
theorem leftOf_range {l n : Int} (h1 : l ≤ 1048576) (hn : 0 ≤ n) : -1 ≤ leftOf l n ∧ leftOf l n ≤ 1048576 ∨ l < 0 := by
  unfold leftOf
  split <;> omega
theorem laws_szPlan (v : Value) (p : Pln) (l : Int) (w : World) (hv : rdP w w.heap.size v p) (h0 : 0 ≤ l) (h1 : l ≤ 1048576) :
    Calls Tryz.prog 31 #[v, .int .i64 l] w fun e w' => e = .returned (.int .i64 (leftOf l (planSz p))) ∧ Below w.heap.size w w' := by
  obtain ⟨vo, rfl, hi1, hi2, hr⟩ := hv
  have hr1 := hr.on ((Below.refl _ _).alloc (Nat.le_refl _) (Obj.cells #[Value.int IntKind.i64 p.bins, Value.int IntKind.i64 p.passes, vo] 39))
  have HR1 := Lib.hid hr1; clear hr1
  obtain ⟨A, n, c, rfl, hn, hc, hm, hr⟩ := hr
  subst hn
  clear hr
  go_enter Tryz.func31, Tryz.ntmps31
  go_wp2_with fail
  refine (laws_szStringS _ p.order l _ HR1.out h0 h1).mono ?_
  rintro e w1 ⟨rfl, rfl⟩
  have hp : 0 ≤ planSz p := by unfold planSz; omega
  rw [show (p.order.length : Int) + sumStr p.order = planSz p from rfl]
  obtain ⟨z, HZ⟩ : ∃ z, Hid (planSz p = z) := ⟨_, rfl⟩
  rw [HZ.out] at hp
  rw [HZ.out]
  by_cases h : l < z
  · have he : leftOf l z = -1 := by unfold leftOf; rw [if_pos h]
    rw [he]
    have HE := Lib.hid he
    clear he h
    go_wp2_with fail
    go_ret
    exact ⟨ret_int (by rw [HZ.out, HE.out]), (Below.refl _ _).alloc (Nat.le_refl _) _⟩
  · have he : leftOf l z = l - z := by unfold leftOf; rw [if_neg h]
    rw [he]
    have hn : ¬ (l - z < 0) := by omega
    have HE := Lib.hid he
    clear he h
    go_wp2_with fail
    go_ret
    exact ⟨ret_int (by rw [HZ.out, HE.out]), (Below.refl _ _).alloc (Nat.le_refl _) _⟩

theorem Tryz.infoStr : (Tryz.prog.info? 9).map (fun i => (i.zero, i.size, i.bytes)) = some (some (.string ⟨#[]⟩), 1, 16) := by kernel_rfl

set_option maxHeartbeats 400000 in
theorem laws_toStringS (v : Value) (xs : List ByteArray) (w : World) (hv : rd w w.heap.size v xs) (hl : xs.length ≤ 1048576) :
    Calls Tryz.prog 37 #[v] w fun e w' => ∃ v', e = .returned v' ∧ own 9 w.heap.size w' v' xs ∧ Below w.heap.size w w' := by
  obtain ⟨A, n, c, rfl, hn, hc, hm, hr⟩ := hv
  subst hn
  unfold maxLen at hm
  have HR := Lib.hid hr; clear hr
  obtain ⟨i0, hi, hz0, hz1, hz2⟩ := info_parts Tryz.infoStr
  have hmk := make_row (P := Tryz.prog) 23 9 i0 _ Tryz.underlying23 hi hz0 xs.length (by rw [hz2]; omega) (by omega)
  go_enter Tryz.func37, Tryz.ntmps37
  go_wp2
  have hf0 : filled 9 (w.alloc (Obj.cells (madeCells #[.string ⟨#[]⟩] xs.length) 9)) w.heap.size xs.length 0 xs := filled.made w _ _ _ (by rw [size_madeCells]; exact (Nat.mul_one _).symm) xs
  have hb0 : Below w.heap.size w (w.alloc (Obj.cells (madeCells #[.string ⟨#[]⟩] xs.length) 9)) := (Below.refl _ _).alloc (Nat.le_refl _) _
  generalize w.alloc (Obj.cells (madeCells #[.string ⟨#[]⟩] xs.length) 9) = w0 at *
  clear hmk
  go_loopw [4] (fun i wr => ∃ k : Nat, k ≤ xs.length ∧ i = .int .i64 k ∧ Below w.heap.size w wr ∧ filled 9 wr w.heap.size xs.length k xs) (fun i _ => xs.length - (intOf i).toNat)
  case atStart => exact ⟨0, Nat.zero_le _, rfl, hb0, hf0⟩
  case round =>
    obtain ⟨k, hk, rfl, hbl, hf⟩ := hrel
    obtain ⟨w1, rfl⟩ : ∃ w1 : World, w1 = wr := ⟨_, rfl⟩
    clear hf0 hb0
    by_cases hlt : k < xs.length
    · obtain ⟨b, o, rfl, hb, hok, c1⟩ := HR.out.str k hlt
      have HST := Lib.hid (fun (W : World) (hF : filled 9 W w.heap.size xs.length k xs) => hF.step hlt (Nat.le_refl _) (ecs := [.string xs[k]]) ⟨hok, rfl⟩)
      generalize xs[k] = x at *
      have c1' : w1.cell? ⟨b, o + k, none⟩ = some (.string x) := (hbl.cell (p := ⟨b, o + k, none⟩) hb).trans c1
      clear c1
      obtain ⟨u0, g0⟩ := hf.cell (j := k) (by show _ < _ * 1; omega)
      have f0 := hf.free k
      have HF := Lib.hid hf; clear hf
      go_wp2
      go_roundw
      case rel =>
        have := HST.out w1 HF.out
        rw [show k * El.size ByteArray = k from Nat.mul_one k] at this
        exact ⟨k + 1, by omega, by go_num, hbl.trans (setAll_below [.string x] w1 k _ (Nat.le_refl _)), this⟩
      case measure => simp [intOf]; omega
    · have HE := Lib.hid (show k = xs.length by omega)
      have HF := Lib.hid hf; clear hf
      go_wp2
      go_ret
      exact ⟨_, rfl, (HE.out ▸ HF.out : filled _ _ _ _ xs.length _).own rfl (Nat.le_refl _) (by unfold maxLen; omega), hbl⟩

set_option maxHeartbeats 400000 in
theorem laws_eqStringS (v v' : Value) (xs ys : List ByteArray) (w : World) (hv : rd w w.heap.size v xs) (hv' : rd w w.heap.size v' ys) :
    Calls Tryz.prog 41 #[v, v'] w fun e w' => e = .returned (.bool (eqBy sEq xs ys)) ∧ Below w.heap.size w w' := by
  obtain ⟨A, n, c, rfl, hn, hc, hm, hr⟩ := hv
  obtain ⟨A', n', c', rfl, hn', hc', hm', hr'⟩ := hv'
  subst hn hn'
  unfold maxLen at hm hm'
  have HR := Lib.hid hr; clear hr
  have HR' := Lib.hid hr'; clear hr'
  go_enter Tryz.func41, Tryz.ntmps41
  by_cases hl : xs.length = ys.length
  · have hl1 : ((xs.length : Int) != (ys.length : Int)) = false := by simp [hl]
    have HL := Lib.hid hl; clear hl
    go_wp2
    go_loopw [5] (fun i wr => ∃ k : Nat, k ≤ xs.length ∧ i = .int .i64 k ∧ Below w.heap.size w wr ∧ Hid (∀ j (h1 : j < xs.length) (h2 : j < ys.length), j < k → sEq xs[j] ys[j] = true)) (fun i _ => xs.length - (intOf i).toNat)
    case atStart => exact ⟨0, Nat.zero_le _, rfl, Below.refl _ _, fun j _ _ hj => absurd hj (Nat.not_lt_zero j)⟩
    case round =>
      obtain ⟨k, hk, rfl, hbl, HG⟩ := hrel
      obtain ⟨w1, rfl⟩ : ∃ w1 : World, w1 = wr := ⟨_, rfl⟩
      by_cases hlt : k < xs.length
      · have hlt' : k < ys.length := by rw [← HL.out]; exact hlt
        obtain ⟨b, o, rfl, hb, _, c1⟩ := HR.out.str k hlt
        obtain ⟨b', o', rfl, hb', _, d1⟩ := HR'.out.str k hlt'
        have hbad := Lib.hid (fun h => eqBy_bad (p := sEq) k hlt hlt' h)
        have HX : Hid (∀ h : sEq xs[k] ys[k] = true, ∀ j (h1 : j < xs.length) (h2 : j < ys.length), j < k + 1 → sEq xs[j] ys[j] = true) := fun h j h1 h2 hj => by
          by_cases hjk : j < k
          · exact HG.out j h1 h2 hjk
          · obtain rfl : j = k := by omega
            exact h
        generalize xs[k] = x at *
        generalize ys[k] = y at *
        have c1' : w1.cell? ⟨b, o + k, none⟩ = some (.string x) := (hbl.cell (p := ⟨b, o + k, none⟩) hb).trans c1
        have d1' : w1.cell? ⟨b', o' + k, none⟩ = some (.string y) := (hbl.cell (p := ⟨b', o' + k, none⟩) hb').trans d1
        clear c1 d1
        have hki : (k : Int) < (xs.length : Int) := by omega
        have hki' : (k : Int) < (ys.length : Int) := by omega
        cases he : sEq x y
        · have he' := Lib.hid he
          have hq : (x.toList == y.toList) = false := he
          clear he
          go_wp2
          go_quiet (fail)
          go_wp2
          go_ret
          exact ⟨ret_bool (hbad.out he'.out).symm, below_drewN hbl _⟩
        · have he' := Lib.hid he
          have hq : (x.toList == y.toList) = true := he
          clear he
          go_wp2
          go_quiet (fail)
          go_wp2
          go_roundw
          case rel => exact ⟨k + 1, by omega, by go_num, below_drewN hbl _, HX.out he'.out⟩
          case measure => simp [intOf]; omega
      · have HE := Lib.hid (show k = xs.length by omega)
        go_wp2
        go_ret
        exact ⟨ret_bool (eqBy_good HL.out fun j h1 h2 => HG.out j h1 h2 (by rw [HE.out]; exact h1)).symm, hbl⟩
  · have hl1 : ((xs.length : Int) != (ys.length : Int)) = true := by simp; omega
    have HL := Lib.hid hl; clear hl
    go_wp2
    go_ret
    exact ⟨ret_bool (eqBy_len HL.out).symm, Below.refl _ _⟩

set_option maxHeartbeats 400000 in
theorem laws_toPlan (v : Value) (p : Pln) (w : World) (hv : rdP w w.heap.size v p) (hl : p.order.length ≤ 1048576) :
    Calls Tryz.prog 35 #[v] w fun e w' => ∃ v', e = .returned v' ∧ ownP 9 w.heap.size w' v' p ∧ Below w.heap.size w w' := by
  obtain ⟨vo, rfl, hi1, hi2, hr⟩ := hv
  obtain ⟨A, n, c, rfl, hn, hc, hm, hra⟩ := hr
  subst hn
  have HR0 := Lib.hid (show rd w w.heap.size (.slice A p.order.length c) p.order from ⟨A, _, c, rfl, rfl, hc, hm, hra⟩)
  clear hra
  go_enter Tryz.func35, Tryz.ntmps35
  go_wp2_with fail
  obtain ⟨W3, hW3⟩ : ∃ W3, W3 = (((w.alloc (Obj.cells #[Value.int IntKind.i64 p.bins, Value.int IntKind.i64 p.passes, Value.slice A p.order.length c] 39)).alloc (Obj.cells #[Value.int IntKind.i64 0, Value.int IntKind.i64 0, Value.slice none 0 0] 25)).alloc (Obj.cells #[Value.int IntKind.i64 p.bins, Value.int IntKind.i64 p.passes, Value.slice none 0 0] 25)) := ⟨_, rfl⟩
  have z3 : W3.heap.size = w.heap.size + 1 + 1 + 1 := by subst hW3; simp
  have B3 : Below w.heap.size w W3 := by subst hW3; go_grown
  have k0 : W3.cell? ⟨w.heap.size + 1 + 1, 0, none⟩ = some (.int .i64 p.bins) := by subst hW3; go_simp
  have k1 : W3.cell? ⟨w.heap.size + 1 + 1, 1, none⟩ = some (.int .i64 p.passes) := by subst hW3; go_simp
  have k2 : W3.cell? ⟨w.heap.size + 1 + 1, 2, none⟩ = some (.slice none 0 0) := by subst hW3; go_simp
  have j0 : W3.cell? ⟨w.heap.size + 1, 0, none⟩ = some (.int .i64 0) := by subst hW3; go_simp
  have j1 : W3.cell? ⟨w.heap.size + 1, 1, none⟩ = some (.int .i64 0) := by subst hW3; go_simp
  have j2 : W3.cell? ⟨w.heap.size + 1, 2, none⟩ = some (.slice none 0 0) := by subst hW3; go_simp
  have f2 : W3.frozen? ⟨w.heap.size + 1 + 1, 2, none⟩ = false := by subst hW3; go_simp
  have g0 : W3.frozen? ⟨w.heap.size + 1, 0, none⟩ = false := by subst hW3; go_simp
  have g1 : W3.frozen? ⟨w.heap.size + 1, 1, none⟩ = false := by subst hW3; go_simp
  have g2 : W3.frozen? ⟨w.heap.size + 1, 2, none⟩ = false := by subst hW3; go_simp
  rw [← hW3]
  clear hW3
  refine (laws_toStringS _ p.order _ (HR0.out.on B3) hl).mono ?_
  rintro e w4 ⟨v4, rfl, o4, b4⟩
  have lk : w.heap.size + 1 + 1 < W3.heap.size := by omega
  have lj : w.heap.size + 1 < W3.heap.size := by omega
  replace k0 := (b4.cell (p := ⟨w.heap.size + 1 + 1, 0, none⟩) lk).trans k0
  replace k1 := (b4.cell (p := ⟨w.heap.size + 1 + 1, 1, none⟩) lk).trans k1
  replace k2 := (b4.cell (p := ⟨w.heap.size + 1 + 1, 2, none⟩) lk).trans k2
  replace j0 := (b4.cell (p := ⟨w.heap.size + 1, 0, none⟩) lj).trans j0
  replace j1 := (b4.cell (p := ⟨w.heap.size + 1, 1, none⟩) lj).trans j1
  replace j2 := (b4.cell (p := ⟨w.heap.size + 1, 2, none⟩) lj).trans j2
  replace f2 := (b4.frozen (p := ⟨w.heap.size + 1 + 1, 2, none⟩) lk).trans f2
  replace g0 := (b4.frozen (p := ⟨w.heap.size + 1, 0, none⟩) lj).trans g0
  replace g1 := (b4.frozen (p := ⟨w.heap.size + 1, 1, none⟩) lj).trans g1
  replace g2 := (b4.frozen (p := ⟨w.heap.size + 1, 2, none⟩) lj).trans g2
  have B4 : Below w.heap.size w w4 := B3.trans (b4.mono (by omega))
  obtain ⟨A4, n4, c4, hv4, hn4, _⟩ := o4.rd
  subst hv4 hn4
  have O4 := Lib.hid o4; clear o4
  have HB4 := Lib.hid B4; clear B4 B3
  go_wp2_with fail
  have O5 := own_out (own_out (own_out (own_out O4.out ⟨w.heap.size + 1 + 1, 2, none⟩ (Value.slice A4 p.order.length c4) lk) ⟨w.heap.size + 1, 0, none⟩ (Value.int IntKind.i64 p.bins) lj) ⟨w.heap.size + 1, 1, none⟩ (Value.int IntKind.i64 p.passes) lj) ⟨w.heap.size + 1, 2, none⟩ (Value.slice A4 p.order.length c4) lj
  have HO5 := Lib.hid O5; clear O5
  refine bodyPost_ret (v := .agg #[.int .i64 p.bins, .int .i64 p.passes, .slice A4 p.order.length c4]) (by simp [results, Tryz.results35, go_sem, j0, j1, j2]) rfl ⟨_, rfl, ⟨_, rfl, hi1, hi2, HO5.out.base_ (by omega)⟩, ?_⟩
  have B4 := HB4.out
  exact (((B4.setCell (by simp; omega) _).setCell (by simp) _).setCell (by simp) _).setCell (by simp) _

set_option maxHeartbeats 400000 in
theorem laws_eqPlan (v v' : Value) (p : Pln) (w : World) (hv : rdP w w.heap.size v p) (hv' : rdP w w.heap.size v' p) :
    Calls Tryz.prog 39 #[v, v'] w fun e w' => e = .returned (.bool true) ∧ Below w.heap.size w w' := by
  obtain ⟨vo, rfl, hi1, hi2, hr⟩ := hv
  obtain ⟨vo', rfl, _, _, hr'⟩ := hv'
  have HR := Lib.hid hr
  have HR' := Lib.hid hr'
  obtain ⟨A, n, c, rfl, hn, hc, hm, _⟩ := hr
  obtain ⟨A', n', c', rfl, hn', hc', hm', _⟩ := hr'
  subst hn hn'
  have hq : eqBy sEq p.order p.order = true := (eqBy_iff fun _ _ => sEq_iff).2 rfl
  have HQ := Lib.hid hq; clear hq
  have g1 : (p.bins != p.bins) = false := by simp
  have g2 : (p.passes != p.passes) = false := by simp
  have hB : Below w.heap.size w ((w.alloc (Obj.cells #[Value.int IntKind.i64 p.bins, Value.int IntKind.i64 p.passes, Value.slice A p.order.length c] 25)).alloc (Obj.cells #[Value.int IntKind.i64 p.bins, Value.int IntKind.i64 p.passes, Value.slice A' p.order.length c'] 25)) := ((Below.refl _ _).alloc (Nat.le_refl _) _).alloc (by simp) _
  have HB := Lib.hid hB; clear hB
  go_enter Tryz.func39, Tryz.ntmps39
  go_wp2_with fail
  refine (laws_eqStringS _ _ p.order p.order _ (HR.out.on HB.out) (HR'.out.on HB.out)).mono ?_
  rw [HQ.out]
  rintro e w1 ⟨rfl, b1⟩
  go_wp2_with fail
  go_ret
  exact ⟨rfl, HB.out.trans (b1.mono HB.out.size)⟩

end Go.Proofs.YtffbcfaahegglaaGreatDoor
