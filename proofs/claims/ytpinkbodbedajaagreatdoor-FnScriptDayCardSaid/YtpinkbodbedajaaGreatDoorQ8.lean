/- K4 F1 B6 B7 B8 L3 L4 B9 BN PL SO G2 U0 E3 UM RD -/
import Derived.Test.YtpinkbodbedajaaGreatDoorQ5
import Derived.Test.YtpinkbodbedajaaGreatDoorQ2
import Derived.Test.YtpinkbodbedajaaGreatDoorQ7
import Derived.IntWalk
import Derived.Test.YtpinkbodbedajaaGreatDoorQ1
import Derived.Deep.RegionHeld3
import Derived.Deep.QuietTactic
import Derived.BigQuiet
import Derived.Test.YtpinkbodbedajaaGreatDoorQ4
namespace Go.Proofs.YtpinkbodbedajaaGreatDoor
open Go.RowKit




end Go.Proofs.YtpinkbodbedajaaGreatDoor

namespace Go.Proofs.YtpinkbodbedajaaGreatDoor
open Go.RowKit

theorem ret_tup {a b : Value} (h : a = b) : Ending.returned a = .returned b := by rw [h]

set_option maxHeartbeats 400000 in
theorem impl_forwardOf (v : Value) (fs : List Fwd) (c : ByteArray) (w : World) (hv : rd w w.heap.size v fs) :
    Calls Tryz.prog 124 #[v, .string c] w fun e w' => e = .returned (.int .i64 (fwdI fs c)) ∧ Below w.heap.size w w' := by
  obtain ⟨A, n, cp, rfl, hn, hc, hm, hr⟩ := hv
  subst hn
  unfold maxLen at hm
  have HR := Lib.hid hr; clear hr
  have l0 := Below.refl w.heap.size w
  go_enter Tryz.func124, Tryz.ntmps124
  go_wp2
  go_loopw [9] (fun i wr => ∃ k : Nat, k ≤ fs.length ∧ i = .int .i64 k ∧ Below w.heap.size w wr ∧ Hid (∀ j (h : j < fs.length), j < k → sEq fs[j].src c = false)) (fun i _ => fs.length - (intOf i).toNat)
  case atStart => exact ⟨0, Nat.zero_le _, rfl, l0, fun j _ hj => absurd hj (Nat.not_lt_zero j)⟩
  case round =>
    obtain ⟨k, hk, rfl, lr, HG⟩ := hrel
    obtain ⟨w1, rfl⟩ : ∃ w1 : World, w1 = wr := ⟨_, rfl⟩
    by_cases hlt : k < fs.length
    · obtain ⟨b, o, rfl, hb, hok, c1, c2⟩ := HR.out.fwdU k hlt
      have HX : Hid (∀ h : sEq fs[k].src c = false, ∀ j (h1 : j < fs.length), j < k + 1 → sEq fs[j].src c = false) := fun h j h1 hj => by
        by_cases hjk : j < k
        · exact HG.out j h1 hjk
        · obtain rfl : j = k := by omega
          exact h
      have HY : Hid (∀ h : sEq fs[k].src c = true, fwdI fs c = k) := fun h => fiI_at hlt (fun j hj hjk => HG.out j hj hjk) h
      generalize fs[k] = x at *
      cases he : sEq x.src c
      · have he' := Lib.hid he
        have hq : (x.src.toList == c.toList) = false := he
        clear he
        go_wp2
        go_roundw
        case rel => exact ⟨k + 1, by omega, by go_num, later_alloc lr _, HX.out he'.out⟩
        case measure => simp [intOf]; omega
      · have he' := Lib.hid he
        have hq : (x.src.toList == c.toList) = true := he
        clear he
        go_wp2
        go_ret
        exact ⟨ret_int (HY.out he'.out).symm, later_alloc lr _⟩
    · have HE : Hid (fwdI fs c = -1) := fiI_none fun j hj => HG.out j hj (by omega)
      go_wp2
      go_ret
      exact ⟨ret_int HE.out.symm, lr⟩

set_option maxHeartbeats 400000 in
theorem spec_l4Index (v : Value) (fs : List Fwd) (c : ByteArray) (w : World) (hv : rd w w.heap.size v fs) :
    Calls Tryz.prog 170 #[v, .string c] w fun e w' => e = .returned (.int .i64 (fwdI fs c)) ∧ w = w' := by
  obtain ⟨A, n, cp, rfl, hn, hc, hm, hr⟩ := hv
  subst hn
  unfold maxLen at hm
  have HR := Lib.hid hr; clear hr
  have l0 := Below.refl w.heap.size w
  go_enter Tryz.func170, Tryz.ntmps170
  go_wp2
  go_loop [5] (fun i => ∃ k : Nat, k ≤ fs.length ∧ i = .int .i64 k ∧ Hid (∀ j (h : j < fs.length), j < k → sEq fs[j].src c = false)) (fun i => fs.length - (intOf i).toNat)
  case atStart => exact ⟨0, Nat.zero_le _, rfl, fun j _ hj => absurd hj (Nat.not_lt_zero j)⟩
  case round =>
    obtain ⟨k, hk, rfl, HG⟩ := hrel
    by_cases hlt : k < fs.length
    · obtain ⟨b, o, rfl, hb, hok, c1, c2⟩ := HR.out.fwdU k hlt
      have HX : Hid (∀ h : sEq fs[k].src c = false, ∀ j (h1 : j < fs.length), j < k + 1 → sEq fs[j].src c = false) := fun h j h1 hj => by
        by_cases hjk : j < k
        · exact HG.out j h1 hjk
        · obtain rfl : j = k := by omega
          exact h
      have HY : Hid (∀ h : sEq fs[k].src c = true, fwdI fs c = k) := fun h => fiI_at hlt (fun j hj hjk => HG.out j hj hjk) h
      generalize fs[k] = x at *
      cases he : sEq x.src c
      · have he' := Lib.hid he
        have hq : (x.src.toList == c.toList) = false := he
        clear he
        go_wp2
        go_round
        case rel => exact ⟨k + 1, by omega, by go_num, HX.out he'.out⟩
        case measure => simp [intOf]; omega
      · have he' := Lib.hid he
        have hq : (x.src.toList == c.toList) = true := he
        clear he
        go_wp2
        go_ret
        exact ⟨ret_int (HY.out he'.out).symm, rfl⟩
    · have HE : Hid (fwdI fs c = -1) := fiI_none fun j hj => HG.out j hj (by omega)
      go_wp2
      go_ret
      exact ⟨ret_int HE.out.symm, rfl⟩

set_option maxHeartbeats 400000 in
theorem impl_followOrders (v : Value) (fs : List Fwd) (c : ByteArray) (w : World) (hv : rd w w.heap.size v fs) (hcs : c.size ≤ maxLen) (hl : fs.length ≤ 1048576) :
    Calls Tryz.prog 63 #[v, .string c] w fun e w' => e = .returned (.tuple #[.string (follow fs c).1, .int .i64 ((follow fs c).2.1 : Nat), .bool (follow fs c).2.2]) ∧ Below w.heap.size w w' := by
  obtain ⟨A, n, cp, rfl, hn, hc, hm, hr⟩ := hv
  have hv0 := Lib.hid (show rd w w.heap.size (.slice A n cp) fs from ⟨A, n, cp, rfl, hn, hc, hm, hr⟩)
  subst hn
  unfold maxLen at hm hcs
  have HR := Lib.hid hr; clear hr
  have l0 := Below.refl w.heap.size w
  have HF : Hid (follow fs c = followN fs (fs.length + 1) c 0) := rfl
  go_enter Tryz.func63, Tryz.ntmps63
  go_wp2
  go_loopw [1, 7] (fun t i wr => ∃ (k : Nat) (d : ByteArray), k ≤ fs.length + 1 ∧ i = .int .i64 k ∧ t = .string d ∧ d.size ≤ 2 ^ 63 - 1 ∧ Below w.heap.size w wr ∧ Hid (follow fs c = followN fs (fs.length + 1 - k) d k)) (fun _ i _ => fs.length + 1 - (intOf i).toNat)
  case atStart => exact ⟨0, c, Nat.zero_le _, rfl, rfl, hcs, l0, HF.out⟩
  case round =>
    obtain ⟨k, d, hk, rfl, rfl, hds, lr, HG⟩ := hrel
    obtain ⟨w1, rfl⟩ : ∃ w1 : World, w1 = wr := ⟨_, rfl⟩
    clear l0
    by_cases hlt : k < fs.length + 1
    · have hlt' : (k : Int) ≤ (fs.length : Int) := by omega
      have HS : Hid (follow fs c = if fwdI fs d < 0 then (d, k, true) else followN fs (fs.length + 1 - (k + 1)) (fwdTo fs d) (k + 1)) := by
        show _ = _
        rw [HG.out, show fs.length + 1 - k = (fs.length + 1 - (k + 1)) + 1 by omega]; rfl
      obtain ⟨r, HRR⟩ : ∃ r, Hid (fwdI fs d = r) := ⟨_, rfl⟩
      have hrr := fiI_range (fun x : Fwd => sEq x.src d) fs
      rw [show fiI (fun x : Fwd => sEq x.src d) fs = r from HRR.out] at hrr
      go_wp2_with fail
      refine (impl_forwardOf _ fs d _ (hv0.out.on lr)).mono ?_
      rw [HRR.out]
      rintro e w2 ⟨rfl, b2⟩
      have l2 := later_trans lr b2
      by_cases hneg : r < 0
      · go_wp2_with fail
        go_ret3
        exact ⟨ret_tup (by rw [HS.out, HRR.out, if_pos hneg] <;> rfl), l2⟩
      · obtain ⟨q, rfl⟩ := Int.eq_ofNat_of_zero_le (show 0 ≤ r by omega)
        have hq : q < fs.length := by omega
        obtain ⟨b, o, rfl, hb, ⟨hok1, hok2⟩, c1, c2⟩ := HR.out.fwdU q hq
        have HT := Lib.hid (fwdTo_at HRR.out hq)
        generalize fs[q] = x at *
        unfold maxLen at hok2
        have hqi : (q : Int) < (fs.length : Int) := by omega
        go_wp2_with fail
        go_roundw
        case rel => exact ⟨k + 1, x.dst, by omega, by go_num, rfl, hok2, l2, by show _ = _; rw [HS.out, HRR.out, if_neg (by omega), HT.out]⟩
        case measure => simp [intOf]; omega
    · have hlt' : ¬ (k : Int) ≤ (fs.length : Int) := by omega
      have HE : Hid (follow fs c = (⟨#[]⟩, 0, false)) := by show _ = _; rw [HG.out, show fs.length + 1 - k = 0 by omega]; rfl
      go_wp2_with fail
      go_ret3
      exact ⟨ret_tup (by rw [HE.out] <;> rfl), lr⟩

set_option maxHeartbeats 400000 in
theorem spec_l4Resolve (v : Value) (fs : List Fwd) (c : ByteArray) (w : World) (hv : rd w w.heap.size v fs) (hcs : c.size ≤ maxLen) (hl : fs.length ≤ 1048576) :
    Calls Tryz.prog 116 #[v, .string c] w fun e w' => e = .returned (.tuple #[.string (follow fs c).1, .int .i64 ((follow fs c).2.1 : Nat), .bool (follow fs c).2.2]) ∧ Below w.heap.size w w' := by
  obtain ⟨A, n, cp, rfl, hn, hc, hm, hr⟩ := hv
  have hv0 := Lib.hid (show rd w w.heap.size (.slice A n cp) fs from ⟨A, n, cp, rfl, hn, hc, hm, hr⟩)
  subst hn
  unfold maxLen at hm hcs
  have HR := Lib.hid hr; clear hr
  have l0 := Below.refl w.heap.size w
  have HF : Hid (follow fs c = followN fs (fs.length + 1) c 0) := rfl
  go_enter Tryz.func116, Tryz.ntmps116
  go_wp2
  go_loopw [1, 7] (fun t i wr => ∃ (k : Nat) (d : ByteArray), k ≤ fs.length + 1 ∧ i = .int .i64 k ∧ t = .string d ∧ d.size ≤ 2 ^ 63 - 1 ∧ Below w.heap.size w wr ∧ Hid (follow fs c = followN fs (fs.length + 1 - k) d k)) (fun _ i _ => fs.length + 1 - (intOf i).toNat)
  case atStart => exact ⟨0, c, Nat.zero_le _, rfl, rfl, hcs, l0, HF.out⟩
  case round =>
    obtain ⟨k, d, hk, rfl, rfl, hds, lr, HG⟩ := hrel
    obtain ⟨w1, rfl⟩ : ∃ w1 : World, w1 = wr := ⟨_, rfl⟩
    clear l0
    by_cases hlt : k < fs.length + 1
    · have hlt' : (k : Int) ≤ (fs.length : Int) := by omega
      have HS : Hid (follow fs c = if fwdI fs d < 0 then (d, k, true) else followN fs (fs.length + 1 - (k + 1)) (fwdTo fs d) (k + 1)) := by
        show _ = _
        rw [HG.out, show fs.length + 1 - k = (fs.length + 1 - (k + 1)) + 1 by omega]; rfl
      obtain ⟨r, HRR⟩ : ∃ r, Hid (fwdI fs d = r) := ⟨_, rfl⟩
      have hrr := fiI_range (fun x : Fwd => sEq x.src d) fs
      rw [show fiI (fun x : Fwd => sEq x.src d) fs = r from HRR.out] at hrr
      go_wp2_with fail
      refine (spec_l4Index _ fs d _ (hv0.out.on lr)).mono ?_
      rw [HRR.out]
      rintro e w2 ⟨rfl, rfl⟩
      have l2 := lr
      by_cases hneg : r < 0
      · go_wp2_with fail
        go_ret3
        exact ⟨ret_tup (by rw [HS.out, HRR.out, if_pos hneg] <;> rfl), l2⟩
      · obtain ⟨q, rfl⟩ := Int.eq_ofNat_of_zero_le (show 0 ≤ r by omega)
        have hq : q < fs.length := by omega
        obtain ⟨b, o, rfl, hb, ⟨hok1, hok2⟩, c1, c2⟩ := HR.out.fwdU q hq
        have HT := Lib.hid (fwdTo_at HRR.out hq)
        generalize fs[q] = x at *
        unfold maxLen at hok2
        have hqi : (q : Int) < (fs.length : Int) := by omega
        go_wp2_with fail
        go_roundw
        case rel => exact ⟨k + 1, x.dst, by omega, by go_num, rfl, hok2, l2, by show _ = _; rw [HS.out, HRR.out, if_neg (by omega), HT.out]⟩
        case measure => simp [intOf]; omega
    · have hlt' : ¬ (k : Int) ≤ (fs.length : Int) := by omega
      have HE : Hid (follow fs c = (⟨#[]⟩, 0, false)) := by show _ = _; rw [HG.out, show fs.length + 1 - k = 0 by omega]; rfl
      go_wp2_with fail
      go_ret3
      exact ⟨ret_tup (by rw [HE.out] <;> rfl), lr⟩

theorem impl_sizeValid (n : Int) (w : World) : Calls Tryz.prog 110 #[.int .i64 n] w fun e w' => e = .returned (.bool (sizeOk n)) ∧ w = w' := by
  go_enter Tryz.func110, Tryz.ntmps110
  by_cases h1 : 1 ≤ n
  · go_wp2
    go_ret
    exact ⟨ret_bool (by simp [sizeOk, h1]), rfl⟩
  · go_wp2
    go_ret
    exact ⟨ret_bool (by unfold sizeOk; rw [decide_eq_false (p := 1 ≤ n) (by omega)]; rfl), rfl⟩
theorem spec_l5Size (n : Int) (w : World) : Calls Tryz.prog 114 #[.int .i64 n] w fun e w' => e = .returned (.bool (sizeOk n)) ∧ w = w' := by
  go_enter Tryz.func114, Tryz.ntmps114
  go_wp2_with fail
  refine (spec_l1In n 1 20 w).mono ?_
  rintro e w1 ⟨rfl, rfl⟩
  obtain ⟨r, HR⟩ : ∃ r, Hid ((decide (1 ≤ n) && decide (n ≤ 20)) = r) := ⟨_, rfl⟩
  rw [HR.out]
  go_wp2_with fail
  go_ret
  exact ⟨ret_bool HR.out.symm, rfl⟩

set_option maxHeartbeats 400000 in
theorem impl_heldValid (v : Value) (xs : List ByteArray) (w : World) (hv : rd w w.heap.size v xs) :
    Calls Tryz.prog 109 #[v] w fun e w' => e = .returned (.bool (heldOk xs)) ∧ w = w' := by
  obtain ⟨A, n, cp, rfl, hn, hc, hm, hr⟩ := hv
  subst hn
  unfold maxLen at hm
  have HR := Lib.hid hr; clear hr
  have l0 := Below.refl w.heap.size w
  go_enter Tryz.func109, Tryz.ntmps109
  by_cases h30 : (30 : Int) < (xs.length : Int)
  · have HF : Hid (heldOk xs = false) := by show _ = _; unfold heldOk; rw [decide_eq_false (by omega)]; rfl
    go_wp2
    go_ret
    exact ⟨ret_bool HF.out.symm, rfl⟩
  have H30 := Lib.hid (show xs.length ≤ 30 by omega)
  go_wp2
  go_loop [10] (fun i => ∃ k : Nat, k ≤ xs.length ∧ i = .int .i64 k ∧ Hid (∀ j (h : j < xs.length), j < k → isCode xs[j] = true)) (fun i => xs.length - (intOf i).toNat)
  case atStart => exact ⟨0, Nat.zero_le _, rfl, fun j _ hj => absurd hj (Nat.not_lt_zero j)⟩
  case round =>
    obtain ⟨k, hk, rfl, HG⟩ := hrel
    by_cases hlt : k < xs.length
    · obtain ⟨b, o, rfl, hb, hok, c1⟩ := HR.out.strU k hlt
      have HX : Hid (∀ h : isCode xs[k] = true, ∀ j (h1 : j < xs.length), j < k + 1 → isCode xs[j] = true) := fun h j h1 hj => by
        by_cases hjk : j < k
        · exact HG.out j h1 hjk
        · obtain rfl : j = k := by omega
          exact h
      have HY : Hid (∀ h : isCode xs[k] = false, heldOk xs = false) := fun h => by
        unfold heldOk
        rw [Bool.and_eq_false_iff]
        exact .inr (List.all_eq_false.2 ⟨xs[k], List.getElem_mem _, by simp [h]⟩)
      generalize xs[k] = x at *
      obtain ⟨r, HRR⟩ : ∃ r, Hid (isCode x = r) := ⟨_, rfl⟩
      go_wp2_with fail
      refine (impl_CodeValid x _ hok).mono ?_
      rw [HRR.out]
      rintro e w1 ⟨rfl, rfl⟩
      cases r
      · go_wp2_with fail
        go_ret
        exact ⟨ret_bool (HY.out HRR.out).symm, rfl⟩
      · go_wp2_with fail
        go_round
        case rel => exact ⟨k + 1, by omega, by go_num, HX.out HRR.out⟩
        case measure => simp [intOf]; omega
    · have HE : Hid (heldOk xs = true) := by
        show _ = _
        unfold heldOk
        rw [decide_eq_true H30.out]
        exact List.all_eq_true.2 fun x hx => by
          obtain ⟨j, hj, rfl⟩ := List.getElem_of_mem hx
          exact HG.out j hj (by omega)
      go_wp2
      go_ret
      exact ⟨ret_bool HE.out.symm, rfl⟩

end Go.Proofs.YtpinkbodbedajaaGreatDoor

namespace Go.Proofs.YtpinkbodbedajaaGreatDoor
open Go.RowKit

theorem outN_len (p : Pln) : ∀ (n k : Nat) (xs : List Ltr), (outN p k n xs).length ≤ n * xs.length
  | 0, _, _ => by simp [outN]
  | n + 1, k, xs => by
    show (restOf _ xs ++ outN p (k + 1) n (pass1 p k xs)).length ≤ _
    have h1 := outN_len p n (k + 1) (pass1 p k xs)
    have h2 := pass1_len p k xs
    have h3 : n * (pass1 p k xs).length ≤ n * xs.length := Nat.mul_le_mul_left _ h2
    have h4 : (restOf (fun x => binI p x.code k) xs).length ≤ xs.length := List.length_filter_le _ _
    rw [List.length_append, Nat.add_mul, Nat.one_mul]
    omega

set_option maxRecDepth 100000 in
set_option maxHeartbeats 1600000 in
theorem impl_doPasses (v vb : Value) (p : Pln) (xs : List Ltr) (k0 k1 : Nat) (w : World) (hv : rdP w w.heap.size v p) (hb : rd w w.heap.size vb xs)
    (h1 : 2 ≤ p.bins) (h2 : p.bins ≤ 16) (hk1 : k1 ≤ 4) (hk01 : k0 ≤ k1) (hord : p.order.length ≤ 1000) (hl : xs.length ≤ 500) :
    Calls Tryz.prog 93 #[v, vb, .int .i64 k0, .int .i64 k1] w fun e w' => ∃ vL vO, e = .returned (.tuple #[vL, vO]) ∧ own 89 w.heap.size w' vL (passesN p k0 (k1 - k0) xs) ∧ own 89 w.heap.size w' vO (outN p k0 (k1 - k0) xs) ∧ apart vL vO ∧ Below w.heap.size w w' := by
  obtain ⟨A0, c0, e0⟩ := openP hv
  obtain ⟨w0, hw0⟩ : ∃ w0, w0 = w.alloc (Obj.cells #[.int .i64 p.bins, .int .i64 p.passes, .slice A0 p.order.length c0] 25) := ⟨_, rfl⟩
  have q0 := box_cells hw0 0 (.int .i64 p.bins) rfl
  have q1 := box_cells hw0 1 (.int .i64 p.passes) rfl
  have q2 := box_cells hw0 2 (.slice A0 p.order.length c0) rfl
  have HT := Lib.hid (box_later hw0).1
  have HP := Lib.hid (hv.on HT.out)
  have HB := Lib.hid (hb.on HT.out)
  subst e0
  have HW0 := Lib.hid hw0; clear hw0 hv hb
  have l0 := Below.refl w0.heap.size w0
  obtain ⟨i1, ji, jz0, jz1, jz2⟩ := info_parts Tryz.infoLtr
  have hwlt : w.heap.size ≤ w0.heap.size := HT.out.size
  go_enter Tryz.func93, Tryz.ntmps93
  go_wp2_with fail
  rw [← HW0.out]
  refine (impl_copyLetters _ xs _ HB.out (by omega)).mono ?_
  rintro e w1 ⟨v1, rfl, o1, b1⟩
  have l1 := later_trans l0 b1
  have O1 := Lib.hid o1; clear o1 b1 l0
  go_wp2_with fail
  go_loopw [10, 11, 12] (fun t u i wr => ∃ j : Nat, j ≤ k1 - k0 ∧ i = .int .i64 ((k0 + j : Nat) : Int) ∧ Below w0.heap.size w0 wr ∧ own 89 w0.heap.size wr t (passesN p k0 j xs) ∧ own 89 w0.heap.size wr u (outN p k0 j xs) ∧ Hid (apart t u)) (fun _ _ i _ => k1 - (intOf i).toNat)
  case atStart => exact ⟨0, Nat.zero_le _, rfl, l1, O1.out, own.nil_ _ _ _, apart_symm (.inl rfl)⟩
  case round =>
    obtain ⟨j, hj, rfl, lr, hL, hO, HA⟩ := hrel
    obtain ⟨w2, rfl⟩ : ∃ w2 : World, w2 = wr := ⟨_, rfl⟩
    have HL := Lib.hid hL; have HO := Lib.hid hO
    obtain ⟨AO, mO, cO, rfl, hmO, _, _, _⟩ := hO.rd
    obtain ⟨AL, mL, cL, rfl, hmL, _, _, _⟩ := hL.rd
    subst hmO hmL
    clear hL hO l1 O1
    have HLL := Lib.hid (passesN_len p j k0 xs)
    have HOL := Lib.hid (outN_len p j k0 xs)
    have HS1 : Hid (passesN p k0 (j + 1) xs = (binsOf (fun x => binI p x.code (k0 + j)) p.bins.toNat (passesN p k0 j xs)).flatten) := passesN_succ p j k0 xs
    have HS2 : Hid (outN p k0 (j + 1) xs = outN p k0 j xs ++ restOf (fun x => binI p x.code (k0 + j)) (passesN p k0 j xs)) := outN_succ p j k0 xs
    generalize hys : passesN p k0 j xs = ys at *
    generalize hzs : outN p k0 j xs = zs at *
    have HYZ : Hid (passesN p k0 j xs = ys ∧ outN p k0 j xs = zs) := ⟨hys, hzs⟩
    clear hys hzs
    have hyl : ys.length ≤ 500 := by have := HLL.out; omega
    have hzl : zs.length ≤ 2000 := by
      have h := HOL.out
      have h3 : j * xs.length ≤ 4 * 500 := Nat.mul_le_mul (by omega) hl
      omega
    clear HLL HOL
    by_cases hlt : k0 + j < k1
    · have HPL := Lib.hid (fun W (hW : Below w0.heap.size w0 W) (hr : rd W W.heap.size (.slice AL ys.length cL) ys) => impl_placeLetters _ _ (.slice none 0 0) p ys (k0 + j) [] W (HP.out.on hW) hr rd.nil_ h1 h2 (by omega) hord (fun m hm => by simp at hm) (by omega))
      go_wp2_with fail
      refine (HPL.out _ lr HL.out.rd).mono ?_
      rintro e w3 ⟨vB, vO, vs, rfl, hB, hR, hF, b3⟩
      have hB' : isLL 29 89 w2.heap.size w3 vB (binsOf (fun x => binI p x.code (k0 + j)) p.bins.toNat ys) vs := hB
      have hR' : own 89 w2.heap.size w3 vO (restOf (fun x => binI p x.code (k0 + j)) ys) := hR
      have hfl : (binsOf (fun x => binI p x.code (k0 + j)) p.bins.toNat ys).flatten.length ≤ 1048576 := Nat.le_trans (flatten_length_binsOf ys) (by omega)
      have hrl : (restOf (fun x => binI p x.code (k0 + j)) ys).length ≤ 500 := Nat.le_trans (List.length_filter_le _ _) hyl
      generalize (binsOf (fun x => binI p x.code (k0 + j)) p.bins.toNat ys) = bs at *
      generalize (restOf (fun x => binI p x.code (k0 + j)) ys) = rs at *
      have l3 := later_trans lr b3
      have HB3 := Lib.hid (show rd w3 w3.heap.size vB bs from ownLL.rd ⟨vs, hB'⟩)
      have HR3 := Lib.hid hR'
      have HO3 := Lib.hid (HO.out.below b3)
      clear hB hB' hR hR' hF HL HA b3
      go_wp2_with fail
      refine (impl_joinBins _ bs _ HB3.out hfl).mono ?_
      rintro e w4 ⟨v4, rfl, o4, b4⟩
      have l4 := later_trans l3 b4
      have HA4 := Lib.hid (apart_gt o4 HO3.out (Nat.le_refl _))
      have O4 := Lib.hid (o4.base_ l3.size)
      have HR4 := Lib.hid (HR3.out.below b4)
      have HO4 := Lib.hid (HO3.out.below b4)
      clear o4 b4 HR3 HO3 HB3
      have hs4 : w0.heap.size ≤ w4.heap.size := l4.size
      obtain ⟨AR, mR, cR, hvr, hmR, _, _, _⟩ := HR4.out.rd
      subst hvr hmR
      go_wp2_with (at_builtin; refine wpList_appendAll (α := Ltr) rfl (.tmp 32) (.tmp 33) 29 rfl w0.heap.size 89 i1 _ 24 Tryz.underlying29 ji jz0 jz1 jz2 rfl (by decide) (.slice AO zs.length cO) zs rfl HO4.out (.slice AR rs.length cR) rs rfl w4.heap.size HR4.out.rd (by unfold maxLen; omega) (by omega) hs4 ?_; intro v5 w5 ho5 hg5 ha5)
      have l5 : Below w0.heap.size w0 w5 := l4.trans (below_append HO4.out hg5 hs4)
      have O5 := Lib.hid (O4.out.grown hg5 HA4.out)
      have HA5 : Hid (apart v4 v5) := by
        show apart _ _
        have h := HA4.out
        unfold apart at *
        rcases ha5 with e5 | e5
        · rw [e5]; exact h
        · cases hb4 : v4.ownBlock with
          | none => exact .inl rfl
          | some q =>
            refine .inr fun e => ?_
            rw [e5] at e
            injection e with e
            have := (O4.out.blk q hb4).2
            omega
      go_wp2
      go_roundw
      case rel => exact ⟨j + 1, by omega, by go_num, l5, by rw [HS1.out]; exact O5.out, by rw [HS2.out]; exact ho5, HA5⟩
      case measure => simp [intOf]; omega
    · have HE := Lib.hid (show k1 - k0 = j by omega)
      go_wp2
      go_ret2
      rw [HE.out]
      exact ⟨_, _, rfl, by rw [HYZ.out.1]; exact HL.out.base_ hwlt, by rw [HYZ.out.2]; exact HO.out.base_ hwlt, HA.out, later_trans HT.out lr⟩

/-- Whether bins are those of a batch. -/
def collectOk (xss : List (List Ltr)) : Bool := decide (xss.length ≤ 60) && okB xss.flatten
def collected (xss : List (List Ltr)) : List Ltr := if collectOk xss then xss.flatten else []
theorem collected_no {xss : List (List Ltr)} (h : collectOk xss = false) : collected xss = [] := by unfold collected; rw [h]; rfl
theorem collected_yes {xss : List (List Ltr)} (h : collectOk xss = true) : collected xss = xss.flatten := by unfold collected; rw [if_pos h]
theorem flatten_take_len {α : Type} (xss : List (List α)) (k : Nat) : (xss.take k).flatten.length ≤ xss.flatten.length := by
  conv => rhs; rw [← List.take_append_drop k xss, List.flatten_append, List.length_append]
  omega
theorem okB_long {xs : List Ltr} (h : 60 < xs.length) : okB xs = false := by unfold okB; rw [decide_eq_false (by omega)]; rfl

set_option maxRecDepth 100000 in
set_option maxHeartbeats 1600000 in
theorem impl_CollectBins (v : Value) (xss : List (List Ltr)) (w : World) (hv : rd w w.heap.size v xss) :
    Calls Tryz.prog 60 #[v] w fun e w' => ∃ vL, e = .returned (.tuple #[vL, .bool (collectOk xss)]) ∧ own 89 w.heap.size w' vL (collected xss) ∧ Below w.heap.size w w' := by
  obtain ⟨A, n, c, rfl, hn, hc, hm, hr⟩ := hv
  subst hn
  unfold maxLen at hm
  have HR := Lib.hid hr; clear hr
  have l0 := Below.refl w.heap.size w
  obtain ⟨i0, hi, hz0, hz1, hz2⟩ := info_parts Tryz.infoLtr
  have HQ : Hid (collectOk xss = (decide (xss.length ≤ 60) && okB xss.flatten)) := rfl
  have HNO : Hid (∀ h : collectOk xss = false, ∀ W : World, own 89 w.heap.size W (.slice none 0 0) (collected xss)) := fun h W => by rw [collected_no h]; exact own.nil_ _ _ _
  go_enter Tryz.func60, Tryz.ntmps60
  by_cases h60 : (60 : Int) < (xss.length : Int)
  · have HF : Hid (collectOk xss = false) := by show _ = _; rw [HQ.out, decide_eq_false (by omega)]; rfl
    go_wp2
    go_ret2
    exact ⟨_, ret_tup (by rw [HF.out] <;> rfl), HNO.out HF.out _, l0⟩
  have H60 := Lib.hid (show xss.length ≤ 60 by omega)
  go_wp2
  go_loopw [4, 12] (fun t i wr => ∃ k : Nat, k ≤ xss.length ∧ i = .int .i64 k ∧ Below w.heap.size w wr ∧ own 89 w.heap.size wr t (xss.take k).flatten ∧ (xss.take k).flatten.length ≤ 60) (fun _ i _ => xss.length - (intOf i).toNat)
  case atStart => exact ⟨0, Nat.zero_le _, rfl, l0, own.nil_ _ _ _, by simp⟩
  case round =>
    obtain ⟨k, hk, rfl, lr, ho, hf60⟩ := hrel
    obtain ⟨w1, rfl⟩ : ∃ w1 : World, w1 = wr := ⟨_, rfl⟩
    clear l0
    by_cases hlt : k < xss.length
    · obtain ⟨b, o, u, rfl, hb, hu, c1⟩ := HR.out.rowU k hlt
      have HS : Hid ((xss.take (k + 1)).flatten = (xss.take k).flatten ++ xss[k]) := by show _ = _; rw [List.take_succ_eq_append_getElem hlt, List.flatten_append]; simp
      have HTL := Lib.hid (flatten_take_len xss (k + 1))
      generalize xss[k] = ys at *
      obtain ⟨A2, m2, c2, rfl, hm2, hc2, hmm2, hr2⟩ := hu
      have hu : rd w w.heap.size (.slice A2 m2 c2) ys := ⟨A2, m2, c2, rfl, hm2, hc2, hmm2, hr2⟩
      subst hm2
      clear hr2
      unfold maxLen at hmm2
      have HU := Lib.hid hu; clear hu
      generalize hys : (xss.take k).flatten = zs at *
      have HYS := Lib.hid hys; clear hys
      have ho' := Lib.hid ho
      obtain ⟨A3, m3, c3, rfl, hm3, _, _, _⟩ := ho.rd
      subst hm3
      clear ho
      by_cases hbig : (60 : Int) - (zs.length : Int) < (ys.length : Int)
      · have HF : Hid (collectOk xss = false) := by
          show _ = _
          rw [HQ.out, okB_long (by have h1 := HTL.out; have h2 := congrArg List.length HS.out; rw [List.length_append] at h2; omega)]
          simp
        go_wp2
        go_ret2
        exact ⟨_, ret_tup (by rw [HF.out] <;> rfl), HNO.out HF.out _, lr⟩
      · go_wp2_with (at_builtin; refine wpList_appendAll (α := Ltr) rfl (.tmp 22) (.tmp 23) 29 rfl w.heap.size 89 i0 _ 24 Tryz.underlying29 hi hz0 hz1 hz2 rfl (by decide) (.slice A3 zs.length c3) zs rfl ho'.out (.slice A2 ys.length c2) ys rfl w1.heap.size (HU.out.on lr) (by unfold maxLen; omega) (by omega) lr.size ?_; intro v' w2 ho2 hg2 _)
        have l2 : Below w.heap.size w w2 := lr.trans (below_append ho'.out hg2 lr.size)
        have HLE : Hid ((zs ++ ys).length ≤ 60) := by show _ ≤ _; rw [List.length_append]; omega
        go_wp2
        go_roundw
        case rel => exact ⟨k + 1, by omega, by go_num, l2, by rw [HS.out]; exact ho2, by rw [HS.out]; exact HLE.out⟩
        case measure => simp [intOf]; omega
    · have HE := Lib.hid (show k = xss.length by omega)
      rw [HE.out, List.take_length] at ho
      clear hf60
      obtain ⟨fl, hfl⟩ : ∃ fl, xss.flatten = fl := ⟨_, rfl⟩
      rw [hfl] at ho
      have HFL := Lib.hid hfl; clear hfl
      have HO := Lib.hid ho
      obtain ⟨A3, m3, c3, rfl, hm3, _, _, _⟩ := ho.rd
      subst hm3
      clear ho
      go_wp2_with fail
      refine (impl_BatchValid _ fl _ HO.out.rd).mono ?_
      rintro e w2 ⟨rfl, b2⟩
      have l2 := later_trans lr b2
      have HO2 := Lib.hid (HO.out.below b2)
      cases hx : okB fl
      · have HF : Hid (collectOk xss = false) := by show _ = _; rw [HQ.out, HFL.out, hx]; simp
        clear hx
        go_wp2_with fail
        go_ret2
        exact ⟨_, ret_tup (by rw [HF.out] <;> rfl), HNO.out HF.out _, l2⟩
      · have HF : Hid (collectOk xss = true) := by show _ = _; rw [HQ.out, HFL.out, hx, decide_eq_true H60.out]; rfl
        clear hx
        go_wp2_with fail
        go_ret2
        exact ⟨_, ret_tup (by rw [HF.out] <;> rfl), by rw [collected_yes HF.out, HFL.out]; exact HO2.out, l2⟩

end Go.Proofs.YtpinkbodbedajaaGreatDoor

namespace Go.Proofs.YtpinkbodbedajaaGreatDoor
open Go.RowKit

def rpOk (p : Pln) (xs : List Ltr) : Bool := planOk p && okB xs
def rpRound (p : Pln) (xs : List Ltr) : List Ltr := if rpOk p xs then passesN p 0 p.passes.toNat xs else []
def rpRest (p : Pln) (xs : List Ltr) : List Ltr := if rpOk p xs then restOf (fun x => binI p x.code 0) xs else []
theorem isLL_nil {α : Type} [El α] (T1 T2 base : Nat) (w : World) : isLL (α := α) T1 T2 base w (.slice none 0 0) [] [] :=
  ⟨own.nil_ _ _ _, rfl, fun k h => absurd h (Nat.not_lt_zero k), fun j k h => absurd h (Nat.not_lt_zero j), fun k h => absurd h (Nat.not_lt_zero k)⟩
theorem okB_len' {xs : List Ltr} (h : okB xs = true) : xs.length ≤ 60 := (okB_iff.1 h).1


set_option maxRecDepth 100000 in
set_option maxHeartbeats 800000 in
theorem impl_RunPlan (v vb : Value) (p : Pln) (xs : List Ltr) (w : World) (hv : rdP w w.heap.size v p) (hb : rd w w.heap.size vb xs) :
    Calls Tryz.prog 34 #[v, vb] w fun e w' => ∃ vL vO, e = .returned (.tuple #[vL, vO, .bool (rpOk p xs)]) ∧ own 89 w.heap.size w' vL (rpRound p xs) ∧ own 89 w.heap.size w' vO (rpRest p xs) ∧ apart vL vO ∧ Below w.heap.size w w' := by
  obtain ⟨A0, c0, e0⟩ := openP hv
  obtain ⟨w0, hw0⟩ : ∃ w0, w0 = w.alloc (Obj.cells #[.int .i64 p.bins, .int .i64 p.passes, .slice A0 p.order.length c0] 25) := ⟨_, rfl⟩
  have q0 := box_cells hw0 0 (.int .i64 p.bins) rfl
  have q1 := box_cells hw0 1 (.int .i64 p.passes) rfl
  have q2 := box_cells hw0 2 (.slice A0 p.order.length c0) rfl
  have HT := Lib.hid (box_later hw0).1
  have HP := Lib.hid (hv.on HT.out)
  have HB := Lib.hid (hb.on HT.out)
  subst e0
  have HW0 := Lib.hid hw0; clear hw0 hv hb
  have l0 := Below.refl w0.heap.size w0
  have hwlt : w.heap.size ≤ w0.heap.size := HT.out.size
  have HNO : Hid (∀ h : rpOk p xs = false, ∀ W : World, own 89 w.heap.size W (.slice none 0 0) (rpRound p xs) ∧ own 89 w.heap.size W (.slice none 0 0) (rpRest p xs)) := fun h W => by
    unfold rpRound rpRest; rw [h]; exact ⟨own.nil_ _ _ _, own.nil_ _ _ _⟩
  have HQ : Hid (rpOk p xs = (planOk p && okB xs)) := rfl
  go_enter Tryz.func34, Tryz.ntmps34
  go_wp2_with fail
  rw [← HW0.out]
  refine (impl_PlanValid _ p _ HP.out).mono ?_
  rintro e w1 ⟨rfl, b1⟩
  have l1 := later_trans l0 b1
  cases h1 : planOk p
  · have HF : Hid (rpOk p xs = false) := by show _ = _; rw [HQ.out, h1]; rfl
    clear h1
    go_wp2_with fail
    go_ret3
    exact ⟨_, _, ret_tup (by rw [HF.out] <;> rfl), (HNO.out HF.out _).1, (HNO.out HF.out _).2, .inl rfl, later_trans HT.out l1⟩
  obtain ⟨g1, g2, g3, g4, g5⟩ := planOk_bins h1
  have H1 := Lib.hid h1; clear h1
  go_wp2_with fail
  refine (impl_BatchValid _ xs _ (HB.out.on l1)).mono ?_
  rintro e w2 ⟨rfl, b2⟩
  have l2 := later_trans l1 b2
  cases h2 : okB xs
  · have HF : Hid (rpOk p xs = false) := by show _ = _; rw [HQ.out, h2, Bool.and_false]
    clear h2
    go_wp2_with fail
    go_ret3
    exact ⟨_, _, ret_tup (by rw [HF.out] <;> rfl), (HNO.out HF.out _).1, (HNO.out HF.out _).2, .inl rfl, later_trans HT.out l2⟩
  have hxl := okB_len' h2
  have HF : Hid (rpOk p xs = true) := by show _ = _; rw [HQ.out, h2, H1.out]; rfl
  clear h2
  obtain ⟨M, hM⟩ := Int.eq_ofNat_of_zero_le (show 0 ≤ p.passes by omega)
  have HMM := Lib.hid hM; clear hM
  have hm1 : 1 ≤ M ∧ M ≤ 4 := by have := HMM.out; omega
  have HY : Hid (rpRound p xs = passesN p 0 M xs ∧ rpRest p xs = outN p 0 M xs) := by
    unfold rpRound rpRest; rw [HF.out, HMM.out, Int.toNat_natCast]
    refine ⟨rfl, ?_⟩
    obtain ⟨M', rfl⟩ : ∃ M', M = M' + 1 := ⟨M - 1, by omega⟩
    rw [outN_first g1]; rfl
  have HD := Lib.hid (fun W (hW : Below w0.heap.size w0 W) => impl_doPasses _ _ p xs 0 M W (HP.out.on hW) (HB.out.on hW) g1 g2 hm1.2 (Nat.zero_le _) (by omega) (by omega))
  have HD2 : Hid (∀ W, Below w0.heap.size w0 W → Calls Tryz.prog 93 #[.agg #[.int .i64 p.bins, .int .i64 p.passes, .slice A0 p.order.length c0], vb, .int .i64 0, .int .i64 p.passes] W fun e w' => ∃ vL vO, e = .returned (.tuple #[vL, vO]) ∧ own 89 W.heap.size w' vL (passesN p 0 M xs) ∧ own 89 W.heap.size w' vO (outN p 0 M xs) ∧ apart vL vO ∧ Below W.heap.size W w') := fun W hW => by
    have h := HD.out W hW
    rw [← HMM.out] at h
    exact h
  clear HD
  go_wp2_with fail
  refine (HD2.out _ l2).mono ?_
  rintro e w3 ⟨vL, vO, rfl, hL, hO, hA, b3⟩
  have l3 := later_trans l2 b3
  have HL := Lib.hid hL; have HO := Lib.hid hO; have HA := Lib.hid hA
  clear hL hO hA
  go_wp2_with fail
  go_ret3
  exact ⟨_, _, ret_tup (by rw [HF.out] <;> rfl), by rw [HY.out.1]; exact HL.out.base_ (Nat.le_trans hwlt l2.size), by rw [HY.out.2]; exact HO.out.base_ (Nat.le_trans hwlt l2.size), HA.out, later_trans HT.out l3⟩


end Go.Proofs.YtpinkbodbedajaaGreatDoor

namespace Go.Proofs.YtpinkbodbedajaaGreatDoor
open Go.RowKit


end Go.Proofs.YtpinkbodbedajaaGreatDoor

namespace Go.Proofs.YtpinkbodbedajaaGreatDoor
open Go.RowKit

/-- How many letters can stay: all ranks in their order. -/
def ranksOf (p : Pln) (xs : List Ltr) : List Int := xs.map fun x => rkI p.order x.code
end Go.Proofs.YtpinkbodbedajaaGreatDoor

namespace Go.Proofs.YtpinkbodbedajaaGreatDoor
open Go.RowKit


end Go.Proofs.YtpinkbodbedajaaGreatDoor

namespace Go.Proofs.YtpinkbodbedajaaGreatDoor
open Go.RowKit


end Go.Proofs.YtpinkbodbedajaaGreatDoor

namespace Go.Proofs.YtpinkbodbedajaaGreatDoor
open Go.RowKit

/-! ### The missort of a letter: the first one is the last one. -/
/-! ### Valid batches -/
theorem okB_pw {xs : List Ltr} : okB xs = true ↔ xs.length ≤ 60 ∧ (∀ x ∈ xs, 1 ≤ x.id ∧ x.id ≤ 9999 ∧ isCode x.code = true) ∧ xs.Pairwise fun x y => x.id ≠ y.id := by
  rw [okB_iff, List.pairwise_iff_getElem]
  constructor
  · rintro ⟨h1, h2⟩
    refine ⟨h1, fun x hx => ?_, fun i j hi hj hij => (h2 j hj).2.2.2 i hij⟩
    obtain ⟨k, hk, rfl⟩ := List.getElem_of_mem hx
    exact ⟨(h2 k hk).1, (h2 k hk).2.1, (h2 k hk).2.2.1⟩
  · rintro ⟨h1, h2, h3⟩
    exact ⟨h1, fun k hk => ⟨(h2 _ (List.getElem_mem hk)).1, (h2 _ (List.getElem_mem hk)).2.1, (h2 _ (List.getElem_mem hk)).2.2, fun j hj => h3 j k (by omega) hk hj⟩⟩
theorem pw_inj {xs : List Ltr} (h : xs.Pairwise fun x y => x.id ≠ y.id) : ∀ x ∈ xs, ∀ y ∈ xs, x.id = y.id → x = y := by
  intro x hx y hy e
  obtain ⟨i, hi, rfl⟩ := List.getElem_of_mem hx
  obtain ⟨j, hj, rfl⟩ := List.getElem_of_mem hy
  rw [List.pairwise_iff_getElem] at h
  rcases Nat.lt_trichotomy i j with h1 | h1 | h1
  · exact absurd e (h i j hi hj h1)
  · subst h1; rfl
  · exact absurd e.symm (h j i hj hi h1)
/-- Rows that a function on letters tells apart. -/
theorem okB_rows {xs : List Ltr} {xss : List (List Ltr)} (f : Ltr → Int) (h : okB xs = true) (hl : xss.flatten.length ≤ xs.length) (hm : ∀ ys ∈ xss, ∀ x ∈ ys, x ∈ xs) (hp : ∀ ys ∈ xss, ys.Pairwise fun x y => x.id ≠ y.id)
    (hf : ∀ k (hk : k < xss.length), ∀ x ∈ xss[k], f x = (k : Int)) : okB xss.flatten = true := by
  obtain ⟨h1, h2, h3⟩ := okB_pw.1 h
  refine okB_pw.2 ⟨by omega, fun x hx => ?_, ?_⟩
  · obtain ⟨ys, hys, hxy⟩ := List.mem_flatten.1 hx
    exact h2 x (hm ys hys x hxy)
  · rw [List.pairwise_flatten]
    refine ⟨hp, ?_⟩
    rw [List.pairwise_iff_getElem]
    intro i j hi hj hij x hx y hy e
    have := pw_inj h3 x (hm _ (List.getElem_mem hi) x hx) y (hm _ (List.getElem_mem hj) y hy) e
    subst this
    have h4 := hf i hi x hx
    have h5 := hf j hj x hy
    omega
theorem okB_binsOf {xs : List Ltr} (f : Ltr → Int) (n : Nat) (h : okB xs = true) : okB (binsOf f n xs).flatten = true := by
  refine okB_rows f h (flatten_length_binsOf xs) (fun ys hys x hx => ?_) (fun ys hys => ?_) (fun k hk x hx => ?_)
  · obtain ⟨k, hk, rfl⟩ := List.getElem_of_mem hys
    rw [binsOf_get] at hx
    exact (List.mem_filter.1 hx).1
  · obtain ⟨k, hk, rfl⟩ := List.getElem_of_mem hys
    rw [binsOf_get]
    exact (okB_pw.1 h).2.2.filter _
  · rw [binsOf_get] at hx
    simpa using (List.mem_filter.1 hx).2
theorem okB_passesN (p : Pln) : ∀ (n k : Nat) (xs : List Ltr), okB xs = true → okB (passesN p k n xs) = true
  | 0, _, _, h => h
  | n + 1, k, xs, h => okB_passesN p n (k + 1) _ (okB_binsOf _ _ h)

/-! ### Repaired bins -/
/-! ### What the functions give -/
end Go.Proofs.YtpinkbodbedajaaGreatDoor

namespace Go.Proofs.YtpinkbodbedajaaGreatDoor
open Go.RowKit

/-- An ordered choice of ranks: none is below zero, and they ascend. -/
def ordered (s : List Int) : Prop := (∀ x ∈ s, 0 ≤ x) ∧ s.Pairwise (· ≤ ·)
theorem ordered.nil : ordered [] := ⟨fun x hx => by simp at hx, List.Pairwise.nil⟩
theorem ordered.snoc {s : List Int} {r : Int} (h : ordered s) (h0 : 0 ≤ r) (hr : ∀ x ∈ s, x ≤ r) : ordered (s ++ [r]) := by
  refine ⟨fun x hx => ?_, ?_⟩
  · rcases List.mem_append.1 hx with hx | hx
    · exact h.1 x hx
    · rw [List.mem_singleton.1 hx]; exact h0
  · rw [List.pairwise_append]
    exact ⟨h.2, List.pairwise_singleton _ _, fun a ha b hb => by rw [List.mem_singleton.1 hb]; exact hr a ha⟩
/-! ### Passes sort -/
theorem pass1_mem {p : Pln} (hb : 2 ≤ p.bins) {k : Nat} {xs : List Ltr} {x : Ltr} : x ∈ pass1 p k xs ↔ x ∈ xs ∧ 0 ≤ rkI p.order x.code := by
  unfold pass1
  rw [binsOf_mem]
  have h1 := binI_rank (p := p) (c := x.code) (k := k) hb
  have h2 := binI_range p x.code k hb
  constructor
  · rintro ⟨a, b, c⟩; exact ⟨a, by omega⟩
  · rintro ⟨a, b⟩; exact ⟨a, by omega, by omega⟩
theorem passesN_mem {p : Pln} (hb : 2 ≤ p.bins) : ∀ (n k : Nat) (xs : List Ltr) (x : Ltr), x ∈ passesN p k (n + 1) xs ↔ x ∈ xs ∧ 0 ≤ rkI p.order x.code
  | 0, k, xs, x => pass1_mem hb
  | n + 1, k, xs, x => by
    show x ∈ passesN p (k + 1) (n + 1) (pass1 p k xs) ↔ _
    rw [passesN_mem hb n, pass1_mem hb]
    exact ⟨fun h => h.1, fun h => ⟨h, h.2⟩⟩
/-- Letters are in the order of the round: each has a rank, and the ranks ascend. -/
def inOrd (p : Pln) (xs : List Ltr) : Prop := ordered (ranksOf p xs)
/-! ### The same letters -/
/-! ### Passes in two parts -/
/-! ### Repaired bins: laws -/
/-! ### Faulty passes: laws -/
theorem rp_mem {p : Pln} {xs : List Ltr} (h : rpOk p xs = true) (x : Ltr) : x ∈ rpRound p xs ↔ x ∈ xs ∧ 0 ≤ rkI p.order x.code := by
  have hp : planOk p = true := by unfold rpOk at h; simp only [Bool.and_eq_true] at h; exact h.1
  have hb := planOk_bins hp
  unfold rpRound
  rw [if_pos h]
  obtain ⟨n, hn⟩ : ∃ n, p.passes.toNat = n + 1 := ⟨p.passes.toNat - 1, by omega⟩
  rw [hn]
  exact passesN_mem hb.1 n 0 xs x
theorem okB_rp {p : Pln} {xs : List Ltr} (h : rpOk p xs = true) : okB (rpRound p xs) = true := by
  unfold rpRound
  rw [if_pos h]
  unfold rpOk at h
  simp only [Bool.and_eq_true] at h
  exact okB_passesN p _ _ _ h.2
/-! ### The last pass -/
/-! ### FnMissortsValid -/
/-! ### FnFaultyPass -/
/-! ### FnWrong -/
/-! ### FnKept, FnKeptMany -/
theorem okB_sub {xs ys : List Ltr} (h : okB xs = true) (hs : ys.Sublist xs) : okB ys = true := by
  obtain ⟨h1, h2, h3⟩ := okB_pw.1 h
  have := hs.length_le
  exact okB_pw.2 ⟨by omega, fun x hx => h2 x (hs.subset hx), h3.sublist hs⟩
end Go.Proofs.YtpinkbodbedajaaGreatDoor

namespace Go.Proofs.YtpinkbodbedajaaGreatDoor
open Go.RowKit

theorem so_batch (v v' : Value) (xs : List Ltr) (w : World) (hv : rd w w.heap.size v xs) (hv' : rd w w.heap.size v' xs) :
    Calls Tryz.prog 36 #[v, v'] w fun e w' => e = .returned (.bool true) ∧ Below w.heap.size w w' := by
  refine (laws_soBatch _ _ _ _ _ hv hv').mono ?_
  rw [(eqBy_iff ltrEq_iff).2 rfl]
  exact fun e w' h => h







/-- The first k letters are in order; last is the rank of the last one. -/
structure ordTo (p : Pln) (xs : List Ltr) (k : Nat) (last : Int) : Prop where
  ord : inOrd p (xs.take k)
  le : ∀ x ∈ xs.take k, rkI p.order x.code ≤ last
  nn : 0 ≤ last
  at_ : last = 0 ∨ ∃ x ∈ xs.take k, rkI p.order x.code = last
theorem ordTo.zero (p : Pln) (xs : List Ltr) : ordTo p xs 0 0 := ⟨by unfold inOrd ordered ranksOf; simp, by simp, Int.le_refl _, .inl rfl⟩
theorem ordTo.succ {p : Pln} {xs : List Ltr} {k : Nat} {last : Int} (h : ordTo p xs k last) (hk : k < xs.length) (hr : last ≤ rkI p.order xs[k].code) : ordTo p xs (k + 1) (rkI p.order xs[k].code) := by
  obtain ⟨h1, h2, h3, _⟩ := h
  have e := List.take_succ_eq_append_getElem hk
  refine ⟨?_, fun x hx => ?_, by omega, .inr ⟨xs[k], by rw [e]; exact List.mem_append_right _ (List.mem_singleton.2 rfl), rfl⟩⟩
  · unfold inOrd ranksOf at *
    rw [e, List.map_append]
    refine ordered.snoc (r := rkI p.order xs[k].code) h1 (by omega) fun r hr' => ?_
    obtain ⟨x, hx, rfl⟩ := List.mem_map.1 hr'
    have := h2 x hx
    show rkI p.order x.code ≤ _
    omega
  · rw [e] at hx
    rcases List.mem_append.1 hx with hx | hx
    · have := h2 x hx; omega
    · rw [List.mem_singleton.1 hx]; omega

end Go.Proofs.YtpinkbodbedajaaGreatDoor

namespace Go.Proofs.YtpinkbodbedajaaGreatDoor
open Go.RowKit




theorem Tryz.infoStr : (Tryz.prog.info? 9).map (fun i => (i.zero, i.size, i.bytes)) = some (some (.string ⟨#[]⟩), 1, 16) := by kernel_rfl





end Go.Proofs.YtpinkbodbedajaaGreatDoor

namespace Go.Proofs.YtpinkbodbedajaaGreatDoor
open Go.RowKit

/-! plans -/


end Go.Proofs.YtpinkbodbedajaaGreatDoor

namespace Go.Proofs.YtpinkbodbedajaaGreatDoor
open Go.RowKit



end Go.Proofs.YtpinkbodbedajaaGreatDoor

namespace Go.Proofs.YtpinkbodbedajaaGreatDoor
open Go.RowKit


/-! Frames of what marks: only blocks from lo on, before hi, turn. -/
structure OutI (lo hi : Nat) (w w' : World) : Prop where
  os : w'.os = w.os
  tape : w'.tape = w.tape
  output : w'.output = w.output
  size : w.heap.size ≤ w'.heap.size
  block : ∀ k, k < w.heap.size → k < lo ∨ hi ≤ k → w'.heap[k]? = w.heap[k]?
theorem OutI.refl (lo hi : Nat) (w : World) : OutI lo hi w w := ⟨rfl, rfl, rfl, Nat.le_refl _, fun _ _ _ => rfl⟩
theorem OutI.trans {lo hi : Nat} {a b c : World} (h : OutI lo hi a b) (k : OutI lo hi b c) : OutI lo hi a c :=
  ⟨k.os.trans h.os, k.tape.trans h.tape, k.output.trans h.output, Nat.le_trans h.size k.size, fun i hi hne => (k.block i (Nat.lt_of_lt_of_le hi h.size) hne).trans (h.block i hi hne)⟩
theorem OutI.of_below {lo hi : Nat} {w w' : World} (h : Below w.heap.size w w') : OutI lo hi w w' := ⟨h.os, h.tape, h.output, h.size, fun k hk _ => h.block k hk⟩
theorem OutI.later {lo hi : Nat} {a w w' : World} (h : OutI lo hi w w') (hb : Below a.heap.size a w) (hlo : a.heap.size ≤ lo) : Below a.heap.size a w' :=
  ⟨h.os.trans hb.os, h.tape.trans hb.tape, h.output.trans hb.output, Nat.le_trans hb.size h.size, fun k hk => (h.block k (Nat.lt_of_lt_of_le hk hb.size) (.inl (by omega))).trans (hb.block k hk)⟩
theorem own.keepBlk {α : Type} [Flat α] {T base : Nat} {w w' : World} {v : Value} {xs : List α} (h : own T base w v xs) (hk : ∀ k, v.ownBlock = some k → w'.heap[k]? = w.heap[k]?) : own T base w' v xs := by
  obtain ⟨css, ⟨h1, h2⟩, hl, he⟩ := h
  refine ⟨css, ⟨h1, ?_⟩, hl, fun k a b => Flat.free (he k a b)⟩
  rcases h2 with h2 | ⟨g, cap, cur, hv, hg, hh, r⟩
  · exact .inl h2
  · exact .inr ⟨g, cap, cur, hv, hg, by rw [hk g (by rw [hv]; rfl)]; exact hh, r⟩
/-- A row of the call's own, in blocks before hi. -/
def seg {α : Type} [El α] (T lo hi : Nat) (w : World) (v : Value) (xs : List α) : Prop := own T lo w v xs ∧ ∀ k, v.ownBlock = some k → k < hi
theorem seg.of {α : Type} [El α] {T lo : Nat} {w : World} {v : Value} {xs : List α} (h : own T lo w v xs) : seg T lo w.heap.size w v xs := ⟨h, fun k hk => (h.blk k hk).2⟩
theorem seg.below {α : Type} [El α] {T lo hi : Nat} {w w' : World} {v : Value} {xs : List α} (h : seg T lo hi w v xs) (hb : Below w.heap.size w w') : seg T lo hi w' v xs := ⟨h.1.below hb, h.2⟩
theorem seg.out {α : Type} [Flat α] {T lo hi a b : Nat} {w w' : World} {v : Value} {xs : List α} (h : seg T lo hi w v xs) (ho : OutI a b w w') (hd : hi ≤ a ∨ b ≤ lo) : seg T lo hi w' v xs :=
  ⟨h.1.keepBlk fun k hk => ho.block k (h.1.blk k hk).2 (by have h1 := (h.1.blk k hk).1; have h2 := h.2 k hk; omega), h.2⟩
theorem seg.rd {α : Type} [El α] {T lo hi : Nat} {w : World} {v : Value} {xs : List α} (h : seg T lo hi w v xs) : rd w w.heap.size v xs := h.1.rd
def segP (T lo hi : Nat) (w : World) (v : Value) (p : Pln) : Prop := ∃ vo, v = .agg #[.int .i64 p.bins, .int .i64 p.passes, vo] ∧ isI64 p.bins ∧ isI64 p.passes ∧ seg T lo hi w vo p.order
theorem segP.of {T lo : Nat} {w : World} {v : Value} {p : Pln} (h : ownP T lo w v p) : segP T lo w.heap.size w v p := by
  obtain ⟨vo, h1, h2, h3, h4⟩ := h
  exact ⟨vo, h1, h2, h3, seg.of h4⟩
theorem segP.below {T lo hi : Nat} {w w' : World} {v : Value} {p : Pln} (h : segP T lo hi w v p) (hb : Below w.heap.size w w') : segP T lo hi w' v p := by
  obtain ⟨vo, h1, h2, h3, h4⟩ := h
  exact ⟨vo, h1, h2, h3, h4.below hb⟩
theorem segP.out {T lo hi a b : Nat} {w w' : World} {v : Value} {p : Pln} (h : segP T lo hi w v p) (ho : OutI a b w w') (hd : hi ≤ a ∨ b ≤ lo) : segP T lo hi w' v p := by
  obtain ⟨vo, h1, h2, h3, h4⟩ := h
  exact ⟨vo, h1, h2, h3, h4.out ho hd⟩
theorem segP.rd {T lo hi : Nat} {w : World} {v : Value} {p : Pln} (h : segP T lo hi w v p) : rdP w w.heap.size v p := by
  obtain ⟨vo, h1, h2, h3, h4⟩ := h
  exact ⟨vo, h1, h2, h3, h4.rd⟩



end Go.Proofs.YtpinkbodbedajaaGreatDoor

namespace Go.Proofs.YtpinkbodbedajaaGreatDoor
open Go.RowKit

/-! ### Forwarding -/
def sentL (fs : List Fwd) (xs : List Ltr) : List Ltr := (xs.filter fun x => (follow fs x.code).2.2).map fun x => ⟨x.id, (follow fs x.code).1⟩
def stuckL (fs : List Fwd) (xs : List Ltr) : List Ltr := xs.filter fun x => !(follow fs x.code).2.2
theorem sentL_hit {fs : List Fwd} {xs : List Ltr} {k : Nat} (h : k < xs.length) (hf : (follow fs xs[k].code).2.2 = true) : sentL fs (xs.take (k + 1)) = sentL fs (xs.take k) ++ [⟨xs[k].id, (follow fs xs[k].code).1⟩] := by
  unfold sentL; rw [List.take_succ_eq_append_getElem h, List.filter_append, List.map_append]; simp [hf]
theorem sentL_miss {fs : List Fwd} {xs : List Ltr} {k : Nat} (h : k < xs.length) (hf : (follow fs xs[k].code).2.2 = false) : sentL fs (xs.take (k + 1)) = sentL fs (xs.take k) := by
  unfold sentL; rw [List.take_succ_eq_append_getElem h, List.filter_append, List.map_append]; simp [hf]
theorem stuckL_hit {fs : List Fwd} {xs : List Ltr} {k : Nat} (h : k < xs.length) (hf : (follow fs xs[k].code).2.2 = true) : stuckL fs (xs.take (k + 1)) = stuckL fs (xs.take k) := by
  unfold stuckL; rw [List.take_succ_eq_append_getElem h, List.filter_append]; simp [hf]
theorem stuckL_miss {fs : List Fwd} {xs : List Ltr} {k : Nat} (h : k < xs.length) (hf : (follow fs xs[k].code).2.2 = false) : stuckL fs (xs.take (k + 1)) = stuckL fs (xs.take k) ++ [xs[k]] := by
  unfold stuckL; rw [List.take_succ_eq_append_getElem h, List.filter_append]; simp [hf]
theorem sentL_len (fs : List Fwd) (xs : List Ltr) : (sentL fs xs).length ≤ xs.length := by
  unfold sentL; rw [List.length_map]; exact List.length_filter_le _ _
theorem stuckL_len (fs : List Fwd) (xs : List Ltr) : (stuckL fs xs).length ≤ xs.length := List.length_filter_le _ _
theorem take_len_le {α : Type} (xs : List α) (k : Nat) : (xs.take k).length ≤ k := by rw [List.length_take]; omega
def fwOk (fs : List Fwd) (xs : List Ltr) : Bool := fwdsOk fs && okB xs
def fwSent (fs : List Fwd) (xs : List Ltr) : List Ltr := if fwOk fs xs then sentL fs xs else []
def fwStuck (fs : List Fwd) (xs : List Ltr) : List Ltr := if fwOk fs xs then stuckL fs xs else []
/-! ### Holding -/
def freeL (hs : List ByteArray) (xs : List Ltr) : List Ltr := xs.filter fun x => decide (rkI hs x.code < 0)
def heldL (hs : List ByteArray) (xs : List Ltr) : List Ltr := xs.filter fun x => !decide (rkI hs x.code < 0)
theorem freeL_hit {hs : List ByteArray} {xs : List Ltr} {k : Nat} (h : k < xs.length) (hf : rkI hs xs[k].code < 0) : freeL hs (xs.take (k + 1)) = freeL hs (xs.take k) ++ [xs[k]] := by
  unfold freeL; rw [List.take_succ_eq_append_getElem h, List.filter_append]; simp [hf]
theorem freeL_miss {hs : List ByteArray} {xs : List Ltr} {k : Nat} (h : k < xs.length) (hf : ¬ rkI hs xs[k].code < 0) : freeL hs (xs.take (k + 1)) = freeL hs (xs.take k) := by
  unfold freeL; rw [List.take_succ_eq_append_getElem h, List.filter_append]; simp [hf]
theorem heldL_hit {hs : List ByteArray} {xs : List Ltr} {k : Nat} (h : k < xs.length) (hf : rkI hs xs[k].code < 0) : heldL hs (xs.take (k + 1)) = heldL hs (xs.take k) := by
  unfold heldL; rw [List.take_succ_eq_append_getElem h, List.filter_append]; simp [hf]
theorem heldL_miss {hs : List ByteArray} {xs : List Ltr} {k : Nat} (h : k < xs.length) (hf : ¬ rkI hs xs[k].code < 0) : heldL hs (xs.take (k + 1)) = heldL hs (xs.take k) ++ [xs[k]] := by
  unfold heldL; rw [List.take_succ_eq_append_getElem h, List.filter_append]; simp [hf]
theorem freeL_len (hs : List ByteArray) (xs : List Ltr) : (freeL hs xs).length ≤ xs.length := List.length_filter_le _ _
theorem heldL_len (hs : List ByteArray) (xs : List Ltr) : (heldL hs xs).length ≤ xs.length := List.length_filter_le _ _
def hbOk (hs : List ByteArray) (xs : List Ltr) : Bool := okB xs && heldOk hs
def hbFree (hs : List ByteArray) (xs : List Ltr) : List Ltr := if hbOk hs xs then freeL hs xs else []
def hbHeld (hs : List ByteArray) (xs : List Ltr) : List Ltr := if hbOk hs xs then heldL hs xs else []
/-! ### The report -/
structure Rpt where
  round : List Ltr
  strange : List Ltr
  held : List Ltr
  stuck : List Ltr
def dayRpt (d : Dy) (xs : List Ltr) : Rpt :=
  ⟨rpRound d.plan (hbFree d.held (fwSent d.fwds xs)), rpRest d.plan (hbFree d.held (fwSent d.fwds xs)), hbHeld d.held (fwSent d.fwds xs), fwStuck d.fwds xs⟩
def rdOk (d : Dy) (xs : List Ltr) : Bool := dayOk d && okB xs
def rptOf (d : Dy) (xs : List Ltr) : Rpt := if rdOk d xs then dayRpt d xs else ⟨[], [], [], []⟩
def rdR (w : World) (B : Nat) (v : Value) (r : Rpt) : Prop :=
  ∃ v0 v1 v2 v3, v = .agg #[v0, v1, v2, v3] ∧ rd w B v0 r.round ∧ rd w B v1 r.strange ∧ rd w B v2 r.held ∧ rd w B v3 r.stuck
theorem rdR.below {w w' : World} {B : Nat} {v : Value} {r : Rpt} (h : rdR w B v r) (hb : Below B w w') : rdR w' B v r := by
  obtain ⟨v0, v1, v2, v3, h1, h2, h3, h4, h5⟩ := h
  exact ⟨v0, v1, v2, v3, h1, h2.below hb, h3.below hb, h4.below hb, h5.below hb⟩
theorem rdR.more {w : World} {B B' : Nat} {v : Value} {r : Rpt} (h : rdR w B v r) (hB : B ≤ B') : rdR w B' v r := by
  obtain ⟨v0, v1, v2, v3, h1, h2, h3, h4, h5⟩ := h
  exact ⟨v0, v1, v2, v3, h1, h2.more hB, h3.more hB, h4.more hB, h5.more hB⟩
theorem rdR.on {w w' : World} {v : Value} {r : Rpt} (h : rdR w w.heap.size v r) (hb : Below w.heap.size w w') : rdR w' w'.heap.size v r := (h.below hb).more hb.size
theorem openR {w : World} {B : Nat} {v : Value} {r : Rpt} (h : rdR w B v r) : ∃ A0 c0 A1 c1 A2 c2 A3 c3, v = .agg #[.slice A0 r.round.length c0, .slice A1 r.strange.length c1, .slice A2 r.held.length c2, .slice A3 r.stuck.length c3] := by
  obtain ⟨v0, v1, v2, v3, rfl, ⟨A0, n0, c0, rfl, rfl, _⟩, ⟨A1, n1, c1, rfl, rfl, _⟩, ⟨A2, n2, c2, rfl, rfl, _⟩, ⟨A3, n3, c3, rfl, rfl, _⟩⟩ := h
  exact ⟨A0, c0, A1, c1, A2, c2, A3, c3, rfl⟩
theorem partsR {w : World} {B : Nat} {r : Rpt} {v0 v1 v2 v3 : Value} (h : rdR w B (.agg #[v0, v1, v2, v3]) r) : rd w B v0 r.round ∧ rd w B v1 r.strange ∧ rd w B v2 r.held ∧ rd w B v3 r.stuck := by
  obtain ⟨a0, a1, a2, a3, h1, h2, h3, h4, h5⟩ := h
  injection h1 with h1
  injection h1 with h1
  simp only [List.cons.injEq, and_true] at h1
  obtain ⟨rfl, rfl, rfl, rfl⟩ := h1
  exact ⟨h2, h3, h4, h5⟩
/-- Four rows of the call's own, each apart from the others. -/
def ownR (T base : Nat) (w : World) (v : Value) (r : Rpt) : Prop :=
  ∃ v0 v1 v2 v3, v = .agg #[v0, v1, v2, v3] ∧ own T base w v0 r.round ∧ own T base w v1 r.strange ∧ own T base w v2 r.held ∧ own T base w v3 r.stuck ∧ (apart v0 v1 ∧ apart v0 v2 ∧ apart v0 v3 ∧ apart v1 v2 ∧ apart v1 v3 ∧ apart v2 v3)
theorem ownR.rd {T base : Nat} {w : World} {v : Value} {r : Rpt} (h : ownR T base w v r) : rdR w w.heap.size v r := by
  obtain ⟨v0, v1, v2, v3, h1, h2, h3, h4, h5, _⟩ := h
  exact ⟨v0, v1, v2, v3, h1, h2.rd, h3.rd, h4.rd, h5.rd⟩
theorem ownR.below {T base : Nat} {w w' : World} {v : Value} {r : Rpt} (h : ownR T base w v r) (hb : Below w.heap.size w w') : ownR T base w' v r := by
  obtain ⟨v0, v1, v2, v3, h1, h2, h3, h4, h5, h6⟩ := h
  exact ⟨v0, v1, v2, v3, h1, h2.below hb, h3.below hb, h4.below hb, h5.below hb, h6⟩
theorem ownR.none_ (T base : Nat) (w : World) : ownR T base w (.agg #[.slice none 0 0, .slice none 0 0, .slice none 0 0, .slice none 0 0]) ⟨[], [], [], []⟩ :=
  ⟨_, _, _, _, rfl, own.nil_ _ _ _, own.nil_ _ _ _, own.nil_ _ _ _, own.nil_ _ _ _, .inl rfl, .inl rfl, .inl rfl, .inl rfl, .inl rfl, .inl rfl⟩
/-- The same, in blocks before hi. -/
def segR (T lo hi : Nat) (w : World) (v : Value) (r : Rpt) : Prop :=
  ∃ v0 v1 v2 v3, v = .agg #[v0, v1, v2, v3] ∧ seg T lo hi w v0 r.round ∧ seg T lo hi w v1 r.strange ∧ seg T lo hi w v2 r.held ∧ seg T lo hi w v3 r.stuck ∧ (apart v0 v1 ∧ apart v0 v2 ∧ apart v0 v3 ∧ apart v1 v2 ∧ apart v1 v3 ∧ apart v2 v3)
theorem segR.of {T lo : Nat} {w : World} {v : Value} {r : Rpt} (h : ownR T lo w v r) : segR T lo w.heap.size w v r := by
  obtain ⟨v0, v1, v2, v3, h1, h2, h3, h4, h5, h6⟩ := h
  exact ⟨v0, v1, v2, v3, h1, seg.of h2, seg.of h3, seg.of h4, seg.of h5, h6⟩
theorem segR.below {T lo hi : Nat} {w w' : World} {v : Value} {r : Rpt} (h : segR T lo hi w v r) (hb : Below w.heap.size w w') : segR T lo hi w' v r := by
  obtain ⟨v0, v1, v2, v3, h1, h2, h3, h4, h5, h6⟩ := h
  exact ⟨v0, v1, v2, v3, h1, h2.below hb, h3.below hb, h4.below hb, h5.below hb, h6⟩
theorem segR.out {T lo hi a b : Nat} {w w' : World} {v : Value} {r : Rpt} (h : segR T lo hi w v r) (ho : OutI a b w w') (hd : hi ≤ a ∨ b ≤ lo) : segR T lo hi w' v r := by
  obtain ⟨v0, v1, v2, v3, h1, h2, h3, h4, h5, h6⟩ := h
  exact ⟨v0, v1, v2, v3, h1, h2.out ho hd, h3.out ho hd, h4.out ho hd, h5.out ho hd, h6⟩
theorem segR.rd {T lo hi : Nat} {w : World} {v : Value} {r : Rpt} (h : segR T lo hi w v r) : rdR w w.heap.size v r := by
  obtain ⟨v0, v1, v2, v3, h1, h2, h3, h4, h5, _⟩ := h
  exact ⟨v0, v1, v2, v3, h1, h2.rd, h3.rd, h4.rd, h5.rd⟩

end Go.Proofs.YtpinkbodbedajaaGreatDoor
