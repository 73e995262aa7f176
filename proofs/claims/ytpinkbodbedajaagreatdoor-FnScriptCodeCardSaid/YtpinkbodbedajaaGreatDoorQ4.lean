/- F1 F2 NV -/
import Derived.Test.YtpinkbodbedajaaGreatDoorQ1
import Derived.Test.YtpinkbodbedajaaGreatDoorQ3
import Derived.Test.YtpinkbodbedajaaGreatDoorQ2
namespace Go.Proofs.YtpinkbodbedajaaGreatDoor
open Go.RowKit

theorem ret_tup {a b : Value} (h : a = b) : Ending.returned a = .returned b := by rw [h]

set_option maxHeartbeats 400000 in
theorem impl_forwardOf (v : Value) (fs : List Fwd) (c : ByteArray) (w : World) (hv : rd w w.heap.size v fs) :
    Calls Tryz.prog 124 #[v, .string c] w fun e w' => e = .returned (.int .i64 (fwdI fs c)) ∧ Below w.heap.size w w' := by
  obtain ⟨A, n, cp, rfl, hn, hc, hm, hr⟩ := hv
  subst hn
  unfold maxLen at hm
  have HR := Lib.hid hr; clear hr
  have l0 := Below.refl w.heap.size w
  go_enter Tryz.func124, Tryz.ntmps124
  go_wp2
  go_loopw [9] (fun i wr => ∃ k : Nat, k ≤ fs.length ∧ i = .int .i64 k ∧ Below w.heap.size w wr ∧ Hid (∀ j (h : j < fs.length), j < k → sEq fs[j].src c = false)) (fun i _ => fs.length - (intOf i).toNat)
  case atStart => exact ⟨0, Nat.zero_le _, rfl, l0, fun j _ hj => absurd hj (Nat.not_lt_zero j)⟩
  case round =>
    obtain ⟨k, hk, rfl, lr, HG⟩ := hrel
    obtain ⟨w1, rfl⟩ : ∃ w1 : World, w1 = wr := ⟨_, rfl⟩
    by_cases hlt : k < fs.length
    · obtain ⟨b, o, rfl, hb, hok, c1, c2⟩ := HR.out.fwdU k hlt
      have HX : Hid (∀ h : sEq fs[k].src c = false, ∀ j (h1 : j < fs.length), j < k + 1 → sEq fs[j].src c = false) := fun h j h1 hj => by
        by_cases hjk : j < k
        · exact HG.out j h1 hjk
        · obtain rfl : j = k := by omega
          exact h
      have HY : Hid (∀ h : sEq fs[k].src c = true, fwdI fs c = k) := fun h => fiI_at hlt (fun j hj hjk => HG.out j hj hjk) h
      generalize fs[k] = x at *
      cases he : sEq x.src c
      · have he' := Lib.hid he
        have hq : (x.src.toList == c.toList) = false := he
        clear he
        go_wp2
        go_roundw
        case rel => exact ⟨k + 1, by omega, by go_num, later_alloc lr _, HX.out he'.out⟩
        case measure => simp [intOf]; omega
      · have he' := Lib.hid he
        have hq : (x.src.toList == c.toList) = true := he
        clear he
        go_wp2
        go_ret
        exact ⟨ret_int (HY.out he'.out).symm, later_alloc lr _⟩
    · have HE : Hid (fwdI fs c = -1) := fiI_none fun j hj => HG.out j hj (by omega)
      go_wp2
      go_ret
      exact ⟨ret_int HE.out.symm, lr⟩

set_option maxHeartbeats 400000 in
theorem spec_l4Index (v : Value) (fs : List Fwd) (c : ByteArray) (w : World) (hv : rd w w.heap.size v fs) :
    Calls Tryz.prog 170 #[v, .string c] w fun e w' => e = .returned (.int .i64 (fwdI fs c)) ∧ w = w' := by
  obtain ⟨A, n, cp, rfl, hn, hc, hm, hr⟩ := hv
  subst hn
  unfold maxLen at hm
  have HR := Lib.hid hr; clear hr
  have l0 := Below.refl w.heap.size w
  go_enter Tryz.func170, Tryz.ntmps170
  go_wp2
  go_loop [5] (fun i => ∃ k : Nat, k ≤ fs.length ∧ i = .int .i64 k ∧ Hid (∀ j (h : j < fs.length), j < k → sEq fs[j].src c = false)) (fun i => fs.length - (intOf i).toNat)
  case atStart => exact ⟨0, Nat.zero_le _, rfl, fun j _ hj => absurd hj (Nat.not_lt_zero j)⟩
  case round =>
    obtain ⟨k, hk, rfl, HG⟩ := hrel
    by_cases hlt : k < fs.length
    · obtain ⟨b, o, rfl, hb, hok, c1, c2⟩ := HR.out.fwdU k hlt
      have HX : Hid (∀ h : sEq fs[k].src c = false, ∀ j (h1 : j < fs.length), j < k + 1 → sEq fs[j].src c = false) := fun h j h1 hj => by
        by_cases hjk : j < k
        · exact HG.out j h1 hjk
        · obtain rfl : j = k := by omega
          exact h
      have HY : Hid (∀ h : sEq fs[k].src c = true, fwdI fs c = k) := fun h => fiI_at hlt (fun j hj hjk => HG.out j hj hjk) h
      generalize fs[k] = x at *
      cases he : sEq x.src c
      · have he' := Lib.hid he
        have hq : (x.src.toList == c.toList) = false := he
        clear he
        go_wp2
        go_round
        case rel => exact ⟨k + 1, by omega, by go_num, HX.out he'.out⟩
        case measure => simp [intOf]; omega
      · have he' := Lib.hid he
        have hq : (x.src.toList == c.toList) = true := he
        clear he
        go_wp2
        go_ret
        exact ⟨ret_int (HY.out he'.out).symm, rfl⟩
    · have HE : Hid (fwdI fs c = -1) := fiI_none fun j hj => HG.out j hj (by omega)
      go_wp2
      go_ret
      exact ⟨ret_int HE.out.symm, rfl⟩

set_option maxHeartbeats 400000 in
theorem impl_followOrders (v : Value) (fs : List Fwd) (c : ByteArray) (w : World) (hv : rd w w.heap.size v fs) (hcs : c.size ≤ maxLen) (hl : fs.length ≤ 1048576) :
    Calls Tryz.prog 63 #[v, .string c] w fun e w' => e = .returned (.tuple #[.string (follow fs c).1, .int .i64 ((follow fs c).2.1 : Nat), .bool (follow fs c).2.2]) ∧ Below w.heap.size w w' := by
  obtain ⟨A, n, cp, rfl, hn, hc, hm, hr⟩ := hv
  have hv0 := Lib.hid (show rd w w.heap.size (.slice A n cp) fs from ⟨A, n, cp, rfl, hn, hc, hm, hr⟩)
  subst hn
  unfold maxLen at hm hcs
  have HR := Lib.hid hr; clear hr
  have l0 := Below.refl w.heap.size w
  have HF : Hid (follow fs c = followN fs (fs.length + 1) c 0) := rfl
  go_enter Tryz.func63, Tryz.ntmps63
  go_wp2
  go_loopw [1, 7] (fun t i wr => ∃ (k : Nat) (d : ByteArray), k ≤ fs.length + 1 ∧ i = .int .i64 k ∧ t = .string d ∧ d.size ≤ 2 ^ 63 - 1 ∧ Below w.heap.size w wr ∧ Hid (follow fs c = followN fs (fs.length + 1 - k) d k)) (fun _ i _ => fs.length + 1 - (intOf i).toNat)
  case atStart => exact ⟨0, c, Nat.zero_le _, rfl, rfl, hcs, l0, HF.out⟩
  case round =>
    obtain ⟨k, d, hk, rfl, rfl, hds, lr, HG⟩ := hrel
    obtain ⟨w1, rfl⟩ : ∃ w1 : World, w1 = wr := ⟨_, rfl⟩
    clear l0
    by_cases hlt : k < fs.length + 1
    · have hlt' : (k : Int) ≤ (fs.length : Int) := by omega
      have HS : Hid (follow fs c = if fwdI fs d < 0 then (d, k, true) else followN fs (fs.length + 1 - (k + 1)) (fwdTo fs d) (k + 1)) := by
        show _ = _
        rw [HG.out, show fs.length + 1 - k = (fs.length + 1 - (k + 1)) + 1 by omega]; rfl
      obtain ⟨r, HRR⟩ : ∃ r, Hid (fwdI fs d = r) := ⟨_, rfl⟩
      have hrr := fiI_range (fun x : Fwd => sEq x.src d) fs
      rw [show fiI (fun x : Fwd => sEq x.src d) fs = r from HRR.out] at hrr
      go_wp2_with fail
      refine (impl_forwardOf _ fs d _ (hv0.out.on lr)).mono ?_
      rw [HRR.out]
      rintro e w2 ⟨rfl, b2⟩
      have l2 := later_trans lr b2
      by_cases hneg : r < 0
      · go_wp2_with fail
        go_ret3
        exact ⟨ret_tup (by rw [HS.out, HRR.out, if_pos hneg] <;> rfl), l2⟩
      · obtain ⟨q, rfl⟩ := Int.eq_ofNat_of_zero_le (show 0 ≤ r by omega)
        have hq : q < fs.length := by omega
        obtain ⟨b, o, rfl, hb, ⟨hok1, hok2⟩, c1, c2⟩ := HR.out.fwdU q hq
        have HT := Lib.hid (fwdTo_at HRR.out hq)
        generalize fs[q] = x at *
        unfold maxLen at hok2
        have hqi : (q : Int) < (fs.length : Int) := by omega
        go_wp2_with fail
        go_roundw
        case rel => exact ⟨k + 1, x.dst, by omega, by go_num, rfl, hok2, l2, by show _ = _; rw [HS.out, HRR.out, if_neg (by omega), HT.out]⟩
        case measure => simp [intOf]; omega
    · have hlt' : ¬ (k : Int) ≤ (fs.length : Int) := by omega
      have HE : Hid (follow fs c = (⟨#[]⟩, 0, false)) := by show _ = _; rw [HG.out, show fs.length + 1 - k = 0 by omega]; rfl
      go_wp2_with fail
      go_ret3
      exact ⟨ret_tup (by rw [HE.out] <;> rfl), lr⟩

set_option maxHeartbeats 400000 in
theorem spec_l4Resolve (v : Value) (fs : List Fwd) (c : ByteArray) (w : World) (hv : rd w w.heap.size v fs) (hcs : c.size ≤ maxLen) (hl : fs.length ≤ 1048576) :
    Calls Tryz.prog 116 #[v, .string c] w fun e w' => e = .returned (.tuple #[.string (follow fs c).1, .int .i64 ((follow fs c).2.1 : Nat), .bool (follow fs c).2.2]) ∧ Below w.heap.size w w' := by
  obtain ⟨A, n, cp, rfl, hn, hc, hm, hr⟩ := hv
  have hv0 := Lib.hid (show rd w w.heap.size (.slice A n cp) fs from ⟨A, n, cp, rfl, hn, hc, hm, hr⟩)
  subst hn
  unfold maxLen at hm hcs
  have HR := Lib.hid hr; clear hr
  have l0 := Below.refl w.heap.size w
  have HF : Hid (follow fs c = followN fs (fs.length + 1) c 0) := rfl
  go_enter Tryz.func116, Tryz.ntmps116
  go_wp2
  go_loopw [1, 7] (fun t i wr => ∃ (k : Nat) (d : ByteArray), k ≤ fs.length + 1 ∧ i = .int .i64 k ∧ t = .string d ∧ d.size ≤ 2 ^ 63 - 1 ∧ Below w.heap.size w wr ∧ Hid (follow fs c = followN fs (fs.length + 1 - k) d k)) (fun _ i _ => fs.length + 1 - (intOf i).toNat)
  case atStart => exact ⟨0, c, Nat.zero_le _, rfl, rfl, hcs, l0, HF.out⟩
  case round =>
    obtain ⟨k, d, hk, rfl, rfl, hds, lr, HG⟩ := hrel
    obtain ⟨w1, rfl⟩ : ∃ w1 : World, w1 = wr := ⟨_, rfl⟩
    clear l0
    by_cases hlt : k < fs.length + 1
    · have hlt' : (k : Int) ≤ (fs.length : Int) := by omega
      have HS : Hid (follow fs c = if fwdI fs d < 0 then (d, k, true) else followN fs (fs.length + 1 - (k + 1)) (fwdTo fs d) (k + 1)) := by
        show _ = _
        rw [HG.out, show fs.length + 1 - k = (fs.length + 1 - (k + 1)) + 1 by omega]; rfl
      obtain ⟨r, HRR⟩ : ∃ r, Hid (fwdI fs d = r) := ⟨_, rfl⟩
      have hrr := fiI_range (fun x : Fwd => sEq x.src d) fs
      rw [show fiI (fun x : Fwd => sEq x.src d) fs = r from HRR.out] at hrr
      go_wp2_with fail
      refine (spec_l4Index _ fs d _ (hv0.out.on lr)).mono ?_
      rw [HRR.out]
      rintro e w2 ⟨rfl, rfl⟩
      have l2 := lr
      by_cases hneg : r < 0
      · go_wp2_with fail
        go_ret3
        exact ⟨ret_tup (by rw [HS.out, HRR.out, if_pos hneg] <;> rfl), l2⟩
      · obtain ⟨q, rfl⟩ := Int.eq_ofNat_of_zero_le (show 0 ≤ r by omega)
        have hq : q < fs.length := by omega
        obtain ⟨b, o, rfl, hb, ⟨hok1, hok2⟩, c1, c2⟩ := HR.out.fwdU q hq
        have HT := Lib.hid (fwdTo_at HRR.out hq)
        generalize fs[q] = x at *
        unfold maxLen at hok2
        have hqi : (q : Int) < (fs.length : Int) := by omega
        go_wp2_with fail
        go_roundw
        case rel => exact ⟨k + 1, x.dst, by omega, by go_num, rfl, hok2, l2, by show _ = _; rw [HS.out, HRR.out, if_neg (by omega), HT.out]⟩
        case measure => simp [intOf]; omega
    · have hlt' : ¬ (k : Int) ≤ (fs.length : Int) := by omega
      have HE : Hid (follow fs c = (⟨#[]⟩, 0, false)) := by show _ = _; rw [HG.out, show fs.length + 1 - k = 0 by omega]; rfl
      go_wp2_with fail
      go_ret3
      exact ⟨ret_tup (by rw [HE.out] <;> rfl), lr⟩

theorem impl_sizeValid (n : Int) (w : World) : Calls Tryz.prog 110 #[.int .i64 n] w fun e w' => e = .returned (.bool (sizeOk n)) ∧ w = w' := by
  go_enter Tryz.func110, Tryz.ntmps110
  by_cases h1 : 1 ≤ n
  · go_wp2
    go_ret
    exact ⟨ret_bool (by simp [sizeOk, h1]), rfl⟩
  · go_wp2
    go_ret
    exact ⟨ret_bool (by unfold sizeOk; rw [decide_eq_false (p := 1 ≤ n) (by omega)]; rfl), rfl⟩
theorem spec_l5Size (n : Int) (w : World) : Calls Tryz.prog 114 #[.int .i64 n] w fun e w' => e = .returned (.bool (sizeOk n)) ∧ w = w' := by
  go_enter Tryz.func114, Tryz.ntmps114
  go_wp2_with fail
  refine (spec_l1In n 1 20 w).mono ?_
  rintro e w1 ⟨rfl, rfl⟩
  obtain ⟨r, HR⟩ : ∃ r, Hid ((decide (1 ≤ n) && decide (n ≤ 20)) = r) := ⟨_, rfl⟩
  rw [HR.out]
  go_wp2_with fail
  go_ret
  exact ⟨ret_bool HR.out.symm, rfl⟩

set_option maxHeartbeats 400000 in
theorem impl_heldValid (v : Value) (xs : List ByteArray) (w : World) (hv : rd w w.heap.size v xs) :
    Calls Tryz.prog 109 #[v] w fun e w' => e = .returned (.bool (heldOk xs)) ∧ w = w' := by
  obtain ⟨A, n, cp, rfl, hn, hc, hm, hr⟩ := hv
  subst hn
  unfold maxLen at hm
  have HR := Lib.hid hr; clear hr
  have l0 := Below.refl w.heap.size w
  go_enter Tryz.func109, Tryz.ntmps109
  by_cases h30 : (30 : Int) < (xs.length : Int)
  · have HF : Hid (heldOk xs = false) := by show _ = _; unfold heldOk; rw [decide_eq_false (by omega)]; rfl
    go_wp2
    go_ret
    exact ⟨ret_bool HF.out.symm, rfl⟩
  have H30 := Lib.hid (show xs.length ≤ 30 by omega)
  go_wp2
  go_loop [10] (fun i => ∃ k : Nat, k ≤ xs.length ∧ i = .int .i64 k ∧ Hid (∀ j (h : j < xs.length), j < k → isCode xs[j] = true)) (fun i => xs.length - (intOf i).toNat)
  case atStart => exact ⟨0, Nat.zero_le _, rfl, fun j _ hj => absurd hj (Nat.not_lt_zero j)⟩
  case round =>
    obtain ⟨k, hk, rfl, HG⟩ := hrel
    by_cases hlt : k < xs.length
    · obtain ⟨b, o, rfl, hb, hok, c1⟩ := HR.out.strU k hlt
      have HX : Hid (∀ h : isCode xs[k] = true, ∀ j (h1 : j < xs.length), j < k + 1 → isCode xs[j] = true) := fun h j h1 hj => by
        by_cases hjk : j < k
        · exact HG.out j h1 hjk
        · obtain rfl : j = k := by omega
          exact h
      have HY : Hid (∀ h : isCode xs[k] = false, heldOk xs = false) := fun h => by
        unfold heldOk
        rw [Bool.and_eq_false_iff]
        exact .inr (List.all_eq_false.2 ⟨xs[k], List.getElem_mem _, by simp [h]⟩)
      generalize xs[k] = x at *
      obtain ⟨r, HRR⟩ : ∃ r, Hid (isCode x = r) := ⟨_, rfl⟩
      go_wp2_with fail
      refine (impl_CodeValid x _ hok).mono ?_
      rw [HRR.out]
      rintro e w1 ⟨rfl, rfl⟩
      cases r
      · go_wp2_with fail
        go_ret
        exact ⟨ret_bool (HY.out HRR.out).symm, rfl⟩
      · go_wp2_with fail
        go_round
        case rel => exact ⟨k + 1, by omega, by go_num, HX.out HRR.out⟩
        case measure => simp [intOf]; omega
    · have HE : Hid (heldOk xs = true) := by
        show _ = _
        unfold heldOk
        rw [decide_eq_true H30.out]
        exact List.all_eq_true.2 fun x hx => by
          obtain ⟨j, hj, rfl⟩ := List.getElem_of_mem hx
          exact HG.out j hj (by omega)
      go_wp2
      go_ret
      exact ⟨ret_bool HE.out.symm, rfl⟩

end Go.Proofs.YtpinkbodbedajaaGreatDoor

namespace Go.Proofs.YtpinkbodbedajaaGreatDoor
open Go.RowKit

theorem codeI_is {s : ByteArray} {r : Bool} {w : World} (hs : s.size ≤ maxLen) (h : isCode s = r) : Calls Tryz.prog 75 #[.string s] w fun e w' => e = .returned (.bool r) ∧ w = w' := by
  rw [← h]; exact impl_CodeValid s w hs
theorem codeS_is {s : ByteArray} {r : Bool} {w : World} (hs : s.size ≤ maxLen) (h : isCode s = r) : Calls Tryz.prog 88 #[.string s] w fun e w' => e = .returned (.bool r) ∧ w = w' := by
  rw [← h]; exact spec_CodeValid s w hs
theorem fwdI_ge (fs : List Fwd) (k : Nat) (c : ByteArray) {r : Int} (h : fwdI (fs.take k) c = r) : (fs.take k).all (fun y => !sEq y.src c) = !decide (0 ≤ r) := by
  have := fiI_ge (fun y : Fwd => sEq y.src c) (fs.take k)
  rw [← h]
  unfold fwdI
  rw [this, Bool.not_not]
theorem fwdI_self {fs : List Fwd} {k : Nat} (h : k < fs.length) : (fwdI fs fs[k].src == (k : Int)) = (fs.take k).all (fun y => !sEq y.src fs[k].src) :=
  fiI_self (p := fun y : Fwd => sEq y.src fs[k].src) h (sEq_refl _)

set_option maxRecDepth 100000 in
set_option maxHeartbeats 1600000 in
theorem spec_ForwardsValid (v : Value) (fs : List Fwd) (w : World) (hv : rd w w.heap.size v fs) :
    Calls Tryz.prog 113 #[v] w fun e w' => e = .returned (.bool (fwdsOk fs)) ∧ w = w' := by
  obtain ⟨A, n, cp, rfl, hn, hc, hm, hr⟩ := hv
  have hv0 := Lib.hid (show rd w w.heap.size (.slice A n cp) fs from ⟨A, n, cp, rfl, hn, hc, hm, hr⟩)
  subst hn
  unfold maxLen at hm
  have HR := Lib.hid hr; clear hr
  have l0 := Below.refl w.heap.size w
  go_enter Tryz.func113, Tryz.ntmps113
  go_wp2
  go_loop [3] (fun i => ∃ k : Nat, k ≤ fs.length ∧ i = .int .i64 k ∧ Hid (∀ j, j < k → goodF fs j = true)) (fun i => fs.length - (intOf i).toNat)
  case atStart => exact ⟨0, Nat.zero_le _, rfl, fun j hj => absurd hj (Nat.not_lt_zero j)⟩
  case round =>
    obtain ⟨k, hk, rfl, HG⟩ := hrel
    by_cases hlt : k < fs.length
    · obtain ⟨b, o, rfl, hb, ⟨ok1, ok2⟩, c1, c2⟩ := HR.out.fwdU k hlt
      have hG := Lib.hid (goodF_of hlt)
      have hS := Lib.hid (fwdI_self hlt)
      have hbad := Lib.hid (fun h => fwdsOk_bad hlt h)
      generalize fs[k] = x at *
      have hki : (k : Int) < (fs.length : Int) := by omega
      go_wp2_with fail
      refine (spec_CodeValid x.src _ ok1).mono ?_
      rintro e w1 ⟨rfl, rfl⟩
      cases h1 : isCode x.src
      · have H1 := Lib.hid h1; clear h1
        go_wp2_with fail
        go_ret
        exact ⟨ret_bool (hbad.out (by rw [hG.out, H1.out]; rfl)).symm, rfl⟩
      have H1 := Lib.hid h1; clear h1
      go_wp2_with fail
      refine (spec_CodeValid x.dst _ ok2).mono ?_
      rintro e w1 ⟨rfl, rfl⟩
      cases h2 : isCode x.dst
      · have H2 := Lib.hid h2; clear h2
        go_wp2_with fail
        go_ret
        exact ⟨ret_bool (hbad.out (by rw [hG.out, H1.out, H2.out]; rfl)).symm, rfl⟩
      have H2 := Lib.hid h2; clear h2
      obtain ⟨r, HRR⟩ : ∃ r, Hid (fwdI fs x.src = r) := ⟨_, rfl⟩
      go_wp2_with fail
      refine (spec_l4Index _ fs x.src _ hv0.out).mono ?_
      rw [HRR.out]
      rintro e w1 ⟨rfl, rfl⟩
      cases h3 : (r == (k : Int))
      · have H3 := Lib.hid h3
        have h3' : (r != (k : Int)) = true := by rw [bne, h3]; rfl
        clear h3
        go_wp2_with fail
        go_ret
        exact ⟨ret_bool (hbad.out (by rw [hG.out, ← hS.out, HRR.out, H3.out]; simp)).symm, rfl⟩
      · have H3 := Lib.hid h3
        have h3' : (r != (k : Int)) = false := by rw [bne, h3]; rfl
        clear h3
        go_wp2_with fail
        go_round
        case rel =>
          refine ⟨k + 1, by omega, by go_num, fun j hj => ?_⟩
          by_cases hjk : j < k
          · exact HG.out j hjk
          · obtain rfl : j = k := by omega
            rw [hG.out, H1.out, H2.out, ← hS.out, HRR.out, H3.out]; rfl
        case measure => simp [intOf]; omega
    · have HE := Lib.hid (show k = fs.length by omega)
      by_cases h30 : fs.length ≤ 30
      · have H30 := Lib.hid h30
        have h30' : (fs.length : Int) ≤ 30 := by omega
        go_wp2_with fail
        go_ret
        exact ⟨ret_bool (fwdsOk_good H30.out (by rw [← HE.out]; exact HG.out)).symm, rfl⟩
      · have H30 := Lib.hid h30
        have h30' : ¬ (fs.length : Int) ≤ 30 := by omega
        go_wp2_with fail
        go_ret
        exact ⟨ret_bool (fwdsOk_len H30.out).symm, rfl⟩

set_option maxRecDepth 100000 in
set_option maxHeartbeats 1600000 in
theorem impl_ForwardsValid (v : Value) (fs : List Fwd) (w : World) (hv : rd w w.heap.size v fs) :
    Calls Tryz.prog 59 #[v] w fun e w' => e = .returned (.bool (fwdsOk fs)) ∧ Below w.heap.size w w' := by
  obtain ⟨A, n, cp, rfl, hn, hc, hm, hr⟩ := hv
  have hv0 := Lib.hid (show rd w w.heap.size (.slice A n cp) fs from ⟨A, n, cp, rfl, hn, hc, hm, hr⟩)
  subst hn
  unfold maxLen at hm
  have HR := Lib.hid hr; clear hr
  have l0 := Below.refl w.heap.size w
  go_enter Tryz.func59, Tryz.ntmps59
  by_cases h30 : (30 : Int) < (fs.length : Int)
  · have HF := Lib.hid (show ¬ fs.length ≤ 30 by omega)
    go_wp2
    go_ret
    exact ⟨ret_bool (fwdsOk_len HF.out).symm, l0⟩
  have H30 := Lib.hid (show fs.length ≤ 30 by omega)
  go_wp2
  go_loopw [10] (fun i wr => ∃ k : Nat, k ≤ fs.length ∧ i = .int .i64 k ∧ Below w.heap.size w wr ∧ Hid (∀ j, j < k → goodF fs j = true)) (fun i _ => fs.length - (intOf i).toNat)
  case atStart => exact ⟨0, Nat.zero_le _, rfl, l0, fun j hj => absurd hj (Nat.not_lt_zero j)⟩
  case round =>
    obtain ⟨k, hk, rfl, lr, HG⟩ := hrel
    obtain ⟨w1, rfl⟩ : ∃ w1 : World, w1 = wr := ⟨_, rfl⟩
    clear l0
    by_cases hlt : k < fs.length
    · obtain ⟨b, o, rfl, hb, ⟨ok1, ok2⟩, c1, c2⟩ := HR.out.fwdU k hlt
      have hG := Lib.hid (goodF_of hlt)
      have hbad := Lib.hid (fun h => fwdsOk_bad hlt h)
      generalize fs[k] = x at *
      have hki : (k : Int) < (fs.length : Int) := by omega
      obtain ⟨wo, hwo⟩ : ∃ wo : World, wo = w1.alloc (Obj.cells #[.string x.src, .string x.dst] 94) := ⟨_, rfl⟩
      have lo : Below w.heap.size w wo := later_trans lr (box_later hwo).1
      have y0 := box_cells hwo 0 (.string x.src) rfl
      have y1 := box_cells hwo 1 (.string x.dst) rfl
      have lb := Below.refl wo.heap.size wo
      have hv1 := Lib.hid (hv0.out.on lo)
      have HWO := Lib.hid hwo; clear hwo
      cases h1 : isCode x.src
      · have H1 := Lib.hid h1; clear h1
        have C1 := Lib.hid (fun w => codeI_is (w := w) ok1 H1.out)
        go_wp2
        rw [← HWO.out]
        go_quiet (first | (go_at_call 75; refine quiet_c (C1.out _)))
        go_wp2
        go_ret
        exact ⟨ret_bool (hbad.out (by rw [hG.out, H1.out]; rfl)).symm, below_drewN lo _⟩
      have H1 := Lib.hid h1; clear h1
      have C1 := Lib.hid (fun w => codeI_is (w := w) ok1 H1.out)
      cases h2 : isCode x.dst
      · have H2 := Lib.hid h2; clear h2
        have C2 := Lib.hid (fun w => codeI_is (w := w) ok2 H2.out)
        go_wp2
        rw [← HWO.out]
        go_quiet (first | (go_at_call 75; first | with_reducible refine quiet_c (C1.out _) | with_reducible refine quiet_c (C2.out _)))
        go_wp2
        go_ret
        exact ⟨ret_bool (hbad.out (by rw [hG.out, H1.out, H2.out]; rfl)).symm, below_drewN lo _⟩
      have H2 := Lib.hid h2; clear h2
      have C2 := Lib.hid (fun w => codeI_is (w := w) ok2 H2.out)
      obtain ⟨r, HRR⟩ : ∃ r, Hid (fwdI (fs.take k) x.src = r) := ⟨_, rfl⟩
      have HGE := Lib.hid (fwdI_ge fs k x.src HRR.out)
      have C3 : Hid (∀ W, Below wo.heap.size wo W → Calls Tryz.prog 124 #[.slice (some ⟨b, o, none⟩) k cp, .string x.src] W fun e w' => e = .returned (.int .i64 r) ∧ Below W.heap.size W w') := fun W hW => by
        have h := impl_forwardOf (.slice (some ⟨b, o, none⟩) k cp) (fs.take k) x.src W ((hv1.out.on hW).take hk)
        rw [HRR.out] at h
        exact h
      have ld := later_drew lb
      have hkc : k ≤ cp := by omega
      have hkci : (k : Int) ≤ (cp : Int) := by omega
      by_cases hr0 : 0 ≤ r
      · have HD := Lib.hid (decide_eq_true hr0)
        go_wp2
        rw [← HWO.out]
        go_region_held3 (fun W => Below wo.heap.size wo W) (first | exact ld | exact later_trans ld b3) (first | (go_at_call 75; first | ((with_reducible refine (C1.out _).mono ?_); rintro e w' ⟨rfl, rfl⟩) | ((with_reducible refine (C2.out _).mono ?_); rintro e w' ⟨rfl, rfl⟩)) | (go_at_call 124; refine (C3.out _ ld).mono ?_; rintro e w3 ⟨rfl, b3⟩))
        have l3 := later_trans lo (later_trans ld b3)
        go_wp2
        go_ret
        exact ⟨ret_bool (hbad.out (by rw [hG.out, HGE.out, HD.out]; simp)).symm, l3⟩
      · have HD := Lib.hid (decide_eq_false hr0)
        go_wp2
        rw [← HWO.out]
        go_region_held3 (fun W => Below wo.heap.size wo W) (first | exact ld | exact later_trans ld b3) (first | (go_at_call 75; first | ((with_reducible refine (C1.out _).mono ?_); rintro e w' ⟨rfl, rfl⟩) | ((with_reducible refine (C2.out _).mono ?_); rintro e w' ⟨rfl, rfl⟩)) | (go_at_call 124; refine (C3.out _ ld).mono ?_; rintro e w3 ⟨rfl, b3⟩))
        have l3 := later_trans lo (later_trans ld b3)
        go_wp2
        go_roundw
        case rel =>
          refine ⟨k + 1, by omega, by go_num, l3, fun j hj => ?_⟩
          by_cases hjk : j < k
          · exact HG.out j hjk
          · obtain rfl : j = k := by omega
            rw [hG.out, H1.out, H2.out, HGE.out, HD.out]; rfl
        case measure => simp [intOf]; omega
    · have HE := Lib.hid (show k = fs.length by omega)
      go_wp2
      go_ret
      exact ⟨ret_bool (fwdsOk_good H30.out (by rw [← HE.out]; exact HG.out)).symm, lr⟩

/-- Where letters for a code arrive, if all is valid. -/
def resolve (fs : List Fwd) (c : ByteArray) : ByteArray × Nat × Bool := if isCode c && fwdsOk fs then follow fs c else (⟨#[]⟩, 0, false)

theorem impl_ResolveCode (v : Value) (fs : List Fwd) (c : ByteArray) (w : World) (hv : rd w w.heap.size v fs) (hcs : c.size ≤ maxLen) :
    Calls Tryz.prog 254 #[v, .string c] w fun e w' => e = .returned (.tuple #[.string (resolve fs c).1, .int .i64 ((resolve fs c).2.1 : Nat), .bool (resolve fs c).2.2]) ∧ Below w.heap.size w w' := by
  have HQ : Hid (resolve fs c = if isCode c && fwdsOk fs then follow fs c else (⟨#[]⟩, 0, false)) := rfl
  go_enter Tryz.func254, Tryz.ntmps254
  go_wp2_with fail
  refine (impl_CodeValid c _ hcs).mono ?_
  rintro e w1 ⟨rfl, rfl⟩
  cases h1 : isCode c
  · have H1 := Lib.hid h1; clear h1
    go_wp2_with fail
    go_ret3
    exact ⟨ret_tup (by rw [HQ.out, H1.out] <;> rfl), Below.refl _ _⟩
  have H1 := Lib.hid h1; clear h1
  go_wp2_with fail
  refine (impl_ForwardsValid v fs _ hv).mono ?_
  rintro e w1 ⟨rfl, b1⟩
  cases h2 : fwdsOk fs
  · have H2 := Lib.hid h2; clear h2
    go_wp2_with fail
    go_ret3
    exact ⟨ret_tup (by rw [HQ.out, H1.out, H2.out] <;> rfl), b1⟩
  have hl := (fwdsOk_iff.1 h2).1
  have H2 := Lib.hid h2; clear h2
  go_wp2_with fail
  refine (impl_followOrders v fs c _ (hv.on b1) hcs (by omega)).mono ?_
  rintro e w2 ⟨rfl, b2⟩
  go_wp2_with fail
  go_ret3
  exact ⟨ret_tup (by rw [HQ.out, H1.out, H2.out] <;> rfl), later_trans b1 b2⟩

end Go.Proofs.YtpinkbodbedajaaGreatDoor

namespace Go.Proofs.YtpinkbodbedajaaGreatDoor
open Go.RowKit

set_option maxHeartbeats 400000 in
theorem impl_nameValid (s : ByteArray) (w : World) (hs : s.size ≤ maxLen) :
    Calls Tryz.prog 149 #[.string s] w fun e w' => e = .returned (.bool (isName s)) ∧ w = w' := by
  unfold maxLen at hs
  go_enter Tryz.func149, Tryz.ntmps149
  by_cases hz : 1 ≤ (s.size : Int) ∧ (s.size : Int) ≤ 8
  · obtain ⟨hz1, hz2⟩ := hz
    have HI : Hid (∀ b, lows s.data.toList = b → isName s = b) := fun b h => by unfold isName; rw [decide_eq_true hz1, decide_eq_true hz2, h]; simp
    go_wp2
    go_loop [3] (fun i => ∃ k : Nat, k ≤ s.size ∧ i = .int .i64 k ∧ lows (s.data.toList.take k) = true) (fun i => s.size - (intOf i).toNat)
    case atStart => exact ⟨0, Nat.zero_le _, rfl, rfl⟩
    case round =>
      obtain ⟨k, hk, rfl, hd⟩ := hrel
      by_cases hlt : k < s.size
      · have hsn := lows_take_succ s k hlt
        have hbad := Lib.hid (lows_bad s k hlt)
        rw [hd, Bool.true_and] at hsn
        have HS := Lib.hid hsn
        clear hsn hd
        go_wp2
        · go_ret
          exact ⟨ret_bool (HI.out _ (hbad.out (by unfold low; simp; omega))).symm, rfl⟩
        · go_round
          case rel => exact ⟨k + 1, by omega, by go_num, by rw [HS.out]; unfold low; simp; omega⟩
          case measure => simp [intOf]; omega
        · go_ret
          exact ⟨ret_bool (HI.out _ (hbad.out (by unfold low; simp; omega))).symm, rfl⟩
      · rw [List.take_of_length_le (by simp; omega)] at hd
        have HD := Lib.hid hd; clear hd
        go_wp2
        go_ret
        exact ⟨ret_bool (HI.out _ HD.out).symm, rfl⟩
  · have HF : Hid (isName s = false) := by
      show _ = _
      cases hq : isName s
      · rfl
      · have := (isName_iff.1 hq).2
        exact absurd ⟨by omega, by omega⟩ hz
    by_cases hz1 : (s.size : Int) < 1
    · go_wp2
      go_ret
      exact ⟨ret_bool HF.out.symm, rfl⟩
    · have hz2 : (8 : Int) < (s.size : Int) := by omega
      clear hz
      go_wp2
      go_ret
      exact ⟨ret_bool HF.out.symm, rfl⟩

set_option maxHeartbeats 400000 in
theorem spec_l6Name (s : ByteArray) (w : World) (hs : s.size ≤ maxLen) :
    Calls Tryz.prog 153 #[.string s] w fun e w' => e = .returned (.bool (isName s)) ∧ w = w' := by
  unfold maxLen at hs
  go_enter Tryz.func153, Tryz.ntmps153
  go_wp2
  go_loop [3] (fun i => ∃ k : Nat, k ≤ s.size ∧ i = .int .i64 k ∧ lows (s.data.toList.take k) = true) (fun i => s.size - (intOf i).toNat)
  case atStart => exact ⟨0, Nat.zero_le _, rfl, rfl⟩
  case round =>
    obtain ⟨k, hk, rfl, hd⟩ := hrel
    by_cases hlt : k < s.size
    · have hsn := lows_take_succ s k hlt
      have hbad := Lib.hid (lows_bad s k hlt)
      rw [hd, Bool.true_and] at hsn
      have HS := Lib.hid hsn
      clear hsn hd
      go_wp2
      · go_ret
        exact ⟨ret_bool (by unfold isName; rw [hbad.out (by unfold low; simp; omega)]; rfl), rfl⟩
      · go_round
        case rel => exact ⟨k + 1, by omega, by go_num, by rw [HS.out]; unfold low; simp; omega⟩
        case measure => simp [intOf]; omega
      · go_ret
        exact ⟨ret_bool (by unfold isName; rw [hbad.out (by unfold low; simp; omega)]; rfl), rfl⟩
    · rw [List.take_of_length_le (by simp; omega)] at hd
      have HD := Lib.hid hd; clear hd
      go_wp2_with fail
      refine (spec_l1In s.size 1 8 _).mono ?_
      rintro e w1 ⟨rfl, rfl⟩
      have HR : Hid (isName s = (decide (1 ≤ (s.size : Int)) && decide ((s.size : Int) ≤ 8))) := by show _ = _; unfold isName; rw [HD.out]; rfl
      obtain ⟨r, hr⟩ : ∃ r, (decide (1 ≤ (s.size : Int)) && decide ((s.size : Int) ≤ 8)) = r := ⟨_, rfl⟩
      rw [hr] at HR ⊢
      clear hr
      go_wp2_with fail
      go_ret
      exact ⟨ret_bool HR.out.symm, rfl⟩

theorem impl_prefixValid (s : ByteArray) (w : World) (hs : s.size ≤ maxLen) :
    Calls Tryz.prog 219 #[.string s] w fun e w' => e = .returned (.bool (isPfx s)) ∧ w = w' := by
  go_enter Tryz.func219, Tryz.ntmps219
  by_cases h7 : s.size ≤ 7
  · have h7' : (s.size : Int) ≤ 7 := by omega
    have HP : Hid (isPfx s = digs s.data.toList) := by show _ = _; unfold isPfx; rw [decide_eq_true h7, Bool.and_true]
    rw [HP.out]
    go_wp2_with (go_at_call 143; refine (impl_allDigits _ _ hs).mono ?_; rintro e w' ⟨rfl, rfl⟩)
    go_ret
    exact ⟨rfl, rfl⟩
  · have h7' : ¬ (s.size : Int) ≤ 7 := by omega
    have HP : Hid (isPfx s = false) := by show _ = _; unfold isPfx; rw [decide_eq_false h7, Bool.and_false]
    rw [HP.out]
    go_wp2
    go_ret
    exact ⟨rfl, rfl⟩
theorem spec_l2Prefix (s : ByteArray) (w : World) (hs : s.size ≤ maxLen) :
    Calls Tryz.prog 223 #[.string s] w fun e w' => e = .returned (.bool (isPfx s)) ∧ w = w' := by
  go_enter Tryz.func223, Tryz.ntmps223
  cases hd : (digs s.data.toList && decide (s.size ≤ 20))
  · have hd' := Lib.hid hd; clear hd
    go_wp2_with (go_at_call 155; refine (spec_DigitsValid _ _ hs).mono ?_; rw [hd'.out]; rintro e w' ⟨rfl, rfl⟩)
    go_ret
    refine ⟨ret_bool ?_, rfl⟩
    have := hd'.out
    simp only [isPfx, Bool.and_eq_false_iff, decide_eq_false_iff_not] at this ⊢
    rcases this with h | h
    · simp [h]
    · have h7 : ¬ s.size ≤ 7 := by omega
      simp [h7]
  · have hd' := Lib.hid hd; clear hd
    go_wp2_with (go_at_call 155; refine (spec_DigitsValid _ _ hs).mono ?_; rw [hd'.out]; rintro e w' ⟨rfl, rfl⟩)
    go_ret
    refine ⟨ret_bool ?_, rfl⟩
    have := hd'.out
    simp only [Bool.and_eq_true, decide_eq_true_iff] at this
    rw [Bool.eq_iff_iff]
    simp [isPfx, this.1]
    try omega

set_option maxHeartbeats 400000 in
theorem impl_ruleOf (v : Value) (fs : List Fwd) (c : ByteArray) (w : World) (hv : rd w w.heap.size v fs) :
    Calls Tryz.prog 220 #[v, .string c] w fun e w' => e = .returned (.int .i64 (fwdI fs c)) ∧ Below w.heap.size w w' := by
  obtain ⟨A, n, cp, rfl, hn, hc, hm, hr⟩ := hv
  subst hn
  unfold maxLen at hm
  have HR := Lib.hid hr; clear hr
  have l0 := Below.refl w.heap.size w
  go_enter Tryz.func220, Tryz.ntmps220
  go_wp2
  go_loopw [9] (fun i wr => ∃ k : Nat, k ≤ fs.length ∧ i = .int .i64 k ∧ Below w.heap.size w wr ∧ Hid (∀ j (h : j < fs.length), j < k → sEq fs[j].src c = false)) (fun i _ => fs.length - (intOf i).toNat)
  case atStart => exact ⟨0, Nat.zero_le _, rfl, l0, fun j _ hj => absurd hj (Nat.not_lt_zero j)⟩
  case round =>
    obtain ⟨k, hk, rfl, lr, HG⟩ := hrel
    obtain ⟨w1, rfl⟩ : ∃ w1 : World, w1 = wr := ⟨_, rfl⟩
    by_cases hlt : k < fs.length
    · obtain ⟨b, o, rfl, hb, hok, c1, c2⟩ := HR.out.fwdU k hlt
      have HX : Hid (∀ h : sEq fs[k].src c = false, ∀ j (h1 : j < fs.length), j < k + 1 → sEq fs[j].src c = false) := fun h j h1 hj => by
        by_cases hjk : j < k
        · exact HG.out j h1 hjk
        · obtain rfl : j = k := by omega
          exact h
      have HY : Hid (∀ h : sEq fs[k].src c = true, fwdI fs c = k) := fun h => fiI_at hlt (fun j hj hjk => HG.out j hj hjk) h
      generalize fs[k] = x at *
      cases he : sEq x.src c
      · have he' := Lib.hid he
        have hq : (x.src.toList == c.toList) = false := he
        clear he
        go_wp2
        go_roundw
        case rel => exact ⟨k + 1, by omega, by go_num, later_alloc lr _, HX.out he'.out⟩
        case measure => simp [intOf]; omega
      · have he' := Lib.hid he
        have hq : (x.src.toList == c.toList) = true := he
        clear he
        go_wp2
        go_ret
        exact ⟨ret_int (HY.out he'.out).symm, later_alloc lr _⟩
    · have HE : Hid (fwdI fs c = -1) := fiI_none fun j hj => HG.out j hj (by omega)
      go_wp2
      go_ret
      exact ⟨ret_int HE.out.symm, lr⟩

set_option maxHeartbeats 400000 in
theorem spec_l6Index (v : Value) (fs : List Fwd) (c : ByteArray) (w : World) (hv : rd w w.heap.size v fs) :
    Calls Tryz.prog 148 #[v, .string c] w fun e w' => e = .returned (.int .i64 (fwdI fs c)) ∧ w = w' := by
  obtain ⟨A, n, cp, rfl, hn, hc, hm, hr⟩ := hv
  subst hn
  unfold maxLen at hm
  have HR := Lib.hid hr; clear hr
  have l0 := Below.refl w.heap.size w
  go_enter Tryz.func148, Tryz.ntmps148
  go_wp2
  go_loop [5] (fun i => ∃ k : Nat, k ≤ fs.length ∧ i = .int .i64 k ∧ Hid (∀ j (h : j < fs.length), j < k → sEq fs[j].src c = false)) (fun i => fs.length - (intOf i).toNat)
  case atStart => exact ⟨0, Nat.zero_le _, rfl, fun j _ hj => absurd hj (Nat.not_lt_zero j)⟩
  case round =>
    obtain ⟨k, hk, rfl, HG⟩ := hrel
    by_cases hlt : k < fs.length
    · obtain ⟨b, o, rfl, hb, hok, c1, c2⟩ := HR.out.fwdU k hlt
      have HX : Hid (∀ h : sEq fs[k].src c = false, ∀ j (h1 : j < fs.length), j < k + 1 → sEq fs[j].src c = false) := fun h j h1 hj => by
        by_cases hjk : j < k
        · exact HG.out j h1 hjk
        · obtain rfl : j = k := by omega
          exact h
      have HY : Hid (∀ h : sEq fs[k].src c = true, fwdI fs c = k) := fun h => fiI_at hlt (fun j hj hjk => HG.out j hj hjk) h
      generalize fs[k] = x at *
      cases he : sEq x.src c
      · have he' := Lib.hid he
        have hq : (x.src.toList == c.toList) = false := he
        clear he
        go_wp2
        go_round
        case rel => exact ⟨k + 1, by omega, by go_num, HX.out he'.out⟩
        case measure => simp [intOf]; omega
      · have he' := Lib.hid he
        have hq : (x.src.toList == c.toList) = true := he
        clear he
        go_wp2
        go_ret
        exact ⟨ret_int (HY.out he'.out).symm, rfl⟩
    · have HE : Hid (fwdI fs c = -1) := fiI_none fun j hj => HG.out j hj (by omega)
      go_wp2
      go_ret
      exact ⟨ret_int HE.out.symm, rfl⟩

theorem pfxI_is {s : ByteArray} {r : Bool} {w : World} (hs : s.size ≤ maxLen) (h : isPfx s = r) : Calls Tryz.prog 219 #[.string s] w fun e w' => e = .returned (.bool r) ∧ w = w' := by
  rw [← h]; exact impl_prefixValid s w hs
theorem nameI_is {s : ByteArray} {r : Bool} {w : World} (hs : s.size ≤ maxLen) (h : isName s = r) : Calls Tryz.prog 149 #[.string s] w fun e w' => e = .returned (.bool r) ∧ w = w' := by
  rw [← h]; exact impl_nameValid s w hs

set_option maxRecDepth 100000 in
set_option maxHeartbeats 1600000 in
theorem spec_RulesValid (v : Value) (fs : List Fwd) (w : World) (hv : rd w w.heap.size v fs) :
    Calls Tryz.prog 154 #[v] w fun e w' => e = .returned (.bool (rulesOk fs)) ∧ w = w' := by
  obtain ⟨A, n, cp, rfl, hn, hc, hm, hr⟩ := hv
  have hv0 := Lib.hid (show rd w w.heap.size (.slice A n cp) fs from ⟨A, n, cp, rfl, hn, hc, hm, hr⟩)
  subst hn
  unfold maxLen at hm
  have HR := Lib.hid hr; clear hr
  have l0 := Below.refl w.heap.size w
  go_enter Tryz.func154, Tryz.ntmps154
  go_wp2
  go_loop [3] (fun i => ∃ k : Nat, k ≤ fs.length ∧ i = .int .i64 k ∧ Hid (∀ j, j < k → goodR fs j = true)) (fun i => fs.length - (intOf i).toNat)
  case atStart => exact ⟨0, Nat.zero_le _, rfl, fun j hj => absurd hj (Nat.not_lt_zero j)⟩
  case round =>
    obtain ⟨k, hk, rfl, HG⟩ := hrel
    by_cases hlt : k < fs.length
    · obtain ⟨b, o, rfl, hb, ⟨ok1, ok2⟩, c1, c2⟩ := HR.out.fwdU k hlt
      have hG := Lib.hid (goodR_of hlt)
      have hS := Lib.hid (fwdI_self hlt)
      have hbad := Lib.hid (fun h => rulesOk_bad hlt h)
      generalize fs[k] = x at *
      have hki : (k : Int) < (fs.length : Int) := by omega
      go_wp2_with fail
      refine (spec_l2Prefix x.src _ ok1).mono ?_
      rintro e w1 ⟨rfl, rfl⟩
      cases h1 : isPfx x.src
      · have H1 := Lib.hid h1; clear h1
        go_wp2_with fail
        go_ret
        exact ⟨ret_bool (hbad.out (by rw [hG.out, H1.out]; rfl)).symm, rfl⟩
      have H1 := Lib.hid h1; clear h1
      go_wp2_with fail
      refine (spec_l6Name x.dst _ ok2).mono ?_
      rintro e w1 ⟨rfl, rfl⟩
      cases h2 : isName x.dst
      · have H2 := Lib.hid h2; clear h2
        go_wp2_with fail
        go_ret
        exact ⟨ret_bool (hbad.out (by rw [hG.out, H1.out, H2.out]; rfl)).symm, rfl⟩
      have H2 := Lib.hid h2; clear h2
      obtain ⟨r, HRR⟩ : ∃ r, Hid (fwdI fs x.src = r) := ⟨_, rfl⟩
      go_wp2_with fail
      refine (spec_l6Index _ fs x.src _ hv0.out).mono ?_
      rw [HRR.out]
      rintro e w1 ⟨rfl, rfl⟩
      cases h3 : (r == (k : Int))
      · have H3 := Lib.hid h3
        have h3' : (r != (k : Int)) = true := by rw [bne, h3]; rfl
        clear h3
        go_wp2_with fail
        go_ret
        exact ⟨ret_bool (hbad.out (by rw [hG.out, ← hS.out, HRR.out, H3.out]; simp)).symm, rfl⟩
      · have H3 := Lib.hid h3
        have h3' : (r != (k : Int)) = false := by rw [bne, h3]; rfl
        clear h3
        go_wp2_with fail
        go_round
        case rel =>
          refine ⟨k + 1, by omega, by go_num, fun j hj => ?_⟩
          by_cases hjk : j < k
          · exact HG.out j hjk
          · obtain rfl : j = k := by omega
            rw [hG.out, H1.out, H2.out, ← hS.out, HRR.out, H3.out]; rfl
        case measure => simp [intOf]; omega
    · have HE := Lib.hid (show k = fs.length by omega)
      by_cases h30 : fs.length ≤ 20
      · have H30 := Lib.hid h30
        have h30' : (fs.length : Int) ≤ 20 := by omega
        go_wp2_with fail
        go_ret
        exact ⟨ret_bool (rulesOk_good H30.out (by rw [← HE.out]; exact HG.out)).symm, rfl⟩
      · have H30 := Lib.hid h30
        have h30' : ¬ (fs.length : Int) ≤ 20 := by omega
        go_wp2_with fail
        go_ret
        exact ⟨ret_bool (rulesOk_len H30.out).symm, rfl⟩

set_option maxRecDepth 100000 in
set_option maxHeartbeats 1600000 in
theorem impl_RulesValid (v : Value) (fs : List Fwd) (w : World) (hv : rd w w.heap.size v fs) :
    Calls Tryz.prog 150 #[v] w fun e w' => e = .returned (.bool (rulesOk fs)) ∧ Below w.heap.size w w' := by
  obtain ⟨A, n, cp, rfl, hn, hc, hm, hr⟩ := hv
  have hv0 := Lib.hid (show rd w w.heap.size (.slice A n cp) fs from ⟨A, n, cp, rfl, hn, hc, hm, hr⟩)
  subst hn
  unfold maxLen at hm
  have HR := Lib.hid hr; clear hr
  have l0 := Below.refl w.heap.size w
  go_enter Tryz.func150, Tryz.ntmps150
  by_cases h30 : (20 : Int) < (fs.length : Int)
  · have HF := Lib.hid (show ¬ fs.length ≤ 20 by omega)
    go_wp2
    go_ret
    exact ⟨ret_bool (rulesOk_len HF.out).symm, l0⟩
  have H30 := Lib.hid (show fs.length ≤ 20 by omega)
  go_wp2
  go_loopw [10] (fun i wr => ∃ k : Nat, k ≤ fs.length ∧ i = .int .i64 k ∧ Below w.heap.size w wr ∧ Hid (∀ j, j < k → goodR fs j = true)) (fun i _ => fs.length - (intOf i).toNat)
  case atStart => exact ⟨0, Nat.zero_le _, rfl, l0, fun j hj => absurd hj (Nat.not_lt_zero j)⟩
  case round =>
    obtain ⟨k, hk, rfl, lr, HG⟩ := hrel
    obtain ⟨w1, rfl⟩ : ∃ w1 : World, w1 = wr := ⟨_, rfl⟩
    clear l0
    by_cases hlt : k < fs.length
    · obtain ⟨b, o, rfl, hb, ⟨ok1, ok2⟩, c1, c2⟩ := HR.out.fwdU k hlt
      have hG := Lib.hid (goodR_of hlt)
      have hbad := Lib.hid (fun h => rulesOk_bad hlt h)
      generalize fs[k] = x at *
      have hki : (k : Int) < (fs.length : Int) := by omega
      obtain ⟨wo, hwo⟩ : ∃ wo : World, wo = w1.alloc (Obj.cells #[.string x.src, .string x.dst] 174) := ⟨_, rfl⟩
      have lo : Below w.heap.size w wo := later_trans lr (box_later hwo).1
      have y0 := box_cells hwo 0 (.string x.src) rfl
      have y1 := box_cells hwo 1 (.string x.dst) rfl
      have lb := Below.refl wo.heap.size wo
      have hv1 := Lib.hid (hv0.out.on lo)
      have HWO := Lib.hid hwo; clear hwo
      cases h1 : isPfx x.src
      · have H1 := Lib.hid h1; clear h1
        have C1 := Lib.hid (fun w => pfxI_is (w := w) ok1 H1.out)
        go_wp2
        rw [← HWO.out]
        go_quiet (first | (go_at_call 219; refine quiet_c (C1.out _)))
        go_wp2
        go_ret
        exact ⟨ret_bool (hbad.out (by rw [hG.out, H1.out]; rfl)).symm, below_drewN lo _⟩
      have H1 := Lib.hid h1; clear h1
      have C1 := Lib.hid (fun w => pfxI_is (w := w) ok1 H1.out)
      cases h2 : isName x.dst
      · have H2 := Lib.hid h2; clear h2
        have C2 := Lib.hid (fun w => nameI_is (w := w) ok2 H2.out)
        go_wp2
        rw [← HWO.out]
        go_quiet (first | (go_at_call 219; refine quiet_c (C1.out _)) | (go_at_call 149; refine quiet_c (C2.out _)))
        go_wp2
        go_ret
        exact ⟨ret_bool (hbad.out (by rw [hG.out, H1.out, H2.out]; rfl)).symm, below_drewN lo _⟩
      have H2 := Lib.hid h2; clear h2
      have C2 := Lib.hid (fun w => nameI_is (w := w) ok2 H2.out)
      obtain ⟨r, HRR⟩ : ∃ r, Hid (fwdI (fs.take k) x.src = r) := ⟨_, rfl⟩
      have HGE := Lib.hid (fwdI_ge fs k x.src HRR.out)
      have C3 : Hid (∀ W, Below wo.heap.size wo W → Calls Tryz.prog 220 #[.slice (some ⟨b, o, none⟩) k cp, .string x.src] W fun e w' => e = .returned (.int .i64 r) ∧ Below W.heap.size W w') := fun W hW => by
        have h := impl_ruleOf (.slice (some ⟨b, o, none⟩) k cp) (fs.take k) x.src W ((hv1.out.on hW).take hk)
        rw [HRR.out] at h
        exact h
      have ld := later_drew lb
      have hkc : k ≤ cp := by omega
      have hkci : (k : Int) ≤ (cp : Int) := by omega
      by_cases hr0 : 0 ≤ r
      · have HD := Lib.hid (decide_eq_true hr0)
        go_wp2
        rw [← HWO.out]
        go_region_held3 (fun W => Below wo.heap.size wo W) (first | exact ld | exact later_trans ld b3) (first | (go_at_call 219; refine (C1.out _).mono ?_; rintro e w' ⟨rfl, rfl⟩) | (go_at_call 149; refine (C2.out _).mono ?_; rintro e w' ⟨rfl, rfl⟩) | (go_at_call 220; refine (C3.out _ ld).mono ?_; rintro e w3 ⟨rfl, b3⟩))
        have l3 := later_trans lo (later_trans ld b3)
        go_wp2
        go_ret
        exact ⟨ret_bool (hbad.out (by rw [hG.out, HGE.out, HD.out]; simp)).symm, l3⟩
      · have HD := Lib.hid (decide_eq_false hr0)
        go_wp2
        rw [← HWO.out]
        go_region_held3 (fun W => Below wo.heap.size wo W) (first | exact ld | exact later_trans ld b3) (first | (go_at_call 219; refine (C1.out _).mono ?_; rintro e w' ⟨rfl, rfl⟩) | (go_at_call 149; refine (C2.out _).mono ?_; rintro e w' ⟨rfl, rfl⟩) | (go_at_call 220; refine (C3.out _ ld).mono ?_; rintro e w3 ⟨rfl, b3⟩))
        have l3 := later_trans lo (later_trans ld b3)
        go_wp2
        go_roundw
        case rel =>
          refine ⟨k + 1, by omega, by go_num, l3, fun j hj => ?_⟩
          by_cases hjk : j < k
          · exact HG.out j hjk
          · obtain rfl : j = k := by omega
            rw [hG.out, H1.out, H2.out, HGE.out, HD.out]; rfl
        case measure => simp [intOf]; omega
    · have HE := Lib.hid (show k = fs.length by omega)
      go_wp2
      go_ret
      exact ⟨ret_bool (rulesOk_good H30.out (by rw [← HE.out]; exact HG.out)).symm, lr⟩

end Go.Proofs.YtpinkbodbedajaaGreatDoor
