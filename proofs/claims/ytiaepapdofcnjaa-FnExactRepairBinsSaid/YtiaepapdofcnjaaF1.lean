/- Orders: the walks of forwardOf, followOrders, ForwardsValid, heldValid of both texts. -/
import Derived.Test.YtiaepapdofcnjaaF0
import Derived.Test.YtiaepapdofcnjaaK4
import Derived.Test.YtiaepapdofcnjaaW3
namespace Go.Proofs.Ytiaepapdofcnjaa
open Go.RowKit

theorem ret_tup {a b : Value} (h : a = b) : Ending.returned a = .returned b := by rw [h]

set_option maxHeartbeats 400000 in
theorem impl_forwardOf (v : Value) (fs : List Fwd) (c : ByteArray) (w : World) (hv : rd w w.heap.size v fs) :
    Calls Try.prog 188 #[v, .string c] w fun e w' => e = .returned (.int .i64 (fwdI fs c)) ∧ Below w.heap.size w w' := by
  obtain ⟨A, n, cp, rfl, hn, hc, hm, hr⟩ := hv
  subst hn
  unfold maxLen at hm
  have HR := Lib.hid hr; clear hr
  have l0 := Below.refl w.heap.size w
  go_enter Try.func188, Try.ntmps188
  go_wp2
  go_loopw [9] (fun i wr => ∃ k : Nat, k ≤ fs.length ∧ i = .int .i64 k ∧ Below w.heap.size w wr ∧ Hid (∀ j (h : j < fs.length), j < k → sEq fs[j].src c = false)) (fun i _ => fs.length - (intOf i).toNat)
  case atStart => exact ⟨0, Nat.zero_le _, rfl, l0, fun j _ hj => absurd hj (Nat.not_lt_zero j)⟩
  case round =>
    obtain ⟨k, hk, rfl, lr, HG⟩ := hrel
    obtain ⟨w1, rfl⟩ : ∃ w1 : World, w1 = wr := ⟨_, rfl⟩
    by_cases hlt : k < fs.length
    · obtain ⟨b, o, rfl, hb, hok, c1, c2⟩ := HR.out.fwdU k hlt
      have HX : Hid (∀ h : sEq fs[k].src c = false, ∀ j (h1 : j < fs.length), j < k + 1 → sEq fs[j].src c = false) := fun h j h1 hj => by
        by_cases hjk : j < k
        · exact HG.out j h1 hjk
        · obtain rfl : j = k := by omega
          exact h
      have HY : Hid (∀ h : sEq fs[k].src c = true, fwdI fs c = k) := fun h => fiI_at hlt (fun j hj hjk => HG.out j hj hjk) h
      generalize fs[k] = x at *
      cases he : sEq x.src c
      · have he' := Lib.hid he
        have hq : (x.src.toList == c.toList) = false := he
        clear he
        go_wp2
        go_roundw
        case rel => exact ⟨k + 1, by omega, by go_num, later_alloc lr _, HX.out he'.out⟩
        case measure => simp [intOf]; omega
      · have he' := Lib.hid he
        have hq : (x.src.toList == c.toList) = true := he
        clear he
        go_wp2
        go_ret
        exact ⟨ret_int (HY.out he'.out).symm, later_alloc lr _⟩
    · have HE : Hid (fwdI fs c = -1) := fiI_none fun j hj => HG.out j hj (by omega)
      go_wp2
      go_ret
      exact ⟨ret_int HE.out.symm, lr⟩

set_option maxHeartbeats 400000 in
theorem spec_l4Index (v : Value) (fs : List Fwd) (c : ByteArray) (w : World) (hv : rd w w.heap.size v fs) :
    Calls Try.prog 187 #[v, .string c] w fun e w' => e = .returned (.int .i64 (fwdI fs c)) ∧ w = w' := by
  obtain ⟨A, n, cp, rfl, hn, hc, hm, hr⟩ := hv
  subst hn
  unfold maxLen at hm
  have HR := Lib.hid hr; clear hr
  have l0 := Below.refl w.heap.size w
  go_enter Try.func187, Try.ntmps187
  go_wp2
  go_loop [5] (fun i => ∃ k : Nat, k ≤ fs.length ∧ i = .int .i64 k ∧ Hid (∀ j (h : j < fs.length), j < k → sEq fs[j].src c = false)) (fun i => fs.length - (intOf i).toNat)
  case atStart => exact ⟨0, Nat.zero_le _, rfl, fun j _ hj => absurd hj (Nat.not_lt_zero j)⟩
  case round =>
    obtain ⟨k, hk, rfl, HG⟩ := hrel
    by_cases hlt : k < fs.length
    · obtain ⟨b, o, rfl, hb, hok, c1, c2⟩ := HR.out.fwdU k hlt
      have HX : Hid (∀ h : sEq fs[k].src c = false, ∀ j (h1 : j < fs.length), j < k + 1 → sEq fs[j].src c = false) := fun h j h1 hj => by
        by_cases hjk : j < k
        · exact HG.out j h1 hjk
        · obtain rfl : j = k := by omega
          exact h
      have HY : Hid (∀ h : sEq fs[k].src c = true, fwdI fs c = k) := fun h => fiI_at hlt (fun j hj hjk => HG.out j hj hjk) h
      generalize fs[k] = x at *
      cases he : sEq x.src c
      · have he' := Lib.hid he
        have hq : (x.src.toList == c.toList) = false := he
        clear he
        go_wp2
        go_round
        case rel => exact ⟨k + 1, by omega, by go_num, HX.out he'.out⟩
        case measure => simp [intOf]; omega
      · have he' := Lib.hid he
        have hq : (x.src.toList == c.toList) = true := he
        clear he
        go_wp2
        go_ret
        exact ⟨ret_int (HY.out he'.out).symm, rfl⟩
    · have HE : Hid (fwdI fs c = -1) := fiI_none fun j hj => HG.out j hj (by omega)
      go_wp2
      go_ret
      exact ⟨ret_int HE.out.symm, rfl⟩

set_option maxHeartbeats 400000 in
theorem impl_followOrders (v : Value) (fs : List Fwd) (c : ByteArray) (w : World) (hv : rd w w.heap.size v fs) (hcs : c.size ≤ maxLen) (hl : fs.length ≤ 1048576) :
    Calls Try.prog 155 #[v, .string c] w fun e w' => e = .returned (.tuple #[.string (follow fs c).1, .int .i64 ((follow fs c).2.1 : Nat), .bool (follow fs c).2.2]) ∧ Below w.heap.size w w' := by
  obtain ⟨A, n, cp, rfl, hn, hc, hm, hr⟩ := hv
  have hv0 := Lib.hid (show rd w w.heap.size (.slice A n cp) fs from ⟨A, n, cp, rfl, hn, hc, hm, hr⟩)
  subst hn
  unfold maxLen at hm hcs
  have HR := Lib.hid hr; clear hr
  have l0 := Below.refl w.heap.size w
  have HF : Hid (follow fs c = followN fs (fs.length + 1) c 0) := rfl
  go_enter Try.func155, Try.ntmps155
  go_wp2
  go_loopw [1, 7] (fun t i wr => ∃ (k : Nat) (d : ByteArray), k ≤ fs.length + 1 ∧ i = .int .i64 k ∧ t = .string d ∧ d.size ≤ 2 ^ 63 - 1 ∧ Below w.heap.size w wr ∧ Hid (follow fs c = followN fs (fs.length + 1 - k) d k)) (fun _ i _ => fs.length + 1 - (intOf i).toNat)
  case atStart => exact ⟨0, c, Nat.zero_le _, rfl, rfl, hcs, l0, HF.out⟩
  case round =>
    obtain ⟨k, d, hk, rfl, rfl, hds, lr, HG⟩ := hrel
    obtain ⟨w1, rfl⟩ : ∃ w1 : World, w1 = wr := ⟨_, rfl⟩
    clear l0
    by_cases hlt : k < fs.length + 1
    · have hlt' : (k : Int) ≤ (fs.length : Int) := by omega
      have HS : Hid (follow fs c = if fwdI fs d < 0 then (d, k, true) else followN fs (fs.length + 1 - (k + 1)) (fwdTo fs d) (k + 1)) := by
        show _ = _
        rw [HG.out, show fs.length + 1 - k = (fs.length + 1 - (k + 1)) + 1 by omega]; rfl
      obtain ⟨r, HRR⟩ : ∃ r, Hid (fwdI fs d = r) := ⟨_, rfl⟩
      have hrr := fiI_range (fun x : Fwd => sEq x.src d) fs
      rw [show fiI (fun x : Fwd => sEq x.src d) fs = r from HRR.out] at hrr
      go_wp2_with fail
      refine (impl_forwardOf _ fs d _ (hv0.out.on lr)).mono ?_
      rw [HRR.out]
      rintro e w2 ⟨rfl, b2⟩
      have l2 := later_trans lr b2
      by_cases hneg : r < 0
      · go_wp2_with fail
        go_ret3
        exact ⟨ret_tup (by rw [HS.out, HRR.out, if_pos hneg] <;> rfl), l2⟩
      · obtain ⟨q, rfl⟩ := Int.eq_ofNat_of_zero_le (show 0 ≤ r by omega)
        have hq : q < fs.length := by omega
        obtain ⟨b, o, rfl, hb, ⟨hok1, hok2⟩, c1, c2⟩ := HR.out.fwdU q hq
        have HT := Lib.hid (fwdTo_at HRR.out hq)
        generalize fs[q] = x at *
        unfold maxLen at hok2
        have hqi : (q : Int) < (fs.length : Int) := by omega
        go_wp2_with fail
        go_roundw
        case rel => exact ⟨k + 1, x.dst, by omega, by go_num, rfl, hok2, l2, by show _ = _; rw [HS.out, HRR.out, if_neg (by omega), HT.out]⟩
        case measure => simp [intOf]; omega
    · have hlt' : ¬ (k : Int) ≤ (fs.length : Int) := by omega
      have HE : Hid (follow fs c = (⟨#[]⟩, 0, false)) := by show _ = _; rw [HG.out, show fs.length + 1 - k = 0 by omega]; rfl
      go_wp2_with fail
      go_ret3
      exact ⟨ret_tup (by rw [HE.out] <;> rfl), lr⟩

set_option maxHeartbeats 400000 in
theorem spec_l4Resolve (v : Value) (fs : List Fwd) (c : ByteArray) (w : World) (hv : rd w w.heap.size v fs) (hcs : c.size ≤ maxLen) (hl : fs.length ≤ 1048576) :
    Calls Try.prog 148 #[v, .string c] w fun e w' => e = .returned (.tuple #[.string (follow fs c).1, .int .i64 ((follow fs c).2.1 : Nat), .bool (follow fs c).2.2]) ∧ Below w.heap.size w w' := by
  obtain ⟨A, n, cp, rfl, hn, hc, hm, hr⟩ := hv
  have hv0 := Lib.hid (show rd w w.heap.size (.slice A n cp) fs from ⟨A, n, cp, rfl, hn, hc, hm, hr⟩)
  subst hn
  unfold maxLen at hm hcs
  have HR := Lib.hid hr; clear hr
  have l0 := Below.refl w.heap.size w
  have HF : Hid (follow fs c = followN fs (fs.length + 1) c 0) := rfl
  go_enter Try.func148, Try.ntmps148
  go_wp2
  go_loopw [1, 7] (fun t i wr => ∃ (k : Nat) (d : ByteArray), k ≤ fs.length + 1 ∧ i = .int .i64 k ∧ t = .string d ∧ d.size ≤ 2 ^ 63 - 1 ∧ Below w.heap.size w wr ∧ Hid (follow fs c = followN fs (fs.length + 1 - k) d k)) (fun _ i _ => fs.length + 1 - (intOf i).toNat)
  case atStart => exact ⟨0, c, Nat.zero_le _, rfl, rfl, hcs, l0, HF.out⟩
  case round =>
    obtain ⟨k, d, hk, rfl, rfl, hds, lr, HG⟩ := hrel
    obtain ⟨w1, rfl⟩ : ∃ w1 : World, w1 = wr := ⟨_, rfl⟩
    clear l0
    by_cases hlt : k < fs.length + 1
    · have hlt' : (k : Int) ≤ (fs.length : Int) := by omega
      have HS : Hid (follow fs c = if fwdI fs d < 0 then (d, k, true) else followN fs (fs.length + 1 - (k + 1)) (fwdTo fs d) (k + 1)) := by
        show _ = _
        rw [HG.out, show fs.length + 1 - k = (fs.length + 1 - (k + 1)) + 1 by omega]; rfl
      obtain ⟨r, HRR⟩ : ∃ r, Hid (fwdI fs d = r) := ⟨_, rfl⟩
      have hrr := fiI_range (fun x : Fwd => sEq x.src d) fs
      rw [show fiI (fun x : Fwd => sEq x.src d) fs = r from HRR.out] at hrr
      go_wp2_with fail
      refine (spec_l4Index _ fs d _ (hv0.out.on lr)).mono ?_
      rw [HRR.out]
      rintro e w2 ⟨rfl, rfl⟩
      have l2 := lr
      by_cases hneg : r < 0
      · go_wp2_with fail
        go_ret3
        exact ⟨ret_tup (by rw [HS.out, HRR.out, if_pos hneg] <;> rfl), l2⟩
      · obtain ⟨q, rfl⟩ := Int.eq_ofNat_of_zero_le (show 0 ≤ r by omega)
        have hq : q < fs.length := by omega
        obtain ⟨b, o, rfl, hb, ⟨hok1, hok2⟩, c1, c2⟩ := HR.out.fwdU q hq
        have HT := Lib.hid (fwdTo_at HRR.out hq)
        generalize fs[q] = x at *
        unfold maxLen at hok2
        have hqi : (q : Int) < (fs.length : Int) := by omega
        go_wp2_with fail
        go_roundw
        case rel => exact ⟨k + 1, x.dst, by omega, by go_num, rfl, hok2, l2, by show _ = _; rw [HS.out, HRR.out, if_neg (by omega), HT.out]⟩
        case measure => simp [intOf]; omega
    · have hlt' : ¬ (k : Int) ≤ (fs.length : Int) := by omega
      have HE : Hid (follow fs c = (⟨#[]⟩, 0, false)) := by show _ = _; rw [HG.out, show fs.length + 1 - k = 0 by omega]; rfl
      go_wp2_with fail
      go_ret3
      exact ⟨ret_tup (by rw [HE.out] <;> rfl), lr⟩

theorem impl_sizeValid (n : Int) (w : World) : Calls Try.prog 153 #[.int .i64 n] w fun e w' => e = .returned (.bool (sizeOk n)) ∧ w = w' := by
  go_enter Try.func153, Try.ntmps153
  by_cases h1 : 1 ≤ n
  · go_wp2
    go_ret
    exact ⟨ret_bool (by simp [sizeOk, h1]), rfl⟩
  · go_wp2
    go_ret
    exact ⟨ret_bool (by unfold sizeOk; rw [decide_eq_false (p := 1 ≤ n) (by omega)]; rfl), rfl⟩
theorem spec_l5Size (n : Int) (w : World) : Calls Try.prog 147 #[.int .i64 n] w fun e w' => e = .returned (.bool (sizeOk n)) ∧ w = w' := by
  go_enter Try.func147, Try.ntmps147
  go_wp2_with fail
  refine (spec_l1In n 1 20 w).mono ?_
  rintro e w1 ⟨rfl, rfl⟩
  obtain ⟨r, HR⟩ : ∃ r, Hid ((decide (1 ≤ n) && decide (n ≤ 20)) = r) := ⟨_, rfl⟩
  rw [HR.out]
  go_wp2_with fail
  go_ret
  exact ⟨ret_bool HR.out.symm, rfl⟩

set_option maxHeartbeats 400000 in
theorem impl_heldValid (v : Value) (xs : List ByteArray) (w : World) (hv : rd w w.heap.size v xs) :
    Calls Try.prog 152 #[v] w fun e w' => e = .returned (.bool (heldOk xs)) ∧ w = w' := by
  obtain ⟨A, n, cp, rfl, hn, hc, hm, hr⟩ := hv
  subst hn
  unfold maxLen at hm
  have HR := Lib.hid hr; clear hr
  have l0 := Below.refl w.heap.size w
  go_enter Try.func152, Try.ntmps152
  by_cases h30 : (30 : Int) < (xs.length : Int)
  · have HF : Hid (heldOk xs = false) := by show _ = _; unfold heldOk; rw [decide_eq_false (by omega)]; rfl
    go_wp2
    go_ret
    exact ⟨ret_bool HF.out.symm, rfl⟩
  have H30 := Lib.hid (show xs.length ≤ 30 by omega)
  go_wp2
  go_loop [10] (fun i => ∃ k : Nat, k ≤ xs.length ∧ i = .int .i64 k ∧ Hid (∀ j (h : j < xs.length), j < k → isCode xs[j] = true)) (fun i => xs.length - (intOf i).toNat)
  case atStart => exact ⟨0, Nat.zero_le _, rfl, fun j _ hj => absurd hj (Nat.not_lt_zero j)⟩
  case round =>
    obtain ⟨k, hk, rfl, HG⟩ := hrel
    by_cases hlt : k < xs.length
    · obtain ⟨b, o, rfl, hb, hok, c1⟩ := HR.out.strU k hlt
      have HX : Hid (∀ h : isCode xs[k] = true, ∀ j (h1 : j < xs.length), j < k + 1 → isCode xs[j] = true) := fun h j h1 hj => by
        by_cases hjk : j < k
        · exact HG.out j h1 hjk
        · obtain rfl : j = k := by omega
          exact h
      have HY : Hid (∀ h : isCode xs[k] = false, heldOk xs = false) := fun h => by
        unfold heldOk
        rw [Bool.and_eq_false_iff]
        exact .inr (List.all_eq_false.2 ⟨xs[k], List.getElem_mem _, by simp [h]⟩)
      generalize xs[k] = x at *
      obtain ⟨r, HRR⟩ : ∃ r, Hid (isCode x = r) := ⟨_, rfl⟩
      go_wp2_with fail
      refine (impl_CodeValid x _ hok).mono ?_
      rw [HRR.out]
      rintro e w1 ⟨rfl, rfl⟩
      cases r
      · go_wp2_with fail
        go_ret
        exact ⟨ret_bool (HY.out HRR.out).symm, rfl⟩
      · go_wp2_with fail
        go_round
        case rel => exact ⟨k + 1, by omega, by go_num, HX.out HRR.out⟩
        case measure => simp [intOf]; omega
    · have HE : Hid (heldOk xs = true) := by
        show _ = _
        unfold heldOk
        rw [decide_eq_true H30.out]
        exact List.all_eq_true.2 fun x hx => by
          obtain ⟨j, hj, rfl⟩ := List.getElem_of_mem hx
          exact HG.out j hj (by omega)
      go_wp2
      go_ret
      exact ⟨ret_bool HE.out.symm, rfl⟩

end Go.Proofs.Ytiaepapdofcnjaa
