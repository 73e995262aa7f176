/- F2 NV BM B1 K5 -/
import Derived.Test.YtffbcfaahegglaaDoorQ7
import Derived.Test.YtffbcfaahegglaaDoorQ4
import Derived.Test.YtffbcfaahegglaaDoorQ3
import Derived.Test.YtffbcfaahegglaaDoorQ1
namespace Go.Proofs.YtffbcfaahegglaaDoor
open Go.RowKit

theorem codeI_is {s : ByteArray} {r : Bool} {w : World} (hs : s.size ≤ maxLen) (h : isCode s = r) : Calls Tryd.prog 68 #[.string s] w fun e w' => e = .returned (.bool r) ∧ w = w' := by
  rw [← h]; exact impl_CodeValid s w hs
theorem codeS_is {s : ByteArray} {r : Bool} {w : World} (hs : s.size ≤ maxLen) (h : isCode s = r) : Calls Tryd.prog 71 #[.string s] w fun e w' => e = .returned (.bool r) ∧ w = w' := by
  rw [← h]; exact spec_CodeValid s w hs
theorem fwdI_ge (fs : List Fwd) (k : Nat) (c : ByteArray) {r : Int} (h : fwdI (fs.take k) c = r) : (fs.take k).all (fun y => !sEq y.src c) = !decide (0 ≤ r) := by
  have := fiI_ge (fun y : Fwd => sEq y.src c) (fs.take k)
  rw [← h]
  unfold fwdI
  rw [this, Bool.not_not]
theorem fwdI_self {fs : List Fwd} {k : Nat} (h : k < fs.length) : (fwdI fs fs[k].src == (k : Int)) = (fs.take k).all (fun y => !sEq y.src fs[k].src) :=
  fiI_self (p := fun y : Fwd => sEq y.src fs[k].src) h (sEq_refl _)

set_option maxRecDepth 100000 in
set_option maxHeartbeats 1600000 in
theorem spec_ForwardsValid (v : Value) (fs : List Fwd) (w : World) (hv : rd w w.heap.size v fs) :
    Calls Tryd.prog 119 #[v] w fun e w' => e = .returned (.bool (fwdsOk fs)) ∧ w = w' := by
  obtain ⟨A, n, cp, rfl, hn, hc, hm, hr⟩ := hv
  have hv0 := Lib.hid (show rd w w.heap.size (.slice A n cp) fs from ⟨A, n, cp, rfl, hn, hc, hm, hr⟩)
  subst hn
  unfold maxLen at hm
  have HR := Lib.hid hr; clear hr
  have l0 := Below.refl w.heap.size w
  go_enter Tryd.func119, Tryd.ntmps119
  go_wp2
  go_loop [3] (fun i => ∃ k : Nat, k ≤ fs.length ∧ i = .int .i64 k ∧ Hid (∀ j, j < k → goodF fs j = true)) (fun i => fs.length - (intOf i).toNat)
  case atStart => exact ⟨0, Nat.zero_le _, rfl, fun j hj => absurd hj (Nat.not_lt_zero j)⟩
  case round =>
    obtain ⟨k, hk, rfl, HG⟩ := hrel
    by_cases hlt : k < fs.length
    · obtain ⟨b, o, rfl, hb, ⟨ok1, ok2⟩, c1, c2⟩ := HR.out.fwdU k hlt
      have hG := Lib.hid (goodF_of hlt)
      have hS := Lib.hid (fwdI_self hlt)
      have hbad := Lib.hid (fun h => fwdsOk_bad hlt h)
      generalize fs[k] = x at *
      have hki : (k : Int) < (fs.length : Int) := by omega
      go_wp2_with fail
      refine (spec_CodeValid x.src _ ok1).mono ?_
      rintro e w1 ⟨rfl, rfl⟩
      cases h1 : isCode x.src
      · have H1 := Lib.hid h1; clear h1
        go_wp2_with fail
        go_ret
        exact ⟨ret_bool (hbad.out (by rw [hG.out, H1.out]; rfl)).symm, rfl⟩
      have H1 := Lib.hid h1; clear h1
      go_wp2_with fail
      refine (spec_CodeValid x.dst _ ok2).mono ?_
      rintro e w1 ⟨rfl, rfl⟩
      cases h2 : isCode x.dst
      · have H2 := Lib.hid h2; clear h2
        go_wp2_with fail
        go_ret
        exact ⟨ret_bool (hbad.out (by rw [hG.out, H1.out, H2.out]; rfl)).symm, rfl⟩
      have H2 := Lib.hid h2; clear h2
      obtain ⟨r, HRR⟩ : ∃ r, Hid (fwdI fs x.src = r) := ⟨_, rfl⟩
      go_wp2_with fail
      refine (spec_l4Index _ fs x.src _ hv0.out).mono ?_
      rw [HRR.out]
      rintro e w1 ⟨rfl, rfl⟩
      cases h3 : (r == (k : Int))
      · have H3 := Lib.hid h3
        have h3' : (r != (k : Int)) = true := by rw [bne, h3]; rfl
        clear h3
        go_wp2_with fail
        go_ret
        exact ⟨ret_bool (hbad.out (by rw [hG.out, ← hS.out, HRR.out, H3.out]; simp)).symm, rfl⟩
      · have H3 := Lib.hid h3
        have h3' : (r != (k : Int)) = false := by rw [bne, h3]; rfl
        clear h3
        go_wp2_with fail
        go_round
        case rel =>
          refine ⟨k + 1, by omega, by go_num, fun j hj => ?_⟩
          by_cases hjk : j < k
          · exact HG.out j hjk
          · obtain rfl : j = k := by omega
            rw [hG.out, H1.out, H2.out, ← hS.out, HRR.out, H3.out]; rfl
        case measure => simp [intOf]; omega
    · have HE := Lib.hid (show k = fs.length by omega)
      by_cases h30 : fs.length ≤ 30
      · have H30 := Lib.hid h30
        have h30' : (fs.length : Int) ≤ 30 := by omega
        go_wp2_with fail
        go_ret
        exact ⟨ret_bool (fwdsOk_good H30.out (by rw [← HE.out]; exact HG.out)).symm, rfl⟩
      · have H30 := Lib.hid h30
        have h30' : ¬ (fs.length : Int) ≤ 30 := by omega
        go_wp2_with fail
        go_ret
        exact ⟨ret_bool (fwdsOk_len H30.out).symm, rfl⟩

/-- Where letters for a code arrive, if all is valid. -/
def resolve (fs : List Fwd) (c : ByteArray) : ByteArray × Nat × Bool := if isCode c && fwdsOk fs then follow fs c else (⟨#[]⟩, 0, false)


end Go.Proofs.YtffbcfaahegglaaDoor

namespace Go.Proofs.YtffbcfaahegglaaDoor
open Go.RowKit

set_option maxHeartbeats 400000 in
theorem impl_nameValid (s : ByteArray) (w : World) (hs : s.size ≤ maxLen) :
    Calls Tryd.prog 46 #[.string s] w fun e w' => e = .returned (.bool (isName s)) ∧ w = w' := by
  unfold maxLen at hs
  go_enter Tryd.func46, Tryd.ntmps46
  by_cases hz : 1 ≤ (s.size : Int) ∧ (s.size : Int) ≤ 8
  · obtain ⟨hz1, hz2⟩ := hz
    have HI : Hid (∀ b, lows s.data.toList = b → isName s = b) := fun b h => by unfold isName; rw [decide_eq_true hz1, decide_eq_true hz2, h]; simp
    go_wp2
    go_loop [3] (fun i => ∃ k : Nat, k ≤ s.size ∧ i = .int .i64 k ∧ lows (s.data.toList.take k) = true) (fun i => s.size - (intOf i).toNat)
    case atStart => exact ⟨0, Nat.zero_le _, rfl, rfl⟩
    case round =>
      obtain ⟨k, hk, rfl, hd⟩ := hrel
      by_cases hlt : k < s.size
      · have hsn := lows_take_succ s k hlt
        have hbad := Lib.hid (lows_bad s k hlt)
        rw [hd, Bool.true_and] at hsn
        have HS := Lib.hid hsn
        clear hsn hd
        go_wp2
        · go_ret
          exact ⟨ret_bool (HI.out _ (hbad.out (by unfold low; simp; omega))).symm, rfl⟩
        · go_round
          case rel => exact ⟨k + 1, by omega, by go_num, by rw [HS.out]; unfold low; simp; omega⟩
          case measure => simp [intOf]; omega
        · go_ret
          exact ⟨ret_bool (HI.out _ (hbad.out (by unfold low; simp; omega))).symm, rfl⟩
      · rw [List.take_of_length_le (by simp; omega)] at hd
        have HD := Lib.hid hd; clear hd
        go_wp2
        go_ret
        exact ⟨ret_bool (HI.out _ HD.out).symm, rfl⟩
  · have HF : Hid (isName s = false) := by
      show _ = _
      cases hq : isName s
      · rfl
      · have := (isName_iff.1 hq).2
        exact absurd ⟨by omega, by omega⟩ hz
    by_cases hz1 : (s.size : Int) < 1
    · go_wp2
      go_ret
      exact ⟨ret_bool HF.out.symm, rfl⟩
    · have hz2 : (8 : Int) < (s.size : Int) := by omega
      clear hz
      go_wp2
      go_ret
      exact ⟨ret_bool HF.out.symm, rfl⟩

set_option maxHeartbeats 400000 in
theorem spec_l6Name (s : ByteArray) (w : World) (hs : s.size ≤ maxLen) :
    Calls Tryd.prog 81 #[.string s] w fun e w' => e = .returned (.bool (isName s)) ∧ w = w' := by
  unfold maxLen at hs
  go_enter Tryd.func81, Tryd.ntmps81
  go_wp2
  go_loop [3] (fun i => ∃ k : Nat, k ≤ s.size ∧ i = .int .i64 k ∧ lows (s.data.toList.take k) = true) (fun i => s.size - (intOf i).toNat)
  case atStart => exact ⟨0, Nat.zero_le _, rfl, rfl⟩
  case round =>
    obtain ⟨k, hk, rfl, hd⟩ := hrel
    by_cases hlt : k < s.size
    · have hsn := lows_take_succ s k hlt
      have hbad := Lib.hid (lows_bad s k hlt)
      rw [hd, Bool.true_and] at hsn
      have HS := Lib.hid hsn
      clear hsn hd
      go_wp2
      · go_ret
        exact ⟨ret_bool (by unfold isName; rw [hbad.out (by unfold low; simp; omega)]; rfl), rfl⟩
      · go_round
        case rel => exact ⟨k + 1, by omega, by go_num, by rw [HS.out]; unfold low; simp; omega⟩
        case measure => simp [intOf]; omega
      · go_ret
        exact ⟨ret_bool (by unfold isName; rw [hbad.out (by unfold low; simp; omega)]; rfl), rfl⟩
    · rw [List.take_of_length_le (by simp; omega)] at hd
      have HD := Lib.hid hd; clear hd
      go_wp2_with fail
      refine (spec_l1In s.size 1 8 _).mono ?_
      rintro e w1 ⟨rfl, rfl⟩
      have HR : Hid (isName s = (decide (1 ≤ (s.size : Int)) && decide ((s.size : Int) ≤ 8))) := by show _ = _; unfold isName; rw [HD.out]; rfl
      obtain ⟨r, hr⟩ : ∃ r, (decide (1 ≤ (s.size : Int)) && decide ((s.size : Int) ≤ 8)) = r := ⟨_, rfl⟩
      rw [hr] at HR ⊢
      clear hr
      go_wp2_with fail
      go_ret
      exact ⟨ret_bool HR.out.symm, rfl⟩

theorem impl_prefixValid (s : ByteArray) (w : World) (hs : s.size ≤ maxLen) :
    Calls Tryd.prog 45 #[.string s] w fun e w' => e = .returned (.bool (isPfx s)) ∧ w = w' := by
  go_enter Tryd.func45, Tryd.ntmps45
  by_cases h7 : s.size ≤ 7
  · have h7' : (s.size : Int) ≤ 7 := by omega
    have HP : Hid (isPfx s = digs s.data.toList) := by show _ = _; unfold isPfx; rw [decide_eq_true h7, Bool.and_true]
    rw [HP.out]
    go_wp2_with (go_at_call 83; refine (impl_allDigits _ _ hs).mono ?_; rintro e w' ⟨rfl, rfl⟩)
    go_ret
    exact ⟨rfl, rfl⟩
  · have h7' : ¬ (s.size : Int) ≤ 7 := by omega
    have HP : Hid (isPfx s = false) := by show _ = _; unfold isPfx; rw [decide_eq_false h7, Bool.and_false]
    rw [HP.out]
    go_wp2
    go_ret
    exact ⟨rfl, rfl⟩
theorem spec_l2Prefix (s : ByteArray) (w : World) (hs : s.size ≤ maxLen) :
    Calls Tryd.prog 80 #[.string s] w fun e w' => e = .returned (.bool (isPfx s)) ∧ w = w' := by
  go_enter Tryd.func80, Tryd.ntmps80
  cases hd : (digs s.data.toList && decide (s.size ≤ 20))
  · have hd' := Lib.hid hd; clear hd
    go_wp2_with (go_at_call 101; refine (spec_DigitsValid _ _ hs).mono ?_; rw [hd'.out]; rintro e w' ⟨rfl, rfl⟩)
    go_ret
    refine ⟨ret_bool ?_, rfl⟩
    have := hd'.out
    simp only [isPfx, Bool.and_eq_false_iff, decide_eq_false_iff_not] at this ⊢
    rcases this with h | h
    · simp [h]
    · have h7 : ¬ s.size ≤ 7 := by omega
      simp [h7]
  · have hd' := Lib.hid hd; clear hd
    go_wp2_with (go_at_call 101; refine (spec_DigitsValid _ _ hs).mono ?_; rw [hd'.out]; rintro e w' ⟨rfl, rfl⟩)
    go_ret
    refine ⟨ret_bool ?_, rfl⟩
    have := hd'.out
    simp only [Bool.and_eq_true, decide_eq_true_iff] at this
    rw [Bool.eq_iff_iff]
    simp [isPfx, this.1]
    try omega

set_option maxHeartbeats 400000 in
theorem impl_ruleOf (v : Value) (fs : List Fwd) (c : ByteArray) (w : World) (hv : rd w w.heap.size v fs) :
    Calls Tryd.prog 47 #[v, .string c] w fun e w' => e = .returned (.int .i64 (fwdI fs c)) ∧ Below w.heap.size w w' := by
  obtain ⟨A, n, cp, rfl, hn, hc, hm, hr⟩ := hv
  subst hn
  unfold maxLen at hm
  have HR := Lib.hid hr; clear hr
  have l0 := Below.refl w.heap.size w
  go_enter Tryd.func47, Tryd.ntmps47
  go_wp2
  go_loopw [9] (fun i wr => ∃ k : Nat, k ≤ fs.length ∧ i = .int .i64 k ∧ Below w.heap.size w wr ∧ Hid (∀ j (h : j < fs.length), j < k → sEq fs[j].src c = false)) (fun i _ => fs.length - (intOf i).toNat)
  case atStart => exact ⟨0, Nat.zero_le _, rfl, l0, fun j _ hj => absurd hj (Nat.not_lt_zero j)⟩
  case round =>
    obtain ⟨k, hk, rfl, lr, HG⟩ := hrel
    obtain ⟨w1, rfl⟩ : ∃ w1 : World, w1 = wr := ⟨_, rfl⟩
    by_cases hlt : k < fs.length
    · obtain ⟨b, o, rfl, hb, hok, c1, c2⟩ := HR.out.fwdU k hlt
      have HX : Hid (∀ h : sEq fs[k].src c = false, ∀ j (h1 : j < fs.length), j < k + 1 → sEq fs[j].src c = false) := fun h j h1 hj => by
        by_cases hjk : j < k
        · exact HG.out j h1 hjk
        · obtain rfl : j = k := by omega
          exact h
      have HY : Hid (∀ h : sEq fs[k].src c = true, fwdI fs c = k) := fun h => fiI_at hlt (fun j hj hjk => HG.out j hj hjk) h
      generalize fs[k] = x at *
      cases he : sEq x.src c
      · have he' := Lib.hid he
        have hq : (x.src.toList == c.toList) = false := he
        clear he
        go_wp2
        go_roundw
        case rel => exact ⟨k + 1, by omega, by go_num, later_alloc lr _, HX.out he'.out⟩
        case measure => simp [intOf]; omega
      · have he' := Lib.hid he
        have hq : (x.src.toList == c.toList) = true := he
        clear he
        go_wp2
        go_ret
        exact ⟨ret_int (HY.out he'.out).symm, later_alloc lr _⟩
    · have HE : Hid (fwdI fs c = -1) := fiI_none fun j hj => HG.out j hj (by omega)
      go_wp2
      go_ret
      exact ⟨ret_int HE.out.symm, lr⟩

set_option maxHeartbeats 400000 in
theorem spec_l6Index (v : Value) (fs : List Fwd) (c : ByteArray) (w : World) (hv : rd w w.heap.size v fs) :
    Calls Tryd.prog 82 #[v, .string c] w fun e w' => e = .returned (.int .i64 (fwdI fs c)) ∧ w = w' := by
  obtain ⟨A, n, cp, rfl, hn, hc, hm, hr⟩ := hv
  subst hn
  unfold maxLen at hm
  have HR := Lib.hid hr; clear hr
  have l0 := Below.refl w.heap.size w
  go_enter Tryd.func82, Tryd.ntmps82
  go_wp2
  go_loop [5] (fun i => ∃ k : Nat, k ≤ fs.length ∧ i = .int .i64 k ∧ Hid (∀ j (h : j < fs.length), j < k → sEq fs[j].src c = false)) (fun i => fs.length - (intOf i).toNat)
  case atStart => exact ⟨0, Nat.zero_le _, rfl, fun j _ hj => absurd hj (Nat.not_lt_zero j)⟩
  case round =>
    obtain ⟨k, hk, rfl, HG⟩ := hrel
    by_cases hlt : k < fs.length
    · obtain ⟨b, o, rfl, hb, hok, c1, c2⟩ := HR.out.fwdU k hlt
      have HX : Hid (∀ h : sEq fs[k].src c = false, ∀ j (h1 : j < fs.length), j < k + 1 → sEq fs[j].src c = false) := fun h j h1 hj => by
        by_cases hjk : j < k
        · exact HG.out j h1 hjk
        · obtain rfl : j = k := by omega
          exact h
      have HY : Hid (∀ h : sEq fs[k].src c = true, fwdI fs c = k) := fun h => fiI_at hlt (fun j hj hjk => HG.out j hj hjk) h
      generalize fs[k] = x at *
      cases he : sEq x.src c
      · have he' := Lib.hid he
        have hq : (x.src.toList == c.toList) = false := he
        clear he
        go_wp2
        go_round
        case rel => exact ⟨k + 1, by omega, by go_num, HX.out he'.out⟩
        case measure => simp [intOf]; omega
      · have he' := Lib.hid he
        have hq : (x.src.toList == c.toList) = true := he
        clear he
        go_wp2
        go_ret
        exact ⟨ret_int (HY.out he'.out).symm, rfl⟩
    · have HE : Hid (fwdI fs c = -1) := fiI_none fun j hj => HG.out j hj (by omega)
      go_wp2
      go_ret
      exact ⟨ret_int HE.out.symm, rfl⟩

theorem pfxI_is {s : ByteArray} {r : Bool} {w : World} (hs : s.size ≤ maxLen) (h : isPfx s = r) : Calls Tryd.prog 45 #[.string s] w fun e w' => e = .returned (.bool r) ∧ w = w' := by
  rw [← h]; exact impl_prefixValid s w hs
theorem nameI_is {s : ByteArray} {r : Bool} {w : World} (hs : s.size ≤ maxLen) (h : isName s = r) : Calls Tryd.prog 46 #[.string s] w fun e w' => e = .returned (.bool r) ∧ w = w' := by
  rw [← h]; exact impl_nameValid s w hs

set_option maxRecDepth 100000 in
set_option maxHeartbeats 1600000 in
theorem spec_RulesValid (v : Value) (fs : List Fwd) (w : World) (hv : rd w w.heap.size v fs) :
    Calls Tryd.prog 43 #[v] w fun e w' => e = .returned (.bool (rulesOk fs)) ∧ w = w' := by
  obtain ⟨A, n, cp, rfl, hn, hc, hm, hr⟩ := hv
  have hv0 := Lib.hid (show rd w w.heap.size (.slice A n cp) fs from ⟨A, n, cp, rfl, hn, hc, hm, hr⟩)
  subst hn
  unfold maxLen at hm
  have HR := Lib.hid hr; clear hr
  have l0 := Below.refl w.heap.size w
  go_enter Tryd.func43, Tryd.ntmps43
  go_wp2
  go_loop [3] (fun i => ∃ k : Nat, k ≤ fs.length ∧ i = .int .i64 k ∧ Hid (∀ j, j < k → goodR fs j = true)) (fun i => fs.length - (intOf i).toNat)
  case atStart => exact ⟨0, Nat.zero_le _, rfl, fun j hj => absurd hj (Nat.not_lt_zero j)⟩
  case round =>
    obtain ⟨k, hk, rfl, HG⟩ := hrel
    by_cases hlt : k < fs.length
    · obtain ⟨b, o, rfl, hb, ⟨ok1, ok2⟩, c1, c2⟩ := HR.out.fwdU k hlt
      have hG := Lib.hid (goodR_of hlt)
      have hS := Lib.hid (fwdI_self hlt)
      have hbad := Lib.hid (fun h => rulesOk_bad hlt h)
      generalize fs[k] = x at *
      have hki : (k : Int) < (fs.length : Int) := by omega
      go_wp2_with fail
      refine (spec_l2Prefix x.src _ ok1).mono ?_
      rintro e w1 ⟨rfl, rfl⟩
      cases h1 : isPfx x.src
      · have H1 := Lib.hid h1; clear h1
        go_wp2_with fail
        go_ret
        exact ⟨ret_bool (hbad.out (by rw [hG.out, H1.out]; rfl)).symm, rfl⟩
      have H1 := Lib.hid h1; clear h1
      go_wp2_with fail
      refine (spec_l6Name x.dst _ ok2).mono ?_
      rintro e w1 ⟨rfl, rfl⟩
      cases h2 : isName x.dst
      · have H2 := Lib.hid h2; clear h2
        go_wp2_with fail
        go_ret
        exact ⟨ret_bool (hbad.out (by rw [hG.out, H1.out, H2.out]; rfl)).symm, rfl⟩
      have H2 := Lib.hid h2; clear h2
      obtain ⟨r, HRR⟩ : ∃ r, Hid (fwdI fs x.src = r) := ⟨_, rfl⟩
      go_wp2_with fail
      refine (spec_l6Index _ fs x.src _ hv0.out).mono ?_
      rw [HRR.out]
      rintro e w1 ⟨rfl, rfl⟩
      cases h3 : (r == (k : Int))
      · have H3 := Lib.hid h3
        have h3' : (r != (k : Int)) = true := by rw [bne, h3]; rfl
        clear h3
        go_wp2_with fail
        go_ret
        exact ⟨ret_bool (hbad.out (by rw [hG.out, ← hS.out, HRR.out, H3.out]; simp)).symm, rfl⟩
      · have H3 := Lib.hid h3
        have h3' : (r != (k : Int)) = false := by rw [bne, h3]; rfl
        clear h3
        go_wp2_with fail
        go_round
        case rel =>
          refine ⟨k + 1, by omega, by go_num, fun j hj => ?_⟩
          by_cases hjk : j < k
          · exact HG.out j hjk
          · obtain rfl : j = k := by omega
            rw [hG.out, H1.out, H2.out, ← hS.out, HRR.out, H3.out]; rfl
        case measure => simp [intOf]; omega
    · have HE := Lib.hid (show k = fs.length by omega)
      by_cases h30 : fs.length ≤ 20
      · have H30 := Lib.hid h30
        have h30' : (fs.length : Int) ≤ 20 := by omega
        go_wp2_with fail
        go_ret
        exact ⟨ret_bool (rulesOk_good H30.out (by rw [← HE.out]; exact HG.out)).symm, rfl⟩
      · have H30 := Lib.hid h30
        have h30' : ¬ (fs.length : Int) ≤ 20 := by omega
        go_wp2_with fail
        go_ret
        exact ⟨ret_bool (rulesOk_len H30.out).symm, rfl⟩

set_option maxRecDepth 100000 in
set_option maxHeartbeats 1600000 in
theorem impl_RulesValid (v : Value) (fs : List Fwd) (w : World) (hv : rd w w.heap.size v fs) :
    Calls Tryd.prog 16 #[v] w fun e w' => e = .returned (.bool (rulesOk fs)) ∧ Below w.heap.size w w' := by
  obtain ⟨A, n, cp, rfl, hn, hc, hm, hr⟩ := hv
  have hv0 := Lib.hid (show rd w w.heap.size (.slice A n cp) fs from ⟨A, n, cp, rfl, hn, hc, hm, hr⟩)
  subst hn
  unfold maxLen at hm
  have HR := Lib.hid hr; clear hr
  have l0 := Below.refl w.heap.size w
  go_enter Tryd.func16, Tryd.ntmps16
  by_cases h30 : (20 : Int) < (fs.length : Int)
  · have HF := Lib.hid (show ¬ fs.length ≤ 20 by omega)
    go_wp2
    go_ret
    exact ⟨ret_bool (rulesOk_len HF.out).symm, l0⟩
  have H30 := Lib.hid (show fs.length ≤ 20 by omega)
  go_wp2
  go_loopw [10] (fun i wr => ∃ k : Nat, k ≤ fs.length ∧ i = .int .i64 k ∧ Below w.heap.size w wr ∧ Hid (∀ j, j < k → goodR fs j = true)) (fun i _ => fs.length - (intOf i).toNat)
  case atStart => exact ⟨0, Nat.zero_le _, rfl, l0, fun j hj => absurd hj (Nat.not_lt_zero j)⟩
  case round =>
    obtain ⟨k, hk, rfl, lr, HG⟩ := hrel
    obtain ⟨w1, rfl⟩ : ∃ w1 : World, w1 = wr := ⟨_, rfl⟩
    clear l0
    by_cases hlt : k < fs.length
    · obtain ⟨b, o, rfl, hb, ⟨ok1, ok2⟩, c1, c2⟩ := HR.out.fwdU k hlt
      have hG := Lib.hid (goodR_of hlt)
      have hbad := Lib.hid (fun h => rulesOk_bad hlt h)
      generalize fs[k] = x at *
      have hki : (k : Int) < (fs.length : Int) := by omega
      obtain ⟨wo, hwo⟩ : ∃ wo : World, wo = w1.alloc (Obj.cells #[.string x.src, .string x.dst] 65) := ⟨_, rfl⟩
      have lo : Below w.heap.size w wo := later_trans lr (box_later hwo).1
      have y0 := box_cells hwo 0 (.string x.src) rfl
      have y1 := box_cells hwo 1 (.string x.dst) rfl
      have lb := Below.refl wo.heap.size wo
      have hv1 := Lib.hid (hv0.out.on lo)
      have HWO := Lib.hid hwo; clear hwo
      cases h1 : isPfx x.src
      · have H1 := Lib.hid h1; clear h1
        have C1 := Lib.hid (fun w => pfxI_is (w := w) ok1 H1.out)
        go_wp2
        rw [← HWO.out]
        go_quiet (first | (go_at_call 45; refine quiet_c (C1.out _)))
        go_wp2
        go_ret
        exact ⟨ret_bool (hbad.out (by rw [hG.out, H1.out]; rfl)).symm, below_drewN lo _⟩
      have H1 := Lib.hid h1; clear h1
      have C1 := Lib.hid (fun w => pfxI_is (w := w) ok1 H1.out)
      cases h2 : isName x.dst
      · have H2 := Lib.hid h2; clear h2
        have C2 := Lib.hid (fun w => nameI_is (w := w) ok2 H2.out)
        go_wp2
        rw [← HWO.out]
        go_quiet (first | (go_at_call 45; refine quiet_c (C1.out _)) | (go_at_call 46; refine quiet_c (C2.out _)))
        go_wp2
        go_ret
        exact ⟨ret_bool (hbad.out (by rw [hG.out, H1.out, H2.out]; rfl)).symm, below_drewN lo _⟩
      have H2 := Lib.hid h2; clear h2
      have C2 := Lib.hid (fun w => nameI_is (w := w) ok2 H2.out)
      obtain ⟨r, HRR⟩ : ∃ r, Hid (fwdI (fs.take k) x.src = r) := ⟨_, rfl⟩
      have HGE := Lib.hid (fwdI_ge fs k x.src HRR.out)
      have C3 : Hid (∀ W, Below wo.heap.size wo W → Calls Tryd.prog 47 #[.slice (some ⟨b, o, none⟩) k cp, .string x.src] W fun e w' => e = .returned (.int .i64 r) ∧ Below W.heap.size W w') := fun W hW => by
        have h := impl_ruleOf (.slice (some ⟨b, o, none⟩) k cp) (fs.take k) x.src W ((hv1.out.on hW).take hk)
        rw [HRR.out] at h
        exact h
      have ld := later_drew lb
      have hkc : k ≤ cp := by omega
      have hkci : (k : Int) ≤ (cp : Int) := by omega
      by_cases hr0 : 0 ≤ r
      · have HD := Lib.hid (decide_eq_true hr0)
        go_wp2
        rw [← HWO.out]
        go_region_held3 (fun W => Below wo.heap.size wo W) (first | exact ld | exact later_trans ld b3) (first | (go_at_call 45; refine (C1.out _).mono ?_; rintro e w' ⟨rfl, rfl⟩) | (go_at_call 46; refine (C2.out _).mono ?_; rintro e w' ⟨rfl, rfl⟩) | (go_at_call 47; refine (C3.out _ ld).mono ?_; rintro e w3 ⟨rfl, b3⟩))
        have l3 := later_trans lo (later_trans ld b3)
        go_wp2
        go_ret
        exact ⟨ret_bool (hbad.out (by rw [hG.out, HGE.out, HD.out]; simp)).symm, l3⟩
      · have HD := Lib.hid (decide_eq_false hr0)
        go_wp2
        rw [← HWO.out]
        go_region_held3 (fun W => Below wo.heap.size wo W) (first | exact ld | exact later_trans ld b3) (first | (go_at_call 45; refine (C1.out _).mono ?_; rintro e w' ⟨rfl, rfl⟩) | (go_at_call 46; refine (C2.out _).mono ?_; rintro e w' ⟨rfl, rfl⟩) | (go_at_call 47; refine (C3.out _ ld).mono ?_; rintro e w3 ⟨rfl, b3⟩))
        have l3 := later_trans lo (later_trans ld b3)
        go_wp2
        go_roundw
        case rel =>
          refine ⟨k + 1, by omega, by go_num, l3, fun j hj => ?_⟩
          by_cases hjk : j < k
          · exact HG.out j hjk
          · obtain rfl : j = k := by omega
            rw [hG.out, H1.out, H2.out, HGE.out, HD.out]; rfl
        case measure => simp [intOf]; omega
    · have HE := Lib.hid (show k = fs.length by omega)
      go_wp2
      go_ret
      exact ⟨ret_bool (rulesOk_good H30.out (by rw [← HE.out]; exact HG.out)).symm, lr⟩

end Go.Proofs.YtffbcfaahegglaaDoor

namespace Go.Proofs.YtffbcfaahegglaaDoor
open Go.RowKit

/-- The bin of the last missort of a letter; b if there is none. -/
def misBin (ms : List Mis) (x : Ltr) (b : Int) : Int := ms.foldl (fun b m => if m.id = x.id then m.bin else b) b
def binsOf (f : Ltr → Int) (n : Nat) (xs : List Ltr) : List (List Ltr) := (List.range n).map fun (k : Nat) => xs.filter fun x => f x == (k : Int)
def restOf (f : Ltr → Int) (xs : List Ltr) : List Ltr := xs.filter fun x => decide (f x < 0)
theorem binsOf_len (f : Ltr → Int) (n : Nat) (xs : List Ltr) : (binsOf f n xs).length = n := by simp [binsOf]
theorem binsOf_get (f : Ltr → Int) (n : Nat) (xs : List Ltr) (k : Nat) (h : k < (binsOf f n xs).length) : (binsOf f n xs)[k] = xs.filter fun x => f x == (k : Int) := by simp [binsOf]
theorem binsOf_nil (f : Ltr → Int) (n : Nat) : binsOf f n [] = List.replicate n [] := by
  apply List.ext_getElem
  · simp [binsOf]
  · intro i h1 h2; simp [binsOf]
theorem binsOf_step {f : Ltr → Int} {n : Nat} {xs : List Ltr} {k d : Nat} (h : k < xs.length) (hf : f xs[k] = (d : Int)) (hd : d < (binsOf f n (xs.take k)).length) :
    binsOf f n (xs.take (k + 1)) = (binsOf f n (xs.take k)).set d ((binsOf f n (xs.take k))[d] ++ [xs[k]]) := by
  apply List.ext_getElem
  · simp [binsOf]
  · intro i h1 h2
    simp only [List.getElem_set, binsOf_get]
    rw [List.take_succ_eq_append_getElem h, List.filter_append]
    by_cases hi : d = i
    · subst hi
      rw [if_pos rfl]
      simp [hf]
    · rw [if_neg hi]
      have : (f xs[k] == (i : Int)) = false := beq_eq_false_iff_ne.2 (by omega)
      simp [this]
theorem binsOf_skip {f : Ltr → Int} {n : Nat} {xs : List Ltr} {k : Nat} (h : k < xs.length) (hf : f xs[k] < 0) : binsOf f n (xs.take (k + 1)) = binsOf f n (xs.take k) := by
  apply List.ext_getElem
  · simp [binsOf]
  · intro i h1 h2
    rw [binsOf_get, binsOf_get, List.take_succ_eq_append_getElem h, List.filter_append]
    have : (f xs[k] == (i : Int)) = false := beq_eq_false_iff_ne.2 (by omega)
    simp [this]
theorem restOf_step {f : Ltr → Int} {xs : List Ltr} {k : Nat} (h : k < xs.length) (hf : f xs[k] < 0) : restOf f (xs.take (k + 1)) = restOf f (xs.take k) ++ [xs[k]] := by
  unfold restOf
  rw [List.take_succ_eq_append_getElem h, List.filter_append]
  simp [hf]
theorem restOf_skip {f : Ltr → Int} {xs : List Ltr} {k : Nat} (h : k < xs.length) (hf : 0 ≤ f xs[k]) : restOf f (xs.take (k + 1)) = restOf f (xs.take k) := by
  unfold restOf
  rw [List.take_succ_eq_append_getElem h, List.filter_append]
  simp
  omega
theorem filter_len_le {α : Type} (p : α → Bool) (xs : List α) (k : Nat) : ((xs.take k).filter p).length ≤ k := by
  have h1 := List.length_filter_le p (xs.take k)
  have h2 := List.length_take_le k xs
  omega
theorem binI_neg {p : Pln} {c : ByteArray} {k : Nat} (h : rkI p.order c < 0) : binI p c k = -1 := by unfold binI; rw [if_pos h]
theorem binI_pos {p : Pln} {c : ByteArray} {k : Nat} (h : ¬ rkI p.order c < 0) : binI p c k = rkI p.order c / powI p.bins k % p.bins := by unfold binI; rw [if_neg h]
theorem binI_range (p : Pln) (c : ByteArray) (k : Nat) (hb : 2 ≤ p.bins) : -1 ≤ binI p c k ∧ binI p c k < p.bins := by
  unfold binI
  split
  · omega
  · have h1 := Int.emod_nonneg (rkI p.order c / powI p.bins k) (show p.bins ≠ 0 by omega)
    have h2 := Int.emod_lt_of_pos (rkI p.order c / powI p.bins k) (show 0 < p.bins by omega)
    omega
theorem misBin_range {ms : List Mis} {n : Int} (h : ∀ m ∈ ms, 0 ≤ m.bin ∧ m.bin < n) (x : Ltr) : ∀ b, -1 ≤ b ∧ b < n → -1 ≤ misBin ms x b ∧ misBin ms x b < n := by
  unfold misBin
  induction ms with
  | nil => intro b hb; exact hb
  | cons m ms ih =>
    intro b hb
    simp only [List.foldl_cons]
    refine ih (fun m' hm' => h m' (List.mem_cons_of_mem _ hm')) _ ?_
    split
    · have := h m (List.mem_cons_self ..); omega
    · exact hb
theorem misBin_take {ms : List Mis} {k : Nat} (h : k < ms.length) (x : Ltr) (b : Int) : misBin (ms.take (k + 1)) x b = if ms[k].id = x.id then ms[k].bin else misBin (ms.take k) x b := by
  unfold misBin
  rw [List.take_succ_eq_append_getElem h, List.foldl_append]; rfl
/-- One pass. -/
def pass1 (p : Pln) (k : Nat) (xs : List Ltr) : List Ltr := (binsOf (fun x => binI p x.code k) p.bins.toNat xs).flatten
/-- The passes from k on, n of them. -/
def passesN (p : Pln) : Nat → Nat → List Ltr → List Ltr
  | _, 0, xs => xs
  | k, n + 1, xs => passesN p (k + 1) n (pass1 p k xs)
theorem passesN_succ (p : Pln) : ∀ (n k : Nat) (xs : List Ltr), passesN p k (n + 1) xs = pass1 p (k + n) (passesN p k n xs)
  | 0, k, xs => rfl
  | n + 1, k, xs => by
    show passesN p (k + 1) (n + 1) (pass1 p k xs) = pass1 p (k + (n + 1)) (passesN p (k + 1) n (pass1 p k xs))
    rw [passesN_succ p n (k + 1), show k + 1 + n = k + (n + 1) by omega]
/-- What falls out. -/
def outN (p : Pln) : Nat → Nat → List Ltr → List Ltr
  | _, 0, _ => []
  | k, n + 1, xs => restOf (fun x => binI p x.code k) xs ++ outN p (k + 1) n (pass1 p k xs)
theorem outN_succ (p : Pln) : ∀ (n k : Nat) (xs : List Ltr), outN p k (n + 1) xs = outN p k n xs ++ restOf (fun x => binI p x.code (k + n)) (passesN p k n xs)
  | 0, k, xs => by show restOf _ xs ++ [] = [] ++ restOf _ xs; simp
  | n + 1, k, xs => by
    show restOf _ xs ++ outN p (k + 1) (n + 1) (pass1 p k xs) = (restOf _ xs ++ outN p (k + 1) n (pass1 p k xs)) ++ restOf (fun x => binI p x.code (k + (n + 1))) (passesN p (k + 1) n (pass1 p k xs))
    rw [outN_succ p n (k + 1), show k + 1 + n = k + (n + 1) by omega, List.append_assoc]
theorem binsOf_mem {f : Ltr → Int} {n : Nat} {xs : List Ltr} {x : Ltr} : x ∈ (binsOf f n xs).flatten ↔ x ∈ xs ∧ 0 ≤ f x ∧ f x < n := by
  simp only [binsOf, List.mem_flatten, List.mem_map, List.mem_range]
  constructor
  · rintro ⟨l, ⟨k, hk, rfl⟩, hx⟩
    simp only [List.mem_filter, beq_iff_eq] at hx
    exact ⟨hx.1, by omega, by omega⟩
  · rintro ⟨h1, h2, h3⟩
    obtain ⟨k, hk⟩ := Int.eq_ofNat_of_zero_le h2
    exact ⟨_, ⟨k, by omega, rfl⟩, by simp [h1, hk]⟩
theorem binI_rank {p : Pln} {c : ByteArray} {k : Nat} (hb : 2 ≤ p.bins) : binI p c k < 0 ↔ rkI p.order c < 0 := by
  unfold binI
  split
  · rename_i h; simp [h]
  · rename_i h
    have h1 := Int.emod_nonneg (rkI p.order c / powI p.bins k) (show p.bins ≠ 0 by omega)
    omega
theorem flatten_length_binsOf {f : Ltr → Int} {n : Nat} (xs : List Ltr) : (binsOf f n xs).flatten.length ≤ xs.length := by
  induction xs with
  | nil => rw [binsOf_nil]; simp
  | cons x xs ih =>
    have key : ∀ m, ((List.range m).map fun (k : Nat) => ((x :: xs).filter fun y => f y == (k : Int))).flatten.length = ((List.range m).map fun (k : Nat) => (xs.filter fun y => f y == (k : Int))).flatten.length + (if 0 ≤ f x ∧ f x < m then 1 else 0) := fun m => by
      induction m with
      | zero => simp
      | succ m ihm =>
        rw [List.range_succ, List.map_append, List.map_append, List.flatten_append, List.flatten_append, List.length_append, List.length_append, ihm]
        simp only [List.map_cons, List.map_nil, List.flatten_cons, List.flatten_nil, List.append_nil, List.filter_cons]
        by_cases h : f x = (m : Int)
        · simp only [h, beq_self_eq_true, if_true, List.length_cons]
          rw [if_neg (by omega), if_pos (by omega)]; omega
        · have hb : (f x == (m : Int)) = false := beq_eq_false_iff_ne.2 h
          simp only [hb, Bool.false_eq_true, if_false]
          by_cases h2 : 0 ≤ f x ∧ f x < m
          · rw [if_pos h2, if_pos (by omega)]; omega
          · rw [if_neg h2, if_neg (by omega)]; omega
    unfold binsOf at *
    rw [key n, List.length_cons]
    split <;> omega
theorem pass1_len (p : Pln) (k : Nat) (xs : List Ltr) : (pass1 p k xs).length ≤ xs.length := flatten_length_binsOf xs
theorem passesN_len (p : Pln) : ∀ (n k : Nat) (xs : List Ltr), (passesN p k n xs).length ≤ xs.length
  | 0, _, _ => Nat.le_refl _
  | n + 1, k, xs => Nat.le_trans (passesN_len p n (k + 1) _) (pass1_len p k xs)
/-- Behind a pass all letters have a rank: none falls out any more. -/
theorem rest_after {p : Pln} (hb : 2 ≤ p.bins) (j k : Nat) (xs : List Ltr) : restOf (fun x => binI p x.code j) (pass1 p k xs) = [] := by
  unfold restOf
  rw [List.filter_eq_nil_iff]
  intro x hx
  have h := (binsOf_mem.1 hx).2.1
  have h2 := (binI_rank (p := p) (c := x.code) (k := j) hb)
  have h3 := (binI_rank (p := p) (c := x.code) (k := k) hb)
  simp only [decide_eq_true_eq]
  intro h4
  have := h3.2 (h2.1 h4)
  omega
theorem outN_first {p : Pln} (hb : 2 ≤ p.bins) (k n : Nat) (xs : List Ltr) : outN p k (n + 1) xs = restOf (fun x => binI p x.code k) xs := by
  have h : ∀ (n j k : Nat) (ys : List Ltr), outN p j n (pass1 p k ys) = [] := by
    intro n
    induction n with
    | zero => intro j k ys; rfl
    | succ n ih =>
      intro j k ys
      show restOf _ (pass1 p k ys) ++ outN p (j + 1) n (pass1 p j (pass1 p k ys)) = []
      rw [rest_after hb, ih]; rfl
  show restOf _ xs ++ outN p (k + 1) n (pass1 p k xs) = _
  rw [h, List.append_nil]
def passOk (p : Pln) (k : Int) : Bool := planOk p && (decide (0 ≤ k) && decide (k < p.passes))
theorem passOk_iff {p : Pln} {k : Int} : passOk p k = true ↔ planOk p = true ∧ 0 ≤ k ∧ k < p.passes := by
  unfold passOk; simp only [Bool.and_eq_true, decide_eq_true_iff]
theorem planOk_bins {p : Pln} (h : planOk p = true) : 2 ≤ p.bins ∧ p.bins ≤ 16 ∧ 1 ≤ p.passes ∧ p.passes ≤ 4 ∧ p.order.length ≤ 60 := by
  unfold planOk shapeOk at h
  simp only [Bool.and_eq_true, decide_eq_true_iff] at h
  omega

end Go.Proofs.YtffbcfaahegglaaDoor

namespace Go.Proofs.YtffbcfaahegglaaDoor
open Go.RowKit

set_option maxHeartbeats 400000 in
theorem impl_BatchValid (v : Value) (xs : List Ltr) (w : World) (hv : rd w w.heap.size v xs) :
    Calls Tryd.prog 33 #[v] w fun e w' => e = .returned (.bool (okB xs)) ∧ Below w.heap.size w w' := by
  obtain ⟨A, n, c, rfl, hn, hc, hm, hr⟩ := hv
  subst hn
  unfold maxLen at hm
  have HR := Lib.hid hr; clear hr
  go_enter Tryd.func33, Tryd.ntmps33
  by_cases h60 : 60 < xs.length
  · go_wp2
    go_ret
    exact ⟨ret_bool (by unfold okB; simp; omega), Below.refl _ _⟩
  · go_wp2
    go_loopw [12] (fun i wr => ∃ k : Nat, k ≤ xs.length ∧ i = .int .i64 k ∧ Below w.heap.size w wr ∧ Hid (∀ j, j < k → goodL xs j = true)) (fun i _ => xs.length - (intOf i).toNat)
    case atStart => exact ⟨0, Nat.zero_le _, rfl, Below.refl _ _, fun j hj => absurd hj (Nat.not_lt_zero j)⟩
    case round =>
      obtain ⟨k, hk, rfl, hbl, HG⟩ := hrel
      obtain ⟨w1, rfl⟩ : ∃ w1 : World, w1 = wr := ⟨_, rfl⟩
      have hsz := hbl.size
      by_cases hlt : k < xs.length
      · obtain ⟨b, o, rfl, hb, ⟨⟨o1, o2⟩, o3⟩, c1, c2⟩ := HR.out.ltr k hlt
        have hG := Lib.hid (goodL_of hlt)
        have hbad := Lib.hid (fun h => okB_bad hlt h)
        have HX : Hid (∀ j (h : j < k), xs[j] = xs[j]'(by omega)) := fun _ _ => rfl
        have HT : Hid (xs.take k = xs.take k) := rfl
        generalize hx : xs[k] = x at *
        have HXK := Lib.hid hx; clear hx
        have c1' : w1.cell? ⟨b, o + k * 2, none⟩ = some (.int .i64 x.id) := (hbl.cell (p := ⟨b, o + k * 2, none⟩) hb).trans c1
        have c2' : w1.cell? ⟨b, o + k * 2 + 1, none⟩ = some (.string x.code) := (hbl.cell (p := ⟨b, o + k * 2 + 1, none⟩) hb).trans c2
        clear c1 c2
        by_cases h1 : x.id < 1
        · go_wp2
          go_ret
          exact ⟨ret_bool (hbad.out (by rw [hG.out]; simp; omega)).symm, hbl.alloc hsz _⟩
        by_cases h2 : 9999 < x.id
        · go_wp2
          go_ret
          exact ⟨ret_bool (hbad.out (by rw [hG.out]; simp; omega)).symm, hbl.alloc hsz _⟩
        cases hcd : isCode x.code
        · have hcd' := Lib.hid hcd; clear hcd
          go_wp2_with (go_at_call 68; refine (impl_CodeValid _ _ o3).mono ?_; rw [hcd'.out]; rintro e w' ⟨rfl, rfl⟩)
          go_ret
          exact ⟨ret_bool (hbad.out (by rw [hG.out, hcd'.out]; simp)).symm, hbl.alloc hsz _⟩
        · have hcd' := Lib.hid hcd; clear hcd
          go_wp2_with (go_at_call 68; refine (impl_CodeValid _ _ o3).mono ?_; rw [hcd'.out]; rintro e w' ⟨rfl, rfl⟩)
          obtain ⟨wo, hwo⟩ : ∃ wo : World, wo = w1.alloc (Obj.cells #[Value.int IntKind.i64 x.id, Value.string x.code] 98) := ⟨_, rfl⟩
          have g1 : wo.cell? ⟨w1.heap.size, 0, none⟩ = some (.int .i64 x.id) := by subst hwo; simp [go_sem]
          have hwz : wo.heap.size = w1.heap.size + 1 := by subst hwo; simp
          have hbo : Below w.heap.size w wo := by subst hwo; exact hbl.alloc hsz _
          rw [← hwo]
          have HZ := Lib.hid hwz
          have hwz2 : w1.heap.size < wo.heap.size := by omega
          clear hwo hwz
          go_loopw [35] (fun i wi => ∃ m : Nat, m ≤ k ∧ i = .int .i64 m ∧ Below wo.heap.size wo wi ∧ Hid ((xs.take m).all (fun y => y.id != x.id) = true)) (fun i _ => k - (intOf i).toNat)
          case atStart => exact ⟨0, Nat.zero_le _, rfl, Below.refl _ _, rfl⟩
          case round =>
            obtain ⟨m, hm, rfl, hbi, HA⟩ := hrel
            have hsi := hbi.size
            have hw2 := hbo.size
            have hw3 : w1.heap.size < wr.heap.size := by omega
            have hbw : Below w.heap.size w wr := hbo.trans (hbi.mono hw2)
            have g1' : wr.cell? ⟨w1.heap.size, 0, none⟩ = some (.int .i64 x.id) := (hbi.cell (p := ⟨w1.heap.size, 0, none⟩) hwz2).trans g1
            clear g1
            by_cases hmk : m < k
            · obtain ⟨b', o', hA, _, ⟨⟨p1, p2⟩, p3⟩, d1, d2⟩ := HR.out.ltr m (by omega)
              have hT := Lib.hid (take_all_succ (p := fun y : Ltr => y.id != x.id) xs m (by omega))
              have hI := Lib.hid (take_all_bad (p := fun y : Ltr => y.id != x.id) xs m k (by omega) hmk)
              generalize xs[m] = y at *
              injection hA with hA
              injection hA with hA1 hA2
              subst hA1 hA2
              have d1' : wr.cell? ⟨b, o + m * 2, none⟩ = some (.int .i64 y.id) := (hbw.cell (p := ⟨b, o + m * 2, none⟩) hb).trans d1
              have d2' : wr.cell? ⟨b, o + m * 2 + 1, none⟩ = some (.string y.code) := (hbw.cell (p := ⟨b, o + m * 2 + 1, none⟩) hb).trans d2
              clear d1 d2
              by_cases hyx : y.id = x.id
              · have hyx' : (y.id == x.id) = true := by simpa using hyx
                have HY := Lib.hid hyx; clear hyx
                go_wp2
                go_ret
                exact ⟨ret_bool (hbad.out (by rw [hG.out, hI.out (by simp [HY.out])]; simp)).symm, hbw.alloc (by omega) _⟩
              · have hyx' : (y.id == x.id) = false := by simpa using hyx
                have HY := Lib.hid hyx; clear hyx
                go_wp2
                go_roundw
                case rel => exact ⟨m + 1, by omega, by go_num, hbi.alloc hsi _, by show _ = true; rw [hT.out, HA.out]; simpa using HY.out⟩
                case measure => simp [intOf]; omega
            · have hme : m = k := by omega
              have HE := Lib.hid hme; clear hme
              go_wp2
              go_roundw
              case rel =>
                refine ⟨k + 1, by omega, by go_num, hbw, fun j hj => ?_⟩
                by_cases hjk : j < k
                · exact HG.out j hjk
                · obtain rfl : j = k := by omega
                  rw [hG.out, hcd'.out, ← HE.out, HA.out]; simp; omega
              case measure => simp [intOf]; omega
      · have hke : k = xs.length := by omega
        have HE := Lib.hid hke; clear hke
        go_wp2
        go_ret
        exact ⟨ret_bool (okB_good (by omega) (by rw [← HE.out]; exact HG.out)).symm, hbl⟩

set_option maxHeartbeats 400000 in
theorem spec_BatchValid (v : Value) (xs : List Ltr) (w : World) (hv : rd w w.heap.size v xs) :
    Calls Tryd.prog 36 #[v] w fun e w' => e = .returned (.bool (okB xs)) ∧ Below w.heap.size w w' := by
  obtain ⟨A, n, c, rfl, hn, hc, hm, hr⟩ := hv
  subst hn
  unfold maxLen at hm
  have HR := Lib.hid hr; clear hr
  go_enter Tryd.func36, Tryd.ntmps36
  go_wp2
  go_loopw [3] (fun i wr => ∃ k : Nat, k ≤ xs.length ∧ i = .int .i64 k ∧ Below w.heap.size w wr ∧ Hid (∀ j, j < k → goodL xs j = true)) (fun i _ => xs.length - (intOf i).toNat)
  case atStart => exact ⟨0, Nat.zero_le _, rfl, Below.refl _ _, fun j hj => absurd hj (Nat.not_lt_zero j)⟩
  case round =>
    obtain ⟨k, hk, rfl, hbl, HG⟩ := hrel
    obtain ⟨w1, rfl⟩ : ∃ w1 : World, w1 = wr := ⟨_, rfl⟩
    have hsz := hbl.size
    by_cases hlt : k < xs.length
    · obtain ⟨b, o, rfl, hb, ⟨⟨o1, o2⟩, o3⟩, c1, c2⟩ := HR.out.ltr k hlt
      have hG := Lib.hid (goodL_of hlt)
      have hbad := Lib.hid (fun h => okB_bad hlt h)
      generalize hx : xs[k] = x at *
      have HXK := Lib.hid hx; clear hx
      have c1' : w1.cell? ⟨b, o + k * 2, none⟩ = some (.int .i64 x.id) := (hbl.cell (p := ⟨b, o + k * 2, none⟩) hb).trans c1
      have c2' : w1.cell? ⟨b, o + k * 2 + 1, none⟩ = some (.string x.code) := (hbl.cell (p := ⟨b, o + k * 2 + 1, none⟩) hb).trans c2
      cases hcd : isCode x.code
      · have hcd' := Lib.hid hcd; clear hcd
        go_wp2_with (go_at_call 71; refine (spec_CodeValid _ _ o3).mono ?_; rw [hcd'.out]; rintro e w' ⟨rfl, rfl⟩)
        go_ret
        exact ⟨ret_bool (hbad.out (by rw [hG.out, hcd'.out]; simp)).symm, hbl⟩
      have hcd' := Lib.hid hcd; clear hcd
      cases hid : (decide (1 ≤ x.id) && decide (x.id ≤ 9999))
      · have hid' := Lib.hid hid; clear hid
        go_wp2_with (first | (go_at_call 71; refine (spec_CodeValid _ _ o3).mono ?_; rw [hcd'.out]; rintro e w' ⟨rfl, rfl⟩) | (go_at_call 72; refine (spec_l1In _ _ _ _).mono ?_; rw [hid'.out]; rintro e w' ⟨rfl, rfl⟩))
        go_ret
        exact ⟨ret_bool (hbad.out (by rw [hG.out, hid'.out]; simp)).symm, hbl⟩
      have hid' := Lib.hid hid; clear hid
      go_wp2_with (first | (go_at_call 71; refine (spec_CodeValid _ _ o3).mono ?_; rw [hcd'.out]; rintro e w' ⟨rfl, rfl⟩) | (go_at_call 72; refine (spec_l1In _ _ _ _).mono ?_; rw [hid'.out]; rintro e w' ⟨rfl, rfl⟩))
      go_loopw [4] (fun i wr => ∃ m : Nat, m ≤ k ∧ i = .int .i64 m ∧ Below w.heap.size w wr ∧ Hid ((xs.take m).all (fun y => y.id != x.id) = true)) (fun i _ => k - (intOf i).toNat)
      case atStart => exact ⟨0, Nat.zero_le _, rfl, hbl, rfl⟩
      case round =>
        obtain ⟨m, hm', rfl, hbw, HA⟩ := hrel
        have hsi := hbw.size
        clear c1' c2'
        have c1' : wr.cell? ⟨b, o + k * 2, none⟩ = some (.int .i64 x.id) := (hbw.cell (p := ⟨b, o + k * 2, none⟩) hb).trans c1
        by_cases hmk : m < k
        · obtain ⟨b', o', hA, _, _, d1, d2⟩ := HR.out.ltr m (by omega)
          have hT := Lib.hid (take_all_succ (p := fun y : Ltr => y.id != x.id) xs m (by omega))
          have hI := Lib.hid (take_all_bad (p := fun y : Ltr => y.id != x.id) xs m k (by omega) hmk)
          generalize xs[m] = y at *
          injection hA with hA
          injection hA with hA1 hA2
          subst hA1 hA2
          have d1' : wr.cell? ⟨b, o + m * 2, none⟩ = some (.int .i64 y.id) := (hbw.cell (p := ⟨b, o + m * 2, none⟩) hb).trans d1
          clear d1 d2 c1 c2
          have hml : (m : Int) < (xs.length : Int) := by omega
          have hkl : (k : Int) < (xs.length : Int) := by omega
          by_cases hyx : y.id = x.id
          · have hyx' : (y.id == x.id) = true := by simpa using hyx
            have HY := Lib.hid hyx; clear hyx
            go_wp2
            go_quiet (fail)
            go_wp2
            go_ret
            exact ⟨ret_bool (hbad.out (by rw [hG.out, hI.out (by simp [HY.out])]; simp)).symm, below_drewN hbw _⟩
          · have hyx' : (y.id == x.id) = false := by simpa using hyx
            have HY := Lib.hid hyx; clear hyx
            go_wp2
            go_quiet (fail)
            go_wp2
            go_roundw
            case rel => exact ⟨m + 1, by omega, by go_num, below_drewN hbw _, by show _ = true; rw [hT.out, HA.out]; simpa using HY.out⟩
            case measure => simp [intOf]; omega
        · have hme : m = k := by omega
          have HE := Lib.hid hme; clear hme
          go_wp2
          go_roundw
          case rel =>
            refine ⟨k + 1, by omega, by go_num, hbw, fun j hj => ?_⟩
            by_cases hjk : j < k
            · exact HG.out j hjk
            · obtain rfl : j = k := by omega
              rw [hG.out, hcd'.out, ← HE.out, HA.out, hid'.out]; rfl
          case measure => simp [intOf]; omega
    · have hke : k = xs.length := by omega
      have HE := Lib.hid hke; clear hke
      go_wp2
      go_ret
      exact ⟨ret_bool (by
        by_cases h60 : xs.length ≤ 60
        · rw [okB_good h60 (by rw [← HE.out]; exact HG.out), decide_eq_true (by omega)]
        · rw [decide_eq_false (by omega)]; unfold okB; rw [decide_eq_false h60]; rfl), hbl⟩

end Go.Proofs.YtffbcfaahegglaaDoor

namespace Go.Proofs.YtffbcfaahegglaaDoor
open Go.RowKit

set_option maxHeartbeats 400000 in
theorem spec_l3Rank (v : Value) (xs : List ByteArray) (c : ByteArray) (w : World) (hv : rd w w.heap.size v xs) :
    Calls Tryd.prog 115 #[v, .string c] w fun e w' => e = .returned (.int .i64 (rkI xs c)) ∧ w = w' := by
  obtain ⟨A, n, cp, rfl, hn, hc, hm, hr⟩ := hv
  subst hn
  unfold maxLen at hm
  have HR := Lib.hid hr; clear hr
  go_enter Tryd.func115, Tryd.ntmps115
  go_wp2
  go_loop [5] (fun i => ∃ k : Nat, k ≤ xs.length ∧ i = .int .i64 k ∧ Hid (∀ j (h : j < xs.length), j < k → sEq xs[j] c = false)) (fun i => xs.length - (intOf i).toNat)
  case atStart => exact ⟨0, Nat.zero_le _, rfl, fun j _ hj => absurd hj (Nat.not_lt_zero j)⟩
  case round =>
    obtain ⟨k, hk, rfl, HG⟩ := hrel
    by_cases hlt : k < xs.length
    · obtain ⟨b, o, rfl, hb, hok, c1⟩ := HR.out.str k hlt
      have HX : Hid (∀ h : sEq xs[k] c = false, ∀ j (h1 : j < xs.length), j < k + 1 → sEq xs[j] c = false) := fun h j h1 hj => by
        by_cases hjk : j < k
        · exact HG.out j h1 hjk
        · obtain rfl : j = k := by omega
          exact h
      have HY : Hid (∀ h : sEq xs[k] c = true, rkI xs c = k) := fun h => by
        have e := rk_eq hlt (fun j hj => HG.out j (by omega) hj) h
        rw [rkI_pos (by omega), e]
      generalize xs[k] = x at *
      cases he : sEq x c
      · have he' := Lib.hid he
        have hq : (x.toList == c.toList) = false := he
        clear he
        go_wp2
        go_round
        case rel => exact ⟨k + 1, by omega, by go_num, HX.out he'.out⟩
        case measure => simp [intOf]; omega
      · have he' := Lib.hid he
        have hq : (x.toList == c.toList) = true := he
        clear he
        go_wp2
        go_ret
        exact ⟨ret_int (HY.out he'.out).symm, rfl⟩
    · have HE : Hid (rkI xs c = -1) := by
        have e := rk_none (cs := xs) (c := c) (fun j hj => HG.out j hj (by omega))
        exact rkI_neg (by omega)
      go_wp2
      go_ret
      exact ⟨ret_int HE.out.symm, rfl⟩

theorem spec_l3Ready (v vb : Value) (p : Pln) (xs : List Ltr) (w : World) (hv : rdP w w.heap.size v p) (hb : rd w w.heap.size vb xs) :
    Calls Tryd.prog 122 #[v, vb] w fun e w' => e = .returned (.bool (planOk p && okB xs)) ∧ Below w.heap.size w w' := by
  have hv0 := Lib.hid hv
  have hb0 := Lib.hid hb
  obtain ⟨vo, rfl, hi1, hi2, Ao, no, cpo, rfl, hno, hco, hmo, hro⟩ := hv
  subst hno
  clear hco hmo hro
  have hB : Below w.heap.size w (w.alloc (Obj.cells #[Value.int IntKind.i64 p.bins, Value.int IntKind.i64 p.passes, Value.slice Ao p.order.length cpo] 89)) := (Below.refl _ _).alloc (Nat.le_refl _) _
  have HB := Lib.hid hB; clear hB
  go_enter Tryd.func122, Tryd.ntmps122
  go_wp2_with fail
  refine (spec_PlanValid _ p _ (hv0.out.on HB.out)).mono ?_
  rintro e w1 ⟨rfl, b1⟩
  have B1 := HB.out.trans (b1.mono HB.out.size)
  cases hp : planOk p
  · have HP := Lib.hid hp; clear hp
    go_wp2_with fail
    go_ret
    exact ⟨ret_bool (by rw [HP.out]; rfl), B1⟩
  · have HP := Lib.hid hp; clear hp
    obtain ⟨r, HRR⟩ : ∃ r, Hid (okB xs = r) := ⟨_, rfl⟩
    go_wp2_with fail
    refine (spec_BatchValid _ xs _ (hb0.out.on B1)).mono ?_
    rintro e w2 ⟨rfl, b2⟩
    rw [HRR.out]
    go_wp2_with fail
    go_ret
    exact ⟨ret_bool (by rw [HP.out, HRR.out]; rfl), B1.trans (b2.mono B1.size)⟩

end Go.Proofs.YtffbcfaahegglaaDoor
