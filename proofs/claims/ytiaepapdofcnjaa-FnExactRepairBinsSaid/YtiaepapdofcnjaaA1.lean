/- Contracts of the digit checks. -/
import Derived.Test.YtiaepapdofcnjaaRows
import Derived.Test.YtiaepapdofcnjaaW0
import Derived.Deep.QuietTactic
import Derived.BigQuiet
namespace Go.Proofs.Ytiaepapdofcnjaa
open Go.RowKit

def dig (c : UInt8) : Bool := 48 ≤ c.toNat && c.toNat ≤ 57
def digs (l : List UInt8) : Bool := l.all dig
def isCode (s : ByteArray) : Bool := s.size == 7 && digs s.data.toList

theorem digs_take_succ (s : ByteArray) (k : Nat) (h : k < s.size) : digs (s.data.toList.take (k + 1)) = (digs (s.data.toList.take k) && dig s[k]) := by
  unfold digs
  rw [List.take_succ_eq_append_getElem (by simpa using h), List.all_append]
  simp; rfl
theorem digs_bad (s : ByteArray) (k : Nat) (h : k < s.size) (hd : dig s[k] = false) : digs s.data.toList = false := by
  unfold digs
  rw [List.all_eq_false]
  exact ⟨s[k], by simp [ByteArray.getElem_eq_getElem_data], by simpa using hd⟩

set_option maxHeartbeats 400000 in
theorem impl_allDigits (s : ByteArray) (w : World) (hs : s.size ≤ maxLen) :
    Calls Try.prog 189 #[.string s] w fun e w' => e = .returned (.bool (digs s.data.toList)) ∧ w = w' := by
  unfold maxLen at hs
  go_enter Try.func189, Try.ntmps189
  go_wp2
  go_loop [3] (fun i => ∃ k : Nat, k ≤ s.size ∧ i = .int .i64 k ∧ digs (s.data.toList.take k) = true) (fun i => s.size - (intOf i).toNat)
  case atStart => exact ⟨0, Nat.zero_le _, rfl, rfl⟩
  case round =>
    obtain ⟨k, hk, rfl, hd⟩ := hrel
    by_cases hlt : k < s.size
    · have hsn := digs_take_succ s k hlt
      have hbad := Lib.hid (digs_bad s k hlt)
      rw [hd, Bool.true_and] at hsn
      have HS := Lib.hid hsn
      clear hsn hd
      go_wp2
      · go_ret
        exact ⟨ret_bool (hbad.out (by unfold dig; simp; omega)).symm, rfl⟩
      · go_round
        case rel => exact ⟨k + 1, by omega, by go_num, by rw [HS.out]; unfold dig; simp; omega⟩
        case measure => simp [intOf]; omega
      · go_ret
        exact ⟨ret_bool (hbad.out (by unfold dig; simp; omega)).symm, rfl⟩
    · rw [List.take_of_length_le (by simp; omega)] at hd
      have HD := Lib.hid hd; clear hd
      go_wp2
      go_ret
      exact ⟨ret_bool HD.out.symm, rfl⟩

theorem impl_CodeValid (s : ByteArray) (w : World) (hs : s.size ≤ maxLen) :
    Calls Try.prog 154 #[.string s] w fun e w' => e = .returned (.bool (isCode s)) ∧ w = w' := by
  go_enter Try.func154, Try.ntmps154
  by_cases h7 : s.size = 7
  · go_wp2_with (go_at_call 189; refine (impl_allDigits _ _ hs).mono ?_; rintro e w' ⟨rfl, rfl⟩)
    go_ret
    exact ⟨ret_bool (by simp [isCode, h7]), rfl⟩
  · go_wp2
    go_ret
    exact ⟨ret_bool (by simp [isCode, h7]), rfl⟩

theorem spec_l1In (n a b : Int) (w : World) : Calls Try.prog 127 #[.int .i64 n, .int .i64 a, .int .i64 b] w fun e w' => e = .returned (.bool (decide (a ≤ n) && decide (n ≤ b))) ∧ w = w' := by
  go_enter Try.func127, Try.ntmps127
  by_cases h1 : a ≤ n
  · go_wp2
    go_ret
    exact ⟨ret_bool (by simp [h1]), rfl⟩
  · go_wp2
    go_ret
    exact ⟨ret_bool (by rw [decide_eq_false (p := a ≤ n) (by omega)]; rfl), rfl⟩

set_option maxHeartbeats 400000 in
theorem spec_DigitsValid (s : ByteArray) (w : World) (hs : s.size ≤ maxLen) :
    Calls Try.prog 186 #[.string s] w fun e w' => e = .returned (.bool (digs s.data.toList && decide (s.size ≤ 20))) ∧ w = w' := by
  unfold maxLen at hs
  go_enter Try.func186, Try.ntmps186
  go_wp2
  go_loop [3] (fun i => ∃ k : Nat, k ≤ s.size ∧ i = .int .i64 k ∧ digs (s.data.toList.take k) = true) (fun i => s.size - (intOf i).toNat)
  case atStart => exact ⟨0, Nat.zero_le _, rfl, rfl⟩
  case round =>
    obtain ⟨k, hk, rfl, hd⟩ := hrel
    by_cases hlt : k < s.size
    · have hsn := digs_take_succ s k hlt
      have hbad := Lib.hid (digs_bad s k hlt)
      rw [hd, Bool.true_and] at hsn
      have HS := Lib.hid hsn
      clear hsn hd
      go_wp2
      · go_ret
        exact ⟨ret_bool (by rw [hbad.out (by unfold dig; simp; omega)]; rfl), rfl⟩
      · go_round
        case rel => exact ⟨k + 1, by omega, by go_num, by rw [HS.out]; unfold dig; simp; omega⟩
        case measure => simp [intOf]; omega
      · go_ret
        exact ⟨ret_bool (by rw [hbad.out (by unfold dig; simp; omega)]; rfl), rfl⟩
    · rw [List.take_of_length_le (by simp; omega)] at hd
      have HD := Lib.hid hd; clear hd
      go_wp2
      go_ret
      exact ⟨ret_bool (by rw [HD.out, Bool.true_and]; congr 1; exact propext (by omega)), rfl⟩

theorem spec_CodeValid (s : ByteArray) (w : World) (hs : s.size ≤ maxLen) :
    Calls Try.prog 145 #[.string s] w fun e w' => e = .returned (.bool (isCode s)) ∧ w = w' := by
  go_enter Try.func145, Try.ntmps145
  cases hd : (digs s.data.toList && decide (s.size ≤ 20))
  · have hd' := Lib.hid hd; clear hd
    go_wp2_with (go_at_call 186; refine (spec_DigitsValid _ _ hs).mono ?_; rw [hd'.out]; rintro e w' ⟨rfl, rfl⟩)
    go_ret
    refine ⟨ret_bool ?_, rfl⟩
    have := hd'.out
    simp only [isCode, Bool.and_eq_false_iff, decide_eq_false_iff_not] at this ⊢
    rcases this with h | h
    · simp [h]
    · have h7 : s.size ≠ 7 := by omega
      simp [h7]
  · have hd' := Lib.hid hd; clear hd
    go_wp2_with (go_at_call 186; refine (spec_DigitsValid _ _ hs).mono ?_; rw [hd'.out]; rintro e w' ⟨rfl, rfl⟩)
    go_ret
    refine ⟨ret_bool ?_, rfl⟩
    have := hd'.out
    simp only [Bool.and_eq_true, decide_eq_true_iff] at this
    rw [Bool.eq_iff_iff]
    simp [isCode, this.1]
    try omega

end Go.Proofs.Ytiaepapdofcnjaa
