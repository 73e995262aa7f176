/- slices.Index, slices.Contains at strings; the shape and the validity of plans: both texts. -/
import Derived.Test.YtiaepapdofcnjaaA1
import Derived.Test.YtiaepapdofcnjaaL2
import Derived.Test.YtiaepapdofcnjaaW1
import Derived.Laws.MathBits
namespace Go.Proofs.Ytiaepapdofcnjaa
open Go.RowKit

theorem sEq_comm (s t : ByteArray) : sEq s t = sEq t s := by
  rw [Bool.eq_iff_iff, sEq_iff, sEq_iff]; exact eq_comm

set_option maxHeartbeats 400000 in
theorem slices_IndexS (v : Value) (xs : List ByteArray) (c : ByteArray) (w : World) (hv : rd w w.heap.size v xs) :
    Calls Try.prog 137 #[v, .string c] w fun e w' => e = .returned (.int .i64 (rkI xs c)) ∧ w = w' := by
  obtain ⟨A, n, cp, rfl, hn, hc, hm, hr⟩ := hv
  subst hn
  unfold maxLen at hm
  have HR := Lib.hid hr; clear hr
  go_enter Try.func137, Try.ntmps137
  go_wp2
  go_loop [8] (fun i => ∃ k : Nat, k ≤ xs.length ∧ i = .int .i64 k ∧ Hid (∀ j (h : j < xs.length), j < k → sEq xs[j] c = false)) (fun i => xs.length - (intOf i).toNat)
  case atStart => exact ⟨0, Nat.zero_le _, rfl, fun j _ hj => absurd hj (Nat.not_lt_zero j)⟩
  case round =>
    obtain ⟨k, hk, rfl, HG⟩ := hrel
    by_cases hlt : k < xs.length
    · obtain ⟨b, o, rfl, hb, hok, c1⟩ := HR.out.str k hlt
      have HX : Hid (∀ h : sEq xs[k] c = false, ∀ j (h1 : j < xs.length), j < k + 1 → sEq xs[j] c = false) := fun h j h1 hj => by
        by_cases hjk : j < k
        · exact HG.out j h1 hjk
        · obtain rfl : j = k := by omega
          exact h
      have HY : Hid (∀ h : sEq xs[k] c = true, rkI xs c = k) := fun h => by
        have e := rk_eq hlt (fun j hj => HG.out j (by omega) hj) h
        rw [rkI_pos (by omega), e]
      generalize xs[k] = x at *
      cases he : sEq x c
      · have he' := Lib.hid he
        have hq : (c.toList == x.toList) = false := by rw [← he]; exact sEq_comm c x
        clear he
        go_wp2
        go_round
        case rel => exact ⟨k + 1, by omega, by go_num, HX.out he'.out⟩
        case measure => simp [intOf]; omega
      · have he' := Lib.hid he
        have hq : (c.toList == x.toList) = true := by rw [← he]; exact sEq_comm c x
        clear he
        go_wp2
        go_ret
        exact ⟨ret_int (HY.out he'.out).symm, rfl⟩
    · have HE : Hid (rkI xs c = -1) := by
        have e := rk_none (cs := xs) (c := c) (fun j hj => HG.out j hj (by omega))
        exact rkI_neg (by omega)
      go_wp2
      go_ret
      exact ⟨ret_int HE.out.symm, rfl⟩

theorem slices_ContainsS (v : Value) (xs : List ByteArray) (c : ByteArray) (w : World) (hv : rd w w.heap.size v xs) :
    Calls Try.prog 156 #[v, .string c] w fun e w' => e = .returned (.bool (decide (0 ≤ rkI xs c))) ∧ w = w' := by
  go_enter Try.func156, Try.ntmps156
  go_wp2_with fail
  refine (slices_IndexS v xs c w hv).mono ?_
  rintro e w1 ⟨rfl, rfl⟩
  obtain ⟨r, HR⟩ : ∃ r, Hid (rkI xs c = r) := ⟨_, rfl⟩
  rw [HR.out]
  go_wp2_with fail
  go_ret
  exact ⟨ret_bool (by rw [HR.out]), rfl⟩

theorem impl_binsValid (n : Int) (w : World) : Calls Try.prog 130 #[.int .i64 n] w fun e w' => e = .returned (.bool (decide (2 ≤ n) && decide (n ≤ 16))) ∧ w = w' := by
  go_enter Try.func130, Try.ntmps130
  by_cases h1 : 2 ≤ n
  · go_wp2
    go_ret
    exact ⟨ret_bool (by simp [h1]), rfl⟩
  · go_wp2
    go_ret
    exact ⟨ret_bool (by rw [decide_eq_false (p := 2 ≤ n) (by omega)]; rfl), rfl⟩
theorem impl_passesValid (n : Int) (w : World) : Calls Try.prog 131 #[.int .i64 n] w fun e w' => e = .returned (.bool (decide (1 ≤ n) && decide (n ≤ 4))) ∧ w = w' := by
  go_enter Try.func131, Try.ntmps131
  by_cases h1 : 1 ≤ n
  · go_wp2
    go_ret
    exact ⟨ret_bool (by simp [h1]), rfl⟩
  · go_wp2
    go_ret
    exact ⟨ret_bool (by rw [decide_eq_false (p := 1 ≤ n) (by omega)]; rfl), rfl⟩

set_option maxHeartbeats 400000 in
theorem impl_binPower (b : Int) (n : Nat) (w : World) (h1 : 2 ≤ b) (h2 : b ≤ 16) (hn : n ≤ 4) :
    Calls Try.prog 138 #[.int .i64 b, .int .i64 n] w fun e w' => e = .returned (.int .i64 (powI b n)) ∧ w = w' := by
  go_enter Try.func138, Try.ntmps138
  go_wp2
  go_loop [5, 7] (fun t i => ∃ (k : Nat) (m : Int), k ≤ n ∧ i = .int .i64 k ∧ t = .int .i64 m ∧ 1 ≤ m ∧ m ≤ 65536 ∧ Hid (m = powI b k)) (fun _ i => n - (intOf i).toNat)
  case atStart => exact ⟨0, 1, Nat.zero_le _, rfl, rfl, by omega, by omega, rfl⟩
  case round =>
    obtain ⟨k, m, hk, rfl, rfl, m0, m1, HM⟩ := hrel
    by_cases hlt : k < n
    · obtain ⟨p1, p2⟩ := powI_bounds h1 h2 (k + 1) (by omega)
      have hp : powI b (k + 1) = m * b := by rw [HM.out]; rfl
      have HP := Lib.hid hp
      rw [hp] at p1 p2
      clear hp
      go_wp2
      go_round
      case rel => exact ⟨k + 1, _, by omega, by go_num, rfl, p1, p2, HP.out.symm⟩
      case measure => simp [intOf]; omega
    · have HE := Lib.hid (show k = n by omega)
      go_wp2
      go_ret
      exact ⟨ret_int (by rw [HM.out, HE.out]), rfl⟩

theorem impl_CapacityOf (b p : Int) (w : World) (h : shapeOk b p = true) :
    Calls Try.prog 132 #[.int .i64 b, .int .i64 p] w fun e w' => e = .returned (.int .i64 (powI b p.toNat)) ∧ w = w' := by
  obtain ⟨h1, h2, h3, h4⟩ := shapeOk_iff.1 h
  clear h
  obtain ⟨n, rfl⟩ := Int.eq_ofNat_of_zero_le (show 0 ≤ p by omega)
  have e1 : (decide (2 ≤ b) && decide (b ≤ 16)) = true := by rw [decide_eq_true h1, decide_eq_true h2]; rfl
  have e2 : (decide ((1 : Int) ≤ (n : Int)) && decide ((n : Int) ≤ 4)) = true := by rw [decide_eq_true h3, decide_eq_true h4]; rfl
  have E1 := Lib.hid e1; clear e1
  have E2 := Lib.hid e2; clear e2
  go_enter Try.func132, Try.ntmps132
  go_wp2_with fail
  refine (impl_binsValid b w).mono ?_
  rw [E1.out]
  rintro e w1 ⟨rfl, rfl⟩
  go_wp2_with fail
  refine (impl_passesValid n w).mono ?_
  rw [E2.out]
  rintro e w1 ⟨rfl, rfl⟩
  go_wp2_with fail
  refine (impl_binPower b n w h1 h2 (by omega)).mono ?_
  rintro e w1 ⟨rfl, rfl⟩
  go_wp2_with fail
  go_ret
  exact ⟨ret_int (by rw [Int.toNat_natCast]), rfl⟩

end Go.Proofs.Ytiaepapdofcnjaa
