/- K1 K2 K3 K4 E1 E2 D0 W3 F1 -/
import Derived.Test.YtpinkbodbedajaaGreatDoorQ1
import Derived.Laws.MathBits
import Derived.Handy
import Derived.Deep.QuietTactic
import Derived.BigQuiet
import Derived.IntWalk
import Derived.StillTailTactics
import Derived.Deep.RegionHeld3
import Derived.Laws.BitsAllLaws
import Derived.Laws.BitsLemmas
namespace Go.Proofs.YtpinkbodbedajaaGreatDoor
open Go.RowKit

theorem sEq_comm (s t : ByteArray) : sEq s t = sEq t s := by
  rw [Bool.eq_iff_iff, sEq_iff, sEq_iff]; exact eq_comm

set_option maxHeartbeats 400000 in
theorem slices_IndexS (v : Value) (xs : List ByteArray) (c : ByteArray) (w : World) (hv : rd w w.heap.size v xs) :
    Calls Tryz.prog 166 #[v, .string c] w fun e w' => e = .returned (.int .i64 (rkI xs c)) ∧ w = w' := by
  obtain ⟨A, n, cp, rfl, hn, hc, hm, hr⟩ := hv
  subst hn
  unfold maxLen at hm
  have HR := Lib.hid hr; clear hr
  go_enter Tryz.func166, Tryz.ntmps166
  go_wp2
  go_loop [8] (fun i => ∃ k : Nat, k ≤ xs.length ∧ i = .int .i64 k ∧ Hid (∀ j (h : j < xs.length), j < k → sEq xs[j] c = false)) (fun i => xs.length - (intOf i).toNat)
  case atStart => exact ⟨0, Nat.zero_le _, rfl, fun j _ hj => absurd hj (Nat.not_lt_zero j)⟩
  case round =>
    obtain ⟨k, hk, rfl, HG⟩ := hrel
    by_cases hlt : k < xs.length
    · obtain ⟨b, o, rfl, hb, hok, c1⟩ := HR.out.str k hlt
      have HX : Hid (∀ h : sEq xs[k] c = false, ∀ j (h1 : j < xs.length), j < k + 1 → sEq xs[j] c = false) := fun h j h1 hj => by
        by_cases hjk : j < k
        · exact HG.out j h1 hjk
        · obtain rfl : j = k := by omega
          exact h
      have HY : Hid (∀ h : sEq xs[k] c = true, rkI xs c = k) := fun h => by
        have e := rk_eq hlt (fun j hj => HG.out j (by omega) hj) h
        rw [rkI_pos (by omega), e]
      generalize xs[k] = x at *
      cases he : sEq x c
      · have he' := Lib.hid he
        have hq : (c.toList == x.toList) = false := by rw [← he]; exact sEq_comm c x
        clear he
        go_wp2
        go_round
        case rel => exact ⟨k + 1, by omega, by go_num, HX.out he'.out⟩
        case measure => simp [intOf]; omega
      · have he' := Lib.hid he
        have hq : (c.toList == x.toList) = true := by rw [← he]; exact sEq_comm c x
        clear he
        go_wp2
        go_ret
        exact ⟨ret_int (HY.out he'.out).symm, rfl⟩
    · have HE : Hid (rkI xs c = -1) := by
        have e := rk_none (cs := xs) (c := c) (fun j hj => HG.out j hj (by omega))
        exact rkI_neg (by omega)
      go_wp2
      go_ret
      exact ⟨ret_int HE.out.symm, rfl⟩

theorem slices_ContainsS (v : Value) (xs : List ByteArray) (c : ByteArray) (w : World) (hv : rd w w.heap.size v xs) :
    Calls Tryz.prog 111 #[v, .string c] w fun e w' => e = .returned (.bool (decide (0 ≤ rkI xs c))) ∧ w = w' := by
  go_enter Tryz.func111, Tryz.ntmps111
  go_wp2_with fail
  refine (slices_IndexS v xs c w hv).mono ?_
  rintro e w1 ⟨rfl, rfl⟩
  obtain ⟨r, HR⟩ : ∃ r, Hid (rkI xs c = r) := ⟨_, rfl⟩
  rw [HR.out]
  go_wp2_with fail
  go_ret
  exact ⟨ret_bool (by rw [HR.out]), rfl⟩

theorem impl_binsValid (n : Int) (w : World) : Calls Tryz.prog 120 #[.int .i64 n] w fun e w' => e = .returned (.bool (decide (2 ≤ n) && decide (n ≤ 16))) ∧ w = w' := by
  go_enter Tryz.func120, Tryz.ntmps120
  by_cases h1 : 2 ≤ n
  · go_wp2
    go_ret
    exact ⟨ret_bool (by simp [h1]), rfl⟩
  · go_wp2
    go_ret
    exact ⟨ret_bool (by rw [decide_eq_false (p := 2 ≤ n) (by omega)]; rfl), rfl⟩
theorem impl_passesValid (n : Int) (w : World) : Calls Tryz.prog 121 #[.int .i64 n] w fun e w' => e = .returned (.bool (decide (1 ≤ n) && decide (n ≤ 4))) ∧ w = w' := by
  go_enter Tryz.func121, Tryz.ntmps121
  by_cases h1 : 1 ≤ n
  · go_wp2
    go_ret
    exact ⟨ret_bool (by simp [h1]), rfl⟩
  · go_wp2
    go_ret
    exact ⟨ret_bool (by rw [decide_eq_false (p := 1 ≤ n) (by omega)]; rfl), rfl⟩

set_option maxHeartbeats 400000 in
theorem impl_binPower (b : Int) (n : Nat) (w : World) (h1 : 2 ≤ b) (h2 : b ≤ 16) (hn : n ≤ 4) :
    Calls Tryz.prog 175 #[.int .i64 b, .int .i64 n] w fun e w' => e = .returned (.int .i64 (powI b n)) ∧ w = w' := by
  go_enter Tryz.func175, Tryz.ntmps175
  go_wp2
  go_loop [5, 7] (fun t i => ∃ (k : Nat) (m : Int), k ≤ n ∧ i = .int .i64 k ∧ t = .int .i64 m ∧ 1 ≤ m ∧ m ≤ 65536 ∧ Hid (m = powI b k)) (fun _ i => n - (intOf i).toNat)
  case atStart => exact ⟨0, 1, Nat.zero_le _, rfl, rfl, by omega, by omega, rfl⟩
  case round =>
    obtain ⟨k, m, hk, rfl, rfl, m0, m1, HM⟩ := hrel
    by_cases hlt : k < n
    · obtain ⟨p1, p2⟩ := powI_bounds h1 h2 (k + 1) (by omega)
      have hp : powI b (k + 1) = m * b := by rw [HM.out]; rfl
      have HP := Lib.hid hp
      rw [hp] at p1 p2
      clear hp
      go_wp2
      go_round
      case rel => exact ⟨k + 1, _, by omega, by go_num, rfl, p1, p2, HP.out.symm⟩
      case measure => simp [intOf]; omega
    · have HE := Lib.hid (show k = n by omega)
      go_wp2
      go_ret
      exact ⟨ret_int (by rw [HM.out, HE.out]), rfl⟩

theorem impl_CapacityOf (b p : Int) (w : World) (h : shapeOk b p = true) :
    Calls Tryz.prog 122 #[.int .i64 b, .int .i64 p] w fun e w' => e = .returned (.int .i64 (powI b p.toNat)) ∧ w = w' := by
  obtain ⟨h1, h2, h3, h4⟩ := shapeOk_iff.1 h
  clear h
  obtain ⟨n, rfl⟩ := Int.eq_ofNat_of_zero_le (show 0 ≤ p by omega)
  have e1 : (decide (2 ≤ b) && decide (b ≤ 16)) = true := by rw [decide_eq_true h1, decide_eq_true h2]; rfl
  have e2 : (decide ((1 : Int) ≤ (n : Int)) && decide ((n : Int) ≤ 4)) = true := by rw [decide_eq_true h3, decide_eq_true h4]; rfl
  have E1 := Lib.hid e1; clear e1
  have E2 := Lib.hid e2; clear e2
  go_enter Tryz.func122, Tryz.ntmps122
  go_wp2_with fail
  refine (impl_binsValid b w).mono ?_
  rw [E1.out]
  rintro e w1 ⟨rfl, rfl⟩
  go_wp2_with fail
  refine (impl_passesValid n w).mono ?_
  rw [E2.out]
  rintro e w1 ⟨rfl, rfl⟩
  go_wp2_with fail
  refine (impl_binPower b n w h1 h2 (by omega)).mono ?_
  rintro e w1 ⟨rfl, rfl⟩
  go_wp2_with fail
  go_ret
  exact ⟨ret_int (by rw [Int.toNat_natCast]), rfl⟩

end Go.Proofs.YtpinkbodbedajaaGreatDoor

namespace Go.Proofs.YtpinkbodbedajaaGreatDoor
open Go.RowKit

theorem all_rk (cs : List ByteArray) (c : ByteArray) : cs.all (fun d => !sEq d c) = !decide (0 ≤ rkI cs c) := by
  rw [Bool.eq_iff_iff, List.all_eq_true]
  constructor
  · intro h
    have : rk cs c = cs.length := rk_none fun j hj => by simpa using h _ (List.getElem_mem hj)
    rw [rkI_neg (by omega)]
    decide
  · intro h x hx
    obtain ⟨j, hj, rfl⟩ := List.getElem_of_mem hx
    have hn : ¬ 0 ≤ rkI cs c := by simpa using h
    have hk : ¬ rk cs c < cs.length := fun hlt => by rw [rkI_pos hlt] at hn; omega
    have := rk_before cs c j hj (by omega)
    simp [this]

set_option maxHeartbeats 400000 in
theorem impl_codesDiffer (v : Value) (cs : List ByteArray) (w : World) (hv : rd w w.heap.size v cs) :
    Calls Tryz.prog 123 #[v] w fun e w' => e = .returned (.bool (codesOk cs)) ∧ w = w' := by
  have hv0 := Lib.hid hv
  obtain ⟨A, n, cp, rfl, hn, hc, hm, hr⟩ := hv
  subst hn
  unfold maxLen at hm
  have HR := Lib.hid hr; clear hr
  go_enter Tryz.func123, Tryz.ntmps123
  go_wp2
  go_loop [7] (fun i => ∃ k : Nat, k ≤ cs.length ∧ i = .int .i64 k ∧ Hid (∀ j, j < k → goodC cs j = true)) (fun i => cs.length - (intOf i).toNat)
  case atStart => exact ⟨0, Nat.zero_le _, rfl, fun j hj => absurd hj (Nat.not_lt_zero j)⟩
  case round =>
    obtain ⟨k, hk, rfl, HG⟩ := hrel
    by_cases hlt : k < cs.length
    · obtain ⟨b, o, rfl, hb, hok, c1⟩ := HR.out.str k hlt
      have hG := Lib.hid (goodC_of hlt)
      have hbad := Lib.hid (fun h => codesOk_bad hlt h)
      have hA := Lib.hid (all_rk (cs.take k) cs[k])
      generalize cs[k] = c at *
      cases hcd : isCode c
      · have hcd' := Lib.hid hcd; clear hcd
        go_wp2_with (go_at_call 75; refine (impl_CodeValid _ _ hok).mono ?_; rw [hcd'.out]; rintro e w' ⟨rfl, rfl⟩)
        go_ret
        exact ⟨ret_bool (hbad.out (by rw [hG.out, hcd'.out]; rfl)).symm, rfl⟩
      have hcd' := Lib.hid hcd; clear hcd
      cases hd : decide (0 ≤ rkI (cs.take k) c)
      · have hd' := Lib.hid hd; clear hd
        go_wp2_with (first | (go_at_call 75; refine (impl_CodeValid _ _ hok).mono ?_; rw [hcd'.out]; rintro e w' ⟨rfl, rfl⟩) | (go_at_call 111; refine (slices_ContainsS _ (cs.take k) _ _ (hv0.out.take hk)).mono ?_; rw [hd'.out]; rintro e w' ⟨rfl, rfl⟩))
        go_round
        case rel =>
          refine ⟨k + 1, by omega, by go_num, fun j hj => ?_⟩
          by_cases hjk : j < k
          · exact HG.out j hjk
          · obtain rfl : j = k := by omega
            rw [hG.out, hcd'.out, hA.out, hd'.out]; rfl
        case measure => simp [intOf]; omega
      · have hd' := Lib.hid hd; clear hd
        go_wp2_with (first | (go_at_call 75; refine (impl_CodeValid _ _ hok).mono ?_; rw [hcd'.out]; rintro e w' ⟨rfl, rfl⟩) | (go_at_call 111; refine (slices_ContainsS _ (cs.take k) _ _ (hv0.out.take hk)).mono ?_; rw [hd'.out]; rintro e w' ⟨rfl, rfl⟩))
        go_ret
        exact ⟨ret_bool (hbad.out (by rw [hG.out, hcd'.out, hA.out, hd'.out]; rfl)).symm, rfl⟩
    · have HE := Lib.hid (show k = cs.length by omega)
      go_wp2
      go_ret
      exact ⟨ret_bool (codesOk_good (by rw [← HE.out]; exact HG.out)).symm, rfl⟩

set_option maxHeartbeats 800000 in
theorem impl_PlanValid (v : Value) (p : Pln) (w : World) (hv : rdP w w.heap.size v p) :
    Calls Tryz.prog 58 #[v] w fun e w' => e = .returned (.bool (planOk p)) ∧ Below w.heap.size w w' := by
  obtain ⟨vo, rfl, hi1, hi2, hr⟩ := hv
  have hr0 := hr
  obtain ⟨A, n, cp, rfl, hn, hc, hm, _⟩ := hr
  subst hn
  unfold maxLen at hm
  have hrb := Lib.hid (fun o => hr0.on ((Below.refl _ _).alloc (Nat.le_refl _) o))
  clear hr0
  have hB : Below w.heap.size w (w.alloc (Obj.cells #[Value.int IntKind.i64 p.bins, Value.int IntKind.i64 p.passes, Value.slice A p.order.length cp] 25)) := (Below.refl _ _).alloc (Nat.le_refl _) _
  have HB := Lib.hid hB; clear hB
  have e0 : planOk p = (((decide (2 ≤ p.bins) && decide (p.bins ≤ 16)) && (decide (1 ≤ p.passes) && decide (p.passes ≤ 4))) && (decide (1 ≤ p.order.length) && decide (p.order.length ≤ 60)) && decide ((p.order.length : Int) ≤ powI p.bins p.passes.toNat) && codesOk p.order) := rfl
  have E0 := Lib.hid e0; clear e0
  go_enter Tryz.func58, Tryz.ntmps58
  go_wp2_with fail
  refine (impl_binsValid _ _).mono ?_
  rintro e w1 ⟨rfl, rfl⟩
  cases h1 : (decide (2 ≤ p.bins) && decide (p.bins ≤ 16))
  · have H1 := Lib.hid h1; clear h1
    go_wp2_with fail
    go_ret
    exact ⟨ret_bool (by rw [E0.out, H1.out]; rfl), HB.out⟩
  have H1 := Lib.hid h1; clear h1
  go_wp2_with fail
  refine (impl_passesValid _ _).mono ?_
  rintro e w1 ⟨rfl, rfl⟩
  cases h2 : (decide (1 ≤ p.passes) && decide (p.passes ≤ 4))
  · have H2 := Lib.hid h2; clear h2
    go_wp2_with fail
    go_ret
    exact ⟨ret_bool (by rw [E0.out, H1.out, H2.out]; rfl), HB.out⟩
  have H2 := Lib.hid h2; clear h2
  have hsh : shapeOk p.bins p.passes = true := by unfold shapeOk; rw [H1.out, H2.out]; rfl
  have HSH := Lib.hid hsh; clear hsh
  by_cases h3 : 1 ≤ p.order.length
  case neg =>
    have H3 := Lib.hid h3; clear h3
    have h3i : ¬ (1 : Int) ≤ (p.order.length : Int) := by have := H3.out; omega
    go_wp2_with fail
    go_ret
    exact ⟨ret_bool (by rw [E0.out, decide_eq_false H3.out]; simp), HB.out⟩
  by_cases h4 : p.order.length ≤ 60
  case neg =>
    have H4 := Lib.hid h4; clear h4
    have h4i : ¬ (p.order.length : Int) ≤ 60 := by have := H4.out; omega
    go_wp2_with fail
    go_ret
    exact ⟨ret_bool (by rw [E0.out, decide_eq_false H4.out]; simp), HB.out⟩
  go_wp2_with fail
  refine (impl_CapacityOf _ _ _ HSH.out).mono ?_
  rintro e w1 ⟨rfl, rfl⟩
  obtain ⟨q, HQ⟩ : ∃ q, Hid (powI p.bins p.passes.toNat = q) := ⟨_, rfl⟩
  rw [HQ.out]
  by_cases h5 : (p.order.length : Int) ≤ q
  case neg =>
    have H5 := Lib.hid (decide_eq_false h5)
    go_wp2_with fail
    go_ret
    exact ⟨ret_bool (by rw [E0.out, HQ.out, H5.out]; simp), HB.out⟩
  have H5 := Lib.hid (decide_eq_true h5)
  go_wp2_with fail
  refine (impl_codesDiffer _ p.order _ (hrb.out _)).mono ?_
  rintro e w1 ⟨rfl, rfl⟩
  go_wp2_with fail
  go_ret
  exact ⟨ret_bool (by rw [E0.out, HQ.out, H1.out, H2.out, H5.out, decide_eq_true h3, decide_eq_true h4]; rfl), HB.out⟩

end Go.Proofs.YtpinkbodbedajaaGreatDoor

namespace Go.Proofs.YtpinkbodbedajaaGreatDoor
open Go.RowKit

theorem quiet_c {P : Program} {f : FuncId} {args : Array Value} {w : World} {n : Nat} {v : Value}
    (h : Calls P f args (w.drewN n) fun e w' => e = .returned v ∧ w.drewN n = w') : Calls P f args (w.drewN n) fun e w'' => e = .returned v ∧ ∃ m, w'' = w.drewN m :=
  h.mono fun _ _ ⟨he, hm⟩ => ⟨he, n, hm.symm⟩

theorem spec_l3Shape (n p : Int) (w : World) : Calls Tryz.prog 171 #[.int .i64 n, .int .i64 p] w fun e w' => e = .returned (.bool (shapeOk n p)) ∧ w = w' := by
  have e0 : shapeOk n p = (decide (2 ≤ n) && decide (n ≤ 16) && (decide (1 ≤ p) && decide (p ≤ 4))) := rfl
  have E0 := Lib.hid e0; clear e0
  go_enter Tryz.func171, Tryz.ntmps171
  go_wp2_with fail
  refine (spec_l1In n 2 16 w).mono ?_
  rintro e w1 ⟨rfl, rfl⟩
  cases h1 : (decide (2 ≤ n) && decide (n ≤ 16))
  · have H1 := Lib.hid h1; clear h1
    go_wp2_with fail
    go_ret
    exact ⟨ret_bool (by rw [E0.out, H1.out]; rfl), rfl⟩
  · have H1 := Lib.hid h1; clear h1
    go_wp2_with fail
    refine (spec_l1In p 1 4 w).mono ?_
    rintro e w1 ⟨rfl, rfl⟩
    cases h2 : (decide (1 ≤ p) && decide (p ≤ 4))
    · have H2 := Lib.hid h2; clear h2
      go_wp2_with fail
      go_ret
      exact ⟨ret_bool (by rw [E0.out, H1.out, H2.out]; rfl), rfl⟩
    · have H2 := Lib.hid h2; clear h2
      go_wp2_with fail
      go_ret
      exact ⟨ret_bool (by rw [E0.out, H1.out, H2.out]; rfl), rfl⟩

set_option maxHeartbeats 400000 in
theorem spec_l3Power (b : Int) (n : Nat) (w : World) (h1 : 2 ≤ b) (h2 : b ≤ 16) (hn : n ≤ 4) :
    Calls Tryz.prog 172 #[.int .i64 b, .int .i64 n] w fun e w' => e = .returned (.int .i64 (powI b n)) ∧ w = w' := by
  go_enter Tryz.func172, Tryz.ntmps172
  go_wp2
  go_loop [5, 6] (fun t i => ∃ (k : Nat) (m : Int), k ≤ n ∧ i = .int .i64 k ∧ t = .int .i64 m ∧ 1 ≤ m ∧ m ≤ 65536 ∧ Hid (m = powI b k)) (fun _ i => n - (intOf i).toNat)
  case atStart => exact ⟨0, 1, Nat.zero_le _, rfl, rfl, by omega, by omega, rfl⟩
  case round =>
    obtain ⟨k, m, hk, rfl, rfl, m0, m1, HM⟩ := hrel
    by_cases hlt : k < n
    · obtain ⟨p1, p2⟩ := powI_bounds h1 h2 (k + 1) (by omega)
      have hp : powI b (k + 1) = m * b := by rw [HM.out]; rfl
      have HP := Lib.hid hp
      rw [hp] at p1 p2
      clear hp
      have hlm : ¬ (100000 : Int) < m * b := by omega
      go_wp2
      go_round
      case rel => exact ⟨k + 1, m * b, by omega, by go_num, by first | rfl | exact congrArg (Value.int .i64) (by omega), p1, p2, HP.out.symm⟩
      case measure => simp [intOf]; omega
    · have HE := Lib.hid (show k = n by omega)
      go_wp2
      go_ret
      exact ⟨ret_int (by rw [HM.out, HE.out]), rfl⟩

theorem powI_nonneg_conv {p : Int} (h : 0 ≤ p) : ((p.toNat : Nat) : Int) = p := Int.toNat_of_nonneg h

set_option maxHeartbeats 1600000 in
theorem spec_PlanValid (v : Value) (p : Pln) (w : World) (hv : rdP w w.heap.size v p) :
    Calls Tryz.prog 112 #[v] w fun e w' => e = .returned (.bool (planOk p)) ∧ Below w.heap.size w w' := by
  obtain ⟨vo, rfl, hi1, hi2, hr⟩ := hv
  have hr0 := hr
  obtain ⟨A, n, cp, rfl, hn, hc, hm, hra⟩ := hr
  subst hn
  unfold maxLen at hm
  have HRA := Lib.hid hra; clear hra
  have hrb := Lib.hid (fun o n => (hr0.on ((Below.refl _ _).alloc (Nat.le_refl _) o)).on (below_drewN (Below.refl _ _) n))
  clear hr0
  have hB : Below w.heap.size w (w.alloc (Obj.cells #[Value.int IntKind.i64 p.bins, Value.int IntKind.i64 p.passes, Value.slice A p.order.length cp] 25)) := (Below.refl _ _).alloc (Nat.le_refl _) _
  have HB := Lib.hid hB; clear hB
  have e0 : planOk p = (shapeOk p.bins p.passes && (decide (1 ≤ p.order.length) && decide (p.order.length ≤ 60)) && decide ((p.order.length : Int) ≤ powI p.bins p.passes.toNat) && codesOk p.order) := rfl
  have E0 := Lib.hid e0; clear e0
  cases hsh : shapeOk p.bins p.passes
  · have HS := Lib.hid hsh; clear hsh
    have HSc := Lib.hid (fun w => HS.out ▸ spec_l3Shape p.bins p.passes w)
    go_enter Tryz.func112, Tryz.ntmps112
    go_wp2
    go_quiet (first | (go_at_call 171; refine quiet_c (HSc.out _)))
    go_wp2
    go_ret
    exact ⟨ret_bool (by rw [E0.out, HS.out]; rfl), below_drewN HB.out _⟩
  have HS := Lib.hid hsh
  have HSc := Lib.hid (fun w => HS.out ▸ spec_l3Shape p.bins p.passes w)
  obtain ⟨q1, q2, q3, q4⟩ := shapeOk_iff.1 hsh
  clear hsh
  cases hln : (decide ((1 : Int) ≤ (p.order.length : Int)) && decide ((p.order.length : Int) ≤ 60))
  · have HL := Lib.hid hln; clear hln
    have HLc := Lib.hid (fun w => HL.out ▸ spec_l1In (p.order.length : Int) 1 60 w)
    have hln2 : (decide (1 ≤ p.order.length) && decide (p.order.length ≤ 60)) = false := by
      have := HL.out
      rw [Bool.and_eq_false_iff, decide_eq_false_iff_not, decide_eq_false_iff_not] at this ⊢
      omega
    have HL2 := Lib.hid hln2; clear hln2
    go_enter Tryz.func112, Tryz.ntmps112
    go_wp2
    go_quiet (first | (go_at_call 171; refine quiet_c (HSc.out _)) | (go_at_call 115; refine quiet_c (HLc.out _)))
    go_wp2
    go_ret
    exact ⟨ret_bool (by rw [E0.out, HL2.out]; simp), below_drewN HB.out _⟩
  have HL := Lib.hid hln
  have HLc := Lib.hid (fun w => HL.out ▸ spec_l1In (p.order.length : Int) 1 60 w)
  have hln2 : 1 ≤ p.order.length ∧ p.order.length ≤ 60 := by
    rw [Bool.and_eq_true, decide_eq_true_iff, decide_eq_true_iff] at hln
    omega
  clear hln
  obtain ⟨l1, l2⟩ := hln2
  have hl3 : (decide (1 ≤ p.order.length) && decide (p.order.length ≤ 60)) = true := by rw [decide_eq_true l1, decide_eq_true l2]; rfl
  have HL3 := Lib.hid hl3; clear hl3
  obtain ⟨q, HQ⟩ : ∃ q, Hid (powI p.bins p.passes.toNat = q) := ⟨_, rfl⟩
  have hpw : ∀ w : World, Calls Tryz.prog 172 #[.int .i64 p.bins, .int .i64 p.passes] w fun e w' => e = .returned (.int .i64 q) ∧ w = w' := fun w => by
    have := spec_l3Power p.bins p.passes.toNat w q1 q2 (by omega)
    rw [HQ.out, powI_nonneg_conv (by omega)] at this
    exact this
  have HPW := Lib.hid hpw; clear hpw
  by_cases h5 : (p.order.length : Int) ≤ q
  case neg =>
    have H5 := Lib.hid (decide_eq_false h5)
    have h5' : decide ((p.order.length : Int) > q) = true := decide_eq_true (by omega)
    clear h5
    go_enter Tryz.func112, Tryz.ntmps112
    go_wp2
    go_quiet (first | (go_at_call 171; refine quiet_c (HSc.out _)) | (go_at_call 115; refine quiet_c (HLc.out _)) | (go_at_call 172; refine quiet_c (HPW.out _)))
    go_wp2
    go_ret
    exact ⟨ret_bool (by rw [E0.out, HQ.out, H5.out]; simp), below_drewN HB.out _⟩
  have H5 := Lib.hid (decide_eq_true h5)
  have h5' : decide ((p.order.length : Int) > q) = false := decide_eq_false (by omega)
  clear h5
  have hsum : planOk p = codesOk p.order := by rw [E0.out, HS.out, HL3.out, HQ.out, H5.out]; rfl
  have HSUM := Lib.hid hsum; clear hsum
  go_enter Tryz.func112, Tryz.ntmps112
  go_wp2
  go_quiet (first | (go_at_call 171; refine quiet_c (HSc.out _)) | (go_at_call 115; refine quiet_c (HLc.out _)) | (go_at_call 172; refine quiet_c (HPW.out _)))
  clear h5' HPW HQ H5 HL HLc HSc HS E0 HL3 hrb
  have hB1 : Below w.heap.size w ((w.alloc (Obj.cells #[Value.int IntKind.i64 p.bins, Value.int IntKind.i64 p.passes, Value.slice A p.order.length cp] 25)).drewN nq) := below_drewN HB.out _
  have hc0 : ((w.alloc (Obj.cells #[Value.int IntKind.i64 p.bins, Value.int IntKind.i64 p.passes, Value.slice A p.order.length cp] 25)).drewN nq).cell? ⟨w.heap.size, 2, none⟩ = some (.slice A p.order.length cp) := by go_simp
  clear HB
  generalize ((w.alloc (Obj.cells #[Value.int IntKind.i64 p.bins, Value.int IntKind.i64 p.passes, Value.slice A p.order.length cp] 25)).drewN nq) = w0 at *
  generalize p.order = cs at *
  go_wp2
  go_loopw [3] (fun i wr => ∃ k : Nat, k ≤ cs.length ∧ i = .int .i64 k ∧ Below w.heap.size w wr ∧ wr.cell? ⟨w.heap.size, 2, none⟩ = some (.slice A cs.length cp) ∧ Hid (∀ j, j < k → goodC cs j = true)) (fun i _ => cs.length - (intOf i).toNat)
  case atStart => exact ⟨0, Nat.zero_le _, rfl, hB1, hc0, fun j hj => absurd hj (Nat.not_lt_zero j)⟩
  case round =>
    obtain ⟨k, hk, rfl, hbl, hcx, HG⟩ := hrel
    obtain ⟨w1, rfl⟩ : ∃ w1 : World, w1 = wr := ⟨_, rfl⟩
    have hsz := hbl.size
    clear hB1 hc0
    by_cases hlt : k < cs.length
    · obtain ⟨b, o, rfl, hb, hok, c1⟩ := HRA.out.str k hlt
      have hG := Lib.hid (goodC_of hlt)
      have hbad := Lib.hid (fun h => codesOk_bad hlt h)
      generalize hx : cs[k] = c at *
      have HXK := Lib.hid hx; clear hx
      have c1' : w1.cell? ⟨b, o + k, none⟩ = some (.string c) := (hbl.cell (p := ⟨b, o + k, none⟩) hb).trans c1
      cases hcd : isCode c
      · have hcd' := Lib.hid hcd; clear hcd
        go_wp2_with (go_at_call 88; refine (spec_CodeValid _ _ hok).mono ?_; rw [hcd'.out]; rintro e w' ⟨rfl, rfl⟩)
        go_ret
        exact ⟨ret_bool (by rw [HSUM.out]; exact (hbad.out (by rw [hG.out, hcd'.out]; rfl)).symm), hbl⟩
      have hcd' := Lib.hid hcd; clear hcd
      go_wp2_with (go_at_call 88; refine (spec_CodeValid _ _ hok).mono ?_; rw [hcd'.out]; rintro e w' ⟨rfl, rfl⟩)
      go_loopw [4] (fun i wr => ∃ m : Nat, m ≤ k ∧ i = .int .i64 m ∧ Below w.heap.size w wr ∧ wr.cell? ⟨w.heap.size, 2, none⟩ = some (.slice (some ⟨b, o, none⟩) cs.length cp) ∧ Hid ((cs.take m).all (fun y => !sEq y c) = true)) (fun i _ => k - (intOf i).toNat)
      case atStart => exact ⟨0, Nat.zero_le _, rfl, hbl, hcx, rfl⟩
      case round =>
        obtain ⟨m, hm', rfl, hbw, hcw, HA⟩ := hrel
        have hsi := hbw.size
        clear c1' hcx
        have c1' : wr.cell? ⟨b, o + k, none⟩ = some (.string c) := (hbw.cell (p := ⟨b, o + k, none⟩) hb).trans c1
        by_cases hmk : m < k
        · obtain ⟨b', o', hA, _, _, d1⟩ := HRA.out.str m (by omega)
          have hT := Lib.hid (take_all_succ (p := fun y : ByteArray => !sEq y c) cs m (by omega))
          have hI := Lib.hid (take_all_bad (p := fun y : ByteArray => !sEq y c) cs m k (by omega) hmk)
          generalize cs[m] = y at *
          injection hA with hA
          injection hA with hA1 hA2
          subst hA1 hA2
          have d1' : wr.cell? ⟨b, o + m, none⟩ = some (.string y) := (hbw.cell (p := ⟨b, o + m, none⟩) hb).trans d1
          clear d1 c1
          have hml : (m : Int) < (cs.length : Int) := by omega
          have hkl : (k : Int) < (cs.length : Int) := by omega
          cases hyx : sEq y c
          · have HY := Lib.hid hyx
            have hyx' : (y.toList == c.toList) = false := hyx
            clear hyx
            go_wp2
            go_quiet (fail)
            go_wp2
            go_roundw
            case rel => exact ⟨m + 1, by omega, by go_num, below_drewN hbw _, by go_simp, by show _ = true; rw [hT.out, HA.out, HY.out]; rfl⟩
            case measure => simp [intOf]; omega
          · have HY := Lib.hid hyx
            have hyx' : (y.toList == c.toList) = true := hyx
            clear hyx
            go_wp2
            go_quiet (fail)
            go_wp2
            go_ret
            exact ⟨ret_bool (by rw [HSUM.out]; exact (hbad.out (by rw [hG.out, hI.out (by rw [HY.out]; rfl)]; simp)).symm), below_drewN hbw _⟩
        · have hme : m = k := by omega
          have HE := Lib.hid hme; clear hme
          go_wp2
          go_roundw
          case rel =>
            refine ⟨k + 1, by omega, by go_num, hbw, hcw, fun j hj => ?_⟩
            by_cases hjk : j < k
            · exact HG.out j hjk
            · obtain rfl : j = k := by omega
              rw [hG.out, hcd'.out, ← HE.out, HA.out]; rfl
          case measure => simp [intOf]; omega
    · have HE := Lib.hid (show k = cs.length by omega)
      go_wp2
      go_ret
      exact ⟨ret_bool (by rw [HSUM.out]; exact (codesOk_good (by rw [← HE.out]; exact HG.out)).symm), hbl⟩

end Go.Proofs.YtpinkbodbedajaaGreatDoor

namespace Go.Proofs.YtpinkbodbedajaaGreatDoor
open Go.RowKit




end Go.Proofs.YtpinkbodbedajaaGreatDoor

namespace Go.Proofs.YtpinkbodbedajaaGreatDoor
open Go.RowKit




def ltrEq (x y : Ltr) : Bool := x.id == y.id && sEq x.code y.code
theorem ltrEq_iff (x y : Ltr) : ltrEq x y = true ↔ x = y := by
  cases x; cases y; simp [ltrEq, sEq_iff]



end Go.Proofs.YtpinkbodbedajaaGreatDoor

namespace Go.Proofs.YtpinkbodbedajaaGreatDoor
open Go.RowKit

theorem Tryz.infoLtr : (Tryz.prog.info? 89).map (fun i => (i.zero, i.size, i.bytes)) = some (some (.agg #[.int .i64 0, .string ⟨#[]⟩]), 2, 24) := by kernel_rfl


/-- The decimal digits of a number; none of 0. -/
def dec10 : Nat → List UInt8
  | 0 => []
  | n + 1 => dec10 ((n + 1) / 10) ++ [UInt8.ofNat (48 + (n + 1) % 10)]
  decreasing_by omega
theorem dec10_step {n : Nat} (h : 0 < n) : dec10 n = dec10 (n / 10) ++ [UInt8.ofNat (48 + n % 10)] := by
  cases n with
  | zero => omega
  | succ n => rw [dec10]
/-- 'byte(n)' -/
def b8 (n : Int) : UInt8 := UInt8.ofNat n.toNat
/-- 'string([]byte{x})' -/
theorem byteString (W : World) (n : Int) : (convert 22 9 (.slice (some ⟨W.heap.size, 0, none⟩) 1 1)).run Tryz.prog (W.alloc (.cells #[.int .u8 n] 5)) = .ok (.string ⟨#[b8 n]⟩) (W.alloc (.cells #[.int .u8 n] 5)) := by
  rw [run_convert_bytes_string _ _ _ 5 _ _ _ Tryz.underlying22 Tryz.underlying5 Tryz.underlying9]
  rw [run_bytesToString _ _ _ _ [n] (by
    refine run_loadCells_list _ _ [Value.int .u8 n] fun j v hj => ?_
    rw [add_lit, Nat.zero_add, cell_new]
    simpa using hj)]
  rfl
theorem ba_ext {a b : ByteArray} (h : a.data.toList = b.data.toList) : a = b := WideShapes.bytes_inj h
theorem ba_append (a b : ByteArray) : (a ++ b).data.toList = a.data.toList ++ b.data.toList := by simp


end Go.Proofs.YtpinkbodbedajaaGreatDoor

namespace Go.Proofs.YtpinkbodbedajaaGreatDoor
open Go.RowKit

instance elByte : El UInt8 where
  size := 1
  el _ _ x cs := cs = [.int .u8 x.toNat]
  len h := by rw [h]; rfl
  more h _ := h
  keep h _ := h
  one h := by rw [h]; intro u hu; simp at hu; rw [hu]; rfl
instance flatByte : Flat UInt8 where
  free h := h
instance elInt : El Int where
  size := 1
  el _ _ x cs := isI64 x ∧ cs = [.int .i64 x]
  len h := by rw [h.2]; rfl
  more h _ := h
  keep h _ := h
  one h := by rw [h.2]; intro u hu; simp at hu; rw [hu]; rfl
instance flatInt : Flat Int where
  free h := h
theorem rdA.byte {w : World} {B : Nat} {A : Option Addr} {xs : List UInt8} (h : rdA w B A xs) (k : Nat) (hk : k < xs.length) :
    ∃ b o, A = some ⟨b, o, none⟩ ∧ b < B ∧ w.cell? ⟨b, o + k, none⟩ = some (.int .u8 (xs[k]).toNat) := by
  obtain ⟨b, o, cs, hA, hb, rfl, hc⟩ := h k hk
  exact ⟨b, o, hA, hb, by simpa [El.size] using hc 0 _ rfl⟩
theorem rdA.int {w : World} {B : Nat} {A : Option Addr} {xs : List Int} (h : rdA w B A xs) (k : Nat) (hk : k < xs.length) :
    ∃ b o, A = some ⟨b, o, none⟩ ∧ b < B ∧ isI64 xs[k] ∧ w.cell? ⟨b, o + k, none⟩ = some (.int .i64 xs[k]) := by
  obtain ⟨b, o, cs, hA, hb, ⟨hi, rfl⟩, hc⟩ := h k hk
  exact ⟨b, o, hA, hb, hi, by simpa [El.size] using hc 0 _ rfl⟩

/-- Block g is a source at its place p, over at most 2000 bytes that lie below g. -/
def rdr (w : World) (g p : Nat) : Prop :=
  ∃ (A : Option Addr) (n c : Nat) (bs : List UInt8), w.heap[g]? = some (.cells #[.slice A n c, .int .i64 (p : Int)] 140 (0, 0)) ∧ n = bs.length ∧ n ≤ 2000 ∧ n ≤ c ∧ c ≤ maxLen ∧ rdA w g A bs
theorem rdr.lt {w : World} {g p : Nat} (h : rdr w g p) : g < w.heap.size := by
  obtain ⟨_, _, _, _, h1, _⟩ := h
  exact (Array.getElem?_eq_some_iff.1 h1).1
theorem rdr.below {w w' : World} {g p : Nat} (h : rdr w g p) (hb : Below w.heap.size w w') : rdr w' g p := by
  have hlt := h.lt
  obtain ⟨A, n, c, bs, h1, h2, h3, h4, h5, h6⟩ := h
  exact ⟨A, n, c, bs, (hb.block g hlt).trans h1, h2, h3, h4, h5, h6.keep fun p hp => hb.cell (Nat.lt_trans hp hlt)⟩
/-- Only the source, and what is new, has turned. -/
theorem rdr.grown {w w' : World} {g p g' : Nat} (h : rdr w g p) (hg : w.grownBy w' (some g')) (hlt : g < g') : rdr w' g p := by
  have hlt' := h.lt
  obtain ⟨A, n, c, bs, h1, h2, h3, h4, h5, h6⟩ := h
  refine ⟨A, n, c, bs, (hg.block g hlt' (fun e => by injection e; omega)).trans h1, h2, h3, h4, h5, h6.keep fun q hq => ?_⟩
  exact World.cell?_of_block (hg.block q.block (by omega) (fun e => by injection e; omega))

theorem xor_nonneg (a b : Nat) (ha : a < 9223372036854775808) (hb : b < 9223372036854775808) : ∃ c : Nat, bits .xor .i64 (a : Int) (b : Int) = (c : Int) ∧ c < 9223372036854775808 := by
  have hx : a ^^^ b < 2 ^ 63 := Nat.xor_lt_two_pow (by omega) (by omega)
  have h1 : ∀ a : Nat, a < 9223372036854775808 → (BitVec.ofInt 64 (a : Int)).toNat = a := fun a ha => by
    rw [BitVec.ofInt_natCast, BitVec.toNat_ofNat]; exact Nat.mod_eq_of_lt (by omega)
  refine ⟨a ^^^ b, ?_, by omega⟩
  show IntKind.i64.wrap ((BitVec.ofInt 64 (a : Int) ^^^ BitVec.ofInt 64 (b : Int)).toNat : Int) = _
  rw [BitVec.toNat_xor, h1 a ha, h1 b hb, IntKind.wrap_i64]
  omega

/-- What 'pick' gives. -/
def picked (n x : Int) : Prop := (n < 1 → x = 0) ∧ (1 ≤ n → 0 ≤ x ∧ x < n)

set_option maxHeartbeats 1000000 in
theorem rd_pick (g p : Nat) (n : Int) (w : World) (hr : rdr w g p) (hp : p ≤ 1099511627776) (hn : isI64 n) :
    Calls Tryz.prog 100 #[.pointer (some ⟨g, 0, none⟩), .int .i64 n] w fun e w' => ∃ x : Int, e = .returned (.int .i64 x) ∧ picked n x ∧ rdr w' g (p + 1) ∧ w.grownBy w' (some g) := by
  have hlt := hr.lt
  obtain ⟨n1, n2⟩ := hn
  obtain ⟨A, m, c, bs, h1, rfl, h3, h4, h5, h6⟩ := hr
  have g0 : w.cell? ⟨g, 0, none⟩ = some (.slice A bs.length c) := by rw [cell_of_row _ _ _ _ _ _ h1]; rfl
  have g1 : w.cell? ⟨g, 1, none⟩ = some (.int .i64 p) := by rw [cell_of_row _ _ _ _ _ _ h1]; rfl
  have f0 : w.frozen? ⟨g, 1, none⟩ = false := by simp [World.frozen?, h1]
  have hr1 : rdr (w.setCell ⟨g, 1, none⟩ (.int .i64 ((p : Int) + 1))) g (p + 1) :=
    ⟨A, bs.length, c, bs, by simp [World.setCell, Array.getElem?_modify, h1], rfl, h3, h4, h5, h6.keep fun q hq => World.cell?_setCell_other _ _ _ _ (fun e => by subst e; simp at hq)⟩
  have hgr : w.grownBy (w.setCell ⟨g, 1, none⟩ (.int .i64 ((p : Int) + 1))) (some g) := grown_setCell (World.grownBy.refl _ _) (.inl rfl) _
  have HR := Lib.hid hr1; clear hr1
  have H6 := Lib.hid h6; clear h6
  have H1 := Lib.hid h1; clear h1
  have HG := Lib.hid hgr; clear hgr
  unfold maxLen at h5
  go_enter Tryz.func100, Tryz.ntmps100
  by_cases hn0 : n < 1
  · have HP : Hid (picked n 0) := ⟨fun _ => rfl, fun h => absurd hn0 (Int.not_lt.2 h)⟩
    go_wp2
    go_ret
    exact ⟨0, rfl, HP.out, HR.out, HG.out⟩
  by_cases hl0 : bs.length = 0
  · have hl0' : ((bs.length : Int) == 0) = true := by simp [hl0]
    have HL := Lib.hid hl0; clear hl0
    have HP : Hid (picked n 0) := ⟨fun _ => rfl, fun h => ⟨Int.le_refl _, Int.lt_of_lt_of_le (by decide) h⟩⟩
    go_wp2
    go_ret
    exact ⟨0, rfl, HP.out, HR.out, HG.out⟩
  have hl0' : ((bs.length : Int) == 0) = false := beq_eq_false_iff_ne.2 (by omega)
  by_cases hpl : p < bs.length
  · obtain ⟨b, o, rfl, hb, c1⟩ := H6.out.byte p hpl
    have hby : (bs[p].toNat : Int) ≤ 255 := by have := bs[p].toNat_lt; omega
    generalize bs[p] = u at *
    have c2 : (w.setCell ⟨g, 1, none⟩ (.int .i64 ((p : Int) + 1))).cell? ⟨b, o + p, none⟩ = some (.int .u8 u.toNat) := (World.cell?_setCell_other _ _ _ _ (fun e => by injection e; omega)).trans c1
    have hmod : 0 ≤ (u.toNat : Int) % n ∧ (u.toNat : Int) % n < n := ⟨Int.emod_nonneg _ (by omega), Int.emod_lt_of_pos _ (by omega)⟩
    have HM := Lib.hid hmod; clear hmod
    have HN := Lib.hid (Int.not_lt.1 hn0)
    go_wp2
    go_ret
    exact ⟨(u.toNat : Int) % n, rfl, ⟨fun h => absurd h (Int.not_lt.2 HN.out), fun _ => HM.out⟩, HR.out, HG.out⟩
  · have hL : 0 < bs.length := by omega
    have hm1 := Nat.mod_lt p hL
    have hm2 := Nat.mod_lt (p * 7 + 3) hL
    obtain ⟨b, o, rfl, hb, c1⟩ := H6.out.byte _ hm1
    obtain ⟨b', o', hA, _, d1⟩ := H6.out.byte _ hm2
    injection hA with hA
    injection hA with hA1 hA2
    subst hA1 hA2
    have hby1 : (bs[p % bs.length].toNat : Int) ≤ 255 := by have := bs[p % bs.length].toNat_lt; omega
    have hby2 : (bs[(p * 7 + 3) % bs.length].toNat : Int) ≤ 255 := by have := bs[(p * 7 + 3) % bs.length].toNat_lt; omega
    generalize bs[p % bs.length] = u at *
    generalize bs[(p * 7 + 3) % bs.length] = u' at *
    have hdv : p / bs.length ≤ p := Nat.div_le_self _ _
    have r1 : (p : Int).tmod (bs.length : Int) = ((p % bs.length : Nat) : Int) := by rw [Int.tmod_eq_emod_of_nonneg (by omega)]; rfl
    have r2 : ((p : Int) * 7 + 3).tmod (bs.length : Int) = (((p * 7 + 3) % bs.length : Nat) : Int) := by rw [Int.tmod_eq_emod_of_nonneg (by omega)]; rfl
    have r3 : (p : Int).tdiv (bs.length : Int) = ((p / bs.length : Nat) : Int) := by rw [Int.tdiv_eq_ediv_of_nonneg (by omega)]; rfl
    generalize hi1 : p % bs.length = i1 at *
    generalize hi2 : (p * 7 + 3) % bs.length = i2 at *
    generalize hi3 : p / bs.length = i3 at *
    clear hi1 hi2 hi3
    have c2 : (w.setCell ⟨g, 1, none⟩ (.int .i64 ((p : Int) + 1))).cell? ⟨b, o + i1, none⟩ = some (.int .u8 u.toNat) := (World.cell?_setCell_other _ _ _ _ (fun e => by injection e; omega)).trans c1
    have d2 : (w.setCell ⟨g, 1, none⟩ (.int .i64 ((p : Int) + 1))).cell? ⟨b, o + i2, none⟩ = some (.int .u8 u'.toNat) := (World.cell?_setCell_other _ _ _ _ (fun e => by injection e; omega)).trans d1
    have q1 : (i1 : Int) < (bs.length : Int) := by omega
    have q2 : (i2 : Int) < (bs.length : Int) := by omega
    go_wp2
    go_quiet (fail)
    have HN := Lib.hid (show 1 ≤ n by omega)
    go_wp2
    go_ret
    obtain ⟨y, hy, _⟩ := xor_nonneg (u.toNat * 131 + u'.toNat * 1117 + p * 29 + i3 * 53) ((u.toNat * 131 + u'.toNat * 1117 + p * 29 + i3 * 53) / 64) (by omega) (by omega)
    have hy' : bits BinOp.xor IntKind.i64 ((u.toNat : Int) * 131 + (u'.toNat : Int) * 1117 + (p : Int) * 29 + (i3 : Int) * 53) (((u.toNat : Int) * 131 + (u'.toNat : Int) * 1117 + (p : Int) * 29 + (i3 : Int) * 53) / 64) = (y : Int) := by
      rw [← hy]; congr 1
    refine ⟨_, rfl, ⟨fun h => absurd h (Int.not_lt.2 HN.out), fun h => ?_⟩, rdr.below HR.out (below_drewN (Below.refl _ _) nq), grown_drewN HG.out nq⟩
    rw [hy', Int.tmod_eq_emod_of_nonneg (by omega)]
    exact ⟨Int.emod_nonneg _ (by omega), Int.emod_lt_of_pos _ (by omega)⟩

end Go.Proofs.YtpinkbodbedajaaGreatDoor

namespace Go.Proofs.YtpinkbodbedajaaGreatDoor
open Go.RowKit

theorem later_trans {a b c : World} (h : Below a.heap.size a b) (k : Below b.heap.size b c) : Below a.heap.size a c := h.trans (k.mono h.size)
theorem later_alloc {a b : World} (h : Below a.heap.size a b) (o : Obj) : Below a.heap.size a (b.alloc o) := h.alloc h.size o
theorem later_drew {a b : World} (h : Below a.heap.size a b) : Below a.heap.size a b.drew := h.drew
theorem later_drewN {a b : World} (h : Below a.heap.size a b) (n : Nat) : Below a.heap.size a (b.drewN n) := below_drewN h n
theorem later_set {a b : World} (h : Below a.heap.size a b) {p : Addr} (hp : a.heap.size ≤ p.block) (u : Value) : Below a.heap.size a (b.setCell p u) := h.setCell hp u
attribute [go_sem] later_alloc later_drew later_drewN

/-- A cell that holds u in the world a and in every later one. -/
def stays (a : World) (p : Addr) (u : Value) : Prop := ∀ W, Below a.heap.size a W → W.cell? p = some u
theorem stays.on {a b : World} {p : Addr} {u : Value} (h : stays a p u) (hb : Below a.heap.size a b) : stays b p u := fun W hW => h W (later_trans hb hW)
/-- The cells of a block just made. -/
theorem box_cells {w w0 : World} {cs : Array Value} {T : TypeId} (h : w0 = w.alloc (.cells cs T)) (i : Nat) (u : Value) (hu : cs[i]? = some u) : ∀ W, Below w0.heap.size w0 W → W.cell? ⟨w.heap.size, i, none⟩ = some u := fun W hW => by
  have h1 : w.heap.size < w0.heap.size := by subst h; simp
  rw [hW.cell (p := ⟨w.heap.size, i, none⟩) h1]
  subst h
  rw [cell_new]
  exact hu
theorem box_later {w w0 : World} {o : Obj} (h : w0 = w.alloc o) : Below w.heap.size w w0 ∧ w.heap.size < w0.heap.size := by
  subst h
  exact ⟨(Below.refl _ _).alloc (Nat.le_refl _) _, by simp⟩

theorem rdA.ltrU {w : World} {A : Option Addr} {xs : List Ltr} (h : rdA w w.heap.size A xs) (k : Nat) (hk : k < xs.length) :
    ∃ b o, A = some ⟨b, o, none⟩ ∧ b < w.heap.size ∧ (xs[k]).ok ∧ (∀ W, Below w.heap.size w W → W.cell? ⟨b, o + k * 2, none⟩ = some (.int .i64 (xs[k]).id)) ∧ (∀ W, Below w.heap.size w W → W.cell? ⟨b, o + k * 2 + 1, none⟩ = some (.string (xs[k]).code)) := by
  obtain ⟨b, o, hA, hb, hok, c1, c2⟩ := h.ltr k hk
  exact ⟨b, o, hA, hb, hok, fun W hW => (hW.cell (p := ⟨b, o + k * 2, none⟩) hb).trans c1, fun W hW => (hW.cell (p := ⟨b, o + k * 2 + 1, none⟩) hb).trans c2⟩
theorem rdA.misU {w : World} {A : Option Addr} {xs : List Mis} (h : rdA w w.heap.size A xs) (k : Nat) (hk : k < xs.length) :
    ∃ b o, A = some ⟨b, o, none⟩ ∧ b < w.heap.size ∧ (xs[k]).ok ∧ (∀ W, Below w.heap.size w W → W.cell? ⟨b, o + k * 2, none⟩ = some (.int .i64 (xs[k]).id)) ∧ (∀ W, Below w.heap.size w W → W.cell? ⟨b, o + k * 2 + 1, none⟩ = some (.int .i64 (xs[k]).bin)) := by
  obtain ⟨b, o, hA, hb, hok, c1, c2⟩ := h.mis k hk
  exact ⟨b, o, hA, hb, hok, fun W hW => (hW.cell (p := ⟨b, o + k * 2, none⟩) hb).trans c1, fun W hW => (hW.cell (p := ⟨b, o + k * 2 + 1, none⟩) hb).trans c2⟩
theorem openP {w : World} {B : Nat} {v : Value} {p : Pln} (h : rdP w B v p) : ∃ A c, v = .agg #[.int .i64 p.bins, .int .i64 p.passes, .slice A p.order.length c] := by
  obtain ⟨vo, rfl, _, _, A, n, c, rfl, rfl, _⟩ := h
  exact ⟨A, c, rfl⟩

/-! A block known whole. -/
theorem blk_cell {w : World} {g : Nat} {cs : Array Value} {T : TypeId} (h : w.heap[g]? = some (.cells cs T (0, 0))) (i : Nat) (u : Value) (hu : cs[i]? = some u) : w.cell? ⟨g, i, none⟩ = some u := by
  rw [cell_of_row _ _ _ _ _ _ h]; exact hu
theorem blk_free {w : World} {g : Nat} {cs : Array Value} {T : TypeId} (h : w.heap[g]? = some (.cells cs T (0, 0))) (i : Nat) : w.frozen? ⟨g, i, none⟩ = false := by
  simp [World.frozen?, h]
theorem blk_lt {w : World} {g : Nat} {o : Obj} (h : w.heap[g]? = some o) : g < w.heap.size := (Array.getElem?_eq_some_iff.1 h).1
theorem blk_below {w w' : World} {g : Nat} {o : Obj} (h : w.heap[g]? = some o) (hb : Below w.heap.size w w') : w'.heap[g]? = some o := (hb.block g (blk_lt h)).trans h
theorem blk_set {w : World} {g : Nat} {cs : Array Value} {T : TypeId} (h : w.heap[g]? = some (.cells cs T (0, 0))) (i : Nat) (u : Value) : (w.setCell ⟨g, i, none⟩ u).heap[g]? = some (.cells (cs.setIfInBounds i u) T (0, 0)) := by
  simp [World.setCell, Array.getElem?_modify, h]
/-- A store elsewhere leaves a row alone. -/
theorem own_out {α : Type} [Flat α] {T : TypeId} {base : Nat} {w : World} {v : Value} {xs : List α} (h : own T base w v xs) (p : Addr) (u : Value) (hp : p.block < base) : own T base (w.setCell p u) v xs :=
  h.grown (grown_setCell (World.grownBy.refl w (some p.block)) (.inl rfl) u) (by
    cases hv : v.ownBlock with
    | none => exact .inl rfl
    | some k =>
      refine .inr fun e => ?_
      have := (h.blk k hv).1
      injection e
      omega)

end Go.Proofs.YtpinkbodbedajaaGreatDoor

namespace Go.Proofs.YtpinkbodbedajaaGreatDoor
open Go.RowKit

theorem ret_tup {a b : Value} (h : a = b) : Ending.returned a = .returned b := by rw [h]







end Go.Proofs.YtpinkbodbedajaaGreatDoor
