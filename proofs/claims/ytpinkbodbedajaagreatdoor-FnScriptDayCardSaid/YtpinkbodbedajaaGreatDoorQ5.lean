/- K1 K2 K3 K5 B2 GMis B3 -/
import Derived.Test.YtpinkbodbedajaaGreatDoorQ1
import Derived.Laws.MathBits
import Derived.Handy
import Derived.Deep.QuietTactic
import Derived.BigQuiet
import Derived.IntWalk
import Derived.Test.YtpinkbodbedajaaGreatDoorQ2
import Derived.Test.YtpinkbodbedajaaGreatDoorQ4
import Derived.StillTailTactics
import Derived.Deep.RegionLaw
namespace Go.Proofs.YtpinkbodbedajaaGreatDoor
open Go.RowKit

theorem sEq_comm (s t : ByteArray) : sEq s t = sEq t s := by
  rw [Bool.eq_iff_iff, sEq_iff, sEq_iff]; exact eq_comm

set_option maxHeartbeats 400000 in
theorem slices_IndexS (v : Value) (xs : List ByteArray) (c : ByteArray) (w : World) (hv : rd w w.heap.size v xs) :
    Calls Tryz.prog 166 #[v, .string c] w fun e w' => e = .returned (.int .i64 (rkI xs c)) ∧ w = w' := by
  obtain ⟨A, n, cp, rfl, hn, hc, hm, hr⟩ := hv
  subst hn
  unfold maxLen at hm
  have HR := Lib.hid hr; clear hr
  go_enter Tryz.func166, Tryz.ntmps166
  go_wp2
  go_loop [8] (fun i => ∃ k : Nat, k ≤ xs.length ∧ i = .int .i64 k ∧ Hid (∀ j (h : j < xs.length), j < k → sEq xs[j] c = false)) (fun i => xs.length - (intOf i).toNat)
  case atStart => exact ⟨0, Nat.zero_le _, rfl, fun j _ hj => absurd hj (Nat.not_lt_zero j)⟩
  case round =>
    obtain ⟨k, hk, rfl, HG⟩ := hrel
    by_cases hlt : k < xs.length
    · obtain ⟨b, o, rfl, hb, hok, c1⟩ := HR.out.str k hlt
      have HX : Hid (∀ h : sEq xs[k] c = false, ∀ j (h1 : j < xs.length), j < k + 1 → sEq xs[j] c = false) := fun h j h1 hj => by
        by_cases hjk : j < k
        · exact HG.out j h1 hjk
        · obtain rfl : j = k := by omega
          exact h
      have HY : Hid (∀ h : sEq xs[k] c = true, rkI xs c = k) := fun h => by
        have e := rk_eq hlt (fun j hj => HG.out j (by omega) hj) h
        rw [rkI_pos (by omega), e]
      generalize xs[k] = x at *
      cases he : sEq x c
      · have he' := Lib.hid he
        have hq : (c.toList == x.toList) = false := by rw [← he]; exact sEq_comm c x
        clear he
        go_wp2
        go_round
        case rel => exact ⟨k + 1, by omega, by go_num, HX.out he'.out⟩
        case measure => simp [intOf]; omega
      · have he' := Lib.hid he
        have hq : (c.toList == x.toList) = true := by rw [← he]; exact sEq_comm c x
        clear he
        go_wp2
        go_ret
        exact ⟨ret_int (HY.out he'.out).symm, rfl⟩
    · have HE : Hid (rkI xs c = -1) := by
        have e := rk_none (cs := xs) (c := c) (fun j hj => HG.out j hj (by omega))
        exact rkI_neg (by omega)
      go_wp2
      go_ret
      exact ⟨ret_int HE.out.symm, rfl⟩

theorem slices_ContainsS (v : Value) (xs : List ByteArray) (c : ByteArray) (w : World) (hv : rd w w.heap.size v xs) :
    Calls Tryz.prog 111 #[v, .string c] w fun e w' => e = .returned (.bool (decide (0 ≤ rkI xs c))) ∧ w = w' := by
  go_enter Tryz.func111, Tryz.ntmps111
  go_wp2_with fail
  refine (slices_IndexS v xs c w hv).mono ?_
  rintro e w1 ⟨rfl, rfl⟩
  obtain ⟨r, HR⟩ : ∃ r, Hid (rkI xs c = r) := ⟨_, rfl⟩
  rw [HR.out]
  go_wp2_with fail
  go_ret
  exact ⟨ret_bool (by rw [HR.out]), rfl⟩

theorem impl_binsValid (n : Int) (w : World) : Calls Tryz.prog 120 #[.int .i64 n] w fun e w' => e = .returned (.bool (decide (2 ≤ n) && decide (n ≤ 16))) ∧ w = w' := by
  go_enter Tryz.func120, Tryz.ntmps120
  by_cases h1 : 2 ≤ n
  · go_wp2
    go_ret
    exact ⟨ret_bool (by simp [h1]), rfl⟩
  · go_wp2
    go_ret
    exact ⟨ret_bool (by rw [decide_eq_false (p := 2 ≤ n) (by omega)]; rfl), rfl⟩
theorem impl_passesValid (n : Int) (w : World) : Calls Tryz.prog 121 #[.int .i64 n] w fun e w' => e = .returned (.bool (decide (1 ≤ n) && decide (n ≤ 4))) ∧ w = w' := by
  go_enter Tryz.func121, Tryz.ntmps121
  by_cases h1 : 1 ≤ n
  · go_wp2
    go_ret
    exact ⟨ret_bool (by simp [h1]), rfl⟩
  · go_wp2
    go_ret
    exact ⟨ret_bool (by rw [decide_eq_false (p := 1 ≤ n) (by omega)]; rfl), rfl⟩

set_option maxHeartbeats 400000 in
theorem impl_binPower (b : Int) (n : Nat) (w : World) (h1 : 2 ≤ b) (h2 : b ≤ 16) (hn : n ≤ 4) :
    Calls Tryz.prog 175 #[.int .i64 b, .int .i64 n] w fun e w' => e = .returned (.int .i64 (powI b n)) ∧ w = w' := by
  go_enter Tryz.func175, Tryz.ntmps175
  go_wp2
  go_loop [5, 7] (fun t i => ∃ (k : Nat) (m : Int), k ≤ n ∧ i = .int .i64 k ∧ t = .int .i64 m ∧ 1 ≤ m ∧ m ≤ 65536 ∧ Hid (m = powI b k)) (fun _ i => n - (intOf i).toNat)
  case atStart => exact ⟨0, 1, Nat.zero_le _, rfl, rfl, by omega, by omega, rfl⟩
  case round =>
    obtain ⟨k, m, hk, rfl, rfl, m0, m1, HM⟩ := hrel
    by_cases hlt : k < n
    · obtain ⟨p1, p2⟩ := powI_bounds h1 h2 (k + 1) (by omega)
      have hp : powI b (k + 1) = m * b := by rw [HM.out]; rfl
      have HP := Lib.hid hp
      rw [hp] at p1 p2
      clear hp
      go_wp2
      go_round
      case rel => exact ⟨k + 1, _, by omega, by go_num, rfl, p1, p2, HP.out.symm⟩
      case measure => simp [intOf]; omega
    · have HE := Lib.hid (show k = n by omega)
      go_wp2
      go_ret
      exact ⟨ret_int (by rw [HM.out, HE.out]), rfl⟩

theorem impl_CapacityOf (b p : Int) (w : World) (h : shapeOk b p = true) :
    Calls Tryz.prog 122 #[.int .i64 b, .int .i64 p] w fun e w' => e = .returned (.int .i64 (powI b p.toNat)) ∧ w = w' := by
  obtain ⟨h1, h2, h3, h4⟩ := shapeOk_iff.1 h
  clear h
  obtain ⟨n, rfl⟩ := Int.eq_ofNat_of_zero_le (show 0 ≤ p by omega)
  have e1 : (decide (2 ≤ b) && decide (b ≤ 16)) = true := by rw [decide_eq_true h1, decide_eq_true h2]; rfl
  have e2 : (decide ((1 : Int) ≤ (n : Int)) && decide ((n : Int) ≤ 4)) = true := by rw [decide_eq_true h3, decide_eq_true h4]; rfl
  have E1 := Lib.hid e1; clear e1
  have E2 := Lib.hid e2; clear e2
  go_enter Tryz.func122, Tryz.ntmps122
  go_wp2_with fail
  refine (impl_binsValid b w).mono ?_
  rw [E1.out]
  rintro e w1 ⟨rfl, rfl⟩
  go_wp2_with fail
  refine (impl_passesValid n w).mono ?_
  rw [E2.out]
  rintro e w1 ⟨rfl, rfl⟩
  go_wp2_with fail
  refine (impl_binPower b n w h1 h2 (by omega)).mono ?_
  rintro e w1 ⟨rfl, rfl⟩
  go_wp2_with fail
  go_ret
  exact ⟨ret_int (by rw [Int.toNat_natCast]), rfl⟩

end Go.Proofs.YtpinkbodbedajaaGreatDoor

namespace Go.Proofs.YtpinkbodbedajaaGreatDoor
open Go.RowKit

theorem all_rk (cs : List ByteArray) (c : ByteArray) : cs.all (fun d => !sEq d c) = !decide (0 ≤ rkI cs c) := by
  rw [Bool.eq_iff_iff, List.all_eq_true]
  constructor
  · intro h
    have : rk cs c = cs.length := rk_none fun j hj => by simpa using h _ (List.getElem_mem hj)
    rw [rkI_neg (by omega)]
    decide
  · intro h x hx
    obtain ⟨j, hj, rfl⟩ := List.getElem_of_mem hx
    have hn : ¬ 0 ≤ rkI cs c := by simpa using h
    have hk : ¬ rk cs c < cs.length := fun hlt => by rw [rkI_pos hlt] at hn; omega
    have := rk_before cs c j hj (by omega)
    simp [this]

set_option maxHeartbeats 400000 in
theorem impl_codesDiffer (v : Value) (cs : List ByteArray) (w : World) (hv : rd w w.heap.size v cs) :
    Calls Tryz.prog 123 #[v] w fun e w' => e = .returned (.bool (codesOk cs)) ∧ w = w' := by
  have hv0 := Lib.hid hv
  obtain ⟨A, n, cp, rfl, hn, hc, hm, hr⟩ := hv
  subst hn
  unfold maxLen at hm
  have HR := Lib.hid hr; clear hr
  go_enter Tryz.func123, Tryz.ntmps123
  go_wp2
  go_loop [7] (fun i => ∃ k : Nat, k ≤ cs.length ∧ i = .int .i64 k ∧ Hid (∀ j, j < k → goodC cs j = true)) (fun i => cs.length - (intOf i).toNat)
  case atStart => exact ⟨0, Nat.zero_le _, rfl, fun j hj => absurd hj (Nat.not_lt_zero j)⟩
  case round =>
    obtain ⟨k, hk, rfl, HG⟩ := hrel
    by_cases hlt : k < cs.length
    · obtain ⟨b, o, rfl, hb, hok, c1⟩ := HR.out.str k hlt
      have hG := Lib.hid (goodC_of hlt)
      have hbad := Lib.hid (fun h => codesOk_bad hlt h)
      have hA := Lib.hid (all_rk (cs.take k) cs[k])
      generalize cs[k] = c at *
      cases hcd : isCode c
      · have hcd' := Lib.hid hcd; clear hcd
        go_wp2_with (go_at_call 75; refine (impl_CodeValid _ _ hok).mono ?_; rw [hcd'.out]; rintro e w' ⟨rfl, rfl⟩)
        go_ret
        exact ⟨ret_bool (hbad.out (by rw [hG.out, hcd'.out]; rfl)).symm, rfl⟩
      have hcd' := Lib.hid hcd; clear hcd
      cases hd : decide (0 ≤ rkI (cs.take k) c)
      · have hd' := Lib.hid hd; clear hd
        go_wp2_with (first | (go_at_call 75; refine (impl_CodeValid _ _ hok).mono ?_; rw [hcd'.out]; rintro e w' ⟨rfl, rfl⟩) | (go_at_call 111; refine (slices_ContainsS _ (cs.take k) _ _ (hv0.out.take hk)).mono ?_; rw [hd'.out]; rintro e w' ⟨rfl, rfl⟩))
        go_round
        case rel =>
          refine ⟨k + 1, by omega, by go_num, fun j hj => ?_⟩
          by_cases hjk : j < k
          · exact HG.out j hjk
          · obtain rfl : j = k := by omega
            rw [hG.out, hcd'.out, hA.out, hd'.out]; rfl
        case measure => simp [intOf]; omega
      · have hd' := Lib.hid hd; clear hd
        go_wp2_with (first | (go_at_call 75; refine (impl_CodeValid _ _ hok).mono ?_; rw [hcd'.out]; rintro e w' ⟨rfl, rfl⟩) | (go_at_call 111; refine (slices_ContainsS _ (cs.take k) _ _ (hv0.out.take hk)).mono ?_; rw [hd'.out]; rintro e w' ⟨rfl, rfl⟩))
        go_ret
        exact ⟨ret_bool (hbad.out (by rw [hG.out, hcd'.out, hA.out, hd'.out]; rfl)).symm, rfl⟩
    · have HE := Lib.hid (show k = cs.length by omega)
      go_wp2
      go_ret
      exact ⟨ret_bool (codesOk_good (by rw [← HE.out]; exact HG.out)).symm, rfl⟩

set_option maxHeartbeats 800000 in
theorem impl_PlanValid (v : Value) (p : Pln) (w : World) (hv : rdP w w.heap.size v p) :
    Calls Tryz.prog 58 #[v] w fun e w' => e = .returned (.bool (planOk p)) ∧ Below w.heap.size w w' := by
  obtain ⟨vo, rfl, hi1, hi2, hr⟩ := hv
  have hr0 := hr
  obtain ⟨A, n, cp, rfl, hn, hc, hm, _⟩ := hr
  subst hn
  unfold maxLen at hm
  have hrb := Lib.hid (fun o => hr0.on ((Below.refl _ _).alloc (Nat.le_refl _) o))
  clear hr0
  have hB : Below w.heap.size w (w.alloc (Obj.cells #[Value.int IntKind.i64 p.bins, Value.int IntKind.i64 p.passes, Value.slice A p.order.length cp] 25)) := (Below.refl _ _).alloc (Nat.le_refl _) _
  have HB := Lib.hid hB; clear hB
  have e0 : planOk p = (((decide (2 ≤ p.bins) && decide (p.bins ≤ 16)) && (decide (1 ≤ p.passes) && decide (p.passes ≤ 4))) && (decide (1 ≤ p.order.length) && decide (p.order.length ≤ 60)) && decide ((p.order.length : Int) ≤ powI p.bins p.passes.toNat) && codesOk p.order) := rfl
  have E0 := Lib.hid e0; clear e0
  go_enter Tryz.func58, Tryz.ntmps58
  go_wp2_with fail
  refine (impl_binsValid _ _).mono ?_
  rintro e w1 ⟨rfl, rfl⟩
  cases h1 : (decide (2 ≤ p.bins) && decide (p.bins ≤ 16))
  · have H1 := Lib.hid h1; clear h1
    go_wp2_with fail
    go_ret
    exact ⟨ret_bool (by rw [E0.out, H1.out]; rfl), HB.out⟩
  have H1 := Lib.hid h1; clear h1
  go_wp2_with fail
  refine (impl_passesValid _ _).mono ?_
  rintro e w1 ⟨rfl, rfl⟩
  cases h2 : (decide (1 ≤ p.passes) && decide (p.passes ≤ 4))
  · have H2 := Lib.hid h2; clear h2
    go_wp2_with fail
    go_ret
    exact ⟨ret_bool (by rw [E0.out, H1.out, H2.out]; rfl), HB.out⟩
  have H2 := Lib.hid h2; clear h2
  have hsh : shapeOk p.bins p.passes = true := by unfold shapeOk; rw [H1.out, H2.out]; rfl
  have HSH := Lib.hid hsh; clear hsh
  by_cases h3 : 1 ≤ p.order.length
  case neg =>
    have H3 := Lib.hid h3; clear h3
    have h3i : ¬ (1 : Int) ≤ (p.order.length : Int) := by have := H3.out; omega
    go_wp2_with fail
    go_ret
    exact ⟨ret_bool (by rw [E0.out, decide_eq_false H3.out]; simp), HB.out⟩
  by_cases h4 : p.order.length ≤ 60
  case neg =>
    have H4 := Lib.hid h4; clear h4
    have h4i : ¬ (p.order.length : Int) ≤ 60 := by have := H4.out; omega
    go_wp2_with fail
    go_ret
    exact ⟨ret_bool (by rw [E0.out, decide_eq_false H4.out]; simp), HB.out⟩
  go_wp2_with fail
  refine (impl_CapacityOf _ _ _ HSH.out).mono ?_
  rintro e w1 ⟨rfl, rfl⟩
  obtain ⟨q, HQ⟩ : ∃ q, Hid (powI p.bins p.passes.toNat = q) := ⟨_, rfl⟩
  rw [HQ.out]
  by_cases h5 : (p.order.length : Int) ≤ q
  case neg =>
    have H5 := Lib.hid (decide_eq_false h5)
    go_wp2_with fail
    go_ret
    exact ⟨ret_bool (by rw [E0.out, HQ.out, H5.out]; simp), HB.out⟩
  have H5 := Lib.hid (decide_eq_true h5)
  go_wp2_with fail
  refine (impl_codesDiffer _ p.order _ (hrb.out _)).mono ?_
  rintro e w1 ⟨rfl, rfl⟩
  go_wp2_with fail
  go_ret
  exact ⟨ret_bool (by rw [E0.out, HQ.out, H1.out, H2.out, H5.out, decide_eq_true h3, decide_eq_true h4]; rfl), HB.out⟩

end Go.Proofs.YtpinkbodbedajaaGreatDoor

namespace Go.Proofs.YtpinkbodbedajaaGreatDoor
open Go.RowKit

theorem quiet_c {P : Program} {f : FuncId} {args : Array Value} {w : World} {n : Nat} {v : Value}
    (h : Calls P f args (w.drewN n) fun e w' => e = .returned v ∧ w.drewN n = w') : Calls P f args (w.drewN n) fun e w'' => e = .returned v ∧ ∃ m, w'' = w.drewN m :=
  h.mono fun _ _ ⟨he, hm⟩ => ⟨he, n, hm.symm⟩

theorem spec_l3Shape (n p : Int) (w : World) : Calls Tryz.prog 171 #[.int .i64 n, .int .i64 p] w fun e w' => e = .returned (.bool (shapeOk n p)) ∧ w = w' := by
  have e0 : shapeOk n p = (decide (2 ≤ n) && decide (n ≤ 16) && (decide (1 ≤ p) && decide (p ≤ 4))) := rfl
  have E0 := Lib.hid e0; clear e0
  go_enter Tryz.func171, Tryz.ntmps171
  go_wp2_with fail
  refine (spec_l1In n 2 16 w).mono ?_
  rintro e w1 ⟨rfl, rfl⟩
  cases h1 : (decide (2 ≤ n) && decide (n ≤ 16))
  · have H1 := Lib.hid h1; clear h1
    go_wp2_with fail
    go_ret
    exact ⟨ret_bool (by rw [E0.out, H1.out]; rfl), rfl⟩
  · have H1 := Lib.hid h1; clear h1
    go_wp2_with fail
    refine (spec_l1In p 1 4 w).mono ?_
    rintro e w1 ⟨rfl, rfl⟩
    cases h2 : (decide (1 ≤ p) && decide (p ≤ 4))
    · have H2 := Lib.hid h2; clear h2
      go_wp2_with fail
      go_ret
      exact ⟨ret_bool (by rw [E0.out, H1.out, H2.out]; rfl), rfl⟩
    · have H2 := Lib.hid h2; clear h2
      go_wp2_with fail
      go_ret
      exact ⟨ret_bool (by rw [E0.out, H1.out, H2.out]; rfl), rfl⟩

set_option maxHeartbeats 400000 in
theorem spec_l3Power (b : Int) (n : Nat) (w : World) (h1 : 2 ≤ b) (h2 : b ≤ 16) (hn : n ≤ 4) :
    Calls Tryz.prog 172 #[.int .i64 b, .int .i64 n] w fun e w' => e = .returned (.int .i64 (powI b n)) ∧ w = w' := by
  go_enter Tryz.func172, Tryz.ntmps172
  go_wp2
  go_loop [5, 6] (fun t i => ∃ (k : Nat) (m : Int), k ≤ n ∧ i = .int .i64 k ∧ t = .int .i64 m ∧ 1 ≤ m ∧ m ≤ 65536 ∧ Hid (m = powI b k)) (fun _ i => n - (intOf i).toNat)
  case atStart => exact ⟨0, 1, Nat.zero_le _, rfl, rfl, by omega, by omega, rfl⟩
  case round =>
    obtain ⟨k, m, hk, rfl, rfl, m0, m1, HM⟩ := hrel
    by_cases hlt : k < n
    · obtain ⟨p1, p2⟩ := powI_bounds h1 h2 (k + 1) (by omega)
      have hp : powI b (k + 1) = m * b := by rw [HM.out]; rfl
      have HP := Lib.hid hp
      rw [hp] at p1 p2
      clear hp
      have hlm : ¬ (100000 : Int) < m * b := by omega
      go_wp2
      go_round
      case rel => exact ⟨k + 1, m * b, by omega, by go_num, by first | rfl | exact congrArg (Value.int .i64) (by omega), p1, p2, HP.out.symm⟩
      case measure => simp [intOf]; omega
    · have HE := Lib.hid (show k = n by omega)
      go_wp2
      go_ret
      exact ⟨ret_int (by rw [HM.out, HE.out]), rfl⟩

theorem powI_nonneg_conv {p : Int} (h : 0 ≤ p) : ((p.toNat : Nat) : Int) = p := Int.toNat_of_nonneg h

set_option maxHeartbeats 1600000 in
theorem spec_PlanValid (v : Value) (p : Pln) (w : World) (hv : rdP w w.heap.size v p) :
    Calls Tryz.prog 112 #[v] w fun e w' => e = .returned (.bool (planOk p)) ∧ Below w.heap.size w w' := by
  obtain ⟨vo, rfl, hi1, hi2, hr⟩ := hv
  have hr0 := hr
  obtain ⟨A, n, cp, rfl, hn, hc, hm, hra⟩ := hr
  subst hn
  unfold maxLen at hm
  have HRA := Lib.hid hra; clear hra
  have hrb := Lib.hid (fun o n => (hr0.on ((Below.refl _ _).alloc (Nat.le_refl _) o)).on (below_drewN (Below.refl _ _) n))
  clear hr0
  have hB : Below w.heap.size w (w.alloc (Obj.cells #[Value.int IntKind.i64 p.bins, Value.int IntKind.i64 p.passes, Value.slice A p.order.length cp] 25)) := (Below.refl _ _).alloc (Nat.le_refl _) _
  have HB := Lib.hid hB; clear hB
  have e0 : planOk p = (shapeOk p.bins p.passes && (decide (1 ≤ p.order.length) && decide (p.order.length ≤ 60)) && decide ((p.order.length : Int) ≤ powI p.bins p.passes.toNat) && codesOk p.order) := rfl
  have E0 := Lib.hid e0; clear e0
  cases hsh : shapeOk p.bins p.passes
  · have HS := Lib.hid hsh; clear hsh
    have HSc := Lib.hid (fun w => HS.out ▸ spec_l3Shape p.bins p.passes w)
    go_enter Tryz.func112, Tryz.ntmps112
    go_wp2
    go_quiet (first | (go_at_call 171; refine quiet_c (HSc.out _)))
    go_wp2
    go_ret
    exact ⟨ret_bool (by rw [E0.out, HS.out]; rfl), below_drewN HB.out _⟩
  have HS := Lib.hid hsh
  have HSc := Lib.hid (fun w => HS.out ▸ spec_l3Shape p.bins p.passes w)
  obtain ⟨q1, q2, q3, q4⟩ := shapeOk_iff.1 hsh
  clear hsh
  cases hln : (decide ((1 : Int) ≤ (p.order.length : Int)) && decide ((p.order.length : Int) ≤ 60))
  · have HL := Lib.hid hln; clear hln
    have HLc := Lib.hid (fun w => HL.out ▸ spec_l1In (p.order.length : Int) 1 60 w)
    have hln2 : (decide (1 ≤ p.order.length) && decide (p.order.length ≤ 60)) = false := by
      have := HL.out
      rw [Bool.and_eq_false_iff, decide_eq_false_iff_not, decide_eq_false_iff_not] at this ⊢
      omega
    have HL2 := Lib.hid hln2; clear hln2
    go_enter Tryz.func112, Tryz.ntmps112
    go_wp2
    go_quiet (first | (go_at_call 171; refine quiet_c (HSc.out _)) | (go_at_call 115; refine quiet_c (HLc.out _)))
    go_wp2
    go_ret
    exact ⟨ret_bool (by rw [E0.out, HL2.out]; simp), below_drewN HB.out _⟩
  have HL := Lib.hid hln
  have HLc := Lib.hid (fun w => HL.out ▸ spec_l1In (p.order.length : Int) 1 60 w)
  have hln2 : 1 ≤ p.order.length ∧ p.order.length ≤ 60 := by
    rw [Bool.and_eq_true, decide_eq_true_iff, decide_eq_true_iff] at hln
    omega
  clear hln
  obtain ⟨l1, l2⟩ := hln2
  have hl3 : (decide (1 ≤ p.order.length) && decide (p.order.length ≤ 60)) = true := by rw [decide_eq_true l1, decide_eq_true l2]; rfl
  have HL3 := Lib.hid hl3; clear hl3
  obtain ⟨q, HQ⟩ : ∃ q, Hid (powI p.bins p.passes.toNat = q) := ⟨_, rfl⟩
  have hpw : ∀ w : World, Calls Tryz.prog 172 #[.int .i64 p.bins, .int .i64 p.passes] w fun e w' => e = .returned (.int .i64 q) ∧ w = w' := fun w => by
    have := spec_l3Power p.bins p.passes.toNat w q1 q2 (by omega)
    rw [HQ.out, powI_nonneg_conv (by omega)] at this
    exact this
  have HPW := Lib.hid hpw; clear hpw
  by_cases h5 : (p.order.length : Int) ≤ q
  case neg =>
    have H5 := Lib.hid (decide_eq_false h5)
    have h5' : decide ((p.order.length : Int) > q) = true := decide_eq_true (by omega)
    clear h5
    go_enter Tryz.func112, Tryz.ntmps112
    go_wp2
    go_quiet (first | (go_at_call 171; refine quiet_c (HSc.out _)) | (go_at_call 115; refine quiet_c (HLc.out _)) | (go_at_call 172; refine quiet_c (HPW.out _)))
    go_wp2
    go_ret
    exact ⟨ret_bool (by rw [E0.out, HQ.out, H5.out]; simp), below_drewN HB.out _⟩
  have H5 := Lib.hid (decide_eq_true h5)
  have h5' : decide ((p.order.length : Int) > q) = false := decide_eq_false (by omega)
  clear h5
  have hsum : planOk p = codesOk p.order := by rw [E0.out, HS.out, HL3.out, HQ.out, H5.out]; rfl
  have HSUM := Lib.hid hsum; clear hsum
  go_enter Tryz.func112, Tryz.ntmps112
  go_wp2
  go_quiet (first | (go_at_call 171; refine quiet_c (HSc.out _)) | (go_at_call 115; refine quiet_c (HLc.out _)) | (go_at_call 172; refine quiet_c (HPW.out _)))
  clear h5' HPW HQ H5 HL HLc HSc HS E0 HL3 hrb
  have hB1 : Below w.heap.size w ((w.alloc (Obj.cells #[Value.int IntKind.i64 p.bins, Value.int IntKind.i64 p.passes, Value.slice A p.order.length cp] 25)).drewN nq) := below_drewN HB.out _
  have hc0 : ((w.alloc (Obj.cells #[Value.int IntKind.i64 p.bins, Value.int IntKind.i64 p.passes, Value.slice A p.order.length cp] 25)).drewN nq).cell? ⟨w.heap.size, 2, none⟩ = some (.slice A p.order.length cp) := by go_simp
  clear HB
  generalize ((w.alloc (Obj.cells #[Value.int IntKind.i64 p.bins, Value.int IntKind.i64 p.passes, Value.slice A p.order.length cp] 25)).drewN nq) = w0 at *
  generalize p.order = cs at *
  go_wp2
  go_loopw [3] (fun i wr => ∃ k : Nat, k ≤ cs.length ∧ i = .int .i64 k ∧ Below w.heap.size w wr ∧ wr.cell? ⟨w.heap.size, 2, none⟩ = some (.slice A cs.length cp) ∧ Hid (∀ j, j < k → goodC cs j = true)) (fun i _ => cs.length - (intOf i).toNat)
  case atStart => exact ⟨0, Nat.zero_le _, rfl, hB1, hc0, fun j hj => absurd hj (Nat.not_lt_zero j)⟩
  case round =>
    obtain ⟨k, hk, rfl, hbl, hcx, HG⟩ := hrel
    obtain ⟨w1, rfl⟩ : ∃ w1 : World, w1 = wr := ⟨_, rfl⟩
    have hsz := hbl.size
    clear hB1 hc0
    by_cases hlt : k < cs.length
    · obtain ⟨b, o, rfl, hb, hok, c1⟩ := HRA.out.str k hlt
      have hG := Lib.hid (goodC_of hlt)
      have hbad := Lib.hid (fun h => codesOk_bad hlt h)
      generalize hx : cs[k] = c at *
      have HXK := Lib.hid hx; clear hx
      have c1' : w1.cell? ⟨b, o + k, none⟩ = some (.string c) := (hbl.cell (p := ⟨b, o + k, none⟩) hb).trans c1
      cases hcd : isCode c
      · have hcd' := Lib.hid hcd; clear hcd
        go_wp2_with (go_at_call 88; refine (spec_CodeValid _ _ hok).mono ?_; rw [hcd'.out]; rintro e w' ⟨rfl, rfl⟩)
        go_ret
        exact ⟨ret_bool (by rw [HSUM.out]; exact (hbad.out (by rw [hG.out, hcd'.out]; rfl)).symm), hbl⟩
      have hcd' := Lib.hid hcd; clear hcd
      go_wp2_with (go_at_call 88; refine (spec_CodeValid _ _ hok).mono ?_; rw [hcd'.out]; rintro e w' ⟨rfl, rfl⟩)
      go_loopw [4] (fun i wr => ∃ m : Nat, m ≤ k ∧ i = .int .i64 m ∧ Below w.heap.size w wr ∧ wr.cell? ⟨w.heap.size, 2, none⟩ = some (.slice (some ⟨b, o, none⟩) cs.length cp) ∧ Hid ((cs.take m).all (fun y => !sEq y c) = true)) (fun i _ => k - (intOf i).toNat)
      case atStart => exact ⟨0, Nat.zero_le _, rfl, hbl, hcx, rfl⟩
      case round =>
        obtain ⟨m, hm', rfl, hbw, hcw, HA⟩ := hrel
        have hsi := hbw.size
        clear c1' hcx
        have c1' : wr.cell? ⟨b, o + k, none⟩ = some (.string c) := (hbw.cell (p := ⟨b, o + k, none⟩) hb).trans c1
        by_cases hmk : m < k
        · obtain ⟨b', o', hA, _, _, d1⟩ := HRA.out.str m (by omega)
          have hT := Lib.hid (take_all_succ (p := fun y : ByteArray => !sEq y c) cs m (by omega))
          have hI := Lib.hid (take_all_bad (p := fun y : ByteArray => !sEq y c) cs m k (by omega) hmk)
          generalize cs[m] = y at *
          injection hA with hA
          injection hA with hA1 hA2
          subst hA1 hA2
          have d1' : wr.cell? ⟨b, o + m, none⟩ = some (.string y) := (hbw.cell (p := ⟨b, o + m, none⟩) hb).trans d1
          clear d1 c1
          have hml : (m : Int) < (cs.length : Int) := by omega
          have hkl : (k : Int) < (cs.length : Int) := by omega
          cases hyx : sEq y c
          · have HY := Lib.hid hyx
            have hyx' : (y.toList == c.toList) = false := hyx
            clear hyx
            go_wp2
            go_quiet (fail)
            go_wp2
            go_roundw
            case rel => exact ⟨m + 1, by omega, by go_num, below_drewN hbw _, by go_simp, by show _ = true; rw [hT.out, HA.out, HY.out]; rfl⟩
            case measure => simp [intOf]; omega
          · have HY := Lib.hid hyx
            have hyx' : (y.toList == c.toList) = true := hyx
            clear hyx
            go_wp2
            go_quiet (fail)
            go_wp2
            go_ret
            exact ⟨ret_bool (by rw [HSUM.out]; exact (hbad.out (by rw [hG.out, hI.out (by rw [HY.out]; rfl)]; simp)).symm), below_drewN hbw _⟩
        · have hme : m = k := by omega
          have HE := Lib.hid hme; clear hme
          go_wp2
          go_roundw
          case rel =>
            refine ⟨k + 1, by omega, by go_num, hbw, hcw, fun j hj => ?_⟩
            by_cases hjk : j < k
            · exact HG.out j hjk
            · obtain rfl : j = k := by omega
              rw [hG.out, hcd'.out, ← HE.out, HA.out]; rfl
          case measure => simp [intOf]; omega
    · have HE := Lib.hid (show k = cs.length by omega)
      go_wp2
      go_ret
      exact ⟨ret_bool (by rw [HSUM.out]; exact (codesOk_good (by rw [← HE.out]; exact HG.out)).symm), hbl⟩

end Go.Proofs.YtpinkbodbedajaaGreatDoor

namespace Go.Proofs.YtpinkbodbedajaaGreatDoor
open Go.RowKit

set_option maxHeartbeats 400000 in
theorem spec_l3Rank (v : Value) (xs : List ByteArray) (c : ByteArray) (w : World) (hv : rd w w.heap.size v xs) :
    Calls Tryz.prog 107 #[v, .string c] w fun e w' => e = .returned (.int .i64 (rkI xs c)) ∧ w = w' := by
  obtain ⟨A, n, cp, rfl, hn, hc, hm, hr⟩ := hv
  subst hn
  unfold maxLen at hm
  have HR := Lib.hid hr; clear hr
  go_enter Tryz.func107, Tryz.ntmps107
  go_wp2
  go_loop [5] (fun i => ∃ k : Nat, k ≤ xs.length ∧ i = .int .i64 k ∧ Hid (∀ j (h : j < xs.length), j < k → sEq xs[j] c = false)) (fun i => xs.length - (intOf i).toNat)
  case atStart => exact ⟨0, Nat.zero_le _, rfl, fun j _ hj => absurd hj (Nat.not_lt_zero j)⟩
  case round =>
    obtain ⟨k, hk, rfl, HG⟩ := hrel
    by_cases hlt : k < xs.length
    · obtain ⟨b, o, rfl, hb, hok, c1⟩ := HR.out.str k hlt
      have HX : Hid (∀ h : sEq xs[k] c = false, ∀ j (h1 : j < xs.length), j < k + 1 → sEq xs[j] c = false) := fun h j h1 hj => by
        by_cases hjk : j < k
        · exact HG.out j h1 hjk
        · obtain rfl : j = k := by omega
          exact h
      have HY : Hid (∀ h : sEq xs[k] c = true, rkI xs c = k) := fun h => by
        have e := rk_eq hlt (fun j hj => HG.out j (by omega) hj) h
        rw [rkI_pos (by omega), e]
      generalize xs[k] = x at *
      cases he : sEq x c
      · have he' := Lib.hid he
        have hq : (x.toList == c.toList) = false := he
        clear he
        go_wp2
        go_round
        case rel => exact ⟨k + 1, by omega, by go_num, HX.out he'.out⟩
        case measure => simp [intOf]; omega
      · have he' := Lib.hid he
        have hq : (x.toList == c.toList) = true := he
        clear he
        go_wp2
        go_ret
        exact ⟨ret_int (HY.out he'.out).symm, rfl⟩
    · have HE : Hid (rkI xs c = -1) := by
        have e := rk_none (cs := xs) (c := c) (fun j hj => HG.out j hj (by omega))
        exact rkI_neg (by omega)
      go_wp2
      go_ret
      exact ⟨ret_int HE.out.symm, rfl⟩

theorem spec_l3Ready (v vb : Value) (p : Pln) (xs : List Ltr) (w : World) (hv : rdP w w.heap.size v p) (hb : rd w w.heap.size vb xs) :
    Calls Tryz.prog 94 #[v, vb] w fun e w' => e = .returned (.bool (planOk p && okB xs)) ∧ Below w.heap.size w w' := by
  have hv0 := Lib.hid hv
  have hb0 := Lib.hid hb
  obtain ⟨vo, rfl, hi1, hi2, Ao, no, cpo, rfl, hno, hco, hmo, hro⟩ := hv
  subst hno
  clear hco hmo hro
  have hB : Below w.heap.size w (w.alloc (Obj.cells #[Value.int IntKind.i64 p.bins, Value.int IntKind.i64 p.passes, Value.slice Ao p.order.length cpo] 25)) := (Below.refl _ _).alloc (Nat.le_refl _) _
  have HB := Lib.hid hB; clear hB
  go_enter Tryz.func94, Tryz.ntmps94
  go_wp2_with fail
  refine (spec_PlanValid _ p _ (hv0.out.on HB.out)).mono ?_
  rintro e w1 ⟨rfl, b1⟩
  have B1 := HB.out.trans (b1.mono HB.out.size)
  cases hp : planOk p
  · have HP := Lib.hid hp; clear hp
    go_wp2_with fail
    go_ret
    exact ⟨ret_bool (by rw [HP.out]; rfl), B1⟩
  · have HP := Lib.hid hp; clear hp
    obtain ⟨r, HRR⟩ : ∃ r, Hid (okB xs = r) := ⟨_, rfl⟩
    go_wp2_with fail
    refine (spec_BatchValid _ xs _ (hb0.out.on B1)).mono ?_
    rintro e w2 ⟨rfl, b2⟩
    rw [HRR.out]
    go_wp2_with fail
    go_ret
    exact ⟨ret_bool (by rw [HP.out, HRR.out]; rfl), B1.trans (b2.mono B1.size)⟩

end Go.Proofs.YtpinkbodbedajaaGreatDoor

namespace Go.Proofs.YtpinkbodbedajaaGreatDoor
open Go.RowKit

theorem ordP {w : World} {B : Nat} {p : Pln} {A : Option Addr} {c : Nat} (h : rdP w B (.agg #[.int .i64 p.bins, .int .i64 p.passes, .slice A p.order.length c]) p) : rd w B (.slice A p.order.length c) p.order := by
  obtain ⟨vo, h1, _, _, h4⟩ := h
  injection h1 with h1
  injection h1 with h1
  simp only [List.cons.injEq, and_true, true_and] at h1
  subst h1
  exact h4
theorem indexS_is {v : Value} {xs : List ByteArray} {c : ByteArray} {r : Int} {w : World} (hv : rd w w.heap.size v xs) (h : rkI xs c = r) :
    Calls Tryz.prog 166 #[v, .string c] w fun e w' => e = .returned (.int .i64 r) ∧ w = w' := by
  rw [← h]; exact slices_IndexS v xs c w hv
theorem l3RankI_is {v : Value} {xs : List ByteArray} {c : ByteArray} {r : Int} {w : World} (hv : rd w w.heap.size v xs) (h : rkI xs c = r) :
    Calls Tryz.prog 107 #[v, .string c] w fun e w' => e = .returned (.int .i64 r) ∧ w = w' := by
  rw [← h]; exact spec_l3Rank v xs c w hv

set_option maxRecDepth 100000 in
set_option maxHeartbeats 800000 in
theorem impl_binOf (v : Value) (p : Pln) (c : ByteArray) (k : Nat) (w : World) (hv : rdP w w.heap.size v p) (h1 : 2 ≤ p.bins) (h2 : p.bins ≤ 16) (hk : k ≤ 4) (hl : p.order.length ≤ 1000) :
    Calls Tryz.prog 226 #[v, .string c, .int .i64 k] w fun e w' => e = .returned (.int .i64 (binI p c k)) ∧ Below w.heap.size w w' := by
  obtain ⟨A0, c0, e0⟩ := openP hv
  obtain ⟨w0, hw0⟩ : ∃ w0, w0 = w.alloc (Obj.cells #[.int .i64 p.bins, .int .i64 p.passes, .slice A0 p.order.length c0] 25) := ⟨_, rfl⟩
  have q0 := box_cells hw0 0 (.int .i64 p.bins) rfl
  have q1 := box_cells hw0 1 (.int .i64 p.passes) rfl
  have q2 := box_cells hw0 2 (.slice A0 p.order.length c0) rfl
  have HT := Lib.hid (box_later hw0).1
  have HP := Lib.hid (hv.on HT.out)
  subst e0
  have HO := Lib.hid (ordP HP.out)
  have HW0 := Lib.hid hw0; clear hw0 hv
  have l0 := Below.refl w0.heap.size w0
  obtain ⟨r, HRR⟩ : ∃ r, Hid (rkI p.order c = r) := ⟨_, rfl⟩
  obtain ⟨q, HQ⟩ : ∃ q, Hid (powI p.bins k = q) := ⟨_, rfl⟩
  obtain ⟨qa, qb⟩ := powI_bounds h1 h2 k hk
  rw [HQ.out] at qa qb
  obtain ⟨ra, rb⟩ := rkI_range p.order c
  rw [HRR.out] at ra rb
  have C2 := Lib.hid (fun w => impl_binPower p.bins k w h1 h2 hk)
  go_enter Tryz.func226, Tryz.ntmps226
  go_wp2_with fail
  rw [← HW0.out]
  refine (indexS_is HO.out HRR.out).mono ?_
  rintro e w1 ⟨rfl, rfl⟩
  by_cases hr : r < 0
  · go_wp2_with fail
    go_ret
    exact ⟨ret_int (by rw [binI_neg (by rw [HRR.out]; exact hr)]), HT.out⟩
  have hr0 : 0 ≤ r := by omega
  have HE : Hid (binI p c k = r / q % p.bins) := by show _ = _; rw [binI_pos (by rw [HRR.out]; omega), HRR.out, HQ.out]
  have C3 : Hid (∀ w : World, Calls Tryz.prog 175 #[.int .i64 p.bins, .int .i64 k] w fun e w' => e = .returned (.int .i64 q) ∧ w = w') := fun w => by
    have h := C2.out w
    rw [HQ.out] at h
    exact h
  have hq0 : (q == 0) = false := beq_eq_false_iff_ne.2 (by omega)
  have hb0 : (p.bins == 0) = false := beq_eq_false_iff_ne.2 (by omega)
  have hq1 : ¬ q = 0 := by omega
  have hb1 : ¬ p.bins = 0 := by omega
  have d0 : 0 ≤ r / q := Int.ediv_nonneg hr0 (by omega)
  have d1 : r / q ≤ 1000 := by
    have := Int.ediv_le_self q hr0
    omega
  have m0 : 0 ≤ r / q % p.bins := Int.emod_nonneg _ hb1
  have m1 : r / q % p.bins < p.bins := Int.emod_lt_of_pos _ (by omega)
  go_wp2
  go_quiet (first | (go_at_call 175; refine quiet_c (C3.out _)))
  have t1 : r.tdiv q = r / q := Int.tdiv_eq_ediv_of_nonneg hr0
  have t2 : (r / q).tmod p.bins = r / q % p.bins := Int.tmod_eq_emod_of_nonneg d0
  have HT1 := Lib.hid t1; have HT2 := Lib.hid t2
  clear t1 t2 hq0 hb0 hq1 hb1
  go_wp2
  go_ret
  exact ⟨ret_int (by rw [HE.out]), later_trans HT.out (below_drewN l0 _)⟩

set_option maxRecDepth 100000 in
set_option maxHeartbeats 800000 in
theorem spec_l3Bin (v : Value) (p : Pln) (c : ByteArray) (k : Nat) (w : World) (hv : rdP w w.heap.size v p) (h1 : 2 ≤ p.bins) (h2 : p.bins ≤ 16) (hk : k ≤ 4) (hl : p.order.length ≤ 1000) :
    Calls Tryz.prog 162 #[v, .string c, .int .i64 k] w fun e w' => e = .returned (.int .i64 (binI p c k)) ∧ Below w.heap.size w w' := by
  obtain ⟨A0, c0, e0⟩ := openP hv
  obtain ⟨w0, hw0⟩ : ∃ w0, w0 = w.alloc (Obj.cells #[.int .i64 p.bins, .int .i64 p.passes, .slice A0 p.order.length c0] 25) := ⟨_, rfl⟩
  have q0 := box_cells hw0 0 (.int .i64 p.bins) rfl
  have q1 := box_cells hw0 1 (.int .i64 p.passes) rfl
  have q2 := box_cells hw0 2 (.slice A0 p.order.length c0) rfl
  have HT := Lib.hid (box_later hw0).1
  have HP := Lib.hid (hv.on HT.out)
  subst e0
  have HO := Lib.hid (ordP HP.out)
  have HW0 := Lib.hid hw0; clear hw0 hv
  have l0 := Below.refl w0.heap.size w0
  obtain ⟨r, HRR⟩ : ∃ r, Hid (rkI p.order c = r) := ⟨_, rfl⟩
  obtain ⟨q, HQ⟩ : ∃ q, Hid (powI p.bins k = q) := ⟨_, rfl⟩
  obtain ⟨qa, qb⟩ := powI_bounds h1 h2 k hk
  rw [HQ.out] at qa qb
  obtain ⟨ra, rb⟩ := rkI_range p.order c
  rw [HRR.out] at ra rb
  have C2 := Lib.hid (fun w => spec_l3Power p.bins k w h1 h2 hk)
  go_enter Tryz.func162, Tryz.ntmps162
  go_wp2_with fail
  rw [← HW0.out]
  refine (l3RankI_is HO.out HRR.out).mono ?_
  rintro e w1 ⟨rfl, rfl⟩
  by_cases hr : r < 0
  · go_wp2_with fail
    go_ret
    exact ⟨ret_int (by rw [binI_neg (by rw [HRR.out]; exact hr)]), HT.out⟩
  have hr0 : 0 ≤ r := by omega
  have HE : Hid (binI p c k = r / q % p.bins) := by show _ = _; rw [binI_pos (by rw [HRR.out]; omega), HRR.out, HQ.out]
  have C3 : Hid (∀ w : World, Calls Tryz.prog 172 #[.int .i64 p.bins, .int .i64 k] w fun e w' => e = .returned (.int .i64 q) ∧ w = w') := fun w => by
    have h := C2.out w
    rw [HQ.out] at h
    exact h
  have hq0 : (q == 0) = false := beq_eq_false_iff_ne.2 (by omega)
  have hb0 : (p.bins == 0) = false := beq_eq_false_iff_ne.2 (by omega)
  have hq1 : ¬ q = 0 := by omega
  have hb1 : ¬ p.bins = 0 := by omega
  have d0 : 0 ≤ r / q := Int.ediv_nonneg hr0 (by omega)
  have d1 : r / q ≤ 1000 := by
    have := Int.ediv_le_self q hr0
    omega
  have m0 : 0 ≤ r / q % p.bins := Int.emod_nonneg _ hb1
  have m1 : r / q % p.bins < p.bins := Int.emod_lt_of_pos _ (by omega)
  go_wp2
  go_quiet (first | (go_at_call 172; refine quiet_c (C3.out _)))
  have t1 : r.tdiv q = r / q := Int.tdiv_eq_ediv_of_nonneg hr0
  have t2 : (r / q).tmod p.bins = r / q % p.bins := Int.tmod_eq_emod_of_nonneg d0
  have HT1 := Lib.hid t1; have HT2 := Lib.hid t2
  clear t1 t2 hq0 hb0 hq1 hb1
  go_wp2
  go_ret
  exact ⟨ret_int (by rw [HE.out]), later_trans HT.out (below_drewN l0 _)⟩


theorem Tryz.infoRow : (Tryz.prog.info? 29).map (fun i => (i.zero, i.size, i.bytes)) = some (some (.slice none 0 0), 1, 24) := by kernel_rfl

set_option maxHeartbeats 800000 in
theorem impl_joinBins (v : Value) (xss : List (List Ltr)) (w : World) (hv : rd w w.heap.size v xss) (hl : xss.flatten.length ≤ 1048576) :
    Calls Tryz.prog 125 #[v] w fun e w' => ∃ v', e = .returned v' ∧ own 89 w.heap.size w' v' xss.flatten ∧ Below w.heap.size w w' := by
  obtain ⟨A, n, c, rfl, hn, hc, hm, hr⟩ := hv
  subst hn
  unfold maxLen at hm
  have HR := Lib.hid hr; clear hr
  have l0 := Below.refl w.heap.size w
  have HL := Lib.hid hl; clear hl
  obtain ⟨i0, hi, hz0, hz1, hz2⟩ := info_parts Tryz.infoLtr
  go_enter Tryz.func125, Tryz.ntmps125
  go_wp2
  go_loopw [3, 8] (fun t i wr => ∃ k : Nat, k ≤ xss.length ∧ i = .int .i64 k ∧ Below w.heap.size w wr ∧ own 89 w.heap.size wr t (xss.take k).flatten) (fun _ i _ => xss.length - (intOf i).toNat)
  case atStart => exact ⟨0, Nat.zero_le _, rfl, l0, own.nil_ _ _ _⟩
  case round =>
    obtain ⟨k, hk, rfl, lr, ho⟩ := hrel
    obtain ⟨w1, rfl⟩ : ∃ w1 : World, w1 = wr := ⟨_, rfl⟩
    clear l0
    by_cases hlt : k < xss.length
    · obtain ⟨b, o, u, rfl, hb, hu, c1⟩ := HR.out.rowU k hlt
      have HS : Hid ((xss.take (k + 1)).flatten = (xss.take k).flatten ++ xss[k]) := by show _ = _; rw [List.take_succ_eq_append_getElem hlt, List.flatten_append]; simp
      have HLB : Hid ((xss.take k).flatten.length + xss[k].length ≤ 1048576) := by
        show _ ≤ _
        rw [← List.length_append, ← HS.out]
        have : (xss.take (k + 1)).flatten.length ≤ xss.flatten.length := by
          conv => rhs; rw [← List.take_append_drop (k + 1) xss, List.flatten_append, List.length_append]
          omega
        have := HL.out
        omega
      generalize xss[k] = ys at *
      obtain ⟨A2, m2, c2, rfl, hm2, hc2, hmm2, hr2⟩ := hu
      have hu : rd w w.heap.size (.slice A2 m2 c2) ys := ⟨A2, m2, c2, rfl, hm2, hc2, hmm2, hr2⟩
      clear hm2 hc2 hmm2 hr2
      have HU := Lib.hid hu; clear hu
      generalize hys : (xss.take k).flatten = zs at *
      have HYS := Lib.hid hys; clear hys
      have ho' := Lib.hid ho
      obtain ⟨A3, m3, c3, rfl, hm3, _, _, _⟩ := ho.rd
      subst hm3
      clear ho
      have hbd := HLB.out
      go_wp2_with (at_builtin; refine wpList_appendAll (α := Ltr) rfl (.tmp 12) (.tmp 13) 29 rfl w.heap.size 89 i0 _ 24 Tryz.underlying29 hi hz0 hz1 hz2 rfl (by decide) (.slice A3 zs.length c3) zs rfl ho'.out (.slice A2 m2 c2) ys rfl w1.heap.size (HU.out.on lr) (by have := HLB.out; unfold maxLen; omega) (by have := HLB.out; omega) lr.size ?_; intro v' w2 ho2 hg2 _)
      have l2 : Below w.heap.size w w2 := lr.trans (below_append ho'.out hg2 lr.size)
      go_wp2
      go_roundw
      case rel => exact ⟨k + 1, by omega, by go_num, l2, by rw [HS.out]; exact ho2⟩
      case measure => simp [intOf]; omega
    · have HE := Lib.hid (show k = xss.length by omega)
      go_wp2
      go_ret
      exact ⟨_, rfl, by rw [HE.out, List.take_length] at ho; exact ho, lr⟩

end Go.Proofs.YtpinkbodbedajaaGreatDoor

namespace Go.Proofs.YtpinkbodbedajaaGreatDoor
open Go.RowKit





end Go.Proofs.YtpinkbodbedajaaGreatDoor

namespace Go.Proofs.YtpinkbodbedajaaGreatDoor
open Go.RowKit

theorem farLL_grown {α : Type} [Flat α] {T1 T2 base : Nat} {w w' : World} {v u : Value} {xss : List (List α)} {vs : List Value} (h : isLL T1 T2 base w v xss vs) (hf : farLL u v vs) (hg : w.grownBy w' u.ownBlock) : isLL T1 T2 base w' v xss vs :=
  h.grown hg (apart_symm hf.1) fun k hk => apart_symm (hf.2 k hk)

set_option maxRecDepth 100000 in
set_option maxHeartbeats 3200000 in
theorem impl_placeLetters (v vb vm : Value) (p : Pln) (xs : List Ltr) (k0 : Nat) (ms : List Mis) (w : World) (hv : rdP w w.heap.size v p) (hb : rd w w.heap.size vb xs) (hm : rd w w.heap.size vm ms)
    (h1 : 2 ≤ p.bins) (h2 : p.bins ≤ 16) (hk0 : k0 ≤ 4) (hord : p.order.length ≤ 1000) (hms : ∀ m ∈ ms, 0 ≤ m.bin ∧ m.bin < p.bins) (hl : xs.length ≤ 1000) :
    Calls Tryz.prog 161 #[v, vb, .int .i64 k0, vm] w fun e w' => ∃ vB vO vs, e = .returned (.tuple #[vB, vO]) ∧ isLL 29 89 w.heap.size w' vB (binsOf (fun x => misBin ms x (binI p x.code k0)) p.bins.toNat xs) vs ∧ own 89 w.heap.size w' vO (restOf (fun x => misBin ms x (binI p x.code k0)) xs) ∧ farLL vO vB vs ∧ Below w.heap.size w w' := by
  obtain ⟨A0, c0, e0⟩ := openP hv
  obtain ⟨w0, hw0⟩ : ∃ w0, w0 = w.alloc (Obj.cells #[.int .i64 p.bins, .int .i64 p.passes, .slice A0 p.order.length c0] 25) := ⟨_, rfl⟩
  have q0 := box_cells hw0 0 (.int .i64 p.bins) rfl
  have q1 := box_cells hw0 1 (.int .i64 p.passes) rfl
  have q2 := box_cells hw0 2 (.slice A0 p.order.length c0) rfl
  have HT := Lib.hid (box_later hw0).1
  have HP := Lib.hid (hv.on HT.out)
  have hb' := hb.on HT.out
  have hm' := hm.on HT.out
  subst e0
  obtain ⟨A, n, cp, rfl, hn, hc, hmx, hr⟩ := hb'
  subst hn
  obtain ⟨A', n', cp', rfl, hn', hc', hmx', hr'⟩ := hm'
  subst hn'
  unfold maxLen at hmx hmx'
  have HR := Lib.hid hr
  have HM := Lib.hid hr'
  have hz0 : w0.heap.size = w.heap.size + 1 := by subst hw0; simp
  have hwlt : w.heap.size < w0.heap.size := by omega
  have HZ0 := Lib.hid hz0
  have HW0 := Lib.hid hw0; clear hw0 hv hb hm hr hr' hz0
  have l0 := Below.refl w0.heap.size w0
  obtain ⟨N, hN⟩ := Int.eq_ofNat_of_zero_le (show 0 ≤ p.bins by omega)
  have hNN : p.bins.toNat = N := by omega
  have HNN := Lib.hid hNN; clear hNN
  have hN16 : N ≤ 16 := by omega
  obtain ⟨i0, hi, hzz, hz1, hz2⟩ := info_parts Tryz.infoRow
  have hmk := make_row (P := Tryz.prog) 37 29 i0 _ Tryz.underlying37 hi hzz N (by rw [hz2]; omega) (by omega)
  rw [← hN] at hmk
  have HN := Lib.hid hN; clear hN
  obtain ⟨i1, ji, jz0, jz1, jz2⟩ := info_parts Tryz.infoLtr
  have HF : Hid (∀ x : Ltr, -1 ≤ misBin ms x (binI p x.code k0) ∧ misBin ms x (binI p x.code k0) < N) := fun x => by
    have := misBin_range hms x _ (binI_range p x.code k0 h1)
    have := HN.out
    omega
  have HMS := Lib.hid hms; clear hms
  obtain ⟨f, HFF⟩ : ∃ f : Ltr → Int, Hid (f = fun x => misBin ms x (binI p x.code k0)) := ⟨_, rfl⟩
  rw [← HFF.out]
  have HFX : Hid (∀ x, f x = misBin ms x (binI p x.code k0)) := fun x => by rw [HFF.out]
  rw [HNN.out]
  go_enter Tryz.func161, Tryz.ntmps161
  go_wp2
  rw [← HW0.out]
  have hoz := made_nil_row (α := Ltr) w0 29 89 N w0.heap.size (Nat.le_refl _) (by unfold maxLen; omega)
  have lz : Below w0.heap.size w0 (w0.alloc (Obj.cells (madeCells #[.slice none 0 0] N) 29)) := later_alloc l0 _
  generalize (w0.alloc (Obj.cells (madeCells #[.slice none 0 0] N) 29)) = wz at *
  have hG0 : w0.heap.size ≤ w.heap.size + 1 := Nat.le_of_eq HZ0.out
  have hoz2 := hoz
  rw [show (Value.slice (some ⟨w0.heap.size, 0, none⟩) N N) = (Value.slice (some ⟨w.heap.size + 1, 0, none⟩) N N) by rw [HZ0.out]] at hoz2
  clear hoz
  generalize hG : w.heap.size + 1 = G at *
  have HGG := Lib.hid hG; clear hG hmk
  obtain ⟨vs0, hoz2⟩ := hoz2
  have HOZ := Lib.hid hoz2; clear hoz2
  go_loopw [11, 22] (fun t i wr => ∃ (k : Nat) (vs : List Value), k ≤ xs.length ∧ i = .int .i64 k ∧ Below w0.heap.size w0 wr ∧ isLL 29 89 w0.heap.size wr (.slice (some ⟨G, 0, none⟩) N N) (binsOf f N (xs.take k)) vs ∧ own 89 w0.heap.size wr t (restOf f (xs.take k)) ∧ Hid (farLL t (.slice (some ⟨G, 0, none⟩) N N) vs)) (fun _ i _ => xs.length - (intOf i).toNat)
  case atStart =>
    refine ⟨0, vs0, Nat.zero_le _, rfl, lz, ?_, own.nil_ _ _ _, .inl rfl, fun k hk => .inl rfl⟩
    rw [List.take_zero, binsOf_nil]
    exact HOZ.out
  case round =>
    obtain ⟨k, vs, hk, rfl, lr, hB, hO, HFAR⟩ := hrel
    obtain ⟨w1, rfl⟩ : ∃ w1 : World, w1 = wr := ⟨_, rfl⟩
    have HB := Lib.hid hB; have HO := Lib.hid hO
    clear l0 lz HOZ hB
    obtain ⟨AO, mO, cO, rfl, hmO, _, _, _⟩ := hO.rd
    subst hmO
    clear hO
    by_cases hlt : k < xs.length
    · obtain ⟨b, o, rfl, hb, ⟨hxi, hxc⟩, c1, c2⟩ := HR.out.ltrU k hlt
      obtain ⟨x, hx⟩ : ∃ x, x = xs[k] := ⟨_, rfl⟩
      have HX := Lib.hid hx
      rw [← hx] at c1 c2 hxi hxc
      clear hx
      obtain ⟨wl, hwl⟩ : ∃ wl : World, wl = w1.alloc (Obj.cells #[.int .i64 x.id, .string x.code] 89) := ⟨_, rfl⟩
      have y0 := box_cells hwl 0 (.int .i64 x.id) rfl
      have y1 := box_cells hwl 1 (.string x.code) rfl
      have ll := later_trans lr (box_later hwl).1
      have BL := Lib.hid (box_later hwl).1
      have hll : w1.heap.size < wl.heap.size := (box_later hwl).2
      have HWL := Lib.hid hwl; clear hwl
      have hki : (k : Int) < (xs.length : Int) := by omega
      obtain ⟨b0, HB0⟩ : ∃ b0, Hid (binI p x.code k0 = b0) := ⟨_, rfl⟩
      go_wp2_with fail
      rw [← HWL.out]
      refine (impl_binOf _ p x.code k0 _ (HP.out.on ll) h1 h2 hk0 hord).mono ?_
      rw [HB0.out]
      rintro e w2 ⟨rfl, b2⟩
      have m2 := later_trans (Below.refl wl.heap.size wl) b2
      clear b2
      go_wp2_with fail
      go_loopw [14, 33] (fun t i wi => ∃ m : Nat, m ≤ ms.length ∧ i = .int .i64 m ∧ t = .int .i64 (misBin (ms.take m) x b0) ∧ Below wl.heap.size wl wi) (fun _ i _ => ms.length - (intOf i).toNat)
      case atStart => exact ⟨0, Nat.zero_le _, rfl, rfl, m2⟩
      case round =>
        obtain ⟨m, hm, rfl, rfl, li⟩ := hrel
        obtain ⟨w3, rfl⟩ : ∃ w3 : World, w3 = wr := ⟨_, rfl⟩
        have lw3 := later_trans ll li
        clear m2
        by_cases hmt : m < ms.length
        · obtain ⟨b', o', rfl, hb', ⟨hyi, hyb⟩, d1, d2⟩ := HM.out.misU m hmt
          have HMT := Lib.hid (misBin_take hmt x b0)
          generalize ms[m] = y at *
          have hmi : (m : Int) < (ms.length : Int) := by omega
          by_cases hyx : y.id = x.id
          · have hyx' : (y.id == x.id) = true := by simpa using hyx
            have HY := Lib.hid hyx; clear hyx
            go_wp2
            go_roundw
            case rel => exact ⟨m + 1, by omega, by go_num, by rw [HMT.out, if_pos HY.out], later_alloc li _⟩
            case measure => simp [intOf]; omega
          · have hyx' : (y.id == x.id) = false := by simpa using hyx
            have HY := Lib.hid hyx; clear hyx
            go_wp2
            go_roundw
            case rel => exact ⟨m + 1, by omega, by go_num, by rw [HMT.out, if_neg HY.out], later_alloc li _⟩
            case measure => simp [intOf]; omega
        · have HME := Lib.hid (show m = ms.length by omega)
          have HFXX : Hid (misBin (ms.take m) x b0 = f x) := by show _ = _; rw [HME.out, List.take_length, HFX.out, HB0.out]
          rw [HFXX.out]
          obtain ⟨fx1, fx2⟩ := HF.out x
          rw [← HFX.out] at fx1 fx2
          have HFXK : Hid (f xs[k] = f x) := by show _ = _; rw [← HX.out]
          have B3 := BL.out.trans (li.mono BL.out.size)
          have hs3 : w0.heap.size ≤ w3.heap.size := lw3.size
          have hs4 : wl.heap.size ≤ w3.heap.size := li.size
          have HB3 := Lib.hid (HB.out.below B3); have HO3 := Lib.hid (HO.out.below B3)
          have HZL : Hid ((restOf f (xs.take k)).length ≤ 1000) := by
            show _ ≤ _
            have := filter_len_le (fun x => decide (f x < 0)) xs k
            unfold restOf
            omega
          by_cases hneg : f x < 0
          · have HS1 := Lib.hid (binsOf_skip (f := f) (n := N) hlt (by rw [HFXK.out]; exact hneg))
            have HS2 := Lib.hid (restOf_step (f := f) hlt (by rw [HFXK.out]; exact hneg))
            have hzl := HZL.out
            go_wp2_with (at_builtin; refine wpList_append1' (α := Ltr) rfl (.tmp 47) (.tmp 49) 29 rfl w0.heap.size 89 i1 _ 24 Tryz.underlying29 ji jz0 jz1 jz2 rfl (by decide) (.slice AO (restOf f (xs.take k)).length cO) (restOf f (xs.take k)) x rfl (HO3.out.alloc _) ⟨w3.heap.size, 0, none⟩ 1 (Ltr.cells x) rfl ⟨⟨hxi, hxc⟩, rfl⟩ (news_at w3 _ (Ltr.cells x)) (by unfold maxLen; omega) (by omega) (by simp; omega) ?_; intro g cap w4 ho4 hg4 ha4 hl4)
            have HB4 := Lib.hid (farLL_grown (HB3.out.below ((Below.refl _ _).alloc (Nat.le_refl _) _)) HFAR.out hg4)
            have b4 : Below w0.heap.size w0 w4 := by
              refine (later_alloc lw3 (Obj.cells #[Value.int IntKind.i64 x.id, Value.string x.code] 89)).grown hg4 (by simp; omega) fun j hj => ?_
              exact (HO3.out.blk j hj).1
            have HFAR4 : Hid (farLL (.slice (some ⟨g, 0, none⟩) ((restOf f (xs.take k)).length + 1) cap) (.slice (some ⟨G, 0, none⟩) N N) vs) := farLL_app HB3.out HFAR.out ha4 (by simp)
            go_wp2
            go_roundw
            case rel => exact ⟨k + 1, vs, by omega, by go_num, b4, by rw [HS1.out]; exact HB4.out, by rw [HS2.out, ← HX.out]; exact ho4, HFAR4⟩
            case measure => simp [intOf]; omega
          · obtain ⟨d, hd⟩ := Int.eq_ofNat_of_zero_le (show 0 ≤ f x by omega)
            have hdN : d < N := by omega
            have HD := Lib.hid hd
            have HS2 := Lib.hid (restOf_skip (f := f) hlt (by rw [HFXK.out]; omega))
            have hlb : d < (binsOf f N (xs.take k)).length := by rw [binsOf_len]; exact hdN
            have HS1 := Lib.hid (binsOf_step (f := f) (n := N) (d := d) hlt (by rw [HFXK.out]; exact HD.out) hlb)
            obtain ⟨hlv, hov, hgv⟩ : ∃ hlv : d < vs.length, own 89 w0.heap.size w3 vs[d] (binsOf f N (xs.take k))[d] ∧ apart vs[d] (.slice (some ⟨G, 0, none⟩) N N) := by
              obtain ⟨z1, z2, z3, z4, z5⟩ := HB3.out
              exact ⟨by omega, z3 d (by omega) hlb, z5 d (by omega)⟩
            have hcG : w3.cell? ⟨G, d, none⟩ = some vs[d] := own_cellv HB3.out.1 d hlv
            have hfG : w3.frozen? ⟨G, d, none⟩ = false := HB3.out.1.freeAt d
            have hzl : (binsOf f N (xs.take k))[d].length ≤ 1000 := by
              rw [binsOf_get]
              have := filter_len_le (fun x => f x == (d : Int)) xs k
              omega
            obtain ⟨zs, hzs⟩ : ∃ zs, zs = (binsOf f N (xs.take k))[d] := ⟨_, rfl⟩
            have HZS := Lib.hid hzs
            rw [← hzs] at hov hzl
            clear hzs
            obtain ⟨u, hu⟩ : ∃ u, u = vs[d] := ⟨_, rfl⟩
            have HU := Lib.hid hu
            rw [← hu] at hov hgv hcG
            clear hu
            obtain ⟨Au, mu, cu, rfl, hmu, _, _, _⟩ := hov.rd
            subst hmu
            have HOV := Lib.hid hov; clear hov
            have HGV := Lib.hid hgv; clear hgv
            rw [HD.out]
            have hdn : (d : Int) < (N : Int) := by omega
            have hd0 : ¬ ((d : Int) < 0) := by omega
            have x0 := y0 w3 li
            have x1 := y1 w3 li
            have hGs : some G ≠ (Value.slice Au zs.length cu).ownBlock := by
              have h := HGV.out
              unfold apart at h
              rcases h with h | h
              · rw [h]; simp
              · exact fun e => h e.symm
            have HGS := Lib.hid hGs; clear hGs
            have hGlt : G < w3.heap.size := (HB3.out.1.blk G rfl).2
            go_wp2
            go_region_law (go_loud ((refine step_append1 (α := Ltr) (by rfl) (.tmp 56) (.tmp 58) 29 (by rfl) w0.heap.size 89 i1 _ 24 Tryz.underlying29 ji jz0 jz1 jz2 rfl (by decide) (.slice Au zs.length cu) zs x (by rfl) ((HOV.out.alloc _).drew) ⟨w3.heap.size, 0, none⟩ 1 (Ltr.cells x) (by rfl) ⟨⟨hxi, hxc⟩, rfl⟩ (news_drew w3 _ (Ltr.cells x)) (by unfold maxLen; omega) (by omega) (by simp; omega) ?_; intro g cap w4 ho4 hg4 ha4 hl4; have hcG4 : w4.cell? ⟨G, d, none⟩ = some (.slice Au zs.length cu) := (hg4.cell_far ⟨G, d, none⟩ (by simp; omega) HGS.out).trans (by go_simp); have hfG4 : w4.frozen? ⟨G, d, none⟩ = false := (hg4.frozen_far ⟨G, d, none⟩ (by simp; omega) HGS.out).trans (by go_simp))))
            all_goals
              have hWD : Below w3.heap.size w3 (w3.alloc (Obj.cells #[Value.int IntKind.i64 x.id, Value.string x.code] 89)).drew := later_drew (later_alloc (Below.refl _ _) _)
              obtain ⟨p1, p2, p3⟩ := place_step HB3.out HO3.out HFAR.out hWD hlv hlb HU.out HZS.out ho4 hg4 ha4
              have p4 := place_later (G := G) (d := d) (g := g) (m := zs.length + 1) (cap := cap) (later_drew (later_alloc lw3 (Obj.cells #[Value.int IntKind.i64 x.id, Value.string x.code] 89))) hg4 (fun j hj => (HOV.out.blk j hj).1) hG0
              have P1 := Lib.hid p1; have P2 := Lib.hid p2; have P3 := Lib.hid p3
              clear p1 p2 p3 hWD
              go_wp2
              go_roundw
              case rel => exact ⟨k + 1, _, by omega, by go_num, p4, by rw [HS1.out, ← HX.out]; exact P1.out, by rw [HS2.out]; exact P2.out, P3.out⟩
              case measure => simp [intOf]; omega
    · have HE := Lib.hid (show k = xs.length by omega)
      go_wp2
      go_ret2
      have hB := HB.out
      have hO := HO.out
      have hF := HFAR.out
      rw [HE.out, List.take_length] at hB hO hF ⊢
      exact ⟨_, _, vs, rfl, hB.base_ (Nat.le_of_lt hwlt), hO.base_ (Nat.le_of_lt hwlt), hF, later_trans HT.out lr⟩

end Go.Proofs.YtpinkbodbedajaaGreatDoor
