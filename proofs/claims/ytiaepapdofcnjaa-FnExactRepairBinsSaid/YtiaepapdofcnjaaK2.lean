/- The validity of plans: both texts. -/
import Derived.Test.YtiaepapdofcnjaaK1
import Derived.Handy
import Derived.Deep.QuietTactic
import Derived.BigQuiet
namespace Go.Proofs.Ytiaepapdofcnjaa
open Go.RowKit

theorem all_rk (cs : List ByteArray) (c : ByteArray) : cs.all (fun d => !sEq d c) = !decide (0 ≤ rkI cs c) := by
  rw [Bool.eq_iff_iff, List.all_eq_true]
  constructor
  · intro h
    have : rk cs c = cs.length := rk_none fun j hj => by simpa using h _ (List.getElem_mem hj)
    rw [rkI_neg (by omega)]
    decide
  · intro h x hx
    obtain ⟨j, hj, rfl⟩ := List.getElem_of_mem hx
    have hn : ¬ 0 ≤ rkI cs c := by simpa using h
    have hk : ¬ rk cs c < cs.length := fun hlt => by rw [rkI_pos hlt] at hn; omega
    have := rk_before cs c j hj (by omega)
    simp [this]

set_option maxHeartbeats 400000 in
theorem impl_codesDiffer (v : Value) (cs : List ByteArray) (w : World) (hv : rd w w.heap.size v cs) :
    Calls Try.prog 133 #[v] w fun e w' => e = .returned (.bool (codesOk cs)) ∧ w = w' := by
  have hv0 := Lib.hid hv
  obtain ⟨A, n, cp, rfl, hn, hc, hm, hr⟩ := hv
  subst hn
  unfold maxLen at hm
  have HR := Lib.hid hr; clear hr
  go_enter Try.func133, Try.ntmps133
  go_wp2
  go_loop [7] (fun i => ∃ k : Nat, k ≤ cs.length ∧ i = .int .i64 k ∧ Hid (∀ j, j < k → goodC cs j = true)) (fun i => cs.length - (intOf i).toNat)
  case atStart => exact ⟨0, Nat.zero_le _, rfl, fun j hj => absurd hj (Nat.not_lt_zero j)⟩
  case round =>
    obtain ⟨k, hk, rfl, HG⟩ := hrel
    by_cases hlt : k < cs.length
    · obtain ⟨b, o, rfl, hb, hok, c1⟩ := HR.out.str k hlt
      have hG := Lib.hid (goodC_of hlt)
      have hbad := Lib.hid (fun h => codesOk_bad hlt h)
      have hA := Lib.hid (all_rk (cs.take k) cs[k])
      generalize cs[k] = c at *
      cases hcd : isCode c
      · have hcd' := Lib.hid hcd; clear hcd
        go_wp2_with (go_at_call 154; refine (impl_CodeValid _ _ hok).mono ?_; rw [hcd'.out]; rintro e w' ⟨rfl, rfl⟩)
        go_ret
        exact ⟨ret_bool (hbad.out (by rw [hG.out, hcd'.out]; rfl)).symm, rfl⟩
      have hcd' := Lib.hid hcd; clear hcd
      cases hd : decide (0 ≤ rkI (cs.take k) c)
      · have hd' := Lib.hid hd; clear hd
        go_wp2_with (first | (go_at_call 154; refine (impl_CodeValid _ _ hok).mono ?_; rw [hcd'.out]; rintro e w' ⟨rfl, rfl⟩) | (go_at_call 156; refine (slices_ContainsS _ (cs.take k) _ _ (hv0.out.take hk)).mono ?_; rw [hd'.out]; rintro e w' ⟨rfl, rfl⟩))
        go_round
        case rel =>
          refine ⟨k + 1, by omega, by go_num, fun j hj => ?_⟩
          by_cases hjk : j < k
          · exact HG.out j hjk
          · obtain rfl : j = k := by omega
            rw [hG.out, hcd'.out, hA.out, hd'.out]; rfl
        case measure => simp [intOf]; omega
      · have hd' := Lib.hid hd; clear hd
        go_wp2_with (first | (go_at_call 154; refine (impl_CodeValid _ _ hok).mono ?_; rw [hcd'.out]; rintro e w' ⟨rfl, rfl⟩) | (go_at_call 156; refine (slices_ContainsS _ (cs.take k) _ _ (hv0.out.take hk)).mono ?_; rw [hd'.out]; rintro e w' ⟨rfl, rfl⟩))
        go_ret
        exact ⟨ret_bool (hbad.out (by rw [hG.out, hcd'.out, hA.out, hd'.out]; rfl)).symm, rfl⟩
    · have HE := Lib.hid (show k = cs.length by omega)
      go_wp2
      go_ret
      exact ⟨ret_bool (codesOk_good (by rw [← HE.out]; exact HG.out)).symm, rfl⟩

set_option maxHeartbeats 800000 in
theorem impl_PlanValid (v : Value) (p : Pln) (w : World) (hv : rdP w w.heap.size v p) :
    Calls Try.prog 69 #[v] w fun e w' => e = .returned (.bool (planOk p)) ∧ Below w.heap.size w w' := by
  obtain ⟨vo, rfl, hi1, hi2, hr⟩ := hv
  have hr0 := hr
  obtain ⟨A, n, cp, rfl, hn, hc, hm, _⟩ := hr
  subst hn
  unfold maxLen at hm
  have hrb := Lib.hid (fun o => hr0.on ((Below.refl _ _).alloc (Nat.le_refl _) o))
  clear hr0
  have hB : Below w.heap.size w (w.alloc (Obj.cells #[Value.int IntKind.i64 p.bins, Value.int IntKind.i64 p.passes, Value.slice A p.order.length cp] 32)) := (Below.refl _ _).alloc (Nat.le_refl _) _
  have HB := Lib.hid hB; clear hB
  have e0 : planOk p = (((decide (2 ≤ p.bins) && decide (p.bins ≤ 16)) && (decide (1 ≤ p.passes) && decide (p.passes ≤ 4))) && (decide (1 ≤ p.order.length) && decide (p.order.length ≤ 60)) && decide ((p.order.length : Int) ≤ powI p.bins p.passes.toNat) && codesOk p.order) := rfl
  have E0 := Lib.hid e0; clear e0
  go_enter Try.func69, Try.ntmps69
  go_wp2_with fail
  refine (impl_binsValid _ _).mono ?_
  rintro e w1 ⟨rfl, rfl⟩
  cases h1 : (decide (2 ≤ p.bins) && decide (p.bins ≤ 16))
  · have H1 := Lib.hid h1; clear h1
    go_wp2_with fail
    go_ret
    exact ⟨ret_bool (by rw [E0.out, H1.out]; rfl), HB.out⟩
  have H1 := Lib.hid h1; clear h1
  go_wp2_with fail
  refine (impl_passesValid _ _).mono ?_
  rintro e w1 ⟨rfl, rfl⟩
  cases h2 : (decide (1 ≤ p.passes) && decide (p.passes ≤ 4))
  · have H2 := Lib.hid h2; clear h2
    go_wp2_with fail
    go_ret
    exact ⟨ret_bool (by rw [E0.out, H1.out, H2.out]; rfl), HB.out⟩
  have H2 := Lib.hid h2; clear h2
  have hsh : shapeOk p.bins p.passes = true := by unfold shapeOk; rw [H1.out, H2.out]; rfl
  have HSH := Lib.hid hsh; clear hsh
  by_cases h3 : 1 ≤ p.order.length
  case neg =>
    have H3 := Lib.hid h3; clear h3
    have h3i : ¬ (1 : Int) ≤ (p.order.length : Int) := by have := H3.out; omega
    go_wp2_with fail
    go_ret
    exact ⟨ret_bool (by rw [E0.out, decide_eq_false H3.out]; simp), HB.out⟩
  by_cases h4 : p.order.length ≤ 60
  case neg =>
    have H4 := Lib.hid h4; clear h4
    have h4i : ¬ (p.order.length : Int) ≤ 60 := by have := H4.out; omega
    go_wp2_with fail
    go_ret
    exact ⟨ret_bool (by rw [E0.out, decide_eq_false H4.out]; simp), HB.out⟩
  go_wp2_with fail
  refine (impl_CapacityOf _ _ _ HSH.out).mono ?_
  rintro e w1 ⟨rfl, rfl⟩
  obtain ⟨q, HQ⟩ : ∃ q, Hid (powI p.bins p.passes.toNat = q) := ⟨_, rfl⟩
  rw [HQ.out]
  by_cases h5 : (p.order.length : Int) ≤ q
  case neg =>
    have H5 := Lib.hid (decide_eq_false h5)
    go_wp2_with fail
    go_ret
    exact ⟨ret_bool (by rw [E0.out, HQ.out, H5.out]; simp), HB.out⟩
  have H5 := Lib.hid (decide_eq_true h5)
  go_wp2_with fail
  refine (impl_codesDiffer _ p.order _ (hrb.out _)).mono ?_
  rintro e w1 ⟨rfl, rfl⟩
  go_wp2_with fail
  go_ret
  exact ⟨ret_bool (by rw [E0.out, HQ.out, H1.out, H2.out, H5.out, decide_eq_true h3, decide_eq_true h4]; rfl), HB.out⟩

end Go.Proofs.Ytiaepapdofcnjaa
