/- FnMissortsValid: the walk of the law. -/
import Derived.Test.YtekjjgnokjhleaaQ24
import Derived.Test.YtekjjgnokjhleaaQ10
import Derived.Test.YtekjjgnokjhleaaQ30
import Derived.Deep.RegionHeld3
namespace Go.Proofs.Ytekjjgnokjhleaa
open Go.RowKit

set_option maxRecDepth 100000 in
set_option maxHeartbeats 2000000 in
theorem walk_FnMissortsValid (w : World) (v : Value) (bs : List UInt8) (hv : rd w w.heap.size v bs) :
    Calls Try.prog 3 #[v] w fun e w' => e = .returned (.bool true) ∧ Below w.heap.size w w' := by
  have hv0 := hv
  obtain ⟨A, n, c, rfl, hn, hc, hm, _⟩ := hv
  subst hn
  unfold maxLen at hm
  go_enter Try.func3, Try.ntmps3
  by_cases hsz : 1048576 < bs.length
  · go_wp2_with fail
    go_ret
    exact ⟨rfl, Below.refl _ _⟩
  go_wp2_with fail
  refine (draw_DrawMissortsValid _ bs w hv0).mono ?_
  rintro e w1 ⟨vp, vm, p, ms, rfl, ov, om, hml, hol, b1⟩
  have hvp := ov.rdp
  obtain ⟨A0, c0, e0⟩ := openP hvp
  obtain ⟨w0, hw0⟩ : ∃ w0, w0 = w1.alloc (Obj.cells #[.int .i64 p.bins, .int .i64 p.passes, .slice A0 p.order.length c0] 25) := ⟨_, rfl⟩
  have q0 := box_cells hw0 0 (.int .i64 p.bins) rfl
  have q1 := box_cells hw0 1 (.int .i64 p.passes) rfl
  have q2 := box_cells hw0 2 (.slice A0 p.order.length c0) rfl
  have HT := Lib.hid (box_later hw0).1
  have HP := Lib.hid (hvp.on HT.out)
  subst e0
  have HM := Lib.hid (om.rd.on HT.out)
  have HWB : Hid (Below w.heap.size w w0) := b1.trans (HT.out.mono b1.size)
  have HW0 := Lib.hid hw0
  have l0 := Below.refl w0.heap.size w0
  clear hw0 hvp ov om b1 HT hv0
  go_wp2_with fail
  rw [← HW0.out]
  have hvm := HM.out
  obtain ⟨Am, nm, cm, hvm, hnm, hcm, hmm, hrm⟩ := hvm
  subst hnm hvm
  unfold maxLen at hmm
  have HRM := Lib.hid hrm; clear hrm
  refine (impl_MissortsValid _ _ p ms _ HP.out HM.out).mono ?_
  rintro e w2 ⟨rfl, b2⟩
  have l2 := later_trans l0 b2
  clear b2 l0
  go_wp2_with fail
  refine (spec_MissortsValid _ _ p ms _ (HP.out.on l2) (HM.out.on l2)).mono ?_
  rintro e w3 ⟨rfl, b3⟩
  have l3 := later_trans l2 b3
  clear b3 l2
  obtain ⟨M, HMK⟩ : ∃ M, Hid (misOk p ms = M) := ⟨_, rfl⟩
  rw [HMK.out]
  have hmm2 : (M != M) = false := by simp
  go_wp2_with fail
  refine (impl_PlanValid _ p _ (HP.out.on l3)).mono ?_
  rintro e w4 ⟨rfl, b4⟩
  have l4 := later_trans l3 b4
  clear b4 l3
  have hle : decide ((ms.length : Int) ≤ 60) = true := decide_eq_true (by omega)
  have HZ : Hid (mvTo p ms 0 = planOk p) := by show _ = _; rw [mvTo_zero, decide_eq_true (by omega)]; simp
  obtain ⟨P, HPP⟩ : ∃ P, Hid (planOk p = P) := ⟨_, rfl⟩
  rw [HPP.out] at HZ ⊢
  have HTI : Hid (∀ i, mvTo p ms i = true → planOk p = true) := fun i h => mvTo_plan h
  cases P
  all_goals
    go_wp2_with fail
    go_loopw [6, 7] (fun t i wr => ∃ k : Nat, k ≤ ms.length ∧ i = .int .i64 k ∧ t = .bool (mvTo p ms k) ∧ Below w0.heap.size w0 wr) (fun _ i _ => ms.length - (intOf i).toNat)
    case atStart => exact ⟨0, Nat.zero_le _, rfl, by rw [HZ.out], l4⟩
    case round =>
      obtain ⟨k, hk, rfl, rfl, lr⟩ := hrel
      obtain ⟨w5, rfl⟩ : ∃ w5 : World, w5 = wr := ⟨_, rfl⟩
      clear l4
      by_cases hlt : k < ms.length
      · obtain ⟨bx, o, rfl, hbx, hok, c1, c2⟩ := HRM.out.misU k hlt
        have hki : (k : Int) < (ms.length : Int) := by omega
        have hws : IntKind.i64.wrap ((k : Int) + 1) = (k : Int) + 1 := IntWalk.i64_in _ (by omega)
        have hk1 : (k : Int) + 1 ≤ (cm : Int) := by omega
        have hk2 : (k : Int) ≤ (k : Int) + 1 := by omega
        have hk3 : ((k : Int) + 1).toNat = k + 1 := by omega
        have hk4 : ¬ cm = k := by omega
        have HS1 : Hid (rd w0 w0.heap.size (.slice (some ⟨bx, o + k * 2, none⟩) 1 (cm - k)) [ms[k]]) := by
          have h : rdA w0 w0.heap.size (some ⟨bx, o + k * 2, none⟩) [ms[k]] := fun j hj => by
            have hj0 : j = 0 := by simpa using hj
            subst hj0
            obtain ⟨b', o', cs, hA, hb, hel, hc⟩ := HRM.out k hlt
            injection hA with hA
            injection hA with e1 e2
            subst e1 e2
            exact ⟨bx, o + k * 2, cs, rfl, hb, hel, fun j u hu => by have := hc j u hu; simpa [El.size, Nat.add_assoc] using this⟩
          exact ⟨_, 1, cm - k, rfl, rfl, by omega, by unfold maxLen; omega, h⟩
        have HIN : Hid (mvIn p ms k 0 = (mvTo p ms k && rngM p.bins ms[k])) := mvIn_zero hlt
        have HSUC : Hid (∀ n (hn : n < ms.length), mvIn p ms k (n + 1) = (mvIn p ms k n && (ms[n].id != ms[k].id))) := fun n hn => mvIn_succ hlt hn
        have HALL : Hid (mvIn p ms k k = mvTo p ms (k + 1)) := mvIn_all hlt
        have hk60 : k ≤ 10 := by omega
        have HON : Hid (∀ h : planOk p = true, misOk p [ms[k]] = rngM p.bins ms[k]) := fun h => misOk_one h _
        generalize ms[k] = m at *
        have ld := later_drew lr
        have HC : Hid (∀ W, Below w0.heap.size w0 W → Calls Try.prog 16 #[.agg #[.int .i64 p.bins, .int .i64 p.passes, .slice A0 p.order.length c0], .slice (some ⟨bx, o + k * 2, none⟩) 1 (cm - k)] W fun e W' => e = .returned (.bool (misOk p [m])) ∧ Below w0.heap.size w0 W') := fun W l => by
          refine (impl_MissortsValid _ _ p [m] W (HP.out.on l) (HS1.out.on l)).mono ?_
          rintro e W' ⟨rfl, b⟩
          exact ⟨rfl, later_trans l b⟩
        cases hg : mvTo p ms k
        · have HIN0 : Hid (mvIn p ms k 0 = false) := by show _ = _; rw [HIN.out, hg]; rfl
          clear hg
          go_wp2_with fail
          go_quiet (fail)
          go_wp2_with fail
          clear c2 ld HC
          go_loopw [6, 8] (fun t i wr => ∃ n : Nat, n ≤ k ∧ i = .int .i64 n ∧ t = .bool (mvIn p ms k n) ∧ Below w0.heap.size w0 wr) (fun _ i _ => k - (intOf i).toNat)
          case atStart => exact ⟨0, Nat.zero_le _, rfl, by rw [HIN0.out], below_drewN lr _⟩
          case round =>
            obtain ⟨n, hn, rfl, rfl, lr7⟩ := hrel
            obtain ⟨w7, rfl⟩ : ∃ w7 : World, w7 = wr := ⟨_, rfl⟩
            clear lr
            by_cases hnk : n < k
            · have hnl : n < ms.length := by omega
              obtain ⟨bx', o', e', _, _, d1, _⟩ := HRM.out.misU n hnl
              injection e' with e'
              injection e' with e1 e2
              subst e1 e2
              have HS2 := Lib.hid (HSUC.out n hnl)
              generalize ms[n] = m2 at *
              have hni : (n : Int) < (ms.length : Int) := by omega
              have hnk' : (n : Int) < (k : Int) := by omega
              cases hG : mvIn p ms k n
              · have HN : Hid (mvIn p ms k (n + 1) = false) := by show _ = _; rw [HS2.out, hG]; rfl
                clear hG
                go_wp2
                go_quiet (fail)
                go_wp2
                go_roundw
                case rel => exact ⟨n + 1, by omega, by go_num, by rw [HN.out], below_drewN lr7 _⟩
                case measure => simp [intOf]; omega
              · by_cases hid : m2.id = m.id
                · have hb : (m2.id != m.id) = false := by simp [hid]
                  have HN : Hid (mvIn p ms k (n + 1) = false) := by show _ = _; rw [HS2.out, hG, hb]; rfl
                  clear hG hid
                  go_wp2
                  go_quiet (fail)
                  go_wp2
                  go_roundw
                  case rel => exact ⟨n + 1, by omega, by go_num, by rw [HN.out], below_drewN lr7 _⟩
                  case measure => simp [intOf]; omega
                · have hb : (m2.id != m.id) = true := by simp [hid]
                  have HN : Hid (mvIn p ms k (n + 1) = true) := by show _ = _; rw [HS2.out, hG, hb]; rfl
                  clear hG hid
                  go_wp2
                  go_quiet (fail)
                  go_wp2
                  go_roundw
                  case rel => exact ⟨n + 1, by omega, by go_num, by rw [HN.out], below_drewN lr7 _⟩
                  case measure => simp [intOf]; omega
            · have hnk' : ¬ (n : Int) < (k : Int) := by omega
              have e : n = k := by omega
              subst e
              rw [HALL.out]
              go_wp2_with fail
              go_roundw
              case rel => exact ⟨n + 1, by omega, by go_num, rfl, lr7⟩
              case measure => simp [intOf]; omega
        · have HIN1 : Hid (mvIn p ms k 0 = misOk p [m]) := by show _ = _; rw [HIN.out, hg, HON.out (HTI.out k hg)]; rfl
          clear hg
          go_wp2_with fail
          go_region_held3 (fun W => Below w0.heap.size w0 W) (first | exact ld | exact l6) (first | (go_at_call 16; (with_reducible refine (HC.out _ ld).mono ?_); rintro e w6 ⟨rfl, l6⟩))
          clear c2 ld HC lr
          rw [← HIN1.out]
          go_wp2_with fail
          go_loopw [6, 8] (fun t i wr => ∃ n : Nat, n ≤ k ∧ i = .int .i64 n ∧ t = .bool (mvIn p ms k n) ∧ Below w0.heap.size w0 wr) (fun _ i _ => k - (intOf i).toNat)
          case atStart => exact ⟨0, Nat.zero_le _, rfl, rfl, l6⟩
          case round =>
            obtain ⟨n, hn, rfl, rfl, lr7⟩ := hrel
            obtain ⟨w7, rfl⟩ : ∃ w7 : World, w7 = wr := ⟨_, rfl⟩
            clear l6
            by_cases hnk : n < k
            · have hnl : n < ms.length := by omega
              obtain ⟨bx', o', e', _, _, d1, _⟩ := HRM.out.misU n hnl
              injection e' with e'
              injection e' with e1 e2
              subst e1 e2
              have HS2 := Lib.hid (HSUC.out n hnl)
              generalize ms[n] = m2 at *
              have hni : (n : Int) < (ms.length : Int) := by omega
              have hnk' : (n : Int) < (k : Int) := by omega
              cases hG : mvIn p ms k n
              · have HN : Hid (mvIn p ms k (n + 1) = false) := by show _ = _; rw [HS2.out, hG]; rfl
                clear hG
                go_wp2
                go_quiet (fail)
                go_wp2
                go_roundw
                case rel => exact ⟨n + 1, by omega, by go_num, by rw [HN.out], below_drewN lr7 _⟩
                case measure => simp [intOf]; omega
              · by_cases hid : m2.id = m.id
                · have hb : (m2.id != m.id) = false := by simp [hid]
                  have HN : Hid (mvIn p ms k (n + 1) = false) := by show _ = _; rw [HS2.out, hG, hb]; rfl
                  clear hG hid
                  go_wp2
                  go_quiet (fail)
                  go_wp2
                  go_roundw
                  case rel => exact ⟨n + 1, by omega, by go_num, by rw [HN.out], below_drewN lr7 _⟩
                  case measure => simp [intOf]; omega
                · have hb : (m2.id != m.id) = true := by simp [hid]
                  have HN : Hid (mvIn p ms k (n + 1) = true) := by show _ = _; rw [HS2.out, hG, hb]; rfl
                  clear hG hid
                  go_wp2
                  go_quiet (fail)
                  go_wp2
                  go_roundw
                  case rel => exact ⟨n + 1, by omega, by go_num, by rw [HN.out], below_drewN lr7 _⟩
                  case measure => simp [intOf]; omega
            · have hnk' : ¬ (n : Int) < (k : Int) := by omega
              have e : n = k := by omega
              subst e
              rw [HALL.out]
              go_wp2_with fail
              go_roundw
              case rel => exact ⟨n + 1, by omega, by go_num, rfl, lr7⟩
              case measure => simp [intOf]; omega
      · have HE : Hid (mvTo p ms k = M) := by
          have e : k = ms.length := by omega
          subst e
          exact HMK.out
        rw [HE.out]
        have hmm3 : (M == M) = true := by simp
        go_wp2_with fail
        go_ret
        exact ⟨rfl, HWB.out.trans (lr.mono HWB.out.size)⟩

end Go.Proofs.Ytekjjgnokjhleaa
