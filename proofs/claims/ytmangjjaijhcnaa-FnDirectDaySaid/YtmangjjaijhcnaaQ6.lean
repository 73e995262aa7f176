/- K3 K5 B2 -/
import Derived.Test.YtmangjjaijhcnaaQ38
import Derived.IntWalk
import Derived.Test.YtmangjjaijhcnaaQ2
import Derived.Test.YtmangjjaijhcnaaQ5
import Derived.Test.YtmangjjaijhcnaaQ3
namespace Go.Proofs.Ytmangjjaijhcnaa
open Go.RowKit

theorem quiet_c {P : Program} {f : FuncId} {args : Array Value} {w : World} {n : Nat} {v : Value}
    (h : Calls P f args (w.drewN n) fun e w' => e = .returned v ∧ w.drewN n = w') : Calls P f args (w.drewN n) fun e w'' => e = .returned v ∧ ∃ m, w'' = w.drewN m :=
  h.mono fun _ _ ⟨he, hm⟩ => ⟨he, n, hm.symm⟩

theorem spec_l3Shape (n p : Int) (w : World) : Calls Try.prog 146 #[.int .i64 n, .int .i64 p] w fun e w' => e = .returned (.bool (shapeOk n p)) ∧ w = w' := by
  have e0 : shapeOk n p = (decide (2 ≤ n) && decide (n ≤ 16) && (decide (1 ≤ p) && decide (p ≤ 4))) := rfl
  have E0 := Lib.hid e0; clear e0
  go_enter Try.func146, Try.ntmps146
  go_wp2_with fail
  refine (spec_l1In n 2 16 w).mono ?_
  rintro e w1 ⟨rfl, rfl⟩
  cases h1 : (decide (2 ≤ n) && decide (n ≤ 16))
  · have H1 := Lib.hid h1; clear h1
    go_wp2_with fail
    go_ret
    exact ⟨ret_bool (by rw [E0.out, H1.out]; rfl), rfl⟩
  · have H1 := Lib.hid h1; clear h1
    go_wp2_with fail
    refine (spec_l1In p 1 4 w).mono ?_
    rintro e w1 ⟨rfl, rfl⟩
    cases h2 : (decide (1 ≤ p) && decide (p ≤ 4))
    · have H2 := Lib.hid h2; clear h2
      go_wp2_with fail
      go_ret
      exact ⟨ret_bool (by rw [E0.out, H1.out, H2.out]; rfl), rfl⟩
    · have H2 := Lib.hid h2; clear h2
      go_wp2_with fail
      go_ret
      exact ⟨ret_bool (by rw [E0.out, H1.out, H2.out]; rfl), rfl⟩

set_option maxHeartbeats 400000 in
theorem spec_l3Power (b : Int) (n : Nat) (w : World) (h1 : 2 ≤ b) (h2 : b ≤ 16) (hn : n ≤ 4) :
    Calls Try.prog 147 #[.int .i64 b, .int .i64 n] w fun e w' => e = .returned (.int .i64 (powI b n)) ∧ w = w' := by
  go_enter Try.func147, Try.ntmps147
  go_wp2
  go_loop [5, 6] (fun t i => ∃ (k : Nat) (m : Int), k ≤ n ∧ i = .int .i64 k ∧ t = .int .i64 m ∧ 1 ≤ m ∧ m ≤ 65536 ∧ Hid (m = powI b k)) (fun _ i => n - (intOf i).toNat)
  case atStart => exact ⟨0, 1, Nat.zero_le _, rfl, rfl, by omega, by omega, rfl⟩
  case round =>
    obtain ⟨k, m, hk, rfl, rfl, m0, m1, HM⟩ := hrel
    by_cases hlt : k < n
    · obtain ⟨p1, p2⟩ := powI_bounds h1 h2 (k + 1) (by omega)
      have hp : powI b (k + 1) = m * b := by rw [HM.out]; rfl
      have HP := Lib.hid hp
      rw [hp] at p1 p2
      clear hp
      have hlm : ¬ (100000 : Int) < m * b := by omega
      go_wp2
      go_round
      case rel => exact ⟨k + 1, m * b, by omega, by go_num, by first | rfl | exact congrArg (Value.int .i64) (by omega), p1, p2, HP.out.symm⟩
      case measure => simp [intOf]; omega
    · have HE := Lib.hid (show k = n by omega)
      go_wp2
      go_ret
      exact ⟨ret_int (by rw [HM.out, HE.out]), rfl⟩

theorem powI_nonneg_conv {p : Int} (h : 0 ≤ p) : ((p.toNat : Nat) : Int) = p := Int.toNat_of_nonneg h

set_option maxHeartbeats 1600000 in
theorem spec_PlanValid (v : Value) (p : Pln) (w : World) (hv : rdP w w.heap.size v p) :
    Calls Try.prog 100 #[v] w fun e w' => e = .returned (.bool (planOk p)) ∧ Below w.heap.size w w' := by
  obtain ⟨vo, rfl, hi1, hi2, hr⟩ := hv
  have hr0 := hr
  obtain ⟨A, n, cp, rfl, hn, hc, hm, hra⟩ := hr
  subst hn
  unfold maxLen at hm
  have HRA := Lib.hid hra; clear hra
  have hrb := Lib.hid (fun o n => (hr0.on ((Below.refl _ _).alloc (Nat.le_refl _) o)).on (below_drewN (Below.refl _ _) n))
  clear hr0
  have hB : Below w.heap.size w (w.alloc (Obj.cells #[Value.int IntKind.i64 p.bins, Value.int IntKind.i64 p.passes, Value.slice A p.order.length cp] 25)) := (Below.refl _ _).alloc (Nat.le_refl _) _
  have HB := Lib.hid hB; clear hB
  have e0 : planOk p = (shapeOk p.bins p.passes && (decide (1 ≤ p.order.length) && decide (p.order.length ≤ 60)) && decide ((p.order.length : Int) ≤ powI p.bins p.passes.toNat) && codesOk p.order) := rfl
  have E0 := Lib.hid e0; clear e0
  cases hsh : shapeOk p.bins p.passes
  · have HS := Lib.hid hsh; clear hsh
    have HSc := Lib.hid (fun w => HS.out ▸ spec_l3Shape p.bins p.passes w)
    go_enter Try.func100, Try.ntmps100
    go_wp2
    go_quiet (first | (go_at_call 146; refine quiet_c (HSc.out _)))
    go_wp2
    go_ret
    exact ⟨ret_bool (by rw [E0.out, HS.out]; rfl), below_drewN HB.out _⟩
  have HS := Lib.hid hsh
  have HSc := Lib.hid (fun w => HS.out ▸ spec_l3Shape p.bins p.passes w)
  obtain ⟨q1, q2, q3, q4⟩ := shapeOk_iff.1 hsh
  clear hsh
  cases hln : (decide ((1 : Int) ≤ (p.order.length : Int)) && decide ((p.order.length : Int) ≤ 60))
  · have HL := Lib.hid hln; clear hln
    have HLc := Lib.hid (fun w => HL.out ▸ spec_l1In (p.order.length : Int) 1 60 w)
    have hln2 : (decide (1 ≤ p.order.length) && decide (p.order.length ≤ 60)) = false := by
      have := HL.out
      rw [Bool.and_eq_false_iff, decide_eq_false_iff_not, decide_eq_false_iff_not] at this ⊢
      omega
    have HL2 := Lib.hid hln2; clear hln2
    go_enter Try.func100, Try.ntmps100
    go_wp2
    go_quiet (first | (go_at_call 146; refine quiet_c (HSc.out _)) | (go_at_call 103; refine quiet_c (HLc.out _)))
    go_wp2
    go_ret
    exact ⟨ret_bool (by rw [E0.out, HL2.out]; simp), below_drewN HB.out _⟩
  have HL := Lib.hid hln
  have HLc := Lib.hid (fun w => HL.out ▸ spec_l1In (p.order.length : Int) 1 60 w)
  have hln2 : 1 ≤ p.order.length ∧ p.order.length ≤ 60 := by
    rw [Bool.and_eq_true, decide_eq_true_iff, decide_eq_true_iff] at hln
    omega
  clear hln
  obtain ⟨l1, l2⟩ := hln2
  have hl3 : (decide (1 ≤ p.order.length) && decide (p.order.length ≤ 60)) = true := by rw [decide_eq_true l1, decide_eq_true l2]; rfl
  have HL3 := Lib.hid hl3; clear hl3
  obtain ⟨q, HQ⟩ : ∃ q, Hid (powI p.bins p.passes.toNat = q) := ⟨_, rfl⟩
  have hpw : ∀ w : World, Calls Try.prog 147 #[.int .i64 p.bins, .int .i64 p.passes] w fun e w' => e = .returned (.int .i64 q) ∧ w = w' := fun w => by
    have := spec_l3Power p.bins p.passes.toNat w q1 q2 (by omega)
    rw [HQ.out, powI_nonneg_conv (by omega)] at this
    exact this
  have HPW := Lib.hid hpw; clear hpw
  by_cases h5 : (p.order.length : Int) ≤ q
  case neg =>
    have H5 := Lib.hid (decide_eq_false h5)
    have h5' : decide ((p.order.length : Int) > q) = true := decide_eq_true (by omega)
    clear h5
    go_enter Try.func100, Try.ntmps100
    go_wp2
    go_quiet (first | (go_at_call 146; refine quiet_c (HSc.out _)) | (go_at_call 103; refine quiet_c (HLc.out _)) | (go_at_call 147; refine quiet_c (HPW.out _)))
    go_wp2
    go_ret
    exact ⟨ret_bool (by rw [E0.out, HQ.out, H5.out]; simp), below_drewN HB.out _⟩
  have H5 := Lib.hid (decide_eq_true h5)
  have h5' : decide ((p.order.length : Int) > q) = false := decide_eq_false (by omega)
  clear h5
  have hsum : planOk p = codesOk p.order := by rw [E0.out, HS.out, HL3.out, HQ.out, H5.out]; rfl
  have HSUM := Lib.hid hsum; clear hsum
  go_enter Try.func100, Try.ntmps100
  go_wp2
  go_quiet (first | (go_at_call 146; refine quiet_c (HSc.out _)) | (go_at_call 103; refine quiet_c (HLc.out _)) | (go_at_call 147; refine quiet_c (HPW.out _)))
  clear h5' HPW HQ H5 HL HLc HSc HS E0 HL3 hrb
  have hB1 : Below w.heap.size w ((w.alloc (Obj.cells #[Value.int IntKind.i64 p.bins, Value.int IntKind.i64 p.passes, Value.slice A p.order.length cp] 25)).drewN nq) := below_drewN HB.out _
  have hc0 : ((w.alloc (Obj.cells #[Value.int IntKind.i64 p.bins, Value.int IntKind.i64 p.passes, Value.slice A p.order.length cp] 25)).drewN nq).cell? ⟨w.heap.size, 2, none⟩ = some (.slice A p.order.length cp) := by go_simp
  clear HB
  generalize ((w.alloc (Obj.cells #[Value.int IntKind.i64 p.bins, Value.int IntKind.i64 p.passes, Value.slice A p.order.length cp] 25)).drewN nq) = w0 at *
  generalize p.order = cs at *
  go_wp2
  go_loopw [3] (fun i wr => ∃ k : Nat, k ≤ cs.length ∧ i = .int .i64 k ∧ Below w.heap.size w wr ∧ wr.cell? ⟨w.heap.size, 2, none⟩ = some (.slice A cs.length cp) ∧ Hid (∀ j, j < k → goodC cs j = true)) (fun i _ => cs.length - (intOf i).toNat)
  case atStart => exact ⟨0, Nat.zero_le _, rfl, hB1, hc0, fun j hj => absurd hj (Nat.not_lt_zero j)⟩
  case round =>
    obtain ⟨k, hk, rfl, hbl, hcx, HG⟩ := hrel
    obtain ⟨w1, rfl⟩ : ∃ w1 : World, w1 = wr := ⟨_, rfl⟩
    have hsz := hbl.size
    clear hB1 hc0
    by_cases hlt : k < cs.length
    · obtain ⟨b, o, rfl, hb, hok, c1⟩ := HRA.out.str k hlt
      have hG := Lib.hid (goodC_of hlt)
      have hbad := Lib.hid (fun h => codesOk_bad hlt h)
      generalize hx : cs[k] = c at *
      have HXK := Lib.hid hx; clear hx
      have c1' : w1.cell? ⟨b, o + k, none⟩ = some (.string c) := (hbl.cell (p := ⟨b, o + k, none⟩) hb).trans c1
      cases hcd : isCode c
      · have hcd' := Lib.hid hcd; clear hcd
        go_wp2_with (go_at_call 99; refine (spec_CodeValid _ _ hok).mono ?_; rw [hcd'.out]; rintro e w' ⟨rfl, rfl⟩)
        go_ret
        exact ⟨ret_bool (by rw [HSUM.out]; exact (hbad.out (by rw [hG.out, hcd'.out]; rfl)).symm), hbl⟩
      have hcd' := Lib.hid hcd; clear hcd
      go_wp2_with (go_at_call 99; refine (spec_CodeValid _ _ hok).mono ?_; rw [hcd'.out]; rintro e w' ⟨rfl, rfl⟩)
      go_loopw [4] (fun i wr => ∃ m : Nat, m ≤ k ∧ i = .int .i64 m ∧ Below w.heap.size w wr ∧ wr.cell? ⟨w.heap.size, 2, none⟩ = some (.slice (some ⟨b, o, none⟩) cs.length cp) ∧ Hid ((cs.take m).all (fun y => !sEq y c) = true)) (fun i _ => k - (intOf i).toNat)
      case atStart => exact ⟨0, Nat.zero_le _, rfl, hbl, hcx, rfl⟩
      case round =>
        obtain ⟨m, hm', rfl, hbw, hcw, HA⟩ := hrel
        have hsi := hbw.size
        clear c1' hcx
        have c1' : wr.cell? ⟨b, o + k, none⟩ = some (.string c) := (hbw.cell (p := ⟨b, o + k, none⟩) hb).trans c1
        by_cases hmk : m < k
        · obtain ⟨b', o', hA, _, _, d1⟩ := HRA.out.str m (by omega)
          have hT := Lib.hid (take_all_succ (p := fun y : ByteArray => !sEq y c) cs m (by omega))
          have hI := Lib.hid (take_all_bad (p := fun y : ByteArray => !sEq y c) cs m k (by omega) hmk)
          generalize cs[m] = y at *
          injection hA with hA
          injection hA with hA1 hA2
          subst hA1 hA2
          have d1' : wr.cell? ⟨b, o + m, none⟩ = some (.string y) := (hbw.cell (p := ⟨b, o + m, none⟩) hb).trans d1
          clear d1 c1
          have hml : (m : Int) < (cs.length : Int) := by omega
          have hkl : (k : Int) < (cs.length : Int) := by omega
          cases hyx : sEq y c
          · have HY := Lib.hid hyx
            have hyx' : (y.toList == c.toList) = false := hyx
            clear hyx
            go_wp2
            go_quiet (fail)
            go_wp2
            go_roundw
            case rel => exact ⟨m + 1, by omega, by go_num, below_drewN hbw _, by go_simp, by show _ = true; rw [hT.out, HA.out, HY.out]; rfl⟩
            case measure => simp [intOf]; omega
          · have HY := Lib.hid hyx
            have hyx' : (y.toList == c.toList) = true := hyx
            clear hyx
            go_wp2
            go_quiet (fail)
            go_wp2
            go_ret
            exact ⟨ret_bool (by rw [HSUM.out]; exact (hbad.out (by rw [hG.out, hI.out (by rw [HY.out]; rfl)]; simp)).symm), below_drewN hbw _⟩
        · have hme : m = k := by omega
          have HE := Lib.hid hme; clear hme
          go_wp2
          go_roundw
          case rel =>
            refine ⟨k + 1, by omega, by go_num, hbw, hcw, fun j hj => ?_⟩
            by_cases hjk : j < k
            · exact HG.out j hjk
            · obtain rfl : j = k := by omega
              rw [hG.out, hcd'.out, ← HE.out, HA.out]; rfl
          case measure => simp [intOf]; omega
    · have HE := Lib.hid (show k = cs.length by omega)
      go_wp2
      go_ret
      exact ⟨ret_bool (by rw [HSUM.out]; exact (codesOk_good (by rw [← HE.out]; exact HG.out)).symm), hbl⟩

end Go.Proofs.Ytmangjjaijhcnaa

namespace Go.Proofs.Ytmangjjaijhcnaa
open Go.RowKit

set_option maxHeartbeats 400000 in
theorem spec_l3Rank (v : Value) (xs : List ByteArray) (c : ByteArray) (w : World) (hv : rd w w.heap.size v xs) :
    Calls Try.prog 92 #[v, .string c] w fun e w' => e = .returned (.int .i64 (rkI xs c)) ∧ w = w' := by
  obtain ⟨A, n, cp, rfl, hn, hc, hm, hr⟩ := hv
  subst hn
  unfold maxLen at hm
  have HR := Lib.hid hr; clear hr
  go_enter Try.func92, Try.ntmps92
  go_wp2
  go_loop [5] (fun i => ∃ k : Nat, k ≤ xs.length ∧ i = .int .i64 k ∧ Hid (∀ j (h : j < xs.length), j < k → sEq xs[j] c = false)) (fun i => xs.length - (intOf i).toNat)
  case atStart => exact ⟨0, Nat.zero_le _, rfl, fun j _ hj => absurd hj (Nat.not_lt_zero j)⟩
  case round =>
    obtain ⟨k, hk, rfl, HG⟩ := hrel
    by_cases hlt : k < xs.length
    · obtain ⟨b, o, rfl, hb, hok, c1⟩ := HR.out.str k hlt
      have HX : Hid (∀ h : sEq xs[k] c = false, ∀ j (h1 : j < xs.length), j < k + 1 → sEq xs[j] c = false) := fun h j h1 hj => by
        by_cases hjk : j < k
        · exact HG.out j h1 hjk
        · obtain rfl : j = k := by omega
          exact h
      have HY : Hid (∀ h : sEq xs[k] c = true, rkI xs c = k) := fun h => by
        have e := rk_eq hlt (fun j hj => HG.out j (by omega) hj) h
        rw [rkI_pos (by omega), e]
      generalize xs[k] = x at *
      cases he : sEq x c
      · have he' := Lib.hid he
        have hq : (x.toList == c.toList) = false := he
        clear he
        go_wp2
        go_round
        case rel => exact ⟨k + 1, by omega, by go_num, HX.out he'.out⟩
        case measure => simp [intOf]; omega
      · have he' := Lib.hid he
        have hq : (x.toList == c.toList) = true := he
        clear he
        go_wp2
        go_ret
        exact ⟨ret_int (HY.out he'.out).symm, rfl⟩
    · have HE : Hid (rkI xs c = -1) := by
        have e := rk_none (cs := xs) (c := c) (fun j hj => HG.out j hj (by omega))
        exact rkI_neg (by omega)
      go_wp2
      go_ret
      exact ⟨ret_int HE.out.symm, rfl⟩

theorem spec_l3Ready (v vb : Value) (p : Pln) (xs : List Ltr) (w : World) (hv : rdP w w.heap.size v p) (hb : rd w w.heap.size vb xs) :
    Calls Try.prog 105 #[v, vb] w fun e w' => e = .returned (.bool (planOk p && okB xs)) ∧ Below w.heap.size w w' := by
  have hv0 := Lib.hid hv
  have hb0 := Lib.hid hb
  obtain ⟨vo, rfl, hi1, hi2, Ao, no, cpo, rfl, hno, hco, hmo, hro⟩ := hv
  subst hno
  clear hco hmo hro
  have hB : Below w.heap.size w (w.alloc (Obj.cells #[Value.int IntKind.i64 p.bins, Value.int IntKind.i64 p.passes, Value.slice Ao p.order.length cpo] 25)) := (Below.refl _ _).alloc (Nat.le_refl _) _
  have HB := Lib.hid hB; clear hB
  go_enter Try.func105, Try.ntmps105
  go_wp2_with fail
  refine (spec_PlanValid _ p _ (hv0.out.on HB.out)).mono ?_
  rintro e w1 ⟨rfl, b1⟩
  have B1 := HB.out.trans (b1.mono HB.out.size)
  cases hp : planOk p
  · have HP := Lib.hid hp; clear hp
    go_wp2_with fail
    go_ret
    exact ⟨ret_bool (by rw [HP.out]; rfl), B1⟩
  · have HP := Lib.hid hp; clear hp
    obtain ⟨r, HRR⟩ : ∃ r, Hid (okB xs = r) := ⟨_, rfl⟩
    go_wp2_with fail
    refine (spec_BatchValid _ xs _ (hb0.out.on B1)).mono ?_
    rintro e w2 ⟨rfl, b2⟩
    rw [HRR.out]
    go_wp2_with fail
    go_ret
    exact ⟨ret_bool (by rw [HP.out, HRR.out]; rfl), B1.trans (b2.mono B1.size)⟩

end Go.Proofs.Ytmangjjaijhcnaa

namespace Go.Proofs.Ytmangjjaijhcnaa
open Go.RowKit

theorem ordP {w : World} {B : Nat} {p : Pln} {A : Option Addr} {c : Nat} (h : rdP w B (.agg #[.int .i64 p.bins, .int .i64 p.passes, .slice A p.order.length c]) p) : rd w B (.slice A p.order.length c) p.order := by
  obtain ⟨vo, h1, _, _, h4⟩ := h
  injection h1 with h1
  injection h1 with h1
  simp only [List.cons.injEq, and_true, true_and] at h1
  subst h1
  exact h4
theorem indexS_is {v : Value} {xs : List ByteArray} {c : ByteArray} {r : Int} {w : World} (hv : rd w w.heap.size v xs) (h : rkI xs c = r) :
    Calls Try.prog 142 #[v, .string c] w fun e w' => e = .returned (.int .i64 r) ∧ w = w' := by
  rw [← h]; exact slices_IndexS v xs c w hv
theorem l3RankI_is {v : Value} {xs : List ByteArray} {c : ByteArray} {r : Int} {w : World} (hv : rd w w.heap.size v xs) (h : rkI xs c = r) :
    Calls Try.prog 92 #[v, .string c] w fun e w' => e = .returned (.int .i64 r) ∧ w = w' := by
  rw [← h]; exact spec_l3Rank v xs c w hv

set_option maxRecDepth 100000 in
set_option maxHeartbeats 800000 in
theorem impl_binOf (v : Value) (p : Pln) (c : ByteArray) (k : Nat) (w : World) (hv : rdP w w.heap.size v p) (h1 : 2 ≤ p.bins) (h2 : p.bins ≤ 16) (hk : k ≤ 4) (hl : p.order.length ≤ 1000) :
    Calls Try.prog 176 #[v, .string c, .int .i64 k] w fun e w' => e = .returned (.int .i64 (binI p c k)) ∧ Below w.heap.size w w' := by
  obtain ⟨A0, c0, e0⟩ := openP hv
  obtain ⟨w0, hw0⟩ : ∃ w0, w0 = w.alloc (Obj.cells #[.int .i64 p.bins, .int .i64 p.passes, .slice A0 p.order.length c0] 25) := ⟨_, rfl⟩
  have q0 := box_cells hw0 0 (.int .i64 p.bins) rfl
  have q1 := box_cells hw0 1 (.int .i64 p.passes) rfl
  have q2 := box_cells hw0 2 (.slice A0 p.order.length c0) rfl
  have HT := Lib.hid (box_later hw0).1
  have HP := Lib.hid (hv.on HT.out)
  subst e0
  have HO := Lib.hid (ordP HP.out)
  have HW0 := Lib.hid hw0; clear hw0 hv
  have l0 := Below.refl w0.heap.size w0
  obtain ⟨r, HRR⟩ : ∃ r, Hid (rkI p.order c = r) := ⟨_, rfl⟩
  obtain ⟨q, HQ⟩ : ∃ q, Hid (powI p.bins k = q) := ⟨_, rfl⟩
  obtain ⟨qa, qb⟩ := powI_bounds h1 h2 k hk
  rw [HQ.out] at qa qb
  obtain ⟨ra, rb⟩ := rkI_range p.order c
  rw [HRR.out] at ra rb
  have C2 := Lib.hid (fun w => impl_binPower p.bins k w h1 h2 hk)
  go_enter Try.func176, Try.ntmps176
  go_wp2_with fail
  rw [← HW0.out]
  refine (indexS_is HO.out HRR.out).mono ?_
  rintro e w1 ⟨rfl, rfl⟩
  by_cases hr : r < 0
  · go_wp2_with fail
    go_ret
    exact ⟨ret_int (by rw [binI_neg (by rw [HRR.out]; exact hr)]), HT.out⟩
  have hr0 : 0 ≤ r := by omega
  have HE : Hid (binI p c k = r / q % p.bins) := by show _ = _; rw [binI_pos (by rw [HRR.out]; omega), HRR.out, HQ.out]
  have C3 : Hid (∀ w : World, Calls Try.prog 175 #[.int .i64 p.bins, .int .i64 k] w fun e w' => e = .returned (.int .i64 q) ∧ w = w') := fun w => by
    have h := C2.out w
    rw [HQ.out] at h
    exact h
  have hq0 : (q == 0) = false := beq_eq_false_iff_ne.2 (by omega)
  have hb0 : (p.bins == 0) = false := beq_eq_false_iff_ne.2 (by omega)
  have hq1 : ¬ q = 0 := by omega
  have hb1 : ¬ p.bins = 0 := by omega
  have d0 : 0 ≤ r / q := Int.ediv_nonneg hr0 (by omega)
  have d1 : r / q ≤ 1000 := by
    have := Int.ediv_le_self q hr0
    omega
  have m0 : 0 ≤ r / q % p.bins := Int.emod_nonneg _ hb1
  have m1 : r / q % p.bins < p.bins := Int.emod_lt_of_pos _ (by omega)
  go_wp2
  go_quiet (first | (go_at_call 175; refine quiet_c (C3.out _)))
  have t1 : r.tdiv q = r / q := Int.tdiv_eq_ediv_of_nonneg hr0
  have t2 : (r / q).tmod p.bins = r / q % p.bins := Int.tmod_eq_emod_of_nonneg d0
  have HT1 := Lib.hid t1; have HT2 := Lib.hid t2
  clear t1 t2 hq0 hb0 hq1 hb1
  go_wp2
  go_ret
  exact ⟨ret_int (by rw [HE.out]), later_trans HT.out (below_drewN l0 _)⟩

set_option maxRecDepth 100000 in
set_option maxHeartbeats 800000 in
theorem spec_l3Bin (v : Value) (p : Pln) (c : ByteArray) (k : Nat) (w : World) (hv : rdP w w.heap.size v p) (h1 : 2 ≤ p.bins) (h2 : p.bins ≤ 16) (hk : k ≤ 4) (hl : p.order.length ≤ 1000) :
    Calls Try.prog 148 #[v, .string c, .int .i64 k] w fun e w' => e = .returned (.int .i64 (binI p c k)) ∧ Below w.heap.size w w' := by
  obtain ⟨A0, c0, e0⟩ := openP hv
  obtain ⟨w0, hw0⟩ : ∃ w0, w0 = w.alloc (Obj.cells #[.int .i64 p.bins, .int .i64 p.passes, .slice A0 p.order.length c0] 25) := ⟨_, rfl⟩
  have q0 := box_cells hw0 0 (.int .i64 p.bins) rfl
  have q1 := box_cells hw0 1 (.int .i64 p.passes) rfl
  have q2 := box_cells hw0 2 (.slice A0 p.order.length c0) rfl
  have HT := Lib.hid (box_later hw0).1
  have HP := Lib.hid (hv.on HT.out)
  subst e0
  have HO := Lib.hid (ordP HP.out)
  have HW0 := Lib.hid hw0; clear hw0 hv
  have l0 := Below.refl w0.heap.size w0
  obtain ⟨r, HRR⟩ : ∃ r, Hid (rkI p.order c = r) := ⟨_, rfl⟩
  obtain ⟨q, HQ⟩ : ∃ q, Hid (powI p.bins k = q) := ⟨_, rfl⟩
  obtain ⟨qa, qb⟩ := powI_bounds h1 h2 k hk
  rw [HQ.out] at qa qb
  obtain ⟨ra, rb⟩ := rkI_range p.order c
  rw [HRR.out] at ra rb
  have C2 := Lib.hid (fun w => spec_l3Power p.bins k w h1 h2 hk)
  go_enter Try.func148, Try.ntmps148
  go_wp2_with fail
  rw [← HW0.out]
  refine (l3RankI_is HO.out HRR.out).mono ?_
  rintro e w1 ⟨rfl, rfl⟩
  by_cases hr : r < 0
  · go_wp2_with fail
    go_ret
    exact ⟨ret_int (by rw [binI_neg (by rw [HRR.out]; exact hr)]), HT.out⟩
  have hr0 : 0 ≤ r := by omega
  have HE : Hid (binI p c k = r / q % p.bins) := by show _ = _; rw [binI_pos (by rw [HRR.out]; omega), HRR.out, HQ.out]
  have C3 : Hid (∀ w : World, Calls Try.prog 147 #[.int .i64 p.bins, .int .i64 k] w fun e w' => e = .returned (.int .i64 q) ∧ w = w') := fun w => by
    have h := C2.out w
    rw [HQ.out] at h
    exact h
  have hq0 : (q == 0) = false := beq_eq_false_iff_ne.2 (by omega)
  have hb0 : (p.bins == 0) = false := beq_eq_false_iff_ne.2 (by omega)
  have hq1 : ¬ q = 0 := by omega
  have hb1 : ¬ p.bins = 0 := by omega
  have d0 : 0 ≤ r / q := Int.ediv_nonneg hr0 (by omega)
  have d1 : r / q ≤ 1000 := by
    have := Int.ediv_le_self q hr0
    omega
  have m0 : 0 ≤ r / q % p.bins := Int.emod_nonneg _ hb1
  have m1 : r / q % p.bins < p.bins := Int.emod_lt_of_pos _ (by omega)
  go_wp2
  go_quiet (first | (go_at_call 147; refine quiet_c (C3.out _)))
  have t1 : r.tdiv q = r / q := Int.tdiv_eq_ediv_of_nonneg hr0
  have t2 : (r / q).tmod p.bins = r / q % p.bins := Int.tmod_eq_emod_of_nonneg d0
  have HT1 := Lib.hid t1; have HT2 := Lib.hid t2
  clear t1 t2 hq0 hb0 hq1 hb1
  go_wp2
  go_ret
  exact ⟨ret_int (by rw [HE.out]), later_trans HT.out (below_drewN l0 _)⟩


theorem Try.infoRow : (Try.prog.info? 29).map (fun i => (i.zero, i.size, i.bytes)) = some (some (.slice none 0 0), 1, 24) := by kernel_rfl

set_option maxHeartbeats 800000 in
theorem impl_joinBins (v : Value) (xss : List (List Ltr)) (w : World) (hv : rd w w.heap.size v xss) (hl : xss.flatten.length ≤ 1048576) :
    Calls Try.prog 144 #[v] w fun e w' => ∃ v', e = .returned v' ∧ own 55 w.heap.size w' v' xss.flatten ∧ Below w.heap.size w w' := by
  obtain ⟨A, n, c, rfl, hn, hc, hm, hr⟩ := hv
  subst hn
  unfold maxLen at hm
  have HR := Lib.hid hr; clear hr
  have l0 := Below.refl w.heap.size w
  have HL := Lib.hid hl; clear hl
  obtain ⟨i0, hi, hz0, hz1, hz2⟩ := info_parts Try.infoLtr
  go_enter Try.func144, Try.ntmps144
  go_wp2
  go_loopw [3, 8] (fun t i wr => ∃ k : Nat, k ≤ xss.length ∧ i = .int .i64 k ∧ Below w.heap.size w wr ∧ own 55 w.heap.size wr t (xss.take k).flatten) (fun _ i _ => xss.length - (intOf i).toNat)
  case atStart => exact ⟨0, Nat.zero_le _, rfl, l0, own.nil_ _ _ _⟩
  case round =>
    obtain ⟨k, hk, rfl, lr, ho⟩ := hrel
    obtain ⟨w1, rfl⟩ : ∃ w1 : World, w1 = wr := ⟨_, rfl⟩
    clear l0
    by_cases hlt : k < xss.length
    · obtain ⟨b, o, u, rfl, hb, hu, c1⟩ := HR.out.rowU k hlt
      have HS : Hid ((xss.take (k + 1)).flatten = (xss.take k).flatten ++ xss[k]) := by show _ = _; rw [List.take_succ_eq_append_getElem hlt, List.flatten_append]; simp
      have HLB : Hid ((xss.take k).flatten.length + xss[k].length ≤ 1048576) := by
        show _ ≤ _
        rw [← List.length_append, ← HS.out]
        have : (xss.take (k + 1)).flatten.length ≤ xss.flatten.length := by
          conv => rhs; rw [← List.take_append_drop (k + 1) xss, List.flatten_append, List.length_append]
          omega
        have := HL.out
        omega
      generalize xss[k] = ys at *
      obtain ⟨A2, m2, c2, rfl, hm2, hc2, hmm2, hr2⟩ := hu
      have hu : rd w w.heap.size (.slice A2 m2 c2) ys := ⟨A2, m2, c2, rfl, hm2, hc2, hmm2, hr2⟩
      clear hm2 hc2 hmm2 hr2
      have HU := Lib.hid hu; clear hu
      generalize hys : (xss.take k).flatten = zs at *
      have HYS := Lib.hid hys; clear hys
      have ho' := Lib.hid ho
      obtain ⟨A3, m3, c3, rfl, hm3, _, _, _⟩ := ho.rd
      subst hm3
      clear ho
      have hbd := HLB.out
      go_wp2_with (at_builtin; refine wpList_appendAll (α := Ltr) rfl (.tmp 12) (.tmp 13) 29 rfl w.heap.size 55 i0 _ 24 Try.underlying29 hi hz0 hz1 hz2 rfl (by decide) (.slice A3 zs.length c3) zs rfl ho'.out (.slice A2 m2 c2) ys rfl w1.heap.size (HU.out.on lr) (by have := HLB.out; unfold maxLen; omega) (by have := HLB.out; omega) lr.size ?_; intro v' w2 ho2 hg2 _)
      have l2 : Below w.heap.size w w2 := lr.trans (below_append ho'.out hg2 lr.size)
      go_wp2
      go_roundw
      case rel => exact ⟨k + 1, by omega, by go_num, l2, by rw [HS.out]; exact ho2⟩
      case measure => simp [intOf]; omega
    · have HE := Lib.hid (show k = xss.length by omega)
      go_wp2
      go_ret
      exact ⟨_, rfl, by rw [HE.out, List.take_length] at ho; exact ho, lr⟩

end Go.Proofs.Ytmangjjaijhcnaa
