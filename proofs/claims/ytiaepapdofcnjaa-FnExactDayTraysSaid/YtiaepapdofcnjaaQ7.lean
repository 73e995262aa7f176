/- B1 K5 B2 -/
import Derived.Test.YtiaepapdofcnjaaQ2
import Derived.Test.YtiaepapdofcnjaaQ6
import Derived.Test.YtiaepapdofcnjaaQ3
import Derived.Test.YtiaepapdofcnjaaQ5
import Derived.Test.YtiaepapdofcnjaaQ4
namespace Go.Proofs.Ytiaepapdofcnjaa
open Go.RowKit

set_option maxHeartbeats 400000 in
theorem impl_BatchValid (v : Value) (xs : List Ltr) (w : World) (hv : rd w w.heap.size v xs) :
    Calls Try.prog 102 #[v] w fun e w' => e = .returned (.bool (okB xs)) ∧ Below w.heap.size w w' := by
  obtain ⟨A, n, c, rfl, hn, hc, hm, hr⟩ := hv
  subst hn
  unfold maxLen at hm
  have HR := Lib.hid hr; clear hr
  go_enter Try.func102, Try.ntmps102
  by_cases h60 : 60 < xs.length
  · go_wp2
    go_ret
    exact ⟨ret_bool (by unfold okB; simp; omega), Below.refl _ _⟩
  · go_wp2
    go_loopw [12] (fun i wr => ∃ k : Nat, k ≤ xs.length ∧ i = .int .i64 k ∧ Below w.heap.size w wr ∧ Hid (∀ j, j < k → goodL xs j = true)) (fun i _ => xs.length - (intOf i).toNat)
    case atStart => exact ⟨0, Nat.zero_le _, rfl, Below.refl _ _, fun j hj => absurd hj (Nat.not_lt_zero j)⟩
    case round =>
      obtain ⟨k, hk, rfl, hbl, HG⟩ := hrel
      obtain ⟨w1, rfl⟩ : ∃ w1 : World, w1 = wr := ⟨_, rfl⟩
      have hsz := hbl.size
      by_cases hlt : k < xs.length
      · obtain ⟨b, o, rfl, hb, ⟨⟨o1, o2⟩, o3⟩, c1, c2⟩ := HR.out.ltr k hlt
        have hG := Lib.hid (goodL_of hlt)
        have hbad := Lib.hid (fun h => okB_bad hlt h)
        have HX : Hid (∀ j (h : j < k), xs[j] = xs[j]'(by omega)) := fun _ _ => rfl
        have HT : Hid (xs.take k = xs.take k) := rfl
        generalize hx : xs[k] = x at *
        have HXK := Lib.hid hx; clear hx
        have c1' : w1.cell? ⟨b, o + k * 2, none⟩ = some (.int .i64 x.id) := (hbl.cell (p := ⟨b, o + k * 2, none⟩) hb).trans c1
        have c2' : w1.cell? ⟨b, o + k * 2 + 1, none⟩ = some (.string x.code) := (hbl.cell (p := ⟨b, o + k * 2 + 1, none⟩) hb).trans c2
        clear c1 c2
        by_cases h1 : x.id < 1
        · go_wp2
          go_ret
          exact ⟨ret_bool (hbad.out (by rw [hG.out]; simp; omega)).symm, hbl.alloc hsz _⟩
        by_cases h2 : 9999 < x.id
        · go_wp2
          go_ret
          exact ⟨ret_bool (hbad.out (by rw [hG.out]; simp; omega)).symm, hbl.alloc hsz _⟩
        cases hcd : isCode x.code
        · have hcd' := Lib.hid hcd; clear hcd
          go_wp2_with (go_at_call 154; refine (impl_CodeValid _ _ o3).mono ?_; rw [hcd'.out]; rintro e w' ⟨rfl, rfl⟩)
          go_ret
          exact ⟨ret_bool (hbad.out (by rw [hG.out, hcd'.out]; simp)).symm, hbl.alloc hsz _⟩
        · have hcd' := Lib.hid hcd; clear hcd
          go_wp2_with (go_at_call 154; refine (impl_CodeValid _ _ o3).mono ?_; rw [hcd'.out]; rintro e w' ⟨rfl, rfl⟩)
          obtain ⟨wo, hwo⟩ : ∃ wo : World, wo = w1.alloc (Obj.cells #[Value.int IntKind.i64 x.id, Value.string x.code] 103) := ⟨_, rfl⟩
          have g1 : wo.cell? ⟨w1.heap.size, 0, none⟩ = some (.int .i64 x.id) := by subst hwo; simp [go_sem]
          have hwz : wo.heap.size = w1.heap.size + 1 := by subst hwo; simp
          have hbo : Below w.heap.size w wo := by subst hwo; exact hbl.alloc hsz _
          rw [← hwo]
          have HZ := Lib.hid hwz
          have hwz2 : w1.heap.size < wo.heap.size := by omega
          clear hwo hwz
          go_loopw [35] (fun i wi => ∃ m : Nat, m ≤ k ∧ i = .int .i64 m ∧ Below wo.heap.size wo wi ∧ Hid ((xs.take m).all (fun y => y.id != x.id) = true)) (fun i _ => k - (intOf i).toNat)
          case atStart => exact ⟨0, Nat.zero_le _, rfl, Below.refl _ _, rfl⟩
          case round =>
            obtain ⟨m, hm, rfl, hbi, HA⟩ := hrel
            have hsi := hbi.size
            have hw2 := hbo.size
            have hw3 : w1.heap.size < wr.heap.size := by omega
            have hbw : Below w.heap.size w wr := hbo.trans (hbi.mono hw2)
            have g1' : wr.cell? ⟨w1.heap.size, 0, none⟩ = some (.int .i64 x.id) := (hbi.cell (p := ⟨w1.heap.size, 0, none⟩) hwz2).trans g1
            clear g1
            by_cases hmk : m < k
            · obtain ⟨b', o', hA, _, ⟨⟨p1, p2⟩, p3⟩, d1, d2⟩ := HR.out.ltr m (by omega)
              have hT := Lib.hid (take_all_succ (p := fun y : Ltr => y.id != x.id) xs m (by omega))
              have hI := Lib.hid (take_all_bad (p := fun y : Ltr => y.id != x.id) xs m k (by omega) hmk)
              generalize xs[m] = y at *
              injection hA with hA
              injection hA with hA1 hA2
              subst hA1 hA2
              have d1' : wr.cell? ⟨b, o + m * 2, none⟩ = some (.int .i64 y.id) := (hbw.cell (p := ⟨b, o + m * 2, none⟩) hb).trans d1
              have d2' : wr.cell? ⟨b, o + m * 2 + 1, none⟩ = some (.string y.code) := (hbw.cell (p := ⟨b, o + m * 2 + 1, none⟩) hb).trans d2
              clear d1 d2
              by_cases hyx : y.id = x.id
              · have hyx' : (y.id == x.id) = true := by simpa using hyx
                have HY := Lib.hid hyx; clear hyx
                go_wp2
                go_ret
                exact ⟨ret_bool (hbad.out (by rw [hG.out, hI.out (by simp [HY.out])]; simp)).symm, hbw.alloc (by omega) _⟩
              · have hyx' : (y.id == x.id) = false := by simpa using hyx
                have HY := Lib.hid hyx; clear hyx
                go_wp2
                go_roundw
                case rel => exact ⟨m + 1, by omega, by go_num, hbi.alloc hsi _, by show _ = true; rw [hT.out, HA.out]; simpa using HY.out⟩
                case measure => simp [intOf]; omega
            · have hme : m = k := by omega
              have HE := Lib.hid hme; clear hme
              go_wp2
              go_roundw
              case rel =>
                refine ⟨k + 1, by omega, by go_num, hbw, fun j hj => ?_⟩
                by_cases hjk : j < k
                · exact HG.out j hjk
                · obtain rfl : j = k := by omega
                  rw [hG.out, hcd'.out, ← HE.out, HA.out]; simp; omega
              case measure => simp [intOf]; omega
      · have hke : k = xs.length := by omega
        have HE := Lib.hid hke; clear hke
        go_wp2
        go_ret
        exact ⟨ret_bool (okB_good (by omega) (by rw [← HE.out]; exact HG.out)).symm, hbl⟩

set_option maxHeartbeats 400000 in
theorem spec_BatchValid (v : Value) (xs : List Ltr) (w : World) (hv : rd w w.heap.size v xs) :
    Calls Try.prog 97 #[v] w fun e w' => e = .returned (.bool (okB xs)) ∧ Below w.heap.size w w' := by
  obtain ⟨A, n, c, rfl, hn, hc, hm, hr⟩ := hv
  subst hn
  unfold maxLen at hm
  have HR := Lib.hid hr; clear hr
  go_enter Try.func97, Try.ntmps97
  go_wp2
  go_loopw [3] (fun i wr => ∃ k : Nat, k ≤ xs.length ∧ i = .int .i64 k ∧ Below w.heap.size w wr ∧ Hid (∀ j, j < k → goodL xs j = true)) (fun i _ => xs.length - (intOf i).toNat)
  case atStart => exact ⟨0, Nat.zero_le _, rfl, Below.refl _ _, fun j hj => absurd hj (Nat.not_lt_zero j)⟩
  case round =>
    obtain ⟨k, hk, rfl, hbl, HG⟩ := hrel
    obtain ⟨w1, rfl⟩ : ∃ w1 : World, w1 = wr := ⟨_, rfl⟩
    have hsz := hbl.size
    by_cases hlt : k < xs.length
    · obtain ⟨b, o, rfl, hb, ⟨⟨o1, o2⟩, o3⟩, c1, c2⟩ := HR.out.ltr k hlt
      have hG := Lib.hid (goodL_of hlt)
      have hbad := Lib.hid (fun h => okB_bad hlt h)
      generalize hx : xs[k] = x at *
      have HXK := Lib.hid hx; clear hx
      have c1' : w1.cell? ⟨b, o + k * 2, none⟩ = some (.int .i64 x.id) := (hbl.cell (p := ⟨b, o + k * 2, none⟩) hb).trans c1
      have c2' : w1.cell? ⟨b, o + k * 2 + 1, none⟩ = some (.string x.code) := (hbl.cell (p := ⟨b, o + k * 2 + 1, none⟩) hb).trans c2
      cases hcd : isCode x.code
      · have hcd' := Lib.hid hcd; clear hcd
        go_wp2_with (go_at_call 145; refine (spec_CodeValid _ _ o3).mono ?_; rw [hcd'.out]; rintro e w' ⟨rfl, rfl⟩)
        go_ret
        exact ⟨ret_bool (hbad.out (by rw [hG.out, hcd'.out]; simp)).symm, hbl⟩
      have hcd' := Lib.hid hcd; clear hcd
      cases hid : (decide (1 ≤ x.id) && decide (x.id ≤ 9999))
      · have hid' := Lib.hid hid; clear hid
        go_wp2_with (first | (go_at_call 145; refine (spec_CodeValid _ _ o3).mono ?_; rw [hcd'.out]; rintro e w' ⟨rfl, rfl⟩) | (go_at_call 127; refine (spec_l1In _ _ _ _).mono ?_; rw [hid'.out]; rintro e w' ⟨rfl, rfl⟩))
        go_ret
        exact ⟨ret_bool (hbad.out (by rw [hG.out, hid'.out]; simp)).symm, hbl⟩
      have hid' := Lib.hid hid; clear hid
      go_wp2_with (first | (go_at_call 145; refine (spec_CodeValid _ _ o3).mono ?_; rw [hcd'.out]; rintro e w' ⟨rfl, rfl⟩) | (go_at_call 127; refine (spec_l1In _ _ _ _).mono ?_; rw [hid'.out]; rintro e w' ⟨rfl, rfl⟩))
      go_loopw [4] (fun i wr => ∃ m : Nat, m ≤ k ∧ i = .int .i64 m ∧ Below w.heap.size w wr ∧ Hid ((xs.take m).all (fun y => y.id != x.id) = true)) (fun i _ => k - (intOf i).toNat)
      case atStart => exact ⟨0, Nat.zero_le _, rfl, hbl, rfl⟩
      case round =>
        obtain ⟨m, hm', rfl, hbw, HA⟩ := hrel
        have hsi := hbw.size
        clear c1' c2'
        have c1' : wr.cell? ⟨b, o + k * 2, none⟩ = some (.int .i64 x.id) := (hbw.cell (p := ⟨b, o + k * 2, none⟩) hb).trans c1
        by_cases hmk : m < k
        · obtain ⟨b', o', hA, _, _, d1, d2⟩ := HR.out.ltr m (by omega)
          have hT := Lib.hid (take_all_succ (p := fun y : Ltr => y.id != x.id) xs m (by omega))
          have hI := Lib.hid (take_all_bad (p := fun y : Ltr => y.id != x.id) xs m k (by omega) hmk)
          generalize xs[m] = y at *
          injection hA with hA
          injection hA with hA1 hA2
          subst hA1 hA2
          have d1' : wr.cell? ⟨b, o + m * 2, none⟩ = some (.int .i64 y.id) := (hbw.cell (p := ⟨b, o + m * 2, none⟩) hb).trans d1
          clear d1 d2 c1 c2
          have hml : (m : Int) < (xs.length : Int) := by omega
          have hkl : (k : Int) < (xs.length : Int) := by omega
          by_cases hyx : y.id = x.id
          · have hyx' : (y.id == x.id) = true := by simpa using hyx
            have HY := Lib.hid hyx; clear hyx
            go_wp2
            go_quiet (fail)
            go_wp2
            go_ret
            exact ⟨ret_bool (hbad.out (by rw [hG.out, hI.out (by simp [HY.out])]; simp)).symm, below_drewN hbw _⟩
          · have hyx' : (y.id == x.id) = false := by simpa using hyx
            have HY := Lib.hid hyx; clear hyx
            go_wp2
            go_quiet (fail)
            go_wp2
            go_roundw
            case rel => exact ⟨m + 1, by omega, by go_num, below_drewN hbw _, by show _ = true; rw [hT.out, HA.out]; simpa using HY.out⟩
            case measure => simp [intOf]; omega
        · have hme : m = k := by omega
          have HE := Lib.hid hme; clear hme
          go_wp2
          go_roundw
          case rel =>
            refine ⟨k + 1, by omega, by go_num, hbw, fun j hj => ?_⟩
            by_cases hjk : j < k
            · exact HG.out j hjk
            · obtain rfl : j = k := by omega
              rw [hG.out, hcd'.out, ← HE.out, HA.out, hid'.out]; rfl
          case measure => simp [intOf]; omega
    · have hke : k = xs.length := by omega
      have HE := Lib.hid hke; clear hke
      go_wp2
      go_ret
      exact ⟨ret_bool (by
        by_cases h60 : xs.length ≤ 60
        · rw [okB_good h60 (by rw [← HE.out]; exact HG.out), decide_eq_true (by omega)]
        · rw [decide_eq_false (by omega)]; unfold okB; rw [decide_eq_false h60]; rfl), hbl⟩

end Go.Proofs.Ytiaepapdofcnjaa

namespace Go.Proofs.Ytiaepapdofcnjaa
open Go.RowKit

set_option maxHeartbeats 400000 in
theorem spec_l3Rank (v : Value) (xs : List ByteArray) (c : ByteArray) (w : World) (hv : rd w w.heap.size v xs) :
    Calls Try.prog 149 #[v, .string c] w fun e w' => e = .returned (.int .i64 (rkI xs c)) ∧ w = w' := by
  obtain ⟨A, n, cp, rfl, hn, hc, hm, hr⟩ := hv
  subst hn
  unfold maxLen at hm
  have HR := Lib.hid hr; clear hr
  go_enter Try.func149, Try.ntmps149
  go_wp2
  go_loop [5] (fun i => ∃ k : Nat, k ≤ xs.length ∧ i = .int .i64 k ∧ Hid (∀ j (h : j < xs.length), j < k → sEq xs[j] c = false)) (fun i => xs.length - (intOf i).toNat)
  case atStart => exact ⟨0, Nat.zero_le _, rfl, fun j _ hj => absurd hj (Nat.not_lt_zero j)⟩
  case round =>
    obtain ⟨k, hk, rfl, HG⟩ := hrel
    by_cases hlt : k < xs.length
    · obtain ⟨b, o, rfl, hb, hok, c1⟩ := HR.out.str k hlt
      have HX : Hid (∀ h : sEq xs[k] c = false, ∀ j (h1 : j < xs.length), j < k + 1 → sEq xs[j] c = false) := fun h j h1 hj => by
        by_cases hjk : j < k
        · exact HG.out j h1 hjk
        · obtain rfl : j = k := by omega
          exact h
      have HY : Hid (∀ h : sEq xs[k] c = true, rkI xs c = k) := fun h => by
        have e := rk_eq hlt (fun j hj => HG.out j (by omega) hj) h
        rw [rkI_pos (by omega), e]
      generalize xs[k] = x at *
      cases he : sEq x c
      · have he' := Lib.hid he
        have hq : (x.toList == c.toList) = false := he
        clear he
        go_wp2
        go_round
        case rel => exact ⟨k + 1, by omega, by go_num, HX.out he'.out⟩
        case measure => simp [intOf]; omega
      · have he' := Lib.hid he
        have hq : (x.toList == c.toList) = true := he
        clear he
        go_wp2
        go_ret
        exact ⟨ret_int (HY.out he'.out).symm, rfl⟩
    · have HE : Hid (rkI xs c = -1) := by
        have e := rk_none (cs := xs) (c := c) (fun j hj => HG.out j hj (by omega))
        exact rkI_neg (by omega)
      go_wp2
      go_ret
      exact ⟨ret_int HE.out.symm, rfl⟩

theorem spec_l3Ready (v vb : Value) (p : Pln) (xs : List Ltr) (w : World) (hv : rdP w w.heap.size v p) (hb : rd w w.heap.size vb xs) :
    Calls Try.prog 140 #[v, vb] w fun e w' => e = .returned (.bool (planOk p && okB xs)) ∧ Below w.heap.size w w' := by
  have hv0 := Lib.hid hv
  have hb0 := Lib.hid hb
  obtain ⟨vo, rfl, hi1, hi2, Ao, no, cpo, rfl, hno, hco, hmo, hro⟩ := hv
  subst hno
  clear hco hmo hro
  have hB : Below w.heap.size w (w.alloc (Obj.cells #[Value.int IntKind.i64 p.bins, Value.int IntKind.i64 p.passes, Value.slice Ao p.order.length cpo] 32)) := (Below.refl _ _).alloc (Nat.le_refl _) _
  have HB := Lib.hid hB; clear hB
  go_enter Try.func140, Try.ntmps140
  go_wp2_with fail
  refine (spec_PlanValid _ p _ (hv0.out.on HB.out)).mono ?_
  rintro e w1 ⟨rfl, b1⟩
  have B1 := HB.out.trans (b1.mono HB.out.size)
  cases hp : planOk p
  · have HP := Lib.hid hp; clear hp
    go_wp2_with fail
    go_ret
    exact ⟨ret_bool (by rw [HP.out]; rfl), B1⟩
  · have HP := Lib.hid hp; clear hp
    obtain ⟨r, HRR⟩ : ∃ r, Hid (okB xs = r) := ⟨_, rfl⟩
    go_wp2_with fail
    refine (spec_BatchValid _ xs _ (hb0.out.on B1)).mono ?_
    rintro e w2 ⟨rfl, b2⟩
    rw [HRR.out]
    go_wp2_with fail
    go_ret
    exact ⟨ret_bool (by rw [HP.out, HRR.out]; rfl), B1.trans (b2.mono B1.size)⟩

end Go.Proofs.Ytiaepapdofcnjaa

namespace Go.Proofs.Ytiaepapdofcnjaa
open Go.RowKit

theorem ordP {w : World} {B : Nat} {p : Pln} {A : Option Addr} {c : Nat} (h : rdP w B (.agg #[.int .i64 p.bins, .int .i64 p.passes, .slice A p.order.length c]) p) : rd w B (.slice A p.order.length c) p.order := by
  obtain ⟨vo, h1, _, _, h4⟩ := h
  injection h1 with h1
  injection h1 with h1
  simp only [List.cons.injEq, and_true, true_and] at h1
  subst h1
  exact h4
theorem indexS_is {v : Value} {xs : List ByteArray} {c : ByteArray} {r : Int} {w : World} (hv : rd w w.heap.size v xs) (h : rkI xs c = r) :
    Calls Try.prog 137 #[v, .string c] w fun e w' => e = .returned (.int .i64 r) ∧ w = w' := by
  rw [← h]; exact slices_IndexS v xs c w hv
theorem l3RankI_is {v : Value} {xs : List ByteArray} {c : ByteArray} {r : Int} {w : World} (hv : rd w w.heap.size v xs) (h : rkI xs c = r) :
    Calls Try.prog 149 #[v, .string c] w fun e w' => e = .returned (.int .i64 r) ∧ w = w' := by
  rw [← h]; exact spec_l3Rank v xs c w hv

set_option maxRecDepth 100000 in
set_option maxHeartbeats 800000 in
theorem impl_binOf (v : Value) (p : Pln) (c : ByteArray) (k : Nat) (w : World) (hv : rdP w w.heap.size v p) (h1 : 2 ≤ p.bins) (h2 : p.bins ≤ 16) (hk : k ≤ 4) (hl : p.order.length ≤ 1000) :
    Calls Try.prog 75 #[v, .string c, .int .i64 k] w fun e w' => e = .returned (.int .i64 (binI p c k)) ∧ Below w.heap.size w w' := by
  obtain ⟨A0, c0, e0⟩ := openP hv
  obtain ⟨w0, hw0⟩ : ∃ w0, w0 = w.alloc (Obj.cells #[.int .i64 p.bins, .int .i64 p.passes, .slice A0 p.order.length c0] 32) := ⟨_, rfl⟩
  have q0 := box_cells hw0 0 (.int .i64 p.bins) rfl
  have q1 := box_cells hw0 1 (.int .i64 p.passes) rfl
  have q2 := box_cells hw0 2 (.slice A0 p.order.length c0) rfl
  have HT := Lib.hid (box_later hw0).1
  have HP := Lib.hid (hv.on HT.out)
  subst e0
  have HO := Lib.hid (ordP HP.out)
  have HW0 := Lib.hid hw0; clear hw0 hv
  have l0 := Below.refl w0.heap.size w0
  obtain ⟨r, HRR⟩ : ∃ r, Hid (rkI p.order c = r) := ⟨_, rfl⟩
  obtain ⟨q, HQ⟩ : ∃ q, Hid (powI p.bins k = q) := ⟨_, rfl⟩
  obtain ⟨qa, qb⟩ := powI_bounds h1 h2 k hk
  rw [HQ.out] at qa qb
  obtain ⟨ra, rb⟩ := rkI_range p.order c
  rw [HRR.out] at ra rb
  have C2 := Lib.hid (fun w => impl_binPower p.bins k w h1 h2 hk)
  go_enter Try.func75, Try.ntmps75
  go_wp2_with fail
  rw [← HW0.out]
  refine (indexS_is HO.out HRR.out).mono ?_
  rintro e w1 ⟨rfl, rfl⟩
  by_cases hr : r < 0
  · go_wp2_with fail
    go_ret
    exact ⟨ret_int (by rw [binI_neg (by rw [HRR.out]; exact hr)]), HT.out⟩
  have hr0 : 0 ≤ r := by omega
  have HE : Hid (binI p c k = r / q % p.bins) := by show _ = _; rw [binI_pos (by rw [HRR.out]; omega), HRR.out, HQ.out]
  have C3 : Hid (∀ w : World, Calls Try.prog 138 #[.int .i64 p.bins, .int .i64 k] w fun e w' => e = .returned (.int .i64 q) ∧ w = w') := fun w => by
    have h := C2.out w
    rw [HQ.out] at h
    exact h
  have hq0 : (q == 0) = false := beq_eq_false_iff_ne.2 (by omega)
  have hb0 : (p.bins == 0) = false := beq_eq_false_iff_ne.2 (by omega)
  have hq1 : ¬ q = 0 := by omega
  have hb1 : ¬ p.bins = 0 := by omega
  have d0 : 0 ≤ r / q := Int.ediv_nonneg hr0 (by omega)
  have d1 : r / q ≤ 1000 := by
    have := Int.ediv_le_self q hr0
    omega
  have m0 : 0 ≤ r / q % p.bins := Int.emod_nonneg _ hb1
  have m1 : r / q % p.bins < p.bins := Int.emod_lt_of_pos _ (by omega)
  go_wp2
  go_quiet (first | (go_at_call 138; refine quiet_c (C3.out _)))
  have t1 : r.tdiv q = r / q := Int.tdiv_eq_ediv_of_nonneg hr0
  have t2 : (r / q).tmod p.bins = r / q % p.bins := Int.tmod_eq_emod_of_nonneg d0
  have HT1 := Lib.hid t1; have HT2 := Lib.hid t2
  clear t1 t2 hq0 hb0 hq1 hb1
  go_wp2
  go_ret
  exact ⟨ret_int (by rw [HE.out]), later_trans HT.out (below_drewN l0 _)⟩

set_option maxRecDepth 100000 in
set_option maxHeartbeats 800000 in
theorem spec_l3Bin (v : Value) (p : Pln) (c : ByteArray) (k : Nat) (w : World) (hv : rdP w w.heap.size v p) (h1 : 2 ≤ p.bins) (h2 : p.bins ≤ 16) (hk : k ≤ 4) (hl : p.order.length ≤ 1000) :
    Calls Try.prog 143 #[v, .string c, .int .i64 k] w fun e w' => e = .returned (.int .i64 (binI p c k)) ∧ Below w.heap.size w w' := by
  obtain ⟨A0, c0, e0⟩ := openP hv
  obtain ⟨w0, hw0⟩ : ∃ w0, w0 = w.alloc (Obj.cells #[.int .i64 p.bins, .int .i64 p.passes, .slice A0 p.order.length c0] 32) := ⟨_, rfl⟩
  have q0 := box_cells hw0 0 (.int .i64 p.bins) rfl
  have q1 := box_cells hw0 1 (.int .i64 p.passes) rfl
  have q2 := box_cells hw0 2 (.slice A0 p.order.length c0) rfl
  have HT := Lib.hid (box_later hw0).1
  have HP := Lib.hid (hv.on HT.out)
  subst e0
  have HO := Lib.hid (ordP HP.out)
  have HW0 := Lib.hid hw0; clear hw0 hv
  have l0 := Below.refl w0.heap.size w0
  obtain ⟨r, HRR⟩ : ∃ r, Hid (rkI p.order c = r) := ⟨_, rfl⟩
  obtain ⟨q, HQ⟩ : ∃ q, Hid (powI p.bins k = q) := ⟨_, rfl⟩
  obtain ⟨qa, qb⟩ := powI_bounds h1 h2 k hk
  rw [HQ.out] at qa qb
  obtain ⟨ra, rb⟩ := rkI_range p.order c
  rw [HRR.out] at ra rb
  have C2 := Lib.hid (fun w => spec_l3Power p.bins k w h1 h2 hk)
  go_enter Try.func143, Try.ntmps143
  go_wp2_with fail
  rw [← HW0.out]
  refine (l3RankI_is HO.out HRR.out).mono ?_
  rintro e w1 ⟨rfl, rfl⟩
  by_cases hr : r < 0
  · go_wp2_with fail
    go_ret
    exact ⟨ret_int (by rw [binI_neg (by rw [HRR.out]; exact hr)]), HT.out⟩
  have hr0 : 0 ≤ r := by omega
  have HE : Hid (binI p c k = r / q % p.bins) := by show _ = _; rw [binI_pos (by rw [HRR.out]; omega), HRR.out, HQ.out]
  have C3 : Hid (∀ w : World, Calls Try.prog 185 #[.int .i64 p.bins, .int .i64 k] w fun e w' => e = .returned (.int .i64 q) ∧ w = w') := fun w => by
    have h := C2.out w
    rw [HQ.out] at h
    exact h
  have hq0 : (q == 0) = false := beq_eq_false_iff_ne.2 (by omega)
  have hb0 : (p.bins == 0) = false := beq_eq_false_iff_ne.2 (by omega)
  have hq1 : ¬ q = 0 := by omega
  have hb1 : ¬ p.bins = 0 := by omega
  have d0 : 0 ≤ r / q := Int.ediv_nonneg hr0 (by omega)
  have d1 : r / q ≤ 1000 := by
    have := Int.ediv_le_self q hr0
    omega
  have m0 : 0 ≤ r / q % p.bins := Int.emod_nonneg _ hb1
  have m1 : r / q % p.bins < p.bins := Int.emod_lt_of_pos _ (by omega)
  go_wp2
  go_quiet (first | (go_at_call 185; refine quiet_c (C3.out _)))
  have t1 : r.tdiv q = r / q := Int.tdiv_eq_ediv_of_nonneg hr0
  have t2 : (r / q).tmod p.bins = r / q % p.bins := Int.tmod_eq_emod_of_nonneg d0
  have HT1 := Lib.hid t1; have HT2 := Lib.hid t2
  clear t1 t2 hq0 hb0 hq1 hb1
  go_wp2
  go_ret
  exact ⟨ret_int (by rw [HE.out]), later_trans HT.out (below_drewN l0 _)⟩

theorem impl_passValid (v : Value) (p : Pln) (k : Int) (w : World) (hv : rdP w w.heap.size v p) :
    Calls Try.prog 135 #[v, .int .i64 k] w fun e w' => e = .returned (.bool (passOk p k)) ∧ Below w.heap.size w w' := by
  obtain ⟨A0, c0, e0⟩ := openP hv
  obtain ⟨w0, hw0⟩ : ∃ w0, w0 = w.alloc (Obj.cells #[.int .i64 p.bins, .int .i64 p.passes, .slice A0 p.order.length c0] 32) := ⟨_, rfl⟩
  have q0 := box_cells hw0 0 (.int .i64 p.bins) rfl
  have q1 := box_cells hw0 1 (.int .i64 p.passes) rfl
  have q2 := box_cells hw0 2 (.slice A0 p.order.length c0) rfl
  have HT := Lib.hid (box_later hw0).1
  have HP := Lib.hid (hv.on HT.out)
  subst e0
  have HO := Lib.hid (ordP HP.out)
  have HW0 := Lib.hid hw0; clear hw0 hv
  have l0 := Below.refl w0.heap.size w0
  have HQ : Hid (passOk p k = (planOk p && (decide (0 ≤ k) && decide (k < p.passes)))) := rfl
  go_enter Try.func135, Try.ntmps135
  go_wp2_with fail
  rw [← HW0.out]
  refine (impl_PlanValid _ p _ HP.out).mono ?_
  rintro e w1 ⟨rfl, b1⟩
  have l1 := later_trans l0 b1
  cases h1 : planOk p
  · have H1 := Lib.hid h1; clear h1
    go_wp2_with fail
    go_ret
    exact ⟨ret_bool (by rw [HQ.out, H1.out]; rfl), later_trans HT.out l1⟩
  have H1 := Lib.hid h1; clear h1
  by_cases h2 : 0 ≤ k
  · by_cases h3 : k < p.passes
    · have H2 := Lib.hid (decide_eq_true h2); have H3 := Lib.hid (decide_eq_true h3)
      go_wp2_with fail
      go_ret
      exact ⟨ret_bool (by rw [HQ.out, H1.out, H2.out, H3.out]; rfl), later_trans HT.out l1⟩
    · have H2 := Lib.hid (decide_eq_true h2); have H3 := Lib.hid (decide_eq_false h3)
      have h3' := decide_eq_false h3
      go_wp2_with fail
      go_ret
      exact ⟨ret_bool (by rw [HQ.out, H1.out, H2.out, H3.out]; rfl), later_trans HT.out l1⟩
  · have H2 := Lib.hid (decide_eq_false h2)
    have h2' := decide_eq_false h2
    go_wp2_with fail
    go_ret
    exact ⟨ret_bool (by rw [HQ.out, H1.out, H2.out]; rfl), later_trans HT.out l1⟩

theorem Try.infoRow : (Try.prog.info? 29).map (fun i => (i.zero, i.size, i.bytes)) = some (some (.slice none 0 0), 1, 24) := by kernel_rfl

set_option maxHeartbeats 800000 in
theorem impl_joinBins (v : Value) (xss : List (List Ltr)) (w : World) (hv : rd w w.heap.size v xss) (hl : xss.flatten.length ≤ 1048576) :
    Calls Try.prog 91 #[v] w fun e w' => ∃ v', e = .returned v' ∧ own 103 w.heap.size w' v' xss.flatten ∧ Below w.heap.size w w' := by
  obtain ⟨A, n, c, rfl, hn, hc, hm, hr⟩ := hv
  subst hn
  unfold maxLen at hm
  have HR := Lib.hid hr; clear hr
  have l0 := Below.refl w.heap.size w
  have HL := Lib.hid hl; clear hl
  obtain ⟨i0, hi, hz0, hz1, hz2⟩ := info_parts Try.infoLtr
  go_enter Try.func91, Try.ntmps91
  go_wp2
  go_loopw [3, 8] (fun t i wr => ∃ k : Nat, k ≤ xss.length ∧ i = .int .i64 k ∧ Below w.heap.size w wr ∧ own 103 w.heap.size wr t (xss.take k).flatten) (fun _ i _ => xss.length - (intOf i).toNat)
  case atStart => exact ⟨0, Nat.zero_le _, rfl, l0, own.nil_ _ _ _⟩
  case round =>
    obtain ⟨k, hk, rfl, lr, ho⟩ := hrel
    obtain ⟨w1, rfl⟩ : ∃ w1 : World, w1 = wr := ⟨_, rfl⟩
    clear l0
    by_cases hlt : k < xss.length
    · obtain ⟨b, o, u, rfl, hb, hu, c1⟩ := HR.out.rowU k hlt
      have HS : Hid ((xss.take (k + 1)).flatten = (xss.take k).flatten ++ xss[k]) := by show _ = _; rw [List.take_succ_eq_append_getElem hlt, List.flatten_append]; simp
      have HLB : Hid ((xss.take k).flatten.length + xss[k].length ≤ 1048576) := by
        show _ ≤ _
        rw [← List.length_append, ← HS.out]
        have : (xss.take (k + 1)).flatten.length ≤ xss.flatten.length := by
          conv => rhs; rw [← List.take_append_drop (k + 1) xss, List.flatten_append, List.length_append]
          omega
        have := HL.out
        omega
      generalize xss[k] = ys at *
      obtain ⟨A2, m2, c2, rfl, hm2, hc2, hmm2, hr2⟩ := hu
      have hu : rd w w.heap.size (.slice A2 m2 c2) ys := ⟨A2, m2, c2, rfl, hm2, hc2, hmm2, hr2⟩
      clear hm2 hc2 hmm2 hr2
      have HU := Lib.hid hu; clear hu
      generalize hys : (xss.take k).flatten = zs at *
      have HYS := Lib.hid hys; clear hys
      have ho' := Lib.hid ho
      obtain ⟨A3, m3, c3, rfl, hm3, _, _, _⟩ := ho.rd
      subst hm3
      clear ho
      have hbd := HLB.out
      go_wp2_with (at_builtin; refine wpList_appendAll (α := Ltr) rfl (.tmp 12) (.tmp 13) 29 rfl w.heap.size 103 i0 _ 24 Try.underlying29 hi hz0 hz1 hz2 rfl (by decide) (.slice A3 zs.length c3) zs rfl ho'.out (.slice A2 m2 c2) ys rfl w1.heap.size (HU.out.on lr) (by have := HLB.out; unfold maxLen; omega) (by have := HLB.out; omega) lr.size ?_; intro v' w2 ho2 hg2 _)
      have l2 : Below w.heap.size w w2 := lr.trans (below_append ho'.out hg2 lr.size)
      go_wp2
      go_roundw
      case rel => exact ⟨k + 1, by omega, by go_num, l2, by rw [HS.out]; exact ho2⟩
      case measure => simp [intOf]; omega
    · have HE := Lib.hid (show k = xss.length by omega)
      go_wp2
      go_ret
      exact ⟨_, rfl, by rw [HE.out, List.take_length] at ho; exact ho, lr⟩

end Go.Proofs.Ytiaepapdofcnjaa
