/- K4 -/
import Derived.Test.YtekjjgnokjhleaaQ7
namespace Go.Proofs.Ytekjjgnokjhleaa
open Go.RowKit

/-- The index of the first missort with id c; -1 if there is none. -/
def ixI (ms : List Mis) (c : Int) : Int := if ms.findIdx (fun y => y.id == c) < ms.length then (ms.findIdx (fun y => y.id == c) : Int) else -1
theorem ixI_hit {ms : List Mis} {c : Int} {k : Nat} (hk : k < ms.length) (h1 : ∀ j (hj : j < k), (ms[j].id == c) = false) (h2 : (ms[k].id == c) = true) : ixI ms c = k := by
  have e : ms.findIdx (fun y => y.id == c) = k := (List.findIdx_eq hk).2 ⟨h2, h1⟩
  unfold ixI
  rw [e, if_pos hk]
theorem ixI_none {ms : List Mis} {c : Int} (h : ∀ j (hj : j < ms.length), (ms[j].id == c) = false) : ixI ms c = -1 := by
  have e : ms.findIdx (fun y => y.id == c) = ms.length := List.findIdx_eq_length.2 fun x hx => by
    obtain ⟨j, hj, rfl⟩ := List.getElem_of_mem hx
    exact h j hj
  unfold ixI
  rw [e, if_neg (by omega)]
/-- Its own index is found first exactly if no earlier one bears its id. -/
theorem ixI_own {ms : List Mis} {k : Nat} (hk : k < ms.length) : (ixI ms ms[k].id == (k : Int)) = (ms.take k).all (fun y => y.id != ms[k].id) := by
  rw [Bool.eq_iff_iff, List.all_eq_true]
  constructor
  · intro h x hx
    obtain ⟨j, hj, rfl⟩ := List.getElem_of_mem hx
    rw [List.length_take] at hj
    have hjk : j < k := by omega
    rw [List.getElem_take]
    have h' : ixI ms ms[k].id = (k : Int) := by simpa using h
    unfold ixI at h'
    split at h'
    · have e : ms.findIdx (fun y => y.id == ms[k].id) = k := by omega
      have := ((List.findIdx_eq hk).1 e).2 j hjk
      simpa using this
    · omega
  · intro h
    rw [ixI_hit hk (fun j hj => by
      have := h ms[j] (by rw [List.mem_take_iff_getElem]; exact ⟨j, by omega, rfl⟩)
      simpa using this) (by simp)]
    simp

set_option maxHeartbeats 400000 in
theorem spec_l7Index (v : Value) (ms : List Mis) (c : Int) (w : World) (hv : rd w w.heap.size v ms) :
    Calls Try.prog 64 #[v, .int .i64 c] w fun e w' => e = .returned (.int .i64 (ixI ms c)) ∧ w = w' := by
  obtain ⟨A, n, cp, rfl, hn, hc, hm, hr⟩ := hv
  subst hn
  unfold maxLen at hm
  have HR := Lib.hid hr; clear hr
  go_enter Try.func64, Try.ntmps64
  go_wp2
  go_loop [5] (fun i => ∃ k : Nat, k ≤ ms.length ∧ i = .int .i64 k ∧ Hid (∀ j (h : j < ms.length), j < k → (ms[j].id == c) = false)) (fun i => ms.length - (intOf i).toNat)
  case atStart => exact ⟨0, Nat.zero_le _, rfl, fun j _ hj => absurd hj (Nat.not_lt_zero j)⟩
  case round =>
    obtain ⟨k, hk, rfl, HG⟩ := hrel
    by_cases hlt : k < ms.length
    · obtain ⟨b, o, rfl, hb, ⟨o1, o2⟩, c1, c2⟩ := HR.out.mis k hlt
      have HX : Hid (∀ h : (ms[k].id == c) = false, ∀ j (h1 : j < ms.length), j < k + 1 → (ms[j].id == c) = false) := fun h j h1 hj => by
        by_cases hjk : j < k
        · exact HG.out j h1 hjk
        · obtain rfl : j = k := by omega
          exact h
      have HY : Hid (∀ h : (ms[k].id == c) = true, ixI ms c = k) := fun h => ixI_hit hlt (fun j hj => HG.out j (by omega) hj) h
      generalize ms[k] = x at *
      cases he : (x.id == c)
      · have he' := Lib.hid he
        go_wp2
        go_round
        case rel => exact ⟨k + 1, by omega, by go_num, HX.out he'.out⟩
        case measure => simp [intOf]; omega
      · have he' := Lib.hid he
        go_wp2
        go_ret
        exact ⟨ret_int (HY.out he'.out).symm, rfl⟩
    · have HE : Hid (ixI ms c = -1) := ixI_none (fun j hj => HG.out j hj (by omega))
      go_wp2
      go_ret
      exact ⟨ret_int HE.out.symm, rfl⟩

theorem l1In_is {n a b : Int} {r : Bool} {w : World} (h : (decide (a ≤ n) && decide (n ≤ b)) = r) : Calls Try.prog 63 #[.int .i64 n, .int .i64 a, .int .i64 b] w fun e w' => e = .returned (.bool r) ∧ w = w' := by
  rw [← h]; exact spec_l1In n a b w
theorem l7Index_is {v : Value} {ms : List Mis} {c r : Int} {w : World} (hv : rd w w.heap.size v ms) (h : ixI ms c = r) : Calls Try.prog 64 #[v, .int .i64 c] w fun e w' => e = .returned (.int .i64 r) ∧ w = w' := by
  rw [← h]; exact spec_l7Index v ms c w hv
theorem misOk_of_bad {p : Pln} {ms : List Mis} {k : Nat} (hk : k < ms.length) (h : planOk p = true → goodM p.bins ms k = false) : misOk p ms = false := by
  cases hp : planOk p
  · exact misOk_plan hp
  · exact misOk_bad hk (h hp)

set_option maxHeartbeats 1600000 in
theorem spec_MissortsValid (v vm : Value) (p : Pln) (ms : List Mis) (w : World) (hv : rdP w w.heap.size v p) (hvm : rd w w.heap.size vm ms) :
    Calls Try.prog 17 #[v, vm] w fun e w' => e = .returned (.bool (misOk p ms)) ∧ Below w.heap.size w w' := by
  have hv0 := Lib.hid hv
  have hm0 := Lib.hid hvm
  obtain ⟨vo, rfl, hi1, hi2, Ao, no, cpo, rfl, hno, hco, hmo, hro⟩ := hv
  subst hno
  clear hco hmo hro
  obtain ⟨A, n, cp, rfl, hn, hc, hm, hr⟩ := hvm
  subst hn
  unfold maxLen at hm
  have HR := Lib.hid hr; clear hr
  obtain ⟨M, HM⟩ : ∃ M, IntKind.i64.wrap (p.bins - 1) = M := ⟨_, rfl⟩
  have HMB : Hid (planOk p = true → M = p.bins - 1) := fun h => by
    have hb := (planOk_iff.1 h).1
    rw [← HM]
    exact IntWalk.i64_in _ (by omega)
  go_enter Try.func17, Try.ntmps17
  go_wp2
  go_loopw [5] (fun i wr => ∃ k : Nat, k ≤ ms.length ∧ i = .int .i64 k ∧ Below w.heap.size w wr ∧ (wr.cell? ⟨w.heap.size, 0, none⟩ = some (.int .i64 p.bins) ∧ wr.cell? ⟨w.heap.size, 1, none⟩ = some (.int .i64 p.passes) ∧ wr.cell? ⟨w.heap.size, 2, none⟩ = some (.slice Ao p.order.length cpo)) ∧ Hid (planOk p = true → ∀ j, j < k → goodM p.bins ms j = true)) (fun i _ => ms.length - (intOf i).toNat)
  case atStart => exact ⟨0, Nat.zero_le _, rfl, (Below.refl _ _).alloc (Nat.le_refl _) _, ⟨by go_simp, by go_simp, by go_simp⟩, fun _ j hj => absurd hj (Nat.not_lt_zero j)⟩
  case round =>
    obtain ⟨k, hk, rfl, hbl, ⟨g0, g1, g2⟩, HG⟩ := hrel
    obtain ⟨w1, rfl⟩ : ∃ w1 : World, w1 = wr := ⟨_, rfl⟩
    have hsz := hbl.size
    by_cases hlt : k < ms.length
    · obtain ⟨b, o, rfl, hb, ⟨o1, o2⟩, c1, c2⟩ := HR.out.mis k hlt
      have hG := Lib.hid (goodM_of (bins := p.bins) hlt)
      have hO := Lib.hid (ixI_own hlt)
      have hbad := Lib.hid (fun h => misOk_of_bad (p := p) hlt h)
      generalize ms[k] = x at *
      have c1' : w1.cell? ⟨b, o + k * 2, none⟩ = some (.int .i64 x.id) := (hbl.cell (p := ⟨b, o + k * 2, none⟩) hb).trans c1
      have c2' : w1.cell? ⟨b, o + k * 2 + 1, none⟩ = some (.int .i64 x.bin) := (hbl.cell (p := ⟨b, o + k * 2 + 1, none⟩) hb).trans c2
      clear c1 c2
      have hkl : (k : Int) < (ms.length : Int) := by omega
      have HMS := Lib.hid (fun n => (hm0.out.on hbl).on (below_drewN (Below.refl _ _) n))
      cases h1 : (decide (0 ≤ x.bin) && decide (x.bin ≤ M))
      · have H1 := Lib.hid h1; clear h1
        have C1 := Lib.hid (fun w => l1In_is (w := w) H1.out)
        go_wp2
        go_quiet (first | (go_at_call 63; refine quiet_c (C1.out _)))
        go_wp2
        go_ret
        exact ⟨ret_bool (hbad.out fun hp => by
          have e := HMB.out hp
          have := H1.out
          rw [e] at this
          rw [hG.out, show decide (x.bin < p.bins) = decide (x.bin ≤ p.bins - 1) from by rw [decide_eq_decide]; omega, this]; simp).symm, below_drewN hbl _⟩
      have H1 := Lib.hid h1; clear h1
      have C1 := Lib.hid (fun w => l1In_is (w := w) H1.out)
      cases h2 : (decide (1 ≤ x.id) && decide (x.id ≤ 9999))
      · have H2 := Lib.hid h2; clear h2
        have C2 := Lib.hid (fun w => l1In_is (w := w) H2.out)
        go_wp2
        go_quiet (first | (go_at_call 63; first | with_reducible refine quiet_c (C1.out _) | with_reducible refine quiet_c (C2.out _)))
        go_wp2
        go_ret
        exact ⟨ret_bool (hbad.out fun hp => by rw [hG.out, H2.out]; rfl).symm, below_drewN hbl _⟩
      have H2 := Lib.hid h2; clear h2
      have C2 := Lib.hid (fun w => l1In_is (w := w) H2.out)
      obtain ⟨q, HQ⟩ : ∃ q, Hid (ixI ms x.id = q) := ⟨_, rfl⟩
      have C3 := Lib.hid (fun n => l7Index_is (HMS.out n) HQ.out)
      cases h3 : (q == (k : Int))
      · have H3 := Lib.hid h3
        have h3' : (q != (k : Int)) = true := by rw [bne, h3]; rfl
        clear h3
        go_wp2
        go_quiet (first | (go_at_call 63; first | with_reducible refine quiet_c (C1.out _) | with_reducible refine quiet_c (C2.out _)) | (go_at_call 64; refine quiet_c (C3.out _)))
        go_wp2
        go_ret
        exact ⟨ret_bool (hbad.out fun hp => by rw [hG.out, ← hO.out, HQ.out, H3.out]; simp).symm, below_drewN hbl _⟩
      · have H3 := Lib.hid h3
        have h3' : (q != (k : Int)) = false := by rw [bne, h3]; rfl
        clear h3
        go_wp2
        go_quiet (first | (go_at_call 63; first | with_reducible refine quiet_c (C1.out _) | with_reducible refine quiet_c (C2.out _)) | (go_at_call 64; refine quiet_c (C3.out _)))
        go_wp2
        go_roundw
        case rel =>
          refine ⟨k + 1, by omega, by go_num, below_drewN hbl _, ⟨by go_simp, by go_simp, by go_simp⟩, fun hp j hj => ?_⟩
          by_cases hjk : j < k
          · exact HG.out hp j hjk
          · obtain rfl : j = k := by omega
            have e := HMB.out hp
            have := H1.out
            rw [e] at this
            rw [hG.out, show decide (x.bin < p.bins) = decide (x.bin ≤ p.bins - 1) from by rw [decide_eq_decide]; omega, this, H2.out, ← hO.out, HQ.out, H3.out]; rfl
        case measure => simp [intOf]; omega
    · have HE := Lib.hid (show k = ms.length by omega)
      go_wp2_with fail
      refine (spec_PlanValid _ p _ (hv0.out.on hbl)).mono ?_
      rintro e w2 ⟨rfl, b2⟩
      have B2 := hbl.trans (b2.mono hbl.size)
      cases hp : planOk p
      · have HP := Lib.hid hp; clear hp
        go_wp2_with fail
        go_ret
        exact ⟨ret_bool (misOk_plan HP.out).symm, B2⟩
      · have HP := Lib.hid hp; clear hp
        by_cases h60 : (ms.length : Int) ≤ 60
        · have H60 := Lib.hid h60
          go_wp2_with fail
          go_ret
          exact ⟨ret_bool (by rw [misOk_good HP.out (by have := H60.out; omega) (by rw [← HE.out]; exact HG.out HP.out)]), B2⟩
        · have H60 := Lib.hid (show ¬ ms.length ≤ 60 by omega)
          have H61 := Lib.hid (decide_eq_false h60)
          go_wp2_with fail
          go_ret
          exact ⟨ret_bool (by rw [misOk_len H60.out, H61.out]), B2⟩

set_option maxHeartbeats 1600000 in
theorem impl_MissortsValid (v vm : Value) (p : Pln) (ms : List Mis) (w : World) (hv : rdP w w.heap.size v p) (hvm : rd w w.heap.size vm ms) :
    Calls Try.prog 16 #[v, vm] w fun e w' => e = .returned (.bool (misOk p ms)) ∧ Below w.heap.size w w' := by
  have hv0 := Lib.hid hv
  obtain ⟨vo, rfl, hi1, hi2, Ao, no, cpo, rfl, hno, hco, hmo, hro⟩ := hv
  subst hno
  clear hco hmo hro
  obtain ⟨A, n, cp, rfl, hn, hc, hm, hr⟩ := hvm
  subst hn
  unfold maxLen at hm
  have HR := Lib.hid hr; clear hr
  have HW := Lib.hid (fun o => hv0.out.on ((Below.refl _ _).alloc (Nat.le_refl _) o))
  have hb0 : Below w.heap.size w (w.alloc (Obj.cells #[Value.int IntKind.i64 p.bins, Value.int IntKind.i64 p.passes, Value.slice Ao p.order.length cpo] 25)) := (Below.refl _ _).alloc (Nat.le_refl _) _
  have gb : (w.alloc (Obj.cells #[Value.int IntKind.i64 p.bins, Value.int IntKind.i64 p.passes, Value.slice Ao p.order.length cpo] 25)).cell? ⟨w.heap.size, 0, none⟩ = some (.int .i64 p.bins) := by go_simp
  have GB := Lib.hid gb; clear gb
  have HB0 := Lib.hid hb0; clear hb0
  have hz0 : (w.alloc (Obj.cells #[Value.int IntKind.i64 p.bins, Value.int IntKind.i64 p.passes, Value.slice Ao p.order.length cpo] 25)).heap.size = w.heap.size + 1 := by simp
  have HZ0 := Lib.hid hz0; clear hz0
  go_enter Try.func16, Try.ntmps16
  go_wp2_with fail
  refine (impl_PlanValid _ p _ (HW.out _)).mono ?_
  rintro e w0 ⟨rfl, b0⟩
  have B0 : Below w.heap.size w w0 := HB0.out.trans (b0.mono HB0.out.size)
  have g0 : w0.cell? ⟨w.heap.size, 0, none⟩ = some (.int .i64 p.bins) := (b0.cell (p := ⟨w.heap.size, 0, none⟩) (by rw [HZ0.out]; simp)).trans GB.out
  have hlv0 : w.heap.size < w0.heap.size := by have h := b0.size; rw [HZ0.out] at h; omega
  clear HW HZ0 GB HB0 b0
  cases hp : planOk p
  · have HP := Lib.hid hp; clear hp
    go_wp2_with fail
    go_ret
    exact ⟨ret_bool (misOk_plan HP.out).symm, B0⟩
  have HP := Lib.hid hp; clear hp
  by_cases h60 : (60 : Int) < (ms.length : Int)
  · have H60 := Lib.hid (show ¬ ms.length ≤ 60 by omega)
    go_wp2_with fail
    go_ret
    exact ⟨ret_bool (misOk_len H60.out).symm, B0⟩
  have h60' : ms.length ≤ 60 := by omega
  have H60 := Lib.hid h60'; clear h60'
  go_wp2_with fail
  go_loopw [19] (fun i wr => ∃ k : Nat, k ≤ ms.length ∧ i = .int .i64 k ∧ Below w.heap.size w wr ∧ wr.cell? ⟨w.heap.size, 0, none⟩ = some (.int .i64 p.bins) ∧ w.heap.size < wr.heap.size ∧ Hid (∀ j, j < k → goodM p.bins ms j = true)) (fun i _ => ms.length - (intOf i).toNat)
  case atStart => exact ⟨0, Nat.zero_le _, rfl, B0, g0, hlv0, fun j hj => absurd hj (Nat.not_lt_zero j)⟩
  case round =>
    obtain ⟨k, hk, rfl, hbl, g1, hlv, HG⟩ := hrel
    obtain ⟨w1, rfl⟩ : ∃ w1 : World, w1 = wr := ⟨_, rfl⟩
    have hsz := hbl.size
    clear g0 B0
    by_cases hlt : k < ms.length
    · obtain ⟨b, o, rfl, hb, ⟨o1, o2⟩, c1, c2⟩ := HR.out.mis k hlt
      have hG := Lib.hid (goodM_of (bins := p.bins) hlt)
      have hbad := Lib.hid (fun h => misOk_bad (p := p) hlt h)
      generalize hx : ms[k] = x at *
      clear hx
      have c1' : w1.cell? ⟨b, o + k * 2, none⟩ = some (.int .i64 x.id) := (hbl.cell (p := ⟨b, o + k * 2, none⟩) hb).trans c1
      have c2' : w1.cell? ⟨b, o + k * 2 + 1, none⟩ = some (.int .i64 x.bin) := (hbl.cell (p := ⟨b, o + k * 2 + 1, none⟩) hb).trans c2
      clear c1 c2
      by_cases h1 : x.id < 1
      · go_wp2
        go_ret
        exact ⟨ret_bool (hbad.out (by rw [hG.out]; simp; omega)).symm, hbl.alloc hsz _⟩
      by_cases h2 : 9999 < x.id
      · go_wp2
        go_ret
        exact ⟨ret_bool (hbad.out (by rw [hG.out]; simp; omega)).symm, hbl.alloc hsz _⟩
      by_cases h3 : x.bin < 0
      · go_wp2
        go_ret
        exact ⟨ret_bool (hbad.out (by rw [hG.out]; simp; omega)).symm, hbl.alloc hsz _⟩
      by_cases h4 : p.bins ≤ x.bin
      · go_wp2
        go_ret
        exact ⟨ret_bool (hbad.out (by rw [hG.out]; simp; omega)).symm, hbl.alloc hsz _⟩
      have h1' : 1 ≤ x.id := by omega
      have h2' : x.id ≤ 9999 := by omega
      have h3' : 0 ≤ x.bin := by omega
      have h4' : x.bin < p.bins := by omega
      have hgd : ((decide (1 ≤ x.id) && decide (x.id ≤ 9999)) && (decide (0 ≤ x.bin) && decide (x.bin < p.bins))) = true := by rw [decide_eq_true h1', decide_eq_true h2', decide_eq_true h3', decide_eq_true h4']; rfl
      have HGD := Lib.hid hgd; clear hgd
      go_wp2
      obtain ⟨wo, hwo⟩ : ∃ wo : World, wo = w1.alloc (Obj.cells #[Value.int IntKind.i64 x.id, Value.int IntKind.i64 x.bin] 32) := ⟨_, rfl⟩
      have g2 : wo.cell? ⟨w1.heap.size, 0, none⟩ = some (.int .i64 x.id) := by subst hwo; simp [go_sem]
      have g3 : wo.cell? ⟨w.heap.size, 0, none⟩ = some (.int .i64 p.bins) := by subst hwo; go_simp
      have hwz : wo.heap.size = w1.heap.size + 1 := by subst hwo; simp
      have hbo : Below w.heap.size w wo := by subst hwo; exact hbl.alloc hsz _
      rw [← hwo]
      have HZ := Lib.hid hwz
      have hwz2 : w1.heap.size < wo.heap.size := by omega
      clear hwo hwz
      go_loopw [48] (fun i wi => ∃ m : Nat, m ≤ k ∧ i = .int .i64 m ∧ Below wo.heap.size wo wi ∧ Hid ((ms.take m).all (fun y => y.id != x.id) = true)) (fun i _ => k - (intOf i).toNat)
      case atStart => exact ⟨0, Nat.zero_le _, rfl, Below.refl _ _, rfl⟩
      case round =>
        obtain ⟨m, hm, rfl, hbi, HA⟩ := hrel
        have hsi := hbi.size
        have hw2 := hbo.size
        have hw3 : w1.heap.size < wr.heap.size := by omega
        have hbw : Below w.heap.size w wr := hbo.trans (hbi.mono hw2)
        have g2' : wr.cell? ⟨w1.heap.size, 0, none⟩ = some (.int .i64 x.id) := (hbi.cell (p := ⟨w1.heap.size, 0, none⟩) hwz2).trans g2
        have g3' : wr.cell? ⟨w.heap.size, 0, none⟩ = some (.int .i64 p.bins) := (hbi.cell (p := ⟨w.heap.size, 0, none⟩) (by simp; omega)).trans g3
        clear g2 g3 g1
        by_cases hmk : m < k
        · obtain ⟨b', o', hA, _, ⟨p1, p2⟩, d1, d2⟩ := HR.out.mis m (by omega)
          have hT := Lib.hid (take_all_succ (p := fun y : Mis => y.id != x.id) ms m (by omega))
          have hI := Lib.hid (take_all_bad (p := fun y : Mis => y.id != x.id) ms m k (by omega) hmk)
          generalize ms[m] = y at *
          injection hA with hA
          injection hA with hA1 hA2
          subst hA1 hA2
          have d1' : wr.cell? ⟨b, o + m * 2, none⟩ = some (.int .i64 y.id) := (hbw.cell (p := ⟨b, o + m * 2, none⟩) hb).trans d1
          have d2' : wr.cell? ⟨b, o + m * 2 + 1, none⟩ = some (.int .i64 y.bin) := (hbw.cell (p := ⟨b, o + m * 2 + 1, none⟩) hb).trans d2
          clear d1 d2
          by_cases hyx : y.id = x.id
          · have hyx' : (y.id == x.id) = true := by simpa using hyx
            have HY := Lib.hid hyx; clear hyx
            go_wp2
            go_ret
            exact ⟨ret_bool (hbad.out (by rw [hG.out, hI.out (by simp [HY.out])]; simp)).symm, hbw.alloc (by omega) _⟩
          · have hyx' : (y.id == x.id) = false := by simpa using hyx
            have HY := Lib.hid hyx; clear hyx
            go_wp2
            go_roundw
            case rel => exact ⟨m + 1, by omega, by go_num, hbi.alloc hsi _, by show _ = true; rw [hT.out, HA.out]; simpa using HY.out⟩
            case measure => simp [intOf]; omega
        · have hme : m = k := by omega
          have HE := Lib.hid hme; clear hme
          go_wp2
          go_roundw
          case rel =>
            refine ⟨k + 1, by omega, by go_num, hbw, g3', by omega, fun j hj => ?_⟩
            by_cases hjk : j < k
            · exact HG.out j hjk
            · obtain rfl : j = k := by omega
              rw [hG.out, HGD.out, ← HE.out, HA.out]; rfl
          case measure => simp [intOf]; omega
    · have HE := Lib.hid (show k = ms.length by omega)
      go_wp2
      go_ret
      exact ⟨ret_bool (misOk_good HP.out H60.out (by rw [← HE.out]; exact HG.out)).symm, hbl⟩

end Go.Proofs.Ytekjjgnokjhleaa
