/- K1 K2 K3 K4 F1 -/
import Derived.Test.YtffbcfaahegglaaDoorQ1
import Derived.Test.YtffbcfaahegglaaDoorQ3
import Derived.Laws.MathBits
import Derived.Handy
import Derived.Deep.QuietTactic
import Derived.BigQuiet
import Derived.IntWalk
import Derived.Test.YtffbcfaahegglaaDoorQ2
namespace Go.Proofs.YtffbcfaahegglaaDoor
open Go.RowKit

theorem sEq_comm (s t : ByteArray) : sEq s t = sEq t s := by
  rw [Bool.eq_iff_iff, sEq_iff, sEq_iff]; exact eq_comm

end Go.Proofs.YtffbcfaahegglaaDoor

namespace Go.Proofs.YtffbcfaahegglaaDoor
open Go.RowKit

theorem all_rk (cs : List ByteArray) (c : ByteArray) : cs.all (fun d => !sEq d c) = !decide (0 ≤ rkI cs c) := by
  rw [Bool.eq_iff_iff, List.all_eq_true]
  constructor
  · intro h
    have : rk cs c = cs.length := rk_none fun j hj => by simpa using h _ (List.getElem_mem hj)
    rw [rkI_neg (by omega)]
    decide
  · intro h x hx
    obtain ⟨j, hj, rfl⟩ := List.getElem_of_mem hx
    have hn : ¬ 0 ≤ rkI cs c := by simpa using h
    have hk : ¬ rk cs c < cs.length := fun hlt => by rw [rkI_pos hlt] at hn; omega
    have := rk_before cs c j hj (by omega)
    simp [this]

end Go.Proofs.YtffbcfaahegglaaDoor

namespace Go.Proofs.YtffbcfaahegglaaDoor
open Go.RowKit

theorem quiet_c {P : Program} {f : FuncId} {args : Array Value} {w : World} {n : Nat} {v : Value}
    (h : Calls P f args (w.drewN n) fun e w' => e = .returned v ∧ w.drewN n = w') : Calls P f args (w.drewN n) fun e w'' => e = .returned v ∧ ∃ m, w'' = w.drewN m :=
  h.mono fun _ _ ⟨he, hm⟩ => ⟨he, n, hm.symm⟩

theorem spec_l3Shape (n p : Int) (w : World) : Calls Tryd.prog 137 #[.int .i64 n, .int .i64 p] w fun e w' => e = .returned (.bool (shapeOk n p)) ∧ w = w' := by
  have e0 : shapeOk n p = (decide (2 ≤ n) && decide (n ≤ 16) && (decide (1 ≤ p) && decide (p ≤ 4))) := rfl
  have E0 := Lib.hid e0; clear e0
  go_enter Tryd.func137, Tryd.ntmps137
  go_wp2_with fail
  refine (spec_l1In n 2 16 w).mono ?_
  rintro e w1 ⟨rfl, rfl⟩
  cases h1 : (decide (2 ≤ n) && decide (n ≤ 16))
  · have H1 := Lib.hid h1; clear h1
    go_wp2_with fail
    go_ret
    exact ⟨ret_bool (by rw [E0.out, H1.out]; rfl), rfl⟩
  · have H1 := Lib.hid h1; clear h1
    go_wp2_with fail
    refine (spec_l1In p 1 4 w).mono ?_
    rintro e w1 ⟨rfl, rfl⟩
    cases h2 : (decide (1 ≤ p) && decide (p ≤ 4))
    · have H2 := Lib.hid h2; clear h2
      go_wp2_with fail
      go_ret
      exact ⟨ret_bool (by rw [E0.out, H1.out, H2.out]; rfl), rfl⟩
    · have H2 := Lib.hid h2; clear h2
      go_wp2_with fail
      go_ret
      exact ⟨ret_bool (by rw [E0.out, H1.out, H2.out]; rfl), rfl⟩

set_option maxHeartbeats 400000 in
theorem spec_l3Power (b : Int) (n : Nat) (w : World) (h1 : 2 ≤ b) (h2 : b ≤ 16) (hn : n ≤ 4) :
    Calls Tryd.prog 138 #[.int .i64 b, .int .i64 n] w fun e w' => e = .returned (.int .i64 (powI b n)) ∧ w = w' := by
  go_enter Tryd.func138, Tryd.ntmps138
  go_wp2
  go_loop [5, 6] (fun t i => ∃ (k : Nat) (m : Int), k ≤ n ∧ i = .int .i64 k ∧ t = .int .i64 m ∧ 1 ≤ m ∧ m ≤ 65536 ∧ Hid (m = powI b k)) (fun _ i => n - (intOf i).toNat)
  case atStart => exact ⟨0, 1, Nat.zero_le _, rfl, rfl, by omega, by omega, rfl⟩
  case round =>
    obtain ⟨k, m, hk, rfl, rfl, m0, m1, HM⟩ := hrel
    by_cases hlt : k < n
    · obtain ⟨p1, p2⟩ := powI_bounds h1 h2 (k + 1) (by omega)
      have hp : powI b (k + 1) = m * b := by rw [HM.out]; rfl
      have HP := Lib.hid hp
      rw [hp] at p1 p2
      clear hp
      have hlm : ¬ (100000 : Int) < m * b := by omega
      go_wp2
      go_round
      case rel => exact ⟨k + 1, m * b, by omega, by go_num, by first | rfl | exact congrArg (Value.int .i64) (by omega), p1, p2, HP.out.symm⟩
      case measure => simp [intOf]; omega
    · have HE := Lib.hid (show k = n by omega)
      go_wp2
      go_ret
      exact ⟨ret_int (by rw [HM.out, HE.out]), rfl⟩

theorem powI_nonneg_conv {p : Int} (h : 0 ≤ p) : ((p.toNat : Nat) : Int) = p := Int.toNat_of_nonneg h

set_option maxHeartbeats 1600000 in
theorem spec_PlanValid (v : Value) (p : Pln) (w : World) (hv : rdP w w.heap.size v p) :
    Calls Tryd.prog 118 #[v] w fun e w' => e = .returned (.bool (planOk p)) ∧ Below w.heap.size w w' := by
  obtain ⟨vo, rfl, hi1, hi2, hr⟩ := hv
  have hr0 := hr
  obtain ⟨A, n, cp, rfl, hn, hc, hm, hra⟩ := hr
  subst hn
  unfold maxLen at hm
  have HRA := Lib.hid hra; clear hra
  have hrb := Lib.hid (fun o n => (hr0.on ((Below.refl _ _).alloc (Nat.le_refl _) o)).on (below_drewN (Below.refl _ _) n))
  clear hr0
  have hB : Below w.heap.size w (w.alloc (Obj.cells #[Value.int IntKind.i64 p.bins, Value.int IntKind.i64 p.passes, Value.slice A p.order.length cp] 89)) := (Below.refl _ _).alloc (Nat.le_refl _) _
  have HB := Lib.hid hB; clear hB
  have e0 : planOk p = (shapeOk p.bins p.passes && (decide (1 ≤ p.order.length) && decide (p.order.length ≤ 60)) && decide ((p.order.length : Int) ≤ powI p.bins p.passes.toNat) && codesOk p.order) := rfl
  have E0 := Lib.hid e0; clear e0
  cases hsh : shapeOk p.bins p.passes
  · have HS := Lib.hid hsh; clear hsh
    have HSc := Lib.hid (fun w => HS.out ▸ spec_l3Shape p.bins p.passes w)
    go_enter Tryd.func118, Tryd.ntmps118
    go_wp2
    go_quiet (first | (go_at_call 137; refine quiet_c (HSc.out _)))
    go_wp2
    go_ret
    exact ⟨ret_bool (by rw [E0.out, HS.out]; rfl), below_drewN HB.out _⟩
  have HS := Lib.hid hsh
  have HSc := Lib.hid (fun w => HS.out ▸ spec_l3Shape p.bins p.passes w)
  obtain ⟨q1, q2, q3, q4⟩ := shapeOk_iff.1 hsh
  clear hsh
  cases hln : (decide ((1 : Int) ≤ (p.order.length : Int)) && decide ((p.order.length : Int) ≤ 60))
  · have HL := Lib.hid hln; clear hln
    have HLc := Lib.hid (fun w => HL.out ▸ spec_l1In (p.order.length : Int) 1 60 w)
    have hln2 : (decide (1 ≤ p.order.length) && decide (p.order.length ≤ 60)) = false := by
      have := HL.out
      rw [Bool.and_eq_false_iff, decide_eq_false_iff_not, decide_eq_false_iff_not] at this ⊢
      omega
    have HL2 := Lib.hid hln2; clear hln2
    go_enter Tryd.func118, Tryd.ntmps118
    go_wp2
    go_quiet (first | (go_at_call 137; refine quiet_c (HSc.out _)) | (go_at_call 72; refine quiet_c (HLc.out _)))
    go_wp2
    go_ret
    exact ⟨ret_bool (by rw [E0.out, HL2.out]; simp), below_drewN HB.out _⟩
  have HL := Lib.hid hln
  have HLc := Lib.hid (fun w => HL.out ▸ spec_l1In (p.order.length : Int) 1 60 w)
  have hln2 : 1 ≤ p.order.length ∧ p.order.length ≤ 60 := by
    rw [Bool.and_eq_true, decide_eq_true_iff, decide_eq_true_iff] at hln
    omega
  clear hln
  obtain ⟨l1, l2⟩ := hln2
  have hl3 : (decide (1 ≤ p.order.length) && decide (p.order.length ≤ 60)) = true := by rw [decide_eq_true l1, decide_eq_true l2]; rfl
  have HL3 := Lib.hid hl3; clear hl3
  obtain ⟨q, HQ⟩ : ∃ q, Hid (powI p.bins p.passes.toNat = q) := ⟨_, rfl⟩
  have hpw : ∀ w : World, Calls Tryd.prog 138 #[.int .i64 p.bins, .int .i64 p.passes] w fun e w' => e = .returned (.int .i64 q) ∧ w = w' := fun w => by
    have := spec_l3Power p.bins p.passes.toNat w q1 q2 (by omega)
    rw [HQ.out, powI_nonneg_conv (by omega)] at this
    exact this
  have HPW := Lib.hid hpw; clear hpw
  by_cases h5 : (p.order.length : Int) ≤ q
  case neg =>
    have H5 := Lib.hid (decide_eq_false h5)
    have h5' : decide ((p.order.length : Int) > q) = true := decide_eq_true (by omega)
    clear h5
    go_enter Tryd.func118, Tryd.ntmps118
    go_wp2
    go_quiet (first | (go_at_call 137; refine quiet_c (HSc.out _)) | (go_at_call 72; refine quiet_c (HLc.out _)) | (go_at_call 138; refine quiet_c (HPW.out _)))
    go_wp2
    go_ret
    exact ⟨ret_bool (by rw [E0.out, HQ.out, H5.out]; simp), below_drewN HB.out _⟩
  have H5 := Lib.hid (decide_eq_true h5)
  have h5' : decide ((p.order.length : Int) > q) = false := decide_eq_false (by omega)
  clear h5
  have hsum : planOk p = codesOk p.order := by rw [E0.out, HS.out, HL3.out, HQ.out, H5.out]; rfl
  have HSUM := Lib.hid hsum; clear hsum
  go_enter Tryd.func118, Tryd.ntmps118
  go_wp2
  go_quiet (first | (go_at_call 137; refine quiet_c (HSc.out _)) | (go_at_call 72; refine quiet_c (HLc.out _)) | (go_at_call 138; refine quiet_c (HPW.out _)))
  clear h5' HPW HQ H5 HL HLc HSc HS E0 HL3 hrb
  have hB1 : Below w.heap.size w ((w.alloc (Obj.cells #[Value.int IntKind.i64 p.bins, Value.int IntKind.i64 p.passes, Value.slice A p.order.length cp] 89)).drewN nq) := below_drewN HB.out _
  have hc0 : ((w.alloc (Obj.cells #[Value.int IntKind.i64 p.bins, Value.int IntKind.i64 p.passes, Value.slice A p.order.length cp] 89)).drewN nq).cell? ⟨w.heap.size, 2, none⟩ = some (.slice A p.order.length cp) := by go_simp
  clear HB
  generalize ((w.alloc (Obj.cells #[Value.int IntKind.i64 p.bins, Value.int IntKind.i64 p.passes, Value.slice A p.order.length cp] 89)).drewN nq) = w0 at *
  generalize p.order = cs at *
  go_wp2
  go_loopw [3] (fun i wr => ∃ k : Nat, k ≤ cs.length ∧ i = .int .i64 k ∧ Below w.heap.size w wr ∧ wr.cell? ⟨w.heap.size, 2, none⟩ = some (.slice A cs.length cp) ∧ Hid (∀ j, j < k → goodC cs j = true)) (fun i _ => cs.length - (intOf i).toNat)
  case atStart => exact ⟨0, Nat.zero_le _, rfl, hB1, hc0, fun j hj => absurd hj (Nat.not_lt_zero j)⟩
  case round =>
    obtain ⟨k, hk, rfl, hbl, hcx, HG⟩ := hrel
    obtain ⟨w1, rfl⟩ : ∃ w1 : World, w1 = wr := ⟨_, rfl⟩
    have hsz := hbl.size
    clear hB1 hc0
    by_cases hlt : k < cs.length
    · obtain ⟨b, o, rfl, hb, hok, c1⟩ := HRA.out.str k hlt
      have hG := Lib.hid (goodC_of hlt)
      have hbad := Lib.hid (fun h => codesOk_bad hlt h)
      generalize hx : cs[k] = c at *
      have HXK := Lib.hid hx; clear hx
      have c1' : w1.cell? ⟨b, o + k, none⟩ = some (.string c) := (hbl.cell (p := ⟨b, o + k, none⟩) hb).trans c1
      cases hcd : isCode c
      · have hcd' := Lib.hid hcd; clear hcd
        go_wp2_with (go_at_call 71; refine (spec_CodeValid _ _ hok).mono ?_; rw [hcd'.out]; rintro e w' ⟨rfl, rfl⟩)
        go_ret
        exact ⟨ret_bool (by rw [HSUM.out]; exact (hbad.out (by rw [hG.out, hcd'.out]; rfl)).symm), hbl⟩
      have hcd' := Lib.hid hcd; clear hcd
      go_wp2_with (go_at_call 71; refine (spec_CodeValid _ _ hok).mono ?_; rw [hcd'.out]; rintro e w' ⟨rfl, rfl⟩)
      go_loopw [4] (fun i wr => ∃ m : Nat, m ≤ k ∧ i = .int .i64 m ∧ Below w.heap.size w wr ∧ wr.cell? ⟨w.heap.size, 2, none⟩ = some (.slice (some ⟨b, o, none⟩) cs.length cp) ∧ Hid ((cs.take m).all (fun y => !sEq y c) = true)) (fun i _ => k - (intOf i).toNat)
      case atStart => exact ⟨0, Nat.zero_le _, rfl, hbl, hcx, rfl⟩
      case round =>
        obtain ⟨m, hm', rfl, hbw, hcw, HA⟩ := hrel
        have hsi := hbw.size
        clear c1' hcx
        have c1' : wr.cell? ⟨b, o + k, none⟩ = some (.string c) := (hbw.cell (p := ⟨b, o + k, none⟩) hb).trans c1
        by_cases hmk : m < k
        · obtain ⟨b', o', hA, _, _, d1⟩ := HRA.out.str m (by omega)
          have hT := Lib.hid (take_all_succ (p := fun y : ByteArray => !sEq y c) cs m (by omega))
          have hI := Lib.hid (take_all_bad (p := fun y : ByteArray => !sEq y c) cs m k (by omega) hmk)
          generalize cs[m] = y at *
          injection hA with hA
          injection hA with hA1 hA2
          subst hA1 hA2
          have d1' : wr.cell? ⟨b, o + m, none⟩ = some (.string y) := (hbw.cell (p := ⟨b, o + m, none⟩) hb).trans d1
          clear d1 c1
          have hml : (m : Int) < (cs.length : Int) := by omega
          have hkl : (k : Int) < (cs.length : Int) := by omega
          cases hyx : sEq y c
          · have HY := Lib.hid hyx
            have hyx' : (y.toList == c.toList) = false := hyx
            clear hyx
            go_wp2
            go_quiet (fail)
            go_wp2
            go_roundw
            case rel => exact ⟨m + 1, by omega, by go_num, below_drewN hbw _, by go_simp, by show _ = true; rw [hT.out, HA.out, HY.out]; rfl⟩
            case measure => simp [intOf]; omega
          · have HY := Lib.hid hyx
            have hyx' : (y.toList == c.toList) = true := hyx
            clear hyx
            go_wp2
            go_quiet (fail)
            go_wp2
            go_ret
            exact ⟨ret_bool (by rw [HSUM.out]; exact (hbad.out (by rw [hG.out, hI.out (by rw [HY.out]; rfl)]; simp)).symm), below_drewN hbw _⟩
        · have hme : m = k := by omega
          have HE := Lib.hid hme; clear hme
          go_wp2
          go_roundw
          case rel =>
            refine ⟨k + 1, by omega, by go_num, hbw, hcw, fun j hj => ?_⟩
            by_cases hjk : j < k
            · exact HG.out j hjk
            · obtain rfl : j = k := by omega
              rw [hG.out, hcd'.out, ← HE.out, HA.out]; rfl
          case measure => simp [intOf]; omega
    · have HE := Lib.hid (show k = cs.length by omega)
      go_wp2
      go_ret
      exact ⟨ret_bool (by rw [HSUM.out]; exact (codesOk_good (by rw [← HE.out]; exact HG.out)).symm), hbl⟩

end Go.Proofs.YtffbcfaahegglaaDoor

namespace Go.Proofs.YtffbcfaahegglaaDoor
open Go.RowKit

/-- The index of the first missort with id c; -1 if there is none. -/
def ixI (ms : List Mis) (c : Int) : Int := if ms.findIdx (fun y => y.id == c) < ms.length then (ms.findIdx (fun y => y.id == c) : Int) else -1
theorem ixI_hit {ms : List Mis} {c : Int} {k : Nat} (hk : k < ms.length) (h1 : ∀ j (hj : j < k), (ms[j].id == c) = false) (h2 : (ms[k].id == c) = true) : ixI ms c = k := by
  have e : ms.findIdx (fun y => y.id == c) = k := (List.findIdx_eq hk).2 ⟨h2, h1⟩
  unfold ixI
  rw [e, if_pos hk]
theorem ixI_none {ms : List Mis} {c : Int} (h : ∀ j (hj : j < ms.length), (ms[j].id == c) = false) : ixI ms c = -1 := by
  have e : ms.findIdx (fun y => y.id == c) = ms.length := List.findIdx_eq_length.2 fun x hx => by
    obtain ⟨j, hj, rfl⟩ := List.getElem_of_mem hx
    exact h j hj
  unfold ixI
  rw [e, if_neg (by omega)]
/-- Its own index is found first exactly if no earlier one bears its id. -/
theorem ixI_own {ms : List Mis} {k : Nat} (hk : k < ms.length) : (ixI ms ms[k].id == (k : Int)) = (ms.take k).all (fun y => y.id != ms[k].id) := by
  rw [Bool.eq_iff_iff, List.all_eq_true]
  constructor
  · intro h x hx
    obtain ⟨j, hj, rfl⟩ := List.getElem_of_mem hx
    rw [List.length_take] at hj
    have hjk : j < k := by omega
    rw [List.getElem_take]
    have h' : ixI ms ms[k].id = (k : Int) := by simpa using h
    unfold ixI at h'
    split at h'
    · have e : ms.findIdx (fun y => y.id == ms[k].id) = k := by omega
      have := ((List.findIdx_eq hk).1 e).2 j hjk
      simpa using this
    · omega
  · intro h
    rw [ixI_hit hk (fun j hj => by
      have := h ms[j] (by rw [List.mem_take_iff_getElem]; exact ⟨j, by omega, rfl⟩)
      simpa using this) (by simp)]
    simp


theorem l1In_is {n a b : Int} {r : Bool} {w : World} (h : (decide (a ≤ n) && decide (n ≤ b)) = r) : Calls Tryd.prog 72 #[.int .i64 n, .int .i64 a, .int .i64 b] w fun e w' => e = .returned (.bool r) ∧ w = w' := by
  rw [← h]; exact spec_l1In n a b w
theorem misOk_of_bad {p : Pln} {ms : List Mis} {k : Nat} (hk : k < ms.length) (h : planOk p = true → goodM p.bins ms k = false) : misOk p ms = false := by
  cases hp : planOk p
  · exact misOk_plan hp
  · exact misOk_bad hk (h hp)



end Go.Proofs.YtffbcfaahegglaaDoor

namespace Go.Proofs.YtffbcfaahegglaaDoor
open Go.RowKit

theorem ret_tup {a b : Value} (h : a = b) : Ending.returned a = .returned b := by rw [h]


set_option maxHeartbeats 400000 in
theorem spec_l4Index (v : Value) (fs : List Fwd) (c : ByteArray) (w : World) (hv : rd w w.heap.size v fs) :
    Calls Tryd.prog 135 #[v, .string c] w fun e w' => e = .returned (.int .i64 (fwdI fs c)) ∧ w = w' := by
  obtain ⟨A, n, cp, rfl, hn, hc, hm, hr⟩ := hv
  subst hn
  unfold maxLen at hm
  have HR := Lib.hid hr; clear hr
  have l0 := Below.refl w.heap.size w
  go_enter Tryd.func135, Tryd.ntmps135
  go_wp2
  go_loop [5] (fun i => ∃ k : Nat, k ≤ fs.length ∧ i = .int .i64 k ∧ Hid (∀ j (h : j < fs.length), j < k → sEq fs[j].src c = false)) (fun i => fs.length - (intOf i).toNat)
  case atStart => exact ⟨0, Nat.zero_le _, rfl, fun j _ hj => absurd hj (Nat.not_lt_zero j)⟩
  case round =>
    obtain ⟨k, hk, rfl, HG⟩ := hrel
    by_cases hlt : k < fs.length
    · obtain ⟨b, o, rfl, hb, hok, c1, c2⟩ := HR.out.fwdU k hlt
      have HX : Hid (∀ h : sEq fs[k].src c = false, ∀ j (h1 : j < fs.length), j < k + 1 → sEq fs[j].src c = false) := fun h j h1 hj => by
        by_cases hjk : j < k
        · exact HG.out j h1 hjk
        · obtain rfl : j = k := by omega
          exact h
      have HY : Hid (∀ h : sEq fs[k].src c = true, fwdI fs c = k) := fun h => fiI_at hlt (fun j hj hjk => HG.out j hj hjk) h
      generalize fs[k] = x at *
      cases he : sEq x.src c
      · have he' := Lib.hid he
        have hq : (x.src.toList == c.toList) = false := he
        clear he
        go_wp2
        go_round
        case rel => exact ⟨k + 1, by omega, by go_num, HX.out he'.out⟩
        case measure => simp [intOf]; omega
      · have he' := Lib.hid he
        have hq : (x.src.toList == c.toList) = true := he
        clear he
        go_wp2
        go_ret
        exact ⟨ret_int (HY.out he'.out).symm, rfl⟩
    · have HE : Hid (fwdI fs c = -1) := fiI_none fun j hj => HG.out j hj (by omega)
      go_wp2
      go_ret
      exact ⟨ret_int HE.out.symm, rfl⟩


set_option maxHeartbeats 400000 in
theorem spec_l4Resolve (v : Value) (fs : List Fwd) (c : ByteArray) (w : World) (hv : rd w w.heap.size v fs) (hcs : c.size ≤ maxLen) (hl : fs.length ≤ 1048576) :
    Calls Tryd.prog 121 #[v, .string c] w fun e w' => e = .returned (.tuple #[.string (follow fs c).1, .int .i64 ((follow fs c).2.1 : Nat), .bool (follow fs c).2.2]) ∧ Below w.heap.size w w' := by
  obtain ⟨A, n, cp, rfl, hn, hc, hm, hr⟩ := hv
  have hv0 := Lib.hid (show rd w w.heap.size (.slice A n cp) fs from ⟨A, n, cp, rfl, hn, hc, hm, hr⟩)
  subst hn
  unfold maxLen at hm hcs
  have HR := Lib.hid hr; clear hr
  have l0 := Below.refl w.heap.size w
  have HF : Hid (follow fs c = followN fs (fs.length + 1) c 0) := rfl
  go_enter Tryd.func121, Tryd.ntmps121
  go_wp2
  go_loopw [1, 7] (fun t i wr => ∃ (k : Nat) (d : ByteArray), k ≤ fs.length + 1 ∧ i = .int .i64 k ∧ t = .string d ∧ d.size ≤ 2 ^ 63 - 1 ∧ Below w.heap.size w wr ∧ Hid (follow fs c = followN fs (fs.length + 1 - k) d k)) (fun _ i _ => fs.length + 1 - (intOf i).toNat)
  case atStart => exact ⟨0, c, Nat.zero_le _, rfl, rfl, hcs, l0, HF.out⟩
  case round =>
    obtain ⟨k, d, hk, rfl, rfl, hds, lr, HG⟩ := hrel
    obtain ⟨w1, rfl⟩ : ∃ w1 : World, w1 = wr := ⟨_, rfl⟩
    clear l0
    by_cases hlt : k < fs.length + 1
    · have hlt' : (k : Int) ≤ (fs.length : Int) := by omega
      have HS : Hid (follow fs c = if fwdI fs d < 0 then (d, k, true) else followN fs (fs.length + 1 - (k + 1)) (fwdTo fs d) (k + 1)) := by
        show _ = _
        rw [HG.out, show fs.length + 1 - k = (fs.length + 1 - (k + 1)) + 1 by omega]; rfl
      obtain ⟨r, HRR⟩ : ∃ r, Hid (fwdI fs d = r) := ⟨_, rfl⟩
      have hrr := fiI_range (fun x : Fwd => sEq x.src d) fs
      rw [show fiI (fun x : Fwd => sEq x.src d) fs = r from HRR.out] at hrr
      go_wp2_with fail
      refine (spec_l4Index _ fs d _ (hv0.out.on lr)).mono ?_
      rw [HRR.out]
      rintro e w2 ⟨rfl, rfl⟩
      have l2 := lr
      by_cases hneg : r < 0
      · go_wp2_with fail
        go_ret3
        exact ⟨ret_tup (by rw [HS.out, HRR.out, if_pos hneg] <;> rfl), l2⟩
      · obtain ⟨q, rfl⟩ := Int.eq_ofNat_of_zero_le (show 0 ≤ r by omega)
        have hq : q < fs.length := by omega
        obtain ⟨b, o, rfl, hb, ⟨hok1, hok2⟩, c1, c2⟩ := HR.out.fwdU q hq
        have HT := Lib.hid (fwdTo_at HRR.out hq)
        generalize fs[q] = x at *
        unfold maxLen at hok2
        have hqi : (q : Int) < (fs.length : Int) := by omega
        go_wp2_with fail
        go_roundw
        case rel => exact ⟨k + 1, x.dst, by omega, by go_num, rfl, hok2, l2, by show _ = _; rw [HS.out, HRR.out, if_neg (by omega), HT.out]⟩
        case measure => simp [intOf]; omega
    · have hlt' : ¬ (k : Int) ≤ (fs.length : Int) := by omega
      have HE : Hid (follow fs c = (⟨#[]⟩, 0, false)) := by show _ = _; rw [HG.out, show fs.length + 1 - k = 0 by omega]; rfl
      go_wp2_with fail
      go_ret3
      exact ⟨ret_tup (by rw [HE.out] <;> rfl), lr⟩

theorem spec_l5Size (n : Int) (w : World) : Calls Tryd.prog 120 #[.int .i64 n] w fun e w' => e = .returned (.bool (sizeOk n)) ∧ w = w' := by
  go_enter Tryd.func120, Tryd.ntmps120
  go_wp2_with fail
  refine (spec_l1In n 1 20 w).mono ?_
  rintro e w1 ⟨rfl, rfl⟩
  obtain ⟨r, HR⟩ : ∃ r, Hid ((decide (1 ≤ n) && decide (n ≤ 20)) = r) := ⟨_, rfl⟩
  rw [HR.out]
  go_wp2_with fail
  go_ret
  exact ⟨ret_bool HR.out.symm, rfl⟩


end Go.Proofs.YtffbcfaahegglaaDoor
