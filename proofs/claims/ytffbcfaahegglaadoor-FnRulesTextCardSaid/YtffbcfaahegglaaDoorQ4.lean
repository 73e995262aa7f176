/- K3 K4 E1 -/
import Derived.Test.YtffbcfaahegglaaDoorQ3
import Derived.IntWalk
import Derived.Test.YtffbcfaahegglaaDoorQ1
import Derived.StillTailTactics
import Derived.Deep.RegionHeld3
import Derived.Handy
namespace Go.Proofs.YtffbcfaahegglaaDoor
open Go.RowKit

theorem quiet_c {P : Program} {f : FuncId} {args : Array Value} {w : World} {n : Nat} {v : Value}
    (h : Calls P f args (w.drewN n) fun e w' => e = .returned v ∧ w.drewN n = w') : Calls P f args (w.drewN n) fun e w'' => e = .returned v ∧ ∃ m, w'' = w.drewN m :=
  h.mono fun _ _ ⟨he, hm⟩ => ⟨he, n, hm.symm⟩

theorem spec_l3Shape (n p : Int) (w : World) : Calls Tryd.prog 137 #[.int .i64 n, .int .i64 p] w fun e w' => e = .returned (.bool (shapeOk n p)) ∧ w = w' := by
  have e0 : shapeOk n p = (decide (2 ≤ n) && decide (n ≤ 16) && (decide (1 ≤ p) && decide (p ≤ 4))) := rfl
  have E0 := Lib.hid e0; clear e0
  go_enter Tryd.func137, Tryd.ntmps137
  go_wp2_with fail
  refine (spec_l1In n 2 16 w).mono ?_
  rintro e w1 ⟨rfl, rfl⟩
  cases h1 : (decide (2 ≤ n) && decide (n ≤ 16))
  · have H1 := Lib.hid h1; clear h1
    go_wp2_with fail
    go_ret
    exact ⟨ret_bool (by rw [E0.out, H1.out]; rfl), rfl⟩
  · have H1 := Lib.hid h1; clear h1
    go_wp2_with fail
    refine (spec_l1In p 1 4 w).mono ?_
    rintro e w1 ⟨rfl, rfl⟩
    cases h2 : (decide (1 ≤ p) && decide (p ≤ 4))
    · have H2 := Lib.hid h2; clear h2
      go_wp2_with fail
      go_ret
      exact ⟨ret_bool (by rw [E0.out, H1.out, H2.out]; rfl), rfl⟩
    · have H2 := Lib.hid h2; clear h2
      go_wp2_with fail
      go_ret
      exact ⟨ret_bool (by rw [E0.out, H1.out, H2.out]; rfl), rfl⟩

set_option maxHeartbeats 400000 in
theorem spec_l3Power (b : Int) (n : Nat) (w : World) (h1 : 2 ≤ b) (h2 : b ≤ 16) (hn : n ≤ 4) :
    Calls Tryd.prog 138 #[.int .i64 b, .int .i64 n] w fun e w' => e = .returned (.int .i64 (powI b n)) ∧ w = w' := by
  go_enter Tryd.func138, Tryd.ntmps138
  go_wp2
  go_loop [5, 6] (fun t i => ∃ (k : Nat) (m : Int), k ≤ n ∧ i = .int .i64 k ∧ t = .int .i64 m ∧ 1 ≤ m ∧ m ≤ 65536 ∧ Hid (m = powI b k)) (fun _ i => n - (intOf i).toNat)
  case atStart => exact ⟨0, 1, Nat.zero_le _, rfl, rfl, by omega, by omega, rfl⟩
  case round =>
    obtain ⟨k, m, hk, rfl, rfl, m0, m1, HM⟩ := hrel
    by_cases hlt : k < n
    · obtain ⟨p1, p2⟩ := powI_bounds h1 h2 (k + 1) (by omega)
      have hp : powI b (k + 1) = m * b := by rw [HM.out]; rfl
      have HP := Lib.hid hp
      rw [hp] at p1 p2
      clear hp
      have hlm : ¬ (100000 : Int) < m * b := by omega
      go_wp2
      go_round
      case rel => exact ⟨k + 1, m * b, by omega, by go_num, by first | rfl | exact congrArg (Value.int .i64) (by omega), p1, p2, HP.out.symm⟩
      case measure => simp [intOf]; omega
    · have HE := Lib.hid (show k = n by omega)
      go_wp2
      go_ret
      exact ⟨ret_int (by rw [HM.out, HE.out]), rfl⟩

theorem powI_nonneg_conv {p : Int} (h : 0 ≤ p) : ((p.toNat : Nat) : Int) = p := Int.toNat_of_nonneg h

set_option maxHeartbeats 1600000 in
theorem spec_PlanValid (v : Value) (p : Pln) (w : World) (hv : rdP w w.heap.size v p) :
    Calls Tryd.prog 118 #[v] w fun e w' => e = .returned (.bool (planOk p)) ∧ Below w.heap.size w w' := by
  obtain ⟨vo, rfl, hi1, hi2, hr⟩ := hv
  have hr0 := hr
  obtain ⟨A, n, cp, rfl, hn, hc, hm, hra⟩ := hr
  subst hn
  unfold maxLen at hm
  have HRA := Lib.hid hra; clear hra
  have hrb := Lib.hid (fun o n => (hr0.on ((Below.refl _ _).alloc (Nat.le_refl _) o)).on (below_drewN (Below.refl _ _) n))
  clear hr0
  have hB : Below w.heap.size w (w.alloc (Obj.cells #[Value.int IntKind.i64 p.bins, Value.int IntKind.i64 p.passes, Value.slice A p.order.length cp] 89)) := (Below.refl _ _).alloc (Nat.le_refl _) _
  have HB := Lib.hid hB; clear hB
  have e0 : planOk p = (shapeOk p.bins p.passes && (decide (1 ≤ p.order.length) && decide (p.order.length ≤ 60)) && decide ((p.order.length : Int) ≤ powI p.bins p.passes.toNat) && codesOk p.order) := rfl
  have E0 := Lib.hid e0; clear e0
  cases hsh : shapeOk p.bins p.passes
  · have HS := Lib.hid hsh; clear hsh
    have HSc := Lib.hid (fun w => HS.out ▸ spec_l3Shape p.bins p.passes w)
    go_enter Tryd.func118, Tryd.ntmps118
    go_wp2
    go_quiet (first | (go_at_call 137; refine quiet_c (HSc.out _)))
    go_wp2
    go_ret
    exact ⟨ret_bool (by rw [E0.out, HS.out]; rfl), below_drewN HB.out _⟩
  have HS := Lib.hid hsh
  have HSc := Lib.hid (fun w => HS.out ▸ spec_l3Shape p.bins p.passes w)
  obtain ⟨q1, q2, q3, q4⟩ := shapeOk_iff.1 hsh
  clear hsh
  cases hln : (decide ((1 : Int) ≤ (p.order.length : Int)) && decide ((p.order.length : Int) ≤ 60))
  · have HL := Lib.hid hln; clear hln
    have HLc := Lib.hid (fun w => HL.out ▸ spec_l1In (p.order.length : Int) 1 60 w)
    have hln2 : (decide (1 ≤ p.order.length) && decide (p.order.length ≤ 60)) = false := by
      have := HL.out
      rw [Bool.and_eq_false_iff, decide_eq_false_iff_not, decide_eq_false_iff_not] at this ⊢
      omega
    have HL2 := Lib.hid hln2; clear hln2
    go_enter Tryd.func118, Tryd.ntmps118
    go_wp2
    go_quiet (first | (go_at_call 137; refine quiet_c (HSc.out _)) | (go_at_call 72; refine quiet_c (HLc.out _)))
    go_wp2
    go_ret
    exact ⟨ret_bool (by rw [E0.out, HL2.out]; simp), below_drewN HB.out _⟩
  have HL := Lib.hid hln
  have HLc := Lib.hid (fun w => HL.out ▸ spec_l1In (p.order.length : Int) 1 60 w)
  have hln2 : 1 ≤ p.order.length ∧ p.order.length ≤ 60 := by
    rw [Bool.and_eq_true, decide_eq_true_iff, decide_eq_true_iff] at hln
    omega
  clear hln
  obtain ⟨l1, l2⟩ := hln2
  have hl3 : (decide (1 ≤ p.order.length) && decide (p.order.length ≤ 60)) = true := by rw [decide_eq_true l1, decide_eq_true l2]; rfl
  have HL3 := Lib.hid hl3; clear hl3
  obtain ⟨q, HQ⟩ : ∃ q, Hid (powI p.bins p.passes.toNat = q) := ⟨_, rfl⟩
  have hpw : ∀ w : World, Calls Tryd.prog 138 #[.int .i64 p.bins, .int .i64 p.passes] w fun e w' => e = .returned (.int .i64 q) ∧ w = w' := fun w => by
    have := spec_l3Power p.bins p.passes.toNat w q1 q2 (by omega)
    rw [HQ.out, powI_nonneg_conv (by omega)] at this
    exact this
  have HPW := Lib.hid hpw; clear hpw
  by_cases h5 : (p.order.length : Int) ≤ q
  case neg =>
    have H5 := Lib.hid (decide_eq_false h5)
    have h5' : decide ((p.order.length : Int) > q) = true := decide_eq_true (by omega)
    clear h5
    go_enter Tryd.func118, Tryd.ntmps118
    go_wp2
    go_quiet (first | (go_at_call 137; refine quiet_c (HSc.out _)) | (go_at_call 72; refine quiet_c (HLc.out _)) | (go_at_call 138; refine quiet_c (HPW.out _)))
    go_wp2
    go_ret
    exact ⟨ret_bool (by rw [E0.out, HQ.out, H5.out]; simp), below_drewN HB.out _⟩
  have H5 := Lib.hid (decide_eq_true h5)
  have h5' : decide ((p.order.length : Int) > q) = false := decide_eq_false (by omega)
  clear h5
  have hsum : planOk p = codesOk p.order := by rw [E0.out, HS.out, HL3.out, HQ.out, H5.out]; rfl
  have HSUM := Lib.hid hsum; clear hsum
  go_enter Tryd.func118, Tryd.ntmps118
  go_wp2
  go_quiet (first | (go_at_call 137; refine quiet_c (HSc.out _)) | (go_at_call 72; refine quiet_c (HLc.out _)) | (go_at_call 138; refine quiet_c (HPW.out _)))
  clear h5' HPW HQ H5 HL HLc HSc HS E0 HL3 hrb
  have hB1 : Below w.heap.size w ((w.alloc (Obj.cells #[Value.int IntKind.i64 p.bins, Value.int IntKind.i64 p.passes, Value.slice A p.order.length cp] 89)).drewN nq) := below_drewN HB.out _
  have hc0 : ((w.alloc (Obj.cells #[Value.int IntKind.i64 p.bins, Value.int IntKind.i64 p.passes, Value.slice A p.order.length cp] 89)).drewN nq).cell? ⟨w.heap.size, 2, none⟩ = some (.slice A p.order.length cp) := by go_simp
  clear HB
  generalize ((w.alloc (Obj.cells #[Value.int IntKind.i64 p.bins, Value.int IntKind.i64 p.passes, Value.slice A p.order.length cp] 89)).drewN nq) = w0 at *
  generalize p.order = cs at *
  go_wp2
  go_loopw [3] (fun i wr => ∃ k : Nat, k ≤ cs.length ∧ i = .int .i64 k ∧ Below w.heap.size w wr ∧ wr.cell? ⟨w.heap.size, 2, none⟩ = some (.slice A cs.length cp) ∧ Hid (∀ j, j < k → goodC cs j = true)) (fun i _ => cs.length - (intOf i).toNat)
  case atStart => exact ⟨0, Nat.zero_le _, rfl, hB1, hc0, fun j hj => absurd hj (Nat.not_lt_zero j)⟩
  case round =>
    obtain ⟨k, hk, rfl, hbl, hcx, HG⟩ := hrel
    obtain ⟨w1, rfl⟩ : ∃ w1 : World, w1 = wr := ⟨_, rfl⟩
    have hsz := hbl.size
    clear hB1 hc0
    by_cases hlt : k < cs.length
    · obtain ⟨b, o, rfl, hb, hok, c1⟩ := HRA.out.str k hlt
      have hG := Lib.hid (goodC_of hlt)
      have hbad := Lib.hid (fun h => codesOk_bad hlt h)
      generalize hx : cs[k] = c at *
      have HXK := Lib.hid hx; clear hx
      have c1' : w1.cell? ⟨b, o + k, none⟩ = some (.string c) := (hbl.cell (p := ⟨b, o + k, none⟩) hb).trans c1
      cases hcd : isCode c
      · have hcd' := Lib.hid hcd; clear hcd
        go_wp2_with (go_at_call 71; refine (spec_CodeValid _ _ hok).mono ?_; rw [hcd'.out]; rintro e w' ⟨rfl, rfl⟩)
        go_ret
        exact ⟨ret_bool (by rw [HSUM.out]; exact (hbad.out (by rw [hG.out, hcd'.out]; rfl)).symm), hbl⟩
      have hcd' := Lib.hid hcd; clear hcd
      go_wp2_with (go_at_call 71; refine (spec_CodeValid _ _ hok).mono ?_; rw [hcd'.out]; rintro e w' ⟨rfl, rfl⟩)
      go_loopw [4] (fun i wr => ∃ m : Nat, m ≤ k ∧ i = .int .i64 m ∧ Below w.heap.size w wr ∧ wr.cell? ⟨w.heap.size, 2, none⟩ = some (.slice (some ⟨b, o, none⟩) cs.length cp) ∧ Hid ((cs.take m).all (fun y => !sEq y c) = true)) (fun i _ => k - (intOf i).toNat)
      case atStart => exact ⟨0, Nat.zero_le _, rfl, hbl, hcx, rfl⟩
      case round =>
        obtain ⟨m, hm', rfl, hbw, hcw, HA⟩ := hrel
        have hsi := hbw.size
        clear c1' hcx
        have c1' : wr.cell? ⟨b, o + k, none⟩ = some (.string c) := (hbw.cell (p := ⟨b, o + k, none⟩) hb).trans c1
        by_cases hmk : m < k
        · obtain ⟨b', o', hA, _, _, d1⟩ := HRA.out.str m (by omega)
          have hT := Lib.hid (take_all_succ (p := fun y : ByteArray => !sEq y c) cs m (by omega))
          have hI := Lib.hid (take_all_bad (p := fun y : ByteArray => !sEq y c) cs m k (by omega) hmk)
          generalize cs[m] = y at *
          injection hA with hA
          injection hA with hA1 hA2
          subst hA1 hA2
          have d1' : wr.cell? ⟨b, o + m, none⟩ = some (.string y) := (hbw.cell (p := ⟨b, o + m, none⟩) hb).trans d1
          clear d1 c1
          have hml : (m : Int) < (cs.length : Int) := by omega
          have hkl : (k : Int) < (cs.length : Int) := by omega
          cases hyx : sEq y c
          · have HY := Lib.hid hyx
            have hyx' : (y.toList == c.toList) = false := hyx
            clear hyx
            go_wp2
            go_quiet (fail)
            go_wp2
            go_roundw
            case rel => exact ⟨m + 1, by omega, by go_num, below_drewN hbw _, by go_simp, by show _ = true; rw [hT.out, HA.out, HY.out]; rfl⟩
            case measure => simp [intOf]; omega
          · have HY := Lib.hid hyx
            have hyx' : (y.toList == c.toList) = true := hyx
            clear hyx
            go_wp2
            go_quiet (fail)
            go_wp2
            go_ret
            exact ⟨ret_bool (by rw [HSUM.out]; exact (hbad.out (by rw [hG.out, hI.out (by rw [HY.out]; rfl)]; simp)).symm), below_drewN hbw _⟩
        · have hme : m = k := by omega
          have HE := Lib.hid hme; clear hme
          go_wp2
          go_roundw
          case rel =>
            refine ⟨k + 1, by omega, by go_num, hbw, hcw, fun j hj => ?_⟩
            by_cases hjk : j < k
            · exact HG.out j hjk
            · obtain rfl : j = k := by omega
              rw [hG.out, hcd'.out, ← HE.out, HA.out]; rfl
          case measure => simp [intOf]; omega
    · have HE := Lib.hid (show k = cs.length by omega)
      go_wp2
      go_ret
      exact ⟨ret_bool (by rw [HSUM.out]; exact (codesOk_good (by rw [← HE.out]; exact HG.out)).symm), hbl⟩

end Go.Proofs.YtffbcfaahegglaaDoor

namespace Go.Proofs.YtffbcfaahegglaaDoor
open Go.RowKit

/-- The index of the first missort with id c; -1 if there is none. -/
def ixI (ms : List Mis) (c : Int) : Int := if ms.findIdx (fun y => y.id == c) < ms.length then (ms.findIdx (fun y => y.id == c) : Int) else -1
theorem ixI_hit {ms : List Mis} {c : Int} {k : Nat} (hk : k < ms.length) (h1 : ∀ j (hj : j < k), (ms[j].id == c) = false) (h2 : (ms[k].id == c) = true) : ixI ms c = k := by
  have e : ms.findIdx (fun y => y.id == c) = k := (List.findIdx_eq hk).2 ⟨h2, h1⟩
  unfold ixI
  rw [e, if_pos hk]
theorem ixI_none {ms : List Mis} {c : Int} (h : ∀ j (hj : j < ms.length), (ms[j].id == c) = false) : ixI ms c = -1 := by
  have e : ms.findIdx (fun y => y.id == c) = ms.length := List.findIdx_eq_length.2 fun x hx => by
    obtain ⟨j, hj, rfl⟩ := List.getElem_of_mem hx
    exact h j hj
  unfold ixI
  rw [e, if_neg (by omega)]
/-- Its own index is found first exactly if no earlier one bears its id. -/
theorem ixI_own {ms : List Mis} {k : Nat} (hk : k < ms.length) : (ixI ms ms[k].id == (k : Int)) = (ms.take k).all (fun y => y.id != ms[k].id) := by
  rw [Bool.eq_iff_iff, List.all_eq_true]
  constructor
  · intro h x hx
    obtain ⟨j, hj, rfl⟩ := List.getElem_of_mem hx
    rw [List.length_take] at hj
    have hjk : j < k := by omega
    rw [List.getElem_take]
    have h' : ixI ms ms[k].id = (k : Int) := by simpa using h
    unfold ixI at h'
    split at h'
    · have e : ms.findIdx (fun y => y.id == ms[k].id) = k := by omega
      have := ((List.findIdx_eq hk).1 e).2 j hjk
      simpa using this
    · omega
  · intro h
    rw [ixI_hit hk (fun j hj => by
      have := h ms[j] (by rw [List.mem_take_iff_getElem]; exact ⟨j, by omega, rfl⟩)
      simpa using this) (by simp)]
    simp


theorem l1In_is {n a b : Int} {r : Bool} {w : World} (h : (decide (a ≤ n) && decide (n ≤ b)) = r) : Calls Tryd.prog 72 #[.int .i64 n, .int .i64 a, .int .i64 b] w fun e w' => e = .returned (.bool r) ∧ w = w' := by
  rw [← h]; exact spec_l1In n a b w
theorem misOk_of_bad {p : Pln} {ms : List Mis} {k : Nat} (hk : k < ms.length) (h : planOk p = true → goodM p.bins ms k = false) : misOk p ms = false := by
  cases hp : planOk p
  · exact misOk_plan hp
  · exact misOk_bad hk (h hp)



end Go.Proofs.YtffbcfaahegglaaDoor

namespace Go.Proofs.YtffbcfaahegglaaDoor
open Go.RowKit

def lessOr (l n : Int) : Int := if l < n then -1 else l - n
def sumSz (xs : List Ltr) : Nat := (xs.map fun x => x.code.size).sum
theorem sumSz_succ (xs : List Ltr) (k : Nat) (h : k < xs.length) : sumSz (xs.take (k + 1)) = sumSz (xs.take k) + xs[k].code.size := by
  unfold sumSz; rw [List.take_succ_eq_append_getElem h, List.map_append, List.sum_append]; simp
theorem sumSz_le (xs : List Ltr) (k : Nat) : sumSz (xs.take k) ≤ sumSz xs := by
  unfold sumSz
  conv => rhs; rw [← List.take_append_drop k xs, List.map_append, List.sum_append]
  omega

theorem laws_szLetter (x : Ltr) (l : Int) (w : World) (hx : x.code.size ≤ maxLen) (h0 : 0 ≤ l) (h1 : l ≤ 1048576) :
    Calls Tryd.prog 70 #[.agg #[.int .i64 x.id, .string x.code], .int .i64 l] w fun e w' => e = .returned (.int .i64 (lessOr l x.code.size)) ∧ Below w.heap.size w w' := by
  unfold maxLen at hx
  go_enter Tryd.func70, Tryd.ntmps70
  by_cases h : l < x.code.size
  · go_wp2
    go_ret
    exact ⟨ret_int (by unfold lessOr; rw [if_pos h]), (Below.refl _ _).alloc (Nat.le_refl _) _⟩
  · go_wp2
    go_ret
    exact ⟨ret_int (by unfold lessOr; rw [if_neg (by omega)]), (Below.refl _ _).alloc (Nat.le_refl _) _⟩

set_option maxHeartbeats 400000 in
theorem laws_szLetterS (v : Value) (xs : List Ltr) (l : Int) (w : World) (hv : rd w w.heap.size v xs) (h0 : 0 ≤ l) (h1 : l ≤ 1048576) :
    Calls Tryd.prog 35 #[v, .int .i64 l] w fun e w' => e = .returned (.int .i64 (lessOr l (xs.length + sumSz xs))) ∧ Below w.heap.size w w' := by
  obtain ⟨A, n, c, rfl, hn, hc, hm, hr⟩ := hv
  subst hn
  unfold maxLen at hm
  have HR := Lib.hid hr; clear hr
  go_enter Tryd.func35, Tryd.ntmps35
  by_cases h : l < xs.length
  · go_wp2
    go_ret
    exact ⟨ret_int (by unfold lessOr; rw [if_pos (by omega)]), Below.refl _ _⟩
  · go_wp2
    go_loopw [1, 5] (fun t i wr => ∃ (k : Nat) (m : Int), k ≤ xs.length ∧ i = .int .i64 k ∧ t = .int .i64 m ∧ 0 ≤ m ∧ m ≤ 1048576 ∧ Below w.heap.size w wr ∧ Hid (m = l - xs.length - sumSz (xs.take k))) (fun _ i _ => xs.length - (intOf i).toNat)
    case atStart => exact ⟨0, _, Nat.zero_le _, rfl, rfl, by omega, by omega, Below.refl _ _, by show _ = _; simp [sumSz]⟩
    case round =>
      obtain ⟨k, m, hk, rfl, rfl, m0, m1, hbl, HM⟩ := hrel
      obtain ⟨w1, rfl⟩ : ∃ w1 : World, w1 = wr := ⟨_, rfl⟩
      by_cases hlt : k < xs.length
      · obtain ⟨b, o, rfl, hb, ⟨⟨o1, o2⟩, o3⟩, c1, c2⟩ := HR.out.ltr k hlt
        have HS := Lib.hid (sumSz_succ xs k hlt)
        have HL := Lib.hid (sumSz_le xs (k + 1))
        generalize xs[k] = x at *
        have c1' : w1.cell? ⟨b, o + k * 2, none⟩ = some (.int .i64 x.id) := (hbl.cell (p := ⟨b, o + k * 2, none⟩) hb).trans c1
        have c2' : w1.cell? ⟨b, o + k * 2 + 1, none⟩ = some (.string x.code) := (hbl.cell (p := ⟨b, o + k * 2 + 1, none⟩) hb).trans c2
        clear c1 c2
        by_cases hs : m < x.code.size
        · have he : lessOr m x.code.size = -1 := by unfold lessOr; rw [if_pos hs]
          go_wp2_with (go_at_call 70; refine (laws_szLetter _ _ _ o3 m0 m1).mono ?_; rw [he]; rintro e w' ⟨rfl, hb1⟩)
          go_ret
          refine ⟨ret_int ?_, hbl.trans (hb1.mono hbl.size)⟩
          have := HM.out; have h2 := HS.out; have h3 := HL.out
          unfold lessOr; rw [if_pos (by omega)]
        · have he : lessOr m x.code.size = m - x.code.size := by unfold lessOr; rw [if_neg hs]
          have hnn : 0 ≤ m - (x.code.size : Int) := by omega
          have hnn2 : m - (x.code.size : Int) ≤ 1048576 := by omega
          go_wp2_with (go_at_call 70; refine (laws_szLetter _ _ _ o3 m0 m1).mono ?_; rw [he]; rintro e w' ⟨rfl, hb1⟩)
          go_roundw
          case rel =>
            refine ⟨k + 1, _, by omega, by go_num, rfl, hnn, hnn2, hbl.trans (hb1.mono hbl.size), ?_⟩
            show _ = _
            have := HM.out; have h2 := HS.out
            omega
          case measure => simp [intOf]; omega
      · have HE := Lib.hid (show k = xs.length by omega)
        go_wp2
        go_ret
        refine ⟨ret_int ?_, hbl⟩
        have := HM.out
        rw [HE.out, List.take_length] at this
        unfold lessOr; rw [if_neg (by omega)]; omega

theorem laws_toLetter (x : Ltr) (w : World) :
    Calls Tryd.prog 74 #[.agg #[.int .i64 x.id, .string x.code]] w fun e w' => e = .returned (.agg #[.int .i64 x.id, .string x.code]) ∧ Below w.heap.size w w' := by
  go_enter Tryd.func74, Tryd.ntmps74
  go_wp2
  refine bodyPost_ret (v := .agg #[.int .i64 x.id, .string x.code]) (by simp [results, Tryd.results74, go_sem]) rfl ⟨rfl, ?_⟩
  go_grown

def ltrEq (x y : Ltr) : Bool := x.id == y.id && sEq x.code y.code
theorem ltrEq_iff (x y : Ltr) : ltrEq x y = true ↔ x = y := by
  cases x; cases y; simp [ltrEq, sEq_iff]

theorem laws_eqLetter (x y : Ltr) (w : World) :
    Calls Tryd.prog 78 #[.agg #[.int .i64 x.id, .string x.code], .agg #[.int .i64 y.id, .string y.code]] w fun e w' => e = .returned (.bool (ltrEq x y)) ∧ Below w.heap.size w w' := by
  have hB : Below w.heap.size w ((w.alloc (Obj.cells #[Value.int IntKind.i64 x.id, Value.string x.code] 98)).alloc (Obj.cells #[Value.int IntKind.i64 y.id, Value.string y.code] 98)) := by
    exact ((Below.refl _ _).alloc (Nat.le_refl _) _).alloc (by simp) _
  by_cases h1 : x.id = y.id
  · have g1 : (x.id != y.id) = false := by simp [h1]
    have g1' := Lib.hid h1
    clear h1
    cases h2 : sEq x.code y.code
    · have h3 := Lib.hid h2
      unfold sEq at h2
      go_enter Tryd.func78, Tryd.ntmps78
      go_wp2
      go_ret
      exact ⟨ret_bool (by simp [ltrEq, h3.out]), hB⟩
    · have h3 := Lib.hid h2
      unfold sEq at h2
      go_enter Tryd.func78, Tryd.ntmps78
      go_wp2
      go_ret
      exact ⟨ret_bool (by simp [ltrEq, h3.out, g1'.out]), hB⟩
  · have g1 : (x.id != y.id) = true := by simp [h1]
    have g1' := Lib.hid h1
    clear h1
    go_enter Tryd.func78, Tryd.ntmps78
    go_wp2
    go_ret
    exact ⟨ret_bool (by simp [ltrEq, g1'.out]), hB⟩

set_option maxRecDepth 100000 in
set_option maxHeartbeats 400000 in
theorem laws_eqLetterS (v v' : Value) (xs ys : List Ltr) (w : World) (hv : rd w w.heap.size v xs) (hv' : rd w w.heap.size v' ys) :
    Calls Tryd.prog 41 #[v, v'] w fun e w' => e = .returned (.bool (eqBy ltrEq xs ys)) ∧ Below w.heap.size w w' := by
  obtain ⟨A, n, c, rfl, hn, hc, hm, hr⟩ := hv
  obtain ⟨A', n', c', rfl, hn', hc', hm', hr'⟩ := hv'
  subst hn hn'
  unfold maxLen at hm hm'
  have HR := Lib.hid hr; clear hr
  have HR' := Lib.hid hr'; clear hr'
  go_enter Tryd.func41, Tryd.ntmps41
  by_cases hl : xs.length = ys.length
  · have hl1 : ((xs.length : Int) != (ys.length : Int)) = false := by simp [hl]
    have HL := Lib.hid hl; clear hl
    go_wp2
    go_loopw [5] (fun i wr => ∃ k : Nat, k ≤ xs.length ∧ i = .int .i64 k ∧ Below w.heap.size w wr ∧ Hid (∀ j (h1 : j < xs.length) (h2 : j < ys.length), j < k → ltrEq xs[j] ys[j] = true)) (fun i _ => xs.length - (intOf i).toNat)
    case atStart => exact ⟨0, Nat.zero_le _, rfl, Below.refl _ _, fun j _ _ hj => absurd hj (Nat.not_lt_zero j)⟩
    case round =>
      obtain ⟨k, hk, rfl, hbl, HG⟩ := hrel
      obtain ⟨w1, rfl⟩ : ∃ w1 : World, w1 = wr := ⟨_, rfl⟩
      by_cases hlt : k < xs.length
      · have hlt' : k < ys.length := by rw [← HL.out]; exact hlt
        obtain ⟨b, o, rfl, hb, _, c1, c2⟩ := HR.out.ltr k hlt
        obtain ⟨b', o', rfl, hb', _, d1, d2⟩ := HR'.out.ltr k hlt'
        have hbad := Lib.hid (fun h => eqBy_bad (p := ltrEq) k hlt hlt' h)
        have HX : Hid (∀ h : ltrEq xs[k] ys[k] = true, ∀ j (h1 : j < xs.length) (h2 : j < ys.length), j < k + 1 → ltrEq xs[j] ys[j] = true) := fun h j h1 h2 hj => by
          by_cases hjk : j < k
          · exact HG.out j h1 h2 hjk
          · obtain rfl : j = k := by omega
            exact h
        generalize xs[k] = x at *
        generalize ys[k] = y at *
        have c1' : w1.cell? ⟨b, o + k * 2, none⟩ = some (.int .i64 x.id) := (hbl.cell (p := ⟨b, o + k * 2, none⟩) hb).trans c1
        have c2' : w1.cell? ⟨b, o + k * 2 + 1, none⟩ = some (.string x.code) := (hbl.cell (p := ⟨b, o + k * 2 + 1, none⟩) hb).trans c2
        have d1' : w1.cell? ⟨b', o' + k * 2, none⟩ = some (.int .i64 y.id) := (hbl.cell (p := ⟨b', o' + k * 2, none⟩) hb').trans d1
        have d2' : w1.cell? ⟨b', o' + k * 2 + 1, none⟩ = some (.string y.code) := (hbl.cell (p := ⟨b', o' + k * 2 + 1, none⟩) hb').trans d2
        clear c1 c2 d1 d2
        have hki : (k : Int) < (xs.length : Int) := by omega
        have hki' : (k : Int) < (ys.length : Int) := by omega
        have hb2 : Below w.heap.size w w1.drew := hbl.drew
        cases he : ltrEq x y
        · have he' := Lib.hid he; clear he
          go_wp2
          go_still_tail 8, (by kernel_rfl)
          change wpList _ _ _ _ _ w1.drew
          generalize w1.drew = w2 at *
          go_wp2_with (go_at_call 78; refine (laws_eqLetter _ _ _).mono ?_; rw [he'.out]; rintro e w' ⟨rfl, hb3⟩)
          go_ret
          exact ⟨ret_bool (hbad.out he'.out).symm, hb2.trans (hb3.mono hb2.size)⟩
        · have he' := Lib.hid he; clear he
          go_wp2
          go_still_tail 8, (by kernel_rfl)
          change wpList _ _ _ _ _ w1.drew
          generalize w1.drew = w2 at *
          go_wp2_with (go_at_call 78; refine (laws_eqLetter _ _ _).mono ?_; rw [he'.out]; rintro e w' ⟨rfl, hb3⟩)
          go_roundw
          case rel => exact ⟨k + 1, by omega, by go_num, hb2.trans (hb3.mono hb2.size), HX.out he'.out⟩
          case measure => simp [intOf]; omega
      · have HE := Lib.hid (show k = xs.length by omega)
        go_wp2
        go_ret
        exact ⟨ret_bool (eqBy_good HL.out fun j h1 h2 => HG.out j h1 h2 (by rw [HE.out]; exact h1)).symm, hbl⟩
  · have hl1 : ((xs.length : Int) != (ys.length : Int)) = true := by simp; omega
    have HL := Lib.hid hl; clear hl
    go_wp2
    go_ret
    exact ⟨ret_bool (eqBy_len HL.out).symm, Below.refl _ _⟩

end Go.Proofs.YtffbcfaahegglaaDoor
