/- B2 GMis -/
import Derived.Test.YtnlljekijlkigaaQ5
import Derived.Test.YtnlljekijlkigaaQ6
import Derived.Test.YtnlljekijlkigaaQ7
import Derived.Test.YtnlljekijlkigaaQ4
import Derived.Test.YtnlljekijlkigaaQ3
import Derived.Test.YtnlljekijlkigaaQ2
import Derived.StillTailTactics
import Derived.Handy
namespace Go.Proofs.Ytnlljekijlkigaa
open Go.RowKit

theorem ordP {w : World} {B : Nat} {p : Pln} {A : Option Addr} {c : Nat} (h : rdP w B (.agg #[.int .i64 p.bins, .int .i64 p.passes, .slice A p.order.length c]) p) : rd w B (.slice A p.order.length c) p.order := by
  obtain ⟨vo, h1, _, _, h4⟩ := h
  injection h1 with h1
  injection h1 with h1
  simp only [List.cons.injEq, and_true, true_and] at h1
  subst h1
  exact h4
theorem indexS_is {v : Value} {xs : List ByteArray} {c : ByteArray} {r : Int} {w : World} (hv : rd w w.heap.size v xs) (h : rkI xs c = r) :
    Calls Try.prog 83 #[v, .string c] w fun e w' => e = .returned (.int .i64 r) ∧ w = w' := by
  rw [← h]; exact slices_IndexS v xs c w hv
theorem l3RankI_is {v : Value} {xs : List ByteArray} {c : ByteArray} {r : Int} {w : World} (hv : rd w w.heap.size v xs) (h : rkI xs c = r) :
    Calls Try.prog 95 #[v, .string c] w fun e w' => e = .returned (.int .i64 r) ∧ w = w' := by
  rw [← h]; exact spec_l3Rank v xs c w hv

set_option maxRecDepth 100000 in
set_option maxHeartbeats 800000 in
theorem impl_binOf (v : Value) (p : Pln) (c : ByteArray) (k : Nat) (w : World) (hv : rdP w w.heap.size v p) (h1 : 2 ≤ p.bins) (h2 : p.bins ≤ 16) (hk : k ≤ 4) (hl : p.order.length ≤ 1000) :
    Calls Try.prog 173 #[v, .string c, .int .i64 k] w fun e w' => e = .returned (.int .i64 (binI p c k)) ∧ Below w.heap.size w w' := by
  obtain ⟨A0, c0, e0⟩ := openP hv
  obtain ⟨w0, hw0⟩ : ∃ w0, w0 = w.alloc (Obj.cells #[.int .i64 p.bins, .int .i64 p.passes, .slice A0 p.order.length c0] 25) := ⟨_, rfl⟩
  have q0 := box_cells hw0 0 (.int .i64 p.bins) rfl
  have q1 := box_cells hw0 1 (.int .i64 p.passes) rfl
  have q2 := box_cells hw0 2 (.slice A0 p.order.length c0) rfl
  have HT := Lib.hid (box_later hw0).1
  have HP := Lib.hid (hv.on HT.out)
  subst e0
  have HO := Lib.hid (ordP HP.out)
  have HW0 := Lib.hid hw0; clear hw0 hv
  have l0 := Below.refl w0.heap.size w0
  obtain ⟨r, HRR⟩ : ∃ r, Hid (rkI p.order c = r) := ⟨_, rfl⟩
  obtain ⟨q, HQ⟩ : ∃ q, Hid (powI p.bins k = q) := ⟨_, rfl⟩
  obtain ⟨qa, qb⟩ := powI_bounds h1 h2 k hk
  rw [HQ.out] at qa qb
  obtain ⟨ra, rb⟩ := rkI_range p.order c
  rw [HRR.out] at ra rb
  have C2 := Lib.hid (fun w => impl_binPower p.bins k w h1 h2 hk)
  go_enter Try.func173, Try.ntmps173
  go_wp2_with fail
  rw [← HW0.out]
  refine (indexS_is HO.out HRR.out).mono ?_
  rintro e w1 ⟨rfl, rfl⟩
  by_cases hr : r < 0
  · go_wp2_with fail
    go_ret
    exact ⟨ret_int (by rw [binI_neg (by rw [HRR.out]; exact hr)]), HT.out⟩
  have hr0 : 0 ≤ r := by omega
  have HE : Hid (binI p c k = r / q % p.bins) := by show _ = _; rw [binI_pos (by rw [HRR.out]; omega), HRR.out, HQ.out]
  have C3 : Hid (∀ w : World, Calls Try.prog 172 #[.int .i64 p.bins, .int .i64 k] w fun e w' => e = .returned (.int .i64 q) ∧ w = w') := fun w => by
    have h := C2.out w
    rw [HQ.out] at h
    exact h
  have hq0 : (q == 0) = false := beq_eq_false_iff_ne.2 (by omega)
  have hb0 : (p.bins == 0) = false := beq_eq_false_iff_ne.2 (by omega)
  have hq1 : ¬ q = 0 := by omega
  have hb1 : ¬ p.bins = 0 := by omega
  have d0 : 0 ≤ r / q := Int.ediv_nonneg hr0 (by omega)
  have d1 : r / q ≤ 1000 := by
    have := Int.ediv_le_self q hr0
    omega
  have m0 : 0 ≤ r / q % p.bins := Int.emod_nonneg _ hb1
  have m1 : r / q % p.bins < p.bins := Int.emod_lt_of_pos _ (by omega)
  go_wp2
  go_quiet (first | (go_at_call 172; refine quiet_c (C3.out _)))
  have t1 : r.tdiv q = r / q := Int.tdiv_eq_ediv_of_nonneg hr0
  have t2 : (r / q).tmod p.bins = r / q % p.bins := Int.tmod_eq_emod_of_nonneg d0
  have HT1 := Lib.hid t1; have HT2 := Lib.hid t2
  clear t1 t2 hq0 hb0 hq1 hb1
  go_wp2
  go_ret
  exact ⟨ret_int (by rw [HE.out]), later_trans HT.out (below_drewN l0 _)⟩

set_option maxRecDepth 100000 in
set_option maxHeartbeats 800000 in
theorem spec_l3Bin (v : Value) (p : Pln) (c : ByteArray) (k : Nat) (w : World) (hv : rdP w w.heap.size v p) (h1 : 2 ≤ p.bins) (h2 : p.bins ≤ 16) (hk : k ≤ 4) (hl : p.order.length ≤ 1000) :
    Calls Try.prog 171 #[v, .string c, .int .i64 k] w fun e w' => e = .returned (.int .i64 (binI p c k)) ∧ Below w.heap.size w w' := by
  obtain ⟨A0, c0, e0⟩ := openP hv
  obtain ⟨w0, hw0⟩ : ∃ w0, w0 = w.alloc (Obj.cells #[.int .i64 p.bins, .int .i64 p.passes, .slice A0 p.order.length c0] 25) := ⟨_, rfl⟩
  have q0 := box_cells hw0 0 (.int .i64 p.bins) rfl
  have q1 := box_cells hw0 1 (.int .i64 p.passes) rfl
  have q2 := box_cells hw0 2 (.slice A0 p.order.length c0) rfl
  have HT := Lib.hid (box_later hw0).1
  have HP := Lib.hid (hv.on HT.out)
  subst e0
  have HO := Lib.hid (ordP HP.out)
  have HW0 := Lib.hid hw0; clear hw0 hv
  have l0 := Below.refl w0.heap.size w0
  obtain ⟨r, HRR⟩ : ∃ r, Hid (rkI p.order c = r) := ⟨_, rfl⟩
  obtain ⟨q, HQ⟩ : ∃ q, Hid (powI p.bins k = q) := ⟨_, rfl⟩
  obtain ⟨qa, qb⟩ := powI_bounds h1 h2 k hk
  rw [HQ.out] at qa qb
  obtain ⟨ra, rb⟩ := rkI_range p.order c
  rw [HRR.out] at ra rb
  have C2 := Lib.hid (fun w => spec_l3Power p.bins k w h1 h2 hk)
  go_enter Try.func171, Try.ntmps171
  go_wp2_with fail
  rw [← HW0.out]
  refine (l3RankI_is HO.out HRR.out).mono ?_
  rintro e w1 ⟨rfl, rfl⟩
  by_cases hr : r < 0
  · go_wp2_with fail
    go_ret
    exact ⟨ret_int (by rw [binI_neg (by rw [HRR.out]; exact hr)]), HT.out⟩
  have hr0 : 0 ≤ r := by omega
  have HE : Hid (binI p c k = r / q % p.bins) := by show _ = _; rw [binI_pos (by rw [HRR.out]; omega), HRR.out, HQ.out]
  have C3 : Hid (∀ w : World, Calls Try.prog 170 #[.int .i64 p.bins, .int .i64 k] w fun e w' => e = .returned (.int .i64 q) ∧ w = w') := fun w => by
    have h := C2.out w
    rw [HQ.out] at h
    exact h
  have hq0 : (q == 0) = false := beq_eq_false_iff_ne.2 (by omega)
  have hb0 : (p.bins == 0) = false := beq_eq_false_iff_ne.2 (by omega)
  have hq1 : ¬ q = 0 := by omega
  have hb1 : ¬ p.bins = 0 := by omega
  have d0 : 0 ≤ r / q := Int.ediv_nonneg hr0 (by omega)
  have d1 : r / q ≤ 1000 := by
    have := Int.ediv_le_self q hr0
    omega
  have m0 : 0 ≤ r / q % p.bins := Int.emod_nonneg _ hb1
  have m1 : r / q % p.bins < p.bins := Int.emod_lt_of_pos _ (by omega)
  go_wp2
  go_quiet (first | (go_at_call 170; refine quiet_c (C3.out _)))
  have t1 : r.tdiv q = r / q := Int.tdiv_eq_ediv_of_nonneg hr0
  have t2 : (r / q).tmod p.bins = r / q % p.bins := Int.tmod_eq_emod_of_nonneg d0
  have HT1 := Lib.hid t1; have HT2 := Lib.hid t2
  clear t1 t2 hq0 hb0 hq1 hb1
  go_wp2
  go_ret
  exact ⟨ret_int (by rw [HE.out]), later_trans HT.out (below_drewN l0 _)⟩


theorem Try.infoRow : (Try.prog.info? 29).map (fun i => (i.zero, i.size, i.bytes)) = some (some (.slice none 0 0), 1, 24) := by kernel_rfl

set_option maxHeartbeats 800000 in
theorem impl_joinBins (v : Value) (xss : List (List Ltr)) (w : World) (hv : rd w w.heap.size v xss) (hl : xss.flatten.length ≤ 1048576) :
    Calls Try.prog 89 #[v] w fun e w' => ∃ v', e = .returned v' ∧ own 49 w.heap.size w' v' xss.flatten ∧ Below w.heap.size w w' := by
  obtain ⟨A, n, c, rfl, hn, hc, hm, hr⟩ := hv
  subst hn
  unfold maxLen at hm
  have HR := Lib.hid hr; clear hr
  have l0 := Below.refl w.heap.size w
  have HL := Lib.hid hl; clear hl
  obtain ⟨i0, hi, hz0, hz1, hz2⟩ := info_parts Try.infoLtr
  go_enter Try.func89, Try.ntmps89
  go_wp2
  go_loopw [3, 8] (fun t i wr => ∃ k : Nat, k ≤ xss.length ∧ i = .int .i64 k ∧ Below w.heap.size w wr ∧ own 49 w.heap.size wr t (xss.take k).flatten) (fun _ i _ => xss.length - (intOf i).toNat)
  case atStart => exact ⟨0, Nat.zero_le _, rfl, l0, own.nil_ _ _ _⟩
  case round =>
    obtain ⟨k, hk, rfl, lr, ho⟩ := hrel
    obtain ⟨w1, rfl⟩ : ∃ w1 : World, w1 = wr := ⟨_, rfl⟩
    clear l0
    by_cases hlt : k < xss.length
    · obtain ⟨b, o, u, rfl, hb, hu, c1⟩ := HR.out.rowU k hlt
      have HS : Hid ((xss.take (k + 1)).flatten = (xss.take k).flatten ++ xss[k]) := by show _ = _; rw [List.take_succ_eq_append_getElem hlt, List.flatten_append]; simp
      have HLB : Hid ((xss.take k).flatten.length + xss[k].length ≤ 1048576) := by
        show _ ≤ _
        rw [← List.length_append, ← HS.out]
        have : (xss.take (k + 1)).flatten.length ≤ xss.flatten.length := by
          conv => rhs; rw [← List.take_append_drop (k + 1) xss, List.flatten_append, List.length_append]
          omega
        have := HL.out
        omega
      generalize xss[k] = ys at *
      obtain ⟨A2, m2, c2, rfl, hm2, hc2, hmm2, hr2⟩ := hu
      have hu : rd w w.heap.size (.slice A2 m2 c2) ys := ⟨A2, m2, c2, rfl, hm2, hc2, hmm2, hr2⟩
      clear hm2 hc2 hmm2 hr2
      have HU := Lib.hid hu; clear hu
      generalize hys : (xss.take k).flatten = zs at *
      have HYS := Lib.hid hys; clear hys
      have ho' := Lib.hid ho
      obtain ⟨A3, m3, c3, rfl, hm3, _, _, _⟩ := ho.rd
      subst hm3
      clear ho
      have hbd := HLB.out
      go_wp2_with (at_builtin; refine wpList_appendAll (α := Ltr) rfl (.tmp 12) (.tmp 13) 29 rfl w.heap.size 49 i0 _ 24 Try.underlying29 hi hz0 hz1 hz2 rfl (by decide) (.slice A3 zs.length c3) zs rfl ho'.out (.slice A2 m2 c2) ys rfl w1.heap.size (HU.out.on lr) (by have := HLB.out; unfold maxLen; omega) (by have := HLB.out; omega) lr.size ?_; intro v' w2 ho2 hg2 _)
      have l2 : Below w.heap.size w w2 := lr.trans (below_append ho'.out hg2 lr.size)
      go_wp2
      go_roundw
      case rel => exact ⟨k + 1, by omega, by go_num, l2, by rw [HS.out]; exact ho2⟩
      case measure => simp [intOf]; omega
    · have HE := Lib.hid (show k = xss.length by omega)
      go_wp2
      go_ret
      exact ⟨_, rfl, by rw [HE.out, List.take_length] at ho; exact ho, lr⟩

end Go.Proofs.Ytnlljekijlkigaa

namespace Go.Proofs.Ytnlljekijlkigaa
open Go.RowKit


def misEq (x y : Mis) : Bool := (x.id == y.id) && (x.bin == y.bin)
theorem misEq_iff (x y : Mis) : misEq x y = true ↔ x = y := by
  cases x; cases y; simp [misEq, sEq_iff]

theorem Try.infoMis : (Try.prog.info? 184).map (fun i => (i.zero, i.size, i.bytes)) = some (some (.agg #[.int .i64 0, .int .i64 0]), 2, 16) := by kernel_rfl



end Go.Proofs.Ytnlljekijlkigaa
