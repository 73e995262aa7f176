/- B2 B3 -/
import Derived.Test.YtffbcfaahegglaaDoorQ8
import Derived.Test.YtffbcfaahegglaaDoorQ3
import Derived.Test.YtffbcfaahegglaaDoorQ2
import Derived.Deep.RegionLaw
namespace Go.Proofs.YtffbcfaahegglaaDoor
open Go.RowKit

theorem ordP {w : World} {B : Nat} {p : Pln} {A : Option Addr} {c : Nat} (h : rdP w B (.agg #[.int .i64 p.bins, .int .i64 p.passes, .slice A p.order.length c]) p) : rd w B (.slice A p.order.length c) p.order := by
  obtain ⟨vo, h1, _, _, h4⟩ := h
  injection h1 with h1
  injection h1 with h1
  simp only [List.cons.injEq, and_true, true_and] at h1
  subst h1
  exact h4
theorem l3RankI_is {v : Value} {xs : List ByteArray} {c : ByteArray} {r : Int} {w : World} (hv : rd w w.heap.size v xs) (h : rkI xs c = r) :
    Calls Tryd.prog 115 #[v, .string c] w fun e w' => e = .returned (.int .i64 r) ∧ w = w' := by
  rw [← h]; exact spec_l3Rank v xs c w hv

set_option maxRecDepth 100000 in
set_option maxHeartbeats 800000 in
theorem spec_l3Bin (v : Value) (p : Pln) (c : ByteArray) (k : Nat) (w : World) (hv : rdP w w.heap.size v p) (h1 : 2 ≤ p.bins) (h2 : p.bins ≤ 16) (hk : k ≤ 4) (hl : p.order.length ≤ 1000) :
    Calls Tryd.prog 139 #[v, .string c, .int .i64 k] w fun e w' => e = .returned (.int .i64 (binI p c k)) ∧ Below w.heap.size w w' := by
  obtain ⟨A0, c0, e0⟩ := openP hv
  obtain ⟨w0, hw0⟩ : ∃ w0, w0 = w.alloc (Obj.cells #[.int .i64 p.bins, .int .i64 p.passes, .slice A0 p.order.length c0] 89) := ⟨_, rfl⟩
  have q0 := box_cells hw0 0 (.int .i64 p.bins) rfl
  have q1 := box_cells hw0 1 (.int .i64 p.passes) rfl
  have q2 := box_cells hw0 2 (.slice A0 p.order.length c0) rfl
  have HT := Lib.hid (box_later hw0).1
  have HP := Lib.hid (hv.on HT.out)
  subst e0
  have HO := Lib.hid (ordP HP.out)
  have HW0 := Lib.hid hw0; clear hw0 hv
  have l0 := Below.refl w0.heap.size w0
  obtain ⟨r, HRR⟩ : ∃ r, Hid (rkI p.order c = r) := ⟨_, rfl⟩
  obtain ⟨q, HQ⟩ : ∃ q, Hid (powI p.bins k = q) := ⟨_, rfl⟩
  obtain ⟨qa, qb⟩ := powI_bounds h1 h2 k hk
  rw [HQ.out] at qa qb
  obtain ⟨ra, rb⟩ := rkI_range p.order c
  rw [HRR.out] at ra rb
  have C2 := Lib.hid (fun w => spec_l3Power p.bins k w h1 h2 hk)
  go_enter Tryd.func139, Tryd.ntmps139
  go_wp2_with fail
  rw [← HW0.out]
  refine (l3RankI_is HO.out HRR.out).mono ?_
  rintro e w1 ⟨rfl, rfl⟩
  by_cases hr : r < 0
  · go_wp2_with fail
    go_ret
    exact ⟨ret_int (by rw [binI_neg (by rw [HRR.out]; exact hr)]), HT.out⟩
  have hr0 : 0 ≤ r := by omega
  have HE : Hid (binI p c k = r / q % p.bins) := by show _ = _; rw [binI_pos (by rw [HRR.out]; omega), HRR.out, HQ.out]
  have C3 : Hid (∀ w : World, Calls Tryd.prog 138 #[.int .i64 p.bins, .int .i64 k] w fun e w' => e = .returned (.int .i64 q) ∧ w = w') := fun w => by
    have h := C2.out w
    rw [HQ.out] at h
    exact h
  have hq0 : (q == 0) = false := beq_eq_false_iff_ne.2 (by omega)
  have hb0 : (p.bins == 0) = false := beq_eq_false_iff_ne.2 (by omega)
  have hq1 : ¬ q = 0 := by omega
  have hb1 : ¬ p.bins = 0 := by omega
  have d0 : 0 ≤ r / q := Int.ediv_nonneg hr0 (by omega)
  have d1 : r / q ≤ 1000 := by
    have := Int.ediv_le_self q hr0
    omega
  have m0 : 0 ≤ r / q % p.bins := Int.emod_nonneg _ hb1
  have m1 : r / q % p.bins < p.bins := Int.emod_lt_of_pos _ (by omega)
  go_wp2
  go_quiet (first | (go_at_call 138; refine quiet_c (C3.out _)))
  have t1 : r.tdiv q = r / q := Int.tdiv_eq_ediv_of_nonneg hr0
  have t2 : (r / q).tmod p.bins = r / q % p.bins := Int.tmod_eq_emod_of_nonneg d0
  have HT1 := Lib.hid t1; have HT2 := Lib.hid t2
  clear t1 t2 hq0 hb0 hq1 hb1
  go_wp2
  go_ret
  exact ⟨ret_int (by rw [HE.out]), later_trans HT.out (below_drewN l0 _)⟩


theorem Tryd.infoRow : (Tryd.prog.info? 27).map (fun i => (i.zero, i.size, i.bytes)) = some (some (.slice none 0 0), 1, 24) := by kernel_rfl

end Go.Proofs.YtffbcfaahegglaaDoor

namespace Go.Proofs.YtffbcfaahegglaaDoor
open Go.RowKit

theorem farLL_grown {α : Type} [Flat α] {T1 T2 base : Nat} {w w' : World} {v u : Value} {xss : List (List α)} {vs : List Value} (h : isLL T1 T2 base w v xss vs) (hf : farLL u v vs) (hg : w.grownBy w' u.ownBlock) : isLL T1 T2 base w' v xss vs :=
  h.grown hg (apart_symm hf.1) fun k hk => apart_symm (hf.2 k hk)

end Go.Proofs.YtffbcfaahegglaaDoor
