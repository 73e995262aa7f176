/- FnExactMissortsValid: the walk of the law. -/
import Derived.Test.YtlmbegajocmnpaaK4
import Derived.Test.YtlmbegajocmnpaaG2
import Derived.Deep.RegionHeld3
namespace Go.Proofs.Ytlmbegajocmnpaa
open Go.RowKit

theorem leftOf_neg {l n : Int} (h : l < n) : leftOf l n = -1 := by unfold leftOf; rw [if_pos h]
theorem leftOf_pos {l n : Int} (h : ¬ l < n) : leftOf l n = l - n := by unfold leftOf; rw [if_neg h]

set_option maxHeartbeats 1600000 in
theorem walk_FnExactMissortsValid (w : World) (v : Value) (p : Pln) (hv : rdP w w.heap.size v p) (vm : Value) (ms : List Mis) (hvm : rd w w.heap.size vm ms) :
    Calls Try.prog 3 #[v, vm] w fun e w' => e = .returned (.bool true) ∧ Below w.heap.size w w' := by
  have hv0 := Lib.hid hv
  have hm0 := Lib.hid hvm
  obtain ⟨vo, rfl, hi1, hi2, hr⟩ := hv
  obtain ⟨A, n, c, rfl, hn, hc, hm, _⟩ := hr
  subst hn
  have hp0 : 0 ≤ planSz p := by unfold planSz; omega
  have HPL := Lib.hid (show (p.order.length : Int) ≤ planSz p by unfold planSz; omega)
  obtain ⟨z, HZ⟩ : ∃ z, Hid (planSz p = z) := ⟨_, rfl⟩
  rw [HZ.out] at hp0
  have HPL2 := Lib.hid (show (p.order.length : Int) ≤ z by rw [← HZ.out]; exact HPL.out)
  clear HPL
  have hB0 : Below w.heap.size w (w.alloc (Obj.cells #[Value.int IntKind.i64 p.bins, Value.int IntKind.i64 p.passes, Value.slice A p.order.length c] 24)) := (Below.refl _ _).alloc (Nat.le_refl _) _
  have HB0 := Lib.hid hB0; clear hB0
  go_enter Try.func3, Try.ntmps3
  go_wp2_with fail
  obtain ⟨w0, hw0⟩ : ∃ w0, w0 = (w.alloc (Obj.cells #[Value.int IntKind.i64 p.bins, Value.int IntKind.i64 p.passes, Value.slice A p.order.length c] 24)) := ⟨_, rfl⟩
  have HC : Hid (∀ W, Below w0.heap.size w0 W → W.cell? ⟨w.heap.size, 0, none⟩ = some (.int .i64 p.bins) ∧ W.cell? ⟨w.heap.size, 1, none⟩ = some (.int .i64 p.passes) ∧ W.cell? ⟨w.heap.size, 2, none⟩ = some (.slice A p.order.length c)) := fun W hW => by
    have hlt : w.heap.size < w0.heap.size := by subst hw0; simp
    exact ⟨(hW.cell (p := ⟨w.heap.size, 0, none⟩) hlt).trans (by subst hw0; go_simp), (hW.cell (p := ⟨w.heap.size, 1, none⟩) hlt).trans (by subst hw0; go_simp), (hW.cell (p := ⟨w.heap.size, 2, none⟩) hlt).trans (by subst hw0; go_simp)⟩
  rw [← hw0]
  have HW0 : Hid (Below w.heap.size w w0) := by subst hw0; exact HB0.out
  clear hw0 HB0
  refine (laws_szPlan _ p 1048576 _ (hv0.out.on HW0.out) (by omega) (by omega)).mono ?_
  rintro e w1 ⟨rfl, b1⟩
  rw [HZ.out]
  have B1 := HW0.out.trans (b1.mono HW0.out.size)
  by_cases h1 : (1048576 : Int) < z
  · rw [leftOf_neg h1]
    go_wp2_with fail
    go_ret
    exact ⟨rfl, B1⟩
  rw [leftOf_pos h1]
  have hn1 : ¬ ((1048576 : Int) - z < 0) := by omega
  go_wp2_with fail
  refine (laws_szMissortS _ ms _ _ (hm0.out.on B1) (by omega) (by omega)).mono ?_
  rintro e w2 ⟨rfl, rfl⟩
  by_cases h2 : (1048576 : Int) - z < ms.length
  · rw [leftOf_neg h2]
    go_wp2_with fail
    go_ret
    exact ⟨rfl, B1⟩
  rw [leftOf_pos h2]
  have hn2 : ¬ ((1048576 : Int) - z - (ms.length : Int) < 0) := by omega
  obtain ⟨c0, c1, c2⟩ := HC.out _ b1
  have HPO : Hid (p.order.length ≤ 1048576) := by have := HPL2.out; show _ ≤ _; omega
  have HMO : Hid (ms.length ≤ 1048576) := by show _ ≤ _; omega
  go_wp2_with fail
  clear c0 c1 c2
  refine (laws_toPlan _ p _ (hv0.out.on B1) HPO.out).mono ?_
  rintro e w2 ⟨v2, rfl, o2, b2⟩
  have B2 := B1.trans (b2.mono B1.size)
  have b2' := b1.trans (b2.mono b1.size)
  go_wp2_with fail
  refine (laws_toMissortS _ ms _ (hm0.out.on B2) HMO.out).mono ?_
  rintro e w3 ⟨v3, rfl, o3, b3⟩
  have B3 := B2.trans (b3.mono B2.size)
  have b3' := b2'.trans (b3.mono b2'.size)
  go_wp2_with fail
  refine (spec_MissortsValid _ _ p ms _ (o2.below b3).rd o3.rd).mono ?_
  rintro e w4 ⟨rfl, b4⟩
  have B4 := B3.trans (b4.mono B3.size)
  have b4' := b3'.trans (b4.mono b3'.size)
  obtain ⟨c0, c1, c2⟩ := HC.out _ b4'
  clear o2 o3 b2 b3 b4
  go_wp2_with fail
  clear c0 c1 c2
  refine (laws_toPlan _ p _ (hv0.out.on B4) HPO.out).mono ?_
  rintro e w5 ⟨v5, rfl, o5, b5⟩
  have B5 := B4.trans (b5.mono B4.size)
  have b5' := b4'.trans (b5.mono b4'.size)
  have R5 := Lib.hid o5.rd
  obtain ⟨v5o, rfl, _, _, q5⟩ := o5
  obtain ⟨A5, n5, k5, rfl, hn5, hc5, hm5, _⟩ := q5.rd
  subst hn5
  obtain ⟨w6, hw6⟩ : ∃ w6, w6 = (w5.alloc (Obj.cells #[Value.int IntKind.i64 p.bins, Value.int IntKind.i64 p.passes, Value.slice A5 p.order.length k5] 29)) := ⟨_, rfl⟩
  have HX : Hid (∀ W, Below w6.heap.size w6 W → W.cell? ⟨w5.heap.size, 0, none⟩ = some (.int .i64 p.bins) ∧ W.cell? ⟨w5.heap.size, 1, none⟩ = some (.int .i64 p.passes) ∧ W.cell? ⟨w5.heap.size, 2, none⟩ = some (.slice A5 p.order.length k5)) := fun W hW => by
    have hlt : w5.heap.size < w6.heap.size := by subst hw6; simp
    exact ⟨(hW.cell (p := ⟨w5.heap.size, 0, none⟩) hlt).trans (by subst hw6; go_simp), (hW.cell (p := ⟨w5.heap.size, 1, none⟩) hlt).trans (by subst hw6; go_simp), (hW.cell (p := ⟨w5.heap.size, 2, none⟩) hlt).trans (by subst hw6; go_simp)⟩
  have b6 : Below w5.heap.size w5 w6 := by subst hw6; exact (Below.refl _ _).alloc (Nat.le_refl _) _
  have B6 := B5.trans (b6.mono B5.size)
  have b6' := b5'.trans (b6.mono b5'.size)
  have HB6 := Lib.hid B6
  have HB6' := Lib.hid b6'
  have HR6 := Lib.hid (R5.out.on b6)
  have HL5 : Hid (w5.heap.size < w6.heap.size) := by show _ < _; subst hw6; simp
  clear q5 b6 b6' B6 b5 R5
  go_wp2_with fail
  rw [← hw6]
  clear hw6
  refine (laws_toMissortS _ ms _ (hm0.out.on HB6.out) HMO.out).mono ?_
  rintro e w7 ⟨v7, rfl, o7, b7⟩
  have B7 := HB6.out.trans (b7.mono HB6.out.size)
  have b7' := HB6'.out.trans (b7.mono HB6'.out.size)
  obtain ⟨x0, x1, x2⟩ := HX.out _ b7
  go_wp2_with fail
  clear x0 x1 x2
  refine (impl_MissortsValid _ _ p ms _ (HR6.out.on b7) o7.rd).mono ?_
  rintro e w8 ⟨rfl, b8⟩
  have B8 := B7.trans (b8.mono B7.size)
  have b8' := b7'.trans (b8.mono b7'.size)
  have X8 := b7.trans (b8.mono b7.size)
  generalize misOk p ms = r
  have hrr : (r != r) = false := by simp
  obtain ⟨x0, x1, x2⟩ := HX.out _ X8
  obtain ⟨c0, c1, c2⟩ := HC.out _ b8'
  have o8 := o7.below b8
  clear b7 b8 b7' B7 o7
  have HX8 := Lib.hid X8; clear X8
  have Hb8 := Lib.hid b8'; clear b8'
  have HB8 := Lib.hid B8; clear B8
  have HO8 := Lib.hid o8; clear o8
  have HP8 := Lib.hid (hv0.out.on HB8.out)
  have HQ8 := Lib.hid (HR6.out.on HX8.out)
  have hx7 : w.heap.size < w8.heap.size := Nat.lt_of_lt_of_le (Nat.lt_of_le_of_lt B5.size HL5.out) HX8.out.size
  have hx8 : w5.heap.size < w8.heap.size := Nat.lt_of_lt_of_le HL5.out HX8.out.size
  go_wp2
  go_region_held3 (fun w' => w'.cell? ⟨w5.heap.size, 0, none⟩ = some (.int .i64 p.bins) ∧ w'.cell? ⟨w5.heap.size, 1, none⟩ = some (.int .i64 p.passes) ∧ w'.cell? ⟨w5.heap.size, 2, none⟩ = some (.slice A5 p.order.length k5) ∧ w'.cell? ⟨w.heap.size, 0, none⟩ = some (.int .i64 p.bins) ∧ w'.cell? ⟨w.heap.size, 1, none⟩ = some (.int .i64 p.passes) ∧ w'.cell? ⟨w.heap.size, 2, none⟩ = some (.slice A p.order.length c))
    (first | go_keep | (exact ⟨(hb10.cell (p := ⟨w5.heap.size, 0, none⟩) (by have q9 := hb9.size; simp at q9; simp; omega)).trans (by first | go_simp | go_keep), (hb10.cell (p := ⟨w5.heap.size, 1, none⟩) (by have q9 := hb9.size; simp at q9; simp; omega)).trans (by first | go_simp | go_keep), (hb10.cell (p := ⟨w5.heap.size, 2, none⟩) (by have q9 := hb9.size; simp at q9; simp; omega)).trans (by first | go_simp | go_keep), (hb10.cell (p := ⟨w.heap.size, 0, none⟩) (by have q9 := hb9.size; simp at q9; simp; omega)).trans (by first | go_simp | go_keep), (hb10.cell (p := ⟨w.heap.size, 1, none⟩) (by have q9 := hb9.size; simp at q9; simp; omega)).trans (by first | go_simp | go_keep), (hb10.cell (p := ⟨w.heap.size, 2, none⟩) (by have q9 := hb9.size; simp at q9; simp; omega)).trans (by first | go_simp | go_keep)⟩) | (exact ⟨(hb9.cell (p := ⟨w5.heap.size, 0, none⟩) (by simp; omega)).trans (by first | go_simp | go_keep), (hb9.cell (p := ⟨w5.heap.size, 1, none⟩) (by simp; omega)).trans (by first | go_simp | go_keep), (hb9.cell (p := ⟨w5.heap.size, 2, none⟩) (by simp; omega)).trans (by first | go_simp | go_keep), (hb9.cell (p := ⟨w.heap.size, 0, none⟩) (by simp; omega)).trans (by first | go_simp | go_keep), (hb9.cell (p := ⟨w.heap.size, 1, none⟩) (by simp; omega)).trans (by first | go_simp | go_keep), (hb9.cell (p := ⟨w.heap.size, 2, none⟩) (by simp; omega)).trans (by first | go_simp | go_keep)⟩))
    (first | (go_at_call 18; refine (laws_toPlan _ p _ (HP8.out.on (Below.refl _ _).drew) HPO.out).mono ?_; rintro e w9 ⟨v9, rfl, o9, hb9⟩) | (go_at_call 21; refine (laws_eqPlan _ _ p _ (HQ8.out.on ((Below.refl _ _).drew.trans (hb9.mono (by simp)))) o9.rd).mono ?_; rintro e w10 ⟨rfl, hb10⟩))
  have t9 : Below w8.heap.size w8 w9 := (Below.refl _ _).drew.trans hb9
  have t10 : Below w8.heap.size w8 w10 := t9.trans (hb10.mono t9.size)
  have B10 := HB8.out.trans (t10.mono HB8.out.size)
  have O10 := HO8.out.below t10
  clear hb9 hb10 t9 t10 o9
  go_wp2_with fail
  refine (laws_toMissortS _ ms _ (hm0.out.on B10) HMO.out).mono ?_
  rintro e w11 ⟨v11, rfl, o11, b11⟩
  have B11 := B10.trans (b11.mono B10.size)
  have hq : eqBy misEq ms ms = true := (eqBy_iff misEq_iff).2 rfl
  have HQM := Lib.hid hq; clear hq
  go_wp2_with fail
  refine (laws_eqMissortS _ _ ms ms _ (O10.rdB b11) o11.rd).mono ?_
  rw [HQM.out]
  rintro e w12 ⟨rfl, b12⟩
  go_wp2_with fail
  go_ret
  exact ⟨rfl, B11.trans (b12.mono B11.size)⟩

end Go.Proofs.Ytlmbegajocmnpaa
