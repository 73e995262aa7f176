/- UR UR2 -/
import Derived.Test.YtiaepapdofcnjaaQ18
import Derived.Test.YtiaepapdofcnjaaQ20
import Derived.Test.YtiaepapdofcnjaaQ21
import Derived.Test.YtiaepapdofcnjaaQ8
namespace Go.Proofs.Ytiaepapdofcnjaa
open Go.RowKit

set_option maxRecDepth 100000 in
set_option maxHeartbeats 1600000 in
theorem u_eqR (v v' : Value) (r : Rpt) (w : World) (hv : rdR w w.heap.size v r) (hv' : rdR w w.heap.size v' r) :
    Calls Try.prog 43 #[v, v'] w fun e w' => e = .returned (.bool true) ∧ Below w.heap.size w w' := by
  obtain ⟨A0, a0, A1, a1, A2, a2, A3, a3, e0⟩ := openR hv
  obtain ⟨B0, b0, B1, b1, B2, b2, B3, b3, e1⟩ := openR hv'
  obtain ⟨wa, hwa⟩ : ∃ wa, wa = w.alloc (Obj.cells #[.slice A0 r.round.length a0, .slice A1 r.strange.length a1, .slice A2 r.held.length a2, .slice A3 r.stuck.length a3] 60) := ⟨_, rfl⟩
  obtain ⟨wb, hwb⟩ : ∃ wb, wb = wa.alloc (Obj.cells #[.slice B0 r.round.length b0, .slice B1 r.strange.length b1, .slice B2 r.held.length b2, .slice B3 r.stuck.length b3] 60) := ⟨_, rfl⟩
  have q0 := fun W h => box_cells hwa 0 (.slice A0 r.round.length a0) rfl W (later_trans (box_later hwb).1 h)
  have q1 := fun W h => box_cells hwa 1 (.slice A1 r.strange.length a1) rfl W (later_trans (box_later hwb).1 h)
  have q2 := fun W h => box_cells hwa 2 (.slice A2 r.held.length a2) rfl W (later_trans (box_later hwb).1 h)
  have q3 := fun W h => box_cells hwa 3 (.slice A3 r.stuck.length a3) rfl W (later_trans (box_later hwb).1 h)
  have r0 := box_cells hwb 0 (.slice B0 r.round.length b0) rfl
  have r1 := box_cells hwb 1 (.slice B1 r.strange.length b1) rfl
  have r2 := box_cells hwb 2 (.slice B2 r.held.length b2) rfl
  have r3 := box_cells hwb 3 (.slice B3 r.stuck.length b3) rfl
  have HT := Lib.hid (later_trans (box_later hwa).1 (box_later hwb).1)
  have h1 := hv.on HT.out
  have h2 := hv'.on HT.out
  subst e0 e1
  obtain ⟨p0, p1, p2, p3⟩ := partsR h1
  obtain ⟨s0, s1, s2, s3⟩ := partsR h2
  have P0 := Lib.hid p0; have P1 := Lib.hid p1; have P2 := Lib.hid p2; have P3 := Lib.hid p3
  have S0 := Lib.hid s0; have S1 := Lib.hid s1; have S2 := Lib.hid s2; have S3 := Lib.hid s3
  have hza : wa.heap.size = w.heap.size + 1 := by subst hwa; simp
  rw [hza] at r0 r1 r2 r3
  clear hv hv' h1 h2 p0 p1 p2 p3 s0 s1 s2 s3 hza
  have HWA := Lib.hid hwa; have HWB := Lib.hid hwb
  clear hwa hwb
  have l0 := Below.refl wb.heap.size wb
  go_enter Try.func43, Try.ntmps43
  go_wp2_with fail
  rw [← HWA.out, ← HWB.out]
  refine (u_eqL _ _ r.round _ P0.out S0.out).mono ?_
  rintro e w1 ⟨rfl, c1⟩
  have l1 := later_trans l0 c1
  go_wp2_with fail
  refine (u_eqL _ _ r.strange _ (P1.out.on l1) (S1.out.on l1)).mono ?_
  rintro e w2 ⟨rfl, c2⟩
  have l2 := later_trans l1 c2
  go_wp2_with fail
  refine (u_eqL _ _ r.held _ (P2.out.on l2) (S2.out.on l2)).mono ?_
  rintro e w3 ⟨rfl, c3⟩
  have l3 := later_trans l2 c3
  go_wp2_with fail
  refine (u_eqL _ _ r.stuck _ (P3.out.on l3) (S3.out.on l3)).mono ?_
  rintro e w4 ⟨rfl, c4⟩
  have l4 := later_trans l3 c4
  go_wp2_with fail
  go_ret
  exact ⟨rfl, later_trans HT.out l4⟩

def rptN (r : Rpt) : Nat := 2 * r.round.length + 2 * r.strange.length + 2 * r.held.length + 2 * r.stuck.length
def marksR (k : Nat) (r : Rpt) : Rpt :=
  ⟨marksL k r.round.length, marksL (k + 2 * r.round.length) r.strange.length, marksL (k + 2 * r.round.length + 2 * r.strange.length) r.held.length, marksL (k + 2 * r.round.length + 2 * r.strange.length + 2 * r.held.length) r.stuck.length⟩
def rpt60 (r : Rpt) : Prop := r.round.length ≤ 60 ∧ r.strange.length ≤ 60 ∧ r.held.length ≤ 60 ∧ r.stuck.length ≤ 60
theorem seg.grown {α : Type} [Flat α] {T lo hi : Nat} {w w' : World} {v : Value} {xs : List α} {row : Option Nat} (h : seg T lo hi w v xs) (hg : w.grownBy w' row) (hv : v.ownBlock = none ∨ v.ownBlock ≠ row) : seg T lo hi w' v xs := ⟨h.1.grown hg hv, h.2⟩

set_option maxRecDepth 100000 in
set_option maxHeartbeats 1600000 in
theorem u_mkR (T lo hi : Nat) (v : Value) (r : Rpt) (k : Nat) (w : World) (hv : segR T lo hi w v r) (hk : k ≤ 1000000) (hl : rpt60 r) :
    Calls Try.prog 46 #[v, .int .i64 k] w fun e w' => e = .returned (.int .i64 ((k + rptN r : Nat) : Int)) ∧ segR T lo hi w' v (marksR k r) ∧ OutI lo hi w w' := by
  obtain ⟨v0, v1, v2, v3, rfl, s0, s1, s2, s3, ⟨n01, n02, n03, n12, n13, n23⟩⟩ := hv
  obtain ⟨x0, x1, x2, x3⟩ := r
  obtain ⟨hl0, hl1, hl2, hl3⟩ := hl
  simp only at s0 s1 s2 s3 hl0 hl1 hl2 hl3
  have HN : Hid (rptN ⟨x0, x1, x2, x3⟩ = 2 * x0.length + 2 * x1.length + 2 * x2.length + 2 * x3.length) := rfl
  have S0 := Lib.hid s0; have S1 := Lib.hid s1; have S2 := Lib.hid s2; have S3 := Lib.hid s3
  have N01 := Lib.hid n01; have N02 := Lib.hid n02; have N03 := Lib.hid n03; have N12 := Lib.hid n12; have N13 := Lib.hid n13; have N23 := Lib.hid n23
  have F0 : Hid (some w.heap.size ≠ v0.ownBlock) := fun e => Nat.lt_irrefl _ (s0.1.blk _ e.symm).2
  have F1 : Hid (some w.heap.size ≠ v1.ownBlock) := fun e => Nat.lt_irrefl _ (s1.1.blk _ e.symm).2
  have F2 : Hid (some w.heap.size ≠ v2.ownBlock) := fun e => Nat.lt_irrefl _ (s2.1.blk _ e.symm).2
  have F3 : Hid (some w.heap.size ≠ v3.ownBlock) := fun e => Nat.lt_irrefl _ (s3.1.blk _ e.symm).2
  obtain ⟨A0, m0, a0, rfl, hm0, _, _, _⟩ := s0.rd
  obtain ⟨A1, m1, a1, rfl, hm1, _, _, _⟩ := s1.rd
  obtain ⟨A2, m2, a2, rfl, hm2, _, _, _⟩ := s2.rd
  obtain ⟨A3, m3, a3, rfl, hm3, _, _, _⟩ := s3.rd
  subst hm0 hm1 hm2 hm3
  clear s0 s1 s2 s3 n01 n02 n03 n12 n13 n23
  obtain ⟨w0, hw0⟩ : ∃ w0, w0 = w.alloc (Obj.cells #[.slice A0 x0.length a0, .slice A1 x1.length a1, .slice A2 x2.length a2, .slice A3 x3.length a3] 60) := ⟨_, rfl⟩
  have BX := Lib.hid (box4.of hw0)
  have hb := (box_later hw0).1
  replace S0 := Lib.hid (S0.out.below hb); replace S1 := Lib.hid (S1.out.below hb); replace S2 := Lib.hid (S2.out.below hb); replace S3 := Lib.hid (S3.out.below hb)
  have HO := Lib.hid (OutI.of_below (lo := lo) (hi := hi) hb)
  have HW0 := Lib.hid hw0; clear hw0 hb
  go_enter Try.func46, Try.ntmps46
  go_wp2_with fail
  rw [← HW0.out]
  refine (laws_markLetterS T lo _ x0 k _ S0.out.1 (by omega) (by omega)).mono ?_
  obtain ⟨k1, hk1⟩ : ∃ n : Nat, k + 2 * x0.length = n := ⟨_, rfl⟩
  have hb1 : k1 ≤ 1000120 := by omega
  have HK1 := Lib.hid hk1; clear hk1
  rw [HK1.out]
  rintro e w1 ⟨rfl, o1, g1⟩
  replace HO := Lib.hid (HO.out.trans (OutI.of_grown (lo := lo) (hi := hi) g1 fun j hj => ⟨(S0.out.1.blk j hj).1, S0.out.2 j hj⟩))
  replace BX := Lib.hid (BX.out.grown g1 F0.out)
  replace S1 := Lib.hid (S1.out.grown g1 (apart_symm N01.out)); replace S2 := Lib.hid (S2.out.grown g1 (apart_symm N02.out)); replace S3 := Lib.hid (S3.out.grown g1 (apart_symm N03.out))
  replace S0 := Lib.hid (show seg _ _ _ _ _ _ from ⟨o1, S0.out.2⟩)
  clear o1 g1
  have c1 := BX.out.c1
  go_wp2_with fail
  clear c1
  refine (laws_markLetterS T lo _ x1 k1 _ S1.out.1 (by omega) (by omega)).mono ?_
  obtain ⟨k2, hk2⟩ : ∃ n : Nat, k1 + 2 * x1.length = n := ⟨_, rfl⟩
  have hb2 : k2 ≤ 1000240 := by omega
  have HK2 := Lib.hid hk2; clear hk2
  rw [HK2.out]
  rintro e w2 ⟨rfl, o2, g2⟩
  replace HO := Lib.hid (HO.out.trans (OutI.of_grown (lo := lo) (hi := hi) g2 fun j hj => ⟨(S1.out.1.blk j hj).1, S1.out.2 j hj⟩))
  replace BX := Lib.hid (BX.out.grown g2 F1.out)
  replace S0 := Lib.hid (S0.out.grown g2 N01.out); replace S2 := Lib.hid (S2.out.grown g2 (apart_symm N12.out)); replace S3 := Lib.hid (S3.out.grown g2 (apart_symm N13.out))
  replace S1 := Lib.hid (show seg _ _ _ _ _ _ from ⟨o2, S1.out.2⟩)
  clear o2 g2
  have c2 := BX.out.c2
  go_wp2_with fail
  clear c2
  refine (laws_markLetterS T lo _ x2 k2 _ S2.out.1 (by omega) (by omega)).mono ?_
  obtain ⟨k3, hk3⟩ : ∃ n : Nat, k2 + 2 * x2.length = n := ⟨_, rfl⟩
  have hb3 : k3 ≤ 1000360 := by omega
  have HK3 := Lib.hid hk3; clear hk3
  rw [HK3.out]
  rintro e w3 ⟨rfl, o3, g3⟩
  replace HO := Lib.hid (HO.out.trans (OutI.of_grown (lo := lo) (hi := hi) g3 fun j hj => ⟨(S2.out.1.blk j hj).1, S2.out.2 j hj⟩))
  replace BX := Lib.hid (BX.out.grown g3 F2.out)
  replace S0 := Lib.hid (S0.out.grown g3 N02.out); replace S1 := Lib.hid (S1.out.grown g3 N12.out); replace S3 := Lib.hid (S3.out.grown g3 (apart_symm N23.out))
  replace S2 := Lib.hid (show seg _ _ _ _ _ _ from ⟨o3, S2.out.2⟩)
  clear o3 g3
  have c3 := BX.out.c3
  go_wp2_with fail
  clear c3
  refine (laws_markLetterS T lo _ x3 k3 _ S3.out.1 (by omega) (by omega)).mono ?_
  obtain ⟨k4, hk4⟩ : ∃ n : Nat, k3 + 2 * x3.length = n := ⟨_, rfl⟩
  have HK4 := Lib.hid hk4; clear hk4
  rw [HK4.out]
  rintro e w4 ⟨rfl, o4, g4⟩
  replace HO := Lib.hid (HO.out.trans (OutI.of_grown (lo := lo) (hi := hi) g4 fun j hj => ⟨(S3.out.1.blk j hj).1, S3.out.2 j hj⟩))
  replace S0 := Lib.hid (S0.out.grown g4 N03.out); replace S1 := Lib.hid (S1.out.grown g4 N13.out); replace S2 := Lib.hid (S2.out.grown g4 N23.out)
  replace S3 := Lib.hid (show seg _ _ _ _ _ _ from ⟨o4, S3.out.2⟩)
  clear o4 g4 BX
  go_wp2_with fail
  go_ret
  refine ⟨ret_int (by rw [HN.out, ← HK4.out, ← HK3.out, ← HK2.out, ← HK1.out]; omega), ?_, HO.out⟩
  refine ⟨_, _, _, _, rfl, S0.out, ?_, ?_, ?_, ⟨N01.out, N02.out, N03.out, N12.out, N13.out, N23.out⟩⟩
  · have := S1.out; rw [← HK1.out] at this; exact this
  · have := S2.out; rw [← HK2.out, ← HK1.out] at this; exact this
  · have := S3.out; rw [← HK3.out, ← HK2.out, ← HK1.out] at this; exact this

set_option maxRecDepth 100000 in
set_option maxHeartbeats 1600000 in
theorem u_hdR (v : Value) (r : Rpt) (k : Nat) (w : World) (hv : rdR w w.heap.size v (marksR k r)) (hk : k ≤ 1000000) (hl : rpt60 r) :
    Calls Try.prog 47 #[v, .int .i64 k] w fun e w' => e = .returned (.int .i64 ((k + rptN r : Nat) : Int)) ∧ Below w.heap.size w w' := by
  obtain ⟨x0, x1, x2, x3⟩ := r
  obtain ⟨hl0, hl1, hl2, hl3⟩ := hl
  simp only at hl0 hl1 hl2 hl3
  have HN : Hid (rptN ⟨x0, x1, x2, x3⟩ = 2 * x0.length + 2 * x1.length + 2 * x2.length + 2 * x3.length) := rfl
  obtain ⟨v0, v1, v2, v3, rfl, s0, s1, s2, s3⟩ := hv
  obtain ⟨n0, hn0⟩ : ∃ n, n = x0.length := ⟨_, rfl⟩
  obtain ⟨n1, hn1⟩ : ∃ n, n = x1.length := ⟨_, rfl⟩
  obtain ⟨n2, hn2⟩ : ∃ n, n = x2.length := ⟨_, rfl⟩
  obtain ⟨n3, hn3⟩ : ∃ n, n = x3.length := ⟨_, rfl⟩
  obtain ⟨k1, hk1⟩ : ∃ n : Nat, k + 2 * n0 = n := ⟨_, rfl⟩
  obtain ⟨k2, hk2⟩ : ∃ n : Nat, k1 + 2 * n1 = n := ⟨_, rfl⟩
  obtain ⟨k3, hk3⟩ : ∃ n : Nat, k2 + 2 * n2 = n := ⟨_, rfl⟩
  obtain ⟨k4, hk4⟩ : ∃ n : Nat, k3 + 2 * n3 = n := ⟨_, rfl⟩
  simp only [marksR, ← hn0, ← hn1, ← hn2, hk1, hk2, hk3] at s0 s1 s2 s3
  rw [← hn3] at s3
  have HE : Hid (k + rptN ⟨x0, x1, x2, x3⟩ = k4) := by show _ = _; rw [HN.out, ← hk4, ← hk3, ← hk2, ← hk1, hn0, hn1, hn2, hn3]; omega
  rw [HE.out]
  rw [← hn0] at hl0; rw [← hn1] at hl1; rw [← hn2] at hl2; rw [← hn3] at hl3
  have hb4 : k4 ≤ 1000480 ∧ k3 ≤ 1000360 ∧ k2 ≤ 1000240 ∧ k1 ≤ 1000120 := by omega
  obtain ⟨hb4, hb3, hb2, hb1⟩ := hb4
  have HK1 := Lib.hid hk1; have HK2 := Lib.hid hk2; have HK3 := Lib.hid hk3; have HK4 := Lib.hid hk4
  clear hk1 hk2 hk3 hk4 hn0 hn1 hn2 hn3 HE HN
  obtain ⟨A0, m0, a0, rfl, hm0, p0, p1, p2⟩ := s0
  have S0 : Hid (rd w w.heap.size (.slice A0 m0 a0) _) := ⟨A0, m0, a0, rfl, hm0, p0, p1, p2⟩
  clear hm0 p0 p1 p2
  obtain ⟨A1, m1, a1, rfl, hm1, p0, p1, p2⟩ := s1
  have S1 : Hid (rd w w.heap.size (.slice A1 m1 a1) _) := ⟨A1, m1, a1, rfl, hm1, p0, p1, p2⟩
  clear hm1 p0 p1 p2
  obtain ⟨A2, m2, a2, rfl, hm2, p0, p1, p2⟩ := s2
  have S2 : Hid (rd w w.heap.size (.slice A2 m2 a2) _) := ⟨A2, m2, a2, rfl, hm2, p0, p1, p2⟩
  clear hm2 p0 p1 p2
  obtain ⟨A3, m3, a3, rfl, hm3, p0, p1, p2⟩ := s3
  have S3 : Hid (rd w w.heap.size (.slice A3 m3 a3) _) := ⟨A3, m3, a3, rfl, hm3, p0, p1, p2⟩
  clear hm3 p0 p1 p2
  obtain ⟨w0, hw0⟩ : ∃ w0, w0 = w.alloc (Obj.cells #[.slice A0 m0 a0, .slice A1 m1 a1, .slice A2 m2 a2, .slice A3 m3 a3] 60) := ⟨_, rfl⟩
  have q0 := box_cells hw0 0 (.slice A0 m0 a0) rfl
  have q1 := box_cells hw0 1 (.slice A1 m1 a1) rfl
  have q2 := box_cells hw0 2 (.slice A2 m2 a2) rfl
  have q3 := box_cells hw0 3 (.slice A3 m3 a3) rfl
  have HT := Lib.hid (box_later hw0).1
  have HW0 := Lib.hid hw0; clear hw0
  have l0 := Below.refl w0.heap.size w0
  replace S0 := Lib.hid (S0.out.on HT.out); replace S1 := Lib.hid (S1.out.on HT.out); replace S2 := Lib.hid (S2.out.on HT.out); replace S3 := Lib.hid (S3.out.on HT.out)
  go_enter Try.func47, Try.ntmps47
  go_wp2_with fail
  rw [← HW0.out]
  refine (laws_heldLetterS _ n0 k _ S0.out (by omega) (by omega)).mono ?_
  rw [HK1.out]
  rintro e w1 ⟨rfl, b1⟩
  have l1 := later_trans l0 b1
  go_wp2_with fail
  refine (laws_heldLetterS _ n1 k1 _ (S1.out.on l1) (by omega) (by omega)).mono ?_
  rw [HK2.out]
  rintro e w2 ⟨rfl, b2⟩
  have l2 := later_trans l1 b2
  go_wp2_with fail
  refine (laws_heldLetterS _ n2 k2 _ (S2.out.on l2) (by omega) (by omega)).mono ?_
  rw [HK3.out]
  rintro e w3 ⟨rfl, b3⟩
  have l3 := later_trans l2 b3
  go_wp2_with fail
  refine (laws_heldLetterS _ n3 k3 _ (S3.out.on l3) (by omega) (by omega)).mono ?_
  rw [HK4.out]
  rintro e w4 ⟨rfl, b4⟩
  have l4 := later_trans l3 b4
  go_wp2_with fail
  go_ret
  exact ⟨rfl, later_trans HT.out l4⟩

/-! ### Marks of a day -/
def segD (T1 T2 lo hi : Nat) (w : World) (v : Value) (d : Dy) : Prop :=
  ∃ vo vf vh, v = .agg #[.int .i64 d.plan.bins, .int .i64 d.plan.passes, vo, vf, vh, .int .i64 d.size] ∧ isI64 d.plan.bins ∧ isI64 d.plan.passes ∧ isI64 d.size ∧ seg T1 lo hi w vo d.plan.order ∧ seg T2 lo hi w vf d.fwds ∧ seg T1 lo hi w vh d.held ∧ (apart vo vf ∧ apart vo vh ∧ apart vf vh)
theorem segD.of {T1 T2 lo : Nat} {w : World} {v : Value} {d : Dy} (h : ownD T1 T2 lo w v d) : segD T1 T2 lo w.heap.size w v d := by
  obtain ⟨vo, vf, vh, h1, h2, h3, h4, h5, h6, h7, h8⟩ := h
  exact ⟨vo, vf, vh, h1, h2, h3, h4, seg.of h5, seg.of h6, seg.of h7, h8⟩
theorem segD.below {T1 T2 lo hi : Nat} {w w' : World} {v : Value} {d : Dy} (h : segD T1 T2 lo hi w v d) (hb : Below w.heap.size w w') : segD T1 T2 lo hi w' v d := by
  obtain ⟨vo, vf, vh, h1, h2, h3, h4, h5, h6, h7, h8⟩ := h
  exact ⟨vo, vf, vh, h1, h2, h3, h4, h5.below hb, h6.below hb, h7.below hb, h8⟩
theorem segD.out {T1 T2 lo hi a b : Nat} {w w' : World} {v : Value} {d : Dy} (h : segD T1 T2 lo hi w v d) (ho : OutI a b w w') (hd : hi ≤ a ∨ b ≤ lo) : segD T1 T2 lo hi w' v d := by
  obtain ⟨vo, vf, vh, h1, h2, h3, h4, h5, h6, h7, h8⟩ := h
  exact ⟨vo, vf, vh, h1, h2, h3, h4, h5.out ho hd, h6.out ho hd, h7.out ho hd, h8⟩
theorem segD.rd {T1 T2 lo hi : Nat} {w : World} {v : Value} {d : Dy} (h : segD T1 T2 lo hi w v d) : rdD w w.heap.size v d := by
  obtain ⟨vo, vf, vh, h1, h2, h3, h4, h5, h6, h7, h8⟩ := h
  exact ⟨vo, vf, vh, h1, h2, h3, h4, h5.rd, h6.rd, h7.rd⟩
def mkD (d : Dy) : Nat := d.plan.order.length + 2 * d.fwds.length + d.held.length
theorem mkD_le (d : Dy) : mkD d ≤ 2 * szD d := by unfold mkD szD szP; omega

set_option maxHeartbeats 800000 in
theorem w_markForwardS (T base : Nat) (v : Value) (xs : List Fwd) (k0 : Nat) (w : World) (hv : own T base w v xs) (hk0 : k0 ≤ 274877906944) (hl : xs.length ≤ 1048576) :
    Calls Try.prog 106 #[v, .int .i64 k0] w fun e w' => e = .returned (.int .i64 ((k0 + 2 * xs.length : Nat) : Int)) ∧ w.grownBy w' v.ownBlock := by
  rcases hv.form with ⟨rfl, rfl⟩ | ⟨g, c, rfl, hg, hgl, hc, hm⟩
  · go_enter Try.func106, Try.ntmps106
    go_wp2
    go_loopw [1, 5] (fun t i wr => i = .int .i64 0 ∧ t = .int .i64 k0 ∧ wr = w) (fun _ _ _ => 0)
    case atStart => exact ⟨rfl, rfl, rfl⟩
    case round =>
      obtain ⟨rfl, rfl, rfl⟩ := hrel
      go_wp2
      go_ret
      exact ⟨ret_int (by simp), World.grownBy.refl _ _⟩
  · unfold maxLen at hm
    have HV := Lib.hid hv; clear hv
    go_enter Try.func106, Try.ntmps106
    go_wp2
    go_loopw [1, 5] (fun t i wr => ∃ (k m : Nat) (ys : List Fwd), k ≤ xs.length ∧ i = .int .i64 k ∧ t = .int .i64 m ∧ Hid (m = k0 + 2 * k) ∧ w.grownBy wr (some g) ∧ Hid (ys.length = xs.length) ∧ own T base wr (.slice (some ⟨g, 0, none⟩) xs.length c) ys) (fun _ i _ => xs.length - (intOf i).toNat)
    case atStart => exact ⟨0, k0, xs, Nat.zero_le _, rfl, rfl, rfl, World.grownBy.refl _ _, rfl, HV.out⟩
    case round =>
      obtain ⟨k, m, ys, hk, rfl, rfl, HM, hgr, HLEN, ho⟩ := hrel
      obtain ⟨w1, rfl⟩ : ∃ w1 : World, w1 = wr := ⟨_, rfl⟩
      have hmb : (m : Int) ≤ 824633720832 := by have := HM.out; omega
      by_cases hlt : k < xs.length
      · have hlt' : k < ys.length := by rw [HLEN.out]; exact hlt
        have HO := Lib.hid ho; clear ho
        have hki : (k : Int) < (xs.length : Int) := by omega
        go_wp2_with fail
        refine (laws_markText m _ (by omega)).mono ?_
        rintro e w2 ⟨rfl, b2⟩
        have hgr2 : w.grownBy w2 (some g) := grown_below hgr b2
        have ho2 := HO.out.below b2
        obtain ⟨u0, g0⟩ := ho2.cellAt (j := k * 2) (by show _ < _ * 2; omega)
        have f0 := ho2.freeAt (k * 2)
        have ho3 := ho2.setCell (k := k) (j := 0) hlt' (by decide) (.string (markB m)) ⟨markB m, ys[k].dst⟩ (fun ecs he => by
          obtain ⟨⟨h1, h2⟩, rfl⟩ := he
          exact ⟨⟨markB_size m (by omega), h2⟩, rfl⟩)
        have HO3 := Lib.hid ho3; clear ho3 ho2 b2
        have hgr3 : w.grownBy (w2.setCell ⟨g, k * 2, none⟩ (.string (markB m))) (some g) := grown_setCell hgr2 (.inl rfl) _
        go_wp2_with fail
        clear g0 f0
        refine (laws_markText (m + 1) _ (by omega)).mono ?_
        rintro e w4 ⟨rfl, b4⟩
        have hgr4 : w.grownBy w4 (some g) := grown_below hgr3 b4
        have ho4 := HO3.out.below b4
        have hlt2 : k < (ys.set k ⟨markB m, ys[k].dst⟩).length := by simpa using hlt'
        obtain ⟨u1, g1⟩ := ho4.cellAt (j := k * 2 + 1) (by show _ < _ * 2; rw [List.length_set]; omega)
        have f1 := ho4.freeAt (k * 2 + 1)
        have ho5 := ho4.setCell (k := k) (j := 1) hlt2 (by decide) (.string (markB (m + 1))) ⟨markB m, markB (m + 1)⟩ (fun ecs he => by
          obtain ⟨⟨h1, h2⟩, rfl⟩ := he
          refine ⟨⟨?_, markB_size (m + 1) (by omega)⟩, ?_⟩
          · simpa using h1
          · simp [Fwd.cells])
        have HO5 := Lib.hid ho5; clear ho5 ho4 b4
        have HG5 : Hid (w.grownBy (w4.setCell ⟨g, k * 2 + 1, none⟩ (.string (markB (m + 1)))) (some g)) := grown_setCell hgr4 (.inl rfl) _
        clear hgr hgr2 hgr3 hgr4
        go_wp2_with fail
        go_roundw
        case rel => exact ⟨k + 1, m + 2, _, by omega, by go_num, by go_num, by show _ = _; have := HM.out; omega, HG5.out, by show _ = _; rw [List.length_set, List.length_set]; exact HLEN.out, HO5.out⟩
        case measure => simp [intOf]; omega
      · have HE := Lib.hid (show k = xs.length by omega)
        have HO := Lib.hid ho; clear ho
        go_wp2
        go_ret
        exact ⟨ret_int (by have := HM.out; have := HE.out; omega), hgr⟩

theorem w_markPlan (T base : Nat) (p : Pln) (vo : Value) (k : Nat) (w : World) (hv : own T base w vo p.order) (hk : k ≤ 274877906944) (hl : p.order.length ≤ 1048576) :
    Calls Try.prog 22 #[.agg #[.int .i64 p.bins, .int .i64 p.passes, vo], .int .i64 k] w fun e w' => e = .returned (.int .i64 ((k + p.order.length : Nat) : Int)) ∧ w.grownBy w' vo.ownBlock := by
  have H4 := Lib.hid hv
  obtain ⟨A0, n0, c0, rfl, hn0, _⟩ := hv.rd
  subst hn0
  clear hv
  have HB : Hid (Below w.heap.size w (w.alloc (Obj.cells #[.int .i64 p.bins, .int .i64 p.passes, .slice A0 p.order.length c0] 32))) := (Below.refl _ _).alloc (Nat.le_refl _) _
  go_enter Try.func22, Try.ntmps22
  go_wp2_with fail
  refine (laws_markStringS T base _ p.order k _ (H4.out.below HB.out) hk hl).mono ?_
  rintro e w1 ⟨rfl, o1, g1⟩
  have HO := Lib.hid (grown_trans' (grown_below (World.grownBy.refl w _) HB.out) g1)
  clear o1 g1
  go_wp2_with fail
  go_ret
  exact ⟨rfl, HO.out⟩

theorem box6_grown {g i : Nat} {u : Value} {w w' : World} {row : Option Nat} (h : g < w.heap.size) (hc : w.cell? ⟨g, i, none⟩ = some u) (hg : w.grownBy w' row) (hne : some g ≠ row) : w'.cell? ⟨g, i, none⟩ = some u := (hg.cell_far ⟨g, i, none⟩ h hne).trans hc

set_option maxRecDepth 100000 in
set_option maxHeartbeats 1600000 in
theorem u_wmD (T1 T2 lo hi : Nat) (v : Value) (d : Dy) (k : Nat) (w : World) (hv : segD T1 T2 lo hi w v d) (hk : k ≤ 1099511627) (hs : szD d ≤ 1048576) :
    Calls Try.prog 45 #[v, .int .i64 k] w fun e w' => e = .returned (.int .i64 ((k + mkD d : Nat) : Int)) ∧ OutI lo hi w w' := by
  obtain ⟨vo, vf, vh, rfl, _, _, _, s0, s1, s2, n01, n02, n12⟩ := hv
  have HL : Hid (d.plan.order.length ≤ 1048576 ∧ d.fwds.length ≤ 1048576 ∧ d.held.length ≤ 1048576) := by unfold szD szP at hs; exact ⟨by omega, by omega, by omega⟩
  clear hs
  obtain ⟨hl0, hl1, hl2⟩ := HL.out
  have HN : Hid (mkD d = d.plan.order.length + 2 * d.fwds.length + d.held.length) := rfl
  have S0 := Lib.hid s0; have S1 := Lib.hid s1; have S2 := Lib.hid s2
  have N01 := Lib.hid n01; have N02 := Lib.hid n02; have N12 := Lib.hid n12
  have F0 : Hid (some w.heap.size ≠ vo.ownBlock) := fun e => Nat.lt_irrefl _ (s0.1.blk _ e.symm).2
  have F1 : Hid (some w.heap.size ≠ vf.ownBlock) := fun e => Nat.lt_irrefl _ (s1.1.blk _ e.symm).2
  obtain ⟨A0, m0, a0, rfl, hm0, _, _, _⟩ := s0.rd
  obtain ⟨A1, m1, a1, rfl, hm1, _, _, _⟩ := s1.rd
  obtain ⟨A2, m2, a2, rfl, hm2, _, _, _⟩ := s2.rd
  subst hm0 hm1 hm2
  clear s0 s1 s2 n01 n02 n12
  obtain ⟨w0, hw0⟩ : ∃ w0, w0 = w.alloc (Obj.cells #[.int .i64 d.plan.bins, .int .i64 d.plan.passes, .slice A0 d.plan.order.length a0, .slice A1 d.fwds.length a1, .slice A2 d.held.length a2, .int .i64 d.size] 65) := ⟨_, rfl⟩
  have HC3 := Lib.hid (box_cells hw0 3 (.slice A1 d.fwds.length a1) rfl w0 (Below.refl _ _))
  have HC4 := Lib.hid (box_cells hw0 4 (.slice A2 d.held.length a2) rfl w0 (Below.refl _ _))
  have HLT := Lib.hid (box_later hw0).2
  have hb := (box_later hw0).1
  replace S0 := Lib.hid (S0.out.below hb); replace S1 := Lib.hid (S1.out.below hb); replace S2 := Lib.hid (S2.out.below hb)
  have HO := Lib.hid (OutI.of_below (lo := lo) (hi := hi) hb)
  have HW0 := Lib.hid hw0; clear hw0 hb
  go_enter Try.func45, Try.ntmps45
  go_wp2_with fail
  rw [← HW0.out]
  refine (w_markPlan T1 lo d.plan _ k _ S0.out.1 (by omega) hl0).mono ?_
  obtain ⟨k1, hk1⟩ : ∃ n : Nat, k + d.plan.order.length = n := ⟨_, rfl⟩
  have hb1 : k1 ≤ 1200000000 := by omega
  have HK1 := Lib.hid hk1; clear hk1
  rw [HK1.out]
  rintro e w1 ⟨rfl, g1⟩
  replace HO := Lib.hid (HO.out.trans (OutI.of_grown (lo := lo) (hi := hi) g1 fun j hj => ⟨(S0.out.1.blk j hj).1, S0.out.2 j hj⟩))
  have c3 := box6_grown HLT.out HC3.out g1 F0.out
  replace HC4 := Lib.hid (box6_grown HLT.out HC4.out g1 F0.out)
  replace HLT := Lib.hid (Nat.lt_of_lt_of_le HLT.out g1.size)
  replace S1 := Lib.hid (S1.out.grown g1 (apart_symm N01.out)); replace S2 := Lib.hid (S2.out.grown g1 (apart_symm N02.out))
  clear g1
  go_wp2_with fail
  clear c3
  refine (w_markForwardS T2 lo _ d.fwds k1 _ S1.out.1 (by omega) hl1).mono ?_
  obtain ⟨k2, hk2⟩ : ∃ n : Nat, k1 + 2 * d.fwds.length = n := ⟨_, rfl⟩
  have hb2 : k2 ≤ 1300000000 := by omega
  have HK2 := Lib.hid hk2; clear hk2
  rw [HK2.out]
  rintro e w2 ⟨rfl, g2⟩
  replace HO := Lib.hid (HO.out.trans (OutI.of_grown (lo := lo) (hi := hi) g2 fun j hj => ⟨(S1.out.1.blk j hj).1, S1.out.2 j hj⟩))
  have c4 := box6_grown HLT.out HC4.out g2 F1.out
  replace S2 := Lib.hid (S2.out.grown g2 (apart_symm N12.out))
  clear g2
  go_wp2_with fail
  clear c4
  refine (laws_markStringS T1 lo _ d.held k2 _ S2.out.1 (by omega) hl2).mono ?_
  obtain ⟨k3, hk3⟩ : ∃ n : Nat, k2 + d.held.length = n := ⟨_, rfl⟩
  have HK3 := Lib.hid hk3; clear hk3
  rw [HK3.out]
  rintro e w3 ⟨rfl, o3, g3⟩
  replace HO := Lib.hid (HO.out.trans (OutI.of_grown (lo := lo) (hi := hi) g3 fun j hj => ⟨(S2.out.1.blk j hj).1, S2.out.2 j hj⟩))
  clear o3 g3
  go_wp2_with fail
  go_ret
  exact ⟨ret_int (by rw [HN.out, ← HK3.out, ← HK2.out, ← HK1.out]; omega), HO.out⟩

end Go.Proofs.Ytiaepapdofcnjaa

namespace Go.Proofs.Ytiaepapdofcnjaa
open Go.RowKit
theorem impl_RunDay' (v vb : Value) (d : Dy) (xs : List Ltr) (w : World) (hv : rdD w w.heap.size v d) (hb : rd w w.heap.size vb xs) :
    Calls Try.prog 42 #[v, vb] w fun e w' => ∃ vR, e = .returned (.tuple #[vR, .bool (rdOk d xs)]) ∧ ownR 103 w.heap.size w' vR (rptOf d xs) ∧ Below w.heap.size w w' := impl_RunDay v vb d xs w hv hb
theorem spec_RunDay' (v vb : Value) (d : Dy) (xs : List Ltr) (w : World) (hv : rdD w w.heap.size v d) (hb : rd w w.heap.size vb xs) :
    Calls Try.prog 40 #[v, vb] w fun e w' => ∃ vR, e = .returned (.tuple #[vR, .bool (rdOk d xs)]) ∧ ownR 103 w.heap.size w' vR (rptOf d xs) ∧ Below w.heap.size w w' := spec_RunDay v vb d xs w hv hb

end Go.Proofs.Ytiaepapdofcnjaa
