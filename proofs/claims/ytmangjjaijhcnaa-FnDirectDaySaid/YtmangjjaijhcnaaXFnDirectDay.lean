/- FnDirectDay: the walk of the law. Written by gen_ld.py. -/
import Derived.Test.YtmangjjaijhcnaaQ28
import Derived.Test.YtmangjjaijhcnaaQ26
import Derived.Test.YtmangjjaijhcnaaQ41
import Derived.Test.YtmangjjaijhcnaaQ20
import Derived.Test.YtmangjjaijhcnaaQ36
import Derived.Deep.RegionHeld3
namespace Go.Proofs.Ytmangjjaijhcnaa
open Go.RowKit

theorem rdD.parts3 {w : World} {a b c : Value} {A0 A1 A2 : Option Addr} {n0 n1 n2 c0 c1 c2 : Nat} {d : Dy} (h : rdD w w.heap.size (.agg #[a, b, .slice A0 n0 c0, .slice A1 n1 c1, .slice A2 n2 c2, c]) d) : rd w w.heap.size (.slice A1 n1 c1) d.fwds := by
  obtain ⟨vo, vf, vh, e, _, _, _, _, hf, _⟩ := h
  injection e with e
  injection e with e
  simp only [List.cons.injEq, and_true] at e
  obtain ⟨_, _, _, e3, _, _⟩ := e
  rw [e3]
  exact hf
theorem rdD.setF3 {w : World} {a b c vg : Value} {A0 A1 A2 : Option Addr} {n0 n1 n2 c0 c1 c2 : Nat} {d : Dy} {gs : List Fwd} (h : rdD w w.heap.size (.agg #[a, b, .slice A0 n0 c0, .slice A1 n1 c1, .slice A2 n2 c2, c]) d) (hg : rd w w.heap.size vg gs) :
    rdD w w.heap.size (.agg #[a, b, .slice A0 n0 c0, vg, .slice A2 n2 c2, c]) ⟨d.plan, gs, d.held, d.size⟩ := by
  obtain ⟨vo, vf, vh, e, i1, i2, i3, ho, hf, hh⟩ := h
  injection e with e
  injection e with e
  simp only [List.cons.injEq, and_true] at e
  obtain ⟨e0, e1, e2, e3, e4, e5⟩ := e
  subst e0 e1 e2 e4 e5
  exact ⟨_, vg, _, rfl, i1, i2, i3, ho, hg, hh⟩

set_option maxRecDepth 100000 in
set_option maxHeartbeats 1500000 in
theorem walk_FnDirectDay (w : World) (v : Value) (bs : List UInt8) (hv : rd w w.heap.size v bs) :
    Calls Try.prog 3 #[v] w fun e w' => e = .returned (.bool true) ∧ Below w.heap.size w w' := by
  have hv0 := hv
  obtain ⟨A, n, c, rfl, hn, hc, hm, _⟩ := hv
  subst hn
  unfold maxLen at hm
  go_enter Try.func3, Try.ntmps3
  by_cases hsz : 1048576 < bs.length
  · go_wp2_with fail
    go_ret
    exact ⟨rfl, Below.refl _ _⟩
  go_wp2_with fail
  refine (draw_DrawRunDay _ bs w hv0).mono ?_
  rintro e w1 ⟨vd, vb, d, xs, rfl, oz, ob, hxl, hol, hfl, hhl, b1⟩
  have hvd := oz.rd
  obtain ⟨A0, c0, A1, c1, A2, c2, e0⟩ := openD hvd
  obtain ⟨w0, hw0⟩ : ∃ w0, w0 = w1.alloc (Obj.cells #[.int .i64 d.plan.bins, .int .i64 d.plan.passes, .slice A0 d.plan.order.length c0, .slice A1 d.fwds.length c1, .slice A2 d.held.length c2, .int .i64 d.size] 28) := ⟨_, rfl⟩
  have q0 := box_cells hw0 0 (.int .i64 d.plan.bins) rfl
  have q1 := box_cells hw0 1 (.int .i64 d.plan.passes) rfl
  have q2 := box_cells hw0 2 (.slice A0 d.plan.order.length c0) rfl
  have q3 := box_cells hw0 3 (.slice A1 d.fwds.length c1) rfl
  have q4 := box_cells hw0 4 (.slice A2 d.held.length c2) rfl
  have q5 := box_cells hw0 5 (.int .i64 d.size) rfl
  have HT := Lib.hid (box_later hw0).1
  have HD := Lib.hid (hvd.on HT.out)
  subst e0
  have HB := Lib.hid (ob.rd.on HT.out)
  have HWB : Hid (Below w.heap.size w w0) := b1.trans (HT.out.mono b1.size)
  have HW0 := Lib.hid hw0
  have l0 := Below.refl w0.heap.size w0
  clear hw0 hvd oz ob b1 HT hv0
  obtain ⟨R, hR⟩ : ∃ R, R = rptOf d xs := ⟨_, rfl⟩
  have HRE : Hid (rptOf d xs = R) := hR.symm
  clear hR
  go_wp2_with fail
  rw [← HW0.out]
  refine (impl_RunDay _ _ d xs _ (HD.out.on l0) (HB.out.on l0)).mono ?_
  rintro e w3a ⟨vR, rfl, oR, bR⟩
  have lR := later_trans l0 bR
  rw [HRE.out] at oR
  obtain ⟨v0, v1, v2, v3, rfl, o0, o1, o2, o3, _⟩ := oR
  have hr0 := o0.rd
  obtain ⟨rA0, n0, rc0, rfl, rfl, _, _, _⟩ := o0.rd
  have hr1 := o1.rd
  obtain ⟨rA1, n1, rc1, rfl, rfl, _, _, _⟩ := o1.rd
  have hr2 := o2.rd
  obtain ⟨rA2, n2, rc2, rfl, rfl, _, _, _⟩ := o2.rd
  have hr3 := o3.rd
  obtain ⟨rA3, n3, rc3, rfl, rfl, _, _, _⟩ := o3.rd
  obtain ⟨w3, hwn⟩ : ∃ u, u = w3a.alloc (Obj.cells #[.slice rA0 R.round.length rc0, .slice rA1 R.strange.length rc1, .slice rA2 R.held.length rc2, .slice rA3 R.stuck.length rc3] 33) := ⟨_, rfl⟩
  have r0 := box_cells hwn 0 (.slice rA0 R.round.length rc0) rfl
  have r1 := box_cells hwn 1 (.slice rA1 R.strange.length rc1) rfl
  have r2 := box_cells hwn 2 (.slice rA2 R.held.length rc2) rfl
  have r3 := box_cells hwn 3 (.slice rA3 R.stuck.length rc3) rfl
  have hT := (box_later hwn).1
  have HWN := Lib.hid hwn
  clear hwn
  have R0 := Lib.hid (hr0.on hT)
  have R1 := Lib.hid (hr1.on hT)
  have R2 := Lib.hid (hr2.on hT)
  have R3 := Lib.hid (hr3.on hT)
  have HTN := Lib.hid hT
  clear hT bR l0 hr0 hr1 hr2 hr3 o0 o1 o2 o3
  go_wp2_with fail
  rw [← HWN.out]
  have lN := later_trans lR HTN.out
  replace q0 := fun W (h : Below w3.heap.size w3 W) => q0 W (later_trans lN h)
  replace q1 := fun W (h : Below w3.heap.size w3 W) => q1 W (later_trans lN h)
  replace q2 := fun W (h : Below w3.heap.size w3 W) => q2 W (later_trans lN h)
  replace q3 := fun W (h : Below w3.heap.size w3 W) => q3 W (later_trans lN h)
  replace q4 := fun W (h : Below w3.heap.size w3 W) => q4 W (later_trans lN h)
  replace q5 := fun W (h : Below w3.heap.size w3 W) => q5 W (later_trans lN h)
  replace HD := Lib.hid (HD.out.on lN)
  replace HB := Lib.hid (HB.out.on lN)
  replace HWB := Lib.hid (HWB.out.trans (lN.mono HWB.out.size))
  have lw3 := Below.refl w3.heap.size w3
  clear lN lR HTN HWN
  refine (spec_RunDay _ _ d xs _ (HD.out.on lw3) (HB.out.on lw3)).mono ?_
  rintro e w5a ⟨vR, rfl, oR, bR⟩
  have lR := later_trans lw3 bR
  rw [HRE.out] at oR
  obtain ⟨v0, v1, v2, v3, rfl, o0, o1, o2, o3, _⟩ := oR
  have hr0 := o0.rd
  obtain ⟨sA0, n0, sc0, rfl, rfl, _, _, _⟩ := o0.rd
  have hr1 := o1.rd
  obtain ⟨sA1, n1, sc1, rfl, rfl, _, _, _⟩ := o1.rd
  have hr2 := o2.rd
  obtain ⟨sA2, n2, sc2, rfl, rfl, _, _, _⟩ := o2.rd
  have hr3 := o3.rd
  obtain ⟨sA3, n3, sc3, rfl, rfl, _, _, _⟩ := o3.rd
  obtain ⟨w5, hwn⟩ : ∃ u, u = w5a.alloc (Obj.cells #[.slice sA0 R.round.length sc0, .slice sA1 R.strange.length sc1, .slice sA2 R.held.length sc2, .slice sA3 R.stuck.length sc3] 33) := ⟨_, rfl⟩
  have s0 := box_cells hwn 0 (.slice sA0 R.round.length sc0) rfl
  have s1 := box_cells hwn 1 (.slice sA1 R.strange.length sc1) rfl
  have s2 := box_cells hwn 2 (.slice sA2 R.held.length sc2) rfl
  have s3 := box_cells hwn 3 (.slice sA3 R.stuck.length sc3) rfl
  have hT := (box_later hwn).1
  have HWN := Lib.hid hwn
  clear hwn
  have S0 := Lib.hid (hr0.on hT)
  have S1 := Lib.hid (hr1.on hT)
  have S2 := Lib.hid (hr2.on hT)
  have S3 := Lib.hid (hr3.on hT)
  have HTN := Lib.hid hT
  clear hT bR lw3 hr0 hr1 hr2 hr3 o0 o1 o2 o3
  go_wp2_with fail
  rw [← HWN.out]
  have lN := later_trans lR HTN.out
  replace q0 := fun W (h : Below w5.heap.size w5 W) => q0 W (later_trans lN h)
  replace q1 := fun W (h : Below w5.heap.size w5 W) => q1 W (later_trans lN h)
  replace q2 := fun W (h : Below w5.heap.size w5 W) => q2 W (later_trans lN h)
  replace q3 := fun W (h : Below w5.heap.size w5 W) => q3 W (later_trans lN h)
  replace q4 := fun W (h : Below w5.heap.size w5 W) => q4 W (later_trans lN h)
  replace q5 := fun W (h : Below w5.heap.size w5 W) => q5 W (later_trans lN h)
  replace r0 := fun W (h : Below w5.heap.size w5 W) => r0 W (later_trans lN h)
  replace r1 := fun W (h : Below w5.heap.size w5 W) => r1 W (later_trans lN h)
  replace r2 := fun W (h : Below w5.heap.size w5 W) => r2 W (later_trans lN h)
  replace r3 := fun W (h : Below w5.heap.size w5 W) => r3 W (later_trans lN h)
  replace HD := Lib.hid (HD.out.on lN)
  replace HB := Lib.hid (HB.out.on lN)
  replace R0 := Lib.hid (R0.out.on lN)
  replace R1 := Lib.hid (R1.out.on lN)
  replace R2 := Lib.hid (R2.out.on lN)
  replace R3 := Lib.hid (R3.out.on lN)
  replace HWB := Lib.hid (HWB.out.trans (lN.mono HWB.out.size))
  have lw5 := Below.refl w5.heap.size w5
  clear lN lR HTN HWN
  have htt : ((true : Bool) != true) = false := rfl
  have hff : ((false : Bool) != false) = false := rfl
  have hfe : ((false : Bool) == false) = true := rfl
  cases hrd : rdOk d xs
  · have HRD := Lib.hid hrd; clear hrd
    refine (so_reports _ _ R _ ⟨_, _, _, _, rfl, R0.out.on lw5, R1.out.on lw5, R2.out.on lw5, R3.out.on lw5⟩ ⟨_, _, _, _, rfl, S0.out.on lw5, S1.out.on lw5, S2.out.on lw5, S3.out.on lw5⟩).mono ?_
    rintro e w6 ⟨rfl, b⟩
    have l6 := later_trans lw5 b
    clear b lw5
    go_wp2_with fail
    refine (so_reports _ _ R _ ⟨_, _, _, _, rfl, R0.out.on l6, R1.out.on l6, R2.out.on l6, R3.out.on l6⟩ ⟨_, _, _, _, rfl, S0.out.on l6, S1.out.on l6, S2.out.on l6, S3.out.on l6⟩).mono ?_
    rintro e w7 ⟨rfl, b⟩
    have l7 := later_trans l6 b
    clear b l6
    go_wp2_with fail
    go_ret
    exact ⟨rfl, HWB.out.trans (l7.mono HWB.out.size)⟩
  have HRD := Lib.hid hrd
  have HFO : Hid (fwdsOk d.fwds = true) := (rdOk_iff.1 hrd).1.2.1
  clear hrd
  refine (so_reports _ _ R _ ⟨_, _, _, _, rfl, R0.out.on lw5, R1.out.on lw5, R2.out.on lw5, R3.out.on lw5⟩ ⟨_, _, _, _, rfl, S0.out.on lw5, S1.out.on lw5, S2.out.on lw5, S3.out.on lw5⟩).mono ?_
  rintro e w6 ⟨rfl, b⟩
  have l6 := later_trans lw5 b
  clear b lw5
  obtain ⟨w7, hw7⟩ : ∃ u, u = w6.alloc (Obj.cells #[.int .i64 d.plan.bins, .int .i64 d.plan.passes, .slice A0 d.plan.order.length c0, .slice A1 d.fwds.length c1, .slice A2 d.held.length c2, .int .i64 d.size] 28) := ⟨_, rfl⟩
  have hb7 : w7.heap[w6.heap.size]? = some (.cells #[.int .i64 d.plan.bins, .int .i64 d.plan.passes, .slice A0 d.plan.order.length c0, .slice A1 d.fwds.length c1, .slice A2 d.held.length c2, .int .i64 d.size] 28 (0, 0)) := by rw [hw7]; exact heap_alloc_new w6 _
  have l7 := later_trans l6 (box_later hw7).1
  have hz7 : w7.heap.size = w6.heap.size + 1 := by rw [hw7]; simp
  have qq3 := q3 _ l7
  rw [hw7] at qq3
  have HF7 := Lib.hid (HD.out.on l7).parts3
  have HW7 := Lib.hid hw7
  clear hw7
  go_wp2_with fail
  rw [← HW7.out]
  clear qq3
  refine (impl_DirectForwards _ d.fwds _ HF7.out HFO.out).mono ?_
  rintro e w8 ⟨vg, gs, rfl, og, hpg, b8⟩
  have l8 := later_trans l7 b8
  have hb8 := (b8.block w6.heap.size (by omega)).trans hb7
  have OG := Lib.hid og
  obtain ⟨Ag, ng, cg, rfl, hng, _, _, _⟩ := og.rd
  have HNG := Lib.hid hng
  have HPG := Lib.hid hpg
  have hz8 := b8.size
  clear hng hpg og b8 hb7
  obtain ⟨d0, d1, d2, d3, d4, d5⟩ := cells6 hb8
  have df := blk_free hb8
  obtain ⟨w9, hw9⟩ : ∃ u, u = w8.setCell ⟨w6.heap.size, 3, none⟩ (.slice Ag ng cg) := ⟨_, rfl⟩
  have hb9 : w9.heap[w6.heap.size]? = some (.cells #[.int .i64 d.plan.bins, .int .i64 d.plan.passes, .slice A0 d.plan.order.length c0, .slice Ag ng cg, .slice A2 d.held.length c2, .int .i64 d.size] 28 (0, 0)) := by rw [hw9]; exact blk_set hb8 3 _
  have hg9 : w8.grownBy w9 (some w6.heap.size) := by rw [hw9]; exact grown_setCell (p := ⟨w6.heap.size, 3, none⟩) (World.grownBy.refl w8 (some w6.heap.size)) (.inl rfl) _
  have hs6 := l6.size
  have l9 : Below w5.heap.size w5 w9 := l8.grown hg9 l8.size (fun r e => by injection e; omega)
  have OG9 := Lib.hid (OG.out.grown hg9 (own_ne OG.out (by omega)))
  have hz9 : w6.heap.size < w9.heap.size := by have := hg9.size; omega
  have HW9 := Lib.hid hw9
  clear hw9 hg9 OG
  go_wp2_with fail
  rw [← HW9.out]
  clear d0 d1 d2 d3 d4 d5 df hb8
  replace q0 := fun W (h : Below w9.heap.size w9 W) => q0 W (later_trans l9 h)
  replace q1 := fun W (h : Below w9.heap.size w9 W) => q1 W (later_trans l9 h)
  replace q2 := fun W (h : Below w9.heap.size w9 W) => q2 W (later_trans l9 h)
  replace q3 := fun W (h : Below w9.heap.size w9 W) => q3 W (later_trans l9 h)
  replace q4 := fun W (h : Below w9.heap.size w9 W) => q4 W (later_trans l9 h)
  replace q5 := fun W (h : Below w9.heap.size w9 W) => q5 W (later_trans l9 h)
  replace r0 := fun W (h : Below w9.heap.size w9 W) => r0 W (later_trans l9 h)
  replace r1 := fun W (h : Below w9.heap.size w9 W) => r1 W (later_trans l9 h)
  replace r2 := fun W (h : Below w9.heap.size w9 W) => r2 W (later_trans l9 h)
  replace r3 := fun W (h : Below w9.heap.size w9 W) => r3 W (later_trans l9 h)
  replace HD := Lib.hid (HD.out.on l9)
  replace HB := Lib.hid (HB.out.on l9)
  replace R0 := Lib.hid (R0.out.on l9)
  replace R1 := Lib.hid (R1.out.on l9)
  replace R2 := Lib.hid (R2.out.on l9)
  replace R3 := Lib.hid (R3.out.on l9)
  replace HWB := Lib.hid (HWB.out.trans (l9.mono HWB.out.size))
  have z0 := fun W (h : Below w9.heap.size w9 W) => (h.cell (p := ⟨w6.heap.size, 0, none⟩) hz9).trans (cells6 hb9).1
  have z1 := fun W (h : Below w9.heap.size w9 W) => (h.cell (p := ⟨w6.heap.size, 1, none⟩) hz9).trans (cells6 hb9).2.1
  have z2 := fun W (h : Below w9.heap.size w9 W) => (h.cell (p := ⟨w6.heap.size, 2, none⟩) hz9).trans (cells6 hb9).2.2.1
  have z3 := fun W (h : Below w9.heap.size w9 W) => (h.cell (p := ⟨w6.heap.size, 3, none⟩) hz9).trans (cells6 hb9).2.2.2.1
  have z4 := fun W (h : Below w9.heap.size w9 W) => (h.cell (p := ⟨w6.heap.size, 4, none⟩) hz9).trans (cells6 hb9).2.2.2.2.1
  have z5 := fun W (h : Below w9.heap.size w9 W) => (h.cell (p := ⟨w6.heap.size, 5, none⟩) hz9).trans (cells6 hb9).2.2.2.2.2
  have HD2 : Hid (rdD w9 w9.heap.size (.agg #[.int .i64 d.plan.bins, .int .i64 d.plan.passes, .slice A0 d.plan.order.length c0, .slice Ag ng cg, .slice A2 d.held.length c2, .int .i64 d.size]) ⟨d.plan, gs, d.held, d.size⟩) := HD.out.setF3 OG9.out.rd
  have HDR := Lib.hid (direct_day HRD.out HPG.out)
  clear hb9 HW9 HW7 hz7 hz8 hz9 hs6 l6 l7 l8 l9 HNG HPG HF7
  have lw0 := Below.refl w9.heap.size w9
  rw [HRE.out] at HDR
  obtain ⟨hd1, hd2, hd3, hd4, hd5, hd6, hd7⟩ := HDR.out
  have HLN : Hid (R.round.length ≤ 60 ∧ R.strange.length ≤ 60 ∧ R.held.length ≤ 60) := by
    obtain ⟨n0, n1, n2, n3⟩ := rptOf_len d xs
    rw [HRE.out] at n0 n1 n2 n3
    exact ⟨by omega, by omega, by omega⟩
  obtain ⟨n0, n1, n2⟩ := HLN.out
  have HV0 : Hid (∀ W, Below w9.heap.size w9 W → rd W W.heap.size (.slice rA0 R.round.length rc0) R.round) := fun W h => R0.out.on h
  have HV1 : Hid (∀ W, Below w9.heap.size w9 W → rd W W.heap.size (.slice rA1 R.strange.length rc1) R.strange) := fun W h => R1.out.on h
  have HV2 : Hid (∀ W, Below w9.heap.size w9 W → rd W W.heap.size (.slice rA2 R.held.length rc2) R.held) := fun W h => R2.out.on h
  have oE := own.made0 (α := Ltr) w9 55 (Nat.le_refl _)
  have oED : own (α := Ltr) 55 w9.heap.size (w9.drew.alloc (Obj.cells #[] 55)) (.slice (some ⟨w9.heap.size, 0, none⟩) 0 0) [] := own.made0 w9.drew _ (Nat.le_refl _)
  have lE : Below w9.heap.size w9 (w9.alloc (Obj.cells #[] 55)) := (Below.refl _ _).alloc (Nat.le_refl _) _
  have lE1 : Below w9.heap.size w9 (w9.alloc (Obj.cells #[] 55)).drew := lE.drew
  have lE2 : Below w9.heap.size w9 (w9.drew.alloc (Obj.cells #[] 55)) := ((Below.refl _ _).drew).alloc (Nat.le_refl _) _
  have lw0d := (Below.refl w9.heap.size w9).drew
  obtain ⟨i0, hi, hz0, hz1, hz2⟩ := info_parts Try.infoLtr
  go_wp2_with fail
  go_region_held3 (fun W => Below w9.heap.size w9 W) (first | exact lw0d | exact lE2 | exact lE1 | exact l23 | exact l22 | exact l21 | fail) (first | (refine step_appendAll (α := Ltr) (by rfl) (.tmp 61) (.tmp 63) 29 (by rfl) w9.heap.size 55 i0 _ 24 Try.underlying29 hi hz0 hz1 hz2 rfl (by decide) (.slice (some ⟨w9.heap.size, 0, none⟩) 0 0) [] (by rfl) (by first | exact oE | exact oE.drew | exact oED) _ R.round (by rfl) _ (HV0.out _ (by first | exact lE | exact lE1 | exact lE2)) (by unfold maxLen; (try simp only [List.length_nil, List.length_append]); omega) (by (try simp only [List.length_nil, List.length_append]); omega) (by simp) ?_; intro v21 w21 o21 hg21 _; have l21 : Below w9.heap.size w9 w21 := (by first | exact lE.trans (below_append oE hg21 (by simp)) | exact lE1.trans (below_append oE.drew hg21 (by simp)) | exact lE2.trans (below_append oED hg21 (by simp))); rw [List.nil_append] at o21; have hz21 := l21.size) | (refine step_appendAll (α := Ltr) (by rfl) (.tmp 64) (.tmp 66) 29 (by rfl) w9.heap.size 55 i0 _ 24 Try.underlying29 hi hz0 hz1 hz2 rfl (by decide) v21 R.round (by rfl) o21 _ R.strange (by rfl) _ (HV1.out _ l21) (by unfold maxLen; (try simp only [List.length_nil, List.length_append]); omega) (by (try simp only [List.length_nil, List.length_append]); omega) hz21 ?_; intro v22 w22 o22 hg22 _; have l22 : Below w9.heap.size w9 w22 := l21.trans (below_append o21 hg22 hz21); have hz22 := l22.size) | (refine step_appendAll (α := Ltr) (by rfl) (.tmp 67) (.tmp 69) 29 (by rfl) w9.heap.size 55 i0 _ 24 Try.underlying29 hi hz0 hz1 hz2 rfl (by decide) v22 (R.round ++ R.strange) (by rfl) o22 _ R.held (by rfl) _ (HV2.out _ l22) (by unfold maxLen; (try simp only [List.length_nil, List.length_append]); omega) (by (try simp only [List.length_nil, List.length_append]); omega) hz22 ?_; intro v23 w23 o23 hg23 _; have l23 : Below w9.heap.size w9 w23 := l22.trans (below_append o22 hg23 hz22); have hz23 := l23.size) | fail)
  all_goals
    clear oE oED lE lE1 lE2 lw0d o21 o22 hg21 hg22 hg23 hz21 hz22 hz23 l21 l22 HV0 HV1 HV2 hi hz0 hz1 hz2 n0 n1 n2 lw0
    have OF := Lib.hid o23.rd; clear o23
    go_wp2_with fail
    obtain ⟨RX, hRX⟩ : ∃ z, z = rptOf ⟨d.plan, gs, d.held, d.size⟩ (R.round ++ R.strange ++ R.held) := ⟨_, rfl⟩
    refine (impl_RunDay _ _ ⟨d.plan, gs, d.held, d.size⟩ (R.round ++ R.strange ++ R.held) _ (HD2.out.on l23) OF.out).mono ?_
    rintro e w30a ⟨vR, rfl, oR, bR⟩
    rw [hd1]
    rw [← hRX] at hd2 hd3 hd4 hd5 oR
    have HRX := Lib.hid hRX
    clear hRX OF
    have lR := later_trans l23 bR
    obtain ⟨x0, x1, x2, x3⟩ := RX
    change x0 = R.round at hd2
    change x3 = [] at hd3
    change x2.length = R.held.length at hd4
    change x1.length = R.strange.length at hd5
    subst hd2 hd3
    obtain ⟨u0, u1, u2, u3, rfl, o0, o1, o2, o3, _⟩ := oR
    have hr0 := o0.rd
    obtain ⟨tA0, m0, tc0, rfl, hm0, _, _, _⟩ := o0.rd
    obtain ⟨tA1, m1, tc1, rfl, hm1, _, _, _⟩ := o1.rd
    obtain ⟨tA2, m2, tc2, rfl, hm2, _, _, _⟩ := o2.rd
    obtain ⟨tA3, m3, tc3, rfl, hm3, _, _, _⟩ := o3.rd
    change m0 = R.round.length at hm0
    change m1 = x1.length at hm1
    change m2 = x2.length at hm2
    change m3 = 0 at hm3
    subst hm0 hm3
    rw [hd5] at hm1
    rw [hd4] at hm2
    subst hm1 hm2
    obtain ⟨w30, hwn⟩ : ∃ u, u = w30a.alloc (Obj.cells #[.slice tA0 R.round.length tc0, .slice tA1 R.strange.length tc1, .slice tA2 R.held.length tc2, .slice tA3 0 tc3] 33) := ⟨_, rfl⟩
    have t0 := box_cells hwn 0 (.slice tA0 R.round.length tc0) rfl
    have t1 := box_cells hwn 1 (.slice tA1 R.strange.length tc1) rfl
    have t2 := box_cells hwn 2 (.slice tA2 R.held.length tc2) rfl
    have t3 := box_cells hwn 3 (.slice tA3 0 tc3) rfl
    have hT := (box_later hwn).1
    have T0 := Lib.hid (hr0.on hT)
    have HWN := Lib.hid hwn
    have lN := later_trans lR hT
    have rr0 := r0 _ lN; have rr1 := r1 _ lN; have rr2 := r2 _ lN
    rw [hwn] at rr0 rr1 rr2
    clear hwn hT bR lR l23 hr0 o0 o1 o2 o3 hd4 hd5
    have hs0 : ((R.held.length : Int) != (R.held.length : Int)) = false := by simp
    have hs1 : ((R.strange.length : Int) != (R.strange.length : Int)) = false := by simp
    go_wp2_with fail
    rw [← HWN.out]
    clear rr0 rr1 rr2
    replace HWB := Lib.hid (HWB.out.trans (lN.mono HWB.out.size))
    replace q0 := fun W (h : Below w30.heap.size w30 W) => q0 W (later_trans lN h)
    replace q1 := fun W (h : Below w30.heap.size w30 W) => q1 W (later_trans lN h)
    replace q2 := fun W (h : Below w30.heap.size w30 W) => q2 W (later_trans lN h)
    replace q3 := fun W (h : Below w30.heap.size w30 W) => q3 W (later_trans lN h)
    replace q4 := fun W (h : Below w30.heap.size w30 W) => q4 W (later_trans lN h)
    replace q5 := fun W (h : Below w30.heap.size w30 W) => q5 W (later_trans lN h)
    replace r0 := fun W (h : Below w30.heap.size w30 W) => r0 W (later_trans lN h)
    replace r1 := fun W (h : Below w30.heap.size w30 W) => r1 W (later_trans lN h)
    replace r2 := fun W (h : Below w30.heap.size w30 W) => r2 W (later_trans lN h)
    replace r3 := fun W (h : Below w30.heap.size w30 W) => r3 W (later_trans lN h)
    replace z0 := fun W (h : Below w30.heap.size w30 W) => z0 W (later_trans lN h)
    replace z1 := fun W (h : Below w30.heap.size w30 W) => z1 W (later_trans lN h)
    replace z2 := fun W (h : Below w30.heap.size w30 W) => z2 W (later_trans lN h)
    replace z3 := fun W (h : Below w30.heap.size w30 W) => z3 W (later_trans lN h)
    replace z4 := fun W (h : Below w30.heap.size w30 W) => z4 W (later_trans lN h)
    replace z5 := fun W (h : Below w30.heap.size w30 W) => z5 W (later_trans lN h)
    replace HB := Lib.hid (HB.out.on lN)
    replace HD2 := Lib.hid (HD2.out.on lN)
    replace R0 := Lib.hid (R0.out.on lN)
    replace R1 := Lib.hid (R1.out.on lN)
    replace R2 := Lib.hid (R2.out.on lN)
    replace R3 := Lib.hid (R3.out.on lN)
    have k0 := Below.refl w30.heap.size w30
    clear lN HWN
    refine (so_batch _ _ R.round _ T0.out (R0.out.on k0)).mono ?_
    rintro e w31 ⟨rfl, b⟩
    have k1 := later_trans k0 b
    clear b k0
    go_wp2_with fail
    clear hs0 hs1
    obtain ⟨Y, hY⟩ : ∃ z, z = rptOf ⟨d.plan, gs, d.held, d.size⟩ xs := ⟨_, rfl⟩
    refine (impl_RunDay _ _ ⟨d.plan, gs, d.held, d.size⟩ xs _ (HD2.out.on k1) (HB.out.on k1)).mono ?_
    rw [← hY] at hd7
    rintro e w32a ⟨vR, rfl, oR, bR⟩
    rw [hd6]
    rw [← hY] at oR
    have HY := Lib.hid hY
    clear hY
    have lR := later_trans k1 bR
    have hoY := oR.rd
    obtain ⟨B0, e0, B1, e1, B2, e2, B3, e3, rfl⟩ := openR hoY
    obtain ⟨w32, hwn⟩ : ∃ u, u = w32a.alloc (Obj.cells #[.slice B0 Y.round.length e0, .slice B1 Y.strange.length e1, .slice B2 Y.held.length e2, .slice B3 Y.stuck.length e3] 33) := ⟨_, rfl⟩
    have hT := (box_later hwn).1
    have y0 := box_cells hwn 0 (.slice B0 Y.round.length e0) rfl _ (Below.refl _ _)
    have y1 := box_cells hwn 1 (.slice B1 Y.strange.length e1) rfl _ (Below.refl _ _)
    have y2 := box_cells hwn 2 (.slice B2 Y.held.length e2) rfl _ (Below.refl _ _)
    have y3 := box_cells hwn 3 (.slice B3 Y.stuck.length e3) rfl _ (Below.refl _ _)
    have YR := Lib.hid (hoY.on hT)
    have lN := later_trans lR hT
    have rr0 := r0 _ lN; have rr1 := r1 _ lN; have rr2 := r2 _ lN; have rr3 := r3 _ lN
    have ss0 := rr0; have ss1 := rr1; have ss2 := rr2; have ss3 := rr3
    rw [hwn] at ss0 ss1 ss2 ss3
    have HWN := Lib.hid hwn
    clear hwn oR hoY hT lR bR k1
    by_cases hst : R.stuck.length = 0
    · have hst0 : decide ((0 : Int) < (R.stuck.length : Int)) = false := decide_eq_false (by omega)
      have hst2 : decide (0 < R.stuck.length) = false := decide_eq_false (by omega)
      have hst3 : ¬ 0 < R.stuck.length := by omega
      have hYR : Y = R := hd7 (List.eq_nil_of_length_eq_zero hst)
      have YR2 : Hid (rdR w32 w32.heap.size (.agg #[.slice B0 Y.round.length e0, .slice B1 Y.strange.length e1, .slice B2 Y.held.length e2, .slice B3 Y.stuck.length e3]) R) := by
        have h := YR.out
        show rdR _ _ _ _
        rw [hYR] at h ⊢
        exact h
      clear hst hYR hd7
      go_wp2_with fail
      rw [← HWN.out]
      refine (so_reports _ _ R _ YR2.out ⟨_, _, _, _, rfl, R0.out.on lN, R1.out.on lN, R2.out.on lN, R3.out.on lN⟩).mono ?_
      rintro e w33 ⟨rfl, b⟩
      have l33 := later_trans lN b
      go_wp2_with fail
      go_ret
      exact ⟨rfl, HWB.out.trans (l33.mono HWB.out.size)⟩
    · have hst1 : decide ((0 : Int) < (R.stuck.length : Int)) = true := decide_eq_true (by omega)
      have hst2 : decide (0 < R.stuck.length) = true := decide_eq_true (by omega)
      have hst3 : 0 < R.stuck.length := by omega
      clear hst hd7
      go_wp2_with fail
      rw [← HWN.out]
      go_ret
      exact ⟨rfl, HWB.out.trans (lN.mono HWB.out.size)⟩

end Go.Proofs.Ytmangjjaijhcnaa
