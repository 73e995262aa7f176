/- YL R2 -/
import Derived.Test.YtffbcfaahegglaaDoorQ50
import Derived.Test.YtffbcfaahegglaaDoorQ40
import Derived.Test.YtffbcfaahegglaaDoorQ36
import Derived.Test.YtffbcfaahegglaaDoorQ4
namespace Go.Proofs.YtffbcfaahegglaaDoor
open Go.RowKit

/-- Drawn: a report. -/
def drawRPost (w : World) (e : Ending) (w' : World) : Prop :=
  ∃ (v : Value) (r : Rpt), e = .returned v ∧ rdR w' w'.heap.size v r ∧ rptLe r 200 ∧ Below w.heap.size w w'
theorem four_setR {w : World} {g : Nat} {T : TypeId} {u0 u1 u2 u3 a b c d : Value} (h : w.heap[g]? = some (.cells #[u0, u1, u2, u3] T (0, 0))) :
    ((((w.setCell ⟨g, 0, none⟩ a).setCell ⟨g, 1, none⟩ b).setCell ⟨g, 2, none⟩ c).setCell ⟨g, 3, none⟩ d).heap[g]? = some (.cells #[a, b, c, d] T (0, 0)) :=
  heap_setCell_same _ _ _ _ _ _ (heap_setCell_same _ _ _ _ _ _ (heap_setCell_same _ _ _ _ _ _ (heap_setCell_same _ _ _ _ _ _ h)))
theorem four_grownR (W : World) (h : Nat) (a b c d : Value) :
    W.grownBy ((((W.setCell ⟨h, 0, none⟩ a).setCell ⟨h, 1, none⟩ b).setCell ⟨h, 2, none⟩ c).setCell ⟨h, 3, none⟩ d) (some h) :=
  grown_setCell (p := ⟨h, 3, none⟩) (grown_setCell (p := ⟨h, 2, none⟩) (grown_setCell (p := ⟨h, 1, none⟩) (grown_setCell (p := ⟨h, 0, none⟩) (World.grownBy.refl W (some h)) (.inl rfl) a) (.inl rfl) b) (.inl rfl) c) (.inl rfl) d
theorem cells4R {W : World} {h T : Nat} {a b c d : Value} (hb : W.heap[h]? = some (.cells #[a, b, c, d] T (0, 0))) :
    W.cell? ⟨h, 0, none⟩ = some a ∧ W.cell? ⟨h, 1, none⟩ = some b ∧ W.cell? ⟨h, 2, none⟩ = some c ∧ W.cell? ⟨h, 3, none⟩ = some d :=
  ⟨by rw [cell_of_row _ _ _ _ _ _ hb]; rfl, by rw [cell_of_row _ _ _ _ _ _ hb]; rfl, by rw [cell_of_row _ _ _ _ _ _ hb]; rfl, by rw [cell_of_row _ _ _ _ _ _ hb]; rfl⟩
theorem drawRPost_of {T h B : _} {w W : World} {v0 v1 v2 v3 : Value} {r : Rpt} (hh : w.heap.size ≤ h) (hbase : h < B) (h0 : own T B W v0 r.round) (h1 : own T B W v1 r.strange) (h2 : own T B W v2 r.held) (h3 : own T B W v3 r.stuck)
    (hl : rptLe r 200) (hG : Below w.heap.size w W) :
    drawRPost w (.returned (.agg #[v0, v1, v2, v3])) ((((W.setCell ⟨h, 0, none⟩ v0).setCell ⟨h, 1, none⟩ v1).setCell ⟨h, 2, none⟩ v2).setCell ⟨h, 3, none⟩ v3) := by
  have HG := four_grownR W h v0 v1 v2 v3
  have HS := (((hG.setCell (p := ⟨h, 0, none⟩) hh v0).setCell (p := ⟨h, 1, none⟩) hh v1).setCell (p := ⟨h, 2, none⟩) hh v2).setCell (p := ⟨h, 3, none⟩) hh v3
  exact ⟨_, r, rfl, ⟨_, _, _, _, rfl, (h0.grown HG (own_ne h0 hbase)).rd, (h1.grown HG (own_ne h1 hbase)).rd, (h2.grown HG (own_ne h2 hbase)).rd, (h3.grown HG (own_ne h3 hbase)).rd⟩, hl, HS⟩

set_option maxRecDepth 100000 in
set_option maxHeartbeats 1600000 in
theorem draw_DrawFormatReport (v : Value) (bs : List UInt8) (w : World) (hv : rd w w.heap.size v bs) :
    Calls Tryd.prog 32 #[v] w (drawRPost w) := by
  obtain ⟨wA, hwA⟩ : ∃ u, u = w.alloc (Obj.cells #[.slice none 0 0, .slice none 0 0, .slice none 0 0, .slice none 0 0] 29) := ⟨_, rfl⟩
  have hBA : Below w.heap.size w wA := by rw [hwA]; exact (Below.refl _ _).alloc (Nat.le_refl _) _
  have hzA : wA.heap.size = w.heap.size + 1 := by rw [hwA]; simp
  have hbA : wA.heap[w.heap.size]? = some (.cells #[.slice none 0 0, .slice none 0 0, .slice none 0 0, .slice none 0 0] 29 (0, 0)) := by rw [hwA]; exact heap_alloc_new w _
  have hvA := hv.on hBA
  have HWA := Lib.hid hwA; clear hwA
  go_enter Tryd.func32, Tryd.ntmps32
  go_wp2_with fail
  rw [← HWA.out]
  refine (rd_open _ bs _ hvA).mono ?_
  rintro e w1 ⟨g, rfl, hg, hr1, b1⟩
  have hlt := hr1.lt
  have hb1 := (b1.block w.heap.size (by omega)).trans hbA
  have hB1 : Below w.heap.size w w1 := hBA.trans (b1.mono (by omega))
  have hz1 := b1.size
  have HV1 := Lib.hid (hvA.on b1)
  clear hvA hv hBA b1 hbA
  go_wp2_with fail
  refine (draw_DrawRunDay _ bs _ HV1.out).mono ?_
  rintro e w2 ⟨v2, vb, d, xs, rfl, hd2, ob2, hl2, l3o, l3f, l3h, b2⟩
  have hr2 := hr1.below b2
  have hb2 := (b2.block w.heap.size (by omega)).trans hb1
  have hB2 : Below w.heap.size w w2 := hB1.trans (b2.mono (by omega))
  have hz2 := b2.size
  have HD2 := Lib.hid hd2.rd
  have HB2 := Lib.hid ob2.rd
  obtain ⟨vo, vf, vh, rfl, i1, i2, i3, ho, hf, hh⟩ := hd2
  obtain ⟨Ao, no, co, rfl, rfl, _, _, _⟩ := ho.rd
  obtain ⟨Af, nf, cf, rfl, rfl, _, _, _⟩ := hf.rd
  obtain ⟨Ah, nh, ch, rfl, rfl, _, _, _⟩ := hh.rd
  obtain ⟨Ab, nb, cb, rfl, rfl, _, _, _⟩ := ob2.rd
  clear ho hf hh ob2 b2 hr1 hb1 hB1 HV1
  obtain ⟨wC, hwC⟩ : ∃ u, u = w2.alloc (Obj.cells #[.int .i64 d.plan.bins, .int .i64 d.plan.passes, .slice Ao d.plan.order.length co, .slice Af d.fwds.length cf, .slice Ah d.held.length ch, .int .i64 d.size] 92) := ⟨_, rfl⟩
  have hBC := (box_later hwC).1
  have c0 := box_cells hwC 0 (.int .i64 d.plan.bins) rfl _ (Below.refl _ _)
  have c1 := box_cells hwC 1 (.int .i64 d.plan.passes) rfl _ (Below.refl _ _)
  have c2 := box_cells hwC 2 (.slice Ao d.plan.order.length co) rfl _ (Below.refl _ _)
  have c3 := box_cells hwC 3 (.slice Af d.fwds.length cf) rfl _ (Below.refl _ _)
  have c4 := box_cells hwC 4 (.slice Ah d.held.length ch) rfl _ (Below.refl _ _)
  have c5 := box_cells hwC 5 (.int .i64 d.size) rfl _ (Below.refl _ _)
  have hzC := hBC.size
  have hb3 := (hBC.block w.heap.size (by omega)).trans hb2
  have hB3 : Below w.heap.size w wC := hB2.trans (hBC.mono (by omega))
  have hr3 := hr2.below hBC
  replace HD2 := Lib.hid (HD2.out.on hBC)
  replace HB2 := Lib.hid (HB2.out.on hBC)
  have HWC := Lib.hid hwC
  clear hwC hBC hb2 hB2 hr2
  go_wp2_with fail
  rw [← HWC.out]
  refine (spec_RunDay _ _ d xs _ HD2.out HB2.out).mono ?_
  rintro e w4 ⟨vR, rfl, oR, b4⟩
  have hLN := rptOf_len d xs
  generalize rptOf d xs = R at *
  generalize rdOk d xs = okk at *
  obtain ⟨A0, a0, A1, a1, A2, a2, A3, a3, rfl⟩ := openR oR.rd
  obtain ⟨_, _, _, _, hee, o0, o1, o2, o3, _⟩ := oR
  injection hee with hee
  injection hee with hee
  simp only [List.cons.injEq, and_true] at hee
  obtain ⟨rfl, rfl, rfl, rfl⟩ := hee
  have hz4 := b4.size
  have hb4 := (b4.block w.heap.size (by omega)).trans hb3
  have hB4 : Below w.heap.size w w4 := hB3.trans (b4.mono (by omega))
  have hr4 := hr3.below b4
  clear c0 c1 c2 c3 c4 c5 HD2 HB2 hb3 hB3 hr3 b4
  obtain ⟨wD, hwD⟩ : ∃ u, u = w4.alloc (Obj.cells #[.slice A0 R.round.length a0, .slice A1 R.strange.length a1, .slice A2 R.held.length a2, .slice A3 R.stuck.length a3] 29) := ⟨_, rfl⟩
  have hBD := (box_later hwD).1
  have hbD : wD.heap[w4.heap.size]? = some (.cells #[.slice A0 R.round.length a0, .slice A1 R.strange.length a1, .slice A2 R.held.length a2, .slice A3 R.stuck.length a3] 29 (0, 0)) := by rw [hwD]; exact heap_alloc_new w4 _
  have hzD : wD.heap.size = w4.heap.size + 1 := by rw [hwD]; simp
  have hb5 := (hBD.block w.heap.size (by omega)).trans hb4
  have hB5 : Below w.heap.size w wD := hB4.trans (hBD.mono (by omega))
  have hr5 := hr4.below hBD
  have O0 := Lib.hid (o0.below hBD); have O1 := Lib.hid (o1.below hBD); have O2 := Lib.hid (o2.below hBD); have O3 := Lib.hid (o3.below hBD)
  have HWD := Lib.hid hwD
  have HN0 := Lib.hid (fun k h => (o0.blk k h).2); have HN1 := Lib.hid (fun k h => (o1.blk k h).2); have HN3 := Lib.hid (fun k h => (o3.blk k h).2)
  clear hwD o0 o1 o2 o3 hb4 hB4 hr4 hBD
  go_wp2_with fail
  rw [← HWD.out]
  refine (rd_pick g 0 8 _ hr5 (by omega) (by unfold isI64; omega)).mono ?_
  rintro e w6 ⟨x, rfl, hx, hr6, hg6⟩
  have hz6 := hg6.size
  have hb6 := (hg6.block w.heap.size (by omega) (fun e => by injection e; omega)).trans hb5
  have hbE := (hg6.block w4.heap.size (by omega) (fun e => by injection e; omega)).trans hbD
  have hB6 : Below w.heap.size w w6 := hB5.trans (below_of_grown hg6 hB5.size (fun r e => by injection e; omega))
  have hgB : g < wC.heap.size := by omega
  replace O0 := Lib.hid (O0.out.grown hg6 (own_ne O0.out hgB)); replace O1 := Lib.hid (O1.out.grown hg6 (own_ne O1.out hgB)); replace O2 := Lib.hid (O2.out.grown hg6 (own_ne O2.out hgB)); replace O3 := Lib.hid (O3.out.grown hg6 (own_ne O3.out hgB))
  have HH := Lib.hid (show w.heap.size < wC.heap.size by omega)
  clear hr5 hr6 hb5 hB5 hbD hg6
  by_cases hx0 : x = 0
  · subst hx0
    have oE := own.made0 (α := Ltr) w6 98 (Nat.le_refl _)
    have oED : own (α := Ltr) 98 w6.heap.size (w6.drew.alloc (Obj.cells #[] 98)) (.slice (some ⟨w6.heap.size, 0, none⟩) 0 0) [] := own.made0 w6.drew _ (Nat.le_refl _)
    have lE : Below w6.heap.size w6 (w6.alloc (Obj.cells #[] 98)) := (Below.refl _ _).alloc (Nat.le_refl _) _
    have lE1 : Below w6.heap.size w6 (w6.alloc (Obj.cells #[] 98)).drew := lE.drew
    have lE2 : Below w6.heap.size w6 (w6.drew.alloc (Obj.cells #[] 98)) := ((Below.refl _ _).drew).alloc (Nat.le_refl _) _
    have lw6d := (Below.refl w6.heap.size w6).drew
    have HbE : Hid (∀ W, Below w6.heap.size w6 W → W.heap[w4.heap.size]? = some (.cells #[.slice A0 R.round.length a0, .slice A1 R.strange.length a1, .slice A2 R.held.length a2, .slice A3 R.stuck.length a3] 29 (0, 0))) := fun W h => (h.block w4.heap.size (by omega)).trans hbE
    have u0 : ∀ W, Below w6.heap.size w6 W → W.cell? ⟨w4.heap.size, 0, none⟩ = some (.slice A0 R.round.length a0) := fun W h => (cells4R (HbE.out W h)).1
    have u2 : ∀ W, Below w6.heap.size w6 W → W.cell? ⟨w4.heap.size, 2, none⟩ = some (.slice A2 R.held.length a2) := fun W h => (cells4R (HbE.out W h)).2.2.1
    have uf : ∀ W, Below w6.heap.size w6 W → W.frozen? ⟨w4.heap.size, 2, none⟩ = false := fun W h => unfrozen6 (HbE.out W h) 2
    have HV0 := Lib.hid (fun W (h : Below w6.heap.size w6 W) => O0.out.rd.on h)
    have HV2 := Lib.hid (fun W (h : Below w6.heap.size w6 W) => O2.out.rd.on h)
    obtain ⟨n0, n1, n2, n3⟩ := hLN
    obtain ⟨i0, hi, hz0, hz1, hz2⟩ := info_parts Tryd.infoLtr
    go_wp2_with fail
    go_region_law (first | (refine step_appendAll (α := Ltr) (by rfl) (.tmp 24) (.tmp 26) 27 (by rfl) w6.heap.size 98 i0 _ 24 Tryd.underlying27 hi hz0 hz1 hz2 rfl (by decide) (.slice (some ⟨w6.heap.size, 0, none⟩) 0 0) [] (by rfl) (by first | exact oE | exact oE.drew | exact oED) _ R.held (by rfl) _ (HV2.out _ (by first | exact lE | exact lE1 | exact lE2)) (by unfold maxLen; simp only [List.length_nil]; omega) (by simp only [List.length_nil]; omega) (by simp) ?_; intro v7 w7 o7 hg7 _; have l7 : Below w6.heap.size w6 w7 := (by first | exact lE.trans (below_append oE hg7 (by simp)) | exact lE1.trans (below_append oE.drew hg7 (by simp)) | exact lE2.trans (below_append oED hg7 (by simp))); rw [List.nil_append] at o7; have hz7 := l7.size) | (refine step_appendAll (α := Ltr) (by rfl) (.tmp 27) (.tmp 29) 27 (by rfl) w6.heap.size 98 i0 _ 24 Tryd.underlying27 hi hz0 hz1 hz2 rfl (by decide) v7 R.held (by rfl) o7 _ R.round (by rfl) _ (HV0.out _ l7) (by unfold maxLen; omega) (by omega) hz7 ?_; intro v8 w8 o8 hg8 _; have l8 : Below w6.heap.size w6 w8 := l7.trans (below_append o7 hg8 hz7); obtain ⟨A8, n8, c8, rfl, -, -, -, -⟩ := o8.rd))
    all_goals
      obtain ⟨Wz, hn⟩ : ∃ u, u = w8.setCell ⟨w4.heap.size, 2, none⟩ (.slice A8 n8 c8) := ⟨_, rfl⟩
      have hg8' : w8.grownBy Wz (some w4.heap.size) := by subst hn; exact grown_setCell (p := ⟨w4.heap.size, 2, none⟩) (World.grownBy.refl w8 (some w4.heap.size)) (.inl rfl) _
      have hbZ : Wz.heap[w4.heap.size]? = some (.cells #[.slice A0 R.round.length a0, .slice A1 R.strange.length a1, .slice A8 n8 c8, .slice A3 R.stuck.length a3] 29 (0, 0)) := by subst hn; exact blk_set (HbE.out _ l8) 2 (.slice A8 n8 c8)
      have hbR : Wz.heap[w.heap.size]? = some (.cells #[.slice none 0 0, .slice none 0 0, .slice none 0 0, .slice none 0 0] 29 (0, 0)) := by subst hn; exact blk_other ((l8.block w.heap.size (by omega)).trans hb6) ⟨w4.heap.size, 2, none⟩ (show w4.heap.size ≠ w.heap.size by omega) _
      have hBZ : Below w.heap.size w Wz := by subst hn; exact (hB6.trans (l8.mono (by omega))).setCell (p := ⟨w4.heap.size, 2, none⟩) (show w.heap.size ≤ w4.heap.size by omega) _
      have Z0 := Lib.hid ((O0.out.below l8).grown hg8' (.inr fun e => absurd (HN0.out _ e) (Nat.lt_irrefl _)))
      have Z1 := Lib.hid ((O1.out.below l8).grown hg8' (.inr fun e => absurd (HN1.out _ e) (Nat.lt_irrefl _)))
      have Z3 := Lib.hid ((O3.out.below l8).grown hg8' (.inr fun e => absurd (HN3.out _ e) (Nat.lt_irrefl _)))
      have Z2 := Lib.hid (((o8.grown hg8' (own_ne o8 (by omega))).base_ (show wC.heap.size ≤ w6.heap.size by omega)))
      rw [← hn]
      clear hn oE oED lE lE1 lE2 lw6d u0 u2 uf HV0 HV2 o7 o8 hg7 hg8 l7 l8 hz7 hg8' hi hz0 hz1 hz2 HbE hb6 hbE hB6
      obtain ⟨d0, d1, d2, d3⟩ := cells4R hbZ
      obtain ⟨j0, j1, j2, j3⟩ := cells4R hbR
      have jf := blk_free hbR
      go_wp2_with fail
      have hbY := four_setR (a := .slice A0 R.round.length a0) (b := .slice A1 R.strange.length a1) (c := .slice A8 n8 c8) (d := .slice A3 R.stuck.length a3) hbR
      obtain ⟨k0, k1, k2, k3⟩ := cells4R hbY
      refine bodyPost_ret (v := .agg #[.slice A0 R.round.length a0, .slice A1 R.strange.length a1, .slice A8 n8 c8, .slice A3 R.stuck.length a3]) (by simp [results, Tryd.results32, go_sem, k0, k1, k2, k3]) rfl ?_
      exact drawRPost_of (r := ⟨R.round, R.strange, R.held ++ R.round, R.stuck⟩) (Nat.le_refl _) HH.out Z0.out Z1.out Z2.out Z3.out ⟨by show R.round.length ≤ 200; omega, by show R.strange.length ≤ 200; omega, by show (R.held ++ R.round).length ≤ 200; rw [List.length_append]; omega, by show R.stuck.length ≤ 200; omega⟩ hBZ
  · have hxe : (x == 0) = false := beq_eq_false_iff_ne.2 hx0
    obtain ⟨d0, d1, d2, d3⟩ := cells4R hbE
    obtain ⟨j0, j1, j2, j3⟩ := cells4R hb6
    have jf := blk_free hb6
    go_wp2_with fail
    have hbZ := four_setR (a := .slice A0 R.round.length a0) (b := .slice A1 R.strange.length a1) (c := .slice A2 R.held.length a2) (d := .slice A3 R.stuck.length a3) hb6
    obtain ⟨k0, k1, k2, k3⟩ := cells4R hbZ
    refine bodyPost_ret (v := .agg #[.slice A0 R.round.length a0, .slice A1 R.strange.length a1, .slice A2 R.held.length a2, .slice A3 R.stuck.length a3]) (by simp [results, Tryd.results32, go_sem, k0, k1, k2, k3]) rfl ?_
    exact drawRPost_of (Nat.le_refl _) HH.out O0.out O1.out O2.out O3.out ⟨by omega, by omega, by omega, by omega⟩ hB6

end Go.Proofs.YtffbcfaahegglaaDoor

namespace Go.Proofs.YtffbcfaahegglaaDoor
open Go.ChangeShapes Go.WideShapes Go.ChangeAt Go.RowKit

theorem opensByte : Opens Tryd.prog 5 UInt8 := by
  intro H enc w spare held fuel cs x h
  obtain ⟨n, rfl, _, wf⟩ := DataW.trod_int Tryd.underlying5 h
  simp [Lit.wf, IntKind.min, IntKind.max, IntKind.signed, IntKind.bits] at wf
  refine ⟨UInt8.ofNat n.toNat, ?_⟩
  show [Value.int .u8 n] = [Value.int .u8 ((UInt8.ofNat n.toNat).toNat : Int)]
  rw [UInt8.toNat_ofNat_of_lt' (by show n.toNat < 256; omega)]
  congr 2
  omega

end Go.Proofs.YtffbcfaahegglaaDoor
