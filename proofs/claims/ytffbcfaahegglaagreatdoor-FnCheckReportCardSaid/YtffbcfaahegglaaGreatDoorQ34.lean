/- YK -/
import Derived.Test.YtffbcfaahegglaaGreatDoorQ32
import Derived.Test.YtffbcfaahegglaaGreatDoorQ21
import Derived.Test.YtffbcfaahegglaaGreatDoorQ43
namespace Go.Proofs.YtffbcfaahegglaaGreatDoor
open Go.RowKit

/-- Drawn: a day, letters, a report. -/
def drawCRPost (w : World) (e : Ending) (w' : World) : Prop :=
  ∃ (v vb vr : Value) (d : Dy) (xs : List Ltr) (r : Rpt), e = .returned (.tuple #[v, vb, vr]) ∧ rdD w' w'.heap.size v d ∧ rd w' w'.heap.size vb xs ∧ rdR w' w'.heap.size vr r ∧ rptLe r 200 ∧ xs.length ≤ 61 ∧ Below w.heap.size w w'
section
variable {P : Program} {fn : Func} {R : Ending → World → Prop} {a : Act} {w : World}
theorem ret_box_tb {p q u : Nat} {ty ty2 : TypeId} {g g2 : Nat} {cs cs2 : Array Value} {t t2 : TypeId} {d d2 : TypeDesc} (h : fn.results = #[.cell p ty, .tmp u, .cell q ty2]) (hp : a.tmps.getD p undef = .pointer (some ⟨g, 0, none⟩)) (hq : a.tmps.getD q undef = .pointer (some ⟨g2, 0, none⟩))
    (hg : w.heap[g]? = some (.cells cs t (0, 0))) (hg2 : w.heap[g2]? = some (.cells cs2 t2 (0, 0))) (hu : P.underlying ty = some d) (hu2 : P.underlying ty2 = some d2)
    (hd : (match d with | .struct _ | .array _ _ => true | _ => false) = true) (hd2 : (match d2 with | .struct _ | .array _ _ => true | _ => false) = true)
    (hi : (P.info? ty).map (·.size) = some cs.size) (hi2 : (P.info? ty2).map (·.size) = some cs2.size) (hf : a.defers = [])
    (hR : R (.returned (.tuple #[.agg cs, a.tmps.getD u undef, .agg cs2])) w) : bodyPost P fn R .ret a w := by
  refine bodyPost_ret ?_ hf hR
  have hp' : a.tmps[p]?.getD undef = .pointer (some ⟨g, 0, none⟩) := by simpa using hp
  have hq' : a.tmps[q]?.getD undef = .pointer (some ⟨g2, 0, none⟩) := by simpa using hq
  simp [results, h, hp', hq', asAddr, loadBox hg hu hd hi, loadBox hg2 hu2 hd2 hi2, Sem.run_bind, Result.andThen]
end
theorem news_row {w : World} {g : Nat} {T : TypeId} {cs : List Value} (h : w.heap[g]? = some (.cells cs.toArray T (0, 0))) : ∀ j u, cs[j]? = some u → w.cell? ((⟨g, 0, none⟩ : Addr).add j) = some u := fun j u hu => by
  rw [add_lit, Nat.zero_add, cell_of_row _ _ _ _ _ _ h]
  simpa using hu
theorem blk_drew_ {w : World} {g : Nat} {o : Obj} (h : w.heap[g]? = some o) : w.drew.heap[g]? = some o := h
/-- What the world before the results are laid keeps. -/
def crKeep (T1 T2 T3 B : Nat) (w W : World) (v vb : Value) (vs : Value × Value × Value × Value) (d : Dy) (xs : List Ltr) (r : Rpt) : Prop :=
  ownDz T1 T2 B W v d ∧ own T3 B W vb xs ∧ own T3 B W vs.1 r.round ∧ own T3 B W vs.2.1 r.strange ∧ own T3 B W vs.2.2.1 r.held ∧ own T3 B W vs.2.2.2 r.stuck ∧ rptLe r 200 ∧ xs.length ≤ 61 ∧ Below w.heap.size w W
theorem crKeep.drew {T1 T2 T3 B : Nat} {w W : World} {v vb : Value} {vs : Value × Value × Value × Value} {d : Dy} {xs : List Ltr} {r : Rpt} (h : crKeep T1 T2 T3 B w W v vb vs d xs r) : crKeep T1 T2 T3 B w W.drew v vb vs d xs r := by
  obtain ⟨⟨vo, vf, vh, e, i1, i2, i3, ho, hf, hh⟩, h1, h2, h3, h4, h5, h6, h7, h8⟩ := h
  exact ⟨⟨vo, vf, vh, e, i1, i2, i3, ho.drew, hf.drew, hh.drew⟩, h1.drew, h2.drew, h3.drew, h4.drew, h5.drew, h6, h7, h8.drew⟩
theorem crKeep.grown {T1 T2 T3 B g : Nat} {w W W' : World} {v vb : Value} {vs : Value × Value × Value × Value} {d : Dy} {xs : List Ltr} {r : Rpt} (h : crKeep T1 T2 T3 B w W v vb vs d xs r) (hg : W.grownBy W' (some g)) (h1 : w.heap.size ≤ g) (h2 : g < B) : crKeep T1 T2 T3 B w W' v vb vs d xs r := by
  obtain ⟨⟨vo, vf, vh, e, i1, i2, i3, ho, hf, hh⟩, k1, k2, k3, k4, k5, k6, k7, k8⟩ := h
  exact ⟨⟨vo, vf, vh, e, i1, i2, i3, ho.grown hg (own_ne ho h2), hf.grown hg (own_ne hf h2), hh.grown hg (own_ne hh h2)⟩, k1.grown hg (own_ne k1 h2), k2.grown hg (own_ne k2 h2), k3.grown hg (own_ne k3 h2), k4.grown hg (own_ne k4 h2), k5.grown hg (own_ne k5 h2), k6, k7, k8.grown hg k8.size (fun r e => by injection e; omega)⟩
theorem crKeep.rd {T1 T2 T3 B : Nat} {w W : World} {v vb v0 v1 v2 v3 : Value} {d : Dy} {xs : List Ltr} {r : Rpt} (h : crKeep T1 T2 T3 B w W v vb (v0, v1, v2, v3) d xs r) : drawCRPost w (.returned (.tuple #[v, vb, .agg #[v0, v1, v2, v3]])) W := by
  obtain ⟨hd, k1, k2, k3, k4, k5, k6, k7, k8⟩ := h
  exact ⟨_, _, _, d, xs, r, rfl, hd.rd, k1.rd, ⟨_, _, _, _, rfl, k2.rd, k3.rd, k4.rd, k5.rd⟩, k6, k7, k8⟩
theorem drawCR_of {T1 T2 T3 B h h2 : Nat} {w W W1 W2 : World} {v vb v0 v1 v2 v3 : Value} {d : Dy} {xs : List Ltr} {r : Rpt} (a1 : w.heap.size ≤ h) (a2 : w.heap.size ≤ h2) (a3 : h < B) (a4 : h2 < B)
    (hk : crKeep T1 T2 T3 B w W v vb (v0, v1, v2, v3) d xs r) (g1 : W.grownBy W1 (some h)) (g2 : W1.grownBy W2 (some h2)) : drawCRPost w (.returned (.tuple #[v, vb, .agg #[v0, v1, v2, v3]])) W2.drew :=
  ((hk.grown g1 a1 a3).grown g2 a2 a4).drew.rd

set_option maxRecDepth 100000 in
set_option maxHeartbeats 3200000 in
theorem draw_DrawCheckReport (v : Value) (bs : List UInt8) (w : World) (hv : rd w w.heap.size v bs) :
    Calls Tryz.prog 5 #[v] w (drawCRPost w) := by
  obtain ⟨wA, hwA⟩ : ∃ u, u = w.alloc (Obj.cells #[.int .i64 0, .int .i64 0, .slice none 0 0, .slice none 0 0, .slice none 0 0, .int .i64 0] 28) := ⟨_, rfl⟩
  obtain ⟨wB, hwB⟩ : ∃ u, u = wA.alloc (Obj.cells #[.slice none 0 0, .slice none 0 0, .slice none 0 0, .slice none 0 0] 31) := ⟨_, rfl⟩
  have hzA : wA.heap.size = w.heap.size + 1 := by rw [hwA]; simp
  have hzB : wB.heap.size = w.heap.size + 2 := by rw [hwB, World.size_alloc, hzA]
  have hBA : Below w.heap.size w wB := by rw [hwB, hwA]; exact ((Below.refl _ _).alloc (Nat.le_refl _) _).alloc (by simp) _
  have hb2 : wB.heap[w.heap.size]? = some (.cells #[.int .i64 0, .int .i64 0, .slice none 0 0, .slice none 0 0, .slice none 0 0, .int .i64 0] 28 (0, 0)) := by
    have h1 : wA.heap[w.heap.size]? = some (.cells #[.int .i64 0, .int .i64 0, .slice none 0 0, .slice none 0 0, .slice none 0 0, .int .i64 0] 28 (0, 0)) := by rw [hwA]; exact heap_alloc_new w _
    rw [hwB]
    exact (Below.heap_alloc wA _ _ (by omega)).trans h1
  have hb4 : wB.heap[w.heap.size + 1]? = some (.cells #[.slice none 0 0, .slice none 0 0, .slice none 0 0, .slice none 0 0] 31 (0, 0)) := by
    rw [hwB, ← hzA]; exact heap_alloc_new wA _
  have hvA := hv.on hBA
  have HWA := Lib.hid hwA; have HWB := Lib.hid hwB; clear hwA hwB
  go_enter Tryz.func5, Tryz.ntmps5
  go_wp2_with fail
  rw [← HWA.out, ← HWB.out]
  refine (rd_open _ bs _ hvA).mono ?_
  rintro e w1 ⟨g, rfl, hg, hr1, b1⟩
  have hlt := hr1.lt
  have hb2_1 := (b1.block w.heap.size (by omega)).trans hb2
  have hb4_1 := (b1.block (w.heap.size + 1) (by omega)).trans hb4
  have hB1 : Below w.heap.size w w1 := hBA.trans (b1.mono (by omega))
  have hz1 := b1.size
  have HV1 := Lib.hid (hvA.on b1)
  clear hvA hv hBA b1 hb2 hb4
  go_wp2_with fail
  refine (draw_DrawRunDay _ bs _ HV1.out).mono ?_
  rintro e w2 ⟨v2, vb, d, xs, rfl, hd2, ob2, hl2, l3o, l3f, l3h, b2⟩
  have hr2 := hr1.below b2
  have hb2_2 := (b2.block w.heap.size (by omega)).trans hb2_1
  have hb4_2 := (b2.block (w.heap.size + 1) (by omega)).trans hb4_1
  have hB2 : Below w.heap.size w w2 := hB1.trans (b2.mono (by omega))
  have hz2 := b2.size
  have HD2 := Lib.hid hd2.rd
  have HB2 := Lib.hid ob2.rd
  have HDO := Lib.hid hd2
  have HXO := Lib.hid ob2
  obtain ⟨vo, vf, vh, rfl, i1, i2, i3, ho, hf, hh⟩ := hd2
  obtain ⟨Ao, no, co, rfl, rfl, _, _, _⟩ := ho.rd
  obtain ⟨Af, nf, cf, rfl, rfl, _, _, _⟩ := hf.rd
  obtain ⟨Ah, nh, ch, rfl, rfl, _, _, _⟩ := hh.rd
  obtain ⟨Ab, nb, cb, rfl, rfl, _, _, _⟩ := ob2.rd
  clear ho hf hh ob2 b2 hr1 hb2_1 hb4_1 hB1 HV1
  obtain ⟨wC, hwC⟩ : ∃ u, u = w2.alloc (Obj.cells #[.int .i64 d.plan.bins, .int .i64 d.plan.passes, .slice Ao d.plan.order.length co, .slice Af d.fwds.length cf, .slice Ah d.held.length ch, .int .i64 d.size] 28) := ⟨_, rfl⟩
  have hBC := (box_later hwC).1
  have hb6 : wC.heap[w2.heap.size]? = some (.cells #[.int .i64 d.plan.bins, .int .i64 d.plan.passes, .slice Ao d.plan.order.length co, .slice Af d.fwds.length cf, .slice Ah d.held.length ch, .int .i64 d.size] 28 (0, 0)) := by rw [hwC]; exact heap_alloc_new w2 _
  obtain ⟨c0, c1, c2, c3, c4, c5⟩ := cells6 hb6
  have hzC : wC.heap.size = w2.heap.size + 1 := by rw [hwC]; simp
  have hb2_3 := (hBC.block w.heap.size (by omega)).trans hb2_2
  have hb4_3 := (hBC.block (w.heap.size + 1) (by omega)).trans hb4_2
  have hB3 : Below w.heap.size w wC := hB2.trans (hBC.mono (by omega))
  have hr3 := hr2.below hBC
  replace HD2 := Lib.hid (HD2.out.on hBC)
  replace HB2 := Lib.hid (HB2.out.on hBC)
  have HWC := Lib.hid hwC
  have HBC := Lib.hid hBC
  clear hwC hBC hb2_2 hb4_2 hB2 hr2
  go_wp2_with fail
  rw [← HWC.out]
  refine (spec_RunDay _ _ d xs _ HD2.out HB2.out).mono ?_
  rintro e w4 ⟨vR, rfl, oR, b4⟩
  have hLN := rptOf_len d xs
  generalize rptOf d xs = R at *
  generalize rdOk d xs = okk at *
  obtain ⟨A0, a0, A1, a1, A2, a2, A3, a3, rfl⟩ := openR oR.rd
  obtain ⟨_, _, _, _, hee, o0, o1, o2, o3, _⟩ := oR
  injection hee with hee
  injection hee with hee
  simp only [List.cons.injEq, and_true] at hee
  obtain ⟨rfl, rfl, rfl, rfl⟩ := hee
  have hz4 := b4.size
  have hb2_4 := (b4.block w.heap.size (by omega)).trans hb2_3
  have hb4_4 := (b4.block (w.heap.size + 1) (by omega)).trans hb4_3
  have hb6_4 := (b4.block w2.heap.size (by omega)).trans hb6
  have hB4 : Below w.heap.size w w4 := hB3.trans (b4.mono (by omega))
  have hr4 := hr3.below b4
  have HB24 := Lib.hid (HBC.out.trans (b4.mono (by omega)))
  clear c0 c1 c2 c3 c4 c5 HD2 HB2 hb2_3 hb4_3 hb6 hB3 hr3 b4 HBC
  obtain ⟨wD, hwD⟩ : ∃ u, u = w4.alloc (Obj.cells #[.slice A0 R.round.length a0, .slice A1 R.strange.length a1, .slice A2 R.held.length a2, .slice A3 R.stuck.length a3] 31) := ⟨_, rfl⟩
  have hBD := (box_later hwD).1
  have hbD : wD.heap[w4.heap.size]? = some (.cells #[.slice A0 R.round.length a0, .slice A1 R.strange.length a1, .slice A2 R.held.length a2, .slice A3 R.stuck.length a3] 31 (0, 0)) := by rw [hwD]; exact heap_alloc_new w4 _
  have hzD : wD.heap.size = w4.heap.size + 1 := by rw [hwD]; simp
  have hb2_5 := (hBD.block w.heap.size (by omega)).trans hb2_4
  have hb4_5 := (hBD.block (w.heap.size + 1) (by omega)).trans hb4_4
  have hb6_5 := (hBD.block w2.heap.size (by omega)).trans hb6_4
  have hB5 : Below w.heap.size w wD := hB4.trans (hBD.mono (by omega))
  have hr5 := hr4.below hBD
  have O0 := Lib.hid (o0.below hBD); have O1 := Lib.hid (o1.below hBD); have O2 := Lib.hid (o2.below hBD); have O3 := Lib.hid (o3.below hBD)
  have HB2D := Lib.hid (HB24.out.trans (hBD.mono (by omega)))
  have HWD := Lib.hid hwD
  have HN0 := Lib.hid (fun k h => (o0.blk k h).2); have HN1 := Lib.hid (fun k h => (o1.blk k h).2); have HN2 := Lib.hid (fun k h => (o2.blk k h).2); have HN3 := Lib.hid (fun k h => (o3.blk k h).2)
  clear hwD o0 o1 o2 o3 hb2_4 hb4_4 hb6_4 hB4 hr4 hBD HB24
  go_wp2_with fail
  rw [← HWD.out]
  refine (rd_pick g 0 6 _ hr5 (by omega) (by unfold isI64; omega)).mono ?_
  rintro e w6 ⟨x, rfl, hx, hr6, hg6⟩
  have hz6 := hg6.size
  have hb2_6 := (hg6.block w.heap.size (by omega) (fun e => by injection e; omega)).trans hb2_5
  have hb4_6 := (hg6.block (w.heap.size + 1) (by omega) (fun e => by injection e; omega)).trans hb4_5
  have hb6_6 := (hg6.block w2.heap.size (by omega) (fun e => by injection e; omega)).trans hb6_5
  have hbE := (hg6.block w4.heap.size (by omega) (fun e => by injection e; omega)).trans hbD
  have hB6 : Below w.heap.size w w6 := hB5.trans (below_of_grown hg6 hB5.size (fun r e => by injection e; omega))
  have hgB : g < wC.heap.size := by omega
  replace O0 := Lib.hid (O0.out.grown hg6 (own_ne O0.out hgB)); replace O1 := Lib.hid (O1.out.grown hg6 (own_ne O1.out hgB)); replace O2 := Lib.hid (O2.out.grown hg6 (own_ne O2.out hgB)); replace O3 := Lib.hid (O3.out.grown hg6 (own_ne O3.out hgB))
  have hgW1 : g < w1.heap.size := hlt
  -- day and letters keep in every later world that turns nothing of theirs
  have HDL := Lib.hid (HDO.out)
  have hK2 : ∀ k, k < w2.heap.size → w.heap.size + 2 ≤ k → k ≠ g → ∀ W : World, (∀ j, j < w2.heap.size → w.heap.size + 2 ≤ j → j ≠ g → W.heap[j]? = w6.heap[j]?) → W.heap[k]? = w2.heap[k]? := fun k h1 h2 h3 W hW =>
    (hW k h1 h2 h3).trans ((hg6.block k (by omega) (fun e => h3 (by injection e))).trans (HB2D.out.block k h1))
  have HDK : Hid (∀ W : World, (∀ j, j < w2.heap.size → w.heap.size + 2 ≤ j → j ≠ g → W.heap[j]? = w6.heap[j]?) → ownDz 9 106 (w.heap.size + 2) W (.agg #[.int .i64 d.plan.bins, .int .i64 d.plan.passes, .slice Ao d.plan.order.length co, .slice Af d.fwds.length cf, .slice Ah d.held.length ch, .int .i64 d.size]) d) := fun W hW => by
    obtain ⟨vo', vf', vh', e, j1, j2, j3, ho, hf, hh⟩ := HDO.out
    have key : ∀ {α : Type} [Flat α] {T : Nat} {u : Value} {ys : List α}, own T w1.heap.size w2 u ys → own T (w.heap.size + 2) W u ys := fun ho => (ho.keepBlk fun k hk => hK2 k (ho.blk k hk).2 (by have := (ho.blk k hk).1; omega) (by have := (ho.blk k hk).1; omega) W hW).base_ (by omega)
    exact ⟨_, _, _, e, j1, j2, j3, key ho, key hf, key hh⟩
  have HXK : Hid (∀ W : World, (∀ j, j < w2.heap.size → w.heap.size + 2 ≤ j → j ≠ g → W.heap[j]? = w6.heap[j]?) → own 61 (w.heap.size + 2) W (.slice Ab xs.length cb) xs) := fun W hW =>
    (HXO.out.keepBlk fun k hk => hK2 k (HXO.out.blk k hk).2 (by have := (HXO.out.blk k hk).1; omega) (by have := (HXO.out.blk k hk).1; omega) W hW).base_ (by omega)
  have hB1lt : w.heap.size < w.heap.size + 2 := by omega
  have hB1lt' : w.heap.size + 1 < w.heap.size + 2 := by omega
  have hne24 : w.heap.size + 1 < w2.heap.size := by omega
  have hne26 : w2.heap.size < w4.heap.size := by omega
  clear hr5 hr6 hb2_5 hb4_5 hb6_5 hB5 hbD hg6 hK2 HDL HDO HXO HB2D hgW1
  obtain ⟨n0, n1, n2, n3⟩ := hLN
  by_cases hx0 : x = 0
  · subst hx0
    have oE := own.made0 (α := Ltr) w6 61 (Nat.le_refl _)
    have oED : own (α := Ltr) 61 w6.heap.size (w6.drew.alloc (Obj.cells #[] 61)) (.slice (some ⟨w6.heap.size, 0, none⟩) 0 0) [] := own.made0 w6.drew _ (Nat.le_refl _)
    have lE : Below w6.heap.size w6 (w6.alloc (Obj.cells #[] 61)) := (Below.refl _ _).alloc (Nat.le_refl _) _
    have lE1 : Below w6.heap.size w6 (w6.alloc (Obj.cells #[] 61)).drew := lE.drew
    have lE2 : Below w6.heap.size w6 (w6.drew.alloc (Obj.cells #[] 61)) := ((Below.refl _ _).drew).alloc (Nat.le_refl _) _
    have lw6d := (Below.refl w6.heap.size w6).drew
    have HbE : Hid (∀ W, Below w6.heap.size w6 W → W.heap[w4.heap.size]? = some (.cells #[.slice A0 R.round.length a0, .slice A1 R.strange.length a1, .slice A2 R.held.length a2, .slice A3 R.stuck.length a3] 31 (0, 0))) := fun W h => (h.block w4.heap.size (by omega)).trans hbE
    have u2 : ∀ W, Below w6.heap.size w6 W → W.cell? ⟨w4.heap.size, 2, none⟩ = some (.slice A2 R.held.length a2) := fun W h => (cells4R (HbE.out W h)).2.2.1
    have u3 : ∀ W, Below w6.heap.size w6 W → W.cell? ⟨w4.heap.size, 3, none⟩ = some (.slice A3 R.stuck.length a3) := fun W h => (cells4R (HbE.out W h)).2.2.2
    have uf : ∀ W, Below w6.heap.size w6 W → W.frozen? ⟨w4.heap.size, 2, none⟩ = false := fun W h => unfrozen6 (HbE.out W h) 2
    have HV2 := Lib.hid (fun W (h : Below w6.heap.size w6 W) => O2.out.rd.on h)
    have HV3 := Lib.hid (fun W (h : Below w6.heap.size w6 W) => O3.out.rd.on h)
    obtain ⟨i0, hi, hz0, hz1, hz2⟩ := info_parts Tryz.infoLtr
    go_wp2_with fail
    go_region_law (first | (refine step_appendAll (α := Ltr) (by rfl) (.tmp 27) (.tmp 29) 29 (by rfl) w6.heap.size 61 i0 _ 24 Tryz.underlying29 hi hz0 hz1 hz2 rfl (by decide) (.slice (some ⟨w6.heap.size, 0, none⟩) 0 0) [] (by rfl) (by first | exact oE | exact oE.drew | exact oED) _ R.held (by rfl) _ (HV2.out _ (by first | exact lE | exact lE1 | exact lE2)) (by unfold maxLen; simp only [List.length_nil]; omega) (by simp only [List.length_nil]; omega) (by simp) ?_; intro v7 w7 o7 hg7 _; have l7 : Below w6.heap.size w6 w7 := (by first | exact lE.trans (below_append oE hg7 (by simp)) | exact lE1.trans (below_append oE.drew hg7 (by simp)) | exact lE2.trans (below_append oED hg7 (by simp))); rw [List.nil_append] at o7; have hz7 := l7.size) | (refine step_appendAll (α := Ltr) (by rfl) (.tmp 30) (.tmp 32) 29 (by rfl) w6.heap.size 61 i0 _ 24 Tryz.underlying29 hi hz0 hz1 hz2 rfl (by decide) v7 R.held (by rfl) o7 _ R.stuck (by rfl) _ (HV3.out _ l7) (by unfold maxLen; omega) (by omega) hz7 ?_; intro v8 w8 o8 hg8 _; have l8 : Below w6.heap.size w6 w8 := l7.trans (below_append o7 hg8 hz7); obtain ⟨A8, n8, c8, rfl, -, -, -, -⟩ := o8.rd))
    all_goals
      obtain ⟨Wz, hn⟩ : ∃ u, u = w8.setCell ⟨w4.heap.size, 2, none⟩ (.slice A8 n8 c8) := ⟨_, rfl⟩
      obtain ⟨Wy, hn2⟩ : ∃ u, u = Wz.setCell ⟨w4.heap.size, 3, none⟩ (.slice none 0 0) := ⟨_, rfl⟩
      have hg8' : w8.grownBy Wy (some w4.heap.size) := by subst hn2 hn; exact grown_setCell (p := ⟨w4.heap.size, 3, none⟩) (grown_setCell (p := ⟨w4.heap.size, 2, none⟩) (World.grownBy.refl w8 (some w4.heap.size)) (.inl rfl) _) (.inl rfl) _
      have hbZ : Wz.heap[w4.heap.size]? = some (.cells #[.slice A0 R.round.length a0, .slice A1 R.strange.length a1, .slice A8 n8 c8, .slice A3 R.stuck.length a3] 31 (0, 0)) := by subst hn; exact blk_set (HbE.out _ l8) 2 _
      have hbD8 : Wy.heap[w4.heap.size]? = some (.cells #[.slice A0 R.round.length a0, .slice A1 R.strange.length a1, .slice A8 n8 c8, .slice none 0 0] 31 (0, 0)) := by subst hn2; exact blk_set hbZ 3 (.slice none 0 0)
      have hbD2 := (hg8'.block w.heap.size (by have := l8.size; omega) (fun e => by injection e; omega)).trans ((l8.block w.heap.size (by omega)).trans hb2_6)
      have hbD4 := (hg8'.block (w.heap.size + 1) (by have := l8.size; omega) (fun e => by injection e; omega)).trans ((l8.block (w.heap.size + 1) (by omega)).trans hb4_6)
      have hbD6 := (hg8'.block w2.heap.size (by have := l8.size; omega) (fun e => by injection e; omega)).trans ((l8.block w2.heap.size (by omega)).trans hb6_6)
      have hBZ : Below w.heap.size w Wy := (hB6.trans (l8.mono (by omega))).grown hg8' (by have := l8.size; omega) (fun r e => by injection e; omega)
      have hkk : ∀ j, j < w2.heap.size → w.heap.size + 2 ≤ j → j ≠ g → Wy.heap[j]? = w6.heap[j]? := fun j h1 _ _ => (hg8'.block j (by have := l8.size; omega) (fun e => by injection e; omega)).trans (l8.block j (by omega))
      have KP : Hid (crKeep 9 106 61 (w.heap.size + 2) w Wy (.agg #[.int .i64 d.plan.bins, .int .i64 d.plan.passes, .slice Ao d.plan.order.length co, .slice Af d.fwds.length cf, .slice Ah d.held.length ch, .int .i64 d.size]) (.slice Ab xs.length cb) (.slice A0 R.round.length a0, .slice A1 R.strange.length a1, .slice A8 n8 c8, .slice none 0 0) d xs ⟨R.round, R.strange, R.held ++ R.stuck, []⟩) :=
        ⟨HDK.out _ hkk, HXK.out _ hkk, ((O0.out.below l8).grown hg8' (.inr fun e => absurd (HN0.out _ e) (Nat.lt_irrefl _))).base_ (by omega), ((O1.out.below l8).grown hg8' (.inr fun e => absurd (HN1.out _ e) (Nat.lt_irrefl _))).base_ (by omega), (o8.grown hg8' (own_ne o8 (by omega))).base_ (by omega), own.nil_ _ _ _, ⟨by show R.round.length ≤ 200; omega, by show R.strange.length ≤ 200; omega, by show (R.held ++ R.stuck).length ≤ 200; rw [List.length_append]; omega, by show 0 ≤ 200; omega⟩, hl2, hBZ⟩
      obtain ⟨z0, z1, z2, z3⟩ := cells4R hbZ
      have zf := blk_free hbZ
      rw [← hn]
      clear hn oE oED lE lE1 lE2 lw6d u2 u3 uf HV2 HV3 o7 o8 hg7 hg8 l7 l8 hz7 hg8' hi hz0 hz1 hz2 HbE hb2_6 hb4_6 hb6_6 hbE hB6 hkk hbZ
      have HN := Lib.hid hn2; clear hn2
      go_wp2_with fail
      rw [← HN.out]
      clear z0 z1 z2 z3 zf
      have BD6 := hbD6
      have BD8 := hbD8
      have BD2 := hbD2
      have BD4 := hbD4
      obtain ⟨p0, p1, p2, p3, p4, p5⟩ := cells6 BD6
      obtain ⟨q0, q1, q2, q3⟩ := cells4R BD8
      obtain ⟨j0, j1, j2, j3, j4, j5⟩ := cells6 BD2
      obtain ⟨k0, k1, k2, k3⟩ := cells4R BD4
      have jf := blk_free BD2
      have kf := blk_free BD4
      have G6 := six_grown Wy w.heap.size (.int .i64 d.plan.bins) (.int .i64 d.plan.passes) (.slice Ao d.plan.order.length co) (.slice Af d.fwds.length cf) (.slice Ah d.held.length ch) (.int .i64 d.size)
      have E68 := (G6.block w4.heap.size (blk_lt BD8) (fun e => by injection e; omega)).trans BD8
      have E64 := (G6.block (w.heap.size + 1) (blk_lt BD4) (fun e => by injection e; omega)).trans BD4
      obtain ⟨r0, r1, r2, r3⟩ := cells4R E68
      obtain ⟨b0, b1, b2, b3⟩ := cells4R E64
      have bf := blk_free E64
      have F2 := six_set BD2 (a := .int .i64 d.plan.bins) (b := .int .i64 d.plan.passes) (c := .slice Ao d.plan.order.length co) (d := .slice Af d.fwds.length cf) (e := .slice Ah d.held.length ch) (f := .int .i64 d.size)
      have F4 := four_setR E64 (a := .slice A0 R.round.length a0) (b := .slice A1 R.strange.length a1) (c := .slice A8 n8 c8) (d := .slice none 0 0)
      have G64 := four_grownR ((((((Wy.setCell ⟨w.heap.size, 0, none⟩ (.int .i64 d.plan.bins)).setCell ⟨w.heap.size, 1, none⟩ (.int .i64 d.plan.passes)).setCell ⟨w.heap.size, 2, none⟩ (.slice Ao d.plan.order.length co)).setCell ⟨w.heap.size, 3, none⟩ (.slice Af d.fwds.length cf)).setCell ⟨w.heap.size, 4, none⟩ (.slice Ah d.held.length ch)).setCell ⟨w.heap.size, 5, none⟩ (.int .i64 d.size)) (w.heap.size + 1) (.slice A0 R.round.length a0) (.slice A1 R.strange.length a1) (.slice A8 n8 c8) (.slice none 0 0)
      have F2b := (G64.block w.heap.size (blk_lt F2) (fun e => by injection e; omega)).trans F2
      have P64 := drawCR_of (h := w.heap.size) (h2 := w.heap.size + 1) (r := ⟨R.round, R.strange, R.held ++ R.stuck, []⟩) (Nat.le_refl _) (by omega) hB1lt hB1lt' (KP.out) G6 G64
      obtain ⟨WZ, hWZ⟩ : ∃ u, u = ((((((((((Wy.setCell ⟨w.heap.size, 0, none⟩ (.int .i64 d.plan.bins)).setCell ⟨w.heap.size, 1, none⟩ (.int .i64 d.plan.passes)).setCell ⟨w.heap.size, 2, none⟩ (.slice Ao d.plan.order.length co)).setCell ⟨w.heap.size, 3, none⟩ (.slice Af d.fwds.length cf)).setCell ⟨w.heap.size, 4, none⟩ (.slice Ah d.held.length ch)).setCell ⟨w.heap.size, 5, none⟩ (.int .i64 d.size)).setCell ⟨(w.heap.size + 1), 0, none⟩ (.slice A0 R.round.length a0)).setCell ⟨(w.heap.size + 1), 1, none⟩ (.slice A1 R.strange.length a1)).setCell ⟨(w.heap.size + 1), 2, none⟩ (.slice A8 n8 c8)).setCell ⟨(w.heap.size + 1), 3, none⟩ (.slice none 0 0)).drew := ⟨_, rfl⟩
      replace F2b := Lib.hid (blk_drew_ F2b); replace F4 := Lib.hid (blk_drew_ F4)
      replace P64 := Lib.hid P64
      rw [← hWZ] at F2b F4 P64
      replace hWZ := Lib.hid hWZ
      clear BD6 BD8 BD2 BD4 G6 E68 E64 F2 G64 hbD2 hbD4 hbD6 hbD8
      go_wp2_with fail
      go_region_law (fail)
      all_goals
        rw [← hWZ.out]
        clear p0 p1 p2 p3 p4 p5 q0 q1 q2 q3 j0 j1 j2 j3 j4 j5 k0 k1 k2 k3 jf kf r0 r1 r2 r3 b0 b1 b2 b3 bf KP hWZ
        rename_i K_ hK_
        refine hK_ _ _ ?_
        apply wp_ret
        exact ret_box_tb (p := 2) (u := 3) (q := 4) (cs := #[.int .i64 d.plan.bins, .int .i64 d.plan.passes, .slice Ao d.plan.order.length co, .slice Af d.fwds.length cf, .slice Ah d.held.length ch, .int .i64 d.size]) (cs2 := #[.slice A0 R.round.length a0, .slice A1 R.strange.length a1, .slice A8 n8 c8, .slice none 0 0]) (t := 28) (t2 := 31) rfl rfl rfl F2b.out F4.out Tryz.underlying28 Tryz.underlying31 rfl rfl Tryz.sizeDay Tryz.sizeRpt rfl P64.out
  have hxe : (x == 0) = false := beq_eq_false_iff_ne.2 hx0
  have KP6 : Hid (crKeep 9 106 61 (w.heap.size + 2) w w6 (.agg #[.int .i64 d.plan.bins, .int .i64 d.plan.passes, .slice Ao d.plan.order.length co, .slice Af d.fwds.length cf, .slice Ah d.held.length ch, .int .i64 d.size]) (.slice Ab xs.length cb) (.slice A0 R.round.length a0, .slice A1 R.strange.length a1, .slice A2 R.held.length a2, .slice A3 R.stuck.length a3) d xs R) :=
    ⟨HDK.out _ (fun _ _ _ _ => rfl), HXK.out _ (fun _ _ _ _ => rfl), O0.out.base_ (by omega), O1.out.base_ (by omega), O2.out.base_ (by omega), O3.out.base_ (by omega), ⟨by omega, by omega, by omega, by omega⟩, hl2, hB6⟩
  by_cases hx1 : x = 1
  · subst hx1
    obtain ⟨y0, y1, y2, y3⟩ := cells4R hbE
    by_cases hl1 : 1 < R.round.length
    · have hli : (1 : Int) < (R.round.length : Int) := by omega
      have HF := Lib.hid (own_some O0.out (by omega))
      obtain ⟨gg, rfl, hgg1, hgg2, hcc, hmm⟩ := HF.out
      unfold maxLen at hmm
      have hle1 : (1 : Int) ≤ (R.round.length : Int) := by omega
      have hlt0 : (0 : Int) < (R.round.length : Int) := by omega
      have hca : ¬ a0 = 1 := by omega
      have hlN : 0 < R.round.length := by omega
      obtain ⟨xi, xc1, xc2⟩ := own_ltr O0.out 0 (by omega)
      rw [Nat.zero_mul] at xc1 xc2
      rw [Nat.zero_add] at xc2
      obtain ⟨zz, hzz⟩ : ∃ z, z = R.round[0] := ⟨_, rfl⟩
      rw [← hzz] at xi xc1 xc2
      clear hzz HF
      have v0 : ∀ W, Below w6.heap.size w6 W → W.cell? ⟨gg, 0, none⟩ = some (.int .i64 zz.id) := fun W h => (h.cell (p := ⟨gg, 0, none⟩) hgg2).trans xc1
      have v1 : ∀ W, Below w6.heap.size w6 W → W.cell? ⟨gg, 1, none⟩ = some (.string zz.code) := fun W h => (h.cell (p := ⟨gg, 1, none⟩) hgg2).trans xc2
      clear xc1 xc2
      have HV0' : Hid (∀ W, Below w6.heap.size w6 W → rd W W.heap.size (.slice (some ⟨gg, 2, none⟩) (R.round.length - 1) (a0 - 1)) (R.round.drop 1)) := fun W h => by have := rd_dropL (k := 1) (O0.out.rd.on h) (by omega); simpa using this
      obtain ⟨ys, hys⟩ : ∃ ys, ys = R.round.drop 1 := ⟨_, rfl⟩
      have HYL : Hid (ys.length + 1 = R.round.length) := by show _ = _; rw [hys, List.length_drop]; omega
      rw [← hys] at HV0'
      clear hys
      have HbE : Hid (∀ W, Below w6.heap.size w6 W → W.heap[w4.heap.size]? = some (.cells #[.slice (some ⟨gg, 0, none⟩) R.round.length a0, .slice A1 R.strange.length a1, .slice A2 R.held.length a2, .slice A3 R.stuck.length a3] 31 (0, 0))) := fun W h => (h.block w4.heap.size (by omega)).trans hbE
      have u0 : ∀ W, Below w6.heap.size w6 W → W.cell? ⟨w4.heap.size, 0, none⟩ = some (.slice (some ⟨gg, 0, none⟩) R.round.length a0) := fun W h => (cells4R (HbE.out W h)).1
      have uf : ∀ W, Below w6.heap.size w6 W → W.frozen? ⟨w4.heap.size, 0, none⟩ = false := fun W h => unfrozen6 (HbE.out W h) 0
      have lw6d := (Below.refl w6.heap.size w6).drew
      have la : Below w6.heap.size w6 (w6.alloc (Obj.cells #[] 61)) := (Below.refl w6.heap.size w6).alloc (Nat.le_refl _) _
      have lt : Below w6.heap.size w6 (w6.alloc (Obj.cells #[.int .i64 zz.id, .string zz.code] 61)) := (Below.refl w6.heap.size w6).alloc (Nat.le_refl _) _
      have lb : Below w6.heap.size w6 ((w6.alloc (Obj.cells #[] 61)).alloc (Obj.cells #[.int .i64 zz.id, .string zz.code] 61)) := la.alloc (by simp) _
      have lc : Below w6.heap.size w6 ((w6.alloc (Obj.cells #[.int .i64 zz.id, .string zz.code] 61)).alloc (Obj.cells #[] 61)) := lt.alloc (by simp) _
      have ea : own (α := Ltr) 61 w6.heap.size (w6.alloc (Obj.cells #[] 61)) (.slice (some ⟨w6.heap.size, 0, none⟩) 0 0) [] := own.made0 w6 _ (Nat.le_refl _)
      have eb := ea.alloc (Obj.cells #[.int .i64 zz.id, .string zz.code] 61)
      have ec : own (α := Ltr) 61 w6.heap.size ((w6.alloc (Obj.cells #[.int .i64 zz.id, .string zz.code] 61)).alloc (Obj.cells #[] 61)) (.slice (some ⟨w6.heap.size + 1, 0, none⟩) 0 0) [] := by
        have := own.made0 (α := Ltr) (w6.alloc (Obj.cells #[.int .i64 zz.id, .string zz.code] 61)) 61 (base := w6.heap.size) (by simp)
        rwa [show (w6.alloc (Obj.cells #[.int .i64 zz.id, .string zz.code] 61)).heap.size = w6.heap.size + 1 by simp] at this
      have rb : ((w6.alloc (Obj.cells #[] 61)).alloc (Obj.cells #[.int .i64 zz.id, .string zz.code] 61)).heap[w6.heap.size + 1]? = some (.cells (Ltr.cells zz).toArray 61 (0, 0)) := by
        have := heap_alloc_new (w6.alloc (Obj.cells #[] 61)) (Obj.cells #[.int .i64 zz.id, .string zz.code] 61)
        rwa [show (w6.alloc (Obj.cells #[] 61)).heap.size = w6.heap.size + 1 by simp] at this
      have rc : ((w6.alloc (Obj.cells #[.int .i64 zz.id, .string zz.code] 61)).alloc (Obj.cells #[] 61)).heap[w6.heap.size]? = some (.cells (Ltr.cells zz).toArray 61 (0, 0)) :=
        (Below.heap_alloc (w6.alloc (Obj.cells #[.int .i64 zz.id, .string zz.code] 61)) _ _ (by simp)).trans (heap_alloc_new w6 (Obj.cells #[.int .i64 zz.id, .string zz.code] 61))
      have lad := la.drew; have lbd := lb.drew; have lcd := lc.drew; have ltd := lt.drew
      have ead := ea.drew; have ebd := eb.drew; have ecd := ec.drew
      have HL0 : Hid (ys.length + 1 ≤ 140737488355328 ∧ (ys.length + 1) * 24 ≤ 140737488355328) := by have := HYL.out; exact ⟨by omega, by omega⟩
      have hml : ys.length + 1 ≤ maxLen := by have := HYL.out; unfold maxLen; omega
      have hml0 : ([] : List Ltr).length + ys.length ≤ maxLen := by have := HYL.out; unfold maxLen; simp only [List.length_nil]; omega
      have hml1 : (([] : List Ltr).length + ys.length) * 24 ≤ 140737488355328 := by have := HYL.out; simp only [List.length_nil]; omega
      obtain ⟨i0, hi, hz0, hz1, hz2⟩ := info_parts Tryz.infoLtr
      go_wp2_with fail
      refine regionZ (S := fun W => Below w6.heap.size w6 W) 12 (by kernel_rfl) lw6d (fun hHeld => ?_)
      refine takeZ (i := 1) (v := ?zv1) rfl rfl (by kernel_rfl) (by kernel_rfl) (by kernel_rfl) (by kernel_rfl) (fun _ _ _ h => h) (Or.inl ⟨by rfl, ?zy1⟩) (by assumption) ?zr1
      case zy1 =>
        intro w_ hSw
        (try dsimp only at hSw)
        go_simp
        try with_reducible rfl
      show anyZ _ _ _ _ _ _ _ _ (Act.put _ (some 43) _) _
      try simp only [Act.put, List.setIfInBounds_toArray, List.set_cons_zero, List.set_cons_succ]
      refine takeZ (i := 2) (v := ?zv2) rfl rfl (by kernel_rfl) (by kernel_rfl) (by kernel_rfl) (by kernel_rfl) (fun _ _ _ h => h) (Or.inl ⟨by rfl, ?zy2⟩) (by assumption) ?zr2
      case zy2 =>
        intro w_ hSw
        (try dsimp only at hSw)
        go_simp
        try with_reducible rfl
      show anyZ _ _ _ _ _ _ _ _ (Act.put _ (some 44) _) _
      try simp only [Act.put, List.setIfInBounds_toArray, List.set_cons_zero, List.set_cons_succ]
      refine takeZ (i := 3) (v := ?zv3) rfl rfl (by kernel_rfl) (by kernel_rfl) (by kernel_rfl) (by kernel_rfl) (fun _ _ _ h => h) (Or.inl ⟨by rfl, ?zy3⟩) (by assumption) ?zr3
      case zy3 =>
        intro w_ hSw
        (try dsimp only at hSw)
        go_simp
        try with_reducible rfl
      show anyZ _ _ _ _ _ _ _ _ (Act.put _ (some 45) _) _
      try simp only [Act.put, List.setIfInBounds_toArray, List.set_cons_zero, List.set_cons_succ]
      refine takeZ (i := 5) (v := ?zv4) rfl rfl (by kernel_rfl) (by kernel_rfl) (by kernel_rfl) (by kernel_rfl) (fun _ _ _ h => h) (Or.inl ⟨by rfl, ?zy4⟩) (by assumption) ?zr4
      case zy4 =>
        intro w_ hSw
        (try dsimp only at hSw)
        go_simp
        try with_reducible rfl
      show anyZ _ _ _ _ _ _ _ _ (Act.put _ (some 47) _) _
      try simp only [Act.put, List.setIfInBounds_toArray, List.set_cons_zero, List.set_cons_succ]
      refine takeZ (i := 6) (v := ?zv5) rfl rfl (by kernel_rfl) (by kernel_rfl) (by kernel_rfl) (by kernel_rfl) (fun _ _ _ h => h) (Or.inl ⟨by rfl, ?zy5⟩) (by assumption) ?zr5
      case zy5 =>
        intro w_ hSw
        (try dsimp only at hSw)
        go_simp
        try with_reducible rfl
      show anyZ _ _ _ _ _ _ _ _ (Act.put _ (some 48) _) _
      try simp only [Act.put, List.setIfInBounds_toArray, List.set_cons_zero, List.set_cons_succ]
      refine takeZ (i := 7) (v := ?zv6) rfl rfl (by kernel_rfl) (by kernel_rfl) (by kernel_rfl) (by kernel_rfl) (fun _ _ _ h => h) (Or.inl ⟨by rfl, ?zy6⟩) (by assumption) ?zr6
      case zy6 =>
        intro w_ hSw
        (try dsimp only at hSw)
        go_simp
        try with_reducible rfl
      show anyZ _ _ _ _ _ _ _ _ (Act.put _ (some 49) _) _
      try simp only [Act.put, List.setIfInBounds_toArray, List.set_cons_zero, List.set_cons_succ]
      refine takeZ (i := 8) (v := ?zv7) rfl rfl (by kernel_rfl) (by kernel_rfl) (by kernel_rfl) (by kernel_rfl) (fun _ _ _ h => h) (Or.inl ⟨by rfl, ?zy7⟩) (by assumption) ?zr7
      case zy7 =>
        intro w_ hSw
        (try dsimp only at hSw)
        go_simp
        try with_reducible rfl
      show anyZ _ _ _ _ _ _ _ _ (Act.put _ (some 50) _) _
      try simp only [Act.put, List.setIfInBounds_toArray, List.set_cons_zero, List.set_cons_succ]
      refine readyZ (rs := [0, 9]) (by kernel_rfl) (by simp) ?_
      refine AllZ.cons rfl (fun K hK => ?_) ?_
      ·
        go_simp
        refine hK.out _ _ (fun _ => ?_) (fun hHeld => ?_)
        · first | exact lad | exact lcd
        replace hHeld := hHeld (by decide)
        clear hK K
        try simp only [Act.put, List.setIfInBounds_toArray, List.set_cons_zero, List.set_cons_succ]
        refine readyZ (rs := [4, 9]) (by kernel_rfl) (by simp) ?_
        refine AllZ.cons rfl (fun K hK => ?_) ?_
        ·
          (refine step_appendAll (α := Ltr) (by rfl) (.tmp 42) (.tmp 45) 29 (by rfl) w6.heap.size 61 i0 _ 24 Tryz.underlying29 hi hz0 hz1 hz2 rfl (by decide) (.slice (some ⟨w6.heap.size, 0, none⟩) 0 0) [] (by rfl) ead _ ys (by rfl) _ (HV0'.out _ lad) hml0 hml1 (by simp <;> omega) ?_; intro v7 w7 o7 hg7 _; have l7 : Below w6.heap.size w6 w7 := lad.trans (below_append ead hg7 (by simp <;> omega)); rw [List.nil_append] at o7; have hz7 := l7.size)
          refine hK.out _ _ (fun _ => ?_) (fun hHeld => ?_)
          · exact l7
          replace hHeld := hHeld (by decide)
          clear hK K
          try simp only [Act.put, List.setIfInBounds_toArray, List.set_cons_zero, List.set_cons_succ]
          refine readyZ (rs := [9]) (by kernel_rfl) (by simp) ?_
          refine AllZ.cons rfl (fun K hK => ?_) AllZ.nil
          go_simp
          refine hK.out _ _ (fun _ => ?_) (fun hHeld => ?_)
          · first | exact lbd | exact ltd | exact l7.alloc hz7 _
          replace hHeld := hHeld (by decide)
          clear hK K
          try simp only [Act.put, List.setIfInBounds_toArray, List.set_cons_zero, List.set_cons_succ]
          refine readyZ (rs := [10]) (by kernel_rfl) (by simp) ?_
          refine AllZ.cons rfl (fun K hK => ?_) AllZ.nil
          (refine step_append1 (α := Ltr) (by rfl) (.tmp 46) (.tmp 51) 29 (by rfl) w6.heap.size 61 i0 _ 24 Tryz.underlying29 hi hz0 hz1 hz2 rfl (by decide) v7 ys zz (by rfl) (o7.alloc _) ⟨w7.heap.size, 0, none⟩ 1 (Ltr.cells zz) (by rfl) ⟨xi, rfl⟩ (news_at w7 _ (Ltr.cells zz)) hml HL0.out.2 (by simp; omega) ?_; intro G8 c8 w8 o8 hg8 _ hG8; have l8 : Below w6.heap.size w6 w8 := (l7.alloc hz7 _).trans (below_append (o7.alloc _) hg8 (by simp; omega)))
          refine hK.out _ _ (fun _ => ?_) (fun hHeld => ?_)
          · exact l8
          replace hHeld := hHeld (by decide)
          clear hK K
          try simp only [Act.put, List.setIfInBounds_toArray, List.set_cons_zero, List.set_cons_succ]
          refine takeZ (i := 11) (v := ?zv8) rfl rfl (by kernel_rfl) (by kernel_rfl) (by kernel_rfl) (by kernel_rfl) (fun _ _ _ h => h) (Or.inl ⟨by rfl, ?zy8⟩) (by assumption) ?zr8
          case zy8 =>
            intro w_ hSw
            (try dsimp only at hSw)
            go_simp
            try with_reducible rfl
          show anyZ _ _ _ _ _ _ _ _ (Act.put _ (some 53) _) _
          try simp only [Act.put, List.setIfInBounds_toArray, List.set_cons_zero, List.set_cons_succ]
          refine readyZ (rs := [12]) (by kernel_rfl) (by simp) ?_
          refine AllZ.cons rfl (fun K hK => ?_) AllZ.nil
          go_simp
          refine hK.out _ _ (fun h => absurd rfl h) (fun _ => ?_)
          clear hK K
          try simp only [Act.put, List.setIfInBounds_toArray, List.set_cons_zero, List.set_cons_succ]
          refine doneZ (by kernel_rfl) ?_ _
          obtain ⟨Wz, hn⟩ : ∃ u, u = w8.setCell ⟨w4.heap.size, 0, none⟩ (.slice (some ⟨G8, 0, none⟩) (ys.length + 1) c8) := ⟨_, rfl⟩
          have hg8' : w8.grownBy Wz (some w4.heap.size) := by subst hn; exact grown_setCell (p := ⟨w4.heap.size, 0, none⟩) (World.grownBy.refl w8 (some w4.heap.size)) (.inl rfl) _
          have hbD8 : Wz.heap[w4.heap.size]? = some (.cells #[.slice (some ⟨G8, 0, none⟩) (ys.length + 1) c8, .slice A1 R.strange.length a1, .slice A2 R.held.length a2, .slice A3 R.stuck.length a3] 31 (0, 0)) := by subst hn; exact blk_set (HbE.out _ l8) 0 _
          have hbD2 := (hg8'.block w.heap.size (by have := l8.size; omega) (fun e => by injection e; omega)).trans ((l8.block w.heap.size (by omega)).trans hb2_6)
          have hbD4 := (hg8'.block (w.heap.size + 1) (by have := l8.size; omega) (fun e => by injection e; omega)).trans ((l8.block (w.heap.size + 1) (by omega)).trans hb4_6)
          have hbD6 := (hg8'.block w2.heap.size (by have := l8.size; omega) (fun e => by injection e; omega)).trans ((l8.block w2.heap.size (by omega)).trans hb6_6)
          have hBZ : Below w.heap.size w Wz := (hB6.trans (l8.mono (by omega))).grown hg8' (by have := l8.size; omega) (fun r e => by injection e; omega)
          have hkk : ∀ j, j < w2.heap.size → w.heap.size + 2 ≤ j → j ≠ g → Wz.heap[j]? = w6.heap[j]? := fun j h1 _ _ => (hg8'.block j (by have := l8.size; omega) (fun e => by injection e; omega)).trans (l8.block j (by omega))
          have KP : Hid (crKeep 9 106 61 (w.heap.size + 2) w Wz (.agg #[.int .i64 d.plan.bins, .int .i64 d.plan.passes, .slice Ao d.plan.order.length co, .slice Af d.fwds.length cf, .slice Ah d.held.length ch, .int .i64 d.size]) (.slice Ab xs.length cb) (.slice (some ⟨G8, 0, none⟩) (ys.length + 1) c8, .slice A1 R.strange.length a1, .slice A2 R.held.length a2, .slice A3 R.stuck.length a3) d xs ⟨ys ++ [zz], R.strange, R.held, R.stuck⟩) :=
            ⟨HDK.out _ hkk, HXK.out _ hkk, (o8.grown hg8' (own_ne o8 (by omega))).base_ (by omega), ((O1.out.below l8).grown hg8' (.inr fun e => absurd (HN1.out _ e) (Nat.lt_irrefl _))).base_ (by omega), ((O2.out.below l8).grown hg8' (.inr fun e => absurd (HN2.out _ e) (Nat.lt_irrefl _))).base_ (by omega), ((O3.out.below l8).grown hg8' (.inr fun e => absurd (HN3.out _ e) (Nat.lt_irrefl _))).base_ (by omega), ⟨by show (ys ++ [zz]).length ≤ 200; have := HYL.out; rw [List.length_append]; show ys.length + 1 ≤ 200; omega, by show R.strange.length ≤ 200; omega, by show R.held.length ≤ 200; omega, by show R.stuck.length ≤ 200; omega⟩, hl2, hBZ⟩
          rw [← hn]
          clear hn ea eb ec ead ebd ecd rb rc la lb lc lad lbd lcd ltd lt lw6d hHeld u0 uf v0 v1 HV0' o7 o8 hg7 hg8 l7 l8 hz7 hg8' hi hz0 hz1 hz2 HbE hb2_6 hb4_6 hb6_6 hbE hB6 hkk hml hml0 hml1 y0 y1 y2 y3
          go_wp2_with fail
          have BD6 := hbD6
          have BD8 := hbD8
          have BD2 := hbD2
          have BD4 := hbD4
          obtain ⟨p0, p1, p2, p3, p4, p5⟩ := cells6 BD6
          obtain ⟨q0, q1, q2, q3⟩ := cells4R BD8
          obtain ⟨j0, j1, j2, j3, j4, j5⟩ := cells6 BD2
          obtain ⟨k0, k1, k2, k3⟩ := cells4R BD4
          have jf := blk_free BD2
          have kf := blk_free BD4
          have G6 := six_grown Wz w.heap.size (.int .i64 d.plan.bins) (.int .i64 d.plan.passes) (.slice Ao d.plan.order.length co) (.slice Af d.fwds.length cf) (.slice Ah d.held.length ch) (.int .i64 d.size)
          have E68 := (G6.block w4.heap.size (blk_lt BD8) (fun e => by injection e; omega)).trans BD8
          have E64 := (G6.block (w.heap.size + 1) (blk_lt BD4) (fun e => by injection e; omega)).trans BD4
          obtain ⟨r0, r1, r2, r3⟩ := cells4R E68
          obtain ⟨b0, b1, b2, b3⟩ := cells4R E64
          have bf := blk_free E64
          have F2 := six_set BD2 (a := .int .i64 d.plan.bins) (b := .int .i64 d.plan.passes) (c := .slice Ao d.plan.order.length co) (d := .slice Af d.fwds.length cf) (e := .slice Ah d.held.length ch) (f := .int .i64 d.size)
          have F4 := four_setR E64 (a := .slice (some ⟨G8, 0, none⟩) (ys.length + 1) c8) (b := .slice A1 R.strange.length a1) (c := .slice A2 R.held.length a2) (d := .slice A3 R.stuck.length a3)
          have G64 := four_grownR ((((((Wz.setCell ⟨w.heap.size, 0, none⟩ (.int .i64 d.plan.bins)).setCell ⟨w.heap.size, 1, none⟩ (.int .i64 d.plan.passes)).setCell ⟨w.heap.size, 2, none⟩ (.slice Ao d.plan.order.length co)).setCell ⟨w.heap.size, 3, none⟩ (.slice Af d.fwds.length cf)).setCell ⟨w.heap.size, 4, none⟩ (.slice Ah d.held.length ch)).setCell ⟨w.heap.size, 5, none⟩ (.int .i64 d.size)) (w.heap.size + 1) (.slice (some ⟨G8, 0, none⟩) (ys.length + 1) c8) (.slice A1 R.strange.length a1) (.slice A2 R.held.length a2) (.slice A3 R.stuck.length a3)
          have F2b := (G64.block w.heap.size (blk_lt F2) (fun e => by injection e; omega)).trans F2
          have P64 := drawCR_of (h := w.heap.size) (h2 := w.heap.size + 1) (r := ⟨ys ++ [zz], R.strange, R.held, R.stuck⟩) (Nat.le_refl _) (by omega) hB1lt hB1lt' (KP.out) G6 G64
          obtain ⟨WZ, hWZ⟩ : ∃ u, u = ((((((((((Wz.setCell ⟨w.heap.size, 0, none⟩ (.int .i64 d.plan.bins)).setCell ⟨w.heap.size, 1, none⟩ (.int .i64 d.plan.passes)).setCell ⟨w.heap.size, 2, none⟩ (.slice Ao d.plan.order.length co)).setCell ⟨w.heap.size, 3, none⟩ (.slice Af d.fwds.length cf)).setCell ⟨w.heap.size, 4, none⟩ (.slice Ah d.held.length ch)).setCell ⟨w.heap.size, 5, none⟩ (.int .i64 d.size)).setCell ⟨(w.heap.size + 1), 0, none⟩ (.slice (some ⟨G8, 0, none⟩) (ys.length + 1) c8)).setCell ⟨(w.heap.size + 1), 1, none⟩ (.slice A1 R.strange.length a1)).setCell ⟨(w.heap.size + 1), 2, none⟩ (.slice A2 R.held.length a2)).setCell ⟨(w.heap.size + 1), 3, none⟩ (.slice A3 R.stuck.length a3)).drew := ⟨_, rfl⟩
          replace F2b := Lib.hid (blk_drew_ F2b); replace F4 := Lib.hid (blk_drew_ F4)
          replace P64 := Lib.hid P64
          rw [← hWZ] at F2b F4 P64
          replace hWZ := Lib.hid hWZ
          clear BD6 BD8 BD2 BD4 G6 E68 E64 F2 G64 hbD2 hbD4 hbD6 hbD8
          go_wp2_with fail
          go_region_law (fail)
          all_goals
            rw [← hWZ.out]
            clear p0 p1 p2 p3 p4 p5 q0 q1 q2 q3 j0 j1 j2 j3 j4 j5 k0 k1 k2 k3 jf kf r0 r1 r2 r3 b0 b1 b2 b3 bf KP hWZ
            rename_i K_ hK_
            refine hK_ _ _ ?_
            apply wp_ret
            exact ret_box_tb (p := 2) (u := 3) (q := 4) (cs := #[.int .i64 d.plan.bins, .int .i64 d.plan.passes, .slice Ao d.plan.order.length co, .slice Af d.fwds.length cf, .slice Ah d.held.length ch, .int .i64 d.size]) (cs2 := #[.slice (some ⟨G8, 0, none⟩) (ys.length + 1) c8, .slice A1 R.strange.length a1, .slice A2 R.held.length a2, .slice A3 R.stuck.length a3]) (t := 28) (t2 := 31) rfl rfl rfl F2b.out F4.out Tryz.underlying28 Tryz.underlying31 rfl rfl Tryz.sizeDay Tryz.sizeRpt rfl P64.out
        refine AllZ.cons rfl (fun K hK => ?_) AllZ.nil
        go_simp
        refine hK.out _ _ (fun _ => ?_) (fun hHeld => ?_)
        · first | exact lbd | exact ltd | exact l7.alloc hz7 _
        replace hHeld := hHeld (by decide)
        clear hK K
        try simp only [Act.put, List.setIfInBounds_toArray, List.set_cons_zero, List.set_cons_succ]
        refine readyZ (rs := [4]) (by kernel_rfl) (by simp) ?_
        refine AllZ.cons rfl (fun K hK => ?_) AllZ.nil
        (refine step_appendAll (α := Ltr) (by rfl) (.tmp 42) (.tmp 45) 29 (by rfl) w6.heap.size 61 i0 _ 24 Tryz.underlying29 hi hz0 hz1 hz2 rfl (by decide) (.slice (some ⟨w6.heap.size, 0, none⟩) 0 0) [] (by rfl) ebd _ ys (by rfl) _ (HV0'.out _ lbd) hml0 hml1 (by simp <;> omega) ?_; intro v7 w7 o7 hg7 _; have l7 : Below w6.heap.size w6 w7 := lbd.trans (below_append ebd hg7 (by simp <;> omega)); rw [List.nil_append] at o7; have hz7 := l7.size; have rw7 := (hg7.block (w6.heap.size + 1) (by simp) (fun e => by injection e with e; simp at e)).trans rb)
        refine hK.out _ _ (fun _ => ?_) (fun hHeld => ?_)
        · exact l7
        replace hHeld := hHeld (by decide)
        clear hK K
        try simp only [Act.put, List.setIfInBounds_toArray, List.set_cons_zero, List.set_cons_succ]
        refine readyZ (rs := [10]) (by kernel_rfl) (by simp) ?_
        refine AllZ.cons rfl (fun K hK => ?_) AllZ.nil
        (refine step_append1 (α := Ltr) (by rfl) (.tmp 46) (.tmp 51) 29 (by rfl) w6.heap.size 61 i0 _ 24 Tryz.underlying29 hi hz0 hz1 hz2 rfl (by decide) v7 ys zz (by rfl) o7 ⟨w6.heap.size + 1, 0, none⟩ 1 (Ltr.cells zz) (by rfl) ⟨xi, rfl⟩ (news_row rw7) hml HL0.out.2 hz7 ?_; intro G8 c8 w8 o8 hg8 _ hG8; have l8 : Below w6.heap.size w6 w8 := l7.trans (below_append o7 hg8 hz7))
        refine hK.out _ _ (fun _ => ?_) (fun hHeld => ?_)
        · exact l8
        replace hHeld := hHeld (by decide)
        clear hK K
        try simp only [Act.put, List.setIfInBounds_toArray, List.set_cons_zero, List.set_cons_succ]
        refine takeZ (i := 11) (v := ?zv9) rfl rfl (by kernel_rfl) (by kernel_rfl) (by kernel_rfl) (by kernel_rfl) (fun _ _ _ h => h) (Or.inl ⟨by rfl, ?zy9⟩) (by assumption) ?zr9
        case zy9 =>
          intro w_ hSw
          (try dsimp only at hSw)
          go_simp
          try with_reducible rfl
        show anyZ _ _ _ _ _ _ _ _ (Act.put _ (some 53) _) _
        try simp only [Act.put, List.setIfInBounds_toArray, List.set_cons_zero, List.set_cons_succ]
        refine readyZ (rs := [12]) (by kernel_rfl) (by simp) ?_
        refine AllZ.cons rfl (fun K hK => ?_) AllZ.nil
        go_simp
        refine hK.out _ _ (fun h => absurd rfl h) (fun _ => ?_)
        clear hK K
        try simp only [Act.put, List.setIfInBounds_toArray, List.set_cons_zero, List.set_cons_succ]
        refine doneZ (by kernel_rfl) ?_ _
        obtain ⟨Wz, hn⟩ : ∃ u, u = w8.setCell ⟨w4.heap.size, 0, none⟩ (.slice (some ⟨G8, 0, none⟩) (ys.length + 1) c8) := ⟨_, rfl⟩
        have hg8' : w8.grownBy Wz (some w4.heap.size) := by subst hn; exact grown_setCell (p := ⟨w4.heap.size, 0, none⟩) (World.grownBy.refl w8 (some w4.heap.size)) (.inl rfl) _
        have hbD8 : Wz.heap[w4.heap.size]? = some (.cells #[.slice (some ⟨G8, 0, none⟩) (ys.length + 1) c8, .slice A1 R.strange.length a1, .slice A2 R.held.length a2, .slice A3 R.stuck.length a3] 31 (0, 0)) := by subst hn; exact blk_set (HbE.out _ l8) 0 _
        have hbD2 := (hg8'.block w.heap.size (by have := l8.size; omega) (fun e => by injection e; omega)).trans ((l8.block w.heap.size (by omega)).trans hb2_6)
        have hbD4 := (hg8'.block (w.heap.size + 1) (by have := l8.size; omega) (fun e => by injection e; omega)).trans ((l8.block (w.heap.size + 1) (by omega)).trans hb4_6)
        have hbD6 := (hg8'.block w2.heap.size (by have := l8.size; omega) (fun e => by injection e; omega)).trans ((l8.block w2.heap.size (by omega)).trans hb6_6)
        have hBZ : Below w.heap.size w Wz := (hB6.trans (l8.mono (by omega))).grown hg8' (by have := l8.size; omega) (fun r e => by injection e; omega)
        have hkk : ∀ j, j < w2.heap.size → w.heap.size + 2 ≤ j → j ≠ g → Wz.heap[j]? = w6.heap[j]? := fun j h1 _ _ => (hg8'.block j (by have := l8.size; omega) (fun e => by injection e; omega)).trans (l8.block j (by omega))
        have KP : Hid (crKeep 9 106 61 (w.heap.size + 2) w Wz (.agg #[.int .i64 d.plan.bins, .int .i64 d.plan.passes, .slice Ao d.plan.order.length co, .slice Af d.fwds.length cf, .slice Ah d.held.length ch, .int .i64 d.size]) (.slice Ab xs.length cb) (.slice (some ⟨G8, 0, none⟩) (ys.length + 1) c8, .slice A1 R.strange.length a1, .slice A2 R.held.length a2, .slice A3 R.stuck.length a3) d xs ⟨ys ++ [zz], R.strange, R.held, R.stuck⟩) :=
          ⟨HDK.out _ hkk, HXK.out _ hkk, (o8.grown hg8' (own_ne o8 (by omega))).base_ (by omega), ((O1.out.below l8).grown hg8' (.inr fun e => absurd (HN1.out _ e) (Nat.lt_irrefl _))).base_ (by omega), ((O2.out.below l8).grown hg8' (.inr fun e => absurd (HN2.out _ e) (Nat.lt_irrefl _))).base_ (by omega), ((O3.out.below l8).grown hg8' (.inr fun e => absurd (HN3.out _ e) (Nat.lt_irrefl _))).base_ (by omega), ⟨by show (ys ++ [zz]).length ≤ 200; have := HYL.out; rw [List.length_append]; show ys.length + 1 ≤ 200; omega, by show R.strange.length ≤ 200; omega, by show R.held.length ≤ 200; omega, by show R.stuck.length ≤ 200; omega⟩, hl2, hBZ⟩
        rw [← hn]
        clear hn ea eb ec ead ebd ecd rb rc la lb lc lad lbd lcd ltd lt lw6d hHeld u0 uf v0 v1 HV0' o7 o8 hg7 hg8 l7 l8 hz7 hg8' hi hz0 hz1 hz2 HbE hb2_6 hb4_6 hb6_6 hbE hB6 hkk hml hml0 hml1 y0 y1 y2 y3
        go_wp2_with fail
        have BD6 := hbD6
        have BD8 := hbD8
        have BD2 := hbD2
        have BD4 := hbD4
        obtain ⟨p0, p1, p2, p3, p4, p5⟩ := cells6 BD6
        obtain ⟨q0, q1, q2, q3⟩ := cells4R BD8
        obtain ⟨j0, j1, j2, j3, j4, j5⟩ := cells6 BD2
        obtain ⟨k0, k1, k2, k3⟩ := cells4R BD4
        have jf := blk_free BD2
        have kf := blk_free BD4
        have G6 := six_grown Wz w.heap.size (.int .i64 d.plan.bins) (.int .i64 d.plan.passes) (.slice Ao d.plan.order.length co) (.slice Af d.fwds.length cf) (.slice Ah d.held.length ch) (.int .i64 d.size)
        have E68 := (G6.block w4.heap.size (blk_lt BD8) (fun e => by injection e; omega)).trans BD8
        have E64 := (G6.block (w.heap.size + 1) (blk_lt BD4) (fun e => by injection e; omega)).trans BD4
        obtain ⟨r0, r1, r2, r3⟩ := cells4R E68
        obtain ⟨b0, b1, b2, b3⟩ := cells4R E64
        have bf := blk_free E64
        have F2 := six_set BD2 (a := .int .i64 d.plan.bins) (b := .int .i64 d.plan.passes) (c := .slice Ao d.plan.order.length co) (d := .slice Af d.fwds.length cf) (e := .slice Ah d.held.length ch) (f := .int .i64 d.size)
        have F4 := four_setR E64 (a := .slice (some ⟨G8, 0, none⟩) (ys.length + 1) c8) (b := .slice A1 R.strange.length a1) (c := .slice A2 R.held.length a2) (d := .slice A3 R.stuck.length a3)
        have G64 := four_grownR ((((((Wz.setCell ⟨w.heap.size, 0, none⟩ (.int .i64 d.plan.bins)).setCell ⟨w.heap.size, 1, none⟩ (.int .i64 d.plan.passes)).setCell ⟨w.heap.size, 2, none⟩ (.slice Ao d.plan.order.length co)).setCell ⟨w.heap.size, 3, none⟩ (.slice Af d.fwds.length cf)).setCell ⟨w.heap.size, 4, none⟩ (.slice Ah d.held.length ch)).setCell ⟨w.heap.size, 5, none⟩ (.int .i64 d.size)) (w.heap.size + 1) (.slice (some ⟨G8, 0, none⟩) (ys.length + 1) c8) (.slice A1 R.strange.length a1) (.slice A2 R.held.length a2) (.slice A3 R.stuck.length a3)
        have F2b := (G64.block w.heap.size (blk_lt F2) (fun e => by injection e; omega)).trans F2
        have P64 := drawCR_of (h := w.heap.size) (h2 := w.heap.size + 1) (r := ⟨ys ++ [zz], R.strange, R.held, R.stuck⟩) (Nat.le_refl _) (by omega) hB1lt hB1lt' (KP.out) G6 G64
        obtain ⟨WZ, hWZ⟩ : ∃ u, u = ((((((((((Wz.setCell ⟨w.heap.size, 0, none⟩ (.int .i64 d.plan.bins)).setCell ⟨w.heap.size, 1, none⟩ (.int .i64 d.plan.passes)).setCell ⟨w.heap.size, 2, none⟩ (.slice Ao d.plan.order.length co)).setCell ⟨w.heap.size, 3, none⟩ (.slice Af d.fwds.length cf)).setCell ⟨w.heap.size, 4, none⟩ (.slice Ah d.held.length ch)).setCell ⟨w.heap.size, 5, none⟩ (.int .i64 d.size)).setCell ⟨(w.heap.size + 1), 0, none⟩ (.slice (some ⟨G8, 0, none⟩) (ys.length + 1) c8)).setCell ⟨(w.heap.size + 1), 1, none⟩ (.slice A1 R.strange.length a1)).setCell ⟨(w.heap.size + 1), 2, none⟩ (.slice A2 R.held.length a2)).setCell ⟨(w.heap.size + 1), 3, none⟩ (.slice A3 R.stuck.length a3)).drew := ⟨_, rfl⟩
        replace F2b := Lib.hid (blk_drew_ F2b); replace F4 := Lib.hid (blk_drew_ F4)
        replace P64 := Lib.hid P64
        rw [← hWZ] at F2b F4 P64
        replace hWZ := Lib.hid hWZ
        clear BD6 BD8 BD2 BD4 G6 E68 E64 F2 G64 hbD2 hbD4 hbD6 hbD8
        go_wp2_with fail
        go_region_law (fail)
        all_goals
          rw [← hWZ.out]
          clear p0 p1 p2 p3 p4 p5 q0 q1 q2 q3 j0 j1 j2 j3 j4 j5 k0 k1 k2 k3 jf kf r0 r1 r2 r3 b0 b1 b2 b3 bf KP hWZ
          rename_i K_ hK_
          refine hK_ _ _ ?_
          apply wp_ret
          exact ret_box_tb (p := 2) (u := 3) (q := 4) (cs := #[.int .i64 d.plan.bins, .int .i64 d.plan.passes, .slice Ao d.plan.order.length co, .slice Af d.fwds.length cf, .slice Ah d.held.length ch, .int .i64 d.size]) (cs2 := #[.slice (some ⟨G8, 0, none⟩) (ys.length + 1) c8, .slice A1 R.strange.length a1, .slice A2 R.held.length a2, .slice A3 R.stuck.length a3]) (t := 28) (t2 := 31) rfl rfl rfl F2b.out F4.out Tryz.underlying28 Tryz.underlying31 rfl rfl Tryz.sizeDay Tryz.sizeRpt rfl P64.out
      refine AllZ.cons rfl (fun K hK => ?_) AllZ.nil
      go_simp
      refine hK.out _ _ (fun _ => ?_) (fun hHeld => ?_)
      · first | exact lbd | exact ltd | exact l7.alloc hz7 _
      replace hHeld := hHeld (by decide)
      clear hK K
      try simp only [Act.put, List.setIfInBounds_toArray, List.set_cons_zero, List.set_cons_succ]
      refine readyZ (rs := [0]) (by kernel_rfl) (by simp) ?_
      refine AllZ.cons rfl (fun K hK => ?_) AllZ.nil
      go_simp
      refine hK.out _ _ (fun _ => ?_) (fun hHeld => ?_)
      · first | exact lad | exact lcd
      replace hHeld := hHeld (by decide)
      clear hK K
      try simp only [Act.put, List.setIfInBounds_toArray, List.set_cons_zero, List.set_cons_succ]
      refine readyZ (rs := [4]) (by kernel_rfl) (by simp) ?_
      refine AllZ.cons rfl (fun K hK => ?_) AllZ.nil
      (refine step_appendAll (α := Ltr) (by rfl) (.tmp 42) (.tmp 45) 29 (by rfl) w6.heap.size 61 i0 _ 24 Tryz.underlying29 hi hz0 hz1 hz2 rfl (by decide) (.slice (some ⟨w6.heap.size + 1, 0, none⟩) 0 0) [] (by rfl) ecd _ ys (by rfl) _ (HV0'.out _ lcd) hml0 hml1 (by simp <;> omega) ?_; intro v7 w7 o7 hg7 _; have l7 : Below w6.heap.size w6 w7 := lcd.trans (below_append ecd hg7 (by simp <;> omega)); rw [List.nil_append] at o7; have hz7 := l7.size; have rw7 := (hg7.block w6.heap.size (by simp; omega) (fun e => by injection e with e; simp at e)).trans rc)
      refine hK.out _ _ (fun _ => ?_) (fun hHeld => ?_)
      · exact l7
      replace hHeld := hHeld (by decide)
      clear hK K
      try simp only [Act.put, List.setIfInBounds_toArray, List.set_cons_zero, List.set_cons_succ]
      refine readyZ (rs := [10]) (by kernel_rfl) (by simp) ?_
      refine AllZ.cons rfl (fun K hK => ?_) AllZ.nil
      (refine step_append1 (α := Ltr) (by rfl) (.tmp 46) (.tmp 51) 29 (by rfl) w6.heap.size 61 i0 _ 24 Tryz.underlying29 hi hz0 hz1 hz2 rfl (by decide) v7 ys zz (by rfl) o7 ⟨w6.heap.size, 0, none⟩ 1 (Ltr.cells zz) (by rfl) ⟨xi, rfl⟩ (news_row rw7) hml HL0.out.2 hz7 ?_; intro G8 c8 w8 o8 hg8 _ hG8; have l8 : Below w6.heap.size w6 w8 := l7.trans (below_append o7 hg8 hz7))
      refine hK.out _ _ (fun _ => ?_) (fun hHeld => ?_)
      · exact l8
      replace hHeld := hHeld (by decide)
      clear hK K
      try simp only [Act.put, List.setIfInBounds_toArray, List.set_cons_zero, List.set_cons_succ]
      refine takeZ (i := 11) (v := ?zv10) rfl rfl (by kernel_rfl) (by kernel_rfl) (by kernel_rfl) (by kernel_rfl) (fun _ _ _ h => h) (Or.inl ⟨by rfl, ?zy10⟩) (by assumption) ?zr10
      case zy10 =>
        intro w_ hSw
        (try dsimp only at hSw)
        go_simp
        try with_reducible rfl
      show anyZ _ _ _ _ _ _ _ _ (Act.put _ (some 53) _) _
      try simp only [Act.put, List.setIfInBounds_toArray, List.set_cons_zero, List.set_cons_succ]
      refine readyZ (rs := [12]) (by kernel_rfl) (by simp) ?_
      refine AllZ.cons rfl (fun K hK => ?_) AllZ.nil
      go_simp
      refine hK.out _ _ (fun h => absurd rfl h) (fun _ => ?_)
      clear hK K
      try simp only [Act.put, List.setIfInBounds_toArray, List.set_cons_zero, List.set_cons_succ]
      refine doneZ (by kernel_rfl) ?_ _
      obtain ⟨Wz, hn⟩ : ∃ u, u = w8.setCell ⟨w4.heap.size, 0, none⟩ (.slice (some ⟨G8, 0, none⟩) (ys.length + 1) c8) := ⟨_, rfl⟩
      have hg8' : w8.grownBy Wz (some w4.heap.size) := by subst hn; exact grown_setCell (p := ⟨w4.heap.size, 0, none⟩) (World.grownBy.refl w8 (some w4.heap.size)) (.inl rfl) _
      have hbD8 : Wz.heap[w4.heap.size]? = some (.cells #[.slice (some ⟨G8, 0, none⟩) (ys.length + 1) c8, .slice A1 R.strange.length a1, .slice A2 R.held.length a2, .slice A3 R.stuck.length a3] 31 (0, 0)) := by subst hn; exact blk_set (HbE.out _ l8) 0 _
      have hbD2 := (hg8'.block w.heap.size (by have := l8.size; omega) (fun e => by injection e; omega)).trans ((l8.block w.heap.size (by omega)).trans hb2_6)
      have hbD4 := (hg8'.block (w.heap.size + 1) (by have := l8.size; omega) (fun e => by injection e; omega)).trans ((l8.block (w.heap.size + 1) (by omega)).trans hb4_6)
      have hbD6 := (hg8'.block w2.heap.size (by have := l8.size; omega) (fun e => by injection e; omega)).trans ((l8.block w2.heap.size (by omega)).trans hb6_6)
      have hBZ : Below w.heap.size w Wz := (hB6.trans (l8.mono (by omega))).grown hg8' (by have := l8.size; omega) (fun r e => by injection e; omega)
      have hkk : ∀ j, j < w2.heap.size → w.heap.size + 2 ≤ j → j ≠ g → Wz.heap[j]? = w6.heap[j]? := fun j h1 _ _ => (hg8'.block j (by have := l8.size; omega) (fun e => by injection e; omega)).trans (l8.block j (by omega))
      have KP : Hid (crKeep 9 106 61 (w.heap.size + 2) w Wz (.agg #[.int .i64 d.plan.bins, .int .i64 d.plan.passes, .slice Ao d.plan.order.length co, .slice Af d.fwds.length cf, .slice Ah d.held.length ch, .int .i64 d.size]) (.slice Ab xs.length cb) (.slice (some ⟨G8, 0, none⟩) (ys.length + 1) c8, .slice A1 R.strange.length a1, .slice A2 R.held.length a2, .slice A3 R.stuck.length a3) d xs ⟨ys ++ [zz], R.strange, R.held, R.stuck⟩) :=
        ⟨HDK.out _ hkk, HXK.out _ hkk, (o8.grown hg8' (own_ne o8 (by omega))).base_ (by omega), ((O1.out.below l8).grown hg8' (.inr fun e => absurd (HN1.out _ e) (Nat.lt_irrefl _))).base_ (by omega), ((O2.out.below l8).grown hg8' (.inr fun e => absurd (HN2.out _ e) (Nat.lt_irrefl _))).base_ (by omega), ((O3.out.below l8).grown hg8' (.inr fun e => absurd (HN3.out _ e) (Nat.lt_irrefl _))).base_ (by omega), ⟨by show (ys ++ [zz]).length ≤ 200; have := HYL.out; rw [List.length_append]; show ys.length + 1 ≤ 200; omega, by show R.strange.length ≤ 200; omega, by show R.held.length ≤ 200; omega, by show R.stuck.length ≤ 200; omega⟩, hl2, hBZ⟩
      rw [← hn]
      clear hn ea eb ec ead ebd ecd rb rc la lb lc lad lbd lcd ltd lt lw6d hHeld u0 uf v0 v1 HV0' o7 o8 hg7 hg8 l7 l8 hz7 hg8' hi hz0 hz1 hz2 HbE hb2_6 hb4_6 hb6_6 hbE hB6 hkk hml hml0 hml1 y0 y1 y2 y3
      go_wp2_with fail
      have BD6 := hbD6
      have BD8 := hbD8
      have BD2 := hbD2
      have BD4 := hbD4
      obtain ⟨p0, p1, p2, p3, p4, p5⟩ := cells6 BD6
      obtain ⟨q0, q1, q2, q3⟩ := cells4R BD8
      obtain ⟨j0, j1, j2, j3, j4, j5⟩ := cells6 BD2
      obtain ⟨k0, k1, k2, k3⟩ := cells4R BD4
      have jf := blk_free BD2
      have kf := blk_free BD4
      have G6 := six_grown Wz w.heap.size (.int .i64 d.plan.bins) (.int .i64 d.plan.passes) (.slice Ao d.plan.order.length co) (.slice Af d.fwds.length cf) (.slice Ah d.held.length ch) (.int .i64 d.size)
      have E68 := (G6.block w4.heap.size (blk_lt BD8) (fun e => by injection e; omega)).trans BD8
      have E64 := (G6.block (w.heap.size + 1) (blk_lt BD4) (fun e => by injection e; omega)).trans BD4
      obtain ⟨r0, r1, r2, r3⟩ := cells4R E68
      obtain ⟨b0, b1, b2, b3⟩ := cells4R E64
      have bf := blk_free E64
      have F2 := six_set BD2 (a := .int .i64 d.plan.bins) (b := .int .i64 d.plan.passes) (c := .slice Ao d.plan.order.length co) (d := .slice Af d.fwds.length cf) (e := .slice Ah d.held.length ch) (f := .int .i64 d.size)
      have F4 := four_setR E64 (a := .slice (some ⟨G8, 0, none⟩) (ys.length + 1) c8) (b := .slice A1 R.strange.length a1) (c := .slice A2 R.held.length a2) (d := .slice A3 R.stuck.length a3)
      have G64 := four_grownR ((((((Wz.setCell ⟨w.heap.size, 0, none⟩ (.int .i64 d.plan.bins)).setCell ⟨w.heap.size, 1, none⟩ (.int .i64 d.plan.passes)).setCell ⟨w.heap.size, 2, none⟩ (.slice Ao d.plan.order.length co)).setCell ⟨w.heap.size, 3, none⟩ (.slice Af d.fwds.length cf)).setCell ⟨w.heap.size, 4, none⟩ (.slice Ah d.held.length ch)).setCell ⟨w.heap.size, 5, none⟩ (.int .i64 d.size)) (w.heap.size + 1) (.slice (some ⟨G8, 0, none⟩) (ys.length + 1) c8) (.slice A1 R.strange.length a1) (.slice A2 R.held.length a2) (.slice A3 R.stuck.length a3)
      have F2b := (G64.block w.heap.size (blk_lt F2) (fun e => by injection e; omega)).trans F2
      have P64 := drawCR_of (h := w.heap.size) (h2 := w.heap.size + 1) (r := ⟨ys ++ [zz], R.strange, R.held, R.stuck⟩) (Nat.le_refl _) (by omega) hB1lt hB1lt' (KP.out) G6 G64
      obtain ⟨WZ, hWZ⟩ : ∃ u, u = ((((((((((Wz.setCell ⟨w.heap.size, 0, none⟩ (.int .i64 d.plan.bins)).setCell ⟨w.heap.size, 1, none⟩ (.int .i64 d.plan.passes)).setCell ⟨w.heap.size, 2, none⟩ (.slice Ao d.plan.order.length co)).setCell ⟨w.heap.size, 3, none⟩ (.slice Af d.fwds.length cf)).setCell ⟨w.heap.size, 4, none⟩ (.slice Ah d.held.length ch)).setCell ⟨w.heap.size, 5, none⟩ (.int .i64 d.size)).setCell ⟨(w.heap.size + 1), 0, none⟩ (.slice (some ⟨G8, 0, none⟩) (ys.length + 1) c8)).setCell ⟨(w.heap.size + 1), 1, none⟩ (.slice A1 R.strange.length a1)).setCell ⟨(w.heap.size + 1), 2, none⟩ (.slice A2 R.held.length a2)).setCell ⟨(w.heap.size + 1), 3, none⟩ (.slice A3 R.stuck.length a3)).drew := ⟨_, rfl⟩
      replace F2b := Lib.hid (blk_drew_ F2b); replace F4 := Lib.hid (blk_drew_ F4)
      replace P64 := Lib.hid P64
      rw [← hWZ] at F2b F4 P64
      replace hWZ := Lib.hid hWZ
      clear BD6 BD8 BD2 BD4 G6 E68 E64 F2 G64 hbD2 hbD4 hbD6 hbD8
      go_wp2_with fail
      go_region_law (fail)
      all_goals
        rw [← hWZ.out]
        clear p0 p1 p2 p3 p4 p5 q0 q1 q2 q3 j0 j1 j2 j3 j4 j5 k0 k1 k2 k3 jf kf r0 r1 r2 r3 b0 b1 b2 b3 bf KP hWZ
        rename_i K_ hK_
        refine hK_ _ _ ?_
        apply wp_ret
        exact ret_box_tb (p := 2) (u := 3) (q := 4) (cs := #[.int .i64 d.plan.bins, .int .i64 d.plan.passes, .slice Ao d.plan.order.length co, .slice Af d.fwds.length cf, .slice Ah d.held.length ch, .int .i64 d.size]) (cs2 := #[.slice (some ⟨G8, 0, none⟩) (ys.length + 1) c8, .slice A1 R.strange.length a1, .slice A2 R.held.length a2, .slice A3 R.stuck.length a3]) (t := 28) (t2 := 31) rfl rfl rfl F2b.out F4.out Tryz.underlying28 Tryz.underlying31 rfl rfl Tryz.sizeDay Tryz.sizeRpt rfl P64.out
    · have KP := KP6
      have hli : ¬ (1 : Int) < (R.round.length : Int) := by omega
      have hbD2 := hb2_6; have hbD4 := hb4_6; have hbD6 := hb6_6; have hbD8 := hbE
      go_wp2_with fail
      clear y0 y1 y2 y3
      have BD6 := hbD6
      have BD8 := hbD8
      have BD2 := hbD2
      have BD4 := hbD4
      obtain ⟨p0, p1, p2, p3, p4, p5⟩ := cells6 BD6
      obtain ⟨q0, q1, q2, q3⟩ := cells4R BD8
      obtain ⟨j0, j1, j2, j3, j4, j5⟩ := cells6 BD2
      obtain ⟨k0, k1, k2, k3⟩ := cells4R BD4
      have jf := blk_free BD2
      have kf := blk_free BD4
      have G6 := six_grown w6 w.heap.size (.int .i64 d.plan.bins) (.int .i64 d.plan.passes) (.slice Ao d.plan.order.length co) (.slice Af d.fwds.length cf) (.slice Ah d.held.length ch) (.int .i64 d.size)
      have E68 := (G6.block w4.heap.size (blk_lt BD8) (fun e => by injection e; omega)).trans BD8
      have E64 := (G6.block (w.heap.size + 1) (blk_lt BD4) (fun e => by injection e; omega)).trans BD4
      obtain ⟨r0, r1, r2, r3⟩ := cells4R E68
      obtain ⟨b0, b1, b2, b3⟩ := cells4R E64
      have bf := blk_free E64
      have F2 := six_set BD2 (a := .int .i64 d.plan.bins) (b := .int .i64 d.plan.passes) (c := .slice Ao d.plan.order.length co) (d := .slice Af d.fwds.length cf) (e := .slice Ah d.held.length ch) (f := .int .i64 d.size)
      have F4 := four_setR E64 (a := .slice A0 R.round.length a0) (b := .slice A1 R.strange.length a1) (c := .slice A2 R.held.length a2) (d := .slice A3 R.stuck.length a3)
      have G64 := four_grownR ((((((w6.setCell ⟨w.heap.size, 0, none⟩ (.int .i64 d.plan.bins)).setCell ⟨w.heap.size, 1, none⟩ (.int .i64 d.plan.passes)).setCell ⟨w.heap.size, 2, none⟩ (.slice Ao d.plan.order.length co)).setCell ⟨w.heap.size, 3, none⟩ (.slice Af d.fwds.length cf)).setCell ⟨w.heap.size, 4, none⟩ (.slice Ah d.held.length ch)).setCell ⟨w.heap.size, 5, none⟩ (.int .i64 d.size)) (w.heap.size + 1) (.slice A0 R.round.length a0) (.slice A1 R.strange.length a1) (.slice A2 R.held.length a2) (.slice A3 R.stuck.length a3)
      have F2b := (G64.block w.heap.size (blk_lt F2) (fun e => by injection e; omega)).trans F2
      have P64 := drawCR_of (h := w.heap.size) (h2 := w.heap.size + 1) (r := R) (Nat.le_refl _) (by omega) hB1lt hB1lt' (KP.out) G6 G64
      obtain ⟨WZ, hWZ⟩ : ∃ u, u = ((((((((((w6.setCell ⟨w.heap.size, 0, none⟩ (.int .i64 d.plan.bins)).setCell ⟨w.heap.size, 1, none⟩ (.int .i64 d.plan.passes)).setCell ⟨w.heap.size, 2, none⟩ (.slice Ao d.plan.order.length co)).setCell ⟨w.heap.size, 3, none⟩ (.slice Af d.fwds.length cf)).setCell ⟨w.heap.size, 4, none⟩ (.slice Ah d.held.length ch)).setCell ⟨w.heap.size, 5, none⟩ (.int .i64 d.size)).setCell ⟨(w.heap.size + 1), 0, none⟩ (.slice A0 R.round.length a0)).setCell ⟨(w.heap.size + 1), 1, none⟩ (.slice A1 R.strange.length a1)).setCell ⟨(w.heap.size + 1), 2, none⟩ (.slice A2 R.held.length a2)).setCell ⟨(w.heap.size + 1), 3, none⟩ (.slice A3 R.stuck.length a3)).drew := ⟨_, rfl⟩
      replace F2b := Lib.hid (blk_drew_ F2b); replace F4 := Lib.hid (blk_drew_ F4)
      replace P64 := Lib.hid P64
      rw [← hWZ] at F2b F4 P64
      replace hWZ := Lib.hid hWZ
      clear BD6 BD8 BD2 BD4 G6 E68 E64 F2 G64 hbD2 hbD4 hbD6 hbD8
      go_wp2_with fail
      go_region_law (fail)
      all_goals
        rw [← hWZ.out]
        clear p0 p1 p2 p3 p4 p5 q0 q1 q2 q3 j0 j1 j2 j3 j4 j5 k0 k1 k2 k3 jf kf r0 r1 r2 r3 b0 b1 b2 b3 bf KP hWZ
        rename_i K_ hK_
        refine hK_ _ _ ?_
        apply wp_ret
        exact ret_box_tb (p := 2) (u := 3) (q := 4) (cs := #[.int .i64 d.plan.bins, .int .i64 d.plan.passes, .slice Ao d.plan.order.length co, .slice Af d.fwds.length cf, .slice Ah d.held.length ch, .int .i64 d.size]) (cs2 := #[.slice A0 R.round.length a0, .slice A1 R.strange.length a1, .slice A2 R.held.length a2, .slice A3 R.stuck.length a3]) (t := 28) (t2 := 31) rfl rfl rfl F2b.out F4.out Tryz.underlying28 Tryz.underlying31 rfl rfl Tryz.sizeDay Tryz.sizeRpt rfl P64.out
  · have hxe1 : (x == 1) = false := beq_eq_false_iff_ne.2 hx1
    have KP := KP6
    have hbD2 := hb2_6; have hbD4 := hb4_6; have hbD6 := hb6_6; have hbD8 := hbE
    go_wp2_with fail
    have BD6 := hbD6
    have BD8 := hbD8
    have BD2 := hbD2
    have BD4 := hbD4
    obtain ⟨p0, p1, p2, p3, p4, p5⟩ := cells6 BD6
    obtain ⟨q0, q1, q2, q3⟩ := cells4R BD8
    obtain ⟨j0, j1, j2, j3, j4, j5⟩ := cells6 BD2
    obtain ⟨k0, k1, k2, k3⟩ := cells4R BD4
    have jf := blk_free BD2
    have kf := blk_free BD4
    have G6 := six_grown w6 w.heap.size (.int .i64 d.plan.bins) (.int .i64 d.plan.passes) (.slice Ao d.plan.order.length co) (.slice Af d.fwds.length cf) (.slice Ah d.held.length ch) (.int .i64 d.size)
    have E68 := (G6.block w4.heap.size (blk_lt BD8) (fun e => by injection e; omega)).trans BD8
    have E64 := (G6.block (w.heap.size + 1) (blk_lt BD4) (fun e => by injection e; omega)).trans BD4
    obtain ⟨r0, r1, r2, r3⟩ := cells4R E68
    obtain ⟨b0, b1, b2, b3⟩ := cells4R E64
    have bf := blk_free E64
    have F2 := six_set BD2 (a := .int .i64 d.plan.bins) (b := .int .i64 d.plan.passes) (c := .slice Ao d.plan.order.length co) (d := .slice Af d.fwds.length cf) (e := .slice Ah d.held.length ch) (f := .int .i64 d.size)
    have F4 := four_setR E64 (a := .slice A0 R.round.length a0) (b := .slice A1 R.strange.length a1) (c := .slice A2 R.held.length a2) (d := .slice A3 R.stuck.length a3)
    have G64 := four_grownR ((((((w6.setCell ⟨w.heap.size, 0, none⟩ (.int .i64 d.plan.bins)).setCell ⟨w.heap.size, 1, none⟩ (.int .i64 d.plan.passes)).setCell ⟨w.heap.size, 2, none⟩ (.slice Ao d.plan.order.length co)).setCell ⟨w.heap.size, 3, none⟩ (.slice Af d.fwds.length cf)).setCell ⟨w.heap.size, 4, none⟩ (.slice Ah d.held.length ch)).setCell ⟨w.heap.size, 5, none⟩ (.int .i64 d.size)) (w.heap.size + 1) (.slice A0 R.round.length a0) (.slice A1 R.strange.length a1) (.slice A2 R.held.length a2) (.slice A3 R.stuck.length a3)
    have F2b := (G64.block w.heap.size (blk_lt F2) (fun e => by injection e; omega)).trans F2
    have P64 := drawCR_of (h := w.heap.size) (h2 := w.heap.size + 1) (r := R) (Nat.le_refl _) (by omega) hB1lt hB1lt' (KP.out) G6 G64
    obtain ⟨WZ, hWZ⟩ : ∃ u, u = ((((((((((w6.setCell ⟨w.heap.size, 0, none⟩ (.int .i64 d.plan.bins)).setCell ⟨w.heap.size, 1, none⟩ (.int .i64 d.plan.passes)).setCell ⟨w.heap.size, 2, none⟩ (.slice Ao d.plan.order.length co)).setCell ⟨w.heap.size, 3, none⟩ (.slice Af d.fwds.length cf)).setCell ⟨w.heap.size, 4, none⟩ (.slice Ah d.held.length ch)).setCell ⟨w.heap.size, 5, none⟩ (.int .i64 d.size)).setCell ⟨(w.heap.size + 1), 0, none⟩ (.slice A0 R.round.length a0)).setCell ⟨(w.heap.size + 1), 1, none⟩ (.slice A1 R.strange.length a1)).setCell ⟨(w.heap.size + 1), 2, none⟩ (.slice A2 R.held.length a2)).setCell ⟨(w.heap.size + 1), 3, none⟩ (.slice A3 R.stuck.length a3)).drew := ⟨_, rfl⟩
    replace F2b := Lib.hid (blk_drew_ F2b); replace F4 := Lib.hid (blk_drew_ F4)
    replace P64 := Lib.hid P64
    rw [← hWZ] at F2b F4 P64
    replace hWZ := Lib.hid hWZ
    clear BD6 BD8 BD2 BD4 G6 E68 E64 F2 G64 hbD2 hbD4 hbD6 hbD8
    go_wp2_with fail
    go_region_law (fail)
    all_goals
      rw [← hWZ.out]
      clear p0 p1 p2 p3 p4 p5 q0 q1 q2 q3 j0 j1 j2 j3 j4 j5 k0 k1 k2 k3 jf kf r0 r1 r2 r3 b0 b1 b2 b3 bf KP hWZ
      rename_i K_ hK_
      refine hK_ _ _ ?_
      apply wp_ret
      exact ret_box_tb (p := 2) (u := 3) (q := 4) (cs := #[.int .i64 d.plan.bins, .int .i64 d.plan.passes, .slice Ao d.plan.order.length co, .slice Af d.fwds.length cf, .slice Ah d.held.length ch, .int .i64 d.size]) (cs2 := #[.slice A0 R.round.length a0, .slice A1 R.strange.length a1, .slice A2 R.held.length a2, .slice A3 R.stuck.length a3]) (t := 28) (t2 := 31) rfl rfl rfl F2b.out F4.out Tryz.underlying28 Tryz.underlying31 rfl rfl Tryz.sizeDay Tryz.sizeRpt rfl P64.out

end Go.Proofs.YtffbcfaahegglaaGreatDoor
