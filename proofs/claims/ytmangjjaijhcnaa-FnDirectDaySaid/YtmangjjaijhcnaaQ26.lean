/- DT3 YH -/
import Derived.Test.YtmangjjaijhcnaaQ30
import Derived.Test.YtmangjjaijhcnaaQ24
namespace Go.Proofs.Ytmangjjaijhcnaa
open Go.RowKit

end Go.Proofs.Ytmangjjaijhcnaa

namespace Go.Proofs.Ytmangjjaijhcnaa
open Go.RowKit

/-- Drawn: a day, letters. -/
def drawDPost (T1 T2 T3 : Nat) (w : World) (e : Ending) (w' : World) : Prop :=
  ∃ (v vb : Value) (d : Dy) (xs : List Ltr), e = .returned (.tuple #[v, vb]) ∧ ownDz T1 T2 w.heap.size w' v d ∧ own T3 w.heap.size w' vb xs ∧ xs.length ≤ 61 ∧ d.plan.order.length ≤ 101 ∧ d.fwds.length ≤ 31 ∧ d.held.length ≤ 3 ∧ Below w.heap.size w w'
theorem ownDz.rd {T1 T2 base : Nat} {w : World} {v : Value} {d : Dy} (h : ownDz T1 T2 base w v d) : rdD w w.heap.size v d := by
  obtain ⟨vo, vf, vh, e, i1, i2, i3, ho, hf, hh⟩ := h
  exact ⟨vo, vf, vh, e, i1, i2, i3, ho.rd, hf.rd, hh.rd⟩
theorem ownDz.base_ {T1 T2 base base' : Nat} {w : World} {v : Value} {d : Dy} (h : ownDz T1 T2 base w v d) (hb : base' ≤ base) : ownDz T1 T2 base' w v d := by
  obtain ⟨vo, vf, vh, e, i1, i2, i3, ho, hf, hh⟩ := h
  exact ⟨vo, vf, vh, e, i1, i2, i3, ho.base_ hb, hf.base_ hb, hh.base_ hb⟩
theorem drawDPost_of {T1 T2 T3 h B : _} {w W : World} {vo vf vh vb a b c : Value} {d : Dy} {xs : List Ltr} (hh : w.heap.size ≤ h) (hbase : h < B) (hv : ownDz T1 T2 B W (.agg #[a, b, vo, vf, vh, c]) d) (hvb : own T3 B W vb xs)
    (h1 : xs.length ≤ 61) (h2 : d.plan.order.length ≤ 101) (h3 : d.fwds.length ≤ 31) (h4 : d.held.length ≤ 3) (hG : Below w.heap.size w W) :
    drawDPost T1 T2 T3 w (.returned (.tuple #[.agg #[a, b, vo, vf, vh, c], vb])) ((((((W.setCell ⟨h, 0, none⟩ a).setCell ⟨h, 1, none⟩ b).setCell ⟨h, 2, none⟩ vo).setCell ⟨h, 3, none⟩ vf).setCell ⟨h, 4, none⟩ vh).setCell ⟨h, 5, none⟩ c) := by
  have HG := six_grown W h a b vo vf vh c
  obtain ⟨vo', vf', vh', e, i1, i2, i3, ho, hf, hd⟩ := hv
  have hz : ownDz T1 T2 B ((((((W.setCell ⟨h, 0, none⟩ a).setCell ⟨h, 1, none⟩ b).setCell ⟨h, 2, none⟩ vo).setCell ⟨h, 3, none⟩ vf).setCell ⟨h, 4, none⟩ vh).setCell ⟨h, 5, none⟩ c) (.agg #[a, b, vo, vf, vh, c]) d := ⟨vo', vf', vh', e, i1, i2, i3, ho.grown HG (own_ne ho hbase), hf.grown HG (own_ne hf hbase), hd.grown HG (own_ne hd hbase)⟩
  have HS := (((((hG.setCell (p := ⟨h, 0, none⟩) hh a).setCell (p := ⟨h, 1, none⟩) hh b).setCell (p := ⟨h, 2, none⟩) hh vo).setCell (p := ⟨h, 3, none⟩) hh vf).setCell (p := ⟨h, 4, none⟩) hh vh).setCell (p := ⟨h, 5, none⟩) hh c
  exact ⟨_, vb, d, xs, rfl, hz.base_ (by omega), (hvb.grown HG (own_ne hvb hbase)).base_ (by omega), h1, h2, h3, h4, HS⟩

set_option maxRecDepth 100000 in
set_option maxHeartbeats 1000000 in
theorem draw_DrawRunDay (v : Value) (bs : List UInt8) (w : World) (hv : rd w w.heap.size v bs) :
    Calls Try.prog 10 #[v] w (drawDPost 9 90 55 w) := by
  obtain ⟨wA, hwA⟩ : ∃ u, u = w.alloc (Obj.cells #[.int .i64 0, .int .i64 0, .slice none 0 0, .slice none 0 0, .slice none 0 0, .int .i64 0] 28) := ⟨_, rfl⟩
  have hBA : Below w.heap.size w wA := by rw [hwA]; exact (Below.refl _ _).alloc (Nat.le_refl _) _
  have hzA : wA.heap.size = w.heap.size + 1 := by rw [hwA]; simp
  have hbA : wA.heap[w.heap.size]? = some (.cells #[.int .i64 0, .int .i64 0, .slice none 0 0, .slice none 0 0, .slice none 0 0, .int .i64 0] 28 (0, 0)) := by rw [hwA]; exact heap_alloc_new w _
  have hvA := hv.on hBA
  have HWA := Lib.hid hwA; clear hwA
  go_enter Try.func10, Try.ntmps10
  go_wp2_with fail
  rw [← HWA.out]
  refine (rd_open _ bs _ hvA).mono ?_
  rintro e w1 ⟨g, rfl, hg, hr1, b1⟩
  have hlt := hr1.lt
  have hb1 := (b1.block w.heap.size (by omega)).trans hbA
  have hB1 : Below w.heap.size w w1 := hBA.trans (b1.mono (by omega))
  have hz1 := b1.size
  clear hvA hv hBA b1 hbA
  go_wp2_with fail
  refine (rd_l8Day g 0 _ hr1 (by omega)).mono ?_
  rintro e w2 ⟨v2, d2, p2, rfl, hd2, hP2, hF8, hFD, hH2, hr2, hp2, hg2⟩
  have hb2 := (hg2.block w.heap.size (by omega) (fun e => by injection e; omega)).trans hb1
  have hB2 : Below w.heap.size w w2 := hB1.trans (below_of_grown hg2 hB1.size (fun r e => by injection e; omega))
  have hz2 := hg2.size
  have HP2 := Lib.hid hP2
  have HFD := Lib.hid hFD
  have HD2 := Lib.hid hd2
  clear hb1 hB1 hg2 hr1 hP2 hFD hd2
  go_wp2_with fail
  refine (rd_l8Bad g p2 w1.heap.size _ d2 _ hr2 (by omega) HD2.out (by omega) HP2.out hF8 HFD.out hH2).mono ?_
  rintro e w3 ⟨v3, d, p3, rfl, hd3, l3o, l3f, l3h, hr3, hp3, hk3⟩
  have hz3 := hk3.size
  have hb3 := (hk3.block w.heap.size (by omega) (by omega)).trans hb2
  have hB3 : Below w.heap.size w w3 := hB2.trans ⟨hk3.os, hk3.tape, hk3.output, hk3.size, fun k hk => hk3.block k (by omega) (by omega)⟩
  clear HP2 HFD HD2 hk3 hb2 hB2 hr2
  obtain ⟨vo, vf, vh, rfl, i1, i2, i3, ho, hf, hh⟩ := hd3
  have HO3 := Lib.hid ho; have HF3 := Lib.hid hf; have HH3 := Lib.hid hh
  obtain ⟨Ao, no, co, rfl, rfl, _, _, _⟩ := ho.rd
  obtain ⟨Af, nf, cf, rfl, rfl, _, _, _⟩ := hf.rd
  obtain ⟨Ah, nh, ch, rfl, rfl, _, _, _⟩ := hh.rd
  clear ho hf hh
  obtain ⟨wC, hwC⟩ : ∃ u, u = w3.alloc (Obj.cells #[.int .i64 d.plan.bins, .int .i64 d.plan.passes, .slice Ao d.plan.order.length co, .slice Af d.fwds.length cf, .slice Ah d.held.length ch, .int .i64 d.size] 28) := ⟨_, rfl⟩
  have hBC : Below w3.heap.size w3 wC := by rw [hwC]; exact (Below.refl _ _).alloc (Nat.le_refl _) _
  have hzC : wC.heap.size = w3.heap.size + 1 := by rw [hwC]; simp
  have hrC : rdr wC g p3 := by rw [hwC]; exact hr3.alloc _
  have hbC : wC.heap[w3.heap.size]? = some (.cells #[.int .i64 d.plan.bins, .int .i64 d.plan.passes, .slice Ao d.plan.order.length co, .slice Af d.fwds.length cf, .slice Ah d.held.length ch, .int .i64 d.size] 28 (0, 0)) := by rw [hwC]; exact heap_alloc_new w3 _
  have hHC := (hBC.block w.heap.size (by omega)).trans hb3
  have hB4 : Below w.heap.size w wC := hB3.trans (hBC.mono (by omega))
  have HOC := Lib.hid (HO3.out.below hBC); have HFC := Lib.hid (HF3.out.below hBC); have HHC := Lib.hid (HH3.out.below hBC)
  -- what every later world keeps
  have HKD : Hid (∀ W, kept2 g wC.heap.size wC W → ownDz 9 90 w1.heap.size W (.agg #[.int .i64 d.plan.bins, .int .i64 d.plan.passes, .slice Ao d.plan.order.length co, .slice Af d.fwds.length cf, .slice Ah d.held.length ch, .int .i64 d.size]) d) := fun W h => by
    have key : ∀ {α : Type} [Flat α] {T : Nat} {u : Value} {ys : List α}, own T w1.heap.size wC u ys → own T w1.heap.size W u ys := fun ho => ho.keepBlk fun j hj => h.block j (ho.blk j hj).2 (by have := (ho.blk j hj).1; omega)
    exact ⟨_, _, _, rfl, i1, i2, i3, key HOC.out, key HFC.out, key HHC.out⟩
  have HKA : Hid (∀ W, kept2 g wC.heap.size wC W → W.heap[w.heap.size]? = some (.cells #[.int .i64 0, .int .i64 0, .slice none 0 0, .slice none 0 0, .slice none 0 0, .int .i64 0] 28 (0, 0))) := fun W h => (h.block w.heap.size (by omega) (by omega)).trans hHC
  have HKC : Hid (∀ W, kept2 g wC.heap.size wC W → W.heap[w3.heap.size]? = some (.cells #[.int .i64 d.plan.bins, .int .i64 d.plan.passes, .slice Ao d.plan.order.length co, .slice Af d.fwds.length cf, .slice Ah d.held.length ch, .int .i64 d.size] 28 (0, 0))) := fun W h => (h.block w3.heap.size (by omega) (by omega)).trans hbC
  have HKB : Hid (∀ W, kept2 g wC.heap.size wC W → Below w.heap.size w W) := fun W h => hB4.trans ⟨h.os, h.tape, h.output, h.size, fun k hk => h.block k (by omega) (by omega)⟩
  have HW3 : Hid (w.heap.size ≠ w3.heap.size) := by show _ ≠ _; omega
  have HWC := Lib.hid hwC
  have kD : kept2 g wC.heap.size wC wC.drew := ⟨rfl, rfl, rfl, Nat.le_refl _, fun _ _ _ => rfl⟩
  have HC1 : Hid (Calls Try.prog 47 #[.pointer (some ⟨g, 0, none⟩)] wC.drew fun e w' => ∃ (v' : Value) (xs : List Ltr) (p' : Nat), e = .returned v' ∧ own 55 wC.heap.size w' v' xs ∧ xs.length ≤ 14 ∧ Hid (∀ y ∈ xs, y.code.size = 7) ∧ rdr w' g p' ∧ p' ≤ p3 + 300 ∧ kept2 g wC.heap.size wC w') := by
    refine (rd_l4Mail g p3 _ (hrC.below ((Below.refl _ _).drew)) (by omega)).mono ?_
    rintro e w' ⟨v', xs, p', rfl, h1, h2, h3, h4, h5, h6⟩
    exact ⟨v', xs, p', rfl, h1, h2, h3, h4, h5, kD.step h6 (Nat.le_refl _)⟩
  have HPT : Hid (∀ (W : World) (vb : Value) (xs : List Ltr), kept2 g wC.heap.size wC W → own 55 wC.heap.size W vb xs → xs.length ≤ 61 →
      drawDPost 9 90 55 w (.returned (.tuple #[.agg #[.int .i64 d.plan.bins, .int .i64 d.plan.passes, .slice Ao d.plan.order.length co, .slice Af d.fwds.length cf, .slice Ah d.held.length ch, .int .i64 d.size], vb])) ((((((W.setCell ⟨w.heap.size, 0, none⟩ (.int .i64 d.plan.bins)).setCell ⟨w.heap.size, 1, none⟩ (.int .i64 d.plan.passes)).setCell ⟨w.heap.size, 2, none⟩ (.slice Ao d.plan.order.length co)).setCell ⟨w.heap.size, 3, none⟩ (.slice Af d.fwds.length cf)).setCell ⟨w.heap.size, 4, none⟩ (.slice Ah d.held.length ch)).setCell ⟨w.heap.size, 5, none⟩ (.int .i64 d.size))) := fun W vb xs hk ho hl =>
    drawDPost_of (B := w1.heap.size) (Nat.le_refl _) (by omega) (HKD.out W hk) (ho.base_ (by omega)) hl l3o l3f l3h (HKB.out W hk)
  have HLT : Hid (g < wC.heap.size) := by show _ < _; omega
  have hp3' : p3 ≤ 2000 := by omega
  have cC := HKC.out _ kD
  clear hbC hHC hB4 hB3 hb3 hBC hr3 hrC HO3 HF3 HH3 HOC HFC HHC hwC
  have HI1 := Lib.hid i1; have HI2 := Lib.hid i2; have HI3 := Lib.hid i3
  clear i1 i2 i3
  go_wp2_with fail
  rw [← HWC.out]
  obtain ⟨d0, d1, d2, d3, d4, d5⟩ := cells6 cC
  clear cC
  go_region_law (first | (go_simp; go_at_call 47; (with_reducible refine HC1.out.mono ?_); rintro e w6 ⟨vb, xs, q, rfl, ob6, hl6, HX6, hr6, hq6, k6⟩; obtain ⟨e0, e1, e2, e3, e4, e5⟩ := cells6 (HKC.out _ k6)) | (go_simp; go_at_call 46; (with_reducible refine (rd_l2Bad g q wC.heap.size _ xs _ hr6 (by omega) ob6 HLT.out (by omega) HX6.out).mono ?_); rintro e w7 ⟨vb7, xs7, q7, rfl, ob7, hl7, hr7, hq7, hk7, _⟩; have k7 := k6.trans hk7; obtain ⟨a0, a1, a2, a3, a4, a5⟩ := cells6 (HKA.out _ k7); obtain ⟨b0, b1, b2, b3, b4, b5⟩ := cells6 (HKC.out _ k7); have f0 := unfrozen6 (HKA.out _ k7) 0; have f1 := unfrozen6 (HKA.out _ k7) 1; have f2 := unfrozen6 (HKA.out _ k7) 2; have f3 := unfrozen6 (HKA.out _ k7) 3; have f4 := unfrozen6 (HKA.out _ k7) 4; have f5 := unfrozen6 (HKA.out _ k7) 5))
  all_goals
    have hA7 := HKA.out _ k7
    go_wp2_with fail
    refine ret_box1 rfl rfl (six_set hA7) Try.underlying28 rfl Try.sizeDay rfl ?_
    exact HPT.out _ _ _ k7 ob7 hl7

end Go.Proofs.Ytmangjjaijhcnaa
