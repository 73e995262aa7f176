/- YG UR2 -/
import Derived.Test.YtmangjjaijhcnaaQ23
import Derived.Test.YtmangjjaijhcnaaQ33
namespace Go.Proofs.Ytmangjjaijhcnaa
open Go.RowKit

/-- A day whose rows are the call's own. -/
def ownDz (T1 T2 base : Nat) (w : World) (v : Value) (d : Dy) : Prop :=
  ∃ vo vf vh, v = .agg #[.int .i64 d.plan.bins, .int .i64 d.plan.passes, vo, vf, vh, .int .i64 d.size] ∧ isI64 d.plan.bins ∧ isI64 d.plan.passes ∧ isI64 d.size ∧ own T1 base w vo d.plan.order ∧ own T2 base w vf d.fwds ∧ own T1 base w vh d.held
def l8BadPost (T1 T2 g p b0 : Nat) (w : World) (e : Ending) (w' : World) : Prop :=
  ∃ (v : Value) (d : Dy) (p' : Nat), e = .returned v ∧ ownDz T1 T2 b0 w' v d ∧ d.plan.order.length ≤ 101 ∧ d.fwds.length ≤ 31 ∧ d.held.length ≤ 3 ∧ rdr w' g p' ∧ p' ≤ p + 10 ∧ kept2 g b0 w w'

theorem l8BadPost_of {T1 T2 g p q b0 h : Nat} {w W : World} {vo vf vh a b c : Value} {d : Dy} (hh : b0 ≤ h) (hg : g < b0) (i1 : isI64 d.plan.bins) (i2 : isI64 d.plan.passes) (i3 : isI64 d.size)
    (ho : own T1 b0 W vo d.plan.order) (hf : own T2 b0 W vf d.fwds) (hd : own T1 b0 W vh d.held) (no : vo.ownBlock ≠ some h) (nf : vf.ownBlock ≠ some h) (nh : vh.ownBlock ≠ some h) (lo : d.plan.order.length ≤ 101) (lf : d.fwds.length ≤ 31) (lh : d.held.length ≤ 3)
    (hr : rdr W g q) (hq : q ≤ p + 10) (k : kept2 g b0 w W) (ha : a = .int .i64 d.plan.bins) (hb : b = .int .i64 d.plan.passes) (hc : c = .int .i64 d.size) :
    l8BadPost T1 T2 g p b0 w (.returned (.agg #[a, b, vo, vf, vh, c])) ((((((W.setCell ⟨h, 0, none⟩ a).setCell ⟨h, 1, none⟩ b).setCell ⟨h, 2, none⟩ vo).setCell ⟨h, 3, none⟩ vf).setCell ⟨h, 4, none⟩ vh).setCell ⟨h, 5, none⟩ c) := by
  subst ha hb hc
  have HG := six_grown W h (.int .i64 d.plan.bins) (.int .i64 d.plan.passes) vo vf vh (.int .i64 d.size)
  exact ⟨_, d, q, rfl, ⟨vo, vf, vh, rfl, i1, i2, i3, ho.grown HG (.inr no), hf.grown HG (.inr nf), hd.grown HG (.inr nh)⟩, lo, lf, lh, hr.grown HG (by omega), hq, (((((k.set ⟨h, 0, none⟩ hh _).set ⟨h, 1, none⟩ hh _).set ⟨h, 2, none⟩ hh _).set ⟨h, 3, none⟩ hh _).set ⟨h, 4, none⟩ hh _).set ⟨h, 5, none⟩ hh _⟩

set_option maxRecDepth 100000 in
set_option maxHeartbeats 2000000 in
theorem rd_l8Bad (g p b0 : Nat) (v : Value) (d : Dy) (w : World) (hr : rdr w g p) (hp : p ≤ 5000000000) (hv : ownDy 9 90 b0 w v d) (hb0 : g < b0) (hd : drawnP d.plan) (hf8 : d.fwds.length ≤ 8) (hfd : drawnF d.fwds) (hh2 : d.held.length ≤ 2) :
    Calls Try.prog 44 #[.pointer (some ⟨g, 0, none⟩), v] w (l8BadPost 9 90 g p b0 w) := by
  have hlt := hr.lt
  obtain ⟨vo, vf, vh, rfl, i1, i2, i3, ho, hf, hh, a1, a2, a3⟩ := hv
  have hl1 := hd.2.2.2.2.1
  have hl2 := hd.2.2.2.2.2.1
  have HD := Lib.hid hd; clear hd
  have HFD := Lib.hid hfd; clear hfd
  rcases ho.form with ⟨_, h0⟩ | ⟨go, co, rfl, hgo, hgl, hco, hmo⟩
  · rw [h0] at hl1; simp at hl1
  unfold maxLen at hmo
  obtain ⟨Af, nf, cf, rfl, rfl, _, _, _⟩ := hf.rd
  obtain ⟨Ah, nh, ch, rfl, rfl, _, _, _⟩ := hh.rd
  have hgo' : go ≠ g := by omega
  have hbw : b0 ≤ w.heap.size := by omega
  have HFG : Hid (∀ j, (Value.slice Af d.fwds.length cf).ownBlock = some j → j ≠ go) := fun j hj e => by
    rcases a1 with h | h
    · cases h
    · exact h (by rw [hj, e]; rfl)
  have HHG : Hid (∀ j, (Value.slice Ah d.held.length ch).ownBlock = some j → j ≠ go) := fun j hj e => by
    rcases a2 with h | h
    · cases h
    · exact h (by rw [hj, e]; rfl)
  have HFH : Hid (∀ j, (Value.slice Af d.fwds.length cf).ownBlock = some j → (Value.slice Ah d.held.length ch).ownBlock ≠ some j) := fun j hj e => by
    rcases a3 with h | h
    · rw [h] at hj; cases hj
    · exact h (by rw [hj, e])
  clear a1 a2 a3
  obtain ⟨wb, hwb⟩ : ∃ u, u = (w.alloc (Obj.cells #[.int .i64 d.plan.bins, .int .i64 d.plan.passes, .slice (some ⟨go, 0, none⟩) d.plan.order.length co, .slice Af d.fwds.length cf, .slice Ah d.held.length ch, .int .i64 d.size] 28)).alloc (Obj.cells #[.int .i64 0, .int .i64 0, .slice none 0 0, .slice none 0 0, .slice none 0 0, .int .i64 0] 28) := ⟨_, rfl⟩
  have hr0 : rdr wb g p := by rw [hwb]; exact (hr.alloc _).alloc _
  have hzb : wb.heap.size = w.heap.size + 2 := by rw [hwb]; simp
  have hb1 : wb.heap[w.heap.size]? = some (.cells #[.int .i64 d.plan.bins, .int .i64 d.plan.passes, .slice (some ⟨go, 0, none⟩) d.plan.order.length co, .slice Af d.fwds.length cf, .slice Ah d.held.length ch, .int .i64 d.size] 28 (0, 0)) := by rw [hwb]; exact heap_alloc2_old w _ _
  have hb2 : wb.heap[w.heap.size + 1]? = some (.cells #[.int .i64 0, .int .i64 0, .slice none 0 0, .slice none 0 0, .slice none 0 0, .int .i64 0] 28 (0, 0)) := by rw [hwb]; exact heap_alloc2_new w _ _
  have hB : Below w.heap.size w wb := by rw [hwb]; exact ((Below.refl _ _).alloc (Nat.le_refl _) _).alloc (by simp) _
  have k0 : kept2 g b0 w wb := kept2.below ⟨hB.os, hB.tape, hB.output, hB.size, fun k hk => hB.block k (by omega)⟩
  have HWB := Lib.hid hwb
  have oB := ho.below hB
  have fB := hf.below hB
  have eB := hh.below hB
  have HFB := Lib.hid (fun j hj => (hf.blk j hj).2)
  have HHB := Lib.hid (fun j hj => (hh.blk j hj).2)
  clear hwb hB ho hf hh
  go_enter Try.func44, Try.ntmps44
  go_wp2_with fail
  rw [← HWB.out]
  refine (rd_pick g p 20 _ hr0 (by omega) (by unfold isI64; omega)).mono ?_
  rintro e w1 ⟨y, rfl, hy, hr1, hg1⟩
  have k1 : kept2 g b0 w w1 := k0.step hg1 hbw
  have hz1 := hg1.size
  have hb1' := (hg1.block w.heap.size (by omega) (fun e => by injection e; omega)).trans hb1
  have hb2' := (hg1.block (w.heap.size + 1) (by omega) (fun e => by injection e; omega)).trans hb2
  have HO1 := Lib.hid (oB.grown hg1 (own_ne oB hb0))
  have HF1 := Lib.hid (fB.grown hg1 (own_ne fB hb0))
  have HH1 := Lib.hid (eB.grown hg1 (own_ne eB hb0))
  clear hy hr0 k0 hb1 hb2 oB fB eB hg1
  have HB1 := Lib.hid hb1'; have HB2 := Lib.hid hb2'
  have HNO : Hid (∀ n c j, w.heap.size ≤ j → (Value.slice (some ⟨go, 0, none⟩) n c).ownBlock ≠ some j) := fun n c j hj e => by have e' : some go = some j := e; injection e'; omega
  have HNF : Hid (∀ j, w.heap.size ≤ j → (Value.slice Af d.fwds.length cf).ownBlock ≠ some j) := fun j hj e => by have := HFB.out j e; omega
  have HNH : Hid (∀ j, w.heap.size ≤ j → (Value.slice Ah d.held.length ch).ownBlock ≠ some j) := fun j hj e => by have := HHB.out j e; omega
  obtain ⟨c0, c1, c2, c3, c4, c5⟩ := cells6 hb1'
  obtain ⟨z0, z1, z2, z3, z4, z5⟩ := cells6 hb2'
  have fr1 := unfrozen6 hb1'
  have fr2 := unfrozen6 hb2'
  clear hb1' hb2'
  by_cases y0 : y = 0
  · have t0 : (y == 0) = true := by simp [y0]
    clear y0
    have hdp : drawnP d.plan := HD.out
    go_wp2_with fail
    refine (rd_l3Bad g (p + 1) b0 _ d.plan w1 hr1 (by omega) ⟨_, rfl, i1, i2, HO1.out⟩ hb0 hdp).mono ?_
    rintro e w2 ⟨v2, y2, p2, rfl, ⟨vo2, rfl, j1, j2, ho2⟩, hl2', hr2, hq2, k2, hS, hpb⟩
    have hne : ∀ j, j < w1.heap.size → j ≠ g → j ≠ go → w2.heap[j]? = w1.heap[j]? := fun j hj h1 h2 => hS.block j hj (by
      rintro (h | ⟨_, _, _, h, h'⟩)
      · exact h1 h
      · injection h with h
        injection h with h
        simp only [List.cons.injEq, and_true] at h
        rw [← h.2.2] at h'
        have e' : some go = some j := h'
        injection e' with e'
        exact h2 e'.symm)
    have hbg : ∀ k, vo2.ownBlock = some k → k = g ∨ k = go ∨ w1.heap.size ≤ k := fun k hk => by
      rcases hpb k ⟨_, _, _, rfl, hk⟩ with (h | ⟨_, _, _, h, h'⟩) | h
      · exact .inl h
      · injection h with h
        injection h with h
        simp only [List.cons.injEq, and_true] at h
        rw [← h.2.2] at h'
        have e' : some go = some k := h'
        injection e' with e'
        exact .inr (.inl e'.symm)
      · exact .inr (.inr h)
    have h12 := (hne w.heap.size (by omega) (by omega) (by omega)).trans HB1.out
    have h22 := (hne (w.heap.size + 1) (by omega) (by omega) (by omega)).trans HB2.out
    have HF2 := Lib.hid (HF1.out.keepBlk (w' := w2) fun j hj => hne j (HF1.out.blk j hj).2 (by have := (HF1.out.blk j hj).1; omega) (HFG.out j hj))
    have HH2 := Lib.hid (HH1.out.keepBlk (w' := w2) fun j hj => hne j (HH1.out.blk j hj).2 (by have := (HH1.out.blk j hj).1; omega) (HHG.out j hj))
    have hnh : ∀ j, w.heap.size ≤ j → j < w1.heap.size → vo2.ownBlock ≠ some j := fun j h1 h2 e => by
      have := hbg j e
      omega
    have HNH2 := Lib.hid hnh
    have hk2 := k1.trans k2
    have HO2 := Lib.hid ho2
    obtain ⟨A2, n2, c2', rfl, rfl, _, _, _⟩ := ho2.rd
    obtain ⟨W3, hW3⟩ : ∃ u, u = ((w2.setCell ⟨w.heap.size, 0, none⟩ (.int .i64 y2.bins)).setCell ⟨w.heap.size, 1, none⟩ (.int .i64 y2.passes)).setCell ⟨w.heap.size, 2, none⟩ (.slice A2 y2.order.length c2') := ⟨_, rfl⟩
    have hG : w2.grownBy W3 (some w.heap.size) := by
      rw [hW3]
      exact grown_setCell (p := ⟨w.heap.size, 2, none⟩) (grown_setCell (p := ⟨w.heap.size, 1, none⟩) (grown_setCell (p := ⟨w.heap.size, 0, none⟩) (World.grownBy.refl w2 (some w.heap.size)) (.inl rfl) (.int .i64 y2.bins)) (.inl rfl) (.int .i64 y2.passes)) (.inl rfl) (.slice A2 y2.order.length c2')
    have HB3 := Lib.hid ((hG.block (w.heap.size + 1) (by have := k2.size; omega) (fun e => by injection e; omega)).trans h22)
    have HO3 := Lib.hid (HO2.out.grown hG (.inr (HNH2.out _ (by omega) (by omega))))
    have HF3 := Lib.hid (HF2.out.grown hG (.inr (HNF.out _ (Nat.le_refl _))))
    have HH3 := Lib.hid (HH2.out.grown hG (.inr (HNH.out _ (Nat.le_refl _))))
    have HR3 := Lib.hid (hr2.grown hG hlt)
    have HK3 : Hid (kept2 g b0 w W3) := by
      show kept2 _ _ _ _
      rw [hW3]
      exact ((hk2.set ⟨w.heap.size, 0, none⟩ hbw _).set ⟨w.heap.size, 1, none⟩ hbw _).set ⟨w.heap.size, 2, none⟩ hbw _
    have HW3 := Lib.hid hW3
    clear c0 c1 c2 c3 c4 c5 z0 z1 z2 z3 z4 z5 fr1 fr2
    obtain ⟨c0, c1, c2, c3, c4, c5⟩ := cells6 h12
    obtain ⟨z0, z1, z2, z3, z4, z5⟩ := cells6 h22
    have fr1 := unfrozen6 h12
    have fr2 := unfrozen6 h22
    clear h12 h22 hne hbg hnh hG hr2 hr1 hS k2 hk2 hpb ho2 hW3
    go_wp2_with fail
    rw [← HW3.out]
    refine ret_box rfl rfl (six_set HB3.out) Try.underlying28 rfl Try.sizeDay rfl ?_
    exact l8BadPost_of (d := ⟨y2, d.fwds, d.held, d.size⟩) (h := w.heap.size + 1) (by omega) hb0 j1 j2 i3 HO3.out HF3.out HH3.out (HNH2.out _ (by omega) (by omega)) (HNF.out _ (by omega)) (HNH.out _ (by omega)) hl2' (by show d.fwds.length ≤ 31; omega) (by show d.held.length ≤ 3; omega) HR3.out (by omega) HK3.out rfl rfl rfl
  have t0 : (y == 0) = false := by simpa using y0
  by_cases y1 : y = 1
  · have t1 : (y == 1) = true := by simp [y1]
    clear y0 y1
    have hfd : drawnF d.fwds := HFD.out
    go_wp2_with fail
    refine (rd_l4Bad g (p + 1) b0 _ d.fwds w1 hr1 (by omega) HF1.out hb0 hf8 hfd).mono ?_
    rintro e w2 ⟨v2, ys, p2, rfl, ho2, hl2', hr2, hq2, k2, hS, hpb⟩
    have hne : ∀ j, j < w1.heap.size → j ≠ g → (Value.slice Af d.fwds.length cf).ownBlock ≠ some j → w2.heap[j]? = w1.heap[j]? := fun j hj h1 h2 => hS.block j hj (by
      rintro (h | h)
      · exact h1 h
      · exact h2 h)
    have h12 := (hne w.heap.size (by omega) (by omega) (HNF.out _ (Nat.le_refl _))).trans HB1.out
    have h22 := (hne (w.heap.size + 1) (by omega) (by omega) (HNF.out _ (by omega))).trans HB2.out
    have HO2 := Lib.hid (HO1.out.keepBlk (w' := w2) fun j hj => hne j (HO1.out.blk j hj).2 (by have := (HO1.out.blk j hj).1; omega) (fun e => by have e' : some go = some j := hj; injection e' with e'; exact HFG.out j e e'.symm))
    have HH2 := Lib.hid (HH1.out.keepBlk (w' := w2) fun j hj => hne j (HH1.out.blk j hj).2 (by have := (HH1.out.blk j hj).1; omega) (fun e => HFH.out j e hj))
    have HNH2 : Hid (∀ j, w.heap.size ≤ j → j < w1.heap.size → v2.ownBlock ≠ some j) := fun j h1 h2 e => by
      rcases hpb j e with h | h
      · exact HNF.out j h1 h
      · omega
    have hk2 := k1.trans k2
    have HF2 := Lib.hid ho2
    obtain ⟨A2, n2, c2', rfl, rfl, _, _, _⟩ := ho2.rd
    obtain ⟨W3, hW3⟩ : ∃ u, u = w2.setCell ⟨w.heap.size, 3, none⟩ (.slice A2 ys.length c2') := ⟨_, rfl⟩
    have hG : w2.grownBy W3 (some w.heap.size) := by
      rw [hW3]
      exact grown_setCell (p := ⟨w.heap.size, 3, none⟩) (World.grownBy.refl w2 (some w.heap.size)) (.inl rfl) _
    have HB3 := Lib.hid ((hG.block (w.heap.size + 1) (by have := k2.size; omega) (fun e => by injection e; omega)).trans h22)
    have HO3 := Lib.hid (HO2.out.grown hG (.inr (HNO.out _ _ _ (Nat.le_refl _))))
    have HF3 := Lib.hid (HF2.out.grown hG (.inr (HNH2.out _ (by omega) (by omega))))
    have HH3 := Lib.hid (HH2.out.grown hG (.inr (HNH.out _ (Nat.le_refl _))))
    have HR3 := Lib.hid (hr2.grown hG hlt)
    have HK3 : Hid (kept2 g b0 w W3) := by
      show kept2 _ _ _ _
      rw [hW3]
      exact hk2.set ⟨w.heap.size, 3, none⟩ hbw _
    have HW3 := Lib.hid hW3
    clear c0 c1 c2 c3 c4 c5 z0 z1 z2 z3 z4 z5 fr1 fr2
    obtain ⟨c0, c1, c2, c3, c4, c5⟩ := cells6 h12
    obtain ⟨z0, z1, z2, z3, z4, z5⟩ := cells6 h22
    have fr1 := unfrozen6 h12
    have fr2 := unfrozen6 h22
    clear h12 h22 hne hG hr2 hr1 hS k2 hk2 hpb ho2 hW3
    go_wp2_with fail
    rw [← HW3.out]
    refine ret_box rfl rfl (six_set HB3.out) Try.underlying28 rfl Try.sizeDay rfl ?_
    exact l8BadPost_of (d := ⟨d.plan, ys, d.held, d.size⟩) (h := w.heap.size + 1) (by omega) hb0 i1 i2 i3 HO3.out HF3.out HH3.out (HNO.out _ _ _ (by omega)) (HNH2.out _ (by omega) (by omega)) (HNH.out _ (by omega)) (by show d.plan.order.length ≤ 101; omega) hl2' (by show d.held.length ≤ 3; omega) HR3.out (by omega) HK3.out rfl rfl rfl
  have t1 : (y == 1) = false := by simpa using y1
  by_cases y2 : y = 2
  · have t2 : (y == 2) = true := by simp [y2]
    clear y0 y1 y2
    obtain ⟨i0, hi, hz0, hzz1, hzz2⟩ := info_parts Try.infoStr
    have HC : Hid (Calls Try.prog 87 #[.pointer (some ⟨g, 0, none⟩), .slice (some ⟨w1.heap.size, 0, none⟩) 3 3] (w1.alloc (Obj.cells #[.string ⟨#[120]⟩, .string ⟨#[49, 50, 48, 48, 49, 48, 48]⟩, .string ⟨#[]⟩] 9)).drew fun e w' => ∃ x, e = .returned (.string x) ∧ x.size ≤ maxLen ∧ rdr w' g (p + 2) ∧ w1.grownBy w' (some g)) := by
      refine (rd_of 9 g (p + 1) _ [⟨#[120]⟩, ⟨#[49, 50, 48, 48, 49, 48, 48]⟩, ⟨#[]⟩] _ ((hr1.alloc _).below ((Below.refl _ _).drew)) (by omega) ((list_str 9 (g + 1) w1 [⟨#[120]⟩, ⟨#[49, 50, 48, 48, 49, 48, 48]⟩, ⟨#[]⟩] (by intro x hx; simp at hx; rcases hx with rfl | rfl | rfl <;> decide) (by decide) (by have := hr1.lt; omega)).drew) (by decide)).mono ?_
      rintro e w' ⟨x, _, h1, h2, h3, h4⟩
      have h5 := grown_trans (World.grownBy_alloc w1 _ (some g)) ⟨h4.os, h4.tape, h4.output, h4.size, h4.block⟩
      exact ⟨x, h1, h2, h3, h5⟩
    have hzw : w.heap.size < w1.heap.size := by omega
    have HNG : Hid (some w.heap.size ≠ some g) := fun e => by injection e; omega
    have HNE : Hid (some w.heap.size ≠ (Value.slice Ah d.held.length ch).ownBlock) := fun e => HNH.out _ (Nat.le_refl _) e.symm
    go_wp2_with fail
    go_region_law (first | (go_simp; go_at_call 87; (with_reducible refine HC.out.mono ?_); rintro e w7 ⟨s, rfl, hs7, hr7, hg7⟩; have c47 : w7.cell? ⟨w.heap.size, 4, none⟩ = some (.slice Ah d.held.length ch) := (hg7.cell_far ⟨w.heap.size, 4, none⟩ hzw HNG.out).trans c4; have o7 := HH1.out.grown hg7 (own_ne HH1.out hb0); have hz7 := hg7.size; have c47a : (w7.alloc (Obj.cells #[Value.string s] 9)).cell? ⟨w.heap.size, 4, none⟩ = some (.slice Ah d.held.length ch) := (World.cell?_alloc_lt w7 _ ⟨w.heap.size, 4, none⟩ (by show w.heap.size < w7.heap.size; omega)).trans c47) | (refine step_append1 (α := ByteArray) (by rfl) (.tmp 24) (.tmp 28) 23 (by rfl) b0 9 i0 _ 16 Try.underlying23 hi hz0 hzz1 hzz2 rfl (by decide) (.slice Ah d.held.length ch) d.held s (by rfl) (o7.alloc _) ⟨w7.heap.size, 0, none⟩ 1 [.string s] (by rfl) ⟨hs7, rfl⟩ (news_at w7 _ [.string s]) (by unfold maxLen; omega) (by omega) (by simp; omega) ?_; intro g' cap w9 o9 hg9 ha9 hl9; have hb49 := (hg9.block w.heap.size (by simp; omega) HNE.out).trans ((heap_alloc_old w7 _ (by omega)).trans ((hg7.block w.heap.size hzw HNG.out).trans HB1.out)); have c49 := (cells6 hb49).2.2.2.2.1; have f49 := unfrozen6 hb49 4))
    all_goals
      have hzal : (w7.alloc (Obj.cells #[Value.string s] 9)).heap.size = w7.heap.size + 1 := by simp
      have hz9 := hg9.size
      have h22 := (hg9.block (w.heap.size + 1) (by omega) (fun e => HNH.out _ (Nat.le_succ _) e.symm)).trans ((heap_alloc_old w7 _ (by omega)).trans ((hg7.block (w.heap.size + 1) (by omega) (fun e => by injection e; omega)).trans HB2.out))
      have HFR : ∀ j, j < w1.heap.size → j ≠ g → (Value.slice Ah d.held.length ch).ownBlock ≠ some j → w9.heap[j]? = w1.heap[j]? := fun j h1 h2 h3 =>
        (hg9.block j (by omega) (fun e => h3 e.symm)).trans ((heap_alloc_old w7 _ (by omega)).trans (hg7.block j h1 (fun e => by injection e; omega)))
      have HO2 := Lib.hid (HO1.out.keepBlk (w' := w9) fun j hj => HFR j (HO1.out.blk j hj).2 (by have := (HO1.out.blk j hj).1; omega) (fun e => by have e' : some go = some j := hj; injection e' with e'; exact HHG.out j e e'.symm))
      have HF2 := Lib.hid (HF1.out.keepBlk (w' := w9) fun j hj => HFR j (HF1.out.blk j hj).2 (by have := (HF1.out.blk j hj).1; omega) (HFH.out j hj))
      have HH2 := Lib.hid o9
      have hr9 := (hr7.alloc (Obj.cells #[Value.string s] 9)).append (o7.alloc _) hg9 hb0
      have hk9 : kept2 g b0 w w9 := (k1.step hg7 hbw).trans (kept2.below (((Below.refl _ _).alloc (by omega) _).trans (below_append (o7.alloc _) hg9 (by omega))))
      have HNH2 : Hid (∀ j, w.heap.size ≤ j → j < w1.heap.size → (Value.slice (some ⟨g', 0, none⟩) (d.held.length + 1) cap).ownBlock ≠ some j) := fun j h1 h2 e => by
        have e' : some g' = some j := e
        injection e' with e'
        rcases ha9 with h | h
        · have h' : some g' = (Value.slice Ah d.held.length ch).ownBlock := h
          exact HNH.out j h1 (by rw [← h', e'])
        · omega
      obtain ⟨W3, hW3⟩ : ∃ u, u = w9.setCell ⟨w.heap.size, 4, none⟩ (.slice (some ⟨g', 0, none⟩) (d.held.length + 1) cap) := ⟨_, rfl⟩
      have hG : w9.grownBy W3 (some w.heap.size) := by
        rw [hW3]
        exact grown_setCell (p := ⟨w.heap.size, 4, none⟩) (World.grownBy.refl w9 (some w.heap.size)) (.inl rfl) _
      have HB3 := Lib.hid ((hG.block (w.heap.size + 1) (by omega) (fun e => by injection e; omega)).trans h22)
      have HO3 := Lib.hid (HO2.out.grown hG (.inr (HNO.out _ _ _ (Nat.le_refl _))))
      have HF3 := Lib.hid (HF2.out.grown hG (.inr (HNF.out _ (Nat.le_refl _))))
      have HH3 := Lib.hid (HH2.out.grown hG (.inr (HNH2.out _ (Nat.le_refl _) (by omega))))
      have HR3 := Lib.hid (hr9.grown hG hlt)
      have HK3 : Hid (kept2 g b0 w W3) := by
        show kept2 _ _ _ _
        rw [hW3]
        exact hk9.set ⟨w.heap.size, 4, none⟩ hbw _
      have HW3 := Lib.hid hW3
      clear c0 c1 c2 c3 c4 c5 z0 z1 z2 z3 z4 z5 fr1 fr2 c47 c47a c49 f49
      obtain ⟨c0, c1, c2, c3, c4, c5⟩ := cells6 hb49
      obtain ⟨z0, z1, z2, z3, z4, z5⟩ := cells6 h22
      have fr1 := unfrozen6 hb49
      have fr2 := unfrozen6 h22
      clear hb49 h22 hG hr9 hr7 hr1 hg9 hg7 o7 o9 hk9 hW3 ha9 hl9 HFR
      go_wp2_with fail
      rw [← HW3.out]
      refine ret_box rfl rfl (six_set HB3.out) Try.underlying28 rfl Try.sizeDay rfl ?_
      exact l8BadPost_of (d := ⟨d.plan, d.fwds, d.held ++ [s], d.size⟩) (h := w.heap.size + 1) (by omega) hb0 i1 i2 i3 HO3.out HF3.out HH3.out (HNO.out _ _ _ (by omega)) (HNF.out _ (by omega)) (HNH2.out _ (by omega) (by omega)) (by show d.plan.order.length ≤ 101; omega) (by show d.fwds.length ≤ 31; omega) (by show (d.held ++ [s]).length ≤ 3; simp; omega) HR3.out (by omega) HK3.out rfl rfl rfl
  have t2 : (y == 2) = false := by simpa using y2
  by_cases y3 : y = 3
  · have t3 : (y == 3) = true := by simp [y3]
    clear y0 y1 y2 y3
    go_wp2_with fail
    refine (rd_num 3 g (p + 1) _ [0, 20, 21, -1] _ (hr1.alloc _) (by omega) (list_own 3 (g + 1) w1 [0, 20, 21, -1] (by simp [isI64]) (by decide) (by omega)) (by decide)).mono ?_
    rintro e w2 ⟨n, hn, rfl, hr2, hg2⟩
    replace hg2 : w1.grownBy w2 (some g) := grown_trans (World.grownBy_alloc w1 _ _) hg2
    have hni : isI64 n := by simp at hn; unfold isI64; omega
    have hz2 := hg2.size
    have h12 := (hg2.block w.heap.size (by omega) (fun e => by injection e; omega)).trans HB1.out
    have h22 := (hg2.block (w.heap.size + 1) (by omega) (fun e => by injection e; omega)).trans HB2.out
    have HO2 := Lib.hid (HO1.out.grown hg2 (own_ne HO1.out hb0))
    have HF2 := Lib.hid (HF1.out.grown hg2 (own_ne HF1.out hb0))
    have HH2 := Lib.hid (HH1.out.grown hg2 (own_ne HH1.out hb0))
    have hk2 := k1.step hg2 hbw
    obtain ⟨W3, hW3⟩ : ∃ u, u = w2.setCell ⟨w.heap.size, 5, none⟩ (.int .i64 n) := ⟨_, rfl⟩
    have hG : w2.grownBy W3 (some w.heap.size) := by
      rw [hW3]
      exact grown_setCell (p := ⟨w.heap.size, 5, none⟩) (World.grownBy.refl w2 (some w.heap.size)) (.inl rfl) _
    have HB3 := Lib.hid ((hG.block (w.heap.size + 1) (by omega) (fun e => by injection e; omega)).trans h22)
    have HO3 := Lib.hid (HO2.out.grown hG (.inr (HNO.out _ _ _ (Nat.le_refl _))))
    have HF3 := Lib.hid (HF2.out.grown hG (.inr (HNF.out _ (Nat.le_refl _))))
    have HH3 := Lib.hid (HH2.out.grown hG (.inr (HNH.out _ (Nat.le_refl _))))
    have HR3 := Lib.hid (hr2.grown hG hlt)
    have HK3 : Hid (kept2 g b0 w W3) := by
      show kept2 _ _ _ _
      rw [hW3]
      exact hk2.set ⟨w.heap.size, 5, none⟩ hbw _
    have HW3 := Lib.hid hW3
    have HNI := Lib.hid hni
    clear c0 c1 c2 c3 c4 c5 z0 z1 z2 z3 z4 z5 fr1 fr2
    obtain ⟨c0, c1, c2, c3, c4, c5⟩ := cells6 h12
    obtain ⟨z0, z1, z2, z3, z4, z5⟩ := cells6 h22
    have fr1 := unfrozen6 h12
    have fr2 := unfrozen6 h22
    clear h12 h22 hG hr2 hr1 hg2 hk2 hW3 hni hn
    go_wp2_with fail
    rw [← HW3.out]
    refine ret_box rfl rfl (six_set HB3.out) Try.underlying28 rfl Try.sizeDay rfl ?_
    exact l8BadPost_of (d := ⟨d.plan, d.fwds, d.held, n⟩) (h := w.heap.size + 1) (by omega) hb0 i1 i2 HNI.out HO3.out HF3.out HH3.out (HNO.out _ _ _ (by omega)) (HNF.out _ (by omega)) (HNH.out _ (by omega)) (by show d.plan.order.length ≤ 101; omega) (by show d.fwds.length ≤ 31; omega) (by show d.held.length ≤ 3; omega) HR3.out (by omega) HK3.out rfl rfl rfl
  have t3 : (y == 3) = false := by simpa using y3
  clear y0 y1 y2 y3
  go_wp2_with fail
  refine ret_box rfl rfl (six_set HB2.out) Try.underlying28 rfl Try.sizeDay rfl ?_
  exact l8BadPost_of (d := d) (h := w.heap.size + 1) (by omega) hb0 i1 i2 i3 HO1.out HF1.out HH1.out (HNO.out _ _ _ (by omega)) (HNF.out _ (by omega)) (HNH.out _ (by omega)) (by omega) (by omega) (by omega) hr1 (by omega) k1 rfl rfl rfl

end Go.Proofs.Ytmangjjaijhcnaa

namespace Go.Proofs.Ytmangjjaijhcnaa
open Go.RowKit
theorem impl_RunDay' (v vb : Value) (d : Dy) (xs : List Ltr) (w : World) (hv : rdD w w.heap.size v d) (hb : rd w w.heap.size vb xs) :
    Calls Try.prog 11 #[v, vb] w fun e w' => ∃ vR, e = .returned (.tuple #[vR, .bool (rdOk d xs)]) ∧ ownR 55 w.heap.size w' vR (rptOf d xs) ∧ Below w.heap.size w w' := impl_RunDay v vb d xs w hv hb
theorem spec_RunDay' (v vb : Value) (d : Dy) (xs : List Ltr) (w : World) (hv : rdD w w.heap.size v d) (hb : rd w w.heap.size vb xs) :
    Calls Try.prog 12 #[v, vb] w fun e w' => ∃ vR, e = .returned (.tuple #[vR, .bool (rdOk d xs)]) ∧ ownR 55 w.heap.size w' vR (rptOf d xs) ∧ Below w.heap.size w w' := spec_RunDay v vb d xs w hv hb

end Go.Proofs.Ytmangjjaijhcnaa
