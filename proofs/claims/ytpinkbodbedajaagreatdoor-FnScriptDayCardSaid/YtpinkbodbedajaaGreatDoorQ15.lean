/- YG LP ULL MK MK2 GFwd UD UR UR2 B11 B12 B13 B14 DT DT2 DT3 -/
import Derived.Test.YtpinkbodbedajaaGreatDoorQ14
import Derived.Test.YtpinkbodbedajaaGreatDoorQ8
import Derived.Test.YtpinkbodbedajaaGreatDoorQ1
import Derived.StillTailTactics
import Derived.Handy
import Derived.Test.YtpinkbodbedajaaGreatDoorQ2
import Derived.Test.YtpinkbodbedajaaGreatDoorQ4
import Derived.Test.YtpinkbodbedajaaGreatDoorQ12
import Derived.Test.YtpinkbodbedajaaGreatDoorQ6
import Derived.Test.YtpinkbodbedajaaGreatDoorQ5
namespace Go.Proofs.YtpinkbodbedajaaGreatDoor
open Go.RowKit

/-- A day whose rows are the call's own. -/
def ownDz (T1 T2 base : Nat) (w : World) (v : Value) (d : Dy) : Prop :=
  ∃ vo vf vh, v = .agg #[.int .i64 d.plan.bins, .int .i64 d.plan.passes, vo, vf, vh, .int .i64 d.size] ∧ isI64 d.plan.bins ∧ isI64 d.plan.passes ∧ isI64 d.size ∧ own T1 base w vo d.plan.order ∧ own T2 base w vf d.fwds ∧ own T1 base w vh d.held
def l8BadPost (T1 T2 g p b0 : Nat) (w : World) (e : Ending) (w' : World) : Prop :=
  ∃ (v : Value) (d : Dy) (p' : Nat), e = .returned v ∧ ownDz T1 T2 b0 w' v d ∧ d.plan.order.length ≤ 101 ∧ d.fwds.length ≤ 31 ∧ d.held.length ≤ 3 ∧ rdr w' g p' ∧ p' ≤ p + 10 ∧ kept2 g b0 w w'

theorem l8BadPost_of {T1 T2 g p q b0 h : Nat} {w W : World} {vo vf vh a b c : Value} {d : Dy} (hh : b0 ≤ h) (hg : g < b0) (i1 : isI64 d.plan.bins) (i2 : isI64 d.plan.passes) (i3 : isI64 d.size)
    (ho : own T1 b0 W vo d.plan.order) (hf : own T2 b0 W vf d.fwds) (hd : own T1 b0 W vh d.held) (no : vo.ownBlock ≠ some h) (nf : vf.ownBlock ≠ some h) (nh : vh.ownBlock ≠ some h) (lo : d.plan.order.length ≤ 101) (lf : d.fwds.length ≤ 31) (lh : d.held.length ≤ 3)
    (hr : rdr W g q) (hq : q ≤ p + 10) (k : kept2 g b0 w W) (ha : a = .int .i64 d.plan.bins) (hb : b = .int .i64 d.plan.passes) (hc : c = .int .i64 d.size) :
    l8BadPost T1 T2 g p b0 w (.returned (.agg #[a, b, vo, vf, vh, c])) ((((((W.setCell ⟨h, 0, none⟩ a).setCell ⟨h, 1, none⟩ b).setCell ⟨h, 2, none⟩ vo).setCell ⟨h, 3, none⟩ vf).setCell ⟨h, 4, none⟩ vh).setCell ⟨h, 5, none⟩ c) := by
  subst ha hb hc
  have HG := six_grown W h (.int .i64 d.plan.bins) (.int .i64 d.plan.passes) vo vf vh (.int .i64 d.size)
  exact ⟨_, d, q, rfl, ⟨vo, vf, vh, rfl, i1, i2, i3, ho.grown HG (.inr no), hf.grown HG (.inr nf), hd.grown HG (.inr nh)⟩, lo, lf, lh, hr.grown HG (by omega), hq, (((((k.set ⟨h, 0, none⟩ hh _).set ⟨h, 1, none⟩ hh _).set ⟨h, 2, none⟩ hh _).set ⟨h, 3, none⟩ hh _).set ⟨h, 4, none⟩ hh _).set ⟨h, 5, none⟩ hh _⟩

set_option maxRecDepth 100000 in
set_option maxHeartbeats 2000000 in
theorem rd_l8Bad (g p b0 : Nat) (v : Value) (d : Dy) (w : World) (hr : rdr w g p) (hp : p ≤ 5000000000) (hv : ownDy 9 94 b0 w v d) (hb0 : g < b0) (hd : drawnP d.plan) (hf8 : d.fwds.length ≤ 8) (hfd : drawnF d.fwds) (hh2 : d.held.length ≤ 2) :
    Calls Tryz.prog 43 #[.pointer (some ⟨g, 0, none⟩), v] w (l8BadPost 9 94 g p b0 w) := by
  have hlt := hr.lt
  obtain ⟨vo, vf, vh, rfl, i1, i2, i3, ho, hf, hh, a1, a2, a3⟩ := hv
  have hl1 := hd.2.2.2.2.1
  have hl2 := hd.2.2.2.2.2.1
  have HD := Lib.hid hd; clear hd
  have HFD := Lib.hid hfd; clear hfd
  rcases ho.form with ⟨_, h0⟩ | ⟨go, co, rfl, hgo, hgl, hco, hmo⟩
  · rw [h0] at hl1; simp at hl1
  unfold maxLen at hmo
  obtain ⟨Af, nf, cf, rfl, rfl, _, _, _⟩ := hf.rd
  obtain ⟨Ah, nh, ch, rfl, rfl, _, _, _⟩ := hh.rd
  have hgo' : go ≠ g := by omega
  have hbw : b0 ≤ w.heap.size := by omega
  have HFG : Hid (∀ j, (Value.slice Af d.fwds.length cf).ownBlock = some j → j ≠ go) := fun j hj e => by
    rcases a1 with h | h
    · cases h
    · exact h (by rw [hj, e]; rfl)
  have HHG : Hid (∀ j, (Value.slice Ah d.held.length ch).ownBlock = some j → j ≠ go) := fun j hj e => by
    rcases a2 with h | h
    · cases h
    · exact h (by rw [hj, e]; rfl)
  have HFH : Hid (∀ j, (Value.slice Af d.fwds.length cf).ownBlock = some j → (Value.slice Ah d.held.length ch).ownBlock ≠ some j) := fun j hj e => by
    rcases a3 with h | h
    · rw [h] at hj; cases hj
    · exact h (by rw [hj, e])
  clear a1 a2 a3
  obtain ⟨wb, hwb⟩ : ∃ u, u = (w.alloc (Obj.cells #[.int .i64 d.plan.bins, .int .i64 d.plan.passes, .slice (some ⟨go, 0, none⟩) d.plan.order.length co, .slice Af d.fwds.length cf, .slice Ah d.held.length ch, .int .i64 d.size] 28)).alloc (Obj.cells #[.int .i64 0, .int .i64 0, .slice none 0 0, .slice none 0 0, .slice none 0 0, .int .i64 0] 28) := ⟨_, rfl⟩
  have hr0 : rdr wb g p := by rw [hwb]; exact (hr.alloc _).alloc _
  have hzb : wb.heap.size = w.heap.size + 2 := by rw [hwb]; simp
  have hb1 : wb.heap[w.heap.size]? = some (.cells #[.int .i64 d.plan.bins, .int .i64 d.plan.passes, .slice (some ⟨go, 0, none⟩) d.plan.order.length co, .slice Af d.fwds.length cf, .slice Ah d.held.length ch, .int .i64 d.size] 28 (0, 0)) := by rw [hwb]; exact heap_alloc2_old w _ _
  have hb2 : wb.heap[w.heap.size + 1]? = some (.cells #[.int .i64 0, .int .i64 0, .slice none 0 0, .slice none 0 0, .slice none 0 0, .int .i64 0] 28 (0, 0)) := by rw [hwb]; exact heap_alloc2_new w _ _
  have hB : Below w.heap.size w wb := by rw [hwb]; exact ((Below.refl _ _).alloc (Nat.le_refl _) _).alloc (by simp) _
  have k0 : kept2 g b0 w wb := kept2.below ⟨hB.os, hB.tape, hB.output, hB.size, fun k hk => hB.block k (by omega)⟩
  have HWB := Lib.hid hwb
  have oB := ho.below hB
  have fB := hf.below hB
  have eB := hh.below hB
  have HFB := Lib.hid (fun j hj => (hf.blk j hj).2)
  have HHB := Lib.hid (fun j hj => (hh.blk j hj).2)
  clear hwb hB ho hf hh
  go_enter Tryz.func43, Tryz.ntmps43
  go_wp2_with fail
  rw [← HWB.out]
  refine (rd_pick g p 20 _ hr0 (by omega) (by unfold isI64; omega)).mono ?_
  rintro e w1 ⟨y, rfl, hy, hr1, hg1⟩
  have k1 : kept2 g b0 w w1 := k0.step hg1 hbw
  have hz1 := hg1.size
  have hb1' := (hg1.block w.heap.size (by omega) (fun e => by injection e; omega)).trans hb1
  have hb2' := (hg1.block (w.heap.size + 1) (by omega) (fun e => by injection e; omega)).trans hb2
  have HO1 := Lib.hid (oB.grown hg1 (own_ne oB hb0))
  have HF1 := Lib.hid (fB.grown hg1 (own_ne fB hb0))
  have HH1 := Lib.hid (eB.grown hg1 (own_ne eB hb0))
  clear hy hr0 k0 hb1 hb2 oB fB eB hg1
  have HB1 := Lib.hid hb1'; have HB2 := Lib.hid hb2'
  have HNO : Hid (∀ n c j, w.heap.size ≤ j → (Value.slice (some ⟨go, 0, none⟩) n c).ownBlock ≠ some j) := fun n c j hj e => by have e' : some go = some j := e; injection e'; omega
  have HNF : Hid (∀ j, w.heap.size ≤ j → (Value.slice Af d.fwds.length cf).ownBlock ≠ some j) := fun j hj e => by have := HFB.out j e; omega
  have HNH : Hid (∀ j, w.heap.size ≤ j → (Value.slice Ah d.held.length ch).ownBlock ≠ some j) := fun j hj e => by have := HHB.out j e; omega
  obtain ⟨c0, c1, c2, c3, c4, c5⟩ := cells6 hb1'
  obtain ⟨z0, z1, z2, z3, z4, z5⟩ := cells6 hb2'
  have fr1 := unfrozen6 hb1'
  have fr2 := unfrozen6 hb2'
  clear hb1' hb2'
  by_cases y0 : y = 0
  · have t0 : (y == 0) = true := by simp [y0]
    clear y0
    have hdp : drawnP d.plan := HD.out
    go_wp2_with fail
    refine (rd_l3Bad g (p + 1) b0 _ d.plan w1 hr1 (by omega) ⟨_, rfl, i1, i2, HO1.out⟩ hb0 hdp).mono ?_
    rintro e w2 ⟨v2, y2, p2, rfl, ⟨vo2, rfl, j1, j2, ho2⟩, hl2', hr2, hq2, k2, hS, hpb⟩
    have hne : ∀ j, j < w1.heap.size → j ≠ g → j ≠ go → w2.heap[j]? = w1.heap[j]? := fun j hj h1 h2 => hS.block j hj (by
      rintro (h | ⟨_, _, _, h, h'⟩)
      · exact h1 h
      · injection h with h
        injection h with h
        simp only [List.cons.injEq, and_true] at h
        rw [← h.2.2] at h'
        have e' : some go = some j := h'
        injection e' with e'
        exact h2 e'.symm)
    have hbg : ∀ k, vo2.ownBlock = some k → k = g ∨ k = go ∨ w1.heap.size ≤ k := fun k hk => by
      rcases hpb k ⟨_, _, _, rfl, hk⟩ with (h | ⟨_, _, _, h, h'⟩) | h
      · exact .inl h
      · injection h with h
        injection h with h
        simp only [List.cons.injEq, and_true] at h
        rw [← h.2.2] at h'
        have e' : some go = some k := h'
        injection e' with e'
        exact .inr (.inl e'.symm)
      · exact .inr (.inr h)
    have h12 := (hne w.heap.size (by omega) (by omega) (by omega)).trans HB1.out
    have h22 := (hne (w.heap.size + 1) (by omega) (by omega) (by omega)).trans HB2.out
    have HF2 := Lib.hid (HF1.out.keepBlk (w' := w2) fun j hj => hne j (HF1.out.blk j hj).2 (by have := (HF1.out.blk j hj).1; omega) (HFG.out j hj))
    have HH2 := Lib.hid (HH1.out.keepBlk (w' := w2) fun j hj => hne j (HH1.out.blk j hj).2 (by have := (HH1.out.blk j hj).1; omega) (HHG.out j hj))
    have hnh : ∀ j, w.heap.size ≤ j → j < w1.heap.size → vo2.ownBlock ≠ some j := fun j h1 h2 e => by
      have := hbg j e
      omega
    have HNH2 := Lib.hid hnh
    have hk2 := k1.trans k2
    have HO2 := Lib.hid ho2
    obtain ⟨A2, n2, c2', rfl, rfl, _, _, _⟩ := ho2.rd
    obtain ⟨W3, hW3⟩ : ∃ u, u = ((w2.setCell ⟨w.heap.size, 0, none⟩ (.int .i64 y2.bins)).setCell ⟨w.heap.size, 1, none⟩ (.int .i64 y2.passes)).setCell ⟨w.heap.size, 2, none⟩ (.slice A2 y2.order.length c2') := ⟨_, rfl⟩
    have hG : w2.grownBy W3 (some w.heap.size) := by
      rw [hW3]
      exact grown_setCell (p := ⟨w.heap.size, 2, none⟩) (grown_setCell (p := ⟨w.heap.size, 1, none⟩) (grown_setCell (p := ⟨w.heap.size, 0, none⟩) (World.grownBy.refl w2 (some w.heap.size)) (.inl rfl) (.int .i64 y2.bins)) (.inl rfl) (.int .i64 y2.passes)) (.inl rfl) (.slice A2 y2.order.length c2')
    have HB3 := Lib.hid ((hG.block (w.heap.size + 1) (by have := k2.size; omega) (fun e => by injection e; omega)).trans h22)
    have HO3 := Lib.hid (HO2.out.grown hG (.inr (HNH2.out _ (by omega) (by omega))))
    have HF3 := Lib.hid (HF2.out.grown hG (.inr (HNF.out _ (Nat.le_refl _))))
    have HH3 := Lib.hid (HH2.out.grown hG (.inr (HNH.out _ (Nat.le_refl _))))
    have HR3 := Lib.hid (hr2.grown hG hlt)
    have HK3 : Hid (kept2 g b0 w W3) := by
      show kept2 _ _ _ _
      rw [hW3]
      exact ((hk2.set ⟨w.heap.size, 0, none⟩ hbw _).set ⟨w.heap.size, 1, none⟩ hbw _).set ⟨w.heap.size, 2, none⟩ hbw _
    have HW3 := Lib.hid hW3
    clear c0 c1 c2 c3 c4 c5 z0 z1 z2 z3 z4 z5 fr1 fr2
    obtain ⟨c0, c1, c2, c3, c4, c5⟩ := cells6 h12
    obtain ⟨z0, z1, z2, z3, z4, z5⟩ := cells6 h22
    have fr1 := unfrozen6 h12
    have fr2 := unfrozen6 h22
    clear h12 h22 hne hbg hnh hG hr2 hr1 hS k2 hk2 hpb ho2 hW3
    go_wp2_with fail
    rw [← HW3.out]
    refine ret_box rfl rfl (six_set HB3.out) Tryz.underlying28 rfl Tryz.sizeDay rfl ?_
    exact l8BadPost_of (d := ⟨y2, d.fwds, d.held, d.size⟩) (h := w.heap.size + 1) (by omega) hb0 j1 j2 i3 HO3.out HF3.out HH3.out (HNH2.out _ (by omega) (by omega)) (HNF.out _ (by omega)) (HNH.out _ (by omega)) hl2' (by show d.fwds.length ≤ 31; omega) (by show d.held.length ≤ 3; omega) HR3.out (by omega) HK3.out rfl rfl rfl
  have t0 : (y == 0) = false := by simpa using y0
  by_cases y1 : y = 1
  · have t1 : (y == 1) = true := by simp [y1]
    clear y0 y1
    have hfd : drawnF d.fwds := HFD.out
    go_wp2_with fail
    refine (rd_l4Bad g (p + 1) b0 _ d.fwds w1 hr1 (by omega) HF1.out hb0 hf8 hfd).mono ?_
    rintro e w2 ⟨v2, ys, p2, rfl, ho2, hl2', hr2, hq2, k2, hS, hpb⟩
    have hne : ∀ j, j < w1.heap.size → j ≠ g → (Value.slice Af d.fwds.length cf).ownBlock ≠ some j → w2.heap[j]? = w1.heap[j]? := fun j hj h1 h2 => hS.block j hj (by
      rintro (h | h)
      · exact h1 h
      · exact h2 h)
    have h12 := (hne w.heap.size (by omega) (by omega) (HNF.out _ (Nat.le_refl _))).trans HB1.out
    have h22 := (hne (w.heap.size + 1) (by omega) (by omega) (HNF.out _ (by omega))).trans HB2.out
    have HO2 := Lib.hid (HO1.out.keepBlk (w' := w2) fun j hj => hne j (HO1.out.blk j hj).2 (by have := (HO1.out.blk j hj).1; omega) (fun e => by have e' : some go = some j := hj; injection e' with e'; exact HFG.out j e e'.symm))
    have HH2 := Lib.hid (HH1.out.keepBlk (w' := w2) fun j hj => hne j (HH1.out.blk j hj).2 (by have := (HH1.out.blk j hj).1; omega) (fun e => HFH.out j e hj))
    have HNH2 : Hid (∀ j, w.heap.size ≤ j → j < w1.heap.size → v2.ownBlock ≠ some j) := fun j h1 h2 e => by
      rcases hpb j e with h | h
      · exact HNF.out j h1 h
      · omega
    have hk2 := k1.trans k2
    have HF2 := Lib.hid ho2
    obtain ⟨A2, n2, c2', rfl, rfl, _, _, _⟩ := ho2.rd
    obtain ⟨W3, hW3⟩ : ∃ u, u = w2.setCell ⟨w.heap.size, 3, none⟩ (.slice A2 ys.length c2') := ⟨_, rfl⟩
    have hG : w2.grownBy W3 (some w.heap.size) := by
      rw [hW3]
      exact grown_setCell (p := ⟨w.heap.size, 3, none⟩) (World.grownBy.refl w2 (some w.heap.size)) (.inl rfl) _
    have HB3 := Lib.hid ((hG.block (w.heap.size + 1) (by have := k2.size; omega) (fun e => by injection e; omega)).trans h22)
    have HO3 := Lib.hid (HO2.out.grown hG (.inr (HNO.out _ _ _ (Nat.le_refl _))))
    have HF3 := Lib.hid (HF2.out.grown hG (.inr (HNH2.out _ (by omega) (by omega))))
    have HH3 := Lib.hid (HH2.out.grown hG (.inr (HNH.out _ (Nat.le_refl _))))
    have HR3 := Lib.hid (hr2.grown hG hlt)
    have HK3 : Hid (kept2 g b0 w W3) := by
      show kept2 _ _ _ _
      rw [hW3]
      exact hk2.set ⟨w.heap.size, 3, none⟩ hbw _
    have HW3 := Lib.hid hW3
    clear c0 c1 c2 c3 c4 c5 z0 z1 z2 z3 z4 z5 fr1 fr2
    obtain ⟨c0, c1, c2, c3, c4, c5⟩ := cells6 h12
    obtain ⟨z0, z1, z2, z3, z4, z5⟩ := cells6 h22
    have fr1 := unfrozen6 h12
    have fr2 := unfrozen6 h22
    clear h12 h22 hne hG hr2 hr1 hS k2 hk2 hpb ho2 hW3
    go_wp2_with fail
    rw [← HW3.out]
    refine ret_box rfl rfl (six_set HB3.out) Tryz.underlying28 rfl Tryz.sizeDay rfl ?_
    exact l8BadPost_of (d := ⟨d.plan, ys, d.held, d.size⟩) (h := w.heap.size + 1) (by omega) hb0 i1 i2 i3 HO3.out HF3.out HH3.out (HNO.out _ _ _ (by omega)) (HNH2.out _ (by omega) (by omega)) (HNH.out _ (by omega)) (by show d.plan.order.length ≤ 101; omega) hl2' (by show d.held.length ≤ 3; omega) HR3.out (by omega) HK3.out rfl rfl rfl
  have t1 : (y == 1) = false := by simpa using y1
  by_cases y2 : y = 2
  · have t2 : (y == 2) = true := by simp [y2]
    clear y0 y1 y2
    obtain ⟨i0, hi, hz0, hzz1, hzz2⟩ := info_parts Tryz.infoStr
    have HC : Hid (Calls Tryz.prog 80 #[.pointer (some ⟨g, 0, none⟩), .slice (some ⟨w1.heap.size, 0, none⟩) 3 3] (w1.alloc (Obj.cells #[.string ⟨#[120]⟩, .string ⟨#[49, 50, 48, 48, 49, 48, 48]⟩, .string ⟨#[]⟩] 9)).drew fun e w' => ∃ x, e = .returned (.string x) ∧ x.size ≤ maxLen ∧ rdr w' g (p + 2) ∧ w1.grownBy w' (some g)) := by
      refine (rd_of 9 g (p + 1) _ [⟨#[120]⟩, ⟨#[49, 50, 48, 48, 49, 48, 48]⟩, ⟨#[]⟩] _ ((hr1.alloc _).below ((Below.refl _ _).drew)) (by omega) ((list_str 9 (g + 1) w1 [⟨#[120]⟩, ⟨#[49, 50, 48, 48, 49, 48, 48]⟩, ⟨#[]⟩] (by intro x hx; simp at hx; rcases hx with rfl | rfl | rfl <;> decide) (by decide) (by have := hr1.lt; omega)).drew) (by decide)).mono ?_
      rintro e w' ⟨x, _, h1, h2, h3, h4⟩
      have h5 := grown_trans (World.grownBy_alloc w1 _ (some g)) ⟨h4.os, h4.tape, h4.output, h4.size, h4.block⟩
      exact ⟨x, h1, h2, h3, h5⟩
    have hzw : w.heap.size < w1.heap.size := by omega
    have HNG : Hid (some w.heap.size ≠ some g) := fun e => by injection e; omega
    have HNE : Hid (some w.heap.size ≠ (Value.slice Ah d.held.length ch).ownBlock) := fun e => HNH.out _ (Nat.le_refl _) e.symm
    go_wp2_with fail
    go_region_law (first | (go_simp; go_at_call 80; (with_reducible refine HC.out.mono ?_); rintro e w7 ⟨s, rfl, hs7, hr7, hg7⟩; have c47 : w7.cell? ⟨w.heap.size, 4, none⟩ = some (.slice Ah d.held.length ch) := (hg7.cell_far ⟨w.heap.size, 4, none⟩ hzw HNG.out).trans c4; have o7 := HH1.out.grown hg7 (own_ne HH1.out hb0); have hz7 := hg7.size; have c47a : (w7.alloc (Obj.cells #[Value.string s] 9)).cell? ⟨w.heap.size, 4, none⟩ = some (.slice Ah d.held.length ch) := (World.cell?_alloc_lt w7 _ ⟨w.heap.size, 4, none⟩ (by show w.heap.size < w7.heap.size; omega)).trans c47) | (refine step_append1 (α := ByteArray) (by rfl) (.tmp 24) (.tmp 28) 23 (by rfl) b0 9 i0 _ 16 Tryz.underlying23 hi hz0 hzz1 hzz2 rfl (by decide) (.slice Ah d.held.length ch) d.held s (by rfl) (o7.alloc _) ⟨w7.heap.size, 0, none⟩ 1 [.string s] (by rfl) ⟨hs7, rfl⟩ (news_at w7 _ [.string s]) (by unfold maxLen; omega) (by omega) (by simp; omega) ?_; intro g' cap w9 o9 hg9 ha9 hl9; have hb49 := (hg9.block w.heap.size (by simp; omega) HNE.out).trans ((heap_alloc_old w7 _ (by omega)).trans ((hg7.block w.heap.size hzw HNG.out).trans HB1.out)); have c49 := (cells6 hb49).2.2.2.2.1; have f49 := unfrozen6 hb49 4))
    all_goals
      have hzal : (w7.alloc (Obj.cells #[Value.string s] 9)).heap.size = w7.heap.size + 1 := by simp
      have hz9 := hg9.size
      have h22 := (hg9.block (w.heap.size + 1) (by omega) (fun e => HNH.out _ (Nat.le_succ _) e.symm)).trans ((heap_alloc_old w7 _ (by omega)).trans ((hg7.block (w.heap.size + 1) (by omega) (fun e => by injection e; omega)).trans HB2.out))
      have HFR : ∀ j, j < w1.heap.size → j ≠ g → (Value.slice Ah d.held.length ch).ownBlock ≠ some j → w9.heap[j]? = w1.heap[j]? := fun j h1 h2 h3 =>
        (hg9.block j (by omega) (fun e => h3 e.symm)).trans ((heap_alloc_old w7 _ (by omega)).trans (hg7.block j h1 (fun e => by injection e; omega)))
      have HO2 := Lib.hid (HO1.out.keepBlk (w' := w9) fun j hj => HFR j (HO1.out.blk j hj).2 (by have := (HO1.out.blk j hj).1; omega) (fun e => by have e' : some go = some j := hj; injection e' with e'; exact HHG.out j e e'.symm))
      have HF2 := Lib.hid (HF1.out.keepBlk (w' := w9) fun j hj => HFR j (HF1.out.blk j hj).2 (by have := (HF1.out.blk j hj).1; omega) (HFH.out j hj))
      have HH2 := Lib.hid o9
      have hr9 := (hr7.alloc (Obj.cells #[Value.string s] 9)).append (o7.alloc _) hg9 hb0
      have hk9 : kept2 g b0 w w9 := (k1.step hg7 hbw).trans (kept2.below (((Below.refl _ _).alloc (by omega) _).trans (below_append (o7.alloc _) hg9 (by omega))))
      have HNH2 : Hid (∀ j, w.heap.size ≤ j → j < w1.heap.size → (Value.slice (some ⟨g', 0, none⟩) (d.held.length + 1) cap).ownBlock ≠ some j) := fun j h1 h2 e => by
        have e' : some g' = some j := e
        injection e' with e'
        rcases ha9 with h | h
        · have h' : some g' = (Value.slice Ah d.held.length ch).ownBlock := h
          exact HNH.out j h1 (by rw [← h', e'])
        · omega
      obtain ⟨W3, hW3⟩ : ∃ u, u = w9.setCell ⟨w.heap.size, 4, none⟩ (.slice (some ⟨g', 0, none⟩) (d.held.length + 1) cap) := ⟨_, rfl⟩
      have hG : w9.grownBy W3 (some w.heap.size) := by
        rw [hW3]
        exact grown_setCell (p := ⟨w.heap.size, 4, none⟩) (World.grownBy.refl w9 (some w.heap.size)) (.inl rfl) _
      have HB3 := Lib.hid ((hG.block (w.heap.size + 1) (by omega) (fun e => by injection e; omega)).trans h22)
      have HO3 := Lib.hid (HO2.out.grown hG (.inr (HNO.out _ _ _ (Nat.le_refl _))))
      have HF3 := Lib.hid (HF2.out.grown hG (.inr (HNF.out _ (Nat.le_refl _))))
      have HH3 := Lib.hid (HH2.out.grown hG (.inr (HNH2.out _ (Nat.le_refl _) (by omega))))
      have HR3 := Lib.hid (hr9.grown hG hlt)
      have HK3 : Hid (kept2 g b0 w W3) := by
        show kept2 _ _ _ _
        rw [hW3]
        exact hk9.set ⟨w.heap.size, 4, none⟩ hbw _
      have HW3 := Lib.hid hW3
      clear c0 c1 c2 c3 c4 c5 z0 z1 z2 z3 z4 z5 fr1 fr2 c47 c47a c49 f49
      obtain ⟨c0, c1, c2, c3, c4, c5⟩ := cells6 hb49
      obtain ⟨z0, z1, z2, z3, z4, z5⟩ := cells6 h22
      have fr1 := unfrozen6 hb49
      have fr2 := unfrozen6 h22
      clear hb49 h22 hG hr9 hr7 hr1 hg9 hg7 o7 o9 hk9 hW3 ha9 hl9 HFR
      go_wp2_with fail
      rw [← HW3.out]
      refine ret_box rfl rfl (six_set HB3.out) Tryz.underlying28 rfl Tryz.sizeDay rfl ?_
      exact l8BadPost_of (d := ⟨d.plan, d.fwds, d.held ++ [s], d.size⟩) (h := w.heap.size + 1) (by omega) hb0 i1 i2 i3 HO3.out HF3.out HH3.out (HNO.out _ _ _ (by omega)) (HNF.out _ (by omega)) (HNH2.out _ (by omega) (by omega)) (by show d.plan.order.length ≤ 101; omega) (by show d.fwds.length ≤ 31; omega) (by show (d.held ++ [s]).length ≤ 3; simp; omega) HR3.out (by omega) HK3.out rfl rfl rfl
  have t2 : (y == 2) = false := by simpa using y2
  by_cases y3 : y = 3
  · have t3 : (y == 3) = true := by simp [y3]
    clear y0 y1 y2 y3
    go_wp2_with fail
    refine (rd_num 3 g (p + 1) _ [0, 20, 21, -1] _ (hr1.alloc _) (by omega) (list_own 3 (g + 1) w1 [0, 20, 21, -1] (by simp [isI64]) (by decide) (by omega)) (by decide)).mono ?_
    rintro e w2 ⟨n, hn, rfl, hr2, hg2⟩
    replace hg2 : w1.grownBy w2 (some g) := grown_trans (World.grownBy_alloc w1 _ _) hg2
    have hni : isI64 n := by simp at hn; unfold isI64; omega
    have hz2 := hg2.size
    have h12 := (hg2.block w.heap.size (by omega) (fun e => by injection e; omega)).trans HB1.out
    have h22 := (hg2.block (w.heap.size + 1) (by omega) (fun e => by injection e; omega)).trans HB2.out
    have HO2 := Lib.hid (HO1.out.grown hg2 (own_ne HO1.out hb0))
    have HF2 := Lib.hid (HF1.out.grown hg2 (own_ne HF1.out hb0))
    have HH2 := Lib.hid (HH1.out.grown hg2 (own_ne HH1.out hb0))
    have hk2 := k1.step hg2 hbw
    obtain ⟨W3, hW3⟩ : ∃ u, u = w2.setCell ⟨w.heap.size, 5, none⟩ (.int .i64 n) := ⟨_, rfl⟩
    have hG : w2.grownBy W3 (some w.heap.size) := by
      rw [hW3]
      exact grown_setCell (p := ⟨w.heap.size, 5, none⟩) (World.grownBy.refl w2 (some w.heap.size)) (.inl rfl) _
    have HB3 := Lib.hid ((hG.block (w.heap.size + 1) (by omega) (fun e => by injection e; omega)).trans h22)
    have HO3 := Lib.hid (HO2.out.grown hG (.inr (HNO.out _ _ _ (Nat.le_refl _))))
    have HF3 := Lib.hid (HF2.out.grown hG (.inr (HNF.out _ (Nat.le_refl _))))
    have HH3 := Lib.hid (HH2.out.grown hG (.inr (HNH.out _ (Nat.le_refl _))))
    have HR3 := Lib.hid (hr2.grown hG hlt)
    have HK3 : Hid (kept2 g b0 w W3) := by
      show kept2 _ _ _ _
      rw [hW3]
      exact hk2.set ⟨w.heap.size, 5, none⟩ hbw _
    have HW3 := Lib.hid hW3
    have HNI := Lib.hid hni
    clear c0 c1 c2 c3 c4 c5 z0 z1 z2 z3 z4 z5 fr1 fr2
    obtain ⟨c0, c1, c2, c3, c4, c5⟩ := cells6 h12
    obtain ⟨z0, z1, z2, z3, z4, z5⟩ := cells6 h22
    have fr1 := unfrozen6 h12
    have fr2 := unfrozen6 h22
    clear h12 h22 hG hr2 hr1 hg2 hk2 hW3 hni hn
    go_wp2_with fail
    rw [← HW3.out]
    refine ret_box rfl rfl (six_set HB3.out) Tryz.underlying28 rfl Tryz.sizeDay rfl ?_
    exact l8BadPost_of (d := ⟨d.plan, d.fwds, d.held, n⟩) (h := w.heap.size + 1) (by omega) hb0 i1 i2 HNI.out HO3.out HF3.out HH3.out (HNO.out _ _ _ (by omega)) (HNF.out _ (by omega)) (HNH.out _ (by omega)) (by show d.plan.order.length ≤ 101; omega) (by show d.fwds.length ≤ 31; omega) (by show d.held.length ≤ 3; omega) HR3.out (by omega) HK3.out rfl rfl rfl
  have t3 : (y == 3) = false := by simpa using y3
  clear y0 y1 y2 y3
  go_wp2_with fail
  refine ret_box rfl rfl (six_set HB2.out) Tryz.underlying28 rfl Tryz.sizeDay rfl ?_
  exact l8BadPost_of (d := d) (h := w.heap.size + 1) (by omega) hb0 i1 i2 i3 HO1.out HF1.out HH1.out (HNO.out _ _ _ (by omega)) (HNF.out _ (by omega)) (HNH.out _ (by omega)) (by omega) (by omega) (by omega) hr1 (by omega) k1 rfl rfl rfl

end Go.Proofs.YtpinkbodbedajaaGreatDoor

namespace Go.Proofs.YtpinkbodbedajaaGreatDoor
open Go.RowKit

/-- A row of its own put in a place. -/
theorem isLL.put {α : Type} [Flat α] {T1 T2 base G n c : Nat} {w w1 : World} {vs : List Value} {xss : List (List α)} {ys : List α} {v' : Value} {d B : Nat}
    (h : isLL T1 T2 base w (.slice (some ⟨G, 0, none⟩) n c) xss vs) (hb : Below w.heap.size w w1)
    (hd : d < vs.length) (ho : own T2 B w1 v' ys) (hB : w.heap.size ≤ B) (hbase : base ≤ w.heap.size) :
    isLL T1 T2 base (w1.setCell ⟨G, d, none⟩ v') (.slice (some ⟨G, 0, none⟩) n c) (xss.set d ys) (vs.set d v') := by
  obtain ⟨h1, h2, h3, h4, h5⟩ := h
  have hv1 : v'.oneCell' = true := by
    rcases ho.form with ⟨rfl, _⟩ | ⟨g, c, rfl, _⟩ <;> rfl
  have q2 := (h1.below hb).setCell (k := d) (j := 0) hd (by decide) v' v' (fun ecs he => by
    obtain ⟨rfl, _⟩ := he
    exact ⟨rfl, hv1⟩)
  rw [show d * El.size Value + 0 = d from Nat.mul_one d] at q2
  have hset : w1.grownBy (w1.setCell ⟨G, d, none⟩ v') (some G) := grown_setCell (World.grownBy.refl _ _) (.inl rfl) _
  have hG := h1.blk G rfl
  have hvG : apart v' (.slice (some ⟨G, 0, none⟩) n c) := apart_gt ho h1 hB
  have hfar : ∀ i (hi : i < vs.length), apart v' vs[i] := fun i hi => apart_gt ho (h3 i hi (by omega)) hB
  refine ⟨q2, by simp [h2], fun k h h' => ?_, fun j k hj hk hne => ?_, fun k h => ?_⟩
  · by_cases hkd : k = d
    · subst hkd
      simp only [List.getElem_set_self]
      exact (ho.grown hset hvG).base_ (Nat.le_trans hbase hB)
    · rw [List.getElem_set_ne (by omega), List.getElem_set_ne (by omega)]
      have hk1 : k < vs.length := by simpa using h
      have hk2 : k < xss.length := by simpa using h'
      exact ((h3 k hk1 hk2).below hb).grown hset (h5 k hk1)
  · have hj' : j < vs.length := by simpa using hj
    have hk' : k < vs.length := by simpa using hk
    by_cases hjd : j = d
    · subst hjd
      simp only [List.getElem_set_self]
      rw [List.getElem_set_ne (by omega)]
      exact hfar k hk'
    · by_cases hkd : k = d
      · subst hkd
        simp only [List.getElem_set_self]
        rw [List.getElem_set_ne (by omega)]
        exact apart_symm (hfar j hj')
      · rw [List.getElem_set_ne (by omega), List.getElem_set_ne (by omega)]
        exact h4 j k hj' hk' hne
  · by_cases hkd : k = d
    · subst hkd; simp only [List.getElem_set_self]; exact hvG
    · rw [List.getElem_set_ne (by omega)]; exact h5 k (by simpa using h)

end Go.Proofs.YtpinkbodbedajaaGreatDoor

namespace Go.Proofs.YtpinkbodbedajaaGreatDoor
open Go.RowKit





end Go.Proofs.YtpinkbodbedajaaGreatDoor

namespace Go.Proofs.YtpinkbodbedajaaGreatDoor
open Go.RowKit

/-- A row of rows and a row beside it, of the call's own, in blocks before hi. -/
def seg2 (T1 T2 lo hi : Nat) (w : World) (vB vO : Value) (xss : List (List Ltr)) (ys : List Ltr) : Prop :=
  ∃ vs, isLL T1 T2 lo w vB xss vs ∧ own T2 lo w vO ys ∧ farLL vO vB vs ∧ (∀ k, vB.ownBlock = some k → k < hi) ∧ (∀ i (h : i < vs.length) k, vs[i].ownBlock = some k → k < hi) ∧ ∀ k, vO.ownBlock = some k → k < hi
section
variable {T1 T2 lo hi : Nat} {w w' : World} {vB vO : Value} {xss : List (List Ltr)} {ys : List Ltr}
theorem seg2.of {vs : List Value} (h : isLL T1 T2 lo w vB xss vs) (ho : own T2 lo w vO ys) (hf : farLL vO vB vs) : seg2 T1 T2 lo w.heap.size w vB vO xss ys :=
  ⟨vs, h, ho, hf, fun k hk => (h.1.blk k hk).2, fun i hi k hk => ((h.2.2.1 i hi (by have := h.2.1; omega)).blk k hk).2, fun k hk => (ho.blk k hk).2⟩
theorem seg2.alone (h : ownLL T1 T2 lo w vB xss) : seg2 T1 T2 lo w.heap.size w vB (.slice none 0 0) xss [] := by
  obtain ⟨vs, h⟩ := h
  exact seg2.of h (own.nil_ _ _ _) ⟨.inl rfl, fun k hk => .inl rfl⟩
theorem seg2.below (h : seg2 T1 T2 lo hi w vB vO xss ys) (hb : Below w.heap.size w w') : seg2 T1 T2 lo hi w' vB vO xss ys := by
  obtain ⟨vs, h1, h2, h3, h4, h5, h6⟩ := h
  exact ⟨vs, h1.below hb, h2.below hb, h3, h4, h5, h6⟩
theorem seg2.out {a b : Nat} (h : seg2 T1 T2 lo hi w vB vO xss ys) (ho : OutI a b w w') (hd : hi ≤ a ∨ b ≤ lo) : seg2 T1 T2 lo hi w' vB vO xss ys := by
  obtain ⟨vs, ⟨g1, g2, g3, g4, g5⟩, h2, h3, h4, h5, h6⟩ := h
  refine ⟨vs, ⟨g1.keepBlk fun k hk => ho.block k (g1.blk k hk).2 (by have q1 := (g1.blk k hk).1; have q2 := h4 k hk; omega), g2, fun i hi hi' => ?_, g4, g5⟩, h2.keepBlk fun k hk => ho.block k (h2.blk k hk).2 (by have q1 := (h2.blk k hk).1; have q2 := h6 k hk; omega), h3, h4, h5, h6⟩
  exact (g3 i hi hi').keepBlk fun k hk => ho.block k ((g3 i hi hi').blk k hk).2 (by have q1 := ((g3 i hi hi').blk k hk).1; have q2 := h5 i hi k hk; omega)
end




end Go.Proofs.YtpinkbodbedajaaGreatDoor

namespace Go.Proofs.YtpinkbodbedajaaGreatDoor
open Go.RowKit



end Go.Proofs.YtpinkbodbedajaaGreatDoor

namespace Go.Proofs.YtpinkbodbedajaaGreatDoor
open Go.RowKit





end Go.Proofs.YtpinkbodbedajaaGreatDoor

namespace Go.Proofs.YtpinkbodbedajaaGreatDoor
open Go.RowKit






end Go.Proofs.YtpinkbodbedajaaGreatDoor

namespace Go.Proofs.YtpinkbodbedajaaGreatDoor
open Go.RowKit


theorem seg.grown {α : Type} [Flat α] {T lo hi : Nat} {w w' : World} {v : Value} {xs : List α} {row : Option Nat} (h : seg T lo hi w v xs) (hg : w.grownBy w' row) (hv : v.ownBlock = none ∨ v.ownBlock ≠ row) : seg T lo hi w' v xs := ⟨h.1.grown hg hv, h.2⟩


/-! ### Marks of a day -/
def segD (T1 T2 lo hi : Nat) (w : World) (v : Value) (d : Dy) : Prop :=
  ∃ vo vf vh, v = .agg #[.int .i64 d.plan.bins, .int .i64 d.plan.passes, vo, vf, vh, .int .i64 d.size] ∧ isI64 d.plan.bins ∧ isI64 d.plan.passes ∧ isI64 d.size ∧ seg T1 lo hi w vo d.plan.order ∧ seg T2 lo hi w vf d.fwds ∧ seg T1 lo hi w vh d.held ∧ (apart vo vf ∧ apart vo vh ∧ apart vf vh)
theorem segD.of {T1 T2 lo : Nat} {w : World} {v : Value} {d : Dy} (h : ownD T1 T2 lo w v d) : segD T1 T2 lo w.heap.size w v d := by
  obtain ⟨vo, vf, vh, h1, h2, h3, h4, h5, h6, h7, h8⟩ := h
  exact ⟨vo, vf, vh, h1, h2, h3, h4, seg.of h5, seg.of h6, seg.of h7, h8⟩
theorem segD.below {T1 T2 lo hi : Nat} {w w' : World} {v : Value} {d : Dy} (h : segD T1 T2 lo hi w v d) (hb : Below w.heap.size w w') : segD T1 T2 lo hi w' v d := by
  obtain ⟨vo, vf, vh, h1, h2, h3, h4, h5, h6, h7, h8⟩ := h
  exact ⟨vo, vf, vh, h1, h2, h3, h4, h5.below hb, h6.below hb, h7.below hb, h8⟩
theorem segD.out {T1 T2 lo hi a b : Nat} {w w' : World} {v : Value} {d : Dy} (h : segD T1 T2 lo hi w v d) (ho : OutI a b w w') (hd : hi ≤ a ∨ b ≤ lo) : segD T1 T2 lo hi w' v d := by
  obtain ⟨vo, vf, vh, h1, h2, h3, h4, h5, h6, h7, h8⟩ := h
  exact ⟨vo, vf, vh, h1, h2, h3, h4, h5.out ho hd, h6.out ho hd, h7.out ho hd, h8⟩
theorem segD.rd {T1 T2 lo hi : Nat} {w : World} {v : Value} {d : Dy} (h : segD T1 T2 lo hi w v d) : rdD w w.heap.size v d := by
  obtain ⟨vo, vf, vh, h1, h2, h3, h4, h5, h6, h7, h8⟩ := h
  exact ⟨vo, vf, vh, h1, h2, h3, h4, h5.rd, h6.rd, h7.rd⟩

end Go.Proofs.YtpinkbodbedajaaGreatDoor

namespace Go.Proofs.YtpinkbodbedajaaGreatDoor
open Go.RowKit
theorem impl_RunDay' (v vb : Value) (d : Dy) (xs : List Ltr) (w : World) (hv : rdD w w.heap.size v d) (hb : rd w w.heap.size vb xs) :
    Calls Tryz.prog 8 #[v, vb] w fun e w' => ∃ vR, e = .returned (.tuple #[vR, .bool (rdOk d xs)]) ∧ ownR 89 w.heap.size w' vR (rptOf d xs) ∧ Below w.heap.size w w' := impl_RunDay v vb d xs w hv hb
end Go.Proofs.YtpinkbodbedajaaGreatDoor

namespace Go.Proofs.YtpinkbodbedajaaGreatDoor
open Go.RowKit




end Go.Proofs.YtpinkbodbedajaaGreatDoor

namespace Go.Proofs.YtpinkbodbedajaaGreatDoor
open Go.RowKit

/-- A row of rows that grows by one row. -/
theorem isLL.snoc {α : Type} [Flat α] {T1 T2 base g m cap : Nat} {w w1 : World} {v u : Value} {vs : List Value} {xss : List (List α)} {ys : List α}
    (h : isLL T1 T2 base w v xss vs) (ho : own T2 base w u ys) (hf : farLL u v vs) (hn : own T1 base w1 (.slice (some ⟨g, 0, none⟩) m cap) (vs ++ [u])) (hg : w.grownBy w1 v.ownBlock) (ha : some g = v.ownBlock ∨ g = w.heap.size) :
    isLL T1 T2 base w1 (.slice (some ⟨g, 0, none⟩) m cap) (xss ++ [ys]) (vs ++ [u]) := by
  obtain ⟨h1, h2, h3, h4, h5⟩ := h
  have hfu : ∀ k (hk : k < (vs ++ [u]).length), apart (vs ++ [u])[k] v := fun k hk => by
    by_cases hkv : k < vs.length
    · rw [List.getElem_append_left hkv]; exact h5 k hkv
    · rw [List.getElem_append_right (by omega)]
      have : k - vs.length = 0 := by simp at hk; omega
      simp only [this, List.getElem_cons_zero]; exact hf.1
  have hlt : ∀ k (hk : k < (vs ++ [u]).length) j, (vs ++ [u])[k].ownBlock = some j → j < w.heap.size := fun k hk j => by
    by_cases hkv : k < vs.length
    · rw [List.getElem_append_left hkv]; exact fun e => ((h3 k hkv (by omega)).blk j e).2
    · rw [List.getElem_append_right (by omega)]
      have : k - vs.length = 0 := by simp at hk; omega
      simp only [this, List.getElem_cons_zero]; exact fun e => (ho.blk j e).2
  refine ⟨hn, by simp [h2], fun k hk hk' => ?_, fun j k hj hk hne => ?_, fun k hk => ?_⟩
  · by_cases hkv : k < vs.length
    · rw [List.getElem_append_left hkv, List.getElem_append_left (by omega)]
      exact (h3 k hkv (by omega)).grown hg (h5 k hkv)
    · have e1 : k - vs.length = 0 := by simp at hk; omega
      have e2 : k - xss.length = 0 := by omega
      rw [List.getElem_append_right (by omega), List.getElem_append_right (by omega)]
      simp only [e1, e2, List.getElem_cons_zero]
      exact ho.grown hg hf.1
  · by_cases hjv : j < vs.length
    · by_cases hkv : k < vs.length
      · rw [List.getElem_append_left hjv, List.getElem_append_left hkv]; exact h4 j k hjv hkv hne
      · have e1 : k - vs.length = 0 := by simp at hk; omega
        rw [List.getElem_append_left hjv, List.getElem_append_right (by omega)]
        simp only [e1, List.getElem_cons_zero]; exact apart_symm (hf.2 j hjv)
    · have e1 : j - vs.length = 0 := by simp at hj; omega
      by_cases hkv : k < vs.length
      · rw [List.getElem_append_right (by omega), List.getElem_append_left hkv]
        simp only [e1, List.getElem_cons_zero]; exact hf.2 k hkv
      · exfalso; simp at hj hk; omega
  · exact apart_symm (apart_app (apart_symm (hfu k hk)) ha fun j hj => hlt k hk j hj)




end Go.Proofs.YtpinkbodbedajaaGreatDoor

namespace Go.Proofs.YtpinkbodbedajaaGreatDoor
open Go.RowKit

theorem rd.rows {α : Type} [El α] {w : World} {B n c : Nat} {A : Option Addr} {xs : List α} (h : rd w B (.slice A n c) xs) : rdA w B A xs := by
  obtain ⟨A', n', c', h1, _, _, _, hr⟩ := h
  injection h1 with h1 h2 h3
  subst h1
  exact hr
theorem row_le_flat {α : Type} {xss : List (List α)} {k : Nat} (h : k < xss.length) : xss[k].length ≤ xss.flatten.length := (List.sublist_flatten_of_mem (List.getElem_mem h)).length_le


end Go.Proofs.YtpinkbodbedajaaGreatDoor

namespace Go.Proofs.YtpinkbodbedajaaGreatDoor
open Go.RowKit


end Go.Proofs.YtpinkbodbedajaaGreatDoor

namespace Go.Proofs.YtpinkbodbedajaaGreatDoor
open Go.RowKit

/-! ### Plain facts -/
/-- One letter more in the last tray, or in a new one. -/
def putT (s : Int) (L : List (List Ltr)) (x : Ltr) : List (List Ltr) :=
  if L.length = 0 ∨ ((L.getD (L.length - 1) []).length : Int) = s then L ++ [[x]] else L.set (L.length - 1) (L.getD (L.length - 1) [] ++ [x])
def trayTo (s : Int) (xs : List Ltr) : List (List Ltr) := xs.foldl (putT s) []
theorem trayTo_succ {s : Int} {xs : List Ltr} {k : Nat} (h : k < xs.length) : trayTo s (xs.take (k + 1)) = putT s (trayTo s (xs.take k)) xs[k] := by
  unfold trayTo; rw [List.take_succ_eq_append_getElem h, List.foldl_append]; rfl
theorem putT_len (s : Int) (L : List (List Ltr)) (x : Ltr) : (putT s L x).length ≤ L.length + 1 ∧ 0 < (putT s L x).length ∧ L.length ≤ (putT s L x).length := by
  unfold putT
  split
  · simp
  · rename_i h
    rw [List.length_set]
    have : L.length ≠ 0 := fun e => h (.inl e)
    omega
theorem set_flat {α : Type} : ∀ (L : List (List α)) (n : Nat) (r : List α) (h : n < L.length), ((L.set n r).flatten).length + (L[n]).length = (L.flatten).length + r.length := by
  intro L
  induction L with
  | nil => intro n r h; simp at h
  | cons a L ih =>
    intro n r h
    cases n with
    | zero => simp; omega
    | succ n =>
      simp only [List.set_cons_succ, List.flatten_cons, List.length_append, List.getElem_cons_succ]
      have := ih n r (by simpa using h)
      omega
theorem putT_flat (s : Int) (L : List (List Ltr)) (x : Ltr) : (putT s L x).flatten.length = L.flatten.length + 1 := by
  unfold putT
  split
  · simp
  · rename_i h
    have hn : L.length - 1 < L.length := by
      have : L.length ≠ 0 := fun e => h (.inl e)
      omega
    have h1 := set_flat L (L.length - 1) (L.getD (L.length - 1) [] ++ [x]) hn
    rw [List.getD_eq_getElem?_getD, List.getElem?_eq_getElem hn] at h1 ⊢
    simp only [Option.getD_some, List.length_append, List.length_singleton] at h1 ⊢
    omega
theorem trayTo_facts (s : Int) (xs : List Ltr) : ∀ k, k ≤ xs.length → (trayTo s (xs.take k)).length ≤ k ∧ ((trayTo s (xs.take k)).length = 0 ↔ k = 0) ∧ (trayTo s (xs.take k)).flatten.length = k
  | 0, _ => by simp [trayTo]
  | k + 1, h => by
    obtain ⟨h1, h2, h3⟩ := trayTo_facts s xs k (by omega)
    rw [trayTo_succ (by omega), putT_flat]
    obtain ⟨a, b, _⟩ := putT_len s (trayTo s (xs.take k)) xs[k]
    omega
theorem putT_new {s : Int} {L : List (List Ltr)} {x : Ltr} (h : L.length = 0 ∨ ∃ d, ∃ hd : d < L.length, L.length = d + 1 ∧ (L[d].length : Int) = s) : putT s L x = L ++ [[x]] := by
  unfold putT
  rw [if_pos]
  rcases h with h | ⟨d, hd, h1, h2⟩
  · exact .inl h
  · refine .inr ?_
    have e : L.length - 1 = d := by omega
    rw [e, List.getD_eq_getElem?_getD, List.getElem?_eq_getElem hd]
    exact h2
theorem putT_old {s : Int} {L : List (List Ltr)} {x : Ltr} {d : Nat} (hd : d < L.length) (h1 : L.length = d + 1) (h2 : (L[d].length : Int) ≠ s) : putT s L x = L.set d (L[d] ++ [x]) := by
  unfold putT
  have e : L.length - 1 = d := by omega
  rw [e, List.getD_eq_getElem?_getD, List.getElem?_eq_getElem hd, if_neg]
  · rfl
  · rintro (h | h)
    · omega
    · exact h2 h
def ftOk (s : Int) (xs : List Ltr) : Bool := okB xs && sizeOk s
def ftRows (s : Int) (xs : List Ltr) : List (List Ltr) := if ftOk s xs then trayTo s xs else []
def dtOk (d : Dy) (xs : List Ltr) : Bool := rdOk d xs && ftOk d.size (rptOf d xs).round
def dtRows (d : Dy) (xs : List Ltr) : List (List Ltr) := if rdOk d xs then ftRows d.size (rptOf d xs).round else []
theorem ftRows_len (s : Int) (xs : List Ltr) : (ftRows s xs).length ≤ 60 ∧ (ftRows s xs).flatten.length ≤ 60 := by
  unfold ftRows
  split
  · rename_i h
    unfold ftOk at h
    rw [Bool.and_eq_true] at h
    have h1 := okB_len' h.1
    obtain ⟨a, _, b⟩ := trayTo_facts s xs xs.length (Nat.le_refl _)
    rw [List.take_length] at a b
    omega
  · simp
theorem dtRows_len (d : Dy) (xs : List Ltr) : (dtRows d xs).length ≤ 60 ∧ (dtRows d xs).flatten.length ≤ 60 := by
  unfold dtRows
  split
  · exact ftRows_len _ _
  · simp

theorem own.made1 {α : Type} [Flat α] (w : World) (T : TypeId) (cs : List Value) (x : α) {base : Nat} (hel : El.el w w.heap.size x cs) (hb : base ≤ w.heap.size) : own T base (w.alloc (.cells cs.toArray T)) (.slice (some ⟨w.heap.size, 0, none⟩) 1 1) [x] := by
  refine ⟨[cs], ⟨by simp [El.len hel], .inr ⟨w.heap.size, 1, cs.toArray, rfl, hb, heap_alloc_new w _, Nat.le_refl _, by unfold maxLen; omega, by simp [El.len hel], ?_⟩⟩, rfl, fun k h1 h2 => ?_⟩
  · show List.take (1 * El.size α) _ = _
    rw [Nat.one_mul, ← El.len hel]; simp
  · have hk : k = 0 := by simp at h1; omega
    subst hk
    exact Flat.free hel

set_option maxRecDepth 100000 in
set_option maxHeartbeats 6400000 in
theorem impl_FillByPrefix0 (vb : Value) (xs : List Ltr) (s : Int) (w : World) (hb : rd w w.heap.size vb xs) :
    Calls Tryz.prog 117 #[vb, .int .i64 s, .int .i64 0] w fun e w' => ∃ v', e = .returned (.tuple #[v', .bool (ftOk s xs)]) ∧ ownLL 29 89 w.heap.size w' v' (ftRows s xs) ∧ Below w.heap.size w w' := by
  have HB := Lib.hid hb
  obtain ⟨A, n, c, rfl, hn, hc, hm, hr⟩ := hb
  subst hn
  unfold maxLen at hm
  have HR := Lib.hid hr; clear hr
  have HNO : Hid (∀ h : ftOk s xs = false, ftRows s xs = []) := fun h => by unfold ftRows; rw [h]; rfl
  have HQ : Hid (ftOk s xs = (okB xs && sizeOk s)) := rfl
  obtain ⟨i0, hi, hzz, hz1, hz2⟩ := info_parts Tryz.infoRow
  obtain ⟨i1, ji, jz0, jz1, jz2⟩ := info_parts Tryz.infoLtr
  go_enter Tryz.func117, Tryz.ntmps117
  go_wp2_with fail
  refine (impl_BatchValid _ xs _ HB.out).mono ?_
  rintro e w1 ⟨rfl, b1⟩
  have l1 := later_trans (Below.refl w.heap.size w) b1
  clear b1
  cases h1 : okB xs
  · have HF : Hid (ftOk s xs = false) := by show _ = _; rw [HQ.out, h1]; rfl
    clear h1
    go_wp2_with fail
    go_ret2
    exact ⟨_, ret_tup (by rw [HF.out] <;> rfl), by rw [HNO.out HF.out]; exact ⟨[], isLL_nil _ _ _ _⟩, l1⟩
  have hxl := okB_len' h1
  have H1 := Lib.hid h1; clear h1
  go_wp2_with fail
  refine (impl_sizeValid s _).mono ?_
  rintro e w2 ⟨rfl, rfl⟩
  cases h2 : sizeOk s
  · have HF : Hid (ftOk s xs = false) := by show _ = _; rw [HQ.out, h2, Bool.and_false]
    clear h2
    go_wp2_with fail
    go_ret2
    exact ⟨_, ret_tup (by rw [HF.out] <;> rfl), by rw [HNO.out HF.out]; exact ⟨[], isLL_nil _ _ _ _⟩, l1⟩
  have HF : Hid (ftOk s xs = true) := by show _ = _; rw [HQ.out, h2, H1.out]; rfl
  have HY : Hid (ftRows s xs = trayTo s xs) := by show _ = _; unfold ftRows; rw [if_pos HF.out]
  have HFA := Lib.hid (trayTo_facts s xs)
  clear h2 HB
  go_wp2_with fail
  go_loopw [8, 30] (fun t i wr => ∃ (k : Nat) (vs : List Value), k ≤ xs.length ∧ i = .int .i64 k ∧ Below w.heap.size w wr ∧ isLL 29 89 w.heap.size wr t (trayTo s (xs.take k)) vs) (fun _ i _ => xs.length - (intOf i).toNat)
  case atStart => exact ⟨0, [], Nat.zero_le _, rfl, l1, isLL_nil _ _ _ _⟩
  case round =>
    obtain ⟨k, vs, hk, rfl, lr, hB⟩ := hrel
    obtain ⟨w3, rfl⟩ : ∃ w3 : World, w3 = wr := ⟨_, rfl⟩
    clear l1
    by_cases hlt : k < xs.length
    · obtain ⟨b, o, rfl, hb, ⟨hxi, hxc⟩, c1, c2⟩ := HR.out.ltrU k hlt
      have HSTEP := Lib.hid (trayTo_succ (s := s) hlt)
      obtain ⟨f1, f2, f3⟩ := HFA.out k hk
      have HPREV : Hid (∀ k', k = k' + 1 → ∃ y : ByteArray, y.size ≤ maxLen ∧ ∀ W, Below w.heap.size w W → W.cell? ⟨b, o + k' * 2 + 1, none⟩ = some (.string y)) := fun k' hk' => by
        obtain ⟨b', o', hA', _, ⟨_, hyc⟩, _, e2⟩ := HR.out.ltrU k' (by omega)
        injection hA' with hA'
        injection hA' with hA1 hA2
        subst hA1 hA2
        exact ⟨_, hyc, e2⟩
      generalize xs[k] = x at *
      obtain ⟨L, hL⟩ : ∃ L, trayTo s (xs.take k) = L := ⟨_, rfl⟩
      rw [hL] at hB HSTEP f1 f2 f3
      clear hL
      have HROW : Hid (∀ d (h : d < L.length), L[d].length ≤ 60) := fun d h => Nat.le_trans (row_le_flat h) (by omega)
      obtain ⟨AO, mO, cO, rfl, hmO, _, _, _⟩ := hB.1.rd
      subst hmO
      have hvl : vs.length = L.length := hB.2.1
      have hvb : vs.length ≤ 60 := by omega
      have HBB := Lib.hid hB; clear hB
      have hki : (k : Int) < (xs.length : Int) := by omega
      obtain ⟨wl, hwl⟩ : ∃ wl : World, wl = w3.alloc (Obj.cells #[.int .i64 x.id, .string x.code] 89) := ⟨_, rfl⟩
      have y0 := box_cells hwl 0 (.int .i64 x.id) rfl
      have y1 := box_cells hwl 1 (.string x.code) rfl
      have ll := later_trans lr (box_later hwl).1
      have hs0 : w.heap.size ≤ wl.heap.size := ll.size
      have HB4 := Lib.hid (HBB.out.below (box_later hwl).1)
      have HWL2 := Lib.hid hwl; clear hwl
      have lwl := Below.refl wl.heap.size wl
      have hbx : b < w.heap.size := hb
      by_cases hk0 : k = 0
      · have hL0 : L.length = 0 := f2.2 hk0
        have HST : Hid (trayTo s (xs.take (k + 1)) = L ++ [[x]]) := by show _ = _; rw [HSTEP.out, putT_new (.inl hL0)]
        have hk0' : ((k : Int) == 0) = true := by simp [hk0]
        clear f2 hL0 hvl
        have HK0 := Lib.hid hk0; clear hk0
        go_wp2
        rw [← HWL2.out]
        go_quiet (fail)
        try clear hvd
        try clear hvl
        try clear hd
        obtain ⟨wq, hwq⟩ : ∃ u, u = wl.drewN nq := ⟨_, rfl⟩
        have lq := later_drewN ll nq
        have bq := later_drewN lwl nq
        rw [← hwq] at lq bq ⊢
        clear hwq
        have HBq := Lib.hid (HB4.out.below bq)
        have hsq : w.heap.size ≤ wq.heap.size := lq.size
        have hz1' : (wq.alloc (Obj.cells #[Value.int IntKind.i64 x.id, Value.string x.code] 89)).heap.size = wq.heap.size + 1 := by simp
        have OR1 : Hid (own (α := Ltr) 89 wq.heap.size (wq.alloc (Obj.cells #[Value.int IntKind.i64 x.id, Value.string x.code] 89)) (.slice (some ⟨wq.heap.size, 0, none⟩) 1 1) [x]) := own.made1 wq _ (Ltr.cells x) x ⟨⟨hxi, hxc⟩, rfl⟩ (Nat.le_refl _)
        have HF1 : Hid (farLL (.slice (some ⟨wq.heap.size, 0, none⟩) 1 1) (.slice AO vs.length cO) vs) := ⟨apart_gt OR1.out HBq.out.1 (Nat.le_refl _), fun i hi => apart_gt OR1.out (HBq.out.2.2.1 i hi (by have := HBq.out.2.1; omega)) (Nat.le_refl _)⟩
        have bw1 : Below wq.heap.size wq (wq.alloc (Obj.cells #[Value.int IntKind.i64 x.id, Value.string x.code] 89)) := later_alloc (Below.refl _ _) _
        have HBr := Lib.hid (HBq.out.below bw1)
        have hnews : ∀ j u, [(.slice (some ⟨wq.heap.size, 0, none⟩) 1 1 : Value)][j]? = some u → ((wq.alloc (Obj.cells #[Value.int IntKind.i64 x.id, Value.string x.code] 89)).alloc (Obj.cells #[.slice (some ⟨wq.heap.size, 0, none⟩) 1 1] 29)).cell? ((⟨wq.heap.size + 1, 0, none⟩ : Addr).add j) = some u := by
          rw [← hz1']; exact news_at (wq.alloc (Obj.cells #[Value.int IntKind.i64 x.id, Value.string x.code] 89)) _ [.slice (some ⟨wq.heap.size, 0, none⟩) 1 1]
        clear hz1' bw1
        go_wp2_with (at_builtin; refine wpList_append1' (α := Value) rfl (.tmp 64) (.tmp 67) 37 rfl w.heap.size 29 i0 _ 24 Tryz.underlying37 hi hzz hz1 hz2 rfl (by decide) (.slice AO vs.length cO) vs (.slice (some ⟨wq.heap.size, 0, none⟩) 1 1) rfl (HBr.out.1.alloc _) ⟨wq.heap.size + 1, 0, none⟩ 1 [.slice (some ⟨wq.heap.size, 0, none⟩) 1 1] rfl ⟨rfl, rfl⟩ hnews (by unfold maxLen; omega) (by omega) (by simp; omega) ?_; intro g cap w5 ho5 hg5 ha5 hl5)
        have l5 : Below w.heap.size w w5 := (later_alloc (later_alloc lq (Obj.cells #[Value.int IntKind.i64 x.id, Value.string x.code] 89)) (Obj.cells #[.slice (some ⟨wq.heap.size, 0, none⟩) 1 1] 29)).grown hg5 (by simp; omega) fun q hq => (HBq.out.1.blk q hq).1
        have HB6 := Lib.hid (isLL.snoc (HBr.out.below (later_alloc (Below.refl _ _) (Obj.cells #[.slice (some ⟨wq.heap.size, 0, none⟩) 1 1] 29))) ((OR1.out.base_ hsq).alloc (Obj.cells #[.slice (some ⟨wq.heap.size, 0, none⟩) 1 1] 29)) HF1.out ho5 hg5 ha5)
        go_wp2
        go_roundw
        case rel => exact ⟨k + 1, _, by omega, by go_num, l5, by rw [HST.out]; exact HB6.out⟩
        case measure => simp [intOf]; omega
      · obtain ⟨d, hd⟩ : ∃ d, L.length = d + 1 := ⟨L.length - 1, by have : L.length ≠ 0 := fun e => hk0 (f2.1 e); omega⟩
        have hLj : d < L.length := by omega
        obtain ⟨k', hk'⟩ : ∃ k', k = k' + 1 := ⟨k - 1, by omega⟩
        obtain ⟨yp, hyp, e2⟩ := HPREV.out k' hk'
        clear f2 HPREV
        subst hk'
        have hk0' : (((k' + 1 : Nat) : Int) == 0) = false := by rw [beq_eq_false_iff_ne]; omega
        have hk0'' : ((k' : Int) + 1 == 0) = false := by rw [beq_eq_false_iff_ne]; omega
        clear hk0
        have hvd : vs.length = d + 1 := by omega
        obtain ⟨hlv, hov⟩ : ∃ hlv : d < vs.length, own 89 w.heap.size wl vs[d] L[d] := by
          obtain ⟨z1, z2, z3, z4, z5⟩ := HB4.out
          exact ⟨by omega, z3 d (by omega) hLj⟩
        obtain ⟨G, hAO, _⟩ := own_some HB4.out.1 (by omega)
        subst hAO
        have hcG : wl.cell? ⟨G, d, none⟩ = some vs[d] := own_cellv HB4.out.1 d hlv
        obtain ⟨Au, mu, cu, hU, hmu, _, _, _⟩ := hov.rd
        rw [hU, hmu] at hcG
        have HUU := Lib.hid hU
        clear hU hmu hov
        obtain ⟨qn, hqn⟩ : ∃ q, L[d].length = q := ⟨_, rfl⟩
        rw [hqn] at hcG
        have HQN := Lib.hid hqn; clear hqn
        have hdi : (d : Int) < (vs.length : Int) := by omega
        have hkp : (k' : Int) < (xs.length : Int) := by omega
        have hGlt : G < wl.heap.size := (HB4.out.1.blk G rfl).2
        by_cases hs : (qn : Int) = s
        · have hs' : ((qn : Int) == s) = true := by simp [hs]
          have HS := Lib.hid hs; clear hs
          have HST : Hid (trayTo s (xs.take (k' + 1 + 1)) = L ++ [[x]]) := by show _ = _; rw [HSTEP.out, putT_new (.inr ⟨d, hLj, hd, by rw [HQN.out]; exact HS.out⟩)]
          go_wp2
          rw [← HWL2.out]
          go_quiet (fail)
          try clear hvd
          try clear hvl
          try clear hd
          obtain ⟨wq, hwq⟩ : ∃ u, u = wl.drewN nq := ⟨_, rfl⟩
          have lq := later_drewN ll nq
          have bq := later_drewN lwl nq
          rw [← hwq] at lq bq ⊢
          clear hwq
          have HBq := Lib.hid (HB4.out.below bq)
          have hsq : w.heap.size ≤ wq.heap.size := lq.size
          have hz1' : (wq.alloc (Obj.cells #[Value.int IntKind.i64 x.id, Value.string x.code] 89)).heap.size = wq.heap.size + 1 := by simp
          have OR1 : Hid (own (α := Ltr) 89 wq.heap.size (wq.alloc (Obj.cells #[Value.int IntKind.i64 x.id, Value.string x.code] 89)) (.slice (some ⟨wq.heap.size, 0, none⟩) 1 1) [x]) := own.made1 wq _ (Ltr.cells x) x ⟨⟨hxi, hxc⟩, rfl⟩ (Nat.le_refl _)
          have HF1 : Hid (farLL (.slice (some ⟨wq.heap.size, 0, none⟩) 1 1) (.slice (some ⟨G, 0, none⟩) vs.length cO) vs) := ⟨apart_gt OR1.out HBq.out.1 (Nat.le_refl _), fun i hi => apart_gt OR1.out (HBq.out.2.2.1 i hi (by have := HBq.out.2.1; omega)) (Nat.le_refl _)⟩
          have bw1 : Below wq.heap.size wq (wq.alloc (Obj.cells #[Value.int IntKind.i64 x.id, Value.string x.code] 89)) := later_alloc (Below.refl _ _) _
          have HBr := Lib.hid (HBq.out.below bw1)
          have hnews : ∀ j u, [(.slice (some ⟨wq.heap.size, 0, none⟩) 1 1 : Value)][j]? = some u → ((wq.alloc (Obj.cells #[Value.int IntKind.i64 x.id, Value.string x.code] 89)).alloc (Obj.cells #[.slice (some ⟨wq.heap.size, 0, none⟩) 1 1] 29)).cell? ((⟨wq.heap.size + 1, 0, none⟩ : Addr).add j) = some u := by
            rw [← hz1']; exact news_at (wq.alloc (Obj.cells #[Value.int IntKind.i64 x.id, Value.string x.code] 89)) _ [.slice (some ⟨wq.heap.size, 0, none⟩) 1 1]
          clear hz1' bw1
          go_wp2_with (at_builtin; refine wpList_append1' (α := Value) rfl (.tmp 64) (.tmp 67) 37 rfl w.heap.size 29 i0 _ 24 Tryz.underlying37 hi hzz hz1 hz2 rfl (by decide) (.slice (some ⟨G, 0, none⟩) vs.length cO) vs (.slice (some ⟨wq.heap.size, 0, none⟩) 1 1) rfl (HBr.out.1.alloc _) ⟨wq.heap.size + 1, 0, none⟩ 1 [.slice (some ⟨wq.heap.size, 0, none⟩) 1 1] rfl ⟨rfl, rfl⟩ hnews (by unfold maxLen; omega) (by omega) (by simp; omega) ?_; intro g cap w5 ho5 hg5 ha5 hl5)
          have l5 : Below w.heap.size w w5 := (later_alloc (later_alloc lq (Obj.cells #[Value.int IntKind.i64 x.id, Value.string x.code] 89)) (Obj.cells #[.slice (some ⟨wq.heap.size, 0, none⟩) 1 1] 29)).grown hg5 (by simp; omega) fun q hq => (HBq.out.1.blk q hq).1
          have HB6 := Lib.hid (isLL.snoc (HBr.out.below (later_alloc (Below.refl _ _) (Obj.cells #[.slice (some ⟨wq.heap.size, 0, none⟩) 1 1] 29))) ((OR1.out.base_ hsq).alloc (Obj.cells #[.slice (some ⟨wq.heap.size, 0, none⟩) 1 1] 29)) HF1.out ho5 hg5 ha5)
          go_wp2
          go_roundw
          case rel => exact ⟨k' + 1 + 1, _, by omega, by go_num, l5, by rw [HST.out]; exact HB6.out⟩
          case measure => simp [intOf]; omega
        · have hs' : ((qn : Int) == s) = false := by simp [hs]
          have HS := Lib.hid hs; clear hs
          have HST : Hid (trayTo s (xs.take (k' + 1 + 1)) = L.set d (L[d] ++ [x])) := by show _ = _; rw [HSTEP.out, putT_old hLj hd (by rw [HQN.out]; exact HS.out)]
          go_wp2
          rw [← HWL2.out]
          go_quiet (fail)
          clear HUU hcG hGlt
          try clear hvd
          try clear hvl
          try clear hd
          obtain ⟨wq, hwq⟩ : ∃ u, u = wl.drewN nq := ⟨_, rfl⟩
          have lq := later_drewN ll nq
          have bq := later_drewN lwl nq
          rw [← hwq] at lq bq ⊢
          clear hwq
          have HBq := Lib.hid (HB4.out.below bq)
          have hsq : w.heap.size ≤ wq.heap.size := lq.size
          obtain ⟨hlv, hov, hgv⟩ : ∃ hlv : d < vs.length, own 89 w.heap.size wq vs[d] L[d] ∧ apart vs[d] (.slice (some ⟨G, 0, none⟩) vs.length cO) := by
            obtain ⟨z1, z2, z3, z4, z5⟩ := HBq.out
            exact ⟨by omega, z3 d (by omega) hLj, z5 d (by omega)⟩
          have hcG : wq.cell? ⟨G, d, none⟩ = some vs[d] := own_cellv HBq.out.1 d hlv
          have hfG : wq.frozen? ⟨G, d, none⟩ = false := HBq.out.1.freeAt d
          have hql : L[d].length ≤ 60 := HROW.out d hLj
          obtain ⟨qs, hqs⟩ : ∃ qs, qs = L[d] := ⟨_, rfl⟩
          have HQS := Lib.hid hqs
          rw [← hqs] at hov hql
          clear hqs
          obtain ⟨u, hu⟩ : ∃ u, u = vs[d] := ⟨_, rfl⟩
          have HUU := Lib.hid hu
          rw [← hu] at hov hgv hcG
          clear hu
          obtain ⟨Au, mu, cu, rfl, hmu, _, _, _⟩ := hov.rd
          subst hmu
          have HOV := Lib.hid hov; clear hov
          have HGV := Lib.hid hgv; clear hgv
          have hGs : some G ≠ (Value.slice Au qs.length cu).ownBlock := by
            have h := HGV.out
            unfold apart at h
            rcases h with h | h
            · rw [h]; simp
            · exact fun e => h e.symm
          have HGS := Lib.hid hGs; clear hGs
          have hGlt : G < wq.heap.size := (HBq.out.1.blk G rfl).2
          have hG0 : w.heap.size ≤ G := (HBq.out.1.blk G rfl).1
          have x0 := y0 wq bq
          have x1 := y1 wq bq
          go_wp2
          go_region_law (first | go_loud ((refine step_append1 (α := Ltr) (by rfl) (.tmp 74) (.tmp 76) 29 (by rfl) w.heap.size 89 i1 _ 24 Tryz.underlying29 ji jz0 jz1 jz2 rfl (by decide) (.slice Au qs.length cu) qs x (by rfl) ((HOV.out.alloc _).drew) ⟨wq.heap.size, 0, none⟩ 1 (Ltr.cells x) (by rfl) ⟨⟨hxi, hxc⟩, rfl⟩ (news_drew wq _ (Ltr.cells x)) (by unfold maxLen; omega) (by omega) (by simp; omega) ?_; intro g cap w5 ho5 hg5 ha5 hl5; have hcG5 : w5.cell? ⟨G, d, none⟩ = some (.slice Au qs.length cu) := (hg5.cell_far ⟨G, d, none⟩ (by simp; omega) HGS.out).trans (by go_simp); have hfG5 : w5.frozen? ⟨G, d, none⟩ = false := (hg5.frozen_far ⟨G, d, none⟩ (by simp; omega) HGS.out).trans (by go_simp))))
          all_goals
            have hWD : Below wq.heap.size wq (wq.alloc (Obj.cells #[Value.int IntKind.i64 x.id, Value.string x.code] 89)).drew := later_drew (later_alloc (Below.refl _ _) _)
            obtain ⟨p1, _, _⟩ := place_step (o := .slice none 0 0) (rest := []) HBq.out (own.nil_ _ _ _) ⟨.inl rfl, fun k hk => .inl rfl⟩ hWD hlv hLj HUU.out HQS.out ho5 hg5 ha5
            have p4 := place_later (G := G) (d := d) (g := g) (m := qs.length + 1) (cap := cap) (later_drew (later_alloc lq (Obj.cells #[Value.int IntKind.i64 x.id, Value.string x.code] 89))) hg5 (fun j hj => (HOV.out.blk j hj).1) hG0
            have P1 := Lib.hid p1
            clear p1 hWD
            go_wp2
            go_roundw
            case rel => exact ⟨k' + 1 + 1, _, by omega, by go_num, p4, by rw [HST.out]; exact P1.out⟩
            case measure => simp [intOf]; omega
    · have HE := Lib.hid (show k = xs.length by omega)
      go_wp2
      go_ret2
      rw [HE.out, List.take_length] at hB
      exact ⟨_, ret_tup (by rw [HF.out] <;> rfl), by rw [HY.out]; exact ⟨vs, hB⟩, lr⟩

end Go.Proofs.YtpinkbodbedajaaGreatDoor

namespace Go.Proofs.YtpinkbodbedajaaGreatDoor
open Go.RowKit

end Go.Proofs.YtpinkbodbedajaaGreatDoor

namespace Go.Proofs.YtpinkbodbedajaaGreatDoor
open Go.RowKit

theorem impl_FillTrays (vb : Value) (xs : List Ltr) (s : Int) (w : World) (hb : rd w w.heap.size vb xs) :
    Calls Tryz.prog 55 #[vb, .int .i64 s] w fun e w' => ∃ v', e = .returned (.tuple #[v', .bool (ftOk s xs)]) ∧ ownLL 29 89 w.heap.size w' v' (ftRows s xs) ∧ Below w.heap.size w w' := by
  have HB := Lib.hid hb; clear hb
  go_enter Tryz.func55, Tryz.ntmps55
  go_wp2_with fail
  refine (impl_FillByPrefix0 _ xs s _ HB.out).mono ?_
  rintro e w1 ⟨v1, rfl, o1, b1⟩
  have O1 := Lib.hid o1; clear o1
  go_wp2_with fail
  go_ret2
  exact ⟨_, rfl, O1.out, b1⟩

set_option maxRecDepth 100000 in
set_option maxHeartbeats 1600000 in
theorem impl_DayTrays (v vb : Value) (d : Dy) (xs : List Ltr) (w : World) (hv : rdD w w.heap.size v d) (hb : rd w w.heap.size vb xs) :
    Calls Tryz.prog 11 #[v, vb] w fun e w' => ∃ v', e = .returned (.tuple #[v', .bool (dtOk d xs)]) ∧ ownLL 29 89 w.heap.size w' v' (dtRows d xs) ∧ Below w.heap.size w w' := by
  obtain ⟨A0, c0, A1, c1, A2, c2, e0⟩ := openD hv
  obtain ⟨w0, hw0⟩ : ∃ w0, w0 = w.alloc (Obj.cells #[.int .i64 d.plan.bins, .int .i64 d.plan.passes, .slice A0 d.plan.order.length c0, .slice A1 d.fwds.length c1, .slice A2 d.held.length c2, .int .i64 d.size] 28) := ⟨_, rfl⟩
  have q0 := box_cells hw0 0 (.int .i64 d.plan.bins) rfl
  have q1 := box_cells hw0 1 (.int .i64 d.plan.passes) rfl
  have q2 := box_cells hw0 2 (.slice A0 d.plan.order.length c0) rfl
  have q3 := box_cells hw0 3 (.slice A1 d.fwds.length c1) rfl
  have q4 := box_cells hw0 4 (.slice A2 d.held.length c2) rfl
  have q5 := box_cells hw0 5 (.int .i64 d.size) rfl
  have HT := Lib.hid (box_later hw0).1
  have hv1 := hv.on HT.out
  subst e0
  have HD := Lib.hid hv1
  have HB := Lib.hid (hb.on HT.out)
  have HW0 := Lib.hid hw0; clear hw0 hb hv hv1
  have l0 := Below.refl w0.heap.size w0
  have hwlt : w.heap.size ≤ w0.heap.size := HT.out.size
  have HQ : Hid (dtOk d xs = (rdOk d xs && ftOk d.size (rptOf d xs).round)) := rfl
  go_enter Tryz.func11, Tryz.ntmps11
  go_wp2_with fail
  rw [← HW0.out]
  refine (impl_RunDay' _ _ d xs _ HD.out HB.out).mono ?_
  rintro e w1 ⟨vR, rfl, oR, b1⟩
  have l1 := later_trans l0 b1
  have hrp := oR.rd
  obtain ⟨R0, r0, R1, r1, R2, r2, R3, r3, eR⟩ := openR hrp
  subst eR
  obtain ⟨pr, _, _, _⟩ := partsR hrp
  have PR := Lib.hid pr
  clear hrp pr oR b1
  cases h1 : rdOk d xs
  · have HF : Hid (dtOk d xs = false) := by show _ = _; rw [HQ.out, h1]; rfl
    have HE : Hid (dtRows d xs = []) := by show _ = _; unfold dtRows; rw [h1]; rfl
    clear h1
    go_wp2_with fail
    go_ret2
    exact ⟨_, ret_tup (by rw [HF.out] <;> rfl), by rw [HE.out]; exact ⟨[], isLL_nil _ _ _ _⟩, later_trans HT.out (later_alloc l1 _)⟩
  have HF : Hid (dtOk d xs = ftOk d.size (rptOf d xs).round) := by show _ = _; rw [HQ.out, h1]; rfl
  have HE : Hid (dtRows d xs = ftRows d.size (rptOf d xs).round) := by show _ = _; unfold dtRows; rw [h1]; rfl
  clear h1
  obtain ⟨wb, hwb⟩ : ∃ u, u = w1.alloc (Obj.cells #[.slice R0 (rptOf d xs).round.length r0, .slice R1 (rptOf d xs).strange.length r1, .slice R2 (rptOf d xs).held.length r2, .slice R3 (rptOf d xs).stuck.length r3] 33) := ⟨_, rfl⟩
  have bx := (box_later hwb).1
  have lb := later_trans l1 bx
  have HWB := Lib.hid hwb; clear hwb
  go_wp2_with fail
  rw [← HWB.out]
  refine (impl_FillTrays _ (rptOf d xs).round d.size _ (PR.out.on bx)).mono ?_
  rintro e w2 ⟨v2, rfl, o2, b2⟩
  have l2 := later_trans lb b2
  have O2 := Lib.hid o2; clear o2 b2
  go_wp2_with fail
  go_ret2
  exact ⟨_, ret_tup (by rw [HF.out] <;> rfl), by rw [HE.out]; exact O2.out.base_ (Nat.le_trans hwlt lb.size), later_trans HT.out l2⟩

end Go.Proofs.YtpinkbodbedajaaGreatDoor
