/- DS YC YD YE PV NY NZ GO NA NX NE M1 M2 N1 PL -/
import Derived.Test.YtpinkbodbedajaaGreatDoorQ14
import Derived.Deep.RegionLaw
import Derived.Test.YtpinkbodbedajaaGreatDoorQ11
import Derived.Test.YtpinkbodbedajaaGreatDoorQ7
import Derived.Test.YtpinkbodbedajaaGreatDoorQ1
import Derived.Deep.RegionHeld3
import Derived.Test.YtpinkbodbedajaaGreatDoorQ6
import Derived.Test.YtpinkbodbedajaaGreatDoorQ12
import Derived.Test.YtpinkbodbedajaaGreatDoorQ2
import Derived.Test.YtpinkbodbedajaaGreatDoorQ5
import Derived.StillTailTactics
import Derived.Test.YtpinkbodbedajaaGreatDoorQ13
namespace Go.Proofs.YtpinkbodbedajaaGreatDoor
open Go.RowKit

theorem own.none_ {α : Type} [El α] {T base g n c : Nat} {w : World} {xs : List α} (h : own T base w (.slice (some ⟨g, 0, none⟩) n c) xs) : own (α := α) T base w (.slice (some ⟨g, 0, none⟩) 0 c) [] := by
  obtain ⟨css, ⟨h1, h2⟩, hl, he⟩ := h
  rcases h2 with ⟨h2, _⟩ | ⟨g', cap, cur, hv, hg, hh, h3, h4, h5, h6⟩
  · cases h2
  · injection hv with e1 e2 e3
    injection e1 with e1
    injection e1 with e1
    subst e1 e3
    exact ⟨[], ⟨by simp, .inr ⟨g, c, cur, rfl, hg, hh, Nat.zero_le _, h4, h5, by simp⟩⟩, rfl, fun k hk => absurd hk (Nat.not_lt_zero k)⟩

theorem own_setText {T base g n c : Nat} {w : World} {xs : List ByteArray} (h : own T base w (.slice (some ⟨g, 0, none⟩) n c) xs) {k : Nat} (hk : k < xs.length) (y : ByteArray) (hy : y.size ≤ maxLen) :
    own T base (w.setCell ⟨g, k, none⟩ (.string y)) (.slice (some ⟨g, 0, none⟩) n c) (xs.set k y) := by
  have h1 := h.setCell (k := k) (j := 0) hk (by decide) (.string y) y (fun ecs he => by
    obtain ⟨_, rfl⟩ := he
    exact ⟨hy, rfl⟩)
  rw [show k * El.size ByteArray + 0 = k from Nat.mul_one k] at h1
  exact h1

/-- The block of a plan's order. -/
def planBlk (v : Value) (k : Nat) : Prop := ∃ a b vo, v = .agg #[a, b, vo] ∧ vo.ownBlock = some k
def l3BadPost (T : TypeId) (g p b0 : Nat) (S : Nat → Prop) (w : World) (e : Ending) (w' : World) : Prop :=
  ∃ (v : Value) (y : Pln) (p' : Nat), e = .returned v ∧ ownP T b0 w' v y ∧ y.order.length ≤ 101 ∧ rdr w' g p' ∧ p' ≤ p + 5 ∧ kept2 g b0 w w' ∧ keptS S w w' ∧ ∀ k, planBlk v k → S k ∨ w.heap.size ≤ k

theorem l3BadPost_of {T g p q b0 h : _} {S : Nat → Prop} {w W : World} {y : Pln} {vo : Value} {a b d : Value} (hh : b0 ≤ h) (hg : g < b0) (h1 : isI64 y.bins) (h2 : isI64 y.passes) (ho : own T b0 W vo y.order) (hl : y.order.length ≤ 101) (hne : vo.ownBlock ≠ some h)
    (hr : rdr W g q) (hq : q ≤ p + 5) (hk : kept2 g b0 w W) (hS : keptS S w W) (hwh : w.heap.size ≤ h) (hpb : ∀ k, vo.ownBlock = some k → S k ∨ w.heap.size ≤ k) (ha : a = .int .i64 y.bins) (hb : b = .int .i64 y.passes) (hd : d = vo) :
    l3BadPost T g p b0 S w (.returned (.agg #[a, b, d])) (((W.setCell ⟨h, 0, none⟩ a).setCell ⟨h, 1, none⟩ b).setCell ⟨h, 2, none⟩ d) := by
  subst ha hb hd
  have HG := grown_setCell (p := ⟨h, 2, none⟩) (grown_setCell (p := ⟨h, 1, none⟩) (grown_setCell (p := ⟨h, 0, none⟩) (World.grownBy.refl W (some h)) (.inl rfl) (.int .i64 y.bins)) (.inl rfl) (.int .i64 y.passes)) (.inl rfl) d
  exact ⟨_, y, q, rfl, ⟨_, rfl, h1, h2, ho.grown HG (.inr hne)⟩, hl, hr.grown HG (by omega), hq, ((hk.set ⟨h, 0, none⟩ hh _).set ⟨h, 1, none⟩ hh _).set ⟨h, 2, none⟩ hh _, ((hS.set ⟨h, 0, none⟩ (.inr hwh) _).set ⟨h, 1, none⟩ (.inr hwh) _).set ⟨h, 2, none⟩ (.inr hwh) _, fun k hk => by
    obtain ⟨a, b, vo', e, hk⟩ := hk
    injection e with e
    injection e with e
    simp only [List.cons.injEq, and_true] at e
    rw [← e.2.2] at hk
    exact hpb k hk⟩

theorem cells3 {W : World} {h T : Nat} {a b d : Value} (hb : W.heap[h]? = some (.cells #[a, b, d] T (0, 0))) :
    W.cell? ⟨h, 0, none⟩ = some a ∧ W.cell? ⟨h, 1, none⟩ = some b ∧ W.cell? ⟨h, 2, none⟩ = some d ∧ W.frozen? ⟨h, 0, none⟩ = false ∧ W.frozen? ⟨h, 1, none⟩ = false ∧ W.frozen? ⟨h, 2, none⟩ = false :=
  ⟨by rw [cell_of_row _ _ _ _ _ _ hb]; rfl, by rw [cell_of_row _ _ _ _ _ _ hb]; rfl, by rw [cell_of_row _ _ _ _ _ _ hb]; rfl, by simp [World.frozen?, hb], by simp [World.frozen?, hb], by simp [World.frozen?, hb]⟩

set_option maxRecDepth 100000 in
set_option maxHeartbeats 2000000 in
theorem rd_l3Bad (g p b0 : Nat) (v : Value) (x : Pln) (w : World) (hr : rdr w g p) (hp : p ≤ 10000000000) (hv : ownP 9 b0 w v x) (hb0 : g < b0) (hd : drawnP x) :
    Calls Tryz.prog 101 #[.pointer (some ⟨g, 0, none⟩), v] w (l3BadPost 9 g p b0 (fun k => k = g ∨ planBlk v k) w) := by
  have hlt := hr.lt
  obtain ⟨vo, rfl, i1, i2, ho⟩ := hv
  obtain ⟨_, _, _, _, hl1, hl2, hdc⟩ := hd
  rcases ho.form with ⟨_, h0⟩ | ⟨go, c0, rfl, hgo, hgl, hc0, hm0⟩
  · rw [h0] at hl1; simp at hl1
  unfold maxLen at hm0
  have HDC := Lib.hid hdc; clear hdc
  have hgo' : go ≠ g := by omega
  have hr0 := (hr.alloc (Obj.cells #[.int .i64 x.bins, .int .i64 x.passes, .slice (some ⟨go, 0, none⟩) x.order.length c0] 25)).alloc (Obj.cells #[.int .i64 0, .int .i64 0, .slice none 0 0] 25)
  obtain ⟨wb, hwb⟩ : ∃ u, u = (w.alloc (Obj.cells #[.int .i64 x.bins, .int .i64 x.passes, .slice (some ⟨go, 0, none⟩) x.order.length c0] 25)).alloc (Obj.cells #[.int .i64 0, .int .i64 0, .slice none 0 0] 25) := ⟨_, rfl⟩
  rw [← hwb] at hr0
  have hzb : wb.heap.size = w.heap.size + 2 := by rw [hwb]; simp
  have hb1 : wb.heap[w.heap.size]? = some (.cells #[.int .i64 x.bins, .int .i64 x.passes, .slice (some ⟨go, 0, none⟩) x.order.length c0] 25 (0, 0)) := by rw [hwb]; exact heap_alloc2_old w _ _
  have hb2 : wb.heap[w.heap.size + 1]? = some (.cells #[.int .i64 0, .int .i64 0, .slice none 0 0] 25 (0, 0)) := by rw [hwb]; exact heap_alloc2_new w _ _
  have hB : Below w.heap.size w wb := by rw [hwb]; exact ((Below.refl _ _).alloc (Nat.le_refl _) _).alloc (by simp) _
  have hbw : b0 ≤ w.heap.size := by omega
  have HSG : Hid ((fun k => k = g ∨ planBlk (.agg #[.int .i64 x.bins, .int .i64 x.passes, .slice (some ⟨go, 0, none⟩) x.order.length c0]) k) go) := .inr ⟨_, _, _, rfl, rfl⟩
  have HSg : Hid (∀ r, some g = some r → (fun k => k = g ∨ planBlk (.agg #[.int .i64 x.bins, .int .i64 x.passes, .slice (some ⟨go, 0, none⟩) x.order.length c0]) k) r ∨ w.heap.size ≤ r) := fun r e => .inl (.inl (by injection e with e; exact e.symm))
  have HPG : Hid (∀ (n c k : Nat), (Value.slice (some ⟨go, 0, none⟩) n c).ownBlock = some k → (fun k => k = g ∨ planBlk (.agg #[.int .i64 x.bins, .int .i64 x.passes, .slice (some ⟨go, 0, none⟩) x.order.length c0]) k) k ∨ w.heap.size ≤ k) := fun n c k e => .inl (by have e' : some go = some k := e; injection e' with e'; rw [← e']; exact HSG.out)
  have j0 := (keptS.refl (fun k => k = g ∨ planBlk (.agg #[.int .i64 x.bins, .int .i64 x.passes, .slice (some ⟨go, 0, none⟩) x.order.length c0]) k) w).below hB
  generalize (fun k => k = g ∨ planBlk (.agg #[.int .i64 x.bins, .int .i64 x.passes, .slice (some ⟨go, 0, none⟩) x.order.length c0]) k) = S at *
  have k0 : kept2 g b0 w wb := kept2.below ⟨hB.os, hB.tape, hB.output, hB.size, fun k hk => hB.block k (by omega)⟩
  have HWB := Lib.hid hwb
  have hob := ho.below hB
  clear hwb hB ho
  go_enter Tryz.func101, Tryz.ntmps101
  go_wp2_with fail
  rw [← HWB.out]
  refine (rd_pick g p 40 _ hr0 (by omega) (by unfold isI64; omega)).mono ?_
  rintro e w1 ⟨y, rfl, hy, hr1, hg1⟩
  have k1 : kept2 g b0 w w1 := k0.step hg1 hbw
  have J1 := Lib.hid (j0.next hg1 HSg.out)
  clear j0
  have hb1' := (hg1.block w.heap.size (by omega) (fun e => by injection e; omega)).trans hb1
  have hb2' := (hg1.block (w.heap.size + 1) (by omega) (fun e => by injection e; omega)).trans hb2
  have HO1 := Lib.hid (hob.grown hg1 (.inr (fun e => hgo' (by injection e))))
  have hz1 := hg1.size
  clear hy hr0 k0 hb1 hb2 hob hg1
  have HB1 := Lib.hid hb1'; have HB2 := Lib.hid hb2'
  obtain ⟨c10, c11, c12, f10, f11, f12⟩ := cells3 hb1'
  obtain ⟨c20, c21, c22, f20, f21, f22⟩ := cells3 hb2'
  clear hb1' hb2'
  by_cases y0 : y = 0
  · have t0 : (y == 0) = true := by simp [y0]
    have n1 : (y == 1) = false := by simp [y0]
    have n2 : (y == 2) = false := by simp [y0]
    have n3 : (y == 3) = false := by simp [y0]
    have n4 : (y == 4) = false := by simp [y0]
    clear y0
    go_wp2_with fail
    refine (rd_num 3 g (p + 1) _ [1, 17, 16, -1, 9223372036854775807] _ (hr1.alloc _) (by omega) (list_own 3 (g + 1) w1 [1, 17, 16, -1, 9223372036854775807] (by simp [isI64]) (by decide) (by omega)) (by decide)).mono ?_
    rintro e w2 ⟨n, hn, rfl, hr2, hg2⟩
    replace hg2 : w1.grownBy w2 (some g) := grown_trans (World.grownBy_alloc w1 _ _) hg2
    have hni : isI64 n := by simp at hn; unfold isI64; omega
    have hb1 := (hg2.block w.heap.size (by omega) (fun e => by injection e; omega)).trans HB1.out
    have hb2 := (hg2.block (w.heap.size + 1) (by omega) (fun e => by injection e; omega)).trans HB2.out
    clear c10 c11 c12 f10 f11 f12 c20 c21 c22 f20 f21 f22 hn
    obtain ⟨c10, c11, c12, f10, f11, f12⟩ := cells3 hb1
    obtain ⟨c20, c21, c22, f20, f21, f22⟩ := cells3 hb2
    have hb3 : (w2.setCell ⟨w.heap.size, 0, none⟩ (.int .i64 n)).heap[w.heap.size + 1]? = _ := (heap_setCell_other w2 ⟨w.heap.size, 0, none⟩ (w.heap.size + 1) (.int .i64 n) (by simp)).trans hb2
    have HB3 := Lib.hid hb3
    have hG := grown_setCell (p := ⟨w.heap.size, 0, none⟩) (World.grownBy.refl w2 (some w.heap.size)) (.inl rfl) (.int .i64 n)
    have HO3 := Lib.hid ((HO1.out.grown hg2 (.inr (fun e => hgo' (by injection e)))).grown hG (.inr (fun e => by have e' : some go = some w.heap.size := e; simp at e'; omega)))
    have HR3 := Lib.hid (hr2.grown hG hlt)
    have HK3 := Lib.hid ((k1.step hg2 hbw).set ⟨w.heap.size, 0, none⟩ hbw (.int .i64 n))
    have HJ3 := Lib.hid ((J1.out.next hg2 HSg.out).set ⟨w.heap.size, 0, none⟩ (.inr (Nat.le_refl _)) (.int .i64 n))
    have HNI := Lib.hid hni
    clear hb1 hb2 hb3 hG hr2 hg2 hr1 hni
    go_wp2_with fail
    refine ret_box rfl rfl (three_set HB3.out) Tryz.underlying25 rfl Tryz.sizePln rfl ?_
    exact l3BadPost_of (y := ⟨n, x.passes, x.order⟩) (Nat.le_trans hbw (Nat.le_succ _)) hb0 HNI.out i2 HO3.out (by show x.order.length ≤ _; omega) (fun e => by have e' : some go = some (w.heap.size + 1) := e; simp at e'; omega) HR3.out (by omega) HK3.out HJ3.out (Nat.le_succ _) (HPG.out _ _) rfl rfl rfl
  have t0 : (y == 0) = false := by simpa using y0
  by_cases y1 : y = 1
  · have t1 : (y == 1) = true := by simp [y1]
    clear y0 y1
    go_wp2_with fail
    refine (rd_num 3 g (p + 1) _ [0, 5, 4, 1] _ (hr1.alloc _) (by omega) (list_own 3 (g + 1) w1 [0, 5, 4, 1] (by simp [isI64]) (by decide) (by omega)) (by decide)).mono ?_
    rintro e w2 ⟨n, hn, rfl, hr2, hg2⟩
    replace hg2 : w1.grownBy w2 (some g) := grown_trans (World.grownBy_alloc w1 _ _) hg2
    have hni : isI64 n := by simp at hn; unfold isI64; omega
    have hb1 := (hg2.block w.heap.size (by omega) (fun e => by injection e; omega)).trans HB1.out
    have hb2 := (hg2.block (w.heap.size + 1) (by omega) (fun e => by injection e; omega)).trans HB2.out
    clear c10 c11 c12 f10 f11 f12 c20 c21 c22 f20 f21 f22 hn
    obtain ⟨c10, c11, c12, f10, f11, f12⟩ := cells3 hb1
    obtain ⟨c20, c21, c22, f20, f21, f22⟩ := cells3 hb2
    have hb3 : (w2.setCell ⟨w.heap.size, 1, none⟩ (.int .i64 n)).heap[w.heap.size + 1]? = _ := (heap_setCell_other w2 ⟨w.heap.size, 1, none⟩ (w.heap.size + 1) (.int .i64 n) (by simp)).trans hb2
    have HB3 := Lib.hid hb3
    have hG := grown_setCell (p := ⟨w.heap.size, 1, none⟩) (World.grownBy.refl w2 (some w.heap.size)) (.inl rfl) (.int .i64 n)
    have HO3 := Lib.hid ((HO1.out.grown hg2 (.inr (fun e => hgo' (by injection e)))).grown hG (.inr (fun e => by have e' : some go = some w.heap.size := e; simp at e'; omega)))
    have HR3 := Lib.hid (hr2.grown hG hlt)
    have HK3 := Lib.hid ((k1.step hg2 hbw).set ⟨w.heap.size, 1, none⟩ hbw (.int .i64 n))
    have HJ3 := Lib.hid ((J1.out.next hg2 HSg.out).set ⟨w.heap.size, 1, none⟩ (.inr (Nat.le_refl _)) (.int .i64 n))
    have HNI := Lib.hid hni
    clear hb1 hb2 hb3 hG hr2 hg2 hr1 hni
    go_wp2_with fail
    refine ret_box rfl rfl (three_set HB3.out) Tryz.underlying25 rfl Tryz.sizePln rfl ?_
    exact l3BadPost_of (y := ⟨x.bins, n, x.order⟩) (Nat.le_trans hbw (Nat.le_succ _)) hb0 i1 HNI.out HO3.out (by show x.order.length ≤ _; omega) (fun e => by have e' : some go = some (w.heap.size + 1) := e; simp at e'; omega) HR3.out (by omega) HK3.out HJ3.out (Nat.le_succ _) (HPG.out _ _) rfl rfl rfl
  have t1 : (y == 1) = false := by simpa using y1
  by_cases y2 : y = 2
  · have t2 : (y == 2) = true := by simp [y2]
    have n3 : (y == 3) = false := by simp [y2]
    have n4 : (y == 4) = false := by simp [y2]
    clear y0 y1 y2
    obtain ⟨hs0, hc0'⟩ := own_cellStr HO1.out 0 (by omega)
    generalize x.order[0] = s0 at *
    obtain ⟨i0, hi, hz0, hzz1, hzz2⟩ := info_parts Tryz.infoStr
    have HR1 := Lib.hid hr1; clear hr1
    have hpos : 0 < x.order.length := by omega
    have HNE : Hid (some w.heap.size ≠ (Value.slice (some ⟨go, 0, none⟩) x.order.length c0).ownBlock) := fun e => by
      have e' : some w.heap.size = some go := e
      simp at e'; omega
    have hzw : w.heap.size < w1.heap.size := by omega
    have hzg : go < w1.heap.size := by omega
    have HCA : Hid (∀ o : Obj, (w1.alloc o).drew.cell? ⟨w.heap.size, 2, none⟩ = some (.slice (some ⟨go, 0, none⟩) x.order.length c0)) := fun o => (cells3 (W := (w1.alloc o).drew) ((heap_alloc_old w1 o (by omega)).trans HB1.out)).2.2.1
    have HFA : Hid (∀ o : Obj, (w1.alloc o).drew.frozen? ⟨w.heap.size, 2, none⟩ = false) := fun o => (cells3 (W := (w1.alloc o).drew) ((heap_alloc_old w1 o (by omega)).trans HB1.out)).2.2.2.2.2
    go_wp2_with fail
    go_region_law (go_loud ((refine step_append1 (α := ByteArray) (by rfl) (.tmp 22) (.tmp 27) 23 (by rfl) b0 9 i0 _ 16 Tryz.underlying23 hi hz0 hzz1 hzz2 rfl (by decide) (.slice (some ⟨go, 0, none⟩) x.order.length c0) x.order s0 (by rfl) ((HO1.out.alloc _).drew) ⟨w1.heap.size, 0, none⟩ 1 [.string s0] (by rfl) ⟨hs0, rfl⟩ (news_drew w1 _ [.string s0]) (by unfold maxLen; omega) (by omega) (by simp; omega) ?_; intro g' cap w4 ho4 hg4 ha4 hl4; have hc4 : w4.cell? ⟨w.heap.size, 2, none⟩ = some (.slice (some ⟨go, 0, none⟩) x.order.length c0) := (hg4.cell_far ⟨w.heap.size, 2, none⟩ (by simp; omega) HNE.out).trans (HCA.out _); have hf4 : w4.frozen? ⟨w.heap.size, 2, none⟩ = false := (hg4.frozen_far ⟨w.heap.size, 2, none⟩ (by simp; omega) HNE.out).trans (HFA.out _))))
    all_goals
      have hWA : Below b0 w1 (w1.alloc (Obj.cells #[Value.string s0] 9)).drew := ((Below.refl _ _).alloc (by omega) _).drew
      have hJA : Below w.heap.size w1 (w1.alloc (Obj.cells #[Value.string s0] 9)).drew := ((Below.refl _ _).alloc (by omega) _).drew
      have HRA : Hid (rdr (w1.alloc (Obj.cells #[Value.string s0] 9)).drew g (p + 1)) := (HR1.out.alloc _).below ((Below.refl _ _).drew)
      have HOA : Hid (own 9 b0 (w1.alloc (Obj.cells #[Value.string s0] 9)).drew (.slice (some ⟨go, 0, none⟩) x.order.length c0) x.order) := (HO1.out.alloc _).drew
      have hb2A : (w1.alloc (Obj.cells #[Value.string s0] 9)).drew.heap[w.heap.size + 1]? = some (.cells #[.int .i64 0, .int .i64 0, .slice none 0 0] 25 (0, 0)) := (heap_alloc_old w1 _ (by omega)).trans HB2.out
      have hzA : (w1.alloc (Obj.cells #[Value.string s0] 9)).drew.heap.size = w1.heap.size + 1 := by simp
      have hb1A : (w1.alloc (Obj.cells #[Value.string s0] 9)).drew.heap[w.heap.size]? = some (.cells #[.int .i64 x.bins, .int .i64 x.passes, .slice (some ⟨go, 0, none⟩) x.order.length c0] 25 (0, 0)) := (heap_alloc_old w1 _ (by omega)).trans HB1.out
      generalize (w1.alloc (Obj.cells #[Value.string s0] 9)).drew = wA at *
      have h14 := (hg4.block w.heap.size (by omega) (fun e => by have e' : some w.heap.size = some go := e; simp at e'; omega)).trans hb1A
      clear c10 c11 c12 f10 f11 f12 c20 c21 c22 f20 f21 f22 hc0'
      obtain ⟨c10, c11, c12, f10, f11, f12⟩ := cells3 h14
      have h24 := (hg4.block (w.heap.size + 1) (by omega) (fun e => by have e' : some (w.heap.size + 1) = some go := e; simp at e'; omega)).trans hb2A
      obtain ⟨c20, c21, c22, f20, f21, f22⟩ := cells3 h24
      have hk4 : kept2 g b0 w w4 := k1.trans (kept2.below (hWA.trans (below_append HOA.out hg4 (by omega))))
      have HJ4 := Lib.hid ((J1.out.below hJA).next hg4 fun r e => .inl (by have e' : some go = some r := e; injection e' with e'; rw [← e']; exact HSG.out))
      clear hJA
      have HR4 := Lib.hid (HRA.out.append HOA.out hg4 hb0)
      have hgn : g' ≠ w.heap.size ∧ g' ≠ w.heap.size + 1 := by
        rcases ha4 with h | h
        · have e' : some g' = some go := h
          simp at e'; omega
        · omega
      have HPB : Hid (∀ k, (Value.slice (some ⟨g', 0, none⟩) (x.order.length + 1) cap).ownBlock = some k → S k ∨ w.heap.size ≤ k) := fun k e => by
        have e' : some g' = some k := e
        injection e' with e'
        rcases ha4 with h | h
        · have e2 : some g' = some go := h
          injection e2 with e2
          exact .inl (by rw [← e', e2]; exact HSG.out)
        · exact .inr (by omega)
      have HO4 := Lib.hid ho4
      have hb3 : (w4.setCell ⟨w.heap.size, 2, none⟩ (.slice (some ⟨g', 0, none⟩) (x.order.length + 1) cap)).heap[w.heap.size + 1]? = _ := (heap_setCell_other w4 ⟨w.heap.size, 2, none⟩ (w.heap.size + 1) (.slice (some ⟨g', 0, none⟩) (x.order.length + 1) cap) (by simp)).trans h24
      have HB3 := Lib.hid hb3
      have hG := grown_setCell (p := ⟨w.heap.size, 2, none⟩) (World.grownBy.refl w4 (some w.heap.size)) (.inl rfl) (.slice (some ⟨g', 0, none⟩) (x.order.length + 1) cap)
      have HO3 := Lib.hid (HO4.out.grown hG (.inr (fun e => by have e' : some g' = some w.heap.size := e; simp at e'; omega)))
      have HR3 := Lib.hid (HR4.out.grown hG hlt)
      have HK3 := Lib.hid (hk4.set ⟨w.heap.size, 2, none⟩ hbw (.slice (some ⟨g', 0, none⟩) (x.order.length + 1) cap))
      have HJ3 := Lib.hid (HJ4.out.set ⟨w.heap.size, 2, none⟩ (.inr (Nat.le_refl _)) (.slice (some ⟨g', 0, none⟩) (x.order.length + 1) cap))
      clear hb3 hG hk4 h24 h14 hb1A hb2A hg4 ho4 ha4 hWA
      go_wp2_with fail
      refine ret_box rfl rfl (three_set HB3.out) Tryz.underlying25 rfl Tryz.sizePln rfl ?_
      exact l3BadPost_of (y := ⟨x.bins, x.passes, x.order ++ [s0]⟩) (Nat.le_trans hbw (Nat.le_succ _)) hb0 i1 i2 HO3.out (by simp; omega) (fun e => by have e' : some g' = some (w.heap.size + 1) := e; simp at e'; omega) HR3.out (by omega) HK3.out HJ3.out (Nat.le_succ _) HPB.out rfl rfl rfl
  have t2 : (y == 2) = false := by simpa using y2
  by_cases y3 : y = 3
  · have t3 : (y == 3) = true := by simp [y3]
    have n4 : (y == 4) = false := by simp [y3]
    clear y0 y1 y2 y3
    have hpos : 0 < x.order.length := by omega
    obtain ⟨hs0, hcO⟩ := own_cellStr HO1.out 0 hpos
    have hfO : w1.frozen? ⟨go, 0, none⟩ = false := HO1.out.freeAt 0
    have hs7 : x.order[0].size = 7 := HDC.out _ (List.getElem_mem hpos)
    obtain ⟨s0, hs0e⟩ : ∃ z, z = x.order[0] := ⟨_, rfl⟩
    rw [← hs0e] at hcO hs7
    clear hs0 hs0e
    have HR1 := Lib.hid hr1; clear hr1
    have hzw : w.heap.size < w1.heap.size := by omega
    have hzg : go < w1.heap.size := by omega
    have HCO := Lib.hid hcO; have HFO := Lib.hid hfO
    have HC12 := Lib.hid c12
    have HS8 : Hid ((s0 ++ (⟨#[49]⟩ : ByteArray)).size = 8) := by show _ = _; rw [ByteArray.size_append, hs7]; rfl
    have HC1 : Hid (Calls Tryz.prog 81 #[.pointer (some ⟨g, 0, none⟩), .string (s0 ++ (⟨#[49]⟩ : ByteArray))] w1.drew fun e w' => ∃ (t : ByteArray), e = .returned (.string t) ∧ t.size ≤ 9 ∧ rdr w' g (p + 2) ∧ w1.grownBy w' (some g)) := by
      refine (rd_l1Bad g (p + 1) _ _ (HR1.out.below ((Below.refl _ _).drew)) (by omega) (by rw [HS8.out]; omega) (by rw [HS8.out]; omega)).mono ?_
      rintro e w' ⟨t, h1, h2, h3, h4⟩
      exact ⟨t, h1, by rw [HS8.out] at h2; exact h2, h3, ⟨h4.os, h4.tape, h4.output, h4.size, h4.block⟩⟩
    have hzi : (0 : Int) < (x.order.length : Int) := by omega
    have HN1 : Hid (some w.heap.size ≠ some g) := fun e => by injection e; omega
    have HN2 : Hid (some go ≠ some g) := fun e => hgo' (by injection e)
    go_wp2_with fail
    go_region_law (first | (go_simp; go_at_call 81; refine HC1.out.mono ?_; rintro e w2 ⟨t, rfl, ht, hr2, hg2⟩; have cb2 : w2.cell? ⟨w.heap.size, 2, none⟩ = some (.slice (some ⟨go, 0, none⟩) x.order.length c0) := (hg2.cell_far ⟨w.heap.size, 2, none⟩ hzw HN1.out).trans HC12.out; have co2 : w2.cell? ⟨go, 0, none⟩ = some (.string s0) := (hg2.cell_far ⟨go, 0, none⟩ hzg HN2.out).trans HCO.out; have fo2 : w2.frozen? ⟨go, 0, none⟩ = false := (hg2.frozen_far ⟨go, 0, none⟩ hzg HN2.out).trans HFO.out))
    all_goals
      have hb1 := (hg2.block w.heap.size (by omega) HN1.out).trans HB1.out
      have hb2 := (hg2.block (w.heap.size + 1) (by omega) (fun e => by injection e; omega)).trans HB2.out
      have hb3 : (w2.setCell ⟨go, 0, none⟩ (.string t)).heap[w.heap.size]? = _ := (heap_setCell_other w2 ⟨go, 0, none⟩ w.heap.size (.string t) (by show w.heap.size ≠ go; omega)).trans hb1
      have hb4 : (w2.setCell ⟨go, 0, none⟩ (.string t)).heap[w.heap.size + 1]? = _ := (heap_setCell_other w2 ⟨go, 0, none⟩ (w.heap.size + 1) (.string t) (by show w.heap.size + 1 ≠ go; omega)).trans hb2
      clear c10 c11 c12 f10 f11 f12 c20 c21 c22 f20 f21 f22 hcO hfO cb2 co2 fo2
      obtain ⟨c10, c11, c12, f10, f11, f12⟩ := cells3 hb3
      obtain ⟨c20, c21, c22, f20, f21, f22⟩ := cells3 hb4
      have HB4 := Lib.hid hb4
      have HO3 := Lib.hid (own_setText (HO1.out.grown hg2 (.inr HN2.out)) hpos t (by unfold maxLen; omega))
      have hG := grown_setCell (p := ⟨go, 0, none⟩) (World.grownBy.refl w2 (some go)) (.inl rfl) (.string t)
      have HR3 := Lib.hid (hr2.grown hG (by omega))
      have HK3 := Lib.hid ((k1.step hg2 hbw).set ⟨go, 0, none⟩ hgo (.string t))
      have HJ3 := Lib.hid ((J1.out.next hg2 HSg.out).set ⟨go, 0, none⟩ (.inl HSG.out) (.string t))
      clear hb1 hb2 hb3 hb4 hG hr2 hg2
      go_wp2_with fail
      refine ret_box rfl rfl (three_set HB4.out) Tryz.underlying25 rfl Tryz.sizePln rfl ?_
      exact l3BadPost_of (y := ⟨x.bins, x.passes, x.order.set 0 t⟩) (Nat.le_trans hbw (Nat.le_succ _)) hb0 i1 i2 HO3.out (by simp; omega) (fun e => by have e' : some go = some (w.heap.size + 1) := e; simp at e'; omega) HR3.out (by omega) HK3.out HJ3.out (Nat.le_succ _) (HPG.out _ _) rfl rfl rfl
  have t3 : (y == 3) = false := by simpa using y3
  by_cases y4 : y = 4
  · have t4 : (y == 4) = true := by simp [y4]
    clear y0 y1 y2 y3 y4
    have hb3 : (w1.setCell ⟨w.heap.size, 2, none⟩ (.slice (some ⟨go, 0, none⟩) 0 c0)).heap[w.heap.size + 1]? = _ := (heap_setCell_other w1 ⟨w.heap.size, 2, none⟩ (w.heap.size + 1) (.slice (some ⟨go, 0, none⟩) 0 c0) (by simp)).trans HB2.out
    have HB3 := Lib.hid hb3
    have hG := grown_setCell (p := ⟨w.heap.size, 2, none⟩) (World.grownBy.refl w1 (some w.heap.size)) (.inl rfl) (.slice (some ⟨go, 0, none⟩) 0 c0)
    have HO3 := Lib.hid (HO1.out.none_.grown hG (.inr (fun e => by have e' : some go = some w.heap.size := e; simp at e'; omega)))
    have HR3 := Lib.hid (hr1.grown hG hlt)
    have HK3 := Lib.hid (k1.set ⟨w.heap.size, 2, none⟩ hbw (.slice (some ⟨go, 0, none⟩) 0 c0))
    have HJ3 := Lib.hid (J1.out.set ⟨w.heap.size, 2, none⟩ (.inr (Nat.le_refl _)) (.slice (some ⟨go, 0, none⟩) 0 c0))
    clear hb3 hG hr1
    go_wp2_with fail
    refine ret_box rfl rfl (three_set HB3.out) Tryz.underlying25 rfl Tryz.sizePln rfl ?_
    exact l3BadPost_of (y := ⟨x.bins, x.passes, []⟩) (Nat.le_trans hbw (Nat.le_succ _)) hb0 i1 i2 HO3.out (by simp) (fun e => by have e' : some go = some (w.heap.size + 1) := e; simp at e'; omega) HR3.out (by omega) HK3.out HJ3.out (Nat.le_succ _) (HPG.out _ _) rfl rfl rfl
  have t4 : (y == 4) = false := by simpa using y4
  clear y0 y1 y2 y3 y4
  go_wp2_with fail
  refine ret_box rfl rfl (three_set HB2.out) Tryz.underlying25 rfl Tryz.sizePln rfl ?_
  exact l3BadPost_of (y := x) (Nat.le_trans hbw (Nat.le_succ _)) hb0 i1 i2 HO1.out (by omega) (fun e => by have e' : some go = some (w.heap.size + 1) := e; simp at e'; omega) hr1 (by omega) k1 J1.out (Nat.le_succ _) (HPG.out _ _) rfl rfl rfl

end Go.Proofs.YtpinkbodbedajaaGreatDoor

namespace Go.Proofs.YtpinkbodbedajaaGreatDoor
open Go.RowKit


end Go.Proofs.YtpinkbodbedajaaGreatDoor

namespace Go.Proofs.YtpinkbodbedajaaGreatDoor
open Go.RowKit

end Go.Proofs.YtpinkbodbedajaaGreatDoor

namespace Go.Proofs.YtpinkbodbedajaaGreatDoor
open Go.RowKit

/-- Texts of one's own, just made. -/
theorem list_str (T base : Nat) (w : World) (xs : List ByteArray) (hx : ∀ x ∈ xs, x.size ≤ maxLen) (hm : xs.length ≤ maxLen) (hb : base ≤ w.heap.size) :
    own T base (w.alloc (Obj.cells (xs.map Value.string).toArray T)) (.slice (some ⟨w.heap.size, 0, none⟩) xs.length xs.length) xs := by
  have h1 : (xs.map fun x => [Value.string x]).flatten = xs.map Value.string := by
    clear hm hx
    induction xs with
    | nil => rfl
    | cons x xs ih => simp [ih]
  refine ⟨xs.map fun x => [Value.string x], ⟨?_, .inr ⟨w.heap.size, xs.length, _, rfl, hb, heap_alloc_new w _, Nat.le_refl _, hm, by simp [El.size], ?_⟩⟩, by simp, fun k hk hk' => ?_⟩
  · rw [h1]
    simp [El.size]
  · rw [h1]
    simp only [El.size, Nat.mul_one]
    exact List.take_of_length_le (by simp)
  · simp only [List.getElem_map]
    exact ⟨hx _ (List.getElem_mem hk), rfl⟩
end Go.Proofs.YtpinkbodbedajaaGreatDoor

namespace Go.Proofs.YtpinkbodbedajaaGreatDoor
open Go.RowKit

/-- Drawn rules: beginnings of codes, all of them different, and names out of a list. -/
def drawnR (ns : List ByteArray) (rs : List Fwd) : Prop := (∀ x ∈ rs, isPfx x.src = true ∧ x.dst ∈ ns) ∧ rs.Pairwise fun x y => x.src ≠ y.src
theorem drawnR.nil (ns : List ByteArray) : drawnR ns [] := ⟨fun _ h => by simp at h, List.Pairwise.nil⟩
theorem drawnR.snoc {ns : List ByteArray} {rs : List Fwd} {s t : ByteArray} (h : drawnR ns rs) (hs : isPfx s = true) (ht : t ∈ ns) (hn : fwdI rs s < 0) : drawnR ns (rs ++ [⟨s, t⟩]) := by
  refine ⟨fun x hx => ?_, List.pairwise_append.2 ⟨h.2, List.pairwise_singleton _ _, fun x hx y hy => ?_⟩⟩
  · rcases List.mem_append.1 hx with hx | hx
    · exact h.1 x hx
    · simp at hx; subst hx; exact ⟨hs, ht⟩
  · simp at hy; subst hy; exact sEq_false.1 (fiI_neg hn x hx)
theorem drawnR.ok {ns : List ByteArray} {rs : List Fwd} (h : drawnR ns rs) (hl : rs.length ≤ 20) (hns : ∀ x ∈ ns, isName x = true) : rulesOk rs = true :=
  rulesOk_iff.2 ⟨hl, fun k hk => ⟨(h.1 _ (List.getElem_mem hk)).1, hns _ (h.1 _ (List.getElem_mem hk)).2, fun j hj => List.pairwise_iff_getElem.1 h.2 j k (by omega) hk hj⟩⟩
def abcd : List ByteArray := [⟨#[97]⟩, ⟨#[98]⟩, ⟨#[99]⟩, ⟨#[100]⟩]
def netNs (n : Nat) : List ByteArray := ([hereW, hereW] : List ByteArray) ++ abcd.take n
theorem netNs_name (n : Nat) : ∀ x ∈ netNs n, isName x = true := fun x hx => by
  have h1 : x ∈ [hereW, hereW] ++ abcd := by
    rcases List.mem_append.1 hx with h | h
    · exact List.mem_append.2 (.inl h)
    · exact List.mem_append.2 (.inr (List.mem_of_mem_take h))
  have h2 : ∀ x ∈ [hereW, hereW] ++ abcd, isName x = true := by decide
  exact h2 x h1
/-- A drawn network: office j is called a, b, c, d, and its rules send to the offices or home. -/
def drawnN (n : Nat) (net : List Ofc) : Prop := ∀ j (h : j < net.length), net[j].name = abcd[j]?.getD ⟨#[]⟩ ∧ drawnR (netNs n) net[j].rules ∧ net[j].rules.length ≤ 6
theorem drawnN.nil (n : Nat) : drawnN n [] := fun j h => absurd h (Nat.not_lt_zero j)
theorem drawnN.snoc {n : Nat} {net : List Ofc} {nm : ByteArray} {rs : List Fwd} (h : drawnN n net) (hnm : nm = abcd[net.length]?.getD ⟨#[]⟩) (hr : drawnR (netNs n) rs) (hl : rs.length ≤ 6) : drawnN n (net ++ [⟨nm, rs⟩]) := fun j hj => by
  by_cases hj2 : j < net.length
  · rw [List.getElem_append_left hj2]; exact h j hj2
  · rw [List.getElem_append_right (by omega)]
    have e : j - net.length = 0 := by simp at hj; omega
    have e2 : j = net.length := by simp at hj; omega
    simp only [e, List.getElem_cons_zero]
    rw [e2]
    exact ⟨hnm, hr, hl⟩
theorem abcd_good {j : Nat} (h : j < 4) : isName (abcd[j]?.getD ⟨#[]⟩) = true ∧ abcd[j]?.getD ⟨#[]⟩ ≠ hereW ∧ ∀ i, i < j → abcd[i]?.getD ⟨#[]⟩ ≠ abcd[j]?.getD ⟨#[]⟩ := by
  have : ∀ j, j < 4 → isName (abcd[j]?.getD ⟨#[]⟩) = true ∧ abcd[j]?.getD ⟨#[]⟩ ≠ hereW ∧ ∀ i, i < j → abcd[i]?.getD ⟨#[]⟩ ≠ abcd[j]?.getD ⟨#[]⟩ := by decide
  exact this j h
theorem abcd_mem {n : Nat} {x : ByteArray} (hn : n ≤ 4) (h : x ∈ abcd.take n) : ∃ j, j < n ∧ abcd[j]?.getD ⟨#[]⟩ = x := by
  obtain ⟨j, hj, rfl⟩ := List.mem_take_iff_getElem.1 h
  exact ⟨j, by omega, by rw [List.getElem?_eq_getElem (by omega)]; rfl⟩
theorem drawnN.ok {net : List Ofc} (h : drawnN net.length net) (h1 : 1 ≤ net.length) (h4 : net.length ≤ 4) : netOk net = true := by
  refine netOk_iff.2 ⟨⟨h1, by omega⟩, fun k hk => ?_⟩
  obtain ⟨a, b, c⟩ := h k hk
  obtain ⟨g1, g2, g3⟩ := abcd_good (j := k) (by omega)
  refine ⟨by rw [a]; exact g1, by rw [a]; exact g2, fun j hj => by rw [(h j (by omega)).1, a]; exact g3 j hj, b.ok (by omega) (netNs_name _), fun r hr => ?_⟩
  rcases List.mem_append.1 (b.1 r hr).2 with h | hm
  · left; simp at h; exact h
  · right
    obtain ⟨i, hi, e⟩ := abcd_mem h4 hm
    have hx : ¬ offI net r.dst < 0 := fun hneg => by
      have := sEq_false.1 (fiI_neg hneg net[i] (List.getElem_mem hi))
      exact this ((h i hi).1.trans e)
    omega

end Go.Proofs.YtpinkbodbedajaaGreatDoor

namespace Go.Proofs.YtpinkbodbedajaaGreatDoor
open Go.RowKit

/-- Behind the drawing of a rule: it lies in a block B of its own. -/
structure midR (T g q : Nat) (w0 : World) (s t : ByteArray) (B : Nat) (W : World) : Prop where
  hB : w0.heap.size ≤ B
  hrow : W.heap[B]? = some (.cells #[.string s, .string t] T (0, 0))
  hr : rdr W g q
  hk : kept2 g w0.heap.size w0 W
end Go.Proofs.YtpinkbodbedajaaGreatDoor

namespace Go.Proofs.YtpinkbodbedajaaGreatDoor
open Go.RowKit

section
variable {T1 T2 base G n c : Nat} {w w1 : World} {net : List Ofc} {os : List OfV}
/-- An office more. -/
theorem isN.snoc {v u : Value} {g m cap : Nat} {nm : ByteArray} {ys : List Fwd} (h : isN T1 T2 base w v net os) (ho : own T2 base w u ys) (hf : apart u v) (hfs : ∀ k (hk : k < os.length), apart u os[k].val)
    (hn : own T1 base w1 (.slice (some ⟨g, 0, none⟩) m cap) (os ++ [⟨nm, u⟩])) (hg : w.grownBy w1 v.ownBlock) (ha : some g = v.ownBlock ∨ g = w.heap.size) :
    isN T1 T2 base w1 (.slice (some ⟨g, 0, none⟩) m cap) (net ++ [⟨nm, ys⟩]) (os ++ [⟨nm, u⟩]) := by
  obtain ⟨h1, h2, h3, h4, h5⟩ := h
  have hfu : ∀ k (hk : k < (os ++ [(⟨nm, u⟩ : OfV)]).length), apart (os ++ [(⟨nm, u⟩ : OfV)])[k].val v := fun k hk => by
    by_cases hkv : k < os.length
    · rw [List.getElem_append_left hkv]; exact h5 k hkv
    · rw [List.getElem_append_right (by omega)]
      have : k - os.length = 0 := by simp at hk; omega
      simp only [this, List.getElem_cons_zero]; exact hf
  have hlt : ∀ k (hk : k < (os ++ [(⟨nm, u⟩ : OfV)]).length) j, (os ++ [(⟨nm, u⟩ : OfV)])[k].val.ownBlock = some j → j < w.heap.size := fun k hk j => by
    by_cases hkv : k < os.length
    · rw [List.getElem_append_left hkv]; exact fun e => ((h3 k hkv (by omega)).2.blk j e).2
    · rw [List.getElem_append_right (by omega)]
      have : k - os.length = 0 := by simp at hk; omega
      simp only [this, List.getElem_cons_zero]; exact fun e => (ho.blk j e).2
  refine ⟨hn, by simp [h2], fun k hk hk' => ?_, fun j k hj hk hne => ?_, fun k hk => ?_⟩
  · by_cases hkv : k < os.length
    · rw [List.getElem_append_left hkv, List.getElem_append_left (by omega)]
      exact ⟨(h3 k hkv (by omega)).1, (h3 k hkv (by omega)).2.grown hg (h5 k hkv)⟩
    · have e1 : k - os.length = 0 := by simp at hk; omega
      have e2 : k - net.length = 0 := by omega
      rw [List.getElem_append_right (by omega), List.getElem_append_right (by omega)]
      simp only [e1, e2, List.getElem_cons_zero]
      exact ⟨trivial, ho.grown hg hf⟩
  · by_cases hjv : j < os.length
    · by_cases hkv : k < os.length
      · rw [List.getElem_append_left hjv, List.getElem_append_left hkv]; exact h4 j k hjv hkv hne
      · have e1 : k - os.length = 0 := by simp at hk; omega
        rw [List.getElem_append_left hjv, List.getElem_append_right (by omega)]
        simp only [e1, List.getElem_cons_zero]; exact apart_symm (hfs j hjv)
    · have e1 : j - os.length = 0 := by simp at hj; omega
      by_cases hkv : k < os.length
      · rw [List.getElem_append_right (by omega), List.getElem_append_left hkv]
        simp only [e1, List.getElem_cons_zero]; exact hfs k hkv
      · exfalso; simp at hj hk; omega
  · exact apart_symm (apart_app (apart_symm (hfu k hk)) ha fun j hj => hlt k hk j hj)
end

end Go.Proofs.YtpinkbodbedajaaGreatDoor

namespace Go.Proofs.YtpinkbodbedajaaGreatDoor
open Go.RowKit







end Go.Proofs.YtpinkbodbedajaaGreatDoor

namespace Go.Proofs.YtpinkbodbedajaaGreatDoor
open Go.RowKit

theorem kept2.mono {g b b' : Nat} {u w : World} (h : kept2 g b' u w) (hb : b ≤ b') : kept2 g b u w := ⟨h.os, h.tape, h.output, h.size, fun k hk hne => h.block k (by omega) hne⟩
theorem isN.keepBlk {T1 T2 base : Nat} {w w' : World} {v : Value} {net : List Ofc} {os : List OfV} (h : isN T1 T2 base w v net os) (hk : ∀ k, base ≤ k → k < w.heap.size → w'.heap[k]? = w.heap[k]?) : isN T1 T2 base w' v net os :=
  ⟨h.1.keepBlk fun k e => hk k (h.1.blk k e).1 (h.1.blk k e).2, h.2.1, fun k a b => ⟨(h.2.2.1 k a b).1, (h.2.2.1 k a b).2.keepBlk fun j e => hk j ((h.2.2.1 k a b).2.blk j e).1 ((h.2.2.1 k a b).2.blk j e).2⟩, h.2.2.2.1, h.2.2.2.2⟩
theorem isN.none_ {T1 T2 base : Nat} {w : World} {v : Value} (h : own (α := OfV) T1 base w v []) : isN T1 T2 base w v [] [] :=
  ⟨h, rfl, fun k h => absurd h (Nat.not_lt_zero k), fun j _ h => absurd h (Nat.not_lt_zero j), fun k h => absurd h (Nat.not_lt_zero k)⟩

end Go.Proofs.YtpinkbodbedajaaGreatDoor

namespace Go.Proofs.YtpinkbodbedajaaGreatDoor
open Go.RowKit

/-! ### Who comes home -/
end Go.Proofs.YtpinkbodbedajaaGreatDoor

namespace Go.Proofs.YtpinkbodbedajaaGreatDoor
open Go.RowKit


/-! ### Paths -/



end Go.Proofs.YtpinkbodbedajaaGreatDoor

namespace Go.Proofs.YtpinkbodbedajaaGreatDoor
open Go.RowKit

def osStep (n : Int) (x : Ltr) : Int := (31 * n + x.id) % 9973
def sStep (n : Int) (x : Ltr) : Int := (n + x.id * x.id) % 9973
def osL (xs : List Ltr) : Int := xs.foldl osStep 0
def sL (xs : List Ltr) : Int := xs.foldl sStep 0
theorem fold_take {α β : Type} (f : β → α → β) (b : β) (xs : List α) (k : Nat) (h : k < xs.length) : (xs.take (k + 1)).foldl f b = f ((xs.take k).foldl f b) xs[k] := by
  rw [List.take_succ_eq_append_getElem h, List.foldl_append]; rfl
theorem okB_at {xs : List Ltr} (h : okB xs = true) (k : Nat) (hk : k < xs.length) : 1 ≤ xs[k].id ∧ xs[k].id ≤ 9999 := by
  have := (okB_iff.1 h).2 k hk
  exact ⟨this.1, this.2.1⟩
theorem sq_bound {a : Int} (h1 : 1 ≤ a) (h2 : a ≤ 9999) : 0 ≤ a * a ∧ a * a ≤ 99980001 :=
  ⟨Int.mul_nonneg (by omega) (by omega), by have := Int.mul_le_mul h2 h2 (by omega) (by omega); omega⟩

def orOf (b : Bool) (n : Int) : Int := if b then n else -1

set_option maxHeartbeats 400000 in
theorem impl_OrderSeal (v : Value) (xs : List Ltr) (w : World) (hv : rd w w.heap.size v xs) :
    Calls Tryz.prog 41 #[v] w fun e w' => e = .returned (.int .i64 (orOf (okB xs) (osL xs))) ∧ Below w.heap.size w w' := by
  have hv0 := hv
  obtain ⟨A, n, c, rfl, hn, hc, hm, hr⟩ := hv
  subst hn
  unfold maxLen at hm
  have HR := Lib.hid hr; clear hr
  go_enter Tryz.func41, Tryz.ntmps41
  go_wp2_with fail
  refine (impl_BatchValid _ _ _ hv0).mono ?_
  rintro e w0 ⟨rfl, hb0⟩
  clear hv0
  cases hok : okB xs
  · have HOK := Lib.hid hok; clear hok
    go_wp2
    go_ret
    exact ⟨ret_int (by rw [HOK.out]; rfl), hb0⟩
  · have HOK := Lib.hid hok; clear hok
    go_wp2
    go_loopw [3, 11] (fun t i wr => ∃ (k : Nat) (m : Int), k ≤ xs.length ∧ i = .int .i64 k ∧ t = .int .i64 m ∧ 0 ≤ m ∧ m < 9973 ∧ Hid (m = (xs.take k).foldl osStep 0) ∧ Below w.heap.size w wr) (fun _ i _ => xs.length - (intOf i).toNat)
    case atStart => exact ⟨0, 0, Nat.zero_le _, rfl, rfl, by omega, by omega, rfl, hb0⟩
    case round =>
      obtain ⟨k, m, hk, rfl, rfl, m0, m1, HM, hbl⟩ := hrel
      obtain ⟨w1, rfl⟩ : ∃ w1 : World, w1 = wr := ⟨_, rfl⟩
      have hbz := hbl.size
      clear hb0
      by_cases hlt : k < xs.length
      · obtain ⟨b, o, rfl, hb, _, c1, c2⟩ := HR.out.ltr k hlt
        obtain ⟨i1, i2⟩ := okB_at HOK.out k hlt
        have HS := Lib.hid (fold_take osStep 0 xs k hlt)
        generalize xs[k] = x at *
        have c1' : w1.cell? ⟨b, o + k * 2, none⟩ = some (.int .i64 x.id) := (hbl.cell (p := ⟨b, o + k * 2, none⟩) hb).trans c1
        have c2' : w1.cell? ⟨b, o + k * 2 + 1, none⟩ = some (.string x.code) := (hbl.cell (p := ⟨b, o + k * 2 + 1, none⟩) hb).trans c2
        clear c1 c2
        go_wp2
        go_roundw
        case rel => exact ⟨k + 1, (31 * m + x.id) % 9973, by omega, by go_num, rfl, by omega, by omega, by show _ = _; rw [HS.out, ← HM.out]; rfl, hbl.alloc hbz _⟩
        case measure => simp [intOf]; omega
      · have HE := Lib.hid (show k = xs.length by omega)
        go_wp2
        go_ret
        exact ⟨ret_int (by rw [HM.out, HE.out, List.take_length, HOK.out]; rfl), hbl⟩

set_option maxHeartbeats 400000 in
theorem impl_SealOf (v : Value) (xs : List Ltr) (w : World) (hv : rd w w.heap.size v xs) :
    Calls Tryz.prog 40 #[v] w fun e w' => e = .returned (.int .i64 (orOf (okB xs) (sL xs))) ∧ Below w.heap.size w w' := by
  have hv0 := hv
  obtain ⟨A, n, c, rfl, hn, hc, hm, hr⟩ := hv
  subst hn
  unfold maxLen at hm
  have HR := Lib.hid hr; clear hr
  go_enter Tryz.func40, Tryz.ntmps40
  go_wp2_with fail
  refine (impl_BatchValid _ _ _ hv0).mono ?_
  rintro e w0 ⟨rfl, hb0⟩
  clear hv0
  cases hok : okB xs
  · have HOK := Lib.hid hok; clear hok
    go_wp2
    go_ret
    exact ⟨ret_int (by rw [HOK.out]; rfl), hb0⟩
  · have HOK := Lib.hid hok; clear hok
    go_wp2
    go_loopw [3, 11] (fun t i wr => ∃ (k : Nat) (m : Int), k ≤ xs.length ∧ i = .int .i64 k ∧ t = .int .i64 m ∧ 0 ≤ m ∧ m < 9973 ∧ Hid (m = (xs.take k).foldl sStep 0) ∧ Below w.heap.size w wr) (fun _ i _ => xs.length - (intOf i).toNat)
    case atStart => exact ⟨0, 0, Nat.zero_le _, rfl, rfl, by omega, by omega, rfl, hb0⟩
    case round =>
      obtain ⟨k, m, hk, rfl, rfl, m0, m1, HM, hbl⟩ := hrel
      obtain ⟨w1, rfl⟩ : ∃ w1 : World, w1 = wr := ⟨_, rfl⟩
      have hbz := hbl.size
      clear hb0
      by_cases hlt : k < xs.length
      · obtain ⟨b, o, rfl, hb, _, c1, c2⟩ := HR.out.ltr k hlt
        obtain ⟨i1, i2⟩ := okB_at HOK.out k hlt
        obtain ⟨q1, q2⟩ := sq_bound i1 i2
        have HS := Lib.hid (fold_take sStep 0 xs k hlt)
        generalize xs[k] = x at *
        have c1' : w1.cell? ⟨b, o + k * 2, none⟩ = some (.int .i64 x.id) := (hbl.cell (p := ⟨b, o + k * 2, none⟩) hb).trans c1
        have c2' : w1.cell? ⟨b, o + k * 2 + 1, none⟩ = some (.string x.code) := (hbl.cell (p := ⟨b, o + k * 2 + 1, none⟩) hb).trans c2
        clear c1 c2
        go_wp2
        go_roundw
        case rel => exact ⟨k + 1, (m + x.id * x.id) % 9973, by omega, by go_num, rfl, by omega, by omega, by show _ = _; rw [HS.out, ← HM.out]; rfl, hbl.alloc hbz _⟩
        case measure => simp [intOf]; omega
      · have HE := Lib.hid (show k = xs.length by omega)
        go_wp2
        go_ret
        exact ⟨ret_int (by rw [HM.out, HE.out, List.take_length, HOK.out]; rfl), hbl⟩


end Go.Proofs.YtpinkbodbedajaaGreatDoor

namespace Go.Proofs.YtpinkbodbedajaaGreatDoor
open Go.RowKit

/-- Every element whose index is a multiple of k + 1, behind n that are passed over. -/
def every (k : Nat) : List Ltr → Nat → List Ltr
  | [], _ => []
  | x :: xs, 0 => x :: every k xs k
  | _ :: xs, n + 1 => every k xs n
end Go.Proofs.YtpinkbodbedajaaGreatDoor

namespace Go.Proofs.YtpinkbodbedajaaGreatDoor
open Go.RowKit

theorem own_setLtr {T base g n c : Nat} {w : World} {xs : List Ltr} (h : own T base w (.slice (some ⟨g, 0, none⟩) n c) xs) {k : Nat} (hk : k < xs.length) (y : Ltr) (hy : y.ok) :
    own T base ((w.setCell ⟨g, k * 2, none⟩ (.int .i64 y.id)).setCell ⟨g, k * 2 + 1, none⟩ (.string y.code)) (.slice (some ⟨g, 0, none⟩) n c) (xs.set k y) := by
  have h1 := h.setCell (k := k) (j := 0) hk (by decide) (.int .i64 y.id) ⟨y.id, xs[k].code⟩ (fun ecs he => by
    obtain ⟨⟨_, q⟩, rfl⟩ := he
    exact ⟨⟨hy.1, q⟩, rfl⟩)
  have h2 := h1.setCell (k := k) (j := 1) (by simpa using hk) (by decide) (.string y.code) y (fun ecs he => by
    obtain ⟨_, rfl⟩ := he
    refine ⟨hy, ?_⟩
    simp [Ltr.cells])
  rw [List.set_set] at h2
  exact h2

end Go.Proofs.YtpinkbodbedajaaGreatDoor

namespace Go.Proofs.YtpinkbodbedajaaGreatDoor
open Go.RowKit

/-- An ordered choice of ranks: none is below zero, and they ascend. -/
def ordered (s : List Int) : Prop := (∀ x ∈ s, 0 ≤ x) ∧ s.Pairwise (· ≤ ·)
theorem ordered.sub {s t : List Int} (h : ordered t) (hs : s.Sublist t) : ordered s := ⟨fun x hx => h.1 x (hs.subset hx), h.2.sublist hs⟩
theorem ordered.nil : ordered [] := ⟨fun x hx => by simp at hx, List.Pairwise.nil⟩
theorem ordered.snoc {s : List Int} {r : Int} (h : ordered s) (h0 : 0 ≤ r) (hr : ∀ x ∈ s, x ≤ r) : ordered (s ++ [r]) := by
  refine ⟨fun x hx => ?_, ?_⟩
  · rcases List.mem_append.1 hx with hx | hx
    · exact h.1 x hx
    · rw [List.mem_singleton.1 hx]; exact h0
  · rw [List.pairwise_append]
    exact ⟨h.2, List.pairwise_singleton _ _, fun a ha b hb => by rw [List.mem_singleton.1 hb]; exact hr a ha⟩
theorem sub_snoc {α : Type} {s l : List α} {a : α} (h : s.Sublist (l ++ [a])) : s.Sublist l ∨ ∃ t, s = t ++ [a] ∧ t.Sublist l := by
  obtain ⟨s1, s2, rfl, h1, h2⟩ := List.sublist_append_iff.1 h
  cases s2 with
  | nil => left; simpa using h1
  | cons b u =>
    right
    have hl : u.length + 1 ≤ 1 := h2.length_le
    have hu : u = [] := List.length_eq_zero_iff.1 (by omega)
    subst hu
    have : b = a := by have := h2.subset (List.mem_singleton.2 rfl); simpa using this
    subst this
    exact ⟨s1, rfl, h1⟩
theorem kept_le (rs : List Int) : (∀ (n : Nat) (s : List Int), s.Sublist rs → ordered s → (∀ x ∈ s, x ≤ (n : Int)) → s.length ≤ topLe (runK rs) n) ∧ (∀ s : List Int, s.Sublist rs → ordered s → s.length ≤ bestK (runK rs)) := by
  induction rs using snoc_ind with
  | h0 =>
    refine ⟨fun n s hs _ _ => ?_, fun s hs _ => ?_⟩
    · rw [List.sublist_nil.1 hs]; exact Nat.zero_le _
    · rw [List.sublist_nil.1 hs]; exact Nat.zero_le _
  | h1 rs r ih =>
    obtain ⟨ih1, ih2⟩ := ih
    rw [runK_snoc]
    unfold stepK
    have key : ∀ t : List Int, t.Sublist rs → ordered (t ++ [r]) → 0 ≤ r ∧ t.length ≤ topLe (runK rs) r.toNat := fun t ht ho => by
      have h0 : 0 ≤ r := ho.1 r (by simp)
      refine ⟨h0, ih1 _ t ht (ho.sub (List.sublist_append_left _ _)) fun x hx => ?_⟩
      have := (List.pairwise_append.1 ho.2).2.2 x hx r (by simp)
      omega
    constructor
    · intro n s hs ho hx
      rcases sub_snoc hs with hs | ⟨t, rfl, ht⟩
      · have := ih1 n s hs ho hx
        split
        · exact this
        · rw [topLe_snoc]; split <;> omega
      · obtain ⟨h0, hl⟩ := key t ht ho
        have hrn := hx r (by simp)
        rw [if_neg (by omega), topLe_snoc, if_pos (by show r.toNat ≤ n; omega)]
        simp only [List.length_append, List.length_cons, List.length_nil]
        omega
    · intro s hs ho
      rcases sub_snoc hs with hs | ⟨t, rfl, ht⟩
      · have := ih2 s hs ho
        split
        · exact this
        · rw [bestK_snoc]; omega
      · obtain ⟨h0, hl⟩ := key t ht ho
        rw [if_neg (by omega), bestK_snoc]
        simp only [List.length_append, List.length_cons, List.length_nil]
        omega
theorem kept_some (rs : List Int) : (∀ n : Nat, ∃ s : List Int, s.Sublist rs ∧ ordered s ∧ (∀ x ∈ s, x ≤ (n : Int)) ∧ s.length = topLe (runK rs) n) ∧ (∃ s : List Int, s.Sublist rs ∧ ordered s ∧ s.length = bestK (runK rs)) := by
  induction rs using snoc_ind with
  | h0 => exact ⟨fun n => ⟨[], List.Sublist.refl _, ordered.nil, fun x hx => by simp at hx, rfl⟩, [], List.Sublist.refl _, ordered.nil, rfl⟩
  | h1 rs r ih =>
    obtain ⟨ih1, ih2⟩ := ih
    rw [runK_snoc]
    unfold stepK
    by_cases h0 : r < 0
    · rw [if_pos h0]
      refine ⟨fun n => ?_, ?_⟩
      · obtain ⟨s, hs, h⟩ := ih1 n
        exact ⟨s, hs.trans (List.sublist_append_left _ _), h⟩
      · obtain ⟨s, hs, h⟩ := ih2
        exact ⟨s, hs.trans (List.sublist_append_left _ _), h⟩
    · rw [if_neg h0]
      obtain ⟨t, ht, hto, htx, htl⟩ := ih1 r.toNat
      have hto' : ordered (t ++ [r]) := hto.snoc (by omega) fun x hx => by have := htx x hx; omega
      have hts : (t ++ [r]).Sublist (rs ++ [r]) := ht.append (List.Sublist.refl _)
      refine ⟨fun n => ?_, ?_⟩
      · rw [topLe_snoc]
        obtain ⟨s, hs, hso, hsx, hsl⟩ := ih1 n
        by_cases hn : r.toNat ≤ n
        · rw [if_pos hn]
          by_cases hc : topLe (runK rs) r.toNat + 1 ≤ topLe (runK rs) n
          · exact ⟨s, hs.trans (List.sublist_append_left _ _), hso, hsx, by show _ = max _ (topLe (runK rs) r.toNat + 1); omega⟩
          · refine ⟨t ++ [r], hts, hto', fun x hx => ?_, ?_⟩
            · rcases List.mem_append.1 hx with hx | hx
              · have := htx x hx; omega
              · rw [List.mem_singleton.1 hx]; omega
            · show _ = max _ (topLe (runK rs) r.toNat + 1)
              simp only [List.length_append, List.length_cons, List.length_nil]
              omega
        · rw [if_neg hn]
          exact ⟨s, hs.trans (List.sublist_append_left _ _), hso, hsx, hsl⟩
      · rw [bestK_snoc]
        obtain ⟨s, hs, hso, hsl⟩ := ih2
        by_cases hc : topLe (runK rs) r.toNat + 1 ≤ bestK (runK rs)
        · exact ⟨s, hs.trans (List.sublist_append_left _ _), hso, by show _ = max _ (topLe (runK rs) r.toNat + 1); omega⟩
        · refine ⟨t ++ [r], hts, hto', ?_⟩
          show _ = max _ (topLe (runK rs) r.toNat + 1)
          simp only [List.length_append, List.length_cons, List.length_nil]
          omega
/-- How many can stay, by ranks alone. -/
def lisK (rs : List Int) : Nat := bestK (runK rs)
theorem lisK_ge {rs s : List Int} (hs : s.Sublist rs) (ho : ordered s) : s.length ≤ lisK rs := (kept_le rs).2 s hs ho
theorem lisK_some (rs : List Int) : ∃ s : List Int, s.Sublist rs ∧ ordered s ∧ s.length = lisK rs := (kept_some rs).2
theorem lisK_le (rs : List Int) : lisK rs ≤ rs.length := by
  obtain ⟨s, hs, _, hl⟩ := lisK_some rs
  have := hs.length_le
  omega
theorem lisK_full {rs : List Int} : lisK rs = rs.length ↔ ordered rs := by
  constructor
  · intro h
    obtain ⟨s, hs, ho, hl⟩ := lisK_some rs
    rw [← hs.eq_of_length (hl.trans h)]
    exact ho
  · intro h
    have := lisK_ge (List.Sublist.refl rs) h
    have := lisK_le rs
    omega
/-! ### Passes sort -/
theorem powI_succ (b : Int) (n : Nat) : powI b (n + 1) = powI b n * b := rfl
theorem powI_pos {b : Int} (h : 2 ≤ b) : ∀ n, 1 ≤ powI b n
  | 0 => Int.le_refl _
  | n + 1 => by
    have := powI_pos h n
    rw [powI_succ]
    have : 1 * 2 ≤ powI b n * b := Int.mul_le_mul this h (by omega) (by omega)
    omega
/-- The last k digits of the rank. -/
def lowP (p : Pln) (k : Nat) (x : Ltr) : Int := rkI p.order x.code % powI p.bins k
theorem low_succ {p : Pln} (hb : 2 ≤ p.bins) (k : Nat) (x : Ltr) (h : 0 ≤ rkI p.order x.code) : lowP p (k + 1) x = lowP p k x + powI p.bins k * binI p x.code k := by
  unfold lowP binI
  rw [if_neg (by omega), powI_succ]
  have hp := powI_pos hb k
  have h1 := Int.emod_add_mul_ediv (rkI p.order x.code) (powI p.bins k)
  have h2 := Int.emod_add_mul_ediv (rkI p.order x.code / powI p.bins k) p.bins
  have h3 := Int.emod_add_mul_ediv (rkI p.order x.code) (powI p.bins k * p.bins)
  rw [← Int.ediv_ediv_of_nonneg (by omega)] at h3
  generalize rkI p.order x.code = r at *
  generalize powI p.bins k = B at *
  have e : B * (r / B % p.bins + p.bins * (r / B / p.bins)) = B * (r / B) := by rw [h2]
  rw [Int.mul_add, ← Int.mul_assoc] at e
  omega
theorem low_range {p : Pln} (hb : 2 ≤ p.bins) (k : Nat) (x : Ltr) : 0 ≤ lowP p k x ∧ lowP p k x < powI p.bins k := by
  have hp := powI_pos hb k
  exact ⟨Int.emod_nonneg _ (by omega), Int.emod_lt_of_pos _ (by omega)⟩
/-- Letters in bins, one bin behind the other: ascending by the bin, within a bin as they were. -/
theorem flat_pairwise {f : Ltr → Int} {n : Nat} {xs : List Ltr} {R : Ltr → Ltr → Prop} (h1 : xs.Pairwise fun x y => 0 ≤ f x → f x = f y → R x y) (h2 : ∀ x ∈ xs, ∀ y ∈ xs, 0 ≤ f x → f x < f y → R x y) : (binsOf f n xs).flatten.Pairwise R := by
  rw [List.pairwise_flatten]
  constructor
  · intro ys hys
    obtain ⟨k, hk, rfl⟩ := List.getElem_of_mem hys
    rw [binsOf_get]
    refine (h1.filter _).imp_of_mem fun hx hy h => ?_
    have e1 := (List.mem_filter.1 hx).2
    have e2 := (List.mem_filter.1 hy).2
    simp only [beq_iff_eq] at e1 e2
    exact h (by omega) (by omega)
  · rw [List.pairwise_iff_getElem]
    intro i j hi hj hij x hx y hy
    rw [binsOf_get] at hx hy
    obtain ⟨x1, e1⟩ := List.mem_filter.1 hx
    obtain ⟨y1, e2⟩ := List.mem_filter.1 hy
    simp only [beq_iff_eq] at e1 e2
    exact h2 x x1 y y1 (by omega) (by omega)
theorem pass_low {p : Pln} (hb : 2 ≤ p.bins) (k : Nat) {xs : List Ltr} (h : xs.Pairwise fun x y => lowP p k x ≤ lowP p k y) : (pass1 p k xs).Pairwise fun x y => lowP p (k + 1) x ≤ lowP p (k + 1) y := by
  have hr : ∀ x : Ltr, 0 ≤ binI p x.code k → 0 ≤ rkI p.order x.code := fun x hx => by
    have := binI_rank (p := p) (c := x.code) (k := k) hb
    omega
  refine flat_pairwise (h.imp fun {x y} h h0 he => ?_) fun x _ y _ h0 hlt => ?_
  · rw [low_succ hb k x (hr x h0), low_succ hb k y (hr y (by omega)), he]
    omega
  · rw [low_succ hb k x (hr x h0), low_succ hb k y (hr y (by omega))]
    have h1 := low_range hb k x
    have h2 := low_range hb k y
    have h3 : powI p.bins k * (binI p x.code k + 1) ≤ powI p.bins k * binI p y.code k := Int.mul_le_mul_of_nonneg_left (by omega) (by omega)
    rw [Int.mul_add] at h3
    omega
theorem passes_low {p : Pln} (hb : 2 ≤ p.bins) : ∀ (n k : Nat) (xs : List Ltr), (xs.Pairwise fun x y => lowP p k x ≤ lowP p k y) → (passesN p k n xs).Pairwise fun x y => lowP p (k + n) x ≤ lowP p (k + n) y
  | 0, k, xs, h => h
  | n + 1, k, xs, h => by
    have := passes_low hb n (k + 1) _ (pass_low hb k h)
    rwa [show k + 1 + n = k + (n + 1) by omega] at this
theorem low_zero (p : Pln) (x : Ltr) : lowP p 0 x = 0 := by unfold lowP powI; omega
theorem low_any (p : Pln) (xs : List Ltr) : xs.Pairwise fun x y => lowP p 0 x ≤ lowP p 0 y := by
  induction xs with
  | nil => exact List.Pairwise.nil
  | cons x xs ih => exact List.Pairwise.cons (fun y _ => by rw [low_zero, low_zero]; omega) ih
theorem planOk_cap {p : Pln} (h : planOk p = true) : (p.order.length : Int) ≤ powI p.bins p.passes.toNat ∧ 1 ≤ p.order.length := by
  unfold planOk at h
  simp only [Bool.and_eq_true, decide_eq_true_iff] at h
  exact ⟨h.1.2, h.1.1.2.1⟩
theorem low_full {p : Pln} (h : planOk p = true) (x : Ltr) (hx : 0 ≤ rkI p.order x.code) : lowP p p.passes.toNat x = rkI p.order x.code := by
  have h1 := planOk_cap h
  have h2 := rkI_range p.order x.code
  unfold lowP
  exact Int.emod_eq_of_lt hx (by omega)
theorem pass1_mem {p : Pln} (hb : 2 ≤ p.bins) {k : Nat} {xs : List Ltr} {x : Ltr} : x ∈ pass1 p k xs ↔ x ∈ xs ∧ 0 ≤ rkI p.order x.code := by
  unfold pass1
  rw [binsOf_mem]
  have h1 := binI_rank (p := p) (c := x.code) (k := k) hb
  have h2 := binI_range p x.code k hb
  constructor
  · rintro ⟨a, b, c⟩; exact ⟨a, by omega⟩
  · rintro ⟨a, b⟩; exact ⟨a, by omega, by omega⟩
theorem passesN_mem {p : Pln} (hb : 2 ≤ p.bins) : ∀ (n k : Nat) (xs : List Ltr) (x : Ltr), x ∈ passesN p k (n + 1) xs ↔ x ∈ xs ∧ 0 ≤ rkI p.order x.code
  | 0, k, xs, x => pass1_mem hb
  | n + 1, k, xs, x => by
    show x ∈ passesN p (k + 1) (n + 1) (pass1 p k xs) ↔ _
    rw [passesN_mem hb n, pass1_mem hb]
    exact ⟨fun h => h.1, fun h => ⟨h, h.2⟩⟩
/-- Letters are in the order of the round: each has a rank, and the ranks ascend. -/
def inOrd (p : Pln) (xs : List Ltr) : Prop := ordered (ranksOf p xs)
theorem inOrd_iff {p : Pln} {xs : List Ltr} : inOrd p xs ↔ (∀ x ∈ xs, 0 ≤ rkI p.order x.code) ∧ xs.Pairwise fun x y => rkI p.order x.code ≤ rkI p.order y.code := by
  unfold inOrd ordered ranksOf
  rw [List.pairwise_map]
  refine and_congr ⟨fun h x hx => h _ (List.mem_map.2 ⟨x, hx, rfl⟩), fun h y hy => ?_⟩ Iff.rfl
  obtain ⟨x, hx, rfl⟩ := List.mem_map.1 hy
  exact h x hx
theorem inOrd_of_low {p : Pln} (h : planOk p = true) {xs : List Ltr} (h1 : ∀ x ∈ xs, 0 ≤ rkI p.order x.code) (h2 : xs.Pairwise fun x y => lowP p p.passes.toNat x ≤ lowP p p.passes.toNat y) : inOrd p xs := by
  refine inOrd_iff.2 ⟨h1, h2.imp_of_mem fun {x y} hx hy h3 => ?_⟩
  rwa [low_full h x (h1 x hx), low_full h y (h1 y hy)] at h3
/-- Passes from the k-th to the last sort letters that ascend by their last k digits. -/
theorem passes_sort {p : Pln} (h : planOk p = true) {k n : Nat} (hk : k + (n + 1) = p.passes.toNat) {xs : List Ltr} (hx : xs.Pairwise fun x y => lowP p k x ≤ lowP p k y) : inOrd p (passesN p k (n + 1) xs) := by
  have hb := (planOk_bins h).1
  refine inOrd_of_low h (fun x hx => ((passesN_mem hb n k xs x).1 hx).2) ?_
  have := passes_low hb (n + 1) k xs hx
  rwa [hk] at this
theorem passes_all {p : Pln} (h : planOk p = true) (xs : List Ltr) : inOrd p (passesN p 0 p.passes.toNat xs) := by
  have h1 := planOk_bins h
  obtain ⟨n, hn⟩ : ∃ n, p.passes.toNat = n + 1 := ⟨p.passes.toNat - 1, by omega⟩
  rw [hn]
  exact passes_sort h (by omega) (low_any p xs)
/-- How many letters can stay. -/
theorem keptN_lis (p : Pln) (xs : List Ltr) : keptN p xs = lisK (ranksOf p xs) := rfl
theorem ranksOf_len (p : Pln) (xs : List Ltr) : (ranksOf p xs).length = xs.length := by simp [ranksOf]
theorem keptN_full {p : Pln} {xs : List Ltr} : keptN p xs = xs.length ↔ inOrd p xs := by
  rw [keptN_lis, ← ranksOf_len p xs]; exact lisK_full
/-! ### The same letters -/
/-! ### Passes in two parts -/
/-! ### Repaired bins: laws -/
/-! ### Faulty passes: laws -/
theorem rp_mem {p : Pln} {xs : List Ltr} (h : rpOk p xs = true) (x : Ltr) : x ∈ rpRound p xs ↔ x ∈ xs ∧ 0 ≤ rkI p.order x.code := by
  have hp : planOk p = true := by unfold rpOk at h; simp only [Bool.and_eq_true] at h; exact h.1
  have hb := planOk_bins hp
  unfold rpRound
  rw [if_pos h]
  obtain ⟨n, hn⟩ : ∃ n, p.passes.toNat = n + 1 := ⟨p.passes.toNat - 1, by omega⟩
  rw [hn]
  exact passesN_mem hb.1 n 0 xs x
theorem okB_rp {p : Pln} {xs : List Ltr} (h : rpOk p xs = true) : okB (rpRound p xs) = true := by
  unfold rpRound
  rw [if_pos h]
  unfold rpOk at h
  simp only [Bool.and_eq_true] at h
  exact okB_passesN p _ _ _ h.2
theorem rp_ord {p : Pln} {xs : List Ltr} (h : rpOk p xs = true) : inOrd p (rpRound p xs) := by
  have hp : planOk p = true := by unfold rpOk at h; simp only [Bool.and_eq_true] at h; exact h.1
  unfold rpRound
  rw [if_pos h]
  exact passes_all hp _
/-! ### The last pass -/
/-! ### FnMissortsValid -/
/-! ### FnFaultyPass -/
/-! ### FnWrong -/
/-! ### FnKept, FnKeptMany -/
end Go.Proofs.YtpinkbodbedajaaGreatDoor
