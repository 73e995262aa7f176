/- DS YC -/
import Derived.Test.YtffbcfaahegglaaDoorQ32
import Derived.Deep.RegionLaw
import Derived.Test.YtffbcfaahegglaaDoorQ15
import Derived.Test.YtffbcfaahegglaaDoorQ16
namespace Go.Proofs.YtffbcfaahegglaaDoor
open Go.RowKit

theorem own.none_ {α : Type} [El α] {T base g n c : Nat} {w : World} {xs : List α} (h : own T base w (.slice (some ⟨g, 0, none⟩) n c) xs) : own (α := α) T base w (.slice (some ⟨g, 0, none⟩) 0 c) [] := by
  obtain ⟨css, ⟨h1, h2⟩, hl, he⟩ := h
  rcases h2 with ⟨h2, _⟩ | ⟨g', cap, cur, hv, hg, hh, h3, h4, h5, h6⟩
  · cases h2
  · injection hv with e1 e2 e3
    injection e1 with e1
    injection e1 with e1
    subst e1 e3
    exact ⟨[], ⟨by simp, .inr ⟨g, c, cur, rfl, hg, hh, Nat.zero_le _, h4, h5, by simp⟩⟩, rfl, fun k hk => absurd hk (Nat.not_lt_zero k)⟩

theorem own_setText {T base g n c : Nat} {w : World} {xs : List ByteArray} (h : own T base w (.slice (some ⟨g, 0, none⟩) n c) xs) {k : Nat} (hk : k < xs.length) (y : ByteArray) (hy : y.size ≤ maxLen) :
    own T base (w.setCell ⟨g, k, none⟩ (.string y)) (.slice (some ⟨g, 0, none⟩) n c) (xs.set k y) := by
  have h1 := h.setCell (k := k) (j := 0) hk (by decide) (.string y) y (fun ecs he => by
    obtain ⟨_, rfl⟩ := he
    exact ⟨hy, rfl⟩)
  rw [show k * El.size ByteArray + 0 = k from Nat.mul_one k] at h1
  exact h1

/-- The block of a plan's order. -/
def planBlk (v : Value) (k : Nat) : Prop := ∃ a b vo, v = .agg #[a, b, vo] ∧ vo.ownBlock = some k
def l3BadPost (T : TypeId) (g p b0 : Nat) (S : Nat → Prop) (w : World) (e : Ending) (w' : World) : Prop :=
  ∃ (v : Value) (y : Pln) (p' : Nat), e = .returned v ∧ ownP T b0 w' v y ∧ y.order.length ≤ 101 ∧ rdr w' g p' ∧ p' ≤ p + 5 ∧ kept2 g b0 w w' ∧ keptS S w w' ∧ ∀ k, planBlk v k → S k ∨ w.heap.size ≤ k

theorem l3BadPost_of {T g p q b0 h : _} {S : Nat → Prop} {w W : World} {y : Pln} {vo : Value} {a b d : Value} (hh : b0 ≤ h) (hg : g < b0) (h1 : isI64 y.bins) (h2 : isI64 y.passes) (ho : own T b0 W vo y.order) (hl : y.order.length ≤ 101) (hne : vo.ownBlock ≠ some h)
    (hr : rdr W g q) (hq : q ≤ p + 5) (hk : kept2 g b0 w W) (hS : keptS S w W) (hwh : w.heap.size ≤ h) (hpb : ∀ k, vo.ownBlock = some k → S k ∨ w.heap.size ≤ k) (ha : a = .int .i64 y.bins) (hb : b = .int .i64 y.passes) (hd : d = vo) :
    l3BadPost T g p b0 S w (.returned (.agg #[a, b, d])) (((W.setCell ⟨h, 0, none⟩ a).setCell ⟨h, 1, none⟩ b).setCell ⟨h, 2, none⟩ d) := by
  subst ha hb hd
  have HG := grown_setCell (p := ⟨h, 2, none⟩) (grown_setCell (p := ⟨h, 1, none⟩) (grown_setCell (p := ⟨h, 0, none⟩) (World.grownBy.refl W (some h)) (.inl rfl) (.int .i64 y.bins)) (.inl rfl) (.int .i64 y.passes)) (.inl rfl) d
  exact ⟨_, y, q, rfl, ⟨_, rfl, h1, h2, ho.grown HG (.inr hne)⟩, hl, hr.grown HG (by omega), hq, ((hk.set ⟨h, 0, none⟩ hh _).set ⟨h, 1, none⟩ hh _).set ⟨h, 2, none⟩ hh _, ((hS.set ⟨h, 0, none⟩ (.inr hwh) _).set ⟨h, 1, none⟩ (.inr hwh) _).set ⟨h, 2, none⟩ (.inr hwh) _, fun k hk => by
    obtain ⟨a, b, vo', e, hk⟩ := hk
    injection e with e
    injection e with e
    simp only [List.cons.injEq, and_true] at e
    rw [← e.2.2] at hk
    exact hpb k hk⟩

theorem cells3 {W : World} {h T : Nat} {a b d : Value} (hb : W.heap[h]? = some (.cells #[a, b, d] T (0, 0))) :
    W.cell? ⟨h, 0, none⟩ = some a ∧ W.cell? ⟨h, 1, none⟩ = some b ∧ W.cell? ⟨h, 2, none⟩ = some d ∧ W.frozen? ⟨h, 0, none⟩ = false ∧ W.frozen? ⟨h, 1, none⟩ = false ∧ W.frozen? ⟨h, 2, none⟩ = false :=
  ⟨by rw [cell_of_row _ _ _ _ _ _ hb]; rfl, by rw [cell_of_row _ _ _ _ _ _ hb]; rfl, by rw [cell_of_row _ _ _ _ _ _ hb]; rfl, by simp [World.frozen?, hb], by simp [World.frozen?, hb], by simp [World.frozen?, hb]⟩

set_option maxRecDepth 100000 in
set_option maxHeartbeats 2000000 in
theorem rd_l3Bad (g p b0 : Nat) (v : Value) (x : Pln) (w : World) (hr : rdr w g p) (hp : p ≤ 10000000000) (hv : ownP 9 b0 w v x) (hb0 : g < b0) (hd : drawnP x) :
    Calls Tryd.prog 110 #[.pointer (some ⟨g, 0, none⟩), v] w (l3BadPost 9 g p b0 (fun k => k = g ∨ planBlk v k) w) := by
  have hlt := hr.lt
  obtain ⟨vo, rfl, i1, i2, ho⟩ := hv
  obtain ⟨_, _, _, _, hl1, hl2, hdc⟩ := hd
  rcases ho.form with ⟨_, h0⟩ | ⟨go, c0, rfl, hgo, hgl, hc0, hm0⟩
  · rw [h0] at hl1; simp at hl1
  unfold maxLen at hm0
  have HDC := Lib.hid hdc; clear hdc
  have hgo' : go ≠ g := by omega
  have hr0 := (hr.alloc (Obj.cells #[.int .i64 x.bins, .int .i64 x.passes, .slice (some ⟨go, 0, none⟩) x.order.length c0] 89)).alloc (Obj.cells #[.int .i64 0, .int .i64 0, .slice none 0 0] 89)
  obtain ⟨wb, hwb⟩ : ∃ u, u = (w.alloc (Obj.cells #[.int .i64 x.bins, .int .i64 x.passes, .slice (some ⟨go, 0, none⟩) x.order.length c0] 89)).alloc (Obj.cells #[.int .i64 0, .int .i64 0, .slice none 0 0] 89) := ⟨_, rfl⟩
  rw [← hwb] at hr0
  have hzb : wb.heap.size = w.heap.size + 2 := by rw [hwb]; simp
  have hb1 : wb.heap[w.heap.size]? = some (.cells #[.int .i64 x.bins, .int .i64 x.passes, .slice (some ⟨go, 0, none⟩) x.order.length c0] 89 (0, 0)) := by rw [hwb]; exact heap_alloc2_old w _ _
  have hb2 : wb.heap[w.heap.size + 1]? = some (.cells #[.int .i64 0, .int .i64 0, .slice none 0 0] 89 (0, 0)) := by rw [hwb]; exact heap_alloc2_new w _ _
  have hB : Below w.heap.size w wb := by rw [hwb]; exact ((Below.refl _ _).alloc (Nat.le_refl _) _).alloc (by simp) _
  have hbw : b0 ≤ w.heap.size := by omega
  have HSG : Hid ((fun k => k = g ∨ planBlk (.agg #[.int .i64 x.bins, .int .i64 x.passes, .slice (some ⟨go, 0, none⟩) x.order.length c0]) k) go) := .inr ⟨_, _, _, rfl, rfl⟩
  have HSg : Hid (∀ r, some g = some r → (fun k => k = g ∨ planBlk (.agg #[.int .i64 x.bins, .int .i64 x.passes, .slice (some ⟨go, 0, none⟩) x.order.length c0]) k) r ∨ w.heap.size ≤ r) := fun r e => .inl (.inl (by injection e with e; exact e.symm))
  have HPG : Hid (∀ (n c k : Nat), (Value.slice (some ⟨go, 0, none⟩) n c).ownBlock = some k → (fun k => k = g ∨ planBlk (.agg #[.int .i64 x.bins, .int .i64 x.passes, .slice (some ⟨go, 0, none⟩) x.order.length c0]) k) k ∨ w.heap.size ≤ k) := fun n c k e => .inl (by have e' : some go = some k := e; injection e' with e'; rw [← e']; exact HSG.out)
  have j0 := (keptS.refl (fun k => k = g ∨ planBlk (.agg #[.int .i64 x.bins, .int .i64 x.passes, .slice (some ⟨go, 0, none⟩) x.order.length c0]) k) w).below hB
  generalize (fun k => k = g ∨ planBlk (.agg #[.int .i64 x.bins, .int .i64 x.passes, .slice (some ⟨go, 0, none⟩) x.order.length c0]) k) = S at *
  have k0 : kept2 g b0 w wb := kept2.below ⟨hB.os, hB.tape, hB.output, hB.size, fun k hk => hB.block k (by omega)⟩
  have HWB := Lib.hid hwb
  have hob := ho.below hB
  clear hwb hB ho
  go_enter Tryd.func110, Tryd.ntmps110
  go_wp2_with fail
  rw [← HWB.out]
  refine (rd_pick g p 40 _ hr0 (by omega) (by unfold isI64; omega)).mono ?_
  rintro e w1 ⟨y, rfl, hy, hr1, hg1⟩
  have k1 : kept2 g b0 w w1 := k0.step hg1 hbw
  have J1 := Lib.hid (j0.next hg1 HSg.out)
  clear j0
  have hb1' := (hg1.block w.heap.size (by omega) (fun e => by injection e; omega)).trans hb1
  have hb2' := (hg1.block (w.heap.size + 1) (by omega) (fun e => by injection e; omega)).trans hb2
  have HO1 := Lib.hid (hob.grown hg1 (.inr (fun e => hgo' (by injection e))))
  have hz1 := hg1.size
  clear hy hr0 k0 hb1 hb2 hob hg1
  have HB1 := Lib.hid hb1'; have HB2 := Lib.hid hb2'
  obtain ⟨c10, c11, c12, f10, f11, f12⟩ := cells3 hb1'
  obtain ⟨c20, c21, c22, f20, f21, f22⟩ := cells3 hb2'
  clear hb1' hb2'
  by_cases y0 : y = 0
  · have t0 : (y == 0) = true := by simp [y0]
    have n1 : (y == 1) = false := by simp [y0]
    have n2 : (y == 2) = false := by simp [y0]
    have n3 : (y == 3) = false := by simp [y0]
    have n4 : (y == 4) = false := by simp [y0]
    clear y0
    go_wp2_with fail
    refine (rd_num 3 g (p + 1) _ [1, 17, 16, -1, 9223372036854775807] _ (hr1.alloc _) (by omega) (list_own 3 (g + 1) w1 [1, 17, 16, -1, 9223372036854775807] (by simp [isI64]) (by decide) (by omega)) (by decide)).mono ?_
    rintro e w2 ⟨n, hn, rfl, hr2, hg2⟩
    replace hg2 : w1.grownBy w2 (some g) := grown_trans (World.grownBy_alloc w1 _ _) hg2
    have hni : isI64 n := by simp at hn; unfold isI64; omega
    have hb1 := (hg2.block w.heap.size (by omega) (fun e => by injection e; omega)).trans HB1.out
    have hb2 := (hg2.block (w.heap.size + 1) (by omega) (fun e => by injection e; omega)).trans HB2.out
    clear c10 c11 c12 f10 f11 f12 c20 c21 c22 f20 f21 f22 hn
    obtain ⟨c10, c11, c12, f10, f11, f12⟩ := cells3 hb1
    obtain ⟨c20, c21, c22, f20, f21, f22⟩ := cells3 hb2
    have hb3 : (w2.setCell ⟨w.heap.size, 0, none⟩ (.int .i64 n)).heap[w.heap.size + 1]? = _ := (heap_setCell_other w2 ⟨w.heap.size, 0, none⟩ (w.heap.size + 1) (.int .i64 n) (by simp)).trans hb2
    have HB3 := Lib.hid hb3
    have hG := grown_setCell (p := ⟨w.heap.size, 0, none⟩) (World.grownBy.refl w2 (some w.heap.size)) (.inl rfl) (.int .i64 n)
    have HO3 := Lib.hid ((HO1.out.grown hg2 (.inr (fun e => hgo' (by injection e)))).grown hG (.inr (fun e => by have e' : some go = some w.heap.size := e; simp at e'; omega)))
    have HR3 := Lib.hid (hr2.grown hG hlt)
    have HK3 := Lib.hid ((k1.step hg2 hbw).set ⟨w.heap.size, 0, none⟩ hbw (.int .i64 n))
    have HJ3 := Lib.hid ((J1.out.next hg2 HSg.out).set ⟨w.heap.size, 0, none⟩ (.inr (Nat.le_refl _)) (.int .i64 n))
    have HNI := Lib.hid hni
    clear hb1 hb2 hb3 hG hr2 hg2 hr1 hni
    go_wp2_with fail
    refine ret_box rfl rfl (three_set HB3.out) Tryd.underlying89 rfl Tryd.sizePln rfl ?_
    exact l3BadPost_of (y := ⟨n, x.passes, x.order⟩) (Nat.le_trans hbw (Nat.le_succ _)) hb0 HNI.out i2 HO3.out (by show x.order.length ≤ _; omega) (fun e => by have e' : some go = some (w.heap.size + 1) := e; simp at e'; omega) HR3.out (by omega) HK3.out HJ3.out (Nat.le_succ _) (HPG.out _ _) rfl rfl rfl
  have t0 : (y == 0) = false := by simpa using y0
  by_cases y1 : y = 1
  · have t1 : (y == 1) = true := by simp [y1]
    clear y0 y1
    go_wp2_with fail
    refine (rd_num 3 g (p + 1) _ [0, 5, 4, 1] _ (hr1.alloc _) (by omega) (list_own 3 (g + 1) w1 [0, 5, 4, 1] (by simp [isI64]) (by decide) (by omega)) (by decide)).mono ?_
    rintro e w2 ⟨n, hn, rfl, hr2, hg2⟩
    replace hg2 : w1.grownBy w2 (some g) := grown_trans (World.grownBy_alloc w1 _ _) hg2
    have hni : isI64 n := by simp at hn; unfold isI64; omega
    have hb1 := (hg2.block w.heap.size (by omega) (fun e => by injection e; omega)).trans HB1.out
    have hb2 := (hg2.block (w.heap.size + 1) (by omega) (fun e => by injection e; omega)).trans HB2.out
    clear c10 c11 c12 f10 f11 f12 c20 c21 c22 f20 f21 f22 hn
    obtain ⟨c10, c11, c12, f10, f11, f12⟩ := cells3 hb1
    obtain ⟨c20, c21, c22, f20, f21, f22⟩ := cells3 hb2
    have hb3 : (w2.setCell ⟨w.heap.size, 1, none⟩ (.int .i64 n)).heap[w.heap.size + 1]? = _ := (heap_setCell_other w2 ⟨w.heap.size, 1, none⟩ (w.heap.size + 1) (.int .i64 n) (by simp)).trans hb2
    have HB3 := Lib.hid hb3
    have hG := grown_setCell (p := ⟨w.heap.size, 1, none⟩) (World.grownBy.refl w2 (some w.heap.size)) (.inl rfl) (.int .i64 n)
    have HO3 := Lib.hid ((HO1.out.grown hg2 (.inr (fun e => hgo' (by injection e)))).grown hG (.inr (fun e => by have e' : some go = some w.heap.size := e; simp at e'; omega)))
    have HR3 := Lib.hid (hr2.grown hG hlt)
    have HK3 := Lib.hid ((k1.step hg2 hbw).set ⟨w.heap.size, 1, none⟩ hbw (.int .i64 n))
    have HJ3 := Lib.hid ((J1.out.next hg2 HSg.out).set ⟨w.heap.size, 1, none⟩ (.inr (Nat.le_refl _)) (.int .i64 n))
    have HNI := Lib.hid hni
    clear hb1 hb2 hb3 hG hr2 hg2 hr1 hni
    go_wp2_with fail
    refine ret_box rfl rfl (three_set HB3.out) Tryd.underlying89 rfl Tryd.sizePln rfl ?_
    exact l3BadPost_of (y := ⟨x.bins, n, x.order⟩) (Nat.le_trans hbw (Nat.le_succ _)) hb0 i1 HNI.out HO3.out (by show x.order.length ≤ _; omega) (fun e => by have e' : some go = some (w.heap.size + 1) := e; simp at e'; omega) HR3.out (by omega) HK3.out HJ3.out (Nat.le_succ _) (HPG.out _ _) rfl rfl rfl
  have t1 : (y == 1) = false := by simpa using y1
  by_cases y2 : y = 2
  · have t2 : (y == 2) = true := by simp [y2]
    have n3 : (y == 3) = false := by simp [y2]
    have n4 : (y == 4) = false := by simp [y2]
    clear y0 y1 y2
    obtain ⟨hs0, hc0'⟩ := own_cellStr HO1.out 0 (by omega)
    generalize x.order[0] = s0 at *
    obtain ⟨i0, hi, hz0, hzz1, hzz2⟩ := info_parts Tryd.infoStr
    have HR1 := Lib.hid hr1; clear hr1
    have hpos : 0 < x.order.length := by omega
    have HNE : Hid (some w.heap.size ≠ (Value.slice (some ⟨go, 0, none⟩) x.order.length c0).ownBlock) := fun e => by
      have e' : some w.heap.size = some go := e
      simp at e'; omega
    have hzw : w.heap.size < w1.heap.size := by omega
    have hzg : go < w1.heap.size := by omega
    have HCA : Hid (∀ o : Obj, (w1.alloc o).drew.cell? ⟨w.heap.size, 2, none⟩ = some (.slice (some ⟨go, 0, none⟩) x.order.length c0)) := fun o => (cells3 (W := (w1.alloc o).drew) ((heap_alloc_old w1 o (by omega)).trans HB1.out)).2.2.1
    have HFA : Hid (∀ o : Obj, (w1.alloc o).drew.frozen? ⟨w.heap.size, 2, none⟩ = false) := fun o => (cells3 (W := (w1.alloc o).drew) ((heap_alloc_old w1 o (by omega)).trans HB1.out)).2.2.2.2.2
    go_wp2_with fail
    go_region_law (go_loud ((refine step_append1 (α := ByteArray) (by rfl) (.tmp 22) (.tmp 27) 61 (by rfl) b0 9 i0 _ 16 Tryd.underlying61 hi hz0 hzz1 hzz2 rfl (by decide) (.slice (some ⟨go, 0, none⟩) x.order.length c0) x.order s0 (by rfl) ((HO1.out.alloc _).drew) ⟨w1.heap.size, 0, none⟩ 1 [.string s0] (by rfl) ⟨hs0, rfl⟩ (news_drew w1 _ [.string s0]) (by unfold maxLen; omega) (by omega) (by simp; omega) ?_; intro g' cap w4 ho4 hg4 ha4 hl4; have hc4 : w4.cell? ⟨w.heap.size, 2, none⟩ = some (.slice (some ⟨go, 0, none⟩) x.order.length c0) := (hg4.cell_far ⟨w.heap.size, 2, none⟩ (by simp; omega) HNE.out).trans (HCA.out _); have hf4 : w4.frozen? ⟨w.heap.size, 2, none⟩ = false := (hg4.frozen_far ⟨w.heap.size, 2, none⟩ (by simp; omega) HNE.out).trans (HFA.out _))))
    all_goals
      have hWA : Below b0 w1 (w1.alloc (Obj.cells #[Value.string s0] 9)).drew := ((Below.refl _ _).alloc (by omega) _).drew
      have hJA : Below w.heap.size w1 (w1.alloc (Obj.cells #[Value.string s0] 9)).drew := ((Below.refl _ _).alloc (by omega) _).drew
      have HRA : Hid (rdr (w1.alloc (Obj.cells #[Value.string s0] 9)).drew g (p + 1)) := (HR1.out.alloc _).below ((Below.refl _ _).drew)
      have HOA : Hid (own 9 b0 (w1.alloc (Obj.cells #[Value.string s0] 9)).drew (.slice (some ⟨go, 0, none⟩) x.order.length c0) x.order) := (HO1.out.alloc _).drew
      have hb2A : (w1.alloc (Obj.cells #[Value.string s0] 9)).drew.heap[w.heap.size + 1]? = some (.cells #[.int .i64 0, .int .i64 0, .slice none 0 0] 89 (0, 0)) := (heap_alloc_old w1 _ (by omega)).trans HB2.out
      have hzA : (w1.alloc (Obj.cells #[Value.string s0] 9)).drew.heap.size = w1.heap.size + 1 := by simp
      have hb1A : (w1.alloc (Obj.cells #[Value.string s0] 9)).drew.heap[w.heap.size]? = some (.cells #[.int .i64 x.bins, .int .i64 x.passes, .slice (some ⟨go, 0, none⟩) x.order.length c0] 89 (0, 0)) := (heap_alloc_old w1 _ (by omega)).trans HB1.out
      generalize (w1.alloc (Obj.cells #[Value.string s0] 9)).drew = wA at *
      have h14 := (hg4.block w.heap.size (by omega) (fun e => by have e' : some w.heap.size = some go := e; simp at e'; omega)).trans hb1A
      clear c10 c11 c12 f10 f11 f12 c20 c21 c22 f20 f21 f22 hc0'
      obtain ⟨c10, c11, c12, f10, f11, f12⟩ := cells3 h14
      have h24 := (hg4.block (w.heap.size + 1) (by omega) (fun e => by have e' : some (w.heap.size + 1) = some go := e; simp at e'; omega)).trans hb2A
      obtain ⟨c20, c21, c22, f20, f21, f22⟩ := cells3 h24
      have hk4 : kept2 g b0 w w4 := k1.trans (kept2.below (hWA.trans (below_append HOA.out hg4 (by omega))))
      have HJ4 := Lib.hid ((J1.out.below hJA).next hg4 fun r e => .inl (by have e' : some go = some r := e; injection e' with e'; rw [← e']; exact HSG.out))
      clear hJA
      have HR4 := Lib.hid (HRA.out.append HOA.out hg4 hb0)
      have hgn : g' ≠ w.heap.size ∧ g' ≠ w.heap.size + 1 := by
        rcases ha4 with h | h
        · have e' : some g' = some go := h
          simp at e'; omega
        · omega
      have HPB : Hid (∀ k, (Value.slice (some ⟨g', 0, none⟩) (x.order.length + 1) cap).ownBlock = some k → S k ∨ w.heap.size ≤ k) := fun k e => by
        have e' : some g' = some k := e
        injection e' with e'
        rcases ha4 with h | h
        · have e2 : some g' = some go := h
          injection e2 with e2
          exact .inl (by rw [← e', e2]; exact HSG.out)
        · exact .inr (by omega)
      have HO4 := Lib.hid ho4
      have hb3 : (w4.setCell ⟨w.heap.size, 2, none⟩ (.slice (some ⟨g', 0, none⟩) (x.order.length + 1) cap)).heap[w.heap.size + 1]? = _ := (heap_setCell_other w4 ⟨w.heap.size, 2, none⟩ (w.heap.size + 1) (.slice (some ⟨g', 0, none⟩) (x.order.length + 1) cap) (by simp)).trans h24
      have HB3 := Lib.hid hb3
      have hG := grown_setCell (p := ⟨w.heap.size, 2, none⟩) (World.grownBy.refl w4 (some w.heap.size)) (.inl rfl) (.slice (some ⟨g', 0, none⟩) (x.order.length + 1) cap)
      have HO3 := Lib.hid (HO4.out.grown hG (.inr (fun e => by have e' : some g' = some w.heap.size := e; simp at e'; omega)))
      have HR3 := Lib.hid (HR4.out.grown hG hlt)
      have HK3 := Lib.hid (hk4.set ⟨w.heap.size, 2, none⟩ hbw (.slice (some ⟨g', 0, none⟩) (x.order.length + 1) cap))
      have HJ3 := Lib.hid (HJ4.out.set ⟨w.heap.size, 2, none⟩ (.inr (Nat.le_refl _)) (.slice (some ⟨g', 0, none⟩) (x.order.length + 1) cap))
      clear hb3 hG hk4 h24 h14 hb1A hb2A hg4 ho4 ha4 hWA
      go_wp2_with fail
      refine ret_box rfl rfl (three_set HB3.out) Tryd.underlying89 rfl Tryd.sizePln rfl ?_
      exact l3BadPost_of (y := ⟨x.bins, x.passes, x.order ++ [s0]⟩) (Nat.le_trans hbw (Nat.le_succ _)) hb0 i1 i2 HO3.out (by simp; omega) (fun e => by have e' : some g' = some (w.heap.size + 1) := e; simp at e'; omega) HR3.out (by omega) HK3.out HJ3.out (Nat.le_succ _) HPB.out rfl rfl rfl
  have t2 : (y == 2) = false := by simpa using y2
  by_cases y3 : y = 3
  · have t3 : (y == 3) = true := by simp [y3]
    have n4 : (y == 4) = false := by simp [y3]
    clear y0 y1 y2 y3
    have hpos : 0 < x.order.length := by omega
    obtain ⟨hs0, hcO⟩ := own_cellStr HO1.out 0 hpos
    have hfO : w1.frozen? ⟨go, 0, none⟩ = false := HO1.out.freeAt 0
    have hs7 : x.order[0].size = 7 := HDC.out _ (List.getElem_mem hpos)
    obtain ⟨s0, hs0e⟩ : ∃ z, z = x.order[0] := ⟨_, rfl⟩
    rw [← hs0e] at hcO hs7
    clear hs0 hs0e
    have HR1 := Lib.hid hr1; clear hr1
    have hzw : w.heap.size < w1.heap.size := by omega
    have hzg : go < w1.heap.size := by omega
    have HCO := Lib.hid hcO; have HFO := Lib.hid hfO
    have HC12 := Lib.hid c12
    have HS8 : Hid ((s0 ++ (⟨#[49]⟩ : ByteArray)).size = 8) := by show _ = _; rw [ByteArray.size_append, hs7]; rfl
    have HC1 : Hid (Calls Tryd.prog 116 #[.pointer (some ⟨g, 0, none⟩), .string (s0 ++ (⟨#[49]⟩ : ByteArray))] w1.drew fun e w' => ∃ (t : ByteArray), e = .returned (.string t) ∧ t.size ≤ 9 ∧ rdr w' g (p + 2) ∧ w1.grownBy w' (some g)) := by
      refine (rd_l1Bad g (p + 1) _ _ (HR1.out.below ((Below.refl _ _).drew)) (by omega) (by rw [HS8.out]; omega) (by rw [HS8.out]; omega)).mono ?_
      rintro e w' ⟨t, h1, h2, h3, h4⟩
      exact ⟨t, h1, by rw [HS8.out] at h2; exact h2, h3, ⟨h4.os, h4.tape, h4.output, h4.size, h4.block⟩⟩
    have hzi : (0 : Int) < (x.order.length : Int) := by omega
    have HN1 : Hid (some w.heap.size ≠ some g) := fun e => by injection e; omega
    have HN2 : Hid (some go ≠ some g) := fun e => hgo' (by injection e)
    go_wp2_with fail
    go_region_law (first | (go_simp; go_at_call 116; refine HC1.out.mono ?_; rintro e w2 ⟨t, rfl, ht, hr2, hg2⟩; have cb2 : w2.cell? ⟨w.heap.size, 2, none⟩ = some (.slice (some ⟨go, 0, none⟩) x.order.length c0) := (hg2.cell_far ⟨w.heap.size, 2, none⟩ hzw HN1.out).trans HC12.out; have co2 : w2.cell? ⟨go, 0, none⟩ = some (.string s0) := (hg2.cell_far ⟨go, 0, none⟩ hzg HN2.out).trans HCO.out; have fo2 : w2.frozen? ⟨go, 0, none⟩ = false := (hg2.frozen_far ⟨go, 0, none⟩ hzg HN2.out).trans HFO.out))
    all_goals
      have hb1 := (hg2.block w.heap.size (by omega) HN1.out).trans HB1.out
      have hb2 := (hg2.block (w.heap.size + 1) (by omega) (fun e => by injection e; omega)).trans HB2.out
      have hb3 : (w2.setCell ⟨go, 0, none⟩ (.string t)).heap[w.heap.size]? = _ := (heap_setCell_other w2 ⟨go, 0, none⟩ w.heap.size (.string t) (by show w.heap.size ≠ go; omega)).trans hb1
      have hb4 : (w2.setCell ⟨go, 0, none⟩ (.string t)).heap[w.heap.size + 1]? = _ := (heap_setCell_other w2 ⟨go, 0, none⟩ (w.heap.size + 1) (.string t) (by show w.heap.size + 1 ≠ go; omega)).trans hb2
      clear c10 c11 c12 f10 f11 f12 c20 c21 c22 f20 f21 f22 hcO hfO cb2 co2 fo2
      obtain ⟨c10, c11, c12, f10, f11, f12⟩ := cells3 hb3
      obtain ⟨c20, c21, c22, f20, f21, f22⟩ := cells3 hb4
      have HB4 := Lib.hid hb4
      have HO3 := Lib.hid (own_setText (HO1.out.grown hg2 (.inr HN2.out)) hpos t (by unfold maxLen; omega))
      have hG := grown_setCell (p := ⟨go, 0, none⟩) (World.grownBy.refl w2 (some go)) (.inl rfl) (.string t)
      have HR3 := Lib.hid (hr2.grown hG (by omega))
      have HK3 := Lib.hid ((k1.step hg2 hbw).set ⟨go, 0, none⟩ hgo (.string t))
      have HJ3 := Lib.hid ((J1.out.next hg2 HSg.out).set ⟨go, 0, none⟩ (.inl HSG.out) (.string t))
      clear hb1 hb2 hb3 hb4 hG hr2 hg2
      go_wp2_with fail
      refine ret_box rfl rfl (three_set HB4.out) Tryd.underlying89 rfl Tryd.sizePln rfl ?_
      exact l3BadPost_of (y := ⟨x.bins, x.passes, x.order.set 0 t⟩) (Nat.le_trans hbw (Nat.le_succ _)) hb0 i1 i2 HO3.out (by simp; omega) (fun e => by have e' : some go = some (w.heap.size + 1) := e; simp at e'; omega) HR3.out (by omega) HK3.out HJ3.out (Nat.le_succ _) (HPG.out _ _) rfl rfl rfl
  have t3 : (y == 3) = false := by simpa using y3
  by_cases y4 : y = 4
  · have t4 : (y == 4) = true := by simp [y4]
    clear y0 y1 y2 y3 y4
    have hb3 : (w1.setCell ⟨w.heap.size, 2, none⟩ (.slice (some ⟨go, 0, none⟩) 0 c0)).heap[w.heap.size + 1]? = _ := (heap_setCell_other w1 ⟨w.heap.size, 2, none⟩ (w.heap.size + 1) (.slice (some ⟨go, 0, none⟩) 0 c0) (by simp)).trans HB2.out
    have HB3 := Lib.hid hb3
    have hG := grown_setCell (p := ⟨w.heap.size, 2, none⟩) (World.grownBy.refl w1 (some w.heap.size)) (.inl rfl) (.slice (some ⟨go, 0, none⟩) 0 c0)
    have HO3 := Lib.hid (HO1.out.none_.grown hG (.inr (fun e => by have e' : some go = some w.heap.size := e; simp at e'; omega)))
    have HR3 := Lib.hid (hr1.grown hG hlt)
    have HK3 := Lib.hid (k1.set ⟨w.heap.size, 2, none⟩ hbw (.slice (some ⟨go, 0, none⟩) 0 c0))
    have HJ3 := Lib.hid (J1.out.set ⟨w.heap.size, 2, none⟩ (.inr (Nat.le_refl _)) (.slice (some ⟨go, 0, none⟩) 0 c0))
    clear hb3 hG hr1
    go_wp2_with fail
    refine ret_box rfl rfl (three_set HB3.out) Tryd.underlying89 rfl Tryd.sizePln rfl ?_
    exact l3BadPost_of (y := ⟨x.bins, x.passes, []⟩) (Nat.le_trans hbw (Nat.le_succ _)) hb0 i1 i2 HO3.out (by simp) (fun e => by have e' : some go = some (w.heap.size + 1) := e; simp at e'; omega) HR3.out (by omega) HK3.out HJ3.out (Nat.le_succ _) (HPG.out _ _) rfl rfl rfl
  have t4 : (y == 4) = false := by simpa using y4
  clear y0 y1 y2 y3 y4
  go_wp2_with fail
  refine ret_box rfl rfl (three_set HB2.out) Tryd.underlying89 rfl Tryd.sizePln rfl ?_
  exact l3BadPost_of (y := x) (Nat.le_trans hbw (Nat.le_succ _)) hb0 i1 i2 HO1.out (by omega) (fun e => by have e' : some go = some (w.heap.size + 1) := e; simp at e'; omega) hr1 (by omega) k1 J1.out (Nat.le_succ _) (HPG.out _ _) rfl rfl rfl

end Go.Proofs.YtffbcfaahegglaaDoor

namespace Go.Proofs.YtffbcfaahegglaaDoor
open Go.RowKit

set_option maxRecDepth 100000 in
set_option maxHeartbeats 1000000 in
theorem rd_l4Mail (g p : Nat) (w : World) (hr : rdr w g p) (hp : p ≤ 10000000000) :
    Calls Tryd.prog 95 #[.pointer (some ⟨g, 0, none⟩)] w fun e w' => ∃ (v' : Value) (xs : List Ltr) (p' : Nat), e = .returned v' ∧ own 98 w.heap.size w' v' xs ∧ xs.length ≤ 14 ∧ (∀ y ∈ xs, y.code.size = 7) ∧ rdr w' g p' ∧ p' ≤ p + 300 ∧ w.grownBy w' (some g) := by
  have hlt := hr.lt
  go_enter Tryd.func95, Tryd.ntmps95
  go_wp2_with fail
  refine (rd_pick g p 4 _ hr (by omega) (by unfold isI64; omega)).mono ?_
  rintro e w1 ⟨y, rfl, hy, hr1, hg1⟩
  obtain ⟨y0, y1⟩ := hy.2 (by omega)
  obtain ⟨N, rfl⟩ := Int.eq_ofNat_of_zero_le y0
  have hz1 := hg1.size
  clear hy
  go_wp2_with fail
  refine (rd_l2Some g (p + 1) (1 + N) _ hr1 (by omega) (by omega) (by omega)).mono ?_
  rintro e w2 ⟨v2, xs0, q0, rfl, ho2, hx0, hx7, hr2, hq2, hg2⟩
  have hg02 := grown_trans hg1 hg2
  have k2 : kept2 g w.heap.size w w2 := kept2.grown hg02 (Nat.le_refl _)
  have HO2 := Lib.hid (ho2.base_ (base' := w.heap.size) hz1)
  have HX7 := Lib.hid hx7
  clear hg1 hg2 hr1 hx7 ho2 hg02
  rcases HO2.out.form with ⟨rfl, rfl⟩ | ⟨gl, cl, rfl, hgl1, hgl2, hcl, hml⟩
  · go_wp2_with fail
    go_loopw [4] (fun i wr => i = .int .i64 0 ∧ wr = w2) (fun _ _ => 0)
    case atStart => exact ⟨rfl, rfl⟩
    case round =>
      obtain ⟨rfl, rfl⟩ := hrel
      go_wp2_with fail
      go_ret
      exact ⟨_, [], q0, rfl, own.nil_ _ _ _, by simp, fun y hy => by simp at hy, hr2, by omega, kept2.back (World.grownBy.refl w (some g)) k2 (Nat.le_refl _)⟩
  unfold maxLen at hml
  have hglg : gl ≠ g := by omega
  go_wp2_with fail
  go_loopw [4] (fun i wr => ∃ (k : Nat) (xs : List Ltr) (q : Nat), k ≤ xs0.length ∧ i = .int .i64 k ∧ Hid (xs.length = xs0.length) ∧ Hid (own 98 w.heap.size wr (.slice (some ⟨gl, 0, none⟩) xs0.length cl) xs) ∧ Hid (∀ y ∈ xs, y.code.size = 7) ∧ rdr wr g q ∧ q ≤ q0 + k ∧ kept2 g w.heap.size w wr) (fun i _ => xs0.length - (intOf i).toNat)
  case atStart => exact ⟨0, xs0, q0, Nat.zero_le _, rfl, rfl, HO2.out, HX7.out, hr2, by omega, k2⟩
  case round =>
    obtain ⟨k, xs, q, hk, rfl, HL, HO, HX, hrq, hqb, kr⟩ := hrel
    obtain ⟨w3, rfl⟩ : ∃ w3 : World, w3 = wr := ⟨_, rfl⟩
    clear hr2 k2
    by_cases hkl : k < xs0.length
    · have hki : (k : Int) < (xs0.length : Int) := by omega
      have hkx : k < xs.length := by have := HL.out; omega
      go_wp2_with fail
      refine (rd_l4Code g q _ hrq (by omega)).mono ?_
      rintro e w4 ⟨s, rfl, hs7, hr4, hg4⟩
      have k4 := kr.step hg4 (Nat.le_refl _)
      have ho4 : own 98 w.heap.size w4 (.slice (some ⟨gl, 0, none⟩) xs0.length cl) xs := HO.out.grown hg4 (.inr (fun e => hglg (by injection e)))
      have hid := (own_ltr ho4 k hkx).1.1
      have HO5 := Lib.hid (ho4.setCell (k := k) (j := 1) hkx (by decide) (.string s) ⟨xs[k].id, s⟩ (fun ecs he => by
        obtain ⟨_, rfl⟩ := he
        exact ⟨⟨hid, by rw [hs7]; decide⟩, rfl⟩))
      obtain ⟨u1, g1⟩ := ho4.cellAt (j := k * 2 + 1) (by show _ < _ * 2; omega)
      have f1 := ho4.freeAt (k * 2 + 1)
      have k5 := k4.set ⟨gl, k * 2 + 1, none⟩ hgl1 (.string s)
      have HR5 := Lib.hid (hr4.grown (g' := gl) (grown_setCell (p := ⟨gl, k * 2 + 1, none⟩) (World.grownBy.refl w4 (some gl)) (.inl rfl) (.string s)) (by omega))
      have HS7 := Lib.hid hs7
      clear ho4 hid hg4 HO kr hrq hs7
      go_wp2_with fail
      go_roundw
      case rel =>
        refine ⟨k + 1, _, q + 1, by omega, by go_num, ?_, HO5, ?_, HR5.out, by omega, k5⟩
        · show _ = _
          have := HL.out
          simpa using this
        · intro z hz
          rcases List.mem_or_eq_of_mem_set hz with h | h
          · exact HX.out z h
          · rw [h]; exact HS7.out
      case measure => simp [intOf]; omega
    · go_wp2_with fail
      go_ret
      exact ⟨_, xs, q, rfl, HO.out, by have := HL.out; omega, HX.out, hrq, by omega, kept2.back (World.grownBy.refl w (some g)) kr (Nat.le_refl _)⟩

end Go.Proofs.YtffbcfaahegglaaDoor
