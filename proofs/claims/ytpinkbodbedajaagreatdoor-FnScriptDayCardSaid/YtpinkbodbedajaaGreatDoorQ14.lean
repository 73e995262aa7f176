/- DS YC YD YE -/
import Derived.Test.YtpinkbodbedajaaGreatDoorQ13
import Derived.Deep.RegionLaw
import Derived.Test.YtpinkbodbedajaaGreatDoorQ8
import Derived.Test.YtpinkbodbedajaaGreatDoorQ10
import Derived.Test.YtpinkbodbedajaaGreatDoorQ5
namespace Go.Proofs.YtpinkbodbedajaaGreatDoor
open Go.RowKit

theorem own.none_ {α : Type} [El α] {T base g n c : Nat} {w : World} {xs : List α} (h : own T base w (.slice (some ⟨g, 0, none⟩) n c) xs) : own (α := α) T base w (.slice (some ⟨g, 0, none⟩) 0 c) [] := by
  obtain ⟨css, ⟨h1, h2⟩, hl, he⟩ := h
  rcases h2 with ⟨h2, _⟩ | ⟨g', cap, cur, hv, hg, hh, h3, h4, h5, h6⟩
  · cases h2
  · injection hv with e1 e2 e3
    injection e1 with e1
    injection e1 with e1
    subst e1 e3
    exact ⟨[], ⟨by simp, .inr ⟨g, c, cur, rfl, hg, hh, Nat.zero_le _, h4, h5, by simp⟩⟩, rfl, fun k hk => absurd hk (Nat.not_lt_zero k)⟩

theorem own_setText {T base g n c : Nat} {w : World} {xs : List ByteArray} (h : own T base w (.slice (some ⟨g, 0, none⟩) n c) xs) {k : Nat} (hk : k < xs.length) (y : ByteArray) (hy : y.size ≤ maxLen) :
    own T base (w.setCell ⟨g, k, none⟩ (.string y)) (.slice (some ⟨g, 0, none⟩) n c) (xs.set k y) := by
  have h1 := h.setCell (k := k) (j := 0) hk (by decide) (.string y) y (fun ecs he => by
    obtain ⟨_, rfl⟩ := he
    exact ⟨hy, rfl⟩)
  rw [show k * El.size ByteArray + 0 = k from Nat.mul_one k] at h1
  exact h1

/-- The block of a plan's order. -/
def planBlk (v : Value) (k : Nat) : Prop := ∃ a b vo, v = .agg #[a, b, vo] ∧ vo.ownBlock = some k
def l3BadPost (T : TypeId) (g p b0 : Nat) (S : Nat → Prop) (w : World) (e : Ending) (w' : World) : Prop :=
  ∃ (v : Value) (y : Pln) (p' : Nat), e = .returned v ∧ ownP T b0 w' v y ∧ y.order.length ≤ 101 ∧ rdr w' g p' ∧ p' ≤ p + 5 ∧ kept2 g b0 w w' ∧ keptS S w w' ∧ ∀ k, planBlk v k → S k ∨ w.heap.size ≤ k

theorem l3BadPost_of {T g p q b0 h : _} {S : Nat → Prop} {w W : World} {y : Pln} {vo : Value} {a b d : Value} (hh : b0 ≤ h) (hg : g < b0) (h1 : isI64 y.bins) (h2 : isI64 y.passes) (ho : own T b0 W vo y.order) (hl : y.order.length ≤ 101) (hne : vo.ownBlock ≠ some h)
    (hr : rdr W g q) (hq : q ≤ p + 5) (hk : kept2 g b0 w W) (hS : keptS S w W) (hwh : w.heap.size ≤ h) (hpb : ∀ k, vo.ownBlock = some k → S k ∨ w.heap.size ≤ k) (ha : a = .int .i64 y.bins) (hb : b = .int .i64 y.passes) (hd : d = vo) :
    l3BadPost T g p b0 S w (.returned (.agg #[a, b, d])) (((W.setCell ⟨h, 0, none⟩ a).setCell ⟨h, 1, none⟩ b).setCell ⟨h, 2, none⟩ d) := by
  subst ha hb hd
  have HG := grown_setCell (p := ⟨h, 2, none⟩) (grown_setCell (p := ⟨h, 1, none⟩) (grown_setCell (p := ⟨h, 0, none⟩) (World.grownBy.refl W (some h)) (.inl rfl) (.int .i64 y.bins)) (.inl rfl) (.int .i64 y.passes)) (.inl rfl) d
  exact ⟨_, y, q, rfl, ⟨_, rfl, h1, h2, ho.grown HG (.inr hne)⟩, hl, hr.grown HG (by omega), hq, ((hk.set ⟨h, 0, none⟩ hh _).set ⟨h, 1, none⟩ hh _).set ⟨h, 2, none⟩ hh _, ((hS.set ⟨h, 0, none⟩ (.inr hwh) _).set ⟨h, 1, none⟩ (.inr hwh) _).set ⟨h, 2, none⟩ (.inr hwh) _, fun k hk => by
    obtain ⟨a, b, vo', e, hk⟩ := hk
    injection e with e
    injection e with e
    simp only [List.cons.injEq, and_true] at e
    rw [← e.2.2] at hk
    exact hpb k hk⟩

theorem cells3 {W : World} {h T : Nat} {a b d : Value} (hb : W.heap[h]? = some (.cells #[a, b, d] T (0, 0))) :
    W.cell? ⟨h, 0, none⟩ = some a ∧ W.cell? ⟨h, 1, none⟩ = some b ∧ W.cell? ⟨h, 2, none⟩ = some d ∧ W.frozen? ⟨h, 0, none⟩ = false ∧ W.frozen? ⟨h, 1, none⟩ = false ∧ W.frozen? ⟨h, 2, none⟩ = false :=
  ⟨by rw [cell_of_row _ _ _ _ _ _ hb]; rfl, by rw [cell_of_row _ _ _ _ _ _ hb]; rfl, by rw [cell_of_row _ _ _ _ _ _ hb]; rfl, by simp [World.frozen?, hb], by simp [World.frozen?, hb], by simp [World.frozen?, hb]⟩

set_option maxRecDepth 100000 in
set_option maxHeartbeats 2000000 in
theorem rd_l3Bad (g p b0 : Nat) (v : Value) (x : Pln) (w : World) (hr : rdr w g p) (hp : p ≤ 10000000000) (hv : ownP 9 b0 w v x) (hb0 : g < b0) (hd : drawnP x) :
    Calls Tryz.prog 101 #[.pointer (some ⟨g, 0, none⟩), v] w (l3BadPost 9 g p b0 (fun k => k = g ∨ planBlk v k) w) := by
  have hlt := hr.lt
  obtain ⟨vo, rfl, i1, i2, ho⟩ := hv
  obtain ⟨_, _, _, _, hl1, hl2, hdc⟩ := hd
  rcases ho.form with ⟨_, h0⟩ | ⟨go, c0, rfl, hgo, hgl, hc0, hm0⟩
  · rw [h0] at hl1; simp at hl1
  unfold maxLen at hm0
  have HDC := Lib.hid hdc; clear hdc
  have hgo' : go ≠ g := by omega
  have hr0 := (hr.alloc (Obj.cells #[.int .i64 x.bins, .int .i64 x.passes, .slice (some ⟨go, 0, none⟩) x.order.length c0] 25)).alloc (Obj.cells #[.int .i64 0, .int .i64 0, .slice none 0 0] 25)
  obtain ⟨wb, hwb⟩ : ∃ u, u = (w.alloc (Obj.cells #[.int .i64 x.bins, .int .i64 x.passes, .slice (some ⟨go, 0, none⟩) x.order.length c0] 25)).alloc (Obj.cells #[.int .i64 0, .int .i64 0, .slice none 0 0] 25) := ⟨_, rfl⟩
  rw [← hwb] at hr0
  have hzb : wb.heap.size = w.heap.size + 2 := by rw [hwb]; simp
  have hb1 : wb.heap[w.heap.size]? = some (.cells #[.int .i64 x.bins, .int .i64 x.passes, .slice (some ⟨go, 0, none⟩) x.order.length c0] 25 (0, 0)) := by rw [hwb]; exact heap_alloc2_old w _ _
  have hb2 : wb.heap[w.heap.size + 1]? = some (.cells #[.int .i64 0, .int .i64 0, .slice none 0 0] 25 (0, 0)) := by rw [hwb]; exact heap_alloc2_new w _ _
  have hB : Below w.heap.size w wb := by rw [hwb]; exact ((Below.refl _ _).alloc (Nat.le_refl _) _).alloc (by simp) _
  have hbw : b0 ≤ w.heap.size := by omega
  have HSG : Hid ((fun k => k = g ∨ planBlk (.agg #[.int .i64 x.bins, .int .i64 x.passes, .slice (some ⟨go, 0, none⟩) x.order.length c0]) k) go) := .inr ⟨_, _, _, rfl, rfl⟩
  have HSg : Hid (∀ r, some g = some r → (fun k => k = g ∨ planBlk (.agg #[.int .i64 x.bins, .int .i64 x.passes, .slice (some ⟨go, 0, none⟩) x.order.length c0]) k) r ∨ w.heap.size ≤ r) := fun r e => .inl (.inl (by injection e with e; exact e.symm))
  have HPG : Hid (∀ (n c k : Nat), (Value.slice (some ⟨go, 0, none⟩) n c).ownBlock = some k → (fun k => k = g ∨ planBlk (.agg #[.int .i64 x.bins, .int .i64 x.passes, .slice (some ⟨go, 0, none⟩) x.order.length c0]) k) k ∨ w.heap.size ≤ k) := fun n c k e => .inl (by have e' : some go = some k := e; injection e' with e'; rw [← e']; exact HSG.out)
  have j0 := (keptS.refl (fun k => k = g ∨ planBlk (.agg #[.int .i64 x.bins, .int .i64 x.passes, .slice (some ⟨go, 0, none⟩) x.order.length c0]) k) w).below hB
  generalize (fun k => k = g ∨ planBlk (.agg #[.int .i64 x.bins, .int .i64 x.passes, .slice (some ⟨go, 0, none⟩) x.order.length c0]) k) = S at *
  have k0 : kept2 g b0 w wb := kept2.below ⟨hB.os, hB.tape, hB.output, hB.size, fun k hk => hB.block k (by omega)⟩
  have HWB := Lib.hid hwb
  have hob := ho.below hB
  clear hwb hB ho
  go_enter Tryz.func101, Tryz.ntmps101
  go_wp2_with fail
  rw [← HWB.out]
  refine (rd_pick g p 40 _ hr0 (by omega) (by unfold isI64; omega)).mono ?_
  rintro e w1 ⟨y, rfl, hy, hr1, hg1⟩
  have k1 : kept2 g b0 w w1 := k0.step hg1 hbw
  have J1 := Lib.hid (j0.next hg1 HSg.out)
  clear j0
  have hb1' := (hg1.block w.heap.size (by omega) (fun e => by injection e; omega)).trans hb1
  have hb2' := (hg1.block (w.heap.size + 1) (by omega) (fun e => by injection e; omega)).trans hb2
  have HO1 := Lib.hid (hob.grown hg1 (.inr (fun e => hgo' (by injection e))))
  have hz1 := hg1.size
  clear hy hr0 k0 hb1 hb2 hob hg1
  have HB1 := Lib.hid hb1'; have HB2 := Lib.hid hb2'
  obtain ⟨c10, c11, c12, f10, f11, f12⟩ := cells3 hb1'
  obtain ⟨c20, c21, c22, f20, f21, f22⟩ := cells3 hb2'
  clear hb1' hb2'
  by_cases y0 : y = 0
  · have t0 : (y == 0) = true := by simp [y0]
    have n1 : (y == 1) = false := by simp [y0]
    have n2 : (y == 2) = false := by simp [y0]
    have n3 : (y == 3) = false := by simp [y0]
    have n4 : (y == 4) = false := by simp [y0]
    clear y0
    go_wp2_with fail
    refine (rd_num 3 g (p + 1) _ [1, 17, 16, -1, 9223372036854775807] _ (hr1.alloc _) (by omega) (list_own 3 (g + 1) w1 [1, 17, 16, -1, 9223372036854775807] (by simp [isI64]) (by decide) (by omega)) (by decide)).mono ?_
    rintro e w2 ⟨n, hn, rfl, hr2, hg2⟩
    replace hg2 : w1.grownBy w2 (some g) := grown_trans (World.grownBy_alloc w1 _ _) hg2
    have hni : isI64 n := by simp at hn; unfold isI64; omega
    have hb1 := (hg2.block w.heap.size (by omega) (fun e => by injection e; omega)).trans HB1.out
    have hb2 := (hg2.block (w.heap.size + 1) (by omega) (fun e => by injection e; omega)).trans HB2.out
    clear c10 c11 c12 f10 f11 f12 c20 c21 c22 f20 f21 f22 hn
    obtain ⟨c10, c11, c12, f10, f11, f12⟩ := cells3 hb1
    obtain ⟨c20, c21, c22, f20, f21, f22⟩ := cells3 hb2
    have hb3 : (w2.setCell ⟨w.heap.size, 0, none⟩ (.int .i64 n)).heap[w.heap.size + 1]? = _ := (heap_setCell_other w2 ⟨w.heap.size, 0, none⟩ (w.heap.size + 1) (.int .i64 n) (by simp)).trans hb2
    have HB3 := Lib.hid hb3
    have hG := grown_setCell (p := ⟨w.heap.size, 0, none⟩) (World.grownBy.refl w2 (some w.heap.size)) (.inl rfl) (.int .i64 n)
    have HO3 := Lib.hid ((HO1.out.grown hg2 (.inr (fun e => hgo' (by injection e)))).grown hG (.inr (fun e => by have e' : some go = some w.heap.size := e; simp at e'; omega)))
    have HR3 := Lib.hid (hr2.grown hG hlt)
    have HK3 := Lib.hid ((k1.step hg2 hbw).set ⟨w.heap.size, 0, none⟩ hbw (.int .i64 n))
    have HJ3 := Lib.hid ((J1.out.next hg2 HSg.out).set ⟨w.heap.size, 0, none⟩ (.inr (Nat.le_refl _)) (.int .i64 n))
    have HNI := Lib.hid hni
    clear hb1 hb2 hb3 hG hr2 hg2 hr1 hni
    go_wp2_with fail
    refine ret_box rfl rfl (three_set HB3.out) Tryz.underlying25 rfl Tryz.sizePln rfl ?_
    exact l3BadPost_of (y := ⟨n, x.passes, x.order⟩) (Nat.le_trans hbw (Nat.le_succ _)) hb0 HNI.out i2 HO3.out (by show x.order.length ≤ _; omega) (fun e => by have e' : some go = some (w.heap.size + 1) := e; simp at e'; omega) HR3.out (by omega) HK3.out HJ3.out (Nat.le_succ _) (HPG.out _ _) rfl rfl rfl
  have t0 : (y == 0) = false := by simpa using y0
  by_cases y1 : y = 1
  · have t1 : (y == 1) = true := by simp [y1]
    clear y0 y1
    go_wp2_with fail
    refine (rd_num 3 g (p + 1) _ [0, 5, 4, 1] _ (hr1.alloc _) (by omega) (list_own 3 (g + 1) w1 [0, 5, 4, 1] (by simp [isI64]) (by decide) (by omega)) (by decide)).mono ?_
    rintro e w2 ⟨n, hn, rfl, hr2, hg2⟩
    replace hg2 : w1.grownBy w2 (some g) := grown_trans (World.grownBy_alloc w1 _ _) hg2
    have hni : isI64 n := by simp at hn; unfold isI64; omega
    have hb1 := (hg2.block w.heap.size (by omega) (fun e => by injection e; omega)).trans HB1.out
    have hb2 := (hg2.block (w.heap.size + 1) (by omega) (fun e => by injection e; omega)).trans HB2.out
    clear c10 c11 c12 f10 f11 f12 c20 c21 c22 f20 f21 f22 hn
    obtain ⟨c10, c11, c12, f10, f11, f12⟩ := cells3 hb1
    obtain ⟨c20, c21, c22, f20, f21, f22⟩ := cells3 hb2
    have hb3 : (w2.setCell ⟨w.heap.size, 1, none⟩ (.int .i64 n)).heap[w.heap.size + 1]? = _ := (heap_setCell_other w2 ⟨w.heap.size, 1, none⟩ (w.heap.size + 1) (.int .i64 n) (by simp)).trans hb2
    have HB3 := Lib.hid hb3
    have hG := grown_setCell (p := ⟨w.heap.size, 1, none⟩) (World.grownBy.refl w2 (some w.heap.size)) (.inl rfl) (.int .i64 n)
    have HO3 := Lib.hid ((HO1.out.grown hg2 (.inr (fun e => hgo' (by injection e)))).grown hG (.inr (fun e => by have e' : some go = some w.heap.size := e; simp at e'; omega)))
    have HR3 := Lib.hid (hr2.grown hG hlt)
    have HK3 := Lib.hid ((k1.step hg2 hbw).set ⟨w.heap.size, 1, none⟩ hbw (.int .i64 n))
    have HJ3 := Lib.hid ((J1.out.next hg2 HSg.out).set ⟨w.heap.size, 1, none⟩ (.inr (Nat.le_refl _)) (.int .i64 n))
    have HNI := Lib.hid hni
    clear hb1 hb2 hb3 hG hr2 hg2 hr1 hni
    go_wp2_with fail
    refine ret_box rfl rfl (three_set HB3.out) Tryz.underlying25 rfl Tryz.sizePln rfl ?_
    exact l3BadPost_of (y := ⟨x.bins, n, x.order⟩) (Nat.le_trans hbw (Nat.le_succ _)) hb0 i1 HNI.out HO3.out (by show x.order.length ≤ _; omega) (fun e => by have e' : some go = some (w.heap.size + 1) := e; simp at e'; omega) HR3.out (by omega) HK3.out HJ3.out (Nat.le_succ _) (HPG.out _ _) rfl rfl rfl
  have t1 : (y == 1) = false := by simpa using y1
  by_cases y2 : y = 2
  · have t2 : (y == 2) = true := by simp [y2]
    have n3 : (y == 3) = false := by simp [y2]
    have n4 : (y == 4) = false := by simp [y2]
    clear y0 y1 y2
    obtain ⟨hs0, hc0'⟩ := own_cellStr HO1.out 0 (by omega)
    generalize x.order[0] = s0 at *
    obtain ⟨i0, hi, hz0, hzz1, hzz2⟩ := info_parts Tryz.infoStr
    have HR1 := Lib.hid hr1; clear hr1
    have hpos : 0 < x.order.length := by omega
    have HNE : Hid (some w.heap.size ≠ (Value.slice (some ⟨go, 0, none⟩) x.order.length c0).ownBlock) := fun e => by
      have e' : some w.heap.size = some go := e
      simp at e'; omega
    have hzw : w.heap.size < w1.heap.size := by omega
    have hzg : go < w1.heap.size := by omega
    have HCA : Hid (∀ o : Obj, (w1.alloc o).drew.cell? ⟨w.heap.size, 2, none⟩ = some (.slice (some ⟨go, 0, none⟩) x.order.length c0)) := fun o => (cells3 (W := (w1.alloc o).drew) ((heap_alloc_old w1 o (by omega)).trans HB1.out)).2.2.1
    have HFA : Hid (∀ o : Obj, (w1.alloc o).drew.frozen? ⟨w.heap.size, 2, none⟩ = false) := fun o => (cells3 (W := (w1.alloc o).drew) ((heap_alloc_old w1 o (by omega)).trans HB1.out)).2.2.2.2.2
    go_wp2_with fail
    go_region_law (go_loud ((refine step_append1 (α := ByteArray) (by rfl) (.tmp 22) (.tmp 27) 23 (by rfl) b0 9 i0 _ 16 Tryz.underlying23 hi hz0 hzz1 hzz2 rfl (by decide) (.slice (some ⟨go, 0, none⟩) x.order.length c0) x.order s0 (by rfl) ((HO1.out.alloc _).drew) ⟨w1.heap.size, 0, none⟩ 1 [.string s0] (by rfl) ⟨hs0, rfl⟩ (news_drew w1 _ [.string s0]) (by unfold maxLen; omega) (by omega) (by simp; omega) ?_; intro g' cap w4 ho4 hg4 ha4 hl4; have hc4 : w4.cell? ⟨w.heap.size, 2, none⟩ = some (.slice (some ⟨go, 0, none⟩) x.order.length c0) := (hg4.cell_far ⟨w.heap.size, 2, none⟩ (by simp; omega) HNE.out).trans (HCA.out _); have hf4 : w4.frozen? ⟨w.heap.size, 2, none⟩ = false := (hg4.frozen_far ⟨w.heap.size, 2, none⟩ (by simp; omega) HNE.out).trans (HFA.out _))))
    all_goals
      have hWA : Below b0 w1 (w1.alloc (Obj.cells #[Value.string s0] 9)).drew := ((Below.refl _ _).alloc (by omega) _).drew
      have hJA : Below w.heap.size w1 (w1.alloc (Obj.cells #[Value.string s0] 9)).drew := ((Below.refl _ _).alloc (by omega) _).drew
      have HRA : Hid (rdr (w1.alloc (Obj.cells #[Value.string s0] 9)).drew g (p + 1)) := (HR1.out.alloc _).below ((Below.refl _ _).drew)
      have HOA : Hid (own 9 b0 (w1.alloc (Obj.cells #[Value.string s0] 9)).drew (.slice (some ⟨go, 0, none⟩) x.order.length c0) x.order) := (HO1.out.alloc _).drew
      have hb2A : (w1.alloc (Obj.cells #[Value.string s0] 9)).drew.heap[w.heap.size + 1]? = some (.cells #[.int .i64 0, .int .i64 0, .slice none 0 0] 25 (0, 0)) := (heap_alloc_old w1 _ (by omega)).trans HB2.out
      have hzA : (w1.alloc (Obj.cells #[Value.string s0] 9)).drew.heap.size = w1.heap.size + 1 := by simp
      have hb1A : (w1.alloc (Obj.cells #[Value.string s0] 9)).drew.heap[w.heap.size]? = some (.cells #[.int .i64 x.bins, .int .i64 x.passes, .slice (some ⟨go, 0, none⟩) x.order.length c0] 25 (0, 0)) := (heap_alloc_old w1 _ (by omega)).trans HB1.out
      generalize (w1.alloc (Obj.cells #[Value.string s0] 9)).drew = wA at *
      have h14 := (hg4.block w.heap.size (by omega) (fun e => by have e' : some w.heap.size = some go := e; simp at e'; omega)).trans hb1A
      clear c10 c11 c12 f10 f11 f12 c20 c21 c22 f20 f21 f22 hc0'
      obtain ⟨c10, c11, c12, f10, f11, f12⟩ := cells3 h14
      have h24 := (hg4.block (w.heap.size + 1) (by omega) (fun e => by have e' : some (w.heap.size + 1) = some go := e; simp at e'; omega)).trans hb2A
      obtain ⟨c20, c21, c22, f20, f21, f22⟩ := cells3 h24
      have hk4 : kept2 g b0 w w4 := k1.trans (kept2.below (hWA.trans (below_append HOA.out hg4 (by omega))))
      have HJ4 := Lib.hid ((J1.out.below hJA).next hg4 fun r e => .inl (by have e' : some go = some r := e; injection e' with e'; rw [← e']; exact HSG.out))
      clear hJA
      have HR4 := Lib.hid (HRA.out.append HOA.out hg4 hb0)
      have hgn : g' ≠ w.heap.size ∧ g' ≠ w.heap.size + 1 := by
        rcases ha4 with h | h
        · have e' : some g' = some go := h
          simp at e'; omega
        · omega
      have HPB : Hid (∀ k, (Value.slice (some ⟨g', 0, none⟩) (x.order.length + 1) cap).ownBlock = some k → S k ∨ w.heap.size ≤ k) := fun k e => by
        have e' : some g' = some k := e
        injection e' with e'
        rcases ha4 with h | h
        · have e2 : some g' = some go := h
          injection e2 with e2
          exact .inl (by rw [← e', e2]; exact HSG.out)
        · exact .inr (by omega)
      have HO4 := Lib.hid ho4
      have hb3 : (w4.setCell ⟨w.heap.size, 2, none⟩ (.slice (some ⟨g', 0, none⟩) (x.order.length + 1) cap)).heap[w.heap.size + 1]? = _ := (heap_setCell_other w4 ⟨w.heap.size, 2, none⟩ (w.heap.size + 1) (.slice (some ⟨g', 0, none⟩) (x.order.length + 1) cap) (by simp)).trans h24
      have HB3 := Lib.hid hb3
      have hG := grown_setCell (p := ⟨w.heap.size, 2, none⟩) (World.grownBy.refl w4 (some w.heap.size)) (.inl rfl) (.slice (some ⟨g', 0, none⟩) (x.order.length + 1) cap)
      have HO3 := Lib.hid (HO4.out.grown hG (.inr (fun e => by have e' : some g' = some w.heap.size := e; simp at e'; omega)))
      have HR3 := Lib.hid (HR4.out.grown hG hlt)
      have HK3 := Lib.hid (hk4.set ⟨w.heap.size, 2, none⟩ hbw (.slice (some ⟨g', 0, none⟩) (x.order.length + 1) cap))
      have HJ3 := Lib.hid (HJ4.out.set ⟨w.heap.size, 2, none⟩ (.inr (Nat.le_refl _)) (.slice (some ⟨g', 0, none⟩) (x.order.length + 1) cap))
      clear hb3 hG hk4 h24 h14 hb1A hb2A hg4 ho4 ha4 hWA
      go_wp2_with fail
      refine ret_box rfl rfl (three_set HB3.out) Tryz.underlying25 rfl Tryz.sizePln rfl ?_
      exact l3BadPost_of (y := ⟨x.bins, x.passes, x.order ++ [s0]⟩) (Nat.le_trans hbw (Nat.le_succ _)) hb0 i1 i2 HO3.out (by simp; omega) (fun e => by have e' : some g' = some (w.heap.size + 1) := e; simp at e'; omega) HR3.out (by omega) HK3.out HJ3.out (Nat.le_succ _) HPB.out rfl rfl rfl
  have t2 : (y == 2) = false := by simpa using y2
  by_cases y3 : y = 3
  · have t3 : (y == 3) = true := by simp [y3]
    have n4 : (y == 4) = false := by simp [y3]
    clear y0 y1 y2 y3
    have hpos : 0 < x.order.length := by omega
    obtain ⟨hs0, hcO⟩ := own_cellStr HO1.out 0 hpos
    have hfO : w1.frozen? ⟨go, 0, none⟩ = false := HO1.out.freeAt 0
    have hs7 : x.order[0].size = 7 := HDC.out _ (List.getElem_mem hpos)
    obtain ⟨s0, hs0e⟩ : ∃ z, z = x.order[0] := ⟨_, rfl⟩
    rw [← hs0e] at hcO hs7
    clear hs0 hs0e
    have HR1 := Lib.hid hr1; clear hr1
    have hzw : w.heap.size < w1.heap.size := by omega
    have hzg : go < w1.heap.size := by omega
    have HCO := Lib.hid hcO; have HFO := Lib.hid hfO
    have HC12 := Lib.hid c12
    have HS8 : Hid ((s0 ++ (⟨#[49]⟩ : ByteArray)).size = 8) := by show _ = _; rw [ByteArray.size_append, hs7]; rfl
    have HC1 : Hid (Calls Tryz.prog 81 #[.pointer (some ⟨g, 0, none⟩), .string (s0 ++ (⟨#[49]⟩ : ByteArray))] w1.drew fun e w' => ∃ (t : ByteArray), e = .returned (.string t) ∧ t.size ≤ 9 ∧ rdr w' g (p + 2) ∧ w1.grownBy w' (some g)) := by
      refine (rd_l1Bad g (p + 1) _ _ (HR1.out.below ((Below.refl _ _).drew)) (by omega) (by rw [HS8.out]; omega) (by rw [HS8.out]; omega)).mono ?_
      rintro e w' ⟨t, h1, h2, h3, h4⟩
      exact ⟨t, h1, by rw [HS8.out] at h2; exact h2, h3, ⟨h4.os, h4.tape, h4.output, h4.size, h4.block⟩⟩
    have hzi : (0 : Int) < (x.order.length : Int) := by omega
    have HN1 : Hid (some w.heap.size ≠ some g) := fun e => by injection e; omega
    have HN2 : Hid (some go ≠ some g) := fun e => hgo' (by injection e)
    go_wp2_with fail
    go_region_law (first | (go_simp; go_at_call 81; refine HC1.out.mono ?_; rintro e w2 ⟨t, rfl, ht, hr2, hg2⟩; have cb2 : w2.cell? ⟨w.heap.size, 2, none⟩ = some (.slice (some ⟨go, 0, none⟩) x.order.length c0) := (hg2.cell_far ⟨w.heap.size, 2, none⟩ hzw HN1.out).trans HC12.out; have co2 : w2.cell? ⟨go, 0, none⟩ = some (.string s0) := (hg2.cell_far ⟨go, 0, none⟩ hzg HN2.out).trans HCO.out; have fo2 : w2.frozen? ⟨go, 0, none⟩ = false := (hg2.frozen_far ⟨go, 0, none⟩ hzg HN2.out).trans HFO.out))
    all_goals
      have hb1 := (hg2.block w.heap.size (by omega) HN1.out).trans HB1.out
      have hb2 := (hg2.block (w.heap.size + 1) (by omega) (fun e => by injection e; omega)).trans HB2.out
      have hb3 : (w2.setCell ⟨go, 0, none⟩ (.string t)).heap[w.heap.size]? = _ := (heap_setCell_other w2 ⟨go, 0, none⟩ w.heap.size (.string t) (by show w.heap.size ≠ go; omega)).trans hb1
      have hb4 : (w2.setCell ⟨go, 0, none⟩ (.string t)).heap[w.heap.size + 1]? = _ := (heap_setCell_other w2 ⟨go, 0, none⟩ (w.heap.size + 1) (.string t) (by show w.heap.size + 1 ≠ go; omega)).trans hb2
      clear c10 c11 c12 f10 f11 f12 c20 c21 c22 f20 f21 f22 hcO hfO cb2 co2 fo2
      obtain ⟨c10, c11, c12, f10, f11, f12⟩ := cells3 hb3
      obtain ⟨c20, c21, c22, f20, f21, f22⟩ := cells3 hb4
      have HB4 := Lib.hid hb4
      have HO3 := Lib.hid (own_setText (HO1.out.grown hg2 (.inr HN2.out)) hpos t (by unfold maxLen; omega))
      have hG := grown_setCell (p := ⟨go, 0, none⟩) (World.grownBy.refl w2 (some go)) (.inl rfl) (.string t)
      have HR3 := Lib.hid (hr2.grown hG (by omega))
      have HK3 := Lib.hid ((k1.step hg2 hbw).set ⟨go, 0, none⟩ hgo (.string t))
      have HJ3 := Lib.hid ((J1.out.next hg2 HSg.out).set ⟨go, 0, none⟩ (.inl HSG.out) (.string t))
      clear hb1 hb2 hb3 hb4 hG hr2 hg2
      go_wp2_with fail
      refine ret_box rfl rfl (three_set HB4.out) Tryz.underlying25 rfl Tryz.sizePln rfl ?_
      exact l3BadPost_of (y := ⟨x.bins, x.passes, x.order.set 0 t⟩) (Nat.le_trans hbw (Nat.le_succ _)) hb0 i1 i2 HO3.out (by simp; omega) (fun e => by have e' : some go = some (w.heap.size + 1) := e; simp at e'; omega) HR3.out (by omega) HK3.out HJ3.out (Nat.le_succ _) (HPG.out _ _) rfl rfl rfl
  have t3 : (y == 3) = false := by simpa using y3
  by_cases y4 : y = 4
  · have t4 : (y == 4) = true := by simp [y4]
    clear y0 y1 y2 y3 y4
    have hb3 : (w1.setCell ⟨w.heap.size, 2, none⟩ (.slice (some ⟨go, 0, none⟩) 0 c0)).heap[w.heap.size + 1]? = _ := (heap_setCell_other w1 ⟨w.heap.size, 2, none⟩ (w.heap.size + 1) (.slice (some ⟨go, 0, none⟩) 0 c0) (by simp)).trans HB2.out
    have HB3 := Lib.hid hb3
    have hG := grown_setCell (p := ⟨w.heap.size, 2, none⟩) (World.grownBy.refl w1 (some w.heap.size)) (.inl rfl) (.slice (some ⟨go, 0, none⟩) 0 c0)
    have HO3 := Lib.hid (HO1.out.none_.grown hG (.inr (fun e => by have e' : some go = some w.heap.size := e; simp at e'; omega)))
    have HR3 := Lib.hid (hr1.grown hG hlt)
    have HK3 := Lib.hid (k1.set ⟨w.heap.size, 2, none⟩ hbw (.slice (some ⟨go, 0, none⟩) 0 c0))
    have HJ3 := Lib.hid (J1.out.set ⟨w.heap.size, 2, none⟩ (.inr (Nat.le_refl _)) (.slice (some ⟨go, 0, none⟩) 0 c0))
    clear hb3 hG hr1
    go_wp2_with fail
    refine ret_box rfl rfl (three_set HB3.out) Tryz.underlying25 rfl Tryz.sizePln rfl ?_
    exact l3BadPost_of (y := ⟨x.bins, x.passes, []⟩) (Nat.le_trans hbw (Nat.le_succ _)) hb0 i1 i2 HO3.out (by simp) (fun e => by have e' : some go = some (w.heap.size + 1) := e; simp at e'; omega) HR3.out (by omega) HK3.out HJ3.out (Nat.le_succ _) (HPG.out _ _) rfl rfl rfl
  have t4 : (y == 4) = false := by simpa using y4
  clear y0 y1 y2 y3 y4
  go_wp2_with fail
  refine ret_box rfl rfl (three_set HB2.out) Tryz.underlying25 rfl Tryz.sizePln rfl ?_
  exact l3BadPost_of (y := x) (Nat.le_trans hbw (Nat.le_succ _)) hb0 i1 i2 HO1.out (by omega) (fun e => by have e' : some go = some (w.heap.size + 1) := e; simp at e'; omega) hr1 (by omega) k1 J1.out (Nat.le_succ _) (HPG.out _ _) rfl rfl rfl

end Go.Proofs.YtpinkbodbedajaaGreatDoor

namespace Go.Proofs.YtpinkbodbedajaaGreatDoor
open Go.RowKit

set_option maxRecDepth 100000 in
set_option maxHeartbeats 1000000 in
theorem rd_l4Mail (g p : Nat) (w : World) (hr : rdr w g p) (hp : p ≤ 10000000000) :
    Calls Tryz.prog 46 #[.pointer (some ⟨g, 0, none⟩)] w fun e w' => ∃ (v' : Value) (xs : List Ltr) (p' : Nat), e = .returned v' ∧ own 89 w.heap.size w' v' xs ∧ xs.length ≤ 14 ∧ (∀ y ∈ xs, y.code.size = 7) ∧ rdr w' g p' ∧ p' ≤ p + 300 ∧ w.grownBy w' (some g) := by
  have hlt := hr.lt
  go_enter Tryz.func46, Tryz.ntmps46
  go_wp2_with fail
  refine (rd_pick g p 4 _ hr (by omega) (by unfold isI64; omega)).mono ?_
  rintro e w1 ⟨y, rfl, hy, hr1, hg1⟩
  obtain ⟨y0, y1⟩ := hy.2 (by omega)
  obtain ⟨N, rfl⟩ := Int.eq_ofNat_of_zero_le y0
  have hz1 := hg1.size
  clear hy
  go_wp2_with fail
  refine (rd_l2Some g (p + 1) (1 + N) _ hr1 (by omega) (by omega) (by omega)).mono ?_
  rintro e w2 ⟨v2, xs0, q0, rfl, ho2, hx0, hx7, hr2, hq2, hg2⟩
  have hg02 := grown_trans hg1 hg2
  have k2 : kept2 g w.heap.size w w2 := kept2.grown hg02 (Nat.le_refl _)
  have HO2 := Lib.hid (ho2.base_ (base' := w.heap.size) hz1)
  have HX7 := Lib.hid hx7
  clear hg1 hg2 hr1 hx7 ho2 hg02
  rcases HO2.out.form with ⟨rfl, rfl⟩ | ⟨gl, cl, rfl, hgl1, hgl2, hcl, hml⟩
  · go_wp2_with fail
    go_loopw [4] (fun i wr => i = .int .i64 0 ∧ wr = w2) (fun _ _ => 0)
    case atStart => exact ⟨rfl, rfl⟩
    case round =>
      obtain ⟨rfl, rfl⟩ := hrel
      go_wp2_with fail
      go_ret
      exact ⟨_, [], q0, rfl, own.nil_ _ _ _, by simp, fun y hy => by simp at hy, hr2, by omega, kept2.back (World.grownBy.refl w (some g)) k2 (Nat.le_refl _)⟩
  unfold maxLen at hml
  have hglg : gl ≠ g := by omega
  go_wp2_with fail
  go_loopw [4] (fun i wr => ∃ (k : Nat) (xs : List Ltr) (q : Nat), k ≤ xs0.length ∧ i = .int .i64 k ∧ Hid (xs.length = xs0.length) ∧ Hid (own 89 w.heap.size wr (.slice (some ⟨gl, 0, none⟩) xs0.length cl) xs) ∧ Hid (∀ y ∈ xs, y.code.size = 7) ∧ rdr wr g q ∧ q ≤ q0 + k ∧ kept2 g w.heap.size w wr) (fun i _ => xs0.length - (intOf i).toNat)
  case atStart => exact ⟨0, xs0, q0, Nat.zero_le _, rfl, rfl, HO2.out, HX7.out, hr2, by omega, k2⟩
  case round =>
    obtain ⟨k, xs, q, hk, rfl, HL, HO, HX, hrq, hqb, kr⟩ := hrel
    obtain ⟨w3, rfl⟩ : ∃ w3 : World, w3 = wr := ⟨_, rfl⟩
    clear hr2 k2
    by_cases hkl : k < xs0.length
    · have hki : (k : Int) < (xs0.length : Int) := by omega
      have hkx : k < xs.length := by have := HL.out; omega
      go_wp2_with fail
      refine (rd_l4Code g q _ hrq (by omega)).mono ?_
      rintro e w4 ⟨s, rfl, hs7, hr4, hg4⟩
      have k4 := kr.step hg4 (Nat.le_refl _)
      have ho4 : own 89 w.heap.size w4 (.slice (some ⟨gl, 0, none⟩) xs0.length cl) xs := HO.out.grown hg4 (.inr (fun e => hglg (by injection e)))
      have hid := (own_ltr ho4 k hkx).1.1
      have HO5 := Lib.hid (ho4.setCell (k := k) (j := 1) hkx (by decide) (.string s) ⟨xs[k].id, s⟩ (fun ecs he => by
        obtain ⟨_, rfl⟩ := he
        exact ⟨⟨hid, by rw [hs7]; decide⟩, rfl⟩))
      obtain ⟨u1, g1⟩ := ho4.cellAt (j := k * 2 + 1) (by show _ < _ * 2; omega)
      have f1 := ho4.freeAt (k * 2 + 1)
      have k5 := k4.set ⟨gl, k * 2 + 1, none⟩ hgl1 (.string s)
      have HR5 := Lib.hid (hr4.grown (g' := gl) (grown_setCell (p := ⟨gl, k * 2 + 1, none⟩) (World.grownBy.refl w4 (some gl)) (.inl rfl) (.string s)) (by omega))
      have HS7 := Lib.hid hs7
      clear ho4 hid hg4 HO kr hrq hs7
      go_wp2_with fail
      go_roundw
      case rel =>
        refine ⟨k + 1, _, q + 1, by omega, by go_num, ?_, HO5, ?_, HR5.out, by omega, k5⟩
        · show _ = _
          have := HL.out
          simpa using this
        · intro z hz
          rcases List.mem_or_eq_of_mem_set hz with h | h
          · exact HX.out z h
          · rw [h]; exact HS7.out
      case measure => simp [intOf]; omega
    · go_wp2_with fail
      go_ret
      exact ⟨_, xs, q, rfl, HO.out, by have := HL.out; omega, HX.out, hrq, by omega, kept2.back (World.grownBy.refl w (some g)) kr (Nat.le_refl _)⟩

end Go.Proofs.YtpinkbodbedajaaGreatDoor

namespace Go.Proofs.YtpinkbodbedajaaGreatDoor
open Go.RowKit

/-- A day whose rows are the call's own and lie apart. -/
def ownDy (T1 T2 base : Nat) (w : World) (v : Value) (d : Dy) : Prop :=
  ∃ vo vf vh, v = .agg #[.int .i64 d.plan.bins, .int .i64 d.plan.passes, vo, vf, vh, .int .i64 d.size] ∧ isI64 d.plan.bins ∧ isI64 d.plan.passes ∧ isI64 d.size ∧ own T1 base w vo d.plan.order ∧ own T2 base w vf d.fwds ∧ own T1 base w vh d.held ∧ apart vo vf ∧ apart vo vh ∧ apart vf vh
def l8DayPost (T1 T2 g p : Nat) (w : World) (e : Ending) (w' : World) : Prop :=
  ∃ (v : Value) (d : Dy) (p' : Nat), e = .returned v ∧ ownDy T1 T2 w.heap.size w' v d ∧ drawnP d.plan ∧ d.fwds.length ≤ 8 ∧ drawnF d.fwds ∧ d.held.length ≤ 2 ∧ rdr w' g p' ∧ p' ≤ p + 1300 ∧ w.grownBy w' (some g)

theorem cells6 {W : World} {h T : Nat} {a b c d e f : Value} (hb : W.heap[h]? = some (.cells #[a, b, c, d, e, f] T (0, 0))) :
    W.cell? ⟨h, 0, none⟩ = some a ∧ W.cell? ⟨h, 1, none⟩ = some b ∧ W.cell? ⟨h, 2, none⟩ = some c ∧ W.cell? ⟨h, 3, none⟩ = some d ∧ W.cell? ⟨h, 4, none⟩ = some e ∧ W.cell? ⟨h, 5, none⟩ = some f :=
  ⟨by rw [cell_of_row _ _ _ _ _ _ hb]; rfl, by rw [cell_of_row _ _ _ _ _ _ hb]; rfl, by rw [cell_of_row _ _ _ _ _ _ hb]; rfl, by rw [cell_of_row _ _ _ _ _ _ hb]; rfl, by rw [cell_of_row _ _ _ _ _ _ hb]; rfl, by rw [cell_of_row _ _ _ _ _ _ hb]; rfl⟩
theorem unfrozen6 {W : World} {h T : Nat} {cs : Array Value} (hb : W.heap[h]? = some (.cells cs T (0, 0))) (j : Nat) : W.frozen? ⟨h, j, none⟩ = false := by simp [World.frozen?, hb]

theorem Tryz.sizeDay : (Tryz.prog.info? 28).map (·.size) = some 6 := by kernel_rfl
theorem six_set {w : World} {g : Nat} {T : TypeId} {u0 u1 u2 u3 u4 u5 a b c d e f : Value} (h : w.heap[g]? = some (.cells #[u0, u1, u2, u3, u4, u5] T (0, 0))) :
    ((((((w.setCell ⟨g, 0, none⟩ a).setCell ⟨g, 1, none⟩ b).setCell ⟨g, 2, none⟩ c).setCell ⟨g, 3, none⟩ d).setCell ⟨g, 4, none⟩ e).setCell ⟨g, 5, none⟩ f).heap[g]? = some (.cells #[a, b, c, d, e, f] T (0, 0)) :=
  heap_setCell_same _ _ _ _ _ _ (heap_setCell_same _ _ _ _ _ _ (heap_setCell_same _ _ _ _ _ _ (heap_setCell_same _ _ _ _ _ _ (heap_setCell_same _ _ _ _ _ _ (heap_setCell_same _ _ _ _ _ _ h)))))
theorem six_grown (W : World) (h : Nat) (a b c d e f : Value) :
    W.grownBy ((((((W.setCell ⟨h, 0, none⟩ a).setCell ⟨h, 1, none⟩ b).setCell ⟨h, 2, none⟩ c).setCell ⟨h, 3, none⟩ d).setCell ⟨h, 4, none⟩ e).setCell ⟨h, 5, none⟩ f) (some h) :=
  grown_setCell (p := ⟨h, 5, none⟩) (grown_setCell (p := ⟨h, 4, none⟩) (grown_setCell (p := ⟨h, 3, none⟩) (grown_setCell (p := ⟨h, 2, none⟩) (grown_setCell (p := ⟨h, 1, none⟩) (grown_setCell (p := ⟨h, 0, none⟩) (World.grownBy.refl W (some h)) (.inl rfl) a) (.inl rfl) b) (.inl rfl) c) (.inl rfl) d) (.inl rfl) e) (.inl rfl) f
theorem apart_ne {u v : Value} (h : ∀ k, u.ownBlock = some k → v.ownBlock = some k → False) : apart u v := by
  unfold apart
  cases hu : u.ownBlock with
  | none => exact .inl rfl
  | some k => exact .inr fun e => h k hu e.symm
/-- The end of l8Day. -/
theorem l8DayPost_of {T1 T2 g p q B1 B2 B3 : Nat} {w W : World} {vo vf vh : Value} {d : Dy} (hlt : g < w.heap.size) (hB1 : w.heap.size < B1) (hB2 : B1 ≤ B2) (hB3 : B2 ≤ B3) (i1 : isI64 d.plan.bins) (i2 : isI64 d.plan.passes) (i3 : isI64 d.size)
    (ho : own T1 B1 W vo d.plan.order) (hf : own T2 B2 W vf d.fwds) (hh : own T1 B3 W vh d.held) (hob : ∀ k, vo.ownBlock = some k → k < B2) (hfb : ∀ k, vf.ownBlock = some k → k < B3) (hd : drawnP d.plan) (hfl : d.fwds.length ≤ 8) (hfd : drawnF d.fwds) (hhl : d.held.length ≤ 2)
    (hr : rdr W g q) (hq : q ≤ p + 1300) (J : keptS (fun k => k = g) w W) :
    l8DayPost T1 T2 g p w (.returned (.agg #[.int .i64 d.plan.bins, .int .i64 d.plan.passes, vo, vf, vh, .int .i64 d.size])) ((((((W.setCell ⟨w.heap.size, 0, none⟩ (.int .i64 d.plan.bins)).setCell ⟨w.heap.size, 1, none⟩ (.int .i64 d.plan.passes)).setCell ⟨w.heap.size, 2, none⟩ vo).setCell ⟨w.heap.size, 3, none⟩ vf).setCell ⟨w.heap.size, 4, none⟩ vh).setCell ⟨w.heap.size, 5, none⟩ (.int .i64 d.size)) := by
  have HG := six_grown W w.heap.size (.int .i64 d.plan.bins) (.int .i64 d.plan.passes) vo vf vh (.int .i64 d.size)
  have J2 := J.next HG fun r e => .inr (by injection e with e; omega)
  refine ⟨_, d, q, rfl, ⟨vo, vf, vh, rfl, i1, i2, i3, (ho.grown HG (own_ne ho hB1)).base_ (by omega), (hf.grown HG (own_ne hf (by omega))).base_ (by omega), (hh.grown HG (own_ne hh (by omega))).base_ (by omega), ?_, ?_, ?_⟩, hd, hfl, hfd, hhl, hr.grown HG (by omega), hq, ⟨J2.os, J2.tape, J2.output, J2.size, fun i hi hne => J2.block i hi (fun e => hne (by rw [e]))⟩⟩
  · exact apart_ne fun k h1 h2 => by have := hob k h1; have := (hf.blk k h2).1; omega
  · exact apart_ne fun k h1 h2 => by have := hob k h1; have := (hh.blk k h2).1; omega
  · exact apart_ne fun k h1 h2 => by have := hfb k h1; have := (hh.blk k h2).1; omega

set_option maxRecDepth 100000 in
set_option maxHeartbeats 1000000 in
theorem rd_l8Day (g p : Nat) (w : World) (hr : rdr w g p) (hp : p ≤ 1000000000) :
    Calls Tryz.prog 44 #[.pointer (some ⟨g, 0, none⟩)] w (l8DayPost 9 94 g p w) := by
  have hlt := hr.lt
  obtain ⟨wA, hwA⟩ : ∃ u, u = w.alloc (Obj.cells #[.int .i64 0, .int .i64 0, .slice none 0 0, .slice none 0 0, .slice none 0 0, .int .i64 0] 28) := ⟨_, rfl⟩
  have hrA : rdr wA g p := by rw [hwA]; exact hr.alloc _
  have hzA : wA.heap.size = w.heap.size + 1 := by rw [hwA]; simp
  have hbA : wA.heap[w.heap.size]? = some (.cells #[.int .i64 0, .int .i64 0, .slice none 0 0, .slice none 0 0, .slice none 0 0, .int .i64 0] 28 (0, 0)) := by rw [hwA]; exact heap_alloc_new w _
  have hgA : w.grownBy wA (some g) := by rw [hwA]; exact World.grownBy_alloc w _ _
  have HWA := Lib.hid hwA; clear hwA
  go_enter Tryz.func44, Tryz.ntmps44
  go_wp2_with fail
  rw [← HWA.out]
  refine (rd_l3Some g p _ hrA (by omega)).mono ?_
  rintro e w1 ⟨v, x, p1, rfl, ov, hd, hr1, hp1, hg1⟩
  obtain ⟨hd1, hd2, hd3, hd4, hd5, hd6, hd7⟩ := hd
  have HD7 := Lib.hid hd7; clear hd7
  obtain ⟨vo, rfl, i1, i2, hvo⟩ := ov
  rcases hvo.form with ⟨_, h0⟩ | ⟨go, co, rfl, hgo1, hgo2, hco, hmo⟩
  · rw [h0] at hd5; simp at hd5
  have hlt1 := hr1.lt
  have hz1 := hg1.size
  unfold maxLen at hmo
  go_wp2_with fail
  refine (rd_l4Some g p1 _ hr1 (by omega)).mono ?_
  rintro e w2 ⟨vf, fs, p2, rfl, of_, hfl, hfd, hr2, hp2, hg2⟩
  have o2 := hvo.grown hg2 (own_ne hvo (by omega))
  have hgw2 := grown_trans hg1 hg2
  have HFD := Lib.hid hfd
  have hz2 := hg2.size
  obtain ⟨Af, nf, cf, hvf, hnf, _, _, _⟩ := of_.rd
  subst hnf hvf
  clear hvo hg1 hg2 hr1 hfd
  go_wp2_with fail
  refine (rd_pick g p2 6 _ hr2 (by omega) (by unfold isI64; omega)).mono ?_
  rintro e w3 ⟨y, rfl, hy, hr3, hg3⟩
  obtain ⟨y0, y1⟩ := hy.2 (by omega)
  have o3 := o2.grown hg3 (own_ne o2 (by omega))
  have f3 := of_.grown hg3 (own_ne of_ (by omega))
  have hgw3 := grown_trans hgw2 hg3
  have hz3 := hg3.size
  have hwy : IntKind.i64.wrap (1 + y) = 1 + y := IntWalk.i64_in _ (by omega)
  clear hy o2 of_ hg3 hr2 hgw2
  obtain ⟨wB, hwB⟩ : ∃ u, u = w3.alloc (Obj.cells #[.int .i64 x.bins, .int .i64 x.passes, .slice (some ⟨go, 0, none⟩) x.order.length co, .slice Af fs.length cf, .slice none 0 0, .int .i64 (1 + y)] 28) := ⟨_, rfl⟩
  have hBB : Below w3.heap.size w3 wB := by rw [hwB]; exact (Below.refl _ _).alloc (Nat.le_refl _) _
  have hrB : rdr wB g (p2 + 1) := by rw [hwB]; exact hr3.alloc _
  have hzB : wB.heap.size = w3.heap.size + 1 := by rw [hwB]; simp
  have hbB : wB.heap[w3.heap.size]? = some (.cells #[.int .i64 x.bins, .int .i64 x.passes, .slice (some ⟨go, 0, none⟩) x.order.length co, .slice Af fs.length cf, .slice none 0 0, .int .i64 (1 + y)] 28 (0, 0)) := by rw [hwB]; exact heap_alloc_new w3 _
  have oB := o3.below hBB
  have fB := Lib.hid (f3.below hBB)
  have HF3 : Hid (∀ j, (Value.slice Af fs.length cf).ownBlock = some j → j ≠ w3.heap.size) := fun j hj => by have := (f3.blk j hj).2; omega
  have hgB : wA.grownBy wB (some g) := grown_below hgw3 hBB
  have hlt2 := o3.blk go rfl
  have HWB := Lib.hid hwB; clear hwB o3 f3 hgw3 hBB hr3
  have HBA := Lib.hid ((hgB.block w.heap.size (by omega) (fun e => by injection e; omega)).trans hbA)
  have HBB := Lib.hid hbB
  clear hbA hbB
  go_wp2_with fail
  try rw [← HWB.out]
  have hS0 : keptS (fun k => k = g ∨ k = go) wB wB := keptS.refl _ _
  go_loopw [4] (fun i wr => ∃ (k : Nat) (xs : List ByteArray) (q : Nat), k ≤ x.order.length ∧ i = .int .i64 k ∧ Hid (xs.length = x.order.length) ∧ Hid (drawnC xs) ∧ Hid (own 9 wA.heap.size wr (.slice (some ⟨go, 0, none⟩) x.order.length co) xs) ∧ rdr wr g q ∧ q ≤ p2 + 1 + k ∧ keptS (fun k => k = g ∨ k = go) wB wr) (fun i _ => x.order.length - (intOf i).toNat)
  case atStart => exact ⟨0, x.order, p2 + 1, Nat.zero_le _, rfl, rfl, HD7.out, oB, hrB, by omega, hS0⟩
  case round =>
    obtain ⟨k, xs, q, hk, rfl, HL, HX, HO, hrq, hqb, kr⟩ := hrel
    obtain ⟨w4, rfl⟩ : ∃ w4 : World, w4 = wr := ⟨_, rfl⟩
    clear hrB hS0 oB
    have hb4 := (kr.block w3.heap.size (by omega) (by omega)).trans HBB.out
    obtain ⟨c0, c1, c2, c3, c4, c5⟩ := cells6 hb4
    have HB4 := Lib.hid hb4; clear hb4
    by_cases hlt4 : k < x.order.length
    · have hki : (k : Int) < (x.order.length : Int) := by omega
      go_wp2_with fail
      refine (rd_l4Code g q _ hrq (by omega)).mono ?_
      rintro e w5 ⟨s, rfl, hs7, hr5, hg5⟩
      have k5 := kr.next hg5 fun r e => .inl (.inl (by injection e with e; exact e.symm))
      have HO5 := Lib.hid (HO.out.grown hg5 (.inr (fun e => by have e' : some go = some g := e; injection e'; omega)))
      have HS7 := Lib.hid hs7
      clear c0 c1 c2 c3 c4 c5 hg5 hrq kr hs7 HB4
      have hb5 := (k5.block w3.heap.size (by omega) (by omega)).trans HBB.out
      obtain ⟨c0, c1, c2, c3, c4, c5⟩ := cells6 hb5
      clear hb5
      obtain ⟨r, HRR⟩ : ∃ r, Hid (rkI xs s = r) := ⟨_, rfl⟩
      have hrd5 : rd w5 w5.heap.size (.slice (some ⟨go, 0, none⟩) x.order.length co) xs := HO5.out.rd
      have HRD5 := Lib.hid hrd5; clear hrd5
      go_wp2_with fail
      refine (l3RankI_is HRD5.out HRR.out).mono ?_
      rintro e _ ⟨rfl, rfl⟩
      by_cases hr0 : r < 0
      · have hkx : k < xs.length := by have := HL.out; omega
        have f0 := HO5.out.freeAt k
        obtain ⟨u1, g1⟩ := HO5.out.cellAt (j := k) (by show k < xs.length * 1; omega)
        have HO6 := Lib.hid (own_setText HO5.out hkx s (by rw [HS7.out]; decide))
        have HR6 := Lib.hid (hr5.grown (g' := go) (grown_setCell (p := ⟨go, k, none⟩) (World.grownBy.refl w5 (some go)) (.inl rfl) (.string s)) (by omega))
        have k6 := k5.set ⟨go, k, none⟩ (.inl (.inr rfl)) (.string s)
        clear hr5 k5
        go_wp2_with fail
        go_roundw
        case rel =>
          refine ⟨k + 1, _, q + 1, by omega, by go_num, ?_, ?_, HO6, HR6.out, by omega, k6⟩
          · show _ = _
            have := HL.out
            simpa using this
          · intro z hz
            rcases List.mem_or_eq_of_mem_set hz with h | h
            · exact HX.out z h
            · rw [h]; exact HS7.out
        case measure => simp [intOf]; omega
      · go_wp2_with fail
        go_roundw
        case rel => exact ⟨k + 1, xs, q + 1, by omega, by go_num, HL, HX, HO5, hr5, by omega, k5⟩
        case measure => simp [intOf]; omega
    · go_wp2_with fail
      refine (rd_pick g q 3 _ hrq (by omega) (by unfold isI64; omega)).mono ?_
      rintro e w5 ⟨z, rfl, hz, hr5, hg5⟩
      obtain ⟨z0, z1⟩ := hz.2 (by omega)
      obtain ⟨N2, rfl⟩ := Int.eq_ofNat_of_zero_le z0
      have k5 := kr.next hg5 fun r e => .inl (.inl (by injection e with e; exact e.symm))
      have HO5 := Lib.hid (HO.out.grown hg5 (.inr (fun e => by have e' : some go = some g := e; injection e'; omega)))
      have hb5 := (k5.block w3.heap.size (by omega) (by omega)).trans HBB.out
      have hA5 := (k5.block w.heap.size (by omega) (by omega)).trans HBA.out
      have F5 := Lib.hid (fB.out.keepBlk (w' := w5) fun j hj => k5.block j (fB.out.blk j hj).2 (by have := (fB.out.blk j hj).1; intro h; rcases h with h | h <;> omega))
      have J5 : keptS (fun k => k = g) w w5 := by
        have h1 : w.grownBy wB (some g) := grown_trans hgA hgB
        exact ⟨k5.os.trans h1.os, k5.tape.trans h1.tape, k5.output.trans h1.output, Nat.le_trans h1.size k5.size, fun j hj hn => (k5.block j (Nat.lt_of_lt_of_le hj h1.size) (by intro h; rcases h with h | h <;> omega)).trans (h1.block j hj (fun e => by injection e; omega))⟩
      have hz5 := k5.size
      have hwB := k5.size
      clear hz hg5 HO hrq kr c0 c1 c2 c3 c4 c5 HB4
      obtain ⟨i0, hi, hz0, hzz1, hzz2⟩ := info_parts Tryz.infoStr
      go_wp2_with fail
      go_loopw [6] (fun i wr => ∃ (k : Nat) (hs : List ByteArray) (vh : Value) (q : Nat), k ≤ N2 ∧ i = .int .i64 k ∧ hs.length + k ≤ N2 ∧ wr.heap[w3.heap.size]? = some (.cells #[.int .i64 x.bins, .int .i64 x.passes, .slice (some ⟨go, 0, none⟩) x.order.length co, .slice Af fs.length cf, vh, .int .i64 (1 + y)] 28 (0, 0)) ∧ wr.heap[w.heap.size]? = some (.cells #[.int .i64 0, .int .i64 0, .slice none 0 0, .slice none 0 0, .slice none 0 0, .int .i64 0] 28 (0, 0)) ∧ Hid (own 9 wB.heap.size wr vh hs) ∧ Hid (own 9 wA.heap.size wr (.slice (some ⟨go, 0, none⟩) x.order.length co) xs) ∧ Hid (own 94 w1.heap.size wr (.slice Af fs.length cf) fs) ∧ rdr wr g q ∧ q + k ≤ p2 + 200 + N2 ∧ keptS (fun k => k = g) w wr ∧ wB.heap.size ≤ wr.heap.size) (fun i _ => (intOf i).toNat)
      case atStart => exact ⟨N2, [], .slice none 0 0, q + 1, Nat.le_refl _, rfl, by simp, hb5, hA5, own.nil_ _ _ _, HO5.out, F5.out, hr5, by omega, J5, hwB⟩
      case round =>
        obtain ⟨k2, hs, vh, q2, hk2, rfl, hhs, hb6, hA6, HH, HO6, F6, hrq2, hq2, J6, hz6⟩ := hrel
        obtain ⟨w6, rfl⟩ : ∃ w6 : World, w6 = wr := ⟨_, rfl⟩
        clear hb5 hA5 HO5 F5 hr5 J5 hz5 k5 hwB
        by_cases hk0 : 0 < k2
        · obtain ⟨c0, c1, c2, c3, c4, c5⟩ := cells6 hb6
          have f4 := unfrozen6 hb6 4
          have HB6 := Lib.hid hb6
          have HC1 : Hid (Calls Tryz.prog 106 #[.pointer (some ⟨g, 0, none⟩)] w6.drew fun e w' => ∃ s : ByteArray, e = .returned (.string s) ∧ s.size = 7 ∧ rdr w' g (q2 + 1) ∧ w6.grownBy w' (some g)) := by
            refine (rd_l4Code g q2 _ (hrq2.below ((Below.refl _ _).drew)) (by omega)).mono ?_
            rintro e w' ⟨t, h1, h2, h3, h4⟩
            exact ⟨t, h1, h2, h3, ⟨h4.os, h4.tape, h4.output, h4.size, h4.block⟩⟩
          have hz36 : w3.heap.size < w6.heap.size := by omega
          have HNG : Hid (some w3.heap.size ≠ some g) := fun e => by injection e; omega
          have hh20 : hs.length ≤ 20 := by omega
          obtain ⟨Ah, nh, ch, hvh, hnh, _, _, _⟩ := HH.out.rd
          subst hnh hvh
          go_wp2_with fail
          have HNE : Hid (some w3.heap.size ≠ (Value.slice Ah hs.length ch).ownBlock) := fun e => by have := (HH.out.blk _ e.symm).1; omega
          go_region_law (first | (go_simp; go_at_call 106; (with_reducible refine HC1.out.mono ?_); rintro e w7 ⟨s, rfl, hs7, hr7, hg7⟩; have c47 : w7.cell? ⟨w3.heap.size, 4, none⟩ = some (.slice Ah hs.length ch) := (hg7.cell_far ⟨w3.heap.size, 4, none⟩ hz36 HNG.out).trans c4; have o7 := HH.out.grown hg7 (own_ne HH.out (by omega)); have hz7 := hg7.size; have c47a : (w7.alloc (Obj.cells #[Value.string s] 9)).cell? ⟨w3.heap.size, 4, none⟩ = some (.slice Ah hs.length ch) := (World.cell?_alloc_lt w7 _ ⟨w3.heap.size, 4, none⟩ (by show w3.heap.size < w7.heap.size; omega)).trans c47) | (refine step_append1 (α := ByteArray) (by rfl) (.tmp 44) (.tmp 47) 23 (by rfl) wB.heap.size 9 i0 _ 16 Tryz.underlying23 hi hz0 hzz1 hzz2 rfl (by decide) (.slice Ah hs.length ch) hs s (by rfl) (o7.alloc _) ⟨w7.heap.size, 0, none⟩ 1 [.string s] (by rfl) ⟨by rw [hs7]; decide, rfl⟩ (news_at w7 _ [.string s]) (by unfold maxLen; omega) (by omega) (by simp; omega) ?_; intro g' cap w9 o9 hg9 ha9 hl9; have hb49 := (hg9.block w3.heap.size (by simp; omega) HNE.out).trans ((heap_alloc_old w7 _ (by omega)).trans ((hg7.block w3.heap.size hz36 HNG.out).trans HB6.out)); have c49 := (cells6 hb49).2.2.2.2.1; have f49 := unfrozen6 hb49 4))
          all_goals
            have hb10 : (w9.setCell ⟨w3.heap.size, 4, none⟩ (.slice (some ⟨g', 0, none⟩) (hs.length + 1) cap)).heap[w3.heap.size]? = some (.cells #[.int .i64 x.bins, .int .i64 x.passes, .slice (some ⟨go, 0, none⟩) x.order.length co, .slice Af fs.length cf, .slice (some ⟨g', 0, none⟩) (hs.length + 1) cap, .int .i64 (1 + y)] 28 (0, 0)) := heap_setCell_same _ _ _ _ _ _ hb49
            have HGS := grown_setCell (p := ⟨w3.heap.size, 4, none⟩) (World.grownBy.refl w9 (some w3.heap.size)) (.inl rfl) (.slice (some ⟨g', 0, none⟩) (hs.length + 1) cap)
            have hz9 := hg9.size
            have hzal : (w7.alloc (Obj.cells #[Value.string s] 9)).heap.size = w7.heap.size + 1 := by simp
            have HFR : ∀ j, j < w6.heap.size → j ≠ g → some j ≠ (Value.slice Ah hs.length ch).ownBlock → j ≠ w3.heap.size → (w9.setCell ⟨w3.heap.size, 4, none⟩ (.slice (some ⟨g', 0, none⟩) (hs.length + 1) cap)).heap[j]? = w6.heap[j]? := fun j h1 h2 h3 h4 =>
              (HGS.block j (by omega) (fun e => by injection e; omega)).trans ((hg9.block j (by omega) h3).trans ((heap_alloc_old w7 _ (by omega)).trans (hg7.block j h1 (fun e => by injection e; omega))))
            have HO10 := Lib.hid (HO6.out.keepBlk (w' := w9.setCell ⟨w3.heap.size, 4, none⟩ (.slice (some ⟨g', 0, none⟩) (hs.length + 1) cap)) fun j hj => by
              have e' : some go = some j := hj
              injection e' with e'
              subst e'
              exact HFR go (HO6.out.blk go rfl).2 (by omega) (fun e => by have := (HH.out.blk _ e.symm).1; omega) (by omega))
            have F10 := Lib.hid (F6.out.keepBlk (w' := w9.setCell ⟨w3.heap.size, 4, none⟩ (.slice (some ⟨g', 0, none⟩) (hs.length + 1) cap)) fun j hj => by
              have h1 := (F6.out.blk j hj).1
              have h2 := (fB.out.blk j hj).2
              exact HFR j (F6.out.blk j hj).2 (by omega) (fun e => by have := (HH.out.blk _ e.symm).1; omega) (HF3.out j hj))
            have hA10 := (HFR w.heap.size (by omega) (by omega) (fun e => by have := (HH.out.blk _ e.symm).1; omega) (by omega)).trans hA6
            have O10 := Lib.hid (o9.grown HGS (.inr (fun e => by have e' : some g' = some w3.heap.size := e; injection e'; have := (o9.blk g' rfl).1; omega)))
            have R10 := ((hr7.alloc (Obj.cells #[Value.string s] 9)).append (o7.alloc _) hg9 (by omega)).grown (g' := w3.heap.size) HGS (by omega)
            have J10 := (((J6.next hg7 fun r e => .inl (by injection e with e; exact e.symm)).alloc (Obj.cells #[Value.string s] 9)).next hg9 fun r e => .inr (by have := (HH.out.blk r e).1; omega)).set ⟨w3.heap.size, 4, none⟩ (.inr (by show w.heap.size ≤ w3.heap.size; omega)) (.slice (some ⟨g', 0, none⟩) (hs.length + 1) cap)
            have hz10 := HGS.size
            clear hb49 c49 f49 c47 c47a c0 c1 c2 c3 c4 c5 f4 hg7 hg9 o7 o9 hr7 HFR
            go_wp2_with fail
            go_roundw
            case rel => exact ⟨k2 - 1, _, _, q2 + 1, by omega, by go_num, by simp; omega, hb10, hA10, O10.out, HO10.out, F10.out, R10, by omega, J10, by omega⟩
            case measure => simp [intOf]; omega
        · obtain ⟨c0, c1, c2, c3, c4, c5⟩ := cells6 hb6
          obtain ⟨a0, a1, a2, a3, a4, a5⟩ := cells6 hA6
          have u0 := unfrozen6 hA6
          obtain ⟨Ah, nh, ch, hvh, hnh, _, _, _⟩ := HH.out.rd
          subst hnh hvh
          go_wp2_with fail
          refine ret_box rfl rfl (six_set hA6) Tryz.underlying28 rfl Tryz.sizeDay rfl ?_
          have hLN : xs.length = x.order.length := HL.out
          exact l8DayPost_of (d := ⟨⟨x.bins, x.passes, xs⟩, fs, hs, 1 + y⟩) (B1 := wA.heap.size) (B2 := w1.heap.size) (B3 := wB.heap.size) hlt (by omega) (by omega) (by omega) i1 i2 (by show isI64 (1 + y); unfold isI64; omega) HO6.out F6.out HH.out (fun j hj => by have e' : some go = some j := hj; injection e'; omega) (fun j hj => (fB.out.blk j hj).2) ⟨hd1, hd2, hd3, hd4, by show 1 ≤ xs.length; omega, by show xs.length ≤ 100; omega, HX.out⟩ hfl HFD.out (by show hs.length ≤ 2; omega) hrq2 (by omega) J6

end Go.Proofs.YtpinkbodbedajaaGreatDoor

namespace Go.Proofs.YtpinkbodbedajaaGreatDoor
open Go.RowKit

set_option maxHeartbeats 400000 in
theorem rd_of (T g p : Nat) (v : Value) (xs : List ByteArray) (w : World) (hr : rdr w g p) (hp : p ≤ 1099511627776) (hv : own T (g + 1) w v xs) (h0 : 0 < xs.length) :
    Calls Tryz.prog 80 #[.pointer (some ⟨g, 0, none⟩), v] w fun e w' => ∃ x ∈ xs, e = .returned (.string x) ∧ x.size ≤ maxLen ∧ rdr w' g (p + 1) ∧ w.grownBy w' (some g) := by
  have hlen : xs.length ≤ maxLen := by
    obtain ⟨A, n, c, _, hn, hc, hm, _⟩ := hv.rd
    omega
  have hne : v.ownBlock = none ∨ v.ownBlock ≠ some g := by
    cases hb : v.ownBlock with
    | none => exact .inl rfl
    | some k => exact .inr fun e => by have := (hv.blk k hb).1; injection e; omega
  have HV := Lib.hid (fun (W : World) (hg : w.grownBy W (some g)) => (hv.grown hg hne).rd)
  obtain ⟨A, n, c, rfl, hn, hc, hm, _⟩ := hv.rd
  subst hn
  unfold maxLen at hm
  clear hne hv
  go_enter Tryz.func80, Tryz.ntmps80
  go_wp2_with fail
  refine (rd_pick g p _ w hr hp ⟨by omega, by omega⟩).mono ?_
  rintro e w1 ⟨x, rfl, hx, hr1, hg⟩
  obtain ⟨x0, x1⟩ := hx.2 (by omega)
  obtain ⟨q, rfl⟩ := Int.eq_ofNat_of_zero_le x0
  obtain ⟨A', n', c', e1, _, _, _, hrd⟩ := HV.out w1 hg
  injection e1 with e1 e2 e3
  subst e1
  obtain ⟨b, o, rfl, hb, hi, c1⟩ := hrd.str q (by omega)
  have hmem : xs[q]'(by omega) ∈ xs := List.getElem_mem _
  have HI := Lib.hid hi
  generalize xs[q] = y at *
  have HM := Lib.hid hmem; clear hmem hx e2 e3
  go_wp2
  go_ret
  exact ⟨y, HM.out, rfl, HI.out, hr1, hg⟩

/-- Texts of one's own, just made. -/
theorem list_str (T base : Nat) (w : World) (xs : List ByteArray) (hx : ∀ x ∈ xs, x.size ≤ maxLen) (hm : xs.length ≤ maxLen) (hb : base ≤ w.heap.size) :
    own T base (w.alloc (Obj.cells (xs.map Value.string).toArray T)) (.slice (some ⟨w.heap.size, 0, none⟩) xs.length xs.length) xs := by
  have h1 : (xs.map fun x => [Value.string x]).flatten = xs.map Value.string := by
    clear hm hx
    induction xs with
    | nil => rfl
    | cons x xs ih => simp [ih]
  refine ⟨xs.map fun x => [Value.string x], ⟨?_, .inr ⟨w.heap.size, xs.length, _, rfl, hb, heap_alloc_new w _, Nat.le_refl _, hm, by simp [El.size], ?_⟩⟩, by simp, fun k hk hk' => ?_⟩
  · rw [h1]
    simp [El.size]
  · rw [h1]
    simp only [El.size, Nat.mul_one]
    exact List.take_of_length_le (by simp)
  · simp only [List.getElem_map]
    exact ⟨hx _ (List.getElem_mem hk), rfl⟩
end Go.Proofs.YtpinkbodbedajaaGreatDoor
