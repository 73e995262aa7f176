/- DZ -/
import Derived.Test.YtekjjgnokjhleaaQ35
namespace Go.Proofs.Ytekjjgnokjhleaa
open Go.RowKit

set_option maxRecDepth 100000 in
set_option maxHeartbeats 800000 in
theorem draw_DrawInOrder (v : Value) (bs : List UInt8) (w : World) (hv : rd w w.heap.size v bs) :
    Calls Try.prog 101 #[v] w (draw2BPost 9 44 w) := by
  obtain ⟨wA, hwA⟩ : ∃ u, u = w.alloc (Obj.cells #[.int .i64 0, .int .i64 0, .slice none 0 0] 25) := ⟨_, rfl⟩
  have hBA : Below w.heap.size w wA := by rw [hwA]; exact (Below.refl _ _).alloc (Nat.le_refl _) _
  have hzA : wA.heap.size = w.heap.size + 1 := by rw [hwA]; simp
  have hbA : wA.heap[w.heap.size]? = some (.cells #[.int .i64 0, .int .i64 0, .slice none 0 0] 25 (0, 0)) := by rw [hwA]; exact heap_alloc_new w _
  have hvA := hv.on hBA
  have HWA := Lib.hid hwA; clear hwA
  go_enter Try.func101, Try.ntmps101
  go_wp2_with fail
  rw [← HWA.out]
  refine (rd_open _ bs _ hvA).mono ?_
  rintro e w1 ⟨g, rfl, hg, hr1, b1⟩
  have hlt := hr1.lt
  have hz1 := b1.size
  have hb1 := (b1.block w.heap.size (by omega)).trans hbA
  have hB1 : Below w.heap.size w w1 := hBA.trans (b1.mono (by omega))
  have hv1 := hvA.on b1
  clear hbA hBA hv hvA b1
  go_wp2_with fail
  refine (draw_DrawRunPlan _ bs _ hv1).mono ?_
  rintro e w2 ⟨v2, vb, x, xs, rfl, ov, ob, hxl, hol, b2⟩
  have hz2 := b2.size
  have hb2 := (b2.block w.heap.size (by omega)).trans hb1
  have hB2 : Below w.heap.size w w2 := hB1.trans (b2.mono (by omega))
  have hr2 := hr1.below b2
  have OV := Lib.hid ov
  obtain ⟨vo, rfl, i1, i2, ho⟩ := ov
  obtain ⟨A, n, c, hvo, hn, _, _, _⟩ := ho.rd
  subst hn hvo
  clear ho b2 hb1 hB1 hv1 hr1
  obtain ⟨wC, hwC⟩ : ∃ u, u = w2.alloc (Obj.cells #[.int .i64 x.bins, .int .i64 x.passes, .slice A x.order.length c] 25) := ⟨_, rfl⟩
  have hBC : Below w2.heap.size w2 wC := by rw [hwC]; exact (Below.refl _ _).alloc (Nat.le_refl _) _
  have hzC : wC.heap.size = w2.heap.size + 1 := by rw [hwC]; simp
  have hb3 := (hBC.block w.heap.size (by omega)).trans hb2
  have hB3 : Below w.heap.size w wC := hB2.trans (hBC.mono (by omega))
  have OV3 : Hid (ownP 9 w1.heap.size wC (.agg #[.int .i64 x.bins, .int .i64 x.passes, .slice A x.order.length c]) x) := OV.out.keepBlk fun k hk => hBC.block k (planBlk_own OV.out k hk).2
  have OB3 := Lib.hid (ob.below hBC)
  have hr3 := hr2.below hBC
  have hbC : wC.heap[w2.heap.size]? = some (.cells #[.int .i64 x.bins, .int .i64 x.passes, .slice A x.order.length c] 25 (0, 0)) := by rw [hwC]; exact heap_alloc_new w2 _
  have HWC := Lib.hid hwC; clear hwC
  have HK2 : Hid (∀ W, wC.grownBy W (some g) → W.heap[w.heap.size]? = some (.cells #[.int .i64 0, .int .i64 0, .slice none 0 0] 25 (0, 0))) := fun W h => (h.block w.heap.size (by omega) (fun e => by injection e; omega)).trans hb3
  have HK6 : Hid (∀ W, wC.grownBy W (some g) → W.heap[w2.heap.size]? = some (.cells #[.int .i64 x.bins, .int .i64 x.passes, .slice A x.order.length c] 25 (0, 0))) := fun W h => (h.block w2.heap.size (by omega) (fun e => by injection e; omega)).trans hbC
  have HKV : Hid (∀ W, wC.grownBy W (some g) → ownP 9 w1.heap.size W (.agg #[.int .i64 x.bins, .int .i64 x.passes, .slice A x.order.length c]) x) := fun W h => OV3.out.grown h (fun r e => by injection e with e; omega)
  have HKO : Hid (∀ W, wC.grownBy W (some g) → own 44 w1.heap.size W vb xs) := fun W h => OB3.out.grown h (own_ne OB3.out (by omega))
  have HKB : Hid (∀ W, wC.grownBy W (some g) → Below w.heap.size w W) := fun W h => hB3.trans (below_of_grown h hB3.size (fun r e => by injection e; omega))
  clear hb2 hB2 hr2 hb3 hB3 hbC hBC ob
  go_wp2_with fail
  rw [← HWC.out]
  refine (spec_RunPlan _ _ x xs _ OV3.out.rdp OB3.out.rd).mono ?_
  rintro e w4 ⟨vL, vO, rfl, oL, _, _, b4⟩
  have hg4 : wC.grownBy w4 (some g) := grown_below (World.grownBy.refl wC (some g)) b4
  have hr4 := hr3.below b4
  have hL : (rpRound x xs).length ≤ 61 := by
    unfold rpRound
    split
    · have := passesN_len x x.passes.toNat 0 xs; omega
    · simp
  have OL := Lib.hid oL
  have hz4 := b4.size
  clear oL b4 hr3
  generalize rpRound x xs = L at *
  have hbox2 := HK2.out _ hg4
  have hbox6 := HK6.out _ hg4
  obtain ⟨a0, a1, a2, f0, f1, f2⟩ := cells3 hbox2
  obtain ⟨e0, e1, e2, _, _, _⟩ := cells3 hbox6
  cases hok : rpOk x xs
  · clear hok
    go_wp2_with fail
    refine ret_box1 rfl rfl (three_set hbox2) Try.underlying25 rfl Try.sizePln rfl ?_
    exact draw2BPost_of (B := w1.heap.size) (Nat.le_refl _) (by omega) (HKV.out _ hg4) (HKO.out _ hg4) hxl hol (HKB.out _ hg4) rfl hbox2
  clear hok
  go_wp2_with fail
  refine (rd_pick g 0 2 _ hr4 (by omega) (by unfold isI64; omega)).mono ?_
  rintro e w5 ⟨y, rfl, hy, _, hgp⟩
  have hg5 := grown_trans hg4 hgp
  have OL5 := Lib.hid (OL.out.grown hgp (own_ne OL.out (by omega)))
  clear hy hgp hr4 hg4 a0 a1 a2 f0 f1 f2 e0 e1 e2 hbox2 hbox6
  have hbox2 := HK2.out _ hg5
  have hbox6 := HK6.out _ hg5
  obtain ⟨a0, a1, a2, f0, f1, f2⟩ := cells3 hbox2
  obtain ⟨e0, e1, e2, _, _, _⟩ := cells3 hbox6
  by_cases hy0 : y = 0
  · have d0 : (y == 0) = true := by simp [hy0]
    clear hy0
    go_wp2_with fail
    refine ret_box1 rfl rfl (three_set hbox2) Try.underlying25 rfl Try.sizePln rfl ?_
    exact draw2BPost_of (B := w1.heap.size) (Nat.le_refl _) (by omega) (HKV.out _ hg5) (OL5.out.base_ (by omega)) hL hol (HKB.out _ hg5) rfl hbox2
  · have d0 : (y == 0) = false := by simp [hy0]
    clear hy0
    go_wp2_with fail
    refine ret_box1 rfl rfl (three_set hbox2) Try.underlying25 rfl Try.sizePln rfl ?_
    exact draw2BPost_of (B := w1.heap.size) (Nat.le_refl _) (by omega) (HKV.out _ hg5) (HKO.out _ hg5) hxl hol (HKB.out _ hg5) rfl hbox2

set_option maxRecDepth 100000 in
theorem draw_DrawKeptLetters (v : Value) (bs : List UInt8) (w : World) (hv : rd w w.heap.size v bs) :
    Calls Try.prog 56 #[v] w (draw2BPost 9 44 w) := by
  obtain ⟨wA, hwA⟩ : ∃ u, u = w.alloc (Obj.cells #[.int .i64 0, .int .i64 0, .slice none 0 0] 25) := ⟨_, rfl⟩
  have hBA : Below w.heap.size w wA := by rw [hwA]; exact (Below.refl _ _).alloc (Nat.le_refl _) _
  have hzA : wA.heap.size = w.heap.size + 1 := by rw [hwA]; simp
  have hbA : wA.heap[w.heap.size]? = some (.cells #[.int .i64 0, .int .i64 0, .slice none 0 0] 25 (0, 0)) := by rw [hwA]; exact heap_alloc_new w _
  have hvA := hv.on hBA
  have HWA := Lib.hid hwA; clear hwA
  go_enter Try.func56, Try.ntmps56
  go_wp2_with fail
  rw [← HWA.out]
  refine (draw_DrawInOrder _ bs _ hvA).mono ?_
  rintro e w1 ⟨v2, vb, x, xs, rfl, ov, ob, hxl, hol, b1⟩
  have hb1 := (b1.block w.heap.size (by omega)).trans hbA
  have hB1 : Below w.heap.size w w1 := hBA.trans (b1.mono (by omega))
  have OV := Lib.hid ov
  obtain ⟨vo, rfl, i1, i2, ho⟩ := ov
  obtain ⟨A, n, c, hvo, hn, _, _, _⟩ := ho.rd
  subst hn hvo
  clear ho b1 hv hvA hBA hbA
  obtain ⟨a0, a1, a2, f0, f1, f2⟩ := cells3 hb1
  go_wp2_with fail
  refine ret_box1 rfl rfl (three_set hb1) Try.underlying25 rfl Try.sizePln rfl ?_
  exact draw2BPost_of (B := wA.heap.size) (Nat.le_refl _) (by omega) OV.out ob hxl hol hB1 rfl hb1

set_option maxRecDepth 100000 in
theorem draw_DrawMovedLetters (v : Value) (bs : List UInt8) (w : World) (hv : rd w w.heap.size v bs) :
    Calls Try.prog 60 #[v] w (draw2BPost 9 44 w) := by
  obtain ⟨wA, hwA⟩ : ∃ u, u = w.alloc (Obj.cells #[.int .i64 0, .int .i64 0, .slice none 0 0] 25) := ⟨_, rfl⟩
  have hBA : Below w.heap.size w wA := by rw [hwA]; exact (Below.refl _ _).alloc (Nat.le_refl _) _
  have hzA : wA.heap.size = w.heap.size + 1 := by rw [hwA]; simp
  have hbA : wA.heap[w.heap.size]? = some (.cells #[.int .i64 0, .int .i64 0, .slice none 0 0] 25 (0, 0)) := by rw [hwA]; exact heap_alloc_new w _
  have hvA := hv.on hBA
  have HWA := Lib.hid hwA; clear hwA
  go_enter Try.func60, Try.ntmps60
  go_wp2_with fail
  rw [← HWA.out]
  refine (draw_DrawInOrder _ bs _ hvA).mono ?_
  rintro e w1 ⟨v2, vb, x, xs, rfl, ov, ob, hxl, hol, b1⟩
  have hb1 := (b1.block w.heap.size (by omega)).trans hbA
  have hB1 : Below w.heap.size w w1 := hBA.trans (b1.mono (by omega))
  have OV := Lib.hid ov
  obtain ⟨vo, rfl, i1, i2, ho⟩ := ov
  obtain ⟨A, n, c, hvo, hn, _, _, _⟩ := ho.rd
  subst hn hvo
  clear ho b1 hv hvA hBA hbA
  obtain ⟨a0, a1, a2, f0, f1, f2⟩ := cells3 hb1
  go_wp2_with fail
  refine ret_box1 rfl rfl (three_set hb1) Try.underlying25 rfl Try.sizePln rfl ?_
  exact draw2BPost_of (B := wA.heap.size) (Nat.le_refl _) (by omega) OV.out ob hxl hol hB1 rfl hb1

end Go.Proofs.Ytekjjgnokjhleaa
