/- DY -/
import Derived.Test.YtekjjgnokjhleaaQ24
import Derived.Test.YtekjjgnokjhleaaQ25
namespace Go.Proofs.Ytekjjgnokjhleaa
open Go.RowKit

/-- Drawn: a plan, letters, a pass. -/
def draw3Post (T1 T2 : Nat) (w : World) (e : Ending) (w' : World) : Prop :=
  ∃ (v vb : Value) (x : Pln) (xs : List Ltr) (k : Int), e = .returned (.tuple #[v, vb, .int .i64 k]) ∧ ownP T1 w.heap.size w' v x ∧ own T2 w.heap.size w' vb xs ∧ isI64 k ∧ xs.length ≤ 61 ∧ x.order.length ≤ 101 ∧ Below w.heap.size w w'
theorem draw3Post_of {T T1 T2 h B : _} {u0 u1 u2 : Value} {w W : World} {v vb a b d : Value} {x : Pln} {xs : List Ltr} {k : Int} (hh : w.heap.size ≤ h) (hbase : h < B) (hv : ownP T1 B W v x) (hvb : own T2 B W vb xs)
    (hk : isI64 k) (h1 : xs.length ≤ 61) (h3 : x.order.length ≤ 101) (hG : Below w.heap.size w W) (he : v = .agg #[a, b, d]) (_ : W.heap[h]? = some (.cells #[u0, u1, u2] T (0, 0))) :
    draw3Post T1 T2 w (.returned (.tuple #[.agg #[a, b, d], vb, .int .i64 k])) (((W.setCell ⟨h, 0, none⟩ a).setCell ⟨h, 1, none⟩ b).setCell ⟨h, 2, none⟩ d) := by
  have HG := grown_setCell (p := ⟨h, 2, none⟩) (grown_setCell (p := ⟨h, 1, none⟩) (grown_setCell (p := ⟨h, 0, none⟩) (World.grownBy.refl W (some h)) (.inl rfl) a) (.inl rfl) b) (.inl rfl) d
  have HS := ((hG.setCell (p := ⟨h, 0, none⟩) hh a).setCell (p := ⟨h, 1, none⟩) hh b).setCell (p := ⟨h, 2, none⟩) hh d
  rw [← he]
  exact ⟨v, vb, x, xs, k, rfl, (hv.grown HG (fun r e => by injection e with e; omega)).base_ (by omega), (hvb.grown HG (own_ne hvb hbase)).base_ (by omega), hk, h1, h3, HS⟩
/-- Drawn: a plan, letters. -/
def draw2BPost (T1 T2 : Nat) (w : World) (e : Ending) (w' : World) : Prop :=
  ∃ (v vb : Value) (x : Pln) (xs : List Ltr), e = .returned (.tuple #[v, vb]) ∧ ownP T1 w.heap.size w' v x ∧ own T2 w.heap.size w' vb xs ∧ xs.length ≤ 61 ∧ x.order.length ≤ 101 ∧ Below w.heap.size w w'
theorem draw2BPost_of {T T1 T2 h B : _} {u0 u1 u2 : Value} {w W : World} {v vb a b d : Value} {x : Pln} {xs : List Ltr} (hh : w.heap.size ≤ h) (hbase : h < B) (hv : ownP T1 B W v x) (hvb : own T2 B W vb xs)
    (h1 : xs.length ≤ 61) (h3 : x.order.length ≤ 101) (hG : Below w.heap.size w W) (he : v = .agg #[a, b, d]) (_ : W.heap[h]? = some (.cells #[u0, u1, u2] T (0, 0))) :
    draw2BPost T1 T2 w (.returned (.tuple #[.agg #[a, b, d], vb])) (((W.setCell ⟨h, 0, none⟩ a).setCell ⟨h, 1, none⟩ b).setCell ⟨h, 2, none⟩ d) := by
  have HG := grown_setCell (p := ⟨h, 2, none⟩) (grown_setCell (p := ⟨h, 1, none⟩) (grown_setCell (p := ⟨h, 0, none⟩) (World.grownBy.refl W (some h)) (.inl rfl) a) (.inl rfl) b) (.inl rfl) d
  have HS := ((hG.setCell (p := ⟨h, 0, none⟩) hh a).setCell (p := ⟨h, 1, none⟩) hh b).setCell (p := ⟨h, 2, none⟩) hh d
  rw [← he]
  exact ⟨v, vb, x, xs, rfl, (hv.grown HG (fun r e => by injection e with e; omega)).base_ (by omega), (hvb.grown HG (own_ne hvb hbase)).base_ (by omega), h1, h3, HS⟩

set_option maxRecDepth 100000 in
set_option maxHeartbeats 1000000 in
theorem draw_DrawPlanPass (v : Value) (bs : List UInt8) (w : World) (hv : rd w w.heap.size v bs) :
    Calls Try.prog 98 #[v] w (draw3Post 9 44 w) := by
  obtain ⟨w00, hw00⟩ : ∃ u, u = w.alloc (Obj.cells #[.int .i64 0, .int .i64 0, .slice none 0 0] 25) := ⟨_, rfl⟩
  have hB00 : Below w.heap.size w w00 := by rw [hw00]; exact (Below.refl _ _).alloc (Nat.le_refl _) _
  have hz00 : w00.heap.size = w.heap.size + 1 := by rw [hw00]; simp
  have hb00 : w00.heap[w.heap.size]? = some (.cells #[.int .i64 0, .int .i64 0, .slice none 0 0] 25 (0, 0)) := by rw [hw00]; exact heap_alloc_new w _
  have hvA := hv.on hB00
  have HW00 := Lib.hid hw00; clear hw00
  go_enter Try.func98, Try.ntmps98
  go_wp2_with fail
  rw [← HW00.out]
  refine (rd_open _ bs _ hvA).mono ?_
  rintro e wA ⟨g, rfl, hg, hrA, b1⟩
  have hlt := hrA.lt
  have hbA := (b1.block w.heap.size (by omega)).trans hb00
  have hBA : Below w.heap.size w wA := hB00.trans (b1.mono (by omega))
  have hzA := b1.size
  obtain ⟨p, hp0⟩ : ∃ p : Nat, p = 0 := ⟨_, rfl⟩
  rw [← hp0] at hrA
  have hp : p ≤ 1000000000 := by omega
  have hwg : w.heap.size < g := by omega
  clear hvA hv hB00 b1 hb00
  go_wp2_with fail
  refine (rd_l3Some g p _ hrA (by omega)).mono ?_
  rintro e w1 ⟨v, x, p1, rfl, ov, hd, hr1, hp1, hg1⟩
  have HD := Lib.hid hd
  obtain ⟨hd1, hd2, hd3, hd4, hd5, hd6, _⟩ := hd
  have OV1 := Lib.hid ov
  obtain ⟨vo, rfl, i1, i2, hvo⟩ := ov
  obtain ⟨Ao, no, co, hvo2, hno, _, _, _⟩ := hvo.rd
  subst hno hvo2
  clear hvo
  obtain ⟨wB, hwB⟩ : ∃ u, u = w1.alloc (Obj.cells #[.int .i64 x.bins, .int .i64 x.passes, .slice Ao x.order.length co] 25) := ⟨_, rfl⟩
  have hBB : Below w1.heap.size w1 wB := by rw [hwB]; exact (Below.refl _ _).alloc (Nat.le_refl _) _
  have hrB : rdr wB g p1 := by rw [hwB]; exact hr1.alloc _
  have hzB : wB.heap.size = w1.heap.size + 1 := by rw [hwB]; simp
  have hbB : wB.heap[w1.heap.size]? = some (.cells #[.int .i64 x.bins, .int .i64 x.passes, .slice Ao x.order.length co] 25 (0, 0)) := by rw [hwB]; exact heap_alloc_new w1 _
  have hgB : wA.grownBy wB (some g) := grown_below hg1 hBB
  have hz1 := hg1.size
  have OVB : Hid (ownP 9 wA.heap.size wB (.agg #[.int .i64 x.bins, .int .i64 x.passes, .slice Ao x.order.length co]) x) := OV1.out.grown (grown_below (World.grownBy.refl w1 (some g)) hBB) (fun r e => by injection e with e; omega)
  have HAB : Hid (∀ W, wB.grownBy W (some g) → W.heap[w.heap.size]? = some (.cells #[.int .i64 0, .int .i64 0, .slice none 0 0] 25 (0, 0))) := fun W hg => ((hg.block w.heap.size (by omega) (fun e => by injection e; omega)).trans (hgB.block w.heap.size (by omega) (fun e => by injection e; omega))).trans hbA
  have HBB : Hid (∀ W, wB.grownBy W (some g) → W.heap[w1.heap.size]? = some (.cells #[.int .i64 x.bins, .int .i64 x.passes, .slice Ao x.order.length co] 25 (0, 0))) := fun W hg => (hg.block w1.heap.size (by omega) (fun e => by injection e; omega)).trans hbB
  have HVL : Hid (∀ k, planBlk (.agg #[.int .i64 x.bins, .int .i64 x.passes, .slice Ao x.order.length co]) k → k < w1.heap.size) := fun k hk => (planBlk_own OV1.out k hk).2
  have HWB := Lib.hid hwB
  clear hwB hBB hbB hbA hr1 hg1 hrA
  go_wp2_with fail
  rw [← HWB.out]
  refine (rd_l3Mail g p1 wA.heap.size _ x _ hrB (by omega) OVB.out (by omega) HD.out).mono ?_
  rintro e w2 ⟨vb, xs, p2, rfl, ob, hxl, hx7, hr2, hp2, hg2⟩
  have OB2 := Lib.hid ob
  have HX7 := Lib.hid hx7
  clear ob hx7 hrB
  obtain ⟨c0, c1, c2, _, _, _⟩ := cells3 (HBB.out w2 hg2)
  have hbl := OB2.out.rd
  obtain ⟨Ab, nb, cb, hvb, hnb, _, _, _⟩ := hbl
  subst hnb hvb
  go_wp2_with fail
  refine (rd_pick g p2 x.passes _ hr2 (by omega) i2).mono ?_
  rintro e w3 ⟨y, rfl, hy, hr3, hg3⟩
  obtain ⟨y0, y1⟩ := hy.2 (by omega)
  clear hy hr2
  have hgB3 := grown_trans hg2 hg3
  have OB3 := Lib.hid (OB2.out.grown hg3 (own_ne OB2.out (by omega)))
  go_wp2_with fail
  refine (rd_pick g (p2 + 1) 16 _ hr3 (by omega) (by unfold isI64; omega)).mono ?_
  rintro e w4 ⟨z, rfl, hz, hr4, hg4⟩
  clear hz hr3
  have hgB4 := grown_trans hgB3 hg4
  have OB4 := Lib.hid (OB3.out.grown hg4 (own_ne OB3.out (by omega)))
  clear c0 c1 c2 hg2 hg3 hg4 hgB3 OB2 OB3
  obtain ⟨c0, c1, c2, _, _, _⟩ := cells3 (HBB.out w4 hgB4)
  by_cases hz0 : z = 0
  rotate_left
  have d0 : (z == 0) = false := by simp [hz0]
  clear hz0
  obtain ⟨K, rfl⟩ : ∃ K : Int, K = y := ⟨_, rfl⟩
  obtain ⟨W, rfl⟩ : ∃ W : World, W = w4 := ⟨_, rfl⟩
  obtain ⟨q, hq⟩ : ∃ q : Nat, q = p2 + 1 + 1 := ⟨_, rfl⟩
  have hKi : isI64 K := by unfold isI64; omega
  rw [← hq] at hr4
  rotate_left
  have d0 : (z == 0) = true := by simp [hz0]
  clear hz0
  have hlt4 := hr4.lt
  go_wp2_with fail
  refine (rd_num 3 g (p2 + 1 + 1) _ [-1, x.passes, 9223372036854775807] _ (hr4.alloc _) (by omega) (list_own 3 (g + 1) w4 [-1, x.passes, 9223372036854775807] (by simp [isI64]; omega) (by unfold maxLen; simp) (by omega)) (by simp)).mono ?_
  rintro e W ⟨K, hK, rfl, hr5, hg5⟩
  have hKi : isI64 K := by
    simp at hK
    unfold isI64
    omega
  replace hg5 : w4.grownBy W (some g) := grown_trans (World.grownBy_alloc w4 _ _) hg5
  replace OB4 := Lib.hid (OB4.out.grown hg5 (own_ne OB4.out (by omega)))
  replace hgB4 := grown_trans hgB4 hg5
  clear hr4 hK hg5
  have hr4 := hr5
  clear hr5
  obtain ⟨q, hq⟩ : ∃ q : Nat, q = p2 + 1 + 1 + 1 := ⟨_, rfl⟩
  rw [← hq] at hr4
  clear c0 c1 c2
  obtain ⟨c0, c1, c2, _, _, _⟩ := cells3 (HBB.out W hgB4)
  all_goals
    have hgBz := hgB4.size
    have OVW := Lib.hid (OVB.out.grown hgB4 (fun r e => by injection e with e; omega))
    have hrW := hr4
    have OV7 := OVW
    have OB7 := OB4
    have OBW := OB4
    have hgB7 := hgB4
    clear hr4 hgB4 OB4 OVW
    go_wp2_with fail
    refine (rd_l3Bad g q wA.heap.size _ x _ hrW (by omega) OV7.out (by omega) HD.out).mono ?_
    rintro e w8 ⟨v8, x8, q8, rfl, ov8, hl8, hr8, hq8, hk8, hs8, hb8⟩
    have OB8 := Lib.hid (OB7.out.keepBlk (w' := w8) fun k hk => by
      have h1 := OB7.out.blk k hk
      refine hs8.block k h1.2 fun h => ?_
      rcases h with h | h
      · omega
      · have := HVL.out k h; omega)
    have hz8 := hs8.size
    have hA8 := (hk8.block w.heap.size (by omega) (by omega)).trans (HAB.out W hgB7)
    have hgw8 : wA.grownBy w8 (some g) := kept2.back (grown_trans hgB hgB7) hk8 (Nat.le_refl _)
    have hpl8 : ∀ k, planBlk v8 k → k ≠ g ∧ (k < w1.heap.size ∨ W.heap.size ≤ k) := fun k hk => by
      have h1 := planBlk_own ov8 k hk
      refine ⟨by omega, ?_⟩
      rcases hb8 k hk with (h | h) | h
      · omega
      · exact .inl (HVL.out k h)
      · exact .inr h
    have OV8 := Lib.hid ov8
    have HPL := Lib.hid hpl8
    have OBK : Hid (∀ k, (Value.slice Ab xs.length cb).ownBlock = some k → k < W.heap.size) := fun k hk => (OBW.out.blk k hk).2
    clear ov8 hb8 hpl8 hs8 hk8 OB7 hrW c0 c1 c2
    have hob8 := OB8.out
    go_wp2_with fail
    refine (rd_l2Bad g q8 wB.heap.size _ xs _ hr8 (by omega) OB8.out (by omega) (by omega) HX7.out).mono ?_
    rintro e w9 ⟨vb9, xs9, q9, rfl, ob9, hl9, hr9, hq9, hk9, hs9⟩
    have OV9 := Lib.hid (OV8.out.keepBlk (w' := w9) fun k hk => by
      have h1 := planBlk_own OV8.out k hk
      have h2 := HPL.out k hk
      refine hs9.block k h1.2 fun h => ?_
      rcases h with h | h
      · omega
      · have h3 := OB8.out.blk k h
        rcases h2.2 with h4 | h4
        · omega
        · have := OBK.out k h; omega)
    have hA9 := (hk9.block w.heap.size (by omega) (by omega)).trans hA8
    have hgw9 : wA.grownBy w9 (some g) := kept2.back hgw8 hk9 (by omega)
    clear hs9 hk9 hgw8 hA8 OV8 HPL OB8 hob8 hr8 OBK
    have OB9 := Lib.hid ob9
    obtain ⟨vo9, hv9, i91, i92, ho9⟩ := OV9.out
    obtain ⟨A9, n9, c9, hvo9, hn9, _, _, _⟩ := ho9.rd
    subst hn9 hvo9
    subst hv9
    clear ho9 ob9
    obtain ⟨a0, a1, a2, f0, f1, f2⟩ := cells3 hA9
    go_wp2_with fail
    refine ret_box2 rfl rfl (three_set hA9) Try.underlying25 rfl Try.sizePln rfl ?_
    exact draw3Post_of (B := wA.heap.size) (Nat.le_refl _) (by omega) OV9.out (OB9.out.base_ (by omega)) hKi hl9 hl8 (hBA.trans (below_of_grown hgw9 hBA.size (fun r e => by injection e; omega))) rfl hA9

set_option maxRecDepth 100000 in
set_option maxHeartbeats 400000 in
theorem draw_DrawRunPlan (v : Value) (bs : List UInt8) (w : World) (hv : rd w w.heap.size v bs) :
    Calls Try.prog 54 #[v] w (draw2BPost 9 44 w) := by
  obtain ⟨wA, hwA⟩ : ∃ u, u = w.alloc (Obj.cells #[.int .i64 0, .int .i64 0, .slice none 0 0] 25) := ⟨_, rfl⟩
  have hBA : Below w.heap.size w wA := by rw [hwA]; exact (Below.refl _ _).alloc (Nat.le_refl _) _
  have hzA : wA.heap.size = w.heap.size + 1 := by rw [hwA]; simp
  have hbA : wA.heap[w.heap.size]? = some (.cells #[.int .i64 0, .int .i64 0, .slice none 0 0] 25 (0, 0)) := by rw [hwA]; exact heap_alloc_new w _
  have hvA := hv.on hBA
  have HWA := Lib.hid hwA; clear hwA
  go_enter Try.func54, Try.ntmps54
  go_wp2_with fail
  rw [← HWA.out]
  refine (draw_DrawPlanPass _ bs _ hvA).mono ?_
  rintro e w2 ⟨v2, vb, x, xs, k, rfl, ov, ob, hk, hxl, hol, b2⟩
  have hz2 := b2.size
  have hb2 := (b2.block w.heap.size (by omega)).trans hbA
  have hB2 : Below w.heap.size w w2 := hBA.trans (b2.mono (by omega))
  have OV := Lib.hid ov
  obtain ⟨vo, rfl, i1, i2, ho⟩ := ov
  obtain ⟨A, n, c, hvo, hn, _, _, _⟩ := ho.rd
  subst hn hvo
  clear ho b2 hbA hBA hvA hv
  obtain ⟨wC, hwC⟩ : ∃ u, u = w2.alloc (Obj.cells #[.int .i64 x.bins, .int .i64 x.passes, .slice A x.order.length c] 25) := ⟨_, rfl⟩
  have hBC : Below w2.heap.size w2 wC := by rw [hwC]; exact (Below.refl _ _).alloc (Nat.le_refl _) _
  have hb3 := (hBC.block w.heap.size (by omega)).trans hb2
  have hB3 : Below w.heap.size w wC := hB2.trans (hBC.mono (by omega))
  have OV3 : Hid (ownP 9 wA.heap.size wC (.agg #[.int .i64 x.bins, .int .i64 x.passes, .slice A x.order.length c]) x) := OV.out.keepBlk fun k hk => hBC.block k (planBlk_own OV.out k hk).2
  have ob3 := ob.below hBC
  have hbC : wC.heap[w2.heap.size]? = some (.cells #[.int .i64 x.bins, .int .i64 x.passes, .slice A x.order.length c] 25 (0, 0)) := by rw [hwC]; exact heap_alloc_new w2 _
  have hb3' := hb3
  have hbC' := hbC
  rw [hwC] at hb3' hbC'
  have HWC := Lib.hid hwC; clear hwC
  obtain ⟨a0, a1, a2, f0, f1, f2⟩ := cells3 hb3'
  obtain ⟨d0, d1, d2, _, _, _⟩ := cells3 hbC'
  go_wp2_with fail
  rw [← HWC.out]
  refine ret_box1 rfl rfl (three_set hb3) Try.underlying25 rfl Try.sizePln rfl ?_
  exact draw2BPost_of (B := wA.heap.size) (Nat.le_refl _) (by omega) OV3.out ob3 hxl hol hB3 rfl hb3

end Go.Proofs.Ytekjjgnokjhleaa
