/- DV SP B5 -/
import Derived.Test.YtekjjgnokjhleaaQ23
import Derived.Test.YtekjjgnokjhleaaQ21
import Derived.Test.YtekjjgnokjhleaaQ16
import Derived.Test.YtekjjgnokjhleaaQ9
namespace Go.Proofs.Ytekjjgnokjhleaa
open Go.RowKit

/-- What l7Draw gives. -/
def l7DrawPost (T1 T2 T3 g p : Nat) (w : World) (e : Ending) (w' : World) : Prop :=
  ∃ (v vb vm : Value) (x : Pln) (xs : List Ltr) (k : Int) (ms : List Mis) (p' : Nat), e = .returned (.tuple #[v, vb, .int .i64 k, vm]) ∧ ownP T1 w.heap.size w' v x ∧ own T2 w.heap.size w' vb xs ∧ own T3 w.heap.size w' vm ms ∧ isI64 k ∧ xs.length ≤ 61 ∧ ms.length ≤ 5 ∧ x.order.length ≤ 101 ∧ rdr w' g p' ∧ p' ≤ p + 1400 ∧ w.grownBy w' (some g)

theorem planBlk_own {T base : Nat} {w : World} {v : Value} {x : Pln} (h : ownP T base w v x) : ∀ k, planBlk v k → base ≤ k ∧ k < w.heap.size := by
  rintro k ⟨a, b, vo, rfl, hk⟩
  obtain ⟨vo', e, _, _, ho⟩ := h
  injection e with e
  injection e with e
  simp only [List.cons.injEq, and_true] at e
  rw [e.2.2] at hk
  exact ho.blk k hk
theorem ownP.keepBlk {T base : Nat} {w w' : World} {v : Value} {x : Pln} (h : ownP T base w v x) (hk : ∀ k, planBlk v k → w'.heap[k]? = w.heap[k]?) : ownP T base w' v x := by
  obtain ⟨vo, rfl, h2, h3, h4⟩ := h
  exact ⟨vo, rfl, h2, h3, h4.keepBlk fun k hk' => hk k ⟨_, _, _, rfl, hk'⟩⟩

/-- The end: the plan lies in its box, the rows beside it. -/
theorem l7DrawPost_of {T T1 T2 T3 g p q h B : _} {u0 u1 u2 : Value} {w W : World} {v vb vm a b d : Value} {x : Pln} {xs : List Ltr} {k : Int} {ms : List Mis} (hh : w.heap.size ≤ h) (hg : g < w.heap.size) (hbase : h < B) (hv : ownP T1 B W v x) (hvb : own T2 B W vb xs) (hvm : own T3 B W vm ms)
    (hk : isI64 k) (h1 : xs.length ≤ 61) (h2 : ms.length ≤ 5) (h3 : x.order.length ≤ 101) (hr : rdr W g q) (hq : q ≤ p + 1400) (hG : w.grownBy W (some g)) (he : v = .agg #[a, b, d]) (_ : W.heap[h]? = some (.cells #[u0, u1, u2] T (0, 0))) :
    l7DrawPost T1 T2 T3 g p w (.returned (.tuple #[.agg #[a, b, d], vb, .int .i64 k, vm])) (((W.setCell ⟨h, 0, none⟩ a).setCell ⟨h, 1, none⟩ b).setCell ⟨h, 2, none⟩ d) := by
  have HG := grown_setCell (p := ⟨h, 2, none⟩) (grown_setCell (p := ⟨h, 1, none⟩) (grown_setCell (p := ⟨h, 0, none⟩) (World.grownBy.refl W (some h)) (.inl rfl) a) (.inl rfl) b) (.inl rfl) d
  have HS := (((Below.refl w.heap.size W).setCell (p := ⟨h, 0, none⟩) hh a).setCell (p := ⟨h, 1, none⟩) hh b).setCell (p := ⟨h, 2, none⟩) hh d
  rw [← he]
  exact ⟨v, vb, vm, x, xs, k, ms, q, rfl, (hv.grown HG (fun r e => by injection e with e; omega)).base_ (by omega), (hvb.grown HG (own_ne hvb hbase)).base_ (by omega), (hvm.grown HG (own_ne hvm hbase)).base_ (by omega), hk, h1, h2, h3, hr.grown HG (by omega), hq, grown_of_below hG HS⟩

set_option maxRecDepth 100000 in
set_option maxHeartbeats 1000000 in
theorem rd_l7Draw (g p : Nat) (w : World) (hr : rdr w g p) (hp : p ≤ 1000000000) :
    Calls Try.prog 61 #[.pointer (some ⟨g, 0, none⟩)] w (l7DrawPost 9 44 32 g p w) := by
  have hlt := hr.lt
  obtain ⟨wA, hwA⟩ : ∃ u, u = w.alloc (Obj.cells #[.int .i64 0, .int .i64 0, .slice none 0 0] 25) := ⟨_, rfl⟩
  have hrA : rdr wA g p := by rw [hwA]; exact hr.alloc _
  have hzA : wA.heap.size = w.heap.size + 1 := by rw [hwA]; simp
  have hbA : wA.heap[w.heap.size]? = some (.cells #[.int .i64 0, .int .i64 0, .slice none 0 0] 25 (0, 0)) := by rw [hwA]; exact heap_alloc_new w _
  have hgA : w.grownBy wA (some g) := by rw [hwA]; exact World.grownBy_alloc w _ _
  have HWA := Lib.hid hwA; clear hwA
  go_enter Try.func61, Try.ntmps61
  go_wp2_with fail
  rw [← HWA.out]
  refine (rd_l3Some g p _ hrA (by omega)).mono ?_
  rintro e w1 ⟨v, x, p1, rfl, ov, hd, hr1, hp1, hg1⟩
  have HD := Lib.hid hd
  obtain ⟨hd1, hd2, hd3, hd4, hd5, hd6, _⟩ := hd
  have OV1 := Lib.hid ov
  obtain ⟨vo, rfl, i1, i2, hvo⟩ := ov
  obtain ⟨Ao, no, co, hvo2, hno, _, _, _⟩ := hvo.rd
  subst hno hvo2
  clear hvo
  obtain ⟨wB, hwB⟩ : ∃ u, u = w1.alloc (Obj.cells #[.int .i64 x.bins, .int .i64 x.passes, .slice Ao x.order.length co] 25) := ⟨_, rfl⟩
  have hBB : Below w1.heap.size w1 wB := by rw [hwB]; exact (Below.refl _ _).alloc (Nat.le_refl _) _
  have hrB : rdr wB g p1 := by rw [hwB]; exact hr1.alloc _
  have hzB : wB.heap.size = w1.heap.size + 1 := by rw [hwB]; simp
  have hbB : wB.heap[w1.heap.size]? = some (.cells #[.int .i64 x.bins, .int .i64 x.passes, .slice Ao x.order.length co] 25 (0, 0)) := by rw [hwB]; exact heap_alloc_new w1 _
  have hgB : wA.grownBy wB (some g) := grown_below hg1 hBB
  have hz1 := hg1.size
  have hgw : w.grownBy wB (some g) := grown_trans hgA hgB
  have OVB : Hid (ownP 9 wA.heap.size wB (.agg #[.int .i64 x.bins, .int .i64 x.passes, .slice Ao x.order.length co]) x) := OV1.out.grown (grown_below (World.grownBy.refl w1 (some g)) hBB) (fun r e => by injection e with e; omega)
  have HAB : Hid (∀ W, wB.grownBy W (some g) → W.heap[w.heap.size]? = some (.cells #[.int .i64 0, .int .i64 0, .slice none 0 0] 25 (0, 0))) := fun W hg => ((hg.block w.heap.size (by omega) (fun e => by injection e; omega)).trans (hgB.block w.heap.size (by omega) (fun e => by injection e; omega))).trans hbA
  have HBB : Hid (∀ W, wB.grownBy W (some g) → W.heap[w1.heap.size]? = some (.cells #[.int .i64 x.bins, .int .i64 x.passes, .slice Ao x.order.length co] 25 (0, 0))) := fun W hg => (hg.block w1.heap.size (by omega) (fun e => by injection e; omega)).trans hbB
  have HVL : Hid (∀ k, planBlk (.agg #[.int .i64 x.bins, .int .i64 x.passes, .slice Ao x.order.length co]) k → k < w1.heap.size) := fun k hk => (planBlk_own OV1.out k hk).2
  have HWB := Lib.hid hwB
  clear hwB hBB hbB hbA hr1 hg1 hgA hrA hr
  go_wp2_with fail
  rw [← HWB.out]
  refine (rd_l3Mail g p1 wA.heap.size _ x _ hrB (by omega) OVB.out (by omega) HD.out).mono ?_
  rintro e w2 ⟨vb, xs, p2, rfl, ob, hxl, hx7, hr2, hp2, hg2⟩
  have OB2 := Lib.hid ob
  have HX7 := Lib.hid hx7
  clear ob hx7 hrB
  obtain ⟨c0, c1, c2, _, _, _⟩ := cells3 (HBB.out w2 hg2)
  have hbl := OB2.out.rd
  obtain ⟨Ab, nb, cb, hvb, hnb, _, _, _⟩ := hbl
  subst hnb hvb
  go_wp2_with fail
  refine (rd_pick g p2 x.passes _ hr2 (by omega) i2).mono ?_
  rintro e w3 ⟨y, rfl, hy, hr3, hg3⟩
  obtain ⟨y0, y1⟩ := hy.2 (by omega)
  clear hy hr2
  have hgB3 := grown_trans hg2 hg3
  have OB3 := Lib.hid (OB2.out.grown hg3 (own_ne OB2.out (by omega)))
  go_wp2_with fail
  refine (rd_pick g (p2 + 1) 20 _ hr3 (by omega) (by unfold isI64; omega)).mono ?_
  rintro e w4 ⟨z, rfl, hz, hr4, hg4⟩
  clear hz hr3
  have hgB4 := grown_trans hgB3 hg4
  have OB4 := Lib.hid (OB3.out.grown hg4 (own_ne OB3.out (by omega)))
  clear c0 c1 c2 hg2 hg3 hg4 hgB3 OB2 OB3
  obtain ⟨c0, c1, c2, _, _, _⟩ := cells3 (HBB.out w4 hgB4)
  by_cases hz0 : z = 0
  rotate_left
  have d0 : (z == 0) = false := by simp [hz0]
  clear hz0
  obtain ⟨K, rfl⟩ : ∃ K : Int, K = y := ⟨_, rfl⟩
  obtain ⟨W, rfl⟩ : ∃ W : World, W = w4 := ⟨_, rfl⟩
  obtain ⟨q, hq⟩ : ∃ q : Nat, q = p2 + 1 + 1 := ⟨_, rfl⟩
  have hKi : isI64 K := by unfold isI64; omega
  rw [← hq] at hr4
  rotate_left
  have d0 : (z == 0) = true := by simp [hz0]
  clear hz0
  have hlt4 := hr4.lt
  go_wp2_with fail
  refine (rd_num 3 g (p2 + 1 + 1) _ [-1, x.passes, 9223372036854775807] _ (hr4.alloc _) (by omega) (list_own 3 (g + 1) w4 [-1, x.passes, 9223372036854775807] (by simp [isI64]; omega) (by unfold maxLen; simp) (by omega)) (by simp)).mono ?_
  rintro e W ⟨K, hK, rfl, hr5, hg5⟩
  have hKi : isI64 K := by
    simp at hK
    unfold isI64
    omega
  replace hg5 : w4.grownBy W (some g) := grown_trans (World.grownBy_alloc w4 _ _) hg5
  replace OB4 := Lib.hid (OB4.out.grown hg5 (own_ne OB4.out (by omega)))
  replace hgB4 := grown_trans hgB4 hg5
  clear hr4 hK hg5
  have hr4 := hr5
  clear hr5
  obtain ⟨q, hq⟩ : ∃ q : Nat, q = p2 + 1 + 1 + 1 := ⟨_, rfl⟩
  rw [← hq] at hr4
  clear c0 c1 c2
  obtain ⟨c0, c1, c2, _, _, _⟩ := cells3 (HBB.out W hgB4)
  all_goals
    have hgBz := hgB4.size
    go_wp2_with fail
    have OVW := Lib.hid (OVB.out.grown hgB4 (fun r e => by injection e with e; omega))
    have hrdP : rdP W W.heap.size (.agg #[.int .i64 x.bins, .int .i64 x.passes, .slice Ao x.order.length co]) x := by
      obtain ⟨vo', e, h2, h3, h4⟩ := OVW.out
      exact ⟨vo', e, h2, h3, h4.rd⟩
    refine (rd_l7Some g q wB.heap.size _ _ x xs _ hr4 (by omega) hrdP OB4.out (by omega) (by omega) (by omega) (by omega)).mono ?_
    rintro e w7 ⟨vm, ms, q7, rfl, om, hml, hr7, hq7, hg7⟩
    have OM7 := Lib.hid om
    have OB7 := Lib.hid (OB4.out.grown hg7 (own_ne OB4.out (by omega)))
    have OV7 := Lib.hid (OVW.out.grown hg7 (fun r e => by injection e with e; omega))
    have hgB7 := grown_trans hgB4 hg7
    clear om hrdP hr4
    clear c0 c1 c2
    obtain ⟨c0, c1, c2, _, _, _⟩ := cells3 (HBB.out w7 hgB7)
    have hz7 := hg7.size
    have OBW := OB4
    clear hg7 hgB4 OB4 OVW
    go_wp2_with fail
    refine (rd_l3Bad g q7 wA.heap.size _ x _ hr7 (by omega) OV7.out (by omega) HD.out).mono ?_
    rintro e w8 ⟨v8, x8, q8, rfl, ov8, hl8, hr8, hq8, hk8, hs8, hb8⟩
    have OB8 := Lib.hid (OB7.out.keepBlk (w' := w8) fun k hk => by
      have h1 := OB7.out.blk k hk
      refine hs8.block k h1.2 fun h => ?_
      rcases h with h | h
      · omega
      · have := HVL.out k h; omega)
    have OM8 := Lib.hid (OM7.out.keepBlk (w' := w8) fun k hk => by
      have h1 := OM7.out.blk k hk
      refine hs8.block k h1.2 fun h => ?_
      rcases h with h | h
      · omega
      · have := HVL.out k h; omega)
    have hz8 := hs8.size
    have hA8 := (hk8.block w.heap.size (by omega) (by omega)).trans (HAB.out w7 hgB7)
    have hgw8 : w.grownBy w8 (some g) := kept2.back (grown_trans hgw hgB7) hk8 (by omega)
    have hpl8 : ∀ k, planBlk v8 k → k ≠ g ∧ (k < w1.heap.size ∨ w7.heap.size ≤ k) := fun k hk => by
      have h1 := planBlk_own ov8 k hk
      refine ⟨by omega, ?_⟩
      rcases hb8 k hk with (h | h) | h
      · omega
      · exact .inl (HVL.out k h)
      · exact .inr h
    have OV8 := Lib.hid ov8
    have HPL := Lib.hid hpl8
    have OBK : Hid (∀ k, (Value.slice Ab xs.length cb).ownBlock = some k → k < W.heap.size) := fun k hk => (OBW.out.blk k hk).2
    clear ov8 hb8 hpl8 hs8 hk8 OB7 OM7 hr7 c0 c1 c2
    have hob8 := OB8.out
    go_wp2_with fail
    refine (rd_l2Bad g q8 wB.heap.size _ xs _ hr8 (by omega) OB8.out (by omega) (by omega) HX7.out).mono ?_
    rintro e w9 ⟨vb9, xs9, q9, rfl, ob9, hl9, hr9, hq9, hk9, hs9⟩
    have OV9 := Lib.hid (OV8.out.keepBlk (w' := w9) fun k hk => by
      have h1 := planBlk_own OV8.out k hk
      have h2 := HPL.out k hk
      refine hs9.block k h1.2 fun h => ?_
      rcases h with h | h
      · omega
      · have h3 := OB8.out.blk k h
        rcases h2.2 with h4 | h4
        · omega
        · have := OBK.out k h; omega)
    have OM9 := Lib.hid (OM8.out.keepBlk (w' := w9) fun k hk => by
      have h1 := OM8.out.blk k hk
      refine hs9.block k h1.2 fun h => ?_
      rcases h with h | h
      · omega
      · have := OBK.out k h; omega)
    have hA9 := (hk9.block w.heap.size (by omega) (by omega)).trans hA8
    have hgw9 : w.grownBy w9 (some g) := kept2.back hgw8 hk9 (by omega)
    clear hs9 hk9 hgw8 hA8 OV8 OM8 HPL OB8 hob8 hr8 OBK
    have OB9 := Lib.hid ob9
    obtain ⟨vo9, hv9, i91, i92, ho9⟩ := OV9.out
    obtain ⟨A9, n9, c9, hvo9, hn9, _, _, _⟩ := ho9.rd
    subst hn9 hvo9
    subst hv9
    clear ho9 ob9
    obtain ⟨a0, a1, a2, f0, f1, f2⟩ := cells3 hA9
    go_wp2_with fail
    refine ret_box3 rfl rfl (three_set hA9) Try.underlying25 rfl Try.sizePln rfl ?_
    exact l7DrawPost_of (B := wA.heap.size) (Nat.le_refl _) hlt (by omega) OV9.out (OB9.out.base_ (by omega)) (OM9.out.base_ (by omega)) hKi hl9 hml hl8 hr9 (by omega) hgw9 rfl hA9

end Go.Proofs.Ytekjjgnokjhleaa

namespace Go.Proofs.Ytekjjgnokjhleaa
open Go.RowKit

theorem ownP.rdp {T base : Nat} {w : World} {v : Value} {p : Pln} (h : ownP T base w v p) : rdP w w.heap.size v p := by
  obtain ⟨vo, h1, h2, h3, h4⟩ := h
  exact ⟨vo, h1, h2, h3, h4.rd⟩
theorem movedI_ok {p : Pln} {xs : List Ltr} (h : rpOk p xs = true) : movedI p xs = (xs.length : Int) - keptN p xs := by
  have e : keptI p xs = keptN p xs := by unfold keptI; rw [if_pos (by exact h)]
  unfold movedI
  rw [e, if_neg (by omega)]
theorem moved_ord {p : Pln} {xs : List Ltr} (h : rpOk p xs = true) (ho : inOrd p xs) : movedI p xs = 0 := by
  rw [movedI_ok h, keptN_full.2 ho]; omega
theorem rr_rp {p : Pln} {xs : List Ltr} {k : Int} {ms : List Mis} (h : fpOk p xs k ms = true) : rpOk p (rrRound p xs k ms) = true := by
  unfold rpOk; rw [(fpOk_iff.1 h).1.1, okB_rr h]; rfl
theorem rpd_rp {p : Pln} {xs : List Ltr} {k : Int} {ms : List Mis} (h : fpOk p xs k ms = true) : rpOk p (rpdRound p xs k ms) = true := by
  unfold rpOk; rw [(fpOk_iff.1 h).1.1, okB_rpd h]; rfl
theorem fpOk_first {p : Pln} {xs : List Ltr} {k : Int} {ms : List Mis} (h : fpOk p xs k ms = true) : fpOk p xs 0 ms = true :=
  fpOk_at h (Int.le_refl _) (by have := (fpOk_iff.1 h).1; omega)
theorem fpOk_lastP {p : Pln} {xs : List Ltr} {k : Int} {ms : List Mis} (h : fpOk p xs k ms = true) : fpOk p xs (p.passes - 1) ms = true :=
  fpOk_at h (by have := (fpOk_iff.1 h).1; omega) (by omega)

end Go.Proofs.Ytekjjgnokjhleaa

namespace Go.Proofs.Ytekjjgnokjhleaa
open Go.RowKit

set_option maxHeartbeats 800000 in
theorem spec_l2Collect (v : Value) (xss : List (List Ltr)) (w : World) (hv : rd w w.heap.size v xss) (hl : xss.flatten.length ≤ 1048576) :
    Calls Try.prog 85 #[v] w fun e w' => ∃ v', e = .returned v' ∧ own 44 w.heap.size w' v' xss.flatten ∧ Below w.heap.size w w' := by
  obtain ⟨A, n, c, rfl, hn, hc, hm, hr⟩ := hv
  subst hn
  unfold maxLen at hm
  have HR := Lib.hid hr; clear hr
  have HL := Lib.hid hl; clear hl
  obtain ⟨i0, hi, hz0, hz1, hz2⟩ := info_parts Try.infoLtr
  go_enter Try.func85, Try.ntmps85
  go_wp2
  have ho0 : own (α := Ltr) 44 w.heap.size (w.alloc (Obj.cells #[] 44)) (.slice (some ⟨w.heap.size, 0, none⟩) 0 0) [] := own.made0 w _ (Nat.le_refl _)
  have l0 : Below w.heap.size w (w.alloc (Obj.cells #[] 44)) := (Below.refl _ _).alloc (Nat.le_refl _) _
  generalize (w.alloc (Obj.cells #[] 44)) = w0 at *
  go_loopw [3, 4] (fun t i wr => ∃ k : Nat, k ≤ xss.length ∧ i = .int .i64 k ∧ Below w.heap.size w wr ∧ own 44 w.heap.size wr t (xss.take k).flatten) (fun _ i _ => xss.length - (intOf i).toNat)
  case atStart => exact ⟨0, Nat.zero_le _, rfl, l0, ho0⟩
  case round =>
    obtain ⟨k, hk, rfl, lr, ho⟩ := hrel
    obtain ⟨w1, rfl⟩ : ∃ w1 : World, w1 = wr := ⟨_, rfl⟩
    clear l0 ho0
    by_cases hlt : k < xss.length
    · obtain ⟨b, o, u, rfl, hb, hu, c1⟩ := HR.out.rowU k hlt
      have HS : Hid ((xss.take (k + 1)).flatten = (xss.take k).flatten ++ xss[k]) := by show _ = _; rw [List.take_succ_eq_append_getElem hlt, List.flatten_append]; simp
      have HLB : Hid ((xss.take k).flatten.length + xss[k].length ≤ 1048576) := by
        show _ ≤ _
        rw [← List.length_append, ← HS.out]
        have : (xss.take (k + 1)).flatten.length ≤ xss.flatten.length := by
          conv => rhs; rw [← List.take_append_drop (k + 1) xss, List.flatten_append, List.length_append]
          omega
        have := HL.out
        omega
      generalize xss[k] = ys at *
      obtain ⟨A2, m2, c2, rfl, hm2, hc2, hmm2, hr2⟩ := hu
      have hu : rd w w.heap.size (.slice A2 m2 c2) ys := ⟨A2, m2, c2, rfl, hm2, hc2, hmm2, hr2⟩
      clear hm2 hc2 hmm2 hr2
      have HU := Lib.hid hu; clear hu
      generalize hys : (xss.take k).flatten = zs at *
      have HYS := Lib.hid hys; clear hys
      have ho' := Lib.hid ho
      obtain ⟨A3, m3, c3, rfl, hm3, _, _, _⟩ := ho.rd
      subst hm3
      clear ho
      have hbd := HLB.out
      go_wp2_with (at_builtin; refine wpList_appendAll (α := Ltr) rfl (.tmp 12) (.tmp 16) 34 rfl w.heap.size 44 i0 _ 24 Try.underlying34 hi hz0 hz1 hz2 rfl (by decide) (.slice A3 zs.length c3) zs rfl ho'.out (.slice A2 m2 c2) ys rfl w1.heap.size (HU.out.on lr) (by have := HLB.out; unfold maxLen; omega) (by have := HLB.out; omega) lr.size ?_; intro v' w2 ho2 hg2 _)
      have l2 : Below w.heap.size w w2 := lr.trans (below_append ho'.out hg2 lr.size)
      go_wp2
      go_roundw
      case rel => exact ⟨k + 1, by omega, by go_num, l2, by rw [HS.out]; exact ho2⟩
      case measure => simp [intOf]; omega
    · have HE := Lib.hid (show k = xss.length by omega)
      go_wp2
      go_ret
      exact ⟨_, rfl, by rw [HE.out, List.take_length] at ho; exact ho, lr⟩

set_option maxRecDepth 100000 in
set_option maxHeartbeats 3200000 in
theorem spec_l3Pass (v vb : Value) (p : Pln) (xs : List Ltr) (k0 : Nat) (w : World) (hv : rdP w w.heap.size v p) (hb : rd w w.heap.size vb xs)
    (h1 : 2 ≤ p.bins) (h2 : p.bins ≤ 16) (hk0 : k0 ≤ 4) (hord : p.order.length ≤ 1000) (hl : xs.length ≤ 1000) :
    Calls Try.prog 100 #[v, vb, .int .i64 k0] w fun e w' => ∃ vB vO vs, e = .returned (.tuple #[vB, vO]) ∧ isLL 34 44 w.heap.size w' vB (binsOf (fun x => binI p x.code k0) p.bins.toNat xs) vs ∧ own 44 w.heap.size w' vO (restOf (fun x => binI p x.code k0) xs) ∧ farLL vO vB vs ∧ Below w.heap.size w w' := by
  obtain ⟨A0, c0, e0⟩ := openP hv
  obtain ⟨w0, hw0⟩ : ∃ w0, w0 = w.alloc (Obj.cells #[.int .i64 p.bins, .int .i64 p.passes, .slice A0 p.order.length c0] 25) := ⟨_, rfl⟩
  have q0 := box_cells hw0 0 (.int .i64 p.bins) rfl
  have q1 := box_cells hw0 1 (.int .i64 p.passes) rfl
  have q2 := box_cells hw0 2 (.slice A0 p.order.length c0) rfl
  have HT := Lib.hid (box_later hw0).1
  have HP := Lib.hid (hv.on HT.out)
  have hb' := hb.on HT.out
  subst e0
  obtain ⟨A, n, cp, rfl, hn, hc, hmx, hr⟩ := hb'
  subst hn
  unfold maxLen at hmx
  have HR := Lib.hid hr
  have hz0 : w0.heap.size = w.heap.size + 1 := by subst hw0; simp
  have hwlt : w.heap.size < w0.heap.size := by omega
  have HZ0 := Lib.hid hz0
  have HW0 := Lib.hid hw0; clear hw0 hv hb hr hz0
  have l0 := Below.refl w0.heap.size w0
  obtain ⟨N, hN⟩ := Int.eq_ofNat_of_zero_le (show 0 ≤ p.bins by omega)
  have hNN : p.bins.toNat = N := by omega
  have HNN := Lib.hid hNN; clear hNN
  have hN16 : N ≤ 16 := by omega
  obtain ⟨i0, hi, hzz, hz1, hz2⟩ := info_parts Try.infoRow
  have hmk := make_row (P := Try.prog) 37 34 i0 _ Try.underlying37 hi hzz N (by rw [hz2]; omega) (by omega)
  rw [← hN] at hmk
  have HN := Lib.hid hN; clear hN
  obtain ⟨i1, ji, jz0, jz1, jz2⟩ := info_parts Try.infoLtr
  have HF : Hid (∀ x : Ltr, -1 ≤ binI p x.code k0 ∧ binI p x.code k0 < N) := fun x => by
    have := binI_range p x.code k0 h1
    have := HN.out
    omega
  obtain ⟨f, HFF⟩ : ∃ f : Ltr → Int, Hid (f = fun x => binI p x.code k0) := ⟨_, rfl⟩
  rw [← HFF.out]
  have HFX : Hid (∀ x, f x = binI p x.code k0) := fun x => by rw [HFF.out]
  rw [HNN.out]
  go_enter Try.func100, Try.ntmps100
  go_wp2
  rw [← HW0.out]
  obtain ⟨vs0, hoz⟩ := made_nil_row (α := Ltr) w0 34 44 N w0.heap.size (Nat.le_refl _) (by unfold maxLen; omega)
  have lz : Below w0.heap.size w0 (w0.alloc (Obj.cells (madeCells #[.slice none 0 0] N) 34)) := later_alloc l0 _
  have hzz2 : (w0.alloc (Obj.cells (madeCells #[.slice none 0 0] N) 34)).heap.size = w.heap.size + 1 + 1 := by simp [HZ0.out]
  generalize (w0.alloc (Obj.cells (madeCells #[.slice none 0 0] N) 34)) = wz at *
  have hG0 : w0.heap.size ≤ w.heap.size + 1 := Nat.le_of_eq HZ0.out
  have hoz2 := hoz
  rw [show (Value.slice (some ⟨w0.heap.size, 0, none⟩) N N) = (Value.slice (some ⟨w.heap.size + 1, 0, none⟩) N N) by rw [HZ0.out]] at hoz2
  clear hoz
  have hoe : own (α := Ltr) 44 w0.heap.size (wz.alloc (Obj.cells #[] 44)) (.slice (some ⟨wz.heap.size, 0, none⟩) 0 0) [] := own.made0 wz _ lz.size
  rw [hzz2] at hoe
  have hfe : farLL (.slice (some ⟨w.heap.size + 1 + 1, 0, none⟩) 0 0) (.slice (some ⟨w.heap.size + 1, 0, none⟩) N N) vs0 := by
    refine ⟨.inr (by show some _ ≠ some _; simp), fun k hk => .inr fun e => ?_⟩
    obtain ⟨z1, z2, z3, _⟩ := hoz2
    have hh : w.heap.size + 1 + 1 < wz.heap.size := ((z3 k hk (by omega)).blk _ e.symm).2
    omega
  have HFE := Lib.hid hfe
  have HOE := Lib.hid hoe
  have HOZ := Lib.hid (hoz2.below ((Below.refl _ _).alloc (Nat.le_refl _) (Obj.cells #[] 44)))
  have lz2 := later_alloc lz (Obj.cells #[] 44)
  clear hoz2 hoe hzz2 lz hfe
  generalize hgw : wz.alloc (Obj.cells #[] 44) = wy at *
  clear hgw
  generalize hG2 : w.heap.size + 1 + 1 = G2 at *
  generalize hG : w.heap.size + 1 = G at *
  have HGG := Lib.hid hG; have HGG2 := Lib.hid hG2; clear hG hG2 hmk
  go_loopw [9, 10] (fun t i wr => ∃ (k : Nat) (vs : List Value), k ≤ xs.length ∧ i = .int .i64 k ∧ Below w0.heap.size w0 wr ∧ isLL 34 44 w0.heap.size wr (.slice (some ⟨G, 0, none⟩) N N) (binsOf f N (xs.take k)) vs ∧ own 44 w0.heap.size wr t (restOf f (xs.take k)) ∧ Hid (farLL t (.slice (some ⟨G, 0, none⟩) N N) vs)) (fun _ i _ => xs.length - (intOf i).toNat)
  case atStart =>
    refine ⟨0, vs0, Nat.zero_le _, rfl, lz2, ?_, HOE.out, HFE.out⟩
    rw [List.take_zero, binsOf_nil]
    exact HOZ.out
  case round =>
    obtain ⟨k, vs, hk, rfl, lr, hB, hO, HFAR⟩ := hrel
    obtain ⟨w1, rfl⟩ : ∃ w1 : World, w1 = wr := ⟨_, rfl⟩
    have HB := Lib.hid hB; have HO := Lib.hid hO
    clear l0 lz2 HOZ hB HOE HFE
    obtain ⟨AO, mO, cO, rfl, hmO, _, _, _⟩ := hO.rd
    subst hmO
    clear hO
    by_cases hlt : k < xs.length
    · obtain ⟨b, o, rfl, hb, ⟨hxi, hxc⟩, c1, c2⟩ := HR.out.ltrU k hlt
      obtain ⟨x, hx⟩ : ∃ x, x = xs[k] := ⟨_, rfl⟩
      have HX := Lib.hid hx
      rw [← hx] at c1 c2 hxi hxc
      clear hx
      have hki : (k : Int) < (xs.length : Int) := by omega
      have ld := later_drew lr
      have HC : Hid (∀ W, Below w0.heap.size w0 W → Calls Try.prog 77 #[.agg #[.int .i64 p.bins, .int .i64 p.passes, .slice A0 p.order.length c0], .string x.code, .int .i64 k0] W fun e w' => e = .returned (.int .i64 (f x)) ∧ Below W.heap.size W w') := fun W hW => by
        rw [HFX.out]
        exact spec_l3Bin _ p x.code k0 W (HP.out.on hW) h1 h2 hk0 hord
      go_wp2
      go_region_held3 (fun W => Below w0.heap.size w0 W) (first | exact ld | exact later_trans ld b3) (first | (go_at_call 77; refine (HC.out _ ld).mono ?_; rintro e w3 ⟨rfl, b3⟩))
      have lw3 := later_trans ld b3
      have B3 : Below w1.heap.size w1 w3 := later_trans ((Below.refl _ _).drew) b3
      obtain ⟨fx1, fx2⟩ := HF.out x
      rw [← HFX.out] at fx1 fx2
      have HFXK : Hid (f xs[k] = f x) := by show _ = _; rw [← HX.out]
      have hs3 : w0.heap.size ≤ w3.heap.size := lw3.size
      have HB3 := Lib.hid (HB.out.below B3); have HO3 := Lib.hid (HO.out.below B3)
      clear b3 ld B3
      have HZL : Hid ((restOf f (xs.take k)).length ≤ 1000) := by
        show _ ≤ _
        have := filter_len_le (fun x => decide (f x < 0)) xs k
        unfold restOf
        omega
      by_cases hneg : f x < 0
      · have HS1 := Lib.hid (binsOf_skip (f := f) (n := N) hlt (by rw [HFXK.out]; exact hneg))
        have HS2 := Lib.hid (restOf_step (f := f) hlt (by rw [HFXK.out]; exact hneg))
        have hzl := HZL.out
        go_wp2_with (at_builtin; refine wpList_append1' (α := Ltr) rfl (.tmp 32) (.tmp 37) 34 rfl w0.heap.size 44 i1 _ 24 Try.underlying34 ji jz0 jz1 jz2 rfl (by decide) (.slice AO (restOf f (xs.take k)).length cO) (restOf f (xs.take k)) x rfl (HO3.out.alloc _) ⟨w3.heap.size, 0, none⟩ 1 (Ltr.cells x) rfl ⟨⟨hxi, hxc⟩, rfl⟩ (news_at w3 _ (Ltr.cells x)) (by unfold maxLen; omega) (by omega) (by simp; omega) ?_; intro g cap w4 ho4 hg4 ha4 hl4)
        have HB4 := Lib.hid (farLL_grown (HB3.out.below ((Below.refl _ _).alloc (Nat.le_refl _) _)) HFAR.out hg4)
        have b4 : Below w0.heap.size w0 w4 := by
          refine (later_alloc lw3 (Obj.cells #[Value.int IntKind.i64 x.id, Value.string x.code] 44)).grown hg4 (by simp; omega) fun j hj => ?_
          exact (HO3.out.blk j hj).1
        have HFAR4 : Hid (farLL (.slice (some ⟨g, 0, none⟩) ((restOf f (xs.take k)).length + 1) cap) (.slice (some ⟨G, 0, none⟩) N N) vs) := farLL_app HB3.out HFAR.out ha4 (by simp)
        go_wp2
        go_roundw
        case rel => exact ⟨k + 1, vs, by omega, by go_num, b4, by rw [HS1.out]; exact HB4.out, by rw [HS2.out, ← HX.out]; exact ho4, HFAR4⟩
        case measure => simp [intOf]; omega
      · obtain ⟨d, hd⟩ := Int.eq_ofNat_of_zero_le (show 0 ≤ f x by omega)
        have hdN : d < N := by omega
        have HD := Lib.hid hd
        have HS2 := Lib.hid (restOf_skip (f := f) hlt (by rw [HFXK.out]; omega))
        have hlb : d < (binsOf f N (xs.take k)).length := by rw [binsOf_len]; exact hdN
        have HS1 := Lib.hid (binsOf_step (f := f) (n := N) (d := d) hlt (by rw [HFXK.out]; exact HD.out) hlb)
        obtain ⟨hlv, hov, hgv⟩ : ∃ hlv : d < vs.length, own 44 w0.heap.size w3 vs[d] (binsOf f N (xs.take k))[d] ∧ apart vs[d] (.slice (some ⟨G, 0, none⟩) N N) := by
          obtain ⟨z1, z2, z3, z4, z5⟩ := HB3.out
          exact ⟨by omega, z3 d (by omega) hlb, z5 d (by omega)⟩
        have hcG : w3.cell? ⟨G, d, none⟩ = some vs[d] := own_cellv HB3.out.1 d hlv
        have hfG : w3.frozen? ⟨G, d, none⟩ = false := HB3.out.1.freeAt d
        have hzl : (binsOf f N (xs.take k))[d].length ≤ 1000 := by
          rw [binsOf_get]
          have := filter_len_le (fun x => f x == (d : Int)) xs k
          omega
        obtain ⟨zs, hzs⟩ : ∃ zs, zs = (binsOf f N (xs.take k))[d] := ⟨_, rfl⟩
        have HZS := Lib.hid hzs
        rw [← hzs] at hov hzl
        clear hzs
        obtain ⟨u, hu⟩ : ∃ u, u = vs[d] := ⟨_, rfl⟩
        have HU := Lib.hid hu
        rw [← hu] at hov hgv hcG
        clear hu
        obtain ⟨Au, mu, cu, rfl, hmu, _, _, _⟩ := hov.rd
        subst hmu
        have HOV := Lib.hid hov; clear hov
        have HGV := Lib.hid hgv; clear hgv
        rw [HD.out]
        have hdn : (d : Int) < (N : Int) := by omega
        have hd0 : ¬ ((d : Int) < 0) := by omega
        have hGs : some G ≠ (Value.slice Au zs.length cu).ownBlock := by
          have h := HGV.out
          unfold apart at h
          rcases h with h | h
          · rw [h]; simp
          · exact fun e => h e.symm
        have HGS := Lib.hid hGs; clear hGs
        have hGlt : G < w3.heap.size := (HB3.out.1.blk G rfl).2
        go_wp2
        go_region_law (first | ((refine step_append1 (α := Ltr) (by rfl) (.tmp 44) (.tmp 49) 34 (by rfl) w0.heap.size 44 i1 _ 24 Try.underlying34 ji jz0 jz1 jz2 rfl (by decide) (.slice Au zs.length cu) zs x (by rfl) ((HOV.out.alloc _).drew) ⟨w3.heap.size, 0, none⟩ 1 (Ltr.cells x) (by rfl) ⟨⟨hxi, hxc⟩, rfl⟩ (news_drew w3 _ (Ltr.cells x)) (by unfold maxLen; omega) (by omega) (by simp; omega) ?_; intro g cap w4 ho4 hg4 ha4 hl4; have hcG4 : w4.cell? ⟨G, d, none⟩ = some (.slice Au zs.length cu) := (hg4.cell_far ⟨G, d, none⟩ (by simp; omega) HGS.out).trans (by go_simp); have hfG4 : w4.frozen? ⟨G, d, none⟩ = false := (hg4.frozen_far ⟨G, d, none⟩ (by simp; omega) HGS.out).trans (by go_simp))))
        all_goals
          have hWD : Below w3.heap.size w3 (w3.alloc (Obj.cells #[Value.int IntKind.i64 x.id, Value.string x.code] 44)).drew := later_drew (later_alloc (Below.refl _ _) _)
          obtain ⟨p1, p2, p3⟩ := place_step HB3.out HO3.out HFAR.out hWD hlv hlb HU.out HZS.out ho4 hg4 ha4
          have p4 := place_later (G := G) (d := d) (g := g) (m := zs.length + 1) (cap := cap) (later_drew (later_alloc lw3 (Obj.cells #[Value.int IntKind.i64 x.id, Value.string x.code] 44))) hg4 (fun j hj => (HOV.out.blk j hj).1) hG0
          have P1 := Lib.hid p1; have P2 := Lib.hid p2; have P3 := Lib.hid p3
          clear p1 p2 p3 hWD
          go_wp2
          go_roundw
          case rel => exact ⟨k + 1, _, by omega, by go_num, p4, by rw [HS1.out, ← HX.out]; exact P1.out, by rw [HS2.out]; exact P2.out, P3.out⟩
          case measure => simp [intOf]; omega
    · have HE := Lib.hid (show k = xs.length by omega)
      go_wp2
      go_ret2
      have hB := HB.out
      have hO := HO.out
      have hF := HFAR.out
      rw [HE.out, List.take_length] at hB hO hF ⊢
      exact ⟨_, _, vs, rfl, hB.base_ (Nat.le_of_lt hwlt), hO.base_ (Nat.le_of_lt hwlt), hF, later_trans HT.out lr⟩

end Go.Proofs.Ytekjjgnokjhleaa
