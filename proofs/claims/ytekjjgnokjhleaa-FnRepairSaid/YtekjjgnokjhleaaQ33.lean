/- LP DX -/
import Derived.Test.YtekjjgnokjhleaaQ21
import Derived.Test.YtekjjgnokjhleaaQ13
import Derived.Test.YtekjjgnokjhleaaQ30
import Derived.Test.YtekjjgnokjhleaaQ24
import Derived.Test.YtekjjgnokjhleaaQ29
namespace Go.Proofs.Ytekjjgnokjhleaa
open Go.RowKit

/-- A row of its own put in a place. -/
theorem isLL.put {α : Type} [Flat α] {T1 T2 base G n c : Nat} {w w1 : World} {vs : List Value} {xss : List (List α)} {ys : List α} {v' : Value} {d B : Nat}
    (h : isLL T1 T2 base w (.slice (some ⟨G, 0, none⟩) n c) xss vs) (hb : Below w.heap.size w w1)
    (hd : d < vs.length) (ho : own T2 B w1 v' ys) (hB : w.heap.size ≤ B) (hbase : base ≤ w.heap.size) :
    isLL T1 T2 base (w1.setCell ⟨G, d, none⟩ v') (.slice (some ⟨G, 0, none⟩) n c) (xss.set d ys) (vs.set d v') := by
  obtain ⟨h1, h2, h3, h4, h5⟩ := h
  have hv1 : v'.oneCell' = true := by
    rcases ho.form with ⟨rfl, _⟩ | ⟨g, c, rfl, _⟩ <;> rfl
  have q2 := (h1.below hb).setCell (k := d) (j := 0) hd (by decide) v' v' (fun ecs he => by
    obtain ⟨rfl, _⟩ := he
    exact ⟨rfl, hv1⟩)
  rw [show d * El.size Value + 0 = d from Nat.mul_one d] at q2
  have hset : w1.grownBy (w1.setCell ⟨G, d, none⟩ v') (some G) := grown_setCell (World.grownBy.refl _ _) (.inl rfl) _
  have hG := h1.blk G rfl
  have hvG : apart v' (.slice (some ⟨G, 0, none⟩) n c) := apart_gt ho h1 hB
  have hfar : ∀ i (hi : i < vs.length), apart v' vs[i] := fun i hi => apart_gt ho (h3 i hi (by omega)) hB
  refine ⟨q2, by simp [h2], fun k h h' => ?_, fun j k hj hk hne => ?_, fun k h => ?_⟩
  · by_cases hkd : k = d
    · subst hkd
      simp only [List.getElem_set_self]
      exact (ho.grown hset hvG).base_ (Nat.le_trans hbase hB)
    · rw [List.getElem_set_ne (by omega), List.getElem_set_ne (by omega)]
      have hk1 : k < vs.length := by simpa using h
      have hk2 : k < xss.length := by simpa using h'
      exact ((h3 k hk1 hk2).below hb).grown hset (h5 k hk1)
  · have hj' : j < vs.length := by simpa using hj
    have hk' : k < vs.length := by simpa using hk
    by_cases hjd : j = d
    · subst hjd
      simp only [List.getElem_set_self]
      rw [List.getElem_set_ne (by omega)]
      exact hfar k hk'
    · by_cases hkd : k = d
      · subst hkd
        simp only [List.getElem_set_self]
        rw [List.getElem_set_ne (by omega)]
        exact apart_symm (hfar j hj')
      · rw [List.getElem_set_ne (by omega), List.getElem_set_ne (by omega)]
        exact h4 j k hj' hk' hne
  · by_cases hkd : k = d
    · subst hkd; simp only [List.getElem_set_self]; exact hvG
    · rw [List.getElem_set_ne (by omega)]; exact h5 k (by simpa using h)


end Go.Proofs.Ytekjjgnokjhleaa

namespace Go.Proofs.Ytekjjgnokjhleaa
open Go.RowKit

/-- It reads as xss wherever the blocks from b on are those of w'. -/
def rdFrom (b : Nat) (w' : World) (v : Value) (xss : List (List Ltr)) : Prop :=
  ∀ W : World, w'.heap.size ≤ W.heap.size → (∀ k, b ≤ k → k < w'.heap.size → W.heap[k]? = w'.heap[k]?) → rd W W.heap.size v xss
theorem rdFrom.rd {b : Nat} {w' : World} {v : Value} {xss : List (List Ltr)} (h : rdFrom b w' v xss) : rd w' w'.heap.size v xss := h w' (Nat.le_refl _) fun _ _ _ => rfl
/-- A store into a box below. -/
theorem rdFrom.box {b b' h : Nat} {W : World} {v : Value} {xss : List (List Ltr)} (hr : rdFrom b W v xss) (hh : h < b) (hb : b' ≤ b) (a c d : Value) : rdFrom b' (((W.setCell ⟨h, 0, none⟩ a).setCell ⟨h, 1, none⟩ c).setCell ⟨h, 2, none⟩ d) v xss := by
  have HG := grown_setCell (p := ⟨h, 2, none⟩) (grown_setCell (p := ⟨h, 1, none⟩) (grown_setCell (p := ⟨h, 0, none⟩) (World.grownBy.refl W (some h)) (.inl rfl) a) (.inl rfl) c) (.inl rfl) d
  intro W' hz hk
  refine hr W' (Nat.le_trans HG.size hz) fun k h1 h2 => (hk k (by omega) (Nat.lt_of_lt_of_le h2 HG.size)).trans (HG.block k h2 (fun e => by injection e; omega))
/-- Drawn: a plan, bins, a pass. -/
def drawBPost (T1 : Nat) (w : World) (e : Ending) (w' : World) : Prop :=
  ∃ (v vb : Value) (x : Pln) (xss : List (List Ltr)) (k : Int), e = .returned (.tuple #[v, vb, .int .i64 k]) ∧ ownP T1 w.heap.size w' v x ∧ rdFrom w.heap.size w' vb xss ∧ isI64 k ∧ xss.flatten.length ≤ 100 ∧ x.order.length ≤ 101 ∧ Below w.heap.size w w'

theorem drawBPost_of {T T1 h B : _} {u0 u1 u2 : Value} {w W : World} {v vb a b d : Value} {x : Pln} {xss : List (List Ltr)} {k : Int} (hh : w.heap.size ≤ h) (hbase : h < B) (hv : ownP T1 B W v x) (hvb : rdFrom w.heap.size (((W.setCell ⟨h, 0, none⟩ a).setCell ⟨h, 1, none⟩ b).setCell ⟨h, 2, none⟩ d) vb xss)
    (hk : isI64 k) (h1 : xss.flatten.length ≤ 100) (h3 : x.order.length ≤ 101) (hG : Below w.heap.size w W) (he : v = .agg #[a, b, d]) (_ : W.heap[h]? = some (.cells #[u0, u1, u2] T (0, 0))) :
    drawBPost T1 w (.returned (.tuple #[.agg #[a, b, d], vb, .int .i64 k])) (((W.setCell ⟨h, 0, none⟩ a).setCell ⟨h, 1, none⟩ b).setCell ⟨h, 2, none⟩ d) := by
  have HG := grown_setCell (p := ⟨h, 2, none⟩) (grown_setCell (p := ⟨h, 1, none⟩) (grown_setCell (p := ⟨h, 0, none⟩) (World.grownBy.refl W (some h)) (.inl rfl) a) (.inl rfl) b) (.inl rfl) d
  have HS := ((hG.setCell (p := ⟨h, 0, none⟩) hh a).setCell (p := ⟨h, 1, none⟩) hh b).setCell (p := ⟨h, 2, none⟩) hh d
  rw [← he]
  exact ⟨v, vb, x, xss, k, rfl, (hv.grown HG (fun r e => by injection e with e; omega)).base_ (by omega), hvb, hk, h1, h3, HS⟩

/-- The rows behind the first one. -/
theorem rd_tail {w : World} {B : Nat} {G n c : Nat} {xss : List (List Ltr)} (h : rd w B (.slice (some ⟨G, 0, none⟩) xss.length c) xss) (hn : n = xss.length) (h1 : 1 ≤ xss.length) : rd w B (.slice (some ⟨G, 1, none⟩) (n - 1) (c - 1)) xss.tail := by
  subst hn
  obtain ⟨A, n', c', hv, hn', hc, hm, hr⟩ := h
  injection hv with e1 e2 e3
  subst e1 e3
  cases xss with
  | nil => simp at h1
  | cons x xss =>
    have hl : (x :: xss).length = xss.length + 1 := rfl
    refine ⟨_, _, _, rfl, by simp, by omega, by omega, ?_⟩
    show rdA w B _ xss
    intro k hk
    obtain ⟨b, o, cs, hA, hb, hel, hcs⟩ := hr (k + 1) (by simp; exact hk)
    injection hA with hA
    injection hA with e1 e2
    subst e1 e2
    refine ⟨G, 1, cs, rfl, hb, hel, fun j u hu => ?_⟩
    have := hcs j u hu
    simp only [El.size] at this ⊢
    rw [show 1 + (k * 1 + j) = 0 + ((k + 1) * 1 + j) by omega]
    exact this
theorem isLL.grow_rd {T1 T2 base : Nat} {w w' : World} {v : Value} {xss : List (List Ltr)} {vs : List Value} {h : Nat} (hl : isLL T1 T2 base w v xss vs) (hh : h < base) (hg : w.grownBy w' (some h)) : isLL T1 T2 base w' v xss vs :=
  hl.grown hg (own_ne hl.1 hh) fun k hk => own_ne (hl.2.2.1 k hk (by have := hl.2.1; omega)) hh
theorem isLL.from_ {T1 T2 base : Nat} {w : World} {v : Value} {xss : List (List Ltr)} {vs : List Value} (hl : isLL T1 T2 base w v xss vs) : rdFrom base w v xss := fun W _ hk =>
  ownLL.rd ⟨vs, hl.1.keepBlk fun k e => hk k (hl.1.blk k e).1 (hl.1.blk k e).2, hl.2.1, fun k h h' => (hl.2.2.1 k h h').keepBlk fun j e => hk j ((hl.2.2.1 k h h').blk j e).1 ((hl.2.2.1 k h h').blk j e).2, hl.2.2.2.1, hl.2.2.2.2⟩
theorem rdFrom.tail {b : Nat} {w : World} {G n c : Nat} {xss : List (List Ltr)} (h : rdFrom b w (.slice (some ⟨G, 0, none⟩) n c) xss) (hn : n = xss.length) (h1 : 1 ≤ xss.length) : rdFrom b w (.slice (some ⟨G, 1, none⟩) (n - 1) (c - 1)) xss.tail := fun W hz hk =>
  rd_tail (by rw [← hn]; exact h W hz hk) hn h1
theorem flatten_set0 {xss : List (List Ltr)} (h : 0 < xss.length) (y : Ltr) : (xss.set 0 (xss[0] ++ [y])).flatten.length = xss.flatten.length + 1 := by
  cases xss with
  | nil => simp at h
  | cons x xs => simp; omega
theorem flatten_tail (xss : List (List Ltr)) : xss.tail.flatten.length ≤ xss.flatten.length := by
  cases xss with
  | nil => simp
  | cons x xs => simp

set_option maxRecDepth 100000 in
set_option maxHeartbeats 2000000 in
theorem draw_DrawWrongLetters (v : Value) (bs : List UInt8) (w : World) (hv : rd w w.heap.size v bs) :
    Calls Try.prog 79 #[v] w (drawBPost 9 w) := by
  obtain ⟨wA, hwA⟩ : ∃ u, u = w.alloc (Obj.cells #[.int .i64 0, .int .i64 0, .slice none 0 0] 25) := ⟨_, rfl⟩
  have hBA : Below w.heap.size w wA := by rw [hwA]; exact (Below.refl _ _).alloc (Nat.le_refl _) _
  have hzA : wA.heap.size = w.heap.size + 1 := by rw [hwA]; simp
  have hbA : wA.heap[w.heap.size]? = some (.cells #[.int .i64 0, .int .i64 0, .slice none 0 0] 25 (0, 0)) := by rw [hwA]; exact heap_alloc_new w _
  have hvA := hv.on hBA
  have HWA := Lib.hid hwA; clear hwA
  go_enter Try.func79, Try.ntmps79
  go_wp2_with fail
  rw [← HWA.out]
  refine (rd_open _ bs _ hvA).mono ?_
  rintro e w1 ⟨g, rfl, hg, hr1, b1⟩
  have hlt := hr1.lt
  have hb1 := (b1.block w.heap.size (by omega)).trans hbA
  have hB1 : Below w.heap.size w w1 := hBA.trans (b1.mono (by omega))
  have hz1 := b1.size
  clear hvA hv hBA b1 hbA
  go_wp2_with fail
  refine (rd_l7Draw g 0 _ hr1 (by omega)).mono ?_
  rintro e w2 ⟨v2, vb, vm, x, xs, k, ms, p2, rfl, ov, ob, om, hk, hxl, hml, hol, hr2, hp2, hg2⟩
  have hb2 := (hg2.block w.heap.size (by omega) (fun e => by injection e; omega)).trans hb1
  have hB2 : Below w.heap.size w w2 := hB1.trans (below_of_grown hg2 hB1.size (fun r e => by injection e; omega))
  have OV := Lib.hid ov
  have hz2 := hg2.size
  obtain ⟨vo, rfl, i1, i2, ho⟩ := ov
  obtain ⟨A, n, c, hvo, hn, _, _, _⟩ := ho.rd
  subst hn hvo
  clear ho hg2 hb1 hB1
  obtain ⟨wC, hwC⟩ : ∃ u, u = w2.alloc (Obj.cells #[.int .i64 x.bins, .int .i64 x.passes, .slice A x.order.length c] 25) := ⟨_, rfl⟩
  have hBC : Below w2.heap.size w2 wC := by rw [hwC]; exact (Below.refl _ _).alloc (Nat.le_refl _) _
  have hzC : wC.heap.size = w2.heap.size + 1 := by rw [hwC]; simp
  have hb3 := (hBC.block w.heap.size (by omega)).trans hb2
  have hB3 : Below w.heap.size w wC := hB2.trans (hBC.mono (by omega))
  have OV3 : Hid (ownP 9 w1.heap.size wC (.agg #[.int .i64 x.bins, .int .i64 x.passes, .slice A x.order.length c]) x) := OV.out.keepBlk fun k hk => hBC.block k (planBlk_own OV.out k hk).2
  have OB3 := Lib.hid (ob.below hBC)
  have OM3 := Lib.hid (om.below hBC)
  have hr3 : rdr wC g p2 := by rw [hwC]; exact hr2.alloc _
  have hbC : wC.heap[w2.heap.size]? = some (.cells #[.int .i64 x.bins, .int .i64 x.passes, .slice A x.order.length c] 25 (0, 0)) := by rw [hwC]; exact heap_alloc_new w2 _
  have HWC := Lib.hid hwC; clear hwC
  -- what every later world keeps
  have HK2 : Hid (∀ W, kept2 g wC.heap.size wC W → W.heap[w.heap.size]? = some (.cells #[.int .i64 0, .int .i64 0, .slice none 0 0] 25 (0, 0))) := fun W h => (h.block w.heap.size (by omega) (by omega)).trans hb3
  have HK6 : Hid (∀ W, kept2 g wC.heap.size wC W → W.heap[w2.heap.size]? = some (.cells #[.int .i64 x.bins, .int .i64 x.passes, .slice A x.order.length c] 25 (0, 0))) := fun W h => (h.block w2.heap.size (by omega) (by omega)).trans hbC
  have HKV : Hid (∀ W, kept2 g wC.heap.size wC W → ownP 9 w1.heap.size W (.agg #[.int .i64 x.bins, .int .i64 x.passes, .slice A x.order.length c]) x) := fun W h => OV3.out.keepBlk fun k hk => by
    have := planBlk_own OV3.out k hk
    have h3 := planBlk_own OV.out k hk
    exact h.block k (by omega) (by omega)
  have HKB : Hid (∀ W, kept2 g wC.heap.size wC W → Below w.heap.size w W) := fun W h => hB3.trans ⟨h.os, h.tape, h.output, h.size, fun k hk => h.block k (by omega) (by omega)⟩
  clear hb2 hB2 hr2 hb3 hB3 hbC hBC ob om
  have k3 : kept2 g wC.heap.size wC wC := kept2.refl _ _ _
  go_wp2_with fail
  rw [← HWC.out]
  refine (spec_FaultyPass _ _ _ x xs k ms _ OV3.out.rdp OB3.out.rd OM3.out.rd).mono ?_
  rintro e w4 ⟨vX, vO, vs, rfl, ox, _, _, b4⟩
  have k4 : kept2 g wC.heap.size wC w4 := kept2.below b4
  have hr4 := hr3.below b4
  have hX := fpBins_len x xs k ms
  have hB1 : Hid (∀ h : fpOk x xs k ms = true, 2 ≤ (fpBins x xs k ms).length) := fun h => by
    unfold fpBins
    rw [if_pos h, binsOf_len]
    have := planOk_bins (fpOk_iff.1 h).1.1
    omega
  have hB0 : Hid (∀ h : fpOk x xs k ms = false, fpBins x xs k ms = []) := fun h => by unfold fpBins; rw [h]; rfl
  generalize fpBins x xs k ms = X at *
  have OX4 := Lib.hid ox
  clear ox b4 hr3 k3
  cases hok : fpOk x xs k ms
  · have hXe := hB0.out hok
    subst hXe
    have HRX := Lib.hid (ownLL.rd ⟨vs, OX4.out⟩)
    clear hok
    obtain ⟨a0, a1, a2, f0, f1, f2⟩ := cells3 (HK2.out _ k4)
    obtain ⟨d0, d1, d2, _, _, _⟩ := cells3 (HK6.out _ k4)
    go_wp2_with fail
    refine ret_box2 rfl rfl (three_set (HK2.out _ k4)) Try.underlying25 rfl Try.sizePln rfl ?_
    exact drawBPost_of (B := w1.heap.size) (Nat.le_refl _) (by omega) (HKV.out _ k4) (OX4.out.from_.box (by omega) (by omega) _ _ _) hk (by simp) hol (HKB.out _ k4) rfl (HK2.out _ k4)
  have hX2 := hB1.out hok
  obtain ⟨hX1, hX3⟩ := hX
  clear hok hB0 hB1
  rcases ownLL.form ⟨vs, OX4.out⟩ with ⟨_, h0⟩ | ⟨G, c', rfl, hG, hGl, hcX, hmX⟩
  · rw [h0] at hX2; simp at hX2
  unfold maxLen at hmX
  go_wp2_with fail
  refine (rd_pick g p2 12 _ hr4 (by omega) (by unfold isI64; omega)).mono ?_
  rintro e w5 ⟨y, rfl, hy, hr5, hg5⟩
  have k5 := k4.step hg5 (Nat.le_refl _)
  have OX5 := Lib.hid (OX4.out.grow_rd (by omega) hg5)
  clear hy hg5 hr4 k4 OX4
  have hlv : vs.length = X.length := OX5.out.2.1
  obtain ⟨N, hN⟩ : ∃ N, N = X.length := ⟨_, rfl⟩
  rw [← hN] at hcX ⊢
  have hN2 : 2 ≤ N := by omega
  have OX5' : Hid (isLL 34 44 wC.heap.size w5 (.slice (some ⟨G, 0, none⟩) N c') X vs) := by show isLL _ _ _ _ _ _ _; rw [hN]; exact OX5.out
  clear OX5
  have hz5 := k5.size
  have hglt : g < wC.heap.size := by omega
  by_cases hy0 : y = 0
  rotate_left
  have d0 : (y == 0) = false := by simp [hy0]
  clear hy0
  obtain ⟨WS, rfl⟩ : ∃ W : World, W = w5 := ⟨_, rfl⟩
  obtain ⟨XS, rfl⟩ : ∃ Z : List (List Ltr), Z = X := ⟨_, rfl⟩
  obtain ⟨vt, rfl⟩ : ∃ Z : List Value, Z = vs := ⟨_, rfl⟩
  have hXSl : XS.flatten.length ≤ 61 := by omega
  have OXS := OX5'
  have hrS := hr5
  have kS := k5
  have hlN : XS.length = N := hN.symm
  clear OX5' hr5 k5 hlv hN
  rotate_left
  have d0 : (y == 0) = true := by simp [hy0]
  clear hy0
  have HN := Lib.hid hN
  have h0v : 0 < vs.length := by omega
  have h0X : 0 < X.length := by omega
  have cv0 := own_cellv OX5'.out.1 0 h0v
  have hrow := OX5'.out.2.2.1 0 h0v h0X
  have hfl := flatten_set0 h0X ⟨7777, ⟨#[48, 48, 48, 48, 48, 48, 49]⟩⟩
  have hYl := row_le_flat h0X
  have hNi : (0 : Int) < (N : Int) := by omega
  obtain ⟨u0, hu0⟩ : ∃ u, u = vs[0] := ⟨_, rfl⟩
  obtain ⟨Y, hY⟩ : ∃ Y, Y = X[0] := ⟨_, rfl⟩
  rw [← hu0] at cv0 hrow
  rw [← hY] at hrow hfl hYl
  have HFL := Lib.hid hfl
  clear hu0 hY hfl
  obtain ⟨i0, hi, hz0, hzz1, hzz2⟩ := info_parts Try.infoLtr
  have oE := own.made0 (α := Ltr) w5 44 (Nat.le_refl _)
  have hB8 : Below w5.heap.size w5 (w5.alloc (Obj.cells #[] 44)) := (Below.refl _ _).alloc (Nat.le_refl _) _
  have hz8 : w5.heap.size ≤ (w5.alloc (Obj.cells #[] 44)).heap.size := by simp
  clear hN hlv
  have HU : Hid (rd (w5.alloc (Obj.cells #[] 44)) (w5.alloc (Obj.cells #[] 44)).heap.size u0 Y) := (hrow.alloc _).rd
  have hG5 : G < w5.heap.size := (OX5'.out.1.blk G rfl).2
  have fG5 := OX5'.out.1.freeAt 0
  have HR5 := Lib.hid hr5
  have HOKY : Hid ((⟨7777, ⟨#[48, 48, 48, 48, 48, 48, 49]⟩⟩ : Ltr).ok) := ⟨⟨by show (-9223372036854775808 : Int) ≤ 7777; omega, by show (7777 : Int) ≤ 9223372036854775807; omega⟩, by show 7 ≤ maxLen; decide⟩
  clear hrow hr5
  go_wp2_with (first | (at_builtin; refine wpList_appendAll (α := Ltr) rfl (.tmp 38) (.tmp 41) _ rfl w5.heap.size 44 i0 _ 24 Try.underlying34 hi hz0 hzz1 hzz2 rfl (by decide) (.slice (some ⟨w5.heap.size, 0, none⟩) 0 0) [] rfl oE _ Y rfl _ HU.out (by unfold maxLen; simp; omega) (by simp; omega) hz8 ?_; intro v6 w6 o6 hg6 _; have l6 : Below w5.heap.size w5 w6 := hB8.trans (below_append oE hg6 hz8); rw [List.nil_append] at o6; have hz6 := l6.size; clear hg6 oE hB8 hz8) | (at_builtin; refine wpList_append1 (α := Ltr) rfl (.tmp 42) (.tmp 44) _ rfl w5.heap.size 44 i0 _ 24 Try.underlying34 hi hz0 hzz1 hzz2 rfl (by decide) v6 Y ⟨7777, ⟨#[48, 48, 48, 48, 48, 48, 49]⟩⟩ rfl (o6.alloc _) ⟨w6.heap.size, 0, none⟩ 1 (Ltr.cells ⟨7777, ⟨#[48, 48, 48, 48, 48, 48, 49]⟩⟩) rfl ⟨HOKY.out, rfl⟩ (news_at w6 _ (Ltr.cells ⟨7777, ⟨#[48, 48, 48, 48, 48, 48, 49]⟩⟩)) (by unfold maxLen; omega) (by omega) (by simp; omega) ?_; intro v7 w7 o7 hg7 _; have l7 : Below w5.heap.size w5 w7 := (later_alloc l6 _).trans (below_append (o6.alloc _) hg7 (by simp; omega)); obtain ⟨A7, n7, c7, hv7, hn7, _, _, _⟩ := o7.rd; subst hn7 hv7; have cG7 : w7.cell? ⟨G, 0, none⟩ = some u0 := (l7.cell (p := ⟨G, 0, none⟩) hG5).trans cv0; have fG7 : w7.frozen? ⟨G, 0, none⟩ = false := (World.frozen?_of_block (a := ⟨G, 0, none⟩) (l7.block G hG5)).trans fG5))
  have hput := OX5'.out.put l7 h0v o7 (Nat.le_refl _) hz5
  simp only [List.length_append, List.length_cons, List.length_nil, Nat.zero_add] at hput
  have HG := grown_setCell (p := ⟨G, 0, none⟩) (World.grownBy.refl w7 (some G)) (.inl rfl) (.slice A7 (Y.length + 1) c7)
  have hrS := (HR5.out.below l7).grown (g' := G) HG (by omega)
  have kS := (k5.trans (kept2.below (l7.mono hz5))).set ⟨G, 0, none⟩ hG (.slice A7 (Y.length + 1) c7)
  obtain ⟨WS, hWS⟩ : ∃ u, u = w7.setCell ⟨G, 0, none⟩ (.slice A7 (Y.length + 1) c7) := ⟨_, rfl⟩
  obtain ⟨XS, hXS⟩ : ∃ Z, Z = X.set 0 (Y ++ [(⟨7777, ⟨#[48, 48, 48, 48, 48, 48, 49]⟩⟩ : Ltr)]) := ⟨_, rfl⟩
  have hXSl : XS.flatten.length ≤ 61 := by rw [hXS, HFL.out]; omega
  have hlN : XS.length = N := by rw [hXS, List.length_set]; exact HN.out.symm
  rw [← hWS, ← hXS] at hput
  rw [← hWS] at hrS kS
  generalize vs.set 0 (.slice A7 (Y.length + 1) c7) = vt at hput
  have OXS := Lib.hid hput
  have HWS := Lib.hid hWS
  clear hput HG hXS hWS OX5' HR5 k5 HFL cv0 cG7 fG7 fG5 o6 o7 l6 l7
  try rw [← HWS.out]
  all_goals
    have hbox2 := HK2.out _ kS
    have hbox6 := HK6.out _ kS
    obtain ⟨a0, a1, a2, f0, f1, f2⟩ := cells3 hbox2
    obtain ⟨e0, e1, e2, _, _, _⟩ := cells3 hbox6
    go_wp2_with fail
    try rw [← HWS.out]
    refine (rd_pick g (p2 + 1) 24 _ hrS (by omega) (by unfold isI64; omega)).mono ?_
    rintro e wT ⟨z, rfl, hz, _, hgT⟩
    have kT := kS.step hgT (Nat.le_refl _)
    have OXT := Lib.hid (OXS.out.grow_rd (by omega) hgT)
    clear hz hgT hrS kS OXS a0 a1 a2 f0 f1 f2 e0 e1 e2 hbox2 hbox6
    have hbox2 := HK2.out _ kT
    have hbox6 := HK6.out _ kT
    obtain ⟨a0, a1, a2, f0, f1, f2⟩ := cells3 hbox2
    obtain ⟨e0, e1, e2, _, _, _⟩ := cells3 hbox6
    by_cases hz0 : z = 0
    · have d1 : (z == 0) = true := by simp [hz0]
      clear hz0
      have hN1 : (1 : Int) ≤ (N : Int) := by omega
      have hc1 : ¬ c' = 1 := by omega
      go_wp2_with fail
      refine ret_box2 rfl rfl (three_set hbox2) Try.underlying25 rfl Try.sizePln rfl ?_
      refine drawBPost_of (xss := XS.tail) (B := w1.heap.size) (Nat.le_refl _) (by omega) (HKV.out _ kT) ?_ hk (by have := flatten_tail XS; omega) hol (HKB.out _ kT) rfl hbox2
      exact (OXT.out.from_.tail hlN.symm (by omega)).box (by omega) (by omega) _ _ _
    · have d1 : (z == 0) = false := by simp [hz0]
      clear hz0
      go_wp2_with fail
      refine ret_box2 rfl rfl (three_set hbox2) Try.underlying25 rfl Try.sizePln rfl ?_
      exact drawBPost_of (xss := XS) (B := w1.heap.size) (Nat.le_refl _) (by omega) (HKV.out _ kT) (OXT.out.from_.box (by omega) (by omega) _ _ _) hk (by omega) hol (HKB.out _ kT) rfl hbox2

set_option maxRecDepth 100000 in
theorem draw_DrawRepairBins (v : Value) (bs : List UInt8) (w : World) (hv : rd w w.heap.size v bs) :
    Calls Try.prog 36 #[v] w (drawBPost 9 w) := by
  obtain ⟨wA, hwA⟩ : ∃ u, u = w.alloc (Obj.cells #[.int .i64 0, .int .i64 0, .slice none 0 0] 25) := ⟨_, rfl⟩
  have hBA : Below w.heap.size w wA := by rw [hwA]; exact (Below.refl _ _).alloc (Nat.le_refl _) _
  have hzA : wA.heap.size = w.heap.size + 1 := by rw [hwA]; simp
  have hbA : wA.heap[w.heap.size]? = some (.cells #[.int .i64 0, .int .i64 0, .slice none 0 0] 25 (0, 0)) := by rw [hwA]; exact heap_alloc_new w _
  have hvA := hv.on hBA
  have HWA := Lib.hid hwA; clear hwA
  go_enter Try.func36, Try.ntmps36
  go_wp2_with fail
  rw [← HWA.out]
  refine (draw_DrawWrongLetters _ bs _ hvA).mono ?_
  rintro e w1 ⟨v2, vb, x, xss, k, rfl, ov, hb, hk, hxl, hol, b1⟩
  have hb1 := (b1.block w.heap.size (by omega)).trans hbA
  have hB1 : Below w.heap.size w w1 := hBA.trans (b1.mono (by omega))
  have OV := Lib.hid ov
  have HB := Lib.hid hb
  obtain ⟨vo, rfl, i1, i2, ho⟩ := ov
  obtain ⟨A, n, c, hvo, hn, _, _, _⟩ := ho.rd
  subst hn hvo
  clear ho b1 hv hvA hBA hbA hb
  obtain ⟨a0, a1, a2, f0, f1, f2⟩ := cells3 hb1
  go_wp2_with fail
  refine ret_box2 rfl rfl (three_set hb1) Try.underlying25 rfl Try.sizePln rfl ?_
  exact drawBPost_of (B := wA.heap.size) (Nat.le_refl _) (by omega) OV.out (HB.out.box (by omega) (by omega) _ _ _) hk hxl hol hB1 rfl hb1

set_option maxRecDepth 100000 in
theorem draw_DrawFinishPasses (v : Value) (bs : List UInt8) (w : World) (hv : rd w w.heap.size v bs) :
    Calls Try.prog 32 #[v] w (drawBPost 9 w) := by
  obtain ⟨wA, hwA⟩ : ∃ u, u = w.alloc (Obj.cells #[.int .i64 0, .int .i64 0, .slice none 0 0] 25) := ⟨_, rfl⟩
  have hBA : Below w.heap.size w wA := by rw [hwA]; exact (Below.refl _ _).alloc (Nat.le_refl _) _
  have hzA : wA.heap.size = w.heap.size + 1 := by rw [hwA]; simp
  have hbA : wA.heap[w.heap.size]? = some (.cells #[.int .i64 0, .int .i64 0, .slice none 0 0] 25 (0, 0)) := by rw [hwA]; exact heap_alloc_new w _
  have hvA := hv.on hBA
  have HWA := Lib.hid hwA; clear hwA
  go_enter Try.func32, Try.ntmps32
  go_wp2_with fail
  rw [← HWA.out]
  refine (draw_DrawWrongLetters _ bs _ hvA).mono ?_
  rintro e w1 ⟨v2, vb, x, xss, k, rfl, ov, hb, hk, hxl, hol, b1⟩
  have hb1 := (b1.block w.heap.size (by omega)).trans hbA
  have hB1 : Below w.heap.size w w1 := hBA.trans (b1.mono (by omega))
  have OV := Lib.hid ov
  have HB := Lib.hid hb
  obtain ⟨vo, rfl, i1, i2, ho⟩ := ov
  obtain ⟨A, n, c, hvo, hn, _, _, _⟩ := ho.rd
  subst hn hvo
  clear ho b1 hv hvA hBA hbA hb
  obtain ⟨a0, a1, a2, f0, f1, f2⟩ := cells3 hb1
  go_wp2_with fail
  refine ret_box2 rfl rfl (three_set hb1) Try.underlying25 rfl Try.sizePln rfl ?_
  exact drawBPost_of (B := wA.heap.size) (Nat.le_refl _) (by omega) OV.out (HB.out.box (by omega) (by omega) _ _ _) hk hxl hol hB1 rfl hb1

end Go.Proofs.Ytekjjgnokjhleaa
