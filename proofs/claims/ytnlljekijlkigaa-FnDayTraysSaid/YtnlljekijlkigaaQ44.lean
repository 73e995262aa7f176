/- YJ YI -/
import Derived.Test.YtnlljekijlkigaaQ7
import Derived.Test.YtnlljekijlkigaaQ42
import Derived.Test.YtnlljekijlkigaaQ8
import Derived.Test.YtnlljekijlkigaaQ11
import Derived.Test.YtnlljekijlkigaaQ23
import Derived.Test.YtnlljekijlkigaaQ40
namespace Go.Proofs.Ytnlljekijlkigaa
open Go.RowKit

set_option maxHeartbeats 400000 in
theorem so_has (v : Value) (xs : List ByteArray) (c : ByteArray) (w : World) (hv : rd w w.heap.size v xs) :
    Calls Try.prog 40 #[v, .string c] w fun e w' => e = .returned (.bool (decide (0 ≤ rkI xs c))) ∧ w = w' := by
  obtain ⟨A, n, cp, rfl, hn, hc, hm, hr⟩ := hv
  subst hn
  unfold maxLen at hm
  have HR := Lib.hid hr; clear hr
  go_enter Try.func40, Try.ntmps40
  go_wp2
  go_loop [5] (fun i => ∃ k : Nat, k ≤ xs.length ∧ i = .int .i64 k ∧ Hid (∀ j (h : j < xs.length), j < k → sEq xs[j] c = false)) (fun i => xs.length - (intOf i).toNat)
  case atStart => exact ⟨0, Nat.zero_le _, rfl, fun j _ hj => absurd hj (Nat.not_lt_zero j)⟩
  case round =>
    obtain ⟨k, hk, rfl, HG⟩ := hrel
    by_cases hlt : k < xs.length
    · obtain ⟨b, o, rfl, hb, hok, c1⟩ := HR.out.str k hlt
      have HX : Hid (∀ h : sEq xs[k] c = false, ∀ j (h1 : j < xs.length), j < k + 1 → sEq xs[j] c = false) := fun h j h1 hj => by
        by_cases hjk : j < k
        · exact HG.out j h1 hjk
        · obtain rfl : j = k := by omega
          exact h
      have HY : Hid (∀ h : sEq xs[k] c = true, decide (0 ≤ rkI xs c) = true) := fun h => by
        have e := rk_eq hlt (fun j hj => HG.out j (by omega) hj) h
        rw [rkI_pos (by omega), e]
        exact decide_eq_true (by omega)
      generalize xs[k] = x at *
      cases he : sEq x c
      · have he' := Lib.hid he
        have hq : (x.toList == c.toList) = false := he
        clear he
        go_wp2
        go_round
        case rel => exact ⟨k + 1, by omega, by go_num, HX.out he'.out⟩
        case measure => simp [intOf]; omega
      · have he' := Lib.hid he
        have hq : (x.toList == c.toList) = true := he
        clear he
        go_wp2
        go_ret
        exact ⟨ret_bool (HY.out he'.out).symm, rfl⟩
    · have HE : Hid (decide (0 ≤ rkI xs c) = false) := by
        have e := rk_none (cs := xs) (c := c) (fun j hj => HG.out j hj (by omega))
        show _ = _
        rw [rkI_neg (by omega)]
        rfl
      go_wp2
      go_ret
      exact ⟨ret_bool HE.out.symm, rfl⟩

theorem impl_LeastTrays (n : Nat) (s : Int) (w : World) (hn : n ≤ 60) (hs : sizeOk s = true) :
    Calls Try.prog 32 #[.int .i64 n, .int .i64 s] w fun e w' => e = .returned (.int .i64 (((n : Int) + s - 1) / s)) ∧ w = w' := by
  have hs2 := sizeOk_iff.1 hs
  obtain ⟨h1, h2⟩ := hs2
  have hn0 : ¬ (n : Int) < 0 := by omega
  have hn6 : ¬ (60 : Int) < (n : Int) := by omega
  have HS := Lib.hid hs; clear hs
  have hw1 : IntKind.i64.wrap ((n : Int) + s) = (n : Int) + s := IntWalk.i64_in _ (by omega)
  have hw2 : IntKind.i64.wrap ((n : Int) + s - 1) = (n : Int) + s - 1 := IntWalk.i64_in _ (by omega)
  have hw0 : 0 ≤ (n : Int) + s - 1 := by omega
  have HQ : Hid (((n : Int) + s - 1).tdiv s = ((n : Int) + s - 1) / s) := Int.tdiv_eq_ediv_of_nonneg hw0
  go_enter Try.func32, Try.ntmps32
  go_wp2_with fail
  refine (impl_sizeValid s _).mono ?_
  rw [HS.out]
  rintro e w1 ⟨rfl, rfl⟩
  go_wp2_with fail
  go_ret
  exact ⟨rfl, rfl⟩

theorem rows_le {xss : List (List Ltr)} {k : Nat} (hk : k < xss.length) : (xss.take (k + 1)).flatten.length = (xss.take k).flatten.length + xss[k].length ∧ (xss.take (k + 1)).flatten.length ≤ xss.flatten.length := by
  refine ⟨?_, ?_⟩
  · rw [List.take_succ_eq_append_getElem hk, List.flatten_append, List.length_append]; simp
  · conv => rhs; rw [← List.take_append_drop (k + 1) xss, List.flatten_append, List.length_append]
    omega
set_option maxRecDepth 100000 in
set_option maxHeartbeats 400000 in
theorem impl_TraysValid (v : Value) (xss : List (List Ltr)) (s : Int) (w : World) (hv : rd w w.heap.size v xss) (hs : sizeOk s = true) (hn : xss.length ≤ 60) (ht : ∀ t ∈ xss, 1 ≤ t.length ∧ (t.length : Int) ≤ s) (hb : okB xss.flatten = true) :
    Calls Try.prog 88 #[v, .int .i64 s] w fun e w' => e = .returned (.bool true) ∧ Below w.heap.size w w' := by
  have hl6 := okB_len' hb
  have HV := Lib.hid hv
  obtain ⟨A, n, c, rfl, hn', hc, hm, hr⟩ := hv
  subst hn'
  unfold maxLen at hm
  have HR := Lib.hid hr; clear hr
  have HS := Lib.hid hs; have HT := Lib.hid ht; have HB := Lib.hid hb
  clear hs ht hb
  have l0 := Below.refl w.heap.size w
  have h60 : ¬ (60 : Int) < (xss.length : Int) := by omega
  go_enter Try.func88, Try.ntmps88
  go_wp2_with fail
  refine (impl_sizeValid s _).mono ?_
  rw [HS.out]
  rintro e w1 ⟨rfl, rfl⟩
  go_wp2_with fail
  go_loopw [5, 18] (fun t i wr => ∃ k : Nat, k ≤ xss.length ∧ i = .int .i64 k ∧ t = .int .i64 ((xss.take k).flatten.length : Nat) ∧ Below w.heap.size w wr) (fun _ i _ => xss.length - (intOf i).toNat)
  case atStart => exact ⟨0, Nat.zero_le _, rfl, rfl, l0⟩
  case round =>
    obtain ⟨k, hk, rfl, rfl, lr⟩ := hrel
    obtain ⟨w1, rfl⟩ : ∃ w1 : World, w1 = wr := ⟨_, rfl⟩
    clear l0
    by_cases hlt : k < xss.length
    · obtain ⟨b, o, u, rfl, hb, hu, c1⟩ := HR.out.rowU k hlt
      obtain ⟨r1, r2⟩ := rows_le hlt
      obtain ⟨t1, t2⟩ := HT.out _ (List.getElem_mem hlt)
      have HRL : Hid ((xss.take (k + 1)).flatten.length = (xss.take k).flatten.length + xss[k].length) := r1
      generalize (xss.take k).flatten.length = N at *
      generalize xss[k] = ys at *
      obtain ⟨A2, m2, c2, rfl, hm2, hc2, hmm2, hr2⟩ := hu
      subst hm2
      clear hr2
      have hki : (k : Int) < (xss.length : Int) := by omega
      have hw1 : IntKind.i64.wrap ((N : Int) + (ys.length : Int)) = (N : Int) + ys.length := IntWalk.i64_in _ (by omega)
      have hy1 : ¬ (ys.length : Int) < 1 := by omega
      have hy2 : ¬ s < (ys.length : Int) := by omega
      have hy3 : ¬ 60 < (N : Int) + (ys.length : Int) := by omega
      go_wp2_with fail
      go_roundw
      case rel => exact ⟨k + 1, by omega, by go_num, by rw [HRL.out]; simp, lr⟩
      case measure => simp [intOf]; omega
    · go_wp2_with fail
      refine (impl_joinBins _ xss _ (HV.out.on lr) (by omega)).mono ?_
      rintro e w2 ⟨v', rfl, o2, b2⟩
      have l2 := later_trans lr b2
      have OJ := Lib.hid o2
      clear o2
      go_wp2_with fail
      refine (impl_BatchValid _ xss.flatten _ OJ.out.rd).mono ?_
      rw [HB.out]
      rintro e w3 ⟨rfl, b3⟩
      have l3 := later_trans l2 b3
      go_wp2_with fail
      go_ret
      exact ⟨rfl, l3⟩

theorem impl_EmptyTrays (v : Value) (xss : List (List Ltr)) (w : World) (hv : rd w w.heap.size v xss) (hn : xss.length ≤ 60) (ht : ∀ t ∈ xss, 1 ≤ t.length ∧ (t.length : Int) ≤ 20) (hb : okB xss.flatten = true) :
    Calls Try.prog 31 #[v] w fun e w' => ∃ v', e = .returned (.tuple #[v', .bool true]) ∧ own 49 w.heap.size w' v' xss.flatten ∧ Below w.heap.size w w' := by
  have hl6 := okB_len' hb
  have HV := Lib.hid hv
  have HT := Lib.hid ht; have HB := Lib.hid hb
  clear hv ht hb
  go_enter Try.func31, Try.ntmps31
  go_wp2_with fail
  refine (impl_TraysValid _ xss 20 _ HV.out (by decide) hn HT.out HB.out).mono ?_
  rintro e w1 ⟨rfl, l1⟩
  go_wp2_with fail
  refine (impl_joinBins _ xss _ (HV.out.on l1) (by omega)).mono ?_
  rintro e w2 ⟨v', rfl, o2, b2⟩
  have l2 := later_trans l1 b2
  have OJ := Lib.hid (o2.base_ l1.size)
  clear o2
  go_wp2_with fail
  go_ret2
  exact ⟨_, rfl, OJ.out, l2⟩

end Go.Proofs.Ytnlljekijlkigaa

namespace Go.Proofs.Ytnlljekijlkigaa
open Go.RowKit

/-- Drawn: a day, a code. -/
def drawFPost (w : World) (e : Ending) (w' : World) : Prop :=
  ∃ (v : Value) (d : Dy) (s : ByteArray), e = .returned (.tuple #[v, .string s]) ∧ rdD w' w'.heap.size v d ∧ s.size ≤ maxLen ∧ d.plan.order.length ≤ 101 ∧ d.fwds.length ≤ 31 ∧ d.held.length ≤ 3 ∧ Below w.heap.size w w'
theorem drawFPost_of {T1 T2 h B : _} {w W : World} {vo vf vh a b c : Value} {d : Dy} {s : ByteArray} (hh : w.heap.size ≤ h) (hbase : h < B) (hv : ownDz T1 T2 B W (.agg #[a, b, vo, vf, vh, c]) d)
    (h1 : s.size ≤ maxLen) (h2 : d.plan.order.length ≤ 101) (h3 : d.fwds.length ≤ 31) (h4 : d.held.length ≤ 3) (hG : Below w.heap.size w W) :
    drawFPost w (.returned (.tuple #[.agg #[a, b, vo, vf, vh, c], .string s])) ((((((W.setCell ⟨h, 0, none⟩ a).setCell ⟨h, 1, none⟩ b).setCell ⟨h, 2, none⟩ vo).setCell ⟨h, 3, none⟩ vf).setCell ⟨h, 4, none⟩ vh).setCell ⟨h, 5, none⟩ c) := by
  have HG := six_grown W h a b vo vf vh c
  obtain ⟨vo', vf', vh', e, i1, i2, i3, ho, hf, hd⟩ := hv
  have hz : ownDz T1 T2 B ((((((W.setCell ⟨h, 0, none⟩ a).setCell ⟨h, 1, none⟩ b).setCell ⟨h, 2, none⟩ vo).setCell ⟨h, 3, none⟩ vf).setCell ⟨h, 4, none⟩ vh).setCell ⟨h, 5, none⟩ c) (.agg #[a, b, vo, vf, vh, c]) d := ⟨vo', vf', vh', e, i1, i2, i3, ho.grown HG (own_ne ho hbase), hf.grown HG (own_ne hf hbase), hd.grown HG (own_ne hd hbase)⟩
  have HS := (((((hG.setCell (p := ⟨h, 0, none⟩) hh a).setCell (p := ⟨h, 1, none⟩) hh b).setCell (p := ⟨h, 2, none⟩) hh vo).setCell (p := ⟨h, 3, none⟩) hh vf).setCell (p := ⟨h, 4, none⟩) hh vh).setCell (p := ⟨h, 5, none⟩) hh c
  exact ⟨_, d, s, rfl, hz.rd, h1, h2, h3, h4, HS⟩

set_option maxRecDepth 100000 in
set_option maxHeartbeats 400000 in
theorem draw_DrawDayTrays (v : Value) (bs : List UInt8) (w : World) (hv : rd w w.heap.size v bs) :
    Calls Try.prog 27 #[v] w (drawDPost 9 156 49 w) := by
  obtain ⟨wA, hwA⟩ : ∃ u, u = w.alloc (Obj.cells #[.int .i64 0, .int .i64 0, .slice none 0 0, .slice none 0 0, .slice none 0 0, .int .i64 0] 28) := ⟨_, rfl⟩
  have hBA : Below w.heap.size w wA := by rw [hwA]; exact (Below.refl _ _).alloc (Nat.le_refl _) _
  have hzA : wA.heap.size = w.heap.size + 1 := by rw [hwA]; simp
  have hbA : wA.heap[w.heap.size]? = some (.cells #[.int .i64 0, .int .i64 0, .slice none 0 0, .slice none 0 0, .slice none 0 0, .int .i64 0] 28 (0, 0)) := by rw [hwA]; exact heap_alloc_new w _
  have hvA := hv.on hBA
  have HWA := Lib.hid hwA; clear hwA
  go_enter Try.func27, Try.ntmps27
  go_wp2_with fail
  rw [← HWA.out]
  refine (draw_DrawRunDay _ bs _ hvA).mono ?_
  rintro e w2 ⟨v2, vb, d, xs, rfl, ov, ob, hxl, hol, hfl, hhl, b2⟩
  have hz2 := b2.size
  have hb2 := (b2.block w.heap.size (by omega)).trans hbA
  have hB2 : Below w.heap.size w w2 := hBA.trans (b2.mono (by omega))
  have OV := Lib.hid ov
  obtain ⟨vo, vf, vh, rfl, i1, i2, i3, ho, hf, hh⟩ := ov
  replace ho := ho.rd; replace hf := hf.rd; replace hh := hh.rd
  obtain ⟨Ao, no, co, rfl, rfl, _, _, _⟩ := ho
  obtain ⟨Af, nf, cf, rfl, rfl, _, _, _⟩ := hf
  obtain ⟨Ah, nh, ch, rfl, rfl, _, _, _⟩ := hh
  clear b2 hbA hBA hvA hv i1 i2 i3
  obtain ⟨a0, a1, a2, a3, a4, a5⟩ := cells6 hb2
  have f0 := unfrozen6 hb2 0
  have f1 := unfrozen6 hb2 1
  have f2 := unfrozen6 hb2 2
  have f3 := unfrozen6 hb2 3
  have f4 := unfrozen6 hb2 4
  have f5 := unfrozen6 hb2 5
  go_wp2_with fail
  refine ret_box1 rfl rfl (six_set hb2) Try.underlying28 rfl Try.sizeDay rfl ?_
  exact drawDPost_of (B := wA.heap.size) (Nat.le_refl _) (by omega) OV.out ob hxl hol hfl hhl hB2

set_option maxRecDepth 100000 in
set_option maxHeartbeats 1000000 in
theorem draw_DrawFateOf (v : Value) (bs : List UInt8) (w : World) (hv : rd w w.heap.size v bs) :
    Calls Try.prog 35 #[v] w (drawFPost w) := by
  obtain ⟨wA, hwA⟩ : ∃ u, u = w.alloc (Obj.cells #[.int .i64 0, .int .i64 0, .slice none 0 0, .slice none 0 0, .slice none 0 0, .int .i64 0] 28) := ⟨_, rfl⟩
  have hBA : Below w.heap.size w wA := by rw [hwA]; exact (Below.refl _ _).alloc (Nat.le_refl _) _
  have hzA : wA.heap.size = w.heap.size + 1 := by rw [hwA]; simp
  have hbA : wA.heap[w.heap.size]? = some (.cells #[.int .i64 0, .int .i64 0, .slice none 0 0, .slice none 0 0, .slice none 0 0, .int .i64 0] 28 (0, 0)) := by rw [hwA]; exact heap_alloc_new w _
  have hvA := hv.on hBA
  have HWA := Lib.hid hwA; clear hwA
  go_enter Try.func35, Try.ntmps35
  go_wp2_with fail
  rw [← HWA.out]
  refine (rd_open _ bs _ hvA).mono ?_
  rintro e w1 ⟨g, rfl, hg, hr1, b1⟩
  have hlt := hr1.lt
  have hb1 := (b1.block w.heap.size (by omega)).trans hbA
  have hB1 : Below w.heap.size w w1 := hBA.trans (b1.mono (by omega))
  have hz1 := b1.size
  clear hvA hv hBA b1 hbA
  go_wp2_with fail
  refine (rd_l8Day g 0 _ hr1 (by omega)).mono ?_
  rintro e w2 ⟨v2, d2, p2, rfl, hd2, hP2, hF8, hFD, hH2, hr2, hp2, hg2⟩
  have hb2 := (hg2.block w.heap.size (by omega) (fun e => by injection e; omega)).trans hb1
  have hB2 : Below w.heap.size w w2 := hB1.trans (below_of_grown hg2 hB1.size (fun r e => by injection e; omega))
  have hz2 := hg2.size
  have HP2 := Lib.hid hP2
  have HFD := Lib.hid hFD
  have HD2 := Lib.hid hd2
  clear hb1 hB1 hg2 hr1 hP2 hFD hd2
  go_wp2_with fail
  refine (rd_l8Bad g p2 w1.heap.size _ d2 _ hr2 (by omega) HD2.out (by omega) HP2.out hF8 HFD.out hH2).mono ?_
  rintro e w3 ⟨v3, d, p3, rfl, hd3, l3o, l3f, l3h, hr3, hp3, hk3⟩
  have hz3 := hk3.size
  have hb3 := (hk3.block w.heap.size (by omega) (by omega)).trans hb2
  have hB3 : Below w.heap.size w w3 := hB2.trans ⟨hk3.os, hk3.tape, hk3.output, hk3.size, fun k hk => hk3.block k (by omega) (by omega)⟩
  clear HP2 HFD HD2 hk3 hb2 hB2 hr2
  obtain ⟨vo, vf, vh, rfl, i1, i2, i3, ho, hf, hh⟩ := hd3
  have HO3 := Lib.hid ho; have HF3 := Lib.hid hf; have HH3 := Lib.hid hh
  obtain ⟨Ao, no, co, rfl, rfl, _, _, _⟩ := ho.rd
  obtain ⟨Af, nf, cf, rfl, rfl, _, _, _⟩ := hf.rd
  obtain ⟨Ah, nh, ch, rfl, rfl, _, _, _⟩ := hh.rd
  clear ho hf hh
  obtain ⟨wC, hwC⟩ : ∃ u, u = w3.alloc (Obj.cells #[.int .i64 d.plan.bins, .int .i64 d.plan.passes, .slice Ao d.plan.order.length co, .slice Af d.fwds.length cf, .slice Ah d.held.length ch, .int .i64 d.size] 28) := ⟨_, rfl⟩
  have hBC : Below w3.heap.size w3 wC := by rw [hwC]; exact (Below.refl _ _).alloc (Nat.le_refl _) _
  have hzC : wC.heap.size = w3.heap.size + 1 := by rw [hwC]; simp
  have hrC : rdr wC g p3 := by rw [hwC]; exact hr3.alloc _
  have hbC : wC.heap[w3.heap.size]? = some (.cells #[.int .i64 d.plan.bins, .int .i64 d.plan.passes, .slice Ao d.plan.order.length co, .slice Af d.fwds.length cf, .slice Ah d.held.length ch, .int .i64 d.size] 28 (0, 0)) := by rw [hwC]; exact heap_alloc_new w3 _
  have hHC := (hBC.block w.heap.size (by omega)).trans hb3
  have hB4 : Below w.heap.size w wC := hB3.trans (hBC.mono (by omega))
  have HOC := Lib.hid (HO3.out.below hBC); have HFC := Lib.hid (HF3.out.below hBC); have HHC := Lib.hid (HH3.out.below hBC)
  -- what every later world keeps
  have HKD : Hid (∀ W, kept2 g wC.heap.size wC W → ownDz 9 156 w1.heap.size W (.agg #[.int .i64 d.plan.bins, .int .i64 d.plan.passes, .slice Ao d.plan.order.length co, .slice Af d.fwds.length cf, .slice Ah d.held.length ch, .int .i64 d.size]) d) := fun W h => by
    have key : ∀ {α : Type} [Flat α] {T : Nat} {u : Value} {ys : List α}, own T w1.heap.size wC u ys → own T w1.heap.size W u ys := fun ho => ho.keepBlk fun j hj => h.block j (ho.blk j hj).2 (by have := (ho.blk j hj).1; omega)
    exact ⟨_, _, _, rfl, i1, i2, i3, key HOC.out, key HFC.out, key HHC.out⟩
  have HKA : Hid (∀ W, kept2 g wC.heap.size wC W → W.heap[w.heap.size]? = some (.cells #[.int .i64 0, .int .i64 0, .slice none 0 0, .slice none 0 0, .slice none 0 0, .int .i64 0] 28 (0, 0))) := fun W h => (h.block w.heap.size (by omega) (by omega)).trans hHC
  have HKC : Hid (∀ W, kept2 g wC.heap.size wC W → W.heap[w3.heap.size]? = some (.cells #[.int .i64 d.plan.bins, .int .i64 d.plan.passes, .slice Ao d.plan.order.length co, .slice Af d.fwds.length cf, .slice Ah d.held.length ch, .int .i64 d.size] 28 (0, 0))) := fun W h => (h.block w3.heap.size (by omega) (by omega)).trans hbC
  have HKB : Hid (∀ W, kept2 g wC.heap.size wC W → Below w.heap.size w W) := fun W h => hB4.trans ⟨h.os, h.tape, h.output, h.size, fun k hk => h.block k (by omega) (by omega)⟩
  have HW3 : Hid (w.heap.size ≠ w3.heap.size) := by show _ ≠ _; omega
  have HWC := Lib.hid hwC
  have kD : kept2 g wC.heap.size wC wC.drew := ⟨rfl, rfl, rfl, Nat.le_refl _, fun _ _ _ => rfl⟩
  have HC1 : Hid (Calls Try.prog 92 #[.pointer (some ⟨g, 0, none⟩)] wC.drew fun e w' => ∃ s : ByteArray, e = .returned (.string s) ∧ s.size = 7 ∧ rdr w' g (p3 + 1) ∧ kept2 g wC.heap.size wC w') := by
    refine (rd_l4Code g p3 _ (hrC.below ((Below.refl _ _).drew)) (by omega)).mono ?_
    rintro e w' ⟨s, rfl, h1, h2, h3⟩
    exact ⟨s, rfl, h1, h2, kD.step h3 (Nat.le_refl _)⟩
  have HPT : Hid (∀ (W : World) (s : ByteArray), kept2 g wC.heap.size wC W → s.size ≤ maxLen →
      drawFPost w (.returned (.tuple #[.agg #[.int .i64 d.plan.bins, .int .i64 d.plan.passes, .slice Ao d.plan.order.length co, .slice Af d.fwds.length cf, .slice Ah d.held.length ch, .int .i64 d.size], .string s])) ((((((W.setCell ⟨w.heap.size, 0, none⟩ (.int .i64 d.plan.bins)).setCell ⟨w.heap.size, 1, none⟩ (.int .i64 d.plan.passes)).setCell ⟨w.heap.size, 2, none⟩ (.slice Ao d.plan.order.length co)).setCell ⟨w.heap.size, 3, none⟩ (.slice Af d.fwds.length cf)).setCell ⟨w.heap.size, 4, none⟩ (.slice Ah d.held.length ch)).setCell ⟨w.heap.size, 5, none⟩ (.int .i64 d.size))) := fun W s hk hs =>
    drawFPost_of (B := w1.heap.size) (Nat.le_refl _) (by omega) (HKD.out W hk) hs l3o l3f l3h (HKB.out W hk)
  have HLT : Hid (g < wC.heap.size) := by show _ < _; omega
  have hp3' : p3 ≤ 2000 := by omega
  have cC := HKC.out _ kD
  clear hbC hHC hB4 hB3 hb3 hBC hr3 hrC HO3 HF3 HH3 HOC HFC HHC hwC
  have HI1 := Lib.hid i1; have HI2 := Lib.hid i2; have HI3 := Lib.hid i3
  clear i1 i2 i3
  go_wp2_with fail
  rw [← HWC.out]
  obtain ⟨d0, d1, d2, d3, d4, d5⟩ := cells6 cC
  clear cC
  go_region_law (first | (go_simp; go_at_call 92; (with_reducible refine HC1.out.mono ?_); rintro e w6 ⟨s, rfl, hs7, hr6, k6⟩; obtain ⟨e0, e1, e2, e3, e4, e5⟩ := cells6 (HKC.out _ k6)) | (go_simp; go_at_call 91; (with_reducible refine (rd_l1Bad g (p3 + 1) s _ hr6 (by omega) (by omega) (by omega)).mono ?_); rintro e w7 ⟨t, rfl, ht, hr7, hg7⟩; have hk7 := k6.step hg7 (Nat.le_refl _); have k7 := hk7; obtain ⟨a0, a1, a2, a3, a4, a5⟩ := cells6 (HKA.out _ k7); obtain ⟨b0, b1, b2, b3, b4, b5⟩ := cells6 (HKC.out _ k7); have f0 := unfrozen6 (HKA.out _ k7) 0; have f1 := unfrozen6 (HKA.out _ k7) 1; have f2 := unfrozen6 (HKA.out _ k7) 2; have f3 := unfrozen6 (HKA.out _ k7) 3; have f4 := unfrozen6 (HKA.out _ k7) 4; have f5 := unfrozen6 (HKA.out _ k7) 5))
  all_goals
    have hA7 := HKA.out _ k7
    go_wp2_with fail
    refine ret_box1 rfl rfl (six_set hA7) Try.underlying28 rfl Try.sizeDay rfl ?_
    exact HPT.out _ _ k7 (by unfold maxLen; omega)

end Go.Proofs.Ytnlljekijlkigaa
