/- DU -/
import Derived.Test.YtekjjgnokjhleaaQ22
import Derived.Test.YtekjjgnokjhleaaQ10
import Derived.Test.YtekjjgnokjhleaaQ6
import Derived.Test.YtekjjgnokjhleaaQ8
import Derived.Lib.MinMax
namespace Go.Proofs.Ytekjjgnokjhleaa
open Go.RowKit

theorem ixI_range (ms : List Mis) (c : Int) : -1 ≤ ixI ms c ∧ ixI ms c < ms.length := by
  unfold ixI
  split
  · omega
  · omega
theorem l7Index_some {v : Value} {ms : List Mis} {c : Int} {w : World} (hv : rd w w.heap.size v ms) : Calls Try.prog 64 #[v, .int .i64 c] w fun e w' => ∃ r : Int, e = .returned (.int .i64 r) ∧ w = w' := by
  refine (spec_l7Index v ms c w hv).mono ?_
  rintro e w' ⟨h1, h2⟩
  exact ⟨_, h1, h2⟩

theorem kept2.alloc0 {g : Nat} {u w : World} (h : kept2 g u.heap.size u w) (o : Obj) : kept2 g u.heap.size u (w.alloc o) := h.trans (kept2.below ((Below.refl _ _).alloc h.size o))

theorem cells2 {W : World} {h T : Nat} {a b : Value} (hb : W.heap[h]? = some (.cells #[a, b] T (0, 0))) :
    W.cell? ⟨h, 0, none⟩ = some a ∧ W.cell? ⟨h, 1, none⟩ = some b ∧ W.frozen? ⟨h, 0, none⟩ = false ∧ W.frozen? ⟨h, 1, none⟩ = false :=
  ⟨by rw [cell_of_row _ _ _ _ _ _ hb]; rfl, by rw [cell_of_row _ _ _ _ _ _ hb]; rfl, by simp [World.frozen?, hb], by simp [World.frozen?, hb]⟩

/-- Behind the drawing of a missort: it lies in a block B of its own. -/
structure mid7 (g q b : Nat) (w0 : World) (v : Value) (ms : List Mis) (i z : Int) (B : Nat) (W : World) : Prop where
  hB : w0.heap.size ≤ B
  hrow : W.heap[B]? = some (.cells #[.int .i64 i, .int .i64 z] 32 (0, 0))
  hr : rdr W g q
  hk : kept2 g w0.heap.size w0 W
  ho : own 32 b W v ms
theorem mid7_new {g q b : Nat} {w0 w6 : World} {v : Value} {ms : List Mis} {i z : Int} (hr : rdr w6 g q) (hk : kept2 g w0.heap.size w0 w6) (ho : own 32 b w6 v ms) :
    mid7 g q b w0 v ms i z w6.heap.size (w6.alloc (Obj.cells #[.int .i64 i, .int .i64 z] 32)) :=
  ⟨hk.size, heap_alloc_new _ _, hr.alloc _, hk.alloc0 _, ho.alloc _⟩
theorem two_set {w : World} {g : Nat} {T : TypeId} {u0 u1 a b : Value} (h : w.heap[g]? = some (.cells #[u0, u1] T (0, 0))) :
    ((w.setCell ⟨g, 0, none⟩ a).setCell ⟨g, 1, none⟩ b).heap[g]? = some (.cells #[a, b] T (0, 0)) :=
  heap_setCell_same _ _ _ _ _ _ (heap_setCell_same _ _ _ _ _ _ h)
theorem mid7_old {g q b B : Nat} {w0 w6 w2 : World} {v : Value} {ms : List Mis} {i z : Int} {u0 u1 : Value} (hr : rdr w6 g q) (hg : g < w0.heap.size) (hk : kept2 g w0.heap.size w0 w6) (ho : own 32 b w6 v ms) (h2 : own 32 b w2 v ms) (hB2 : w2.heap.size ≤ B) (hB : w0.heap.size ≤ B) (h6 : w6.heap[B]? = some (.cells #[u0, u1] 32 (0, 0))) :
    mid7 g q b w0 v ms i z B ((w6.setCell ⟨B, 0, none⟩ (.int .i64 i)).setCell ⟨B, 1, none⟩ (.int .i64 z)) := by
  have HG := grown_setCell (p := ⟨B, 1, none⟩) (grown_setCell (p := ⟨B, 0, none⟩) (World.grownBy.refl w6 (some B)) (.inl rfl) (.int .i64 i)) (.inl rfl) (.int .i64 z)
  refine ⟨hB, two_set h6, hr.grown HG (by omega), (hk.set ⟨B, 0, none⟩ hB _).set ⟨B, 1, none⟩ hB _, ho.grown HG ?_⟩
  cases hb : v.ownBlock with
  | none => exact .inl rfl
  | some k => exact .inr fun e => by have := (h2.blk k hb).2; injection e; omega

theorem own_mis {T base g n c : Nat} {w : World} {xs : List Mis} (h : own T base w (.slice (some ⟨g, 0, none⟩) n c) xs) (k : Nat) (hk : k < xs.length) :
    (xs[k]).ok ∧ w.cell? ⟨g, k * 2, none⟩ = some (.int .i64 xs[k].id) ∧ w.cell? ⟨g, k * 2 + 1, none⟩ = some (.int .i64 xs[k].bin) := by
  obtain ⟨A, n', c', hv, _, _, _, hrd⟩ := h.rd
  obtain ⟨b, o, hA, _, hok, c1, c2⟩ := hrd.mis k hk
  injection hv with e1 _ _
  subst e1
  injection hA with hA
  injection hA with hA1 hA2
  subst hA1 hA2
  rw [Nat.zero_add] at c1 c2
  exact ⟨hok, c1, c2⟩

/-- Behind an append to a row of one's own. -/
theorem appended {g q : Nat} {w0 W w4 : World} {v : Value} {ms : List Mis} {o : Obj} (hr : rdr W g q) (k : kept2 g w0.heap.size w0 W) (ho : own 32 w0.heap.size (W.alloc o) v ms) (hg : (W.alloc o).grownBy w4 v.ownBlock) (hlt : g < w0.heap.size) :
    rdr w4 g q ∧ kept2 g w0.heap.size w0 w4 :=
  ⟨(hr.alloc o).append ho hg hlt, k.trans (kept2.below (((Below.refl _ _).alloc k.size _).trans (below_append ho hg (by simp; have := k.size; omega))))⟩

set_option maxRecDepth 100000 in
set_option maxHeartbeats 3000000 in
theorem rd_l7Some (g p b1 : Nat) (v vb : Value) (x : Pln) (xs : List Ltr) (w : World) (hr : rdr w g p) (hp : p ≤ 10000000000) (hv : rdP w w.heap.size v x) (hb : own 44 b1 w vb xs) (hb1 : g < b1) (hlb : xs.length ≤ 100) (hb2 : 2 ≤ x.bins) (hb10 : x.bins ≤ 10) :
    Calls Try.prog 107 #[.pointer (some ⟨g, 0, none⟩), v, vb] w fun e w' => ∃ (v' : Value) (ms : List Mis) (p' : Nat), e = .returned v' ∧ own 32 w.heap.size w' v' ms ∧ ms.length ≤ 5 ∧ rdr w' g p' ∧ p' ≤ p + 12 ∧ w.grownBy w' (some g) := by
  have hlt := hr.lt
  obtain ⟨A0, c0, e0⟩ := openP hv
  have hbi : isI64 x.bins := by obtain ⟨vo, _, h2, _, _⟩ := hv; exact h2
  subst e0
  obtain ⟨w0, hw0⟩ : ∃ w0, w0 = w.alloc (Obj.cells #[.int .i64 x.bins, .int .i64 x.passes, .slice A0 x.order.length c0] 25) := ⟨_, rfl⟩
  have hz0 : w0.heap.size = w.heap.size + 1 := by subst hw0; simp
  have hq0 := box_cells hw0 0 (.int .i64 x.bins) rfl w0 (Below.refl _ _)
  have hB0 : Below w.heap.size w w0 := (box_later hw0).1
  have hr0 : rdr w0 g p := hr.below hB0
  have hb0 := hb.below hB0
  obtain ⟨A, n, c, rfl, hn, hc, hm, _⟩ := hb.rd
  subst hn
  unfold maxLen at hm
  have UB : Hid (∀ W, kept2 g w0.heap.size w0 W → W.cell? ⟨w.heap.size, 0, none⟩ = some (.int .i64 x.bins)) := fun W h => (h.cell ⟨w.heap.size, 0, none⟩ (by show w.heap.size < _; omega) (by show w.heap.size ≠ g; omega)).trans hq0
  have UL : Hid (∀ h0 : 0 < xs.length, ∃ gl, A = some ⟨gl, 0, none⟩ ∧ gl < w.heap.size + 1 ∧ ∀ W, kept2 g w0.heap.size w0 W → ∀ j (hj : j < xs.length), W.cell? ⟨gl, j * 2, none⟩ = some (.int .i64 xs[j].id)) := fun h0 => by
    obtain ⟨gl, hA, h1, h2, _⟩ := own_some hb h0
    subst hA
    refine ⟨gl, rfl, by omega, fun W h j hj => ?_⟩
    exact (h.cell ⟨gl, j * 2, none⟩ (by show gl < _; omega) (by show gl ≠ g; omega)).trans (own_ltr hb0 j hj).2.1
  have UI : Hid (∀ j (hj : j < xs.length), isI64 xs[j].id) := fun j hj => by
    obtain ⟨gl, hA, _⟩ := own_some hb (by omega)
    subst hA
    exact (own_ltr hb j hj).1.1
  have HW0 := Lib.hid hw0
  have HZ0 := Lib.hid hz0
  have HB0 := Lib.hid hB0
  have hglt : g < w0.heap.size := by omega
  have k0 : kept2 g w0.heap.size w0 w0 := kept2.refl _ _ _
  have hEND : Hid (∀ W, kept2 g w0.heap.size w0 W → w.grownBy W (some g)) := fun W k =>
    ⟨k.os.trans hB0.os, k.tape.trans hB0.tape, k.output.trans hB0.output, Nat.le_trans hB0.size k.size, fun i hi hne => (k.block i (by omega) (fun e => hne (by rw [e]))).trans (hB0.block i hi)⟩
  have hwlt : w.heap.size ≤ w0.heap.size := by omega
  obtain ⟨iM, ji, jz0, jz1, jz2⟩ := info_parts Try.infoMis
  obtain ⟨hbi1, hbi2⟩ := hbi
  clear hw0 hz0 hq0 hB0 hb hb0 hr hv
  go_enter Try.func107, Try.ntmps107
  go_wp2_with fail
  rw [← HW0.out]
  have ho0 : own (α := Mis) 32 w0.heap.size (w0.alloc (Obj.cells #[] 32)) (.slice (some ⟨w0.heap.size, 0, none⟩) 0 0) [] := own.made0 w0 _ (Nat.le_refl _)
  have k1 : kept2 g w0.heap.size w0 (w0.alloc (Obj.cells #[] 32)) := kept2.below ((Below.refl _ _).alloc (Nat.le_refl _) _)
  have hr1 := hr0.alloc (Obj.cells #[] 32)
  obtain ⟨wA, hwA⟩ : ∃ u, u = w0.alloc (Obj.cells #[] 32) := ⟨_, rfl⟩
  rw [← hwA] at ho0 k1 hr1 ⊢
  clear hwA
  refine (rd_pick g p 4 _ hr1 (by omega) (by unfold isI64; omega)).mono ?_
  rintro e w1 ⟨y, rfl, hy, hr2, hg2⟩
  obtain ⟨y0, y1⟩ := hy.2 (by omega)
  obtain ⟨N, rfl⟩ := Int.eq_ofNat_of_zero_le y0
  have k2 : kept2 g w0.heap.size w0 w1 := k1.step hg2 (Nat.le_refl _)
  have ho2 := ho0.grown hg2 (own_ne ho0 (by omega))
  have hN : N ≤ 3 := by omega
  clear hy y0 y1 hr1 k1 ho0 hg2
  replace ho2 : own (α := Mis) 32 w0.heap.size w1 (.slice (some ⟨w.heap.size + 1, 0, none⟩) 0 0) [] := by
    rw [show (⟨w.heap.size + 1, 0, none⟩ : Addr) = ⟨w0.heap.size, 0, none⟩ by rw [HZ0.out]]
    exact ho2
  go_wp2_with fail
  go_loopw [7, 8] (fun t i wr => ∃ (k : Nat) (ms : List Mis) (q : Nat), k ≤ N ∧ i = .int .i64 k ∧ Hid (ms.length + k ≤ N) ∧ own 32 w0.heap.size wr t ms ∧ rdr wr g q ∧ q + 2 * k ≤ p + 1 + 2 * N ∧ kept2 g w0.heap.size w0 wr) (fun _ i _ => (intOf i).toNat)
  case atStart => exact ⟨N, [], p + 1, Nat.le_refl _, rfl, by show _ ≤ _; simp, ho2, hr2, by omega, k2⟩
  case round =>
    obtain ⟨k, ms, q, hk, rfl, HMK, ho, hrq, hqb, kr⟩ := hrel
    obtain ⟨w2, rfl⟩ : ∃ w2 : World, w2 = wr := ⟨_, rfl⟩
    clear ho2 hr2 k2
    have hml : ms.length ≤ 3 := by have := HMK.out; omega
    obtain ⟨A2, m2, c2, hv2, hm2, _, _, _⟩ := ho.rd
    subst hm2 hv2
    by_cases hk0 : 0 < k
    · by_cases hx0 : 0 < xs.length
      · have hxi : (0 : Int) < (xs.length : Int) := by omega
        obtain ⟨gl, rfl, hgl, hUL⟩ := UL.out hx0
        have HUL := Lib.hid hUL; clear hUL
        have kd : kept2 g w0.heap.size w0 w2.drew := ⟨kr.os, kr.tape, kr.output, kr.size, kr.block⟩
        have HRD : Hid (rdr w2.drew g q) := hrq.below ((Below.refl _ _).drew)
        have HRD2 : Hid (∀ o : Obj, rdr (w2.alloc o).drew g q) := fun o => (hrq.alloc o).below ((Below.refl _ _).drew)
        have kd2 : ∀ o : Obj, kept2 g w0.heap.size w0 (w2.alloc o).drew := fun o => by
          have h := kr.alloc0 o
          exact ⟨h.os, h.tape, h.output, h.size, h.block⟩
        have HO := Lib.hid ho; clear ho
        go_wp2_with fail
        have hmx : max x.bins 1 = x.bins := by omega
        have hUB := UB.out
        have hUL := HUL.out
        have HP1 : Hid (∀ W, rdr W g q → kept2 g w0.heap.size w0 W → Calls Try.prog 91 #[.pointer (some ⟨g, 0, none⟩), .int .i64 (xs.length : Int)] W fun e W' => ∃ m : Nat, e = .returned (.int .i64 (m : Int)) ∧ m < xs.length ∧ rdr W' g (q + 1) ∧ kept2 g w0.heap.size w0 W' ∧ W.grownBy W' (some g)) := fun W hr hk => by
          refine (rd_pick g q xs.length _ hr (by omega) (by unfold isI64; omega)).mono ?_
          rintro e w5 ⟨z, rfl, hz, hr5, hg5⟩
          obtain ⟨z0, z1⟩ := hz.2 (by omega)
          obtain ⟨m, rfl⟩ := Int.eq_ofNat_of_zero_le z0
          exact ⟨m, rfl, by omega, hr5, hk.step hg5 (Nat.le_refl _), hg5⟩
        have HP2 : Hid (∀ W, rdr W g (q + 1) → kept2 g w0.heap.size w0 W → Calls Try.prog 91 #[.pointer (some ⟨g, 0, none⟩), .int .i64 x.bins] W fun e W' => ∃ z : Int, e = .returned (.int .i64 z) ∧ isI64 z ∧ rdr W' g (q + 1 + 1) ∧ kept2 g w0.heap.size w0 W' ∧ W.grownBy W' (some g)) := fun W hr hk => by
          refine (rd_pick g (q + 1) x.bins _ hr (by omega) (by unfold isI64; omega)).mono ?_
          rintro e w5 ⟨z, rfl, hz, hr5, hg5⟩
          obtain ⟨z0, z1⟩ := hz.2 (by omega)
          exact ⟨z, rfl, by unfold isI64; omega, hr5, hk.step hg5 (Nat.le_refl _), hg5⟩
        have hz2 : w2.drew.heap.size = w2.heap.size := rfl
        have hkr := kr.size
        go_region_held3 (fun W => kept2 g w0.heap.size w0 W) (first | exact kd | exact k6 | exact k6.alloc0 _ | exact k5 | exact k5.alloc0 _ | exact kd2 _ | exact (k6.set ⟨_, 0, none⟩ k5.size _).set ⟨_, 1, none⟩ k5.size _ | exact (k6.set ⟨_, 0, none⟩ hkr _).set ⟨_, 1, none⟩ hkr _) (first | (go_at_call 91; (with_reducible refine (HP2.out _ hr5 k5).mono ?_); rintro e w6 ⟨z2, rfl, hz2, hr6, k6, hg6⟩; have hq6 := (hg6.block _ (Array.getElem?_eq_some_iff.1 hq5).1 (fun e => by injection e; omega)).trans hq5; obtain ⟨c60, c61, f60, f61⟩ := cells2 hq6) | (go_at_call 91; (with_reducible refine (HP2.out _ (hr5.alloc _) (k5.alloc0 _)).mono ?_); rintro e w6 ⟨z2, rfl, hz2, hr6, k6, hg6⟩; have hq6 := (hg6.block w5.heap.size (by simp) (fun e => by injection e; have := hr5.lt; omega)).trans (heap_alloc_new w5 (Obj.cells #[Value.int IntKind.i64 0, Value.int IntKind.i64 0] 32)); obtain ⟨c60, c61, f60, f61⟩ := cells2 hq6) | (go_at_call 91; (with_reducible refine (HP2.out _ hr5 k5).mono ?_); rintro e w6 ⟨z2, rfl, hz2, hr6, k6, hg6⟩) | (go_at_call 91; (with_reducible refine (HP1.out _ HRD.out kd).mono ?_); rintro e w5 ⟨m, rfl, hmo, hr5, k5, hg5⟩) | (go_at_call 91; (with_reducible refine (HP1.out _ (HRD2.out _) (kd2 _)).mono ?_); rintro e w5 ⟨m, rfl, hmo, hr5, k5, hg5⟩; have hq5 := (hg5.block w2.heap.size (by simp) (fun e => by injection e; have := hrq.lt; omega)).trans (heap_alloc_new w2 (Obj.cells #[Value.int IntKind.i64 0, Value.int IntKind.i64 0] 32))))
        all_goals
          first
          | (obtain ⟨B, W, hB, hW, HM⟩ : ∃ B W, B = w6.heap.size ∧ W = w6.alloc (Obj.cells #[.int .i64 xs[m].id, .int .i64 z2] 32) ∧ mid7 g (q + 1 + 1) w0.heap.size w0 (.slice A2 ms.length c2) ms xs[m].id z2 B W := ⟨_, _, rfl, rfl, mid7_new hr6 k6 ((HO.out.drew.grown hg5 (own_ne HO.out hglt)).grown hg6 (own_ne HO.out hglt))⟩
             rw [← hW, ← hB])
          | (obtain ⟨B, W, hB, hW, HM⟩ : ∃ B W, B = w5.heap.size ∧ W = (w6.setCell ⟨w5.heap.size, 0, none⟩ (.int .i64 xs[m].id)).setCell ⟨w5.heap.size, 1, none⟩ (.int .i64 z2) ∧ mid7 g (q + 1 + 1) w0.heap.size w0 (.slice A2 ms.length c2) ms xs[m].id z2 B W := ⟨_, _, rfl, rfl, mid7_old hr6 hglt k6 (((HO.out.drew.grown hg5 (own_ne HO.out hglt)).alloc _).grown hg6 (own_ne HO.out hglt)) HO.out (by have := hg5.size; exact this) k5.size hq6⟩
             rw [← hW, ← hB])
          | (obtain ⟨B, W, hB, hW, HM⟩ : ∃ B W, B = w2.heap.size ∧ W = (w6.setCell ⟨w2.heap.size, 0, none⟩ (.int .i64 xs[m].id)).setCell ⟨w2.heap.size, 1, none⟩ (.int .i64 z2) ∧ mid7 g (q + 1 + 1) w0.heap.size w0 (.slice A2 ms.length c2) ms xs[m].id z2 B W := ⟨_, _, rfl, rfl, mid7_old hr6 hglt k6 (((HO.out.alloc _).drew.grown hg5 (own_ne HO.out hglt)).grown hg6 (own_ne HO.out hglt)) HO.out (Nat.le_refl _) hkr hq6⟩
             rw [← hW, ← hB])
        all_goals
          have hid := UI.out m hmo
          generalize xs[m].id = i at *
          clear hW hB
          obtain ⟨hB, hrow, hr7, k7, ho7⟩ := HM
          obtain ⟨e0, e1, _, _⟩ := cells2 hrow
          go_wp2_with fail
          refine (l7Index_some ho7.rd).mono ?_
          rintro e _ ⟨r, rfl, rfl⟩
          have hii : Hid (isI64 i ∧ isI64 z2) := ⟨hid, hz2⟩
          have hsz := k7.size
          by_cases hr0 : r < 0
          · go_wp2_with (at_builtin; refine wpList_append1 (α := Mis) rfl (.tmp 41) (.tmp 43) _ rfl w0.heap.size 32 iM _ 16 Try.underlying26 ji jz0 jz1 jz2 rfl (by decide) (.slice A2 ms.length c2) ms ⟨i, z2⟩ rfl (ho7.alloc _) ⟨W.heap.size, 0, none⟩ 1 (Mis.cells ⟨i, z2⟩) rfl ⟨hii.out, rfl⟩ (news_at W _ (Mis.cells ⟨i, z2⟩)) (by unfold maxLen; omega) (by omega) (by simp; omega) ?_; intro v' w8 ho8 hg8 _)
            obtain ⟨hr8, k8⟩ := appended hr7 k7 (ho7.alloc _) hg8 hglt
            clear hg8
            go_wp2_with fail
            go_roundw
            case rel => exact ⟨k - 1, _, q + 1 + 1, by omega, by go_num, by show _ ≤ _; have := HMK.out; simp; omega, ho8, hr8, by omega, k8⟩
            case measure => simp [intOf]; omega
          · go_wp2_with fail
            go_roundw
            case rel => exact ⟨k - 1, ms, q + 1 + 1, by omega, by go_num, by show _ ≤ _; have := HMK.out; omega, ho7, hr7, by omega, k7⟩
            case measure => simp [intOf]; omega
      · have hxz : xs.length = 0 := by omega
        have HXZ := Lib.hid hxz; clear hxz
        have hxi : ¬ (0 : Int) < (k : Int) ∨ ¬ (0 : Int) < (xs.length : Int) := by omega
        go_wp2_with fail
        refine (rd_pick g q 24 _ hrq (by omega) (by unfold isI64; omega)).mono ?_
        rintro e w3 ⟨y, rfl, hy, hr3, hg3⟩
        obtain ⟨y0, y1⟩ := hy.2 (by omega)
        have k3 := kr.step hg3 (Nat.le_refl _)
        have ho3 := ho.grown hg3 (own_ne ho hglt)
        have hub := UB.out _ k3
        have hz3 := k3.size
        clear hy ho hrq kr hg3 hxi
        by_cases c0 : y = 0
        · have d0 : (y == 0) = true := by simp [c0]
          clear c0
          go_wp2_with fail
          refine (rd_num 3 g (q + 1) _ [0, 10000, 5, 9999] _ (hr3.alloc _) (by omega) (list_own 3 (g + 1) w3 [0, 10000, 5, 9999] (by simp [isI64]) (by decide) (by omega)) (by decide)).mono ?_
          rintro e w4 ⟨n, hn, rfl, hr4, hg4⟩
          have hni : isI64 n := by
            simp at hn
            unfold isI64
            omega
          have k4 := (k3.alloc0 _).step hg4 (Nat.le_refl _)
          have ho4 := (ho3.alloc (Obj.cells ([0, 10000, 5, 9999].map (Value.int IntKind.i64)).toArray 3)).grown hg4 (own_ne (ho3.alloc (Obj.cells ([0, 10000, 5, 9999].map (Value.int IntKind.i64)).toArray 3)) hglt)
          clear hn ho3 k3 hr3 hg4 hub
          have hz4 := k4.size
          have hii : Hid (isI64 n ∧ isI64 0) := ⟨hni, by unfold isI64; omega⟩
          clear hni
          go_wp2_with (at_builtin; refine wpList_append1 (α := Mis) rfl (.tmp 49) (.tmp 54) _ rfl w0.heap.size 32 iM _ 16 Try.underlying26 ji jz0 jz1 jz2 rfl (by decide) (.slice A2 ms.length c2) ms ⟨n, 0⟩ rfl (ho4.alloc _) ⟨w4.heap.size, 0, none⟩ 1 (Mis.cells ⟨n, 0⟩) rfl ⟨hii.out, rfl⟩ (news_at w4 _ (Mis.cells ⟨n, 0⟩)) (by unfold maxLen; omega) (by omega) (by simp; omega) ?_; intro v' w8 ho8 hg8 _)
          obtain ⟨hr8, k8⟩ := appended hr4 k4 (ho4.alloc _) hg8 hglt
          clear hg8
          go_wp2_with fail
          go_ret
          exact ⟨_, _, q + 1 + 1, rfl, ho8.base_ hwlt, by simp; omega, hr8, by omega, hEND.out _ k8⟩
        · have d0 : (y == 0) = false := by simp [c0]
          clear c0
          by_cases c1 : y = 1
          · have d1 : (y == 1) = true := by simp [c1]
            clear c1
            go_wp2_with fail
            refine (rd_num 3 g (q + 1) _ [-1, x.bins, 9223372036854775807] _ (hr3.alloc _) (by omega) (list_own 3 (g + 1) w3 [-1, x.bins, 9223372036854775807] (by simp [isI64]; omega) (by unfold maxLen; simp) (by omega)) (by simp)).mono ?_
            rintro e w4 ⟨n, hn, rfl, hr4, hg4⟩
            have hni : isI64 n := by
              simp at hn
              unfold isI64
              omega
            have k4 := (k3.alloc0 _).step hg4 (Nat.le_refl _)
            have ho4 := (ho3.alloc (Obj.cells ([-1, x.bins, 9223372036854775807].map (Value.int IntKind.i64)).toArray 3)).grown hg4 (own_ne (ho3.alloc (Obj.cells ([-1, x.bins, 9223372036854775807].map (Value.int IntKind.i64)).toArray 3)) hglt)
            clear hn ho3 k3 hr3 hg4 hub
            have hz4 := k4.size
            have hii : Hid (isI64 5000 ∧ isI64 n) := ⟨by unfold isI64; omega, hni⟩
            clear hni
            go_wp2_with (at_builtin; refine wpList_append1 (α := Mis) rfl (.tmp 58) (.tmp 65) _ rfl w0.heap.size 32 iM _ 16 Try.underlying26 ji jz0 jz1 jz2 rfl (by decide) (.slice A2 ms.length c2) ms ⟨5000, n⟩ rfl (ho4.alloc _) ⟨w4.heap.size, 0, none⟩ 1 (Mis.cells ⟨5000, n⟩) rfl ⟨hii.out, rfl⟩ (news_at w4 _ (Mis.cells ⟨5000, n⟩)) (by unfold maxLen; omega) (by omega) (by simp; omega) ?_; intro v' w8 ho8 hg8 _)
            obtain ⟨hr8, k8⟩ := appended hr4 k4 (ho4.alloc _) hg8 hglt
            clear hg8
            go_wp2_with fail
            go_ret
            exact ⟨_, _, q + 1 + 1, rfl, ho8.base_ hwlt, by simp; omega, hr8, by omega, hEND.out _ k8⟩
          · have d1 : (y == 1) = false := by simp [c1]
            clear c1
            by_cases c2' : y = 2 ∧ 0 < ms.length
            · obtain ⟨c2', c3⟩ := c2'
              have d2 : (y == 2) = true := by simp [c2']
              clear c2'
              have hmi : (0 : Int) < (ms.length : Int) := by omega
              obtain ⟨gl, rfl, hgl, hgl2, hcl, hml2⟩ := own_some ho3 c3
              obtain ⟨hok, e0, e1⟩ := own_mis ho3 0 c3
              rw [Nat.zero_mul] at e0 e1
              rw [Nat.zero_add] at e1
              have hii : Hid (isI64 ms[0].id ∧ isI64 ms[0].bin) := hok
              clear hok
              generalize ms[0].id = i at *
              generalize ms[0].bin = z at *
              go_wp2_with (at_builtin; refine wpList_append1 (α := Mis) rfl (.tmp 72) (.tmp 76) _ rfl w0.heap.size 32 iM _ 16 Try.underlying26 ji jz0 jz1 jz2 rfl (by decide) (.slice (some ⟨gl, 0, none⟩) ms.length c2) ms ⟨i, z⟩ rfl (ho3.alloc _) ⟨w3.heap.size, 0, none⟩ 1 (Mis.cells ⟨i, z⟩) rfl ⟨hii.out, rfl⟩ (news_at w3 _ (Mis.cells ⟨i, z⟩)) (by unfold maxLen; omega) (by omega) (by simp; omega) ?_; intro v' w8 ho8 hg8 _)
              obtain ⟨hr8, k8⟩ := appended hr3 k3 (ho3.alloc _) hg8 hglt
              clear hg8
              go_wp2_with fail
              go_ret
              exact ⟨_, _, q + 1, rfl, ho8.base_ hwlt, by simp; omega, hr8, by omega, hEND.out _ k8⟩
            · by_cases c4 : y = 2
              · have d2 : (y == 2) = true := by simp [c4]
                have hmi : ¬ (0 : Int) < (ms.length : Int) := by omega
                clear c4 c2'
                go_wp2_with fail
                go_ret
                exact ⟨_, _, q + 1, rfl, ho3.base_ hwlt, by omega, hr3, by omega, hEND.out _ k3⟩
              · have d2 : (y == 2) = false := by simp [c4]
                clear c4 c2'
                go_wp2_with fail
                go_ret
                exact ⟨_, _, q + 1, rfl, ho3.base_ hwlt, by omega, hr3, by omega, hEND.out _ k3⟩
    · have hxi : ¬ (0 : Int) < (k : Int) ∨ ¬ (0 : Int) < (xs.length : Int) := by omega
      go_wp2_with fail
      refine (rd_pick g q 24 _ hrq (by omega) (by unfold isI64; omega)).mono ?_
      rintro e w3 ⟨y, rfl, hy, hr3, hg3⟩
      obtain ⟨y0, y1⟩ := hy.2 (by omega)
      have k3 := kr.step hg3 (Nat.le_refl _)
      have ho3 := ho.grown hg3 (own_ne ho hglt)
      have hub := UB.out _ k3
      have hz3 := k3.size
      clear hy ho hrq kr hg3 hxi
      by_cases c0 : y = 0
      · have d0 : (y == 0) = true := by simp [c0]
        clear c0
        go_wp2_with fail
        refine (rd_num 3 g (q + 1) _ [0, 10000, 5, 9999] _ (hr3.alloc _) (by omega) (list_own 3 (g + 1) w3 [0, 10000, 5, 9999] (by simp [isI64]) (by decide) (by omega)) (by decide)).mono ?_
        rintro e w4 ⟨n, hn, rfl, hr4, hg4⟩
        have hni : isI64 n := by
          simp at hn
          unfold isI64
          omega
        have k4 := (k3.alloc0 _).step hg4 (Nat.le_refl _)
        have ho4 := (ho3.alloc (Obj.cells ([0, 10000, 5, 9999].map (Value.int IntKind.i64)).toArray 3)).grown hg4 (own_ne (ho3.alloc (Obj.cells ([0, 10000, 5, 9999].map (Value.int IntKind.i64)).toArray 3)) hglt)
        clear hn ho3 k3 hr3 hg4 hub
        have hz4 := k4.size
        have hii : Hid (isI64 n ∧ isI64 0) := ⟨hni, by unfold isI64; omega⟩
        clear hni
        go_wp2_with (at_builtin; refine wpList_append1 (α := Mis) rfl (.tmp 49) (.tmp 54) _ rfl w0.heap.size 32 iM _ 16 Try.underlying26 ji jz0 jz1 jz2 rfl (by decide) (.slice A2 ms.length c2) ms ⟨n, 0⟩ rfl (ho4.alloc _) ⟨w4.heap.size, 0, none⟩ 1 (Mis.cells ⟨n, 0⟩) rfl ⟨hii.out, rfl⟩ (news_at w4 _ (Mis.cells ⟨n, 0⟩)) (by unfold maxLen; omega) (by omega) (by simp; omega) ?_; intro v' w8 ho8 hg8 _)
        obtain ⟨hr8, k8⟩ := appended hr4 k4 (ho4.alloc _) hg8 hglt
        clear hg8
        go_wp2_with fail
        go_ret
        exact ⟨_, _, q + 1 + 1, rfl, ho8.base_ hwlt, by simp; omega, hr8, by omega, hEND.out _ k8⟩
      · have d0 : (y == 0) = false := by simp [c0]
        clear c0
        by_cases c1 : y = 1
        · have d1 : (y == 1) = true := by simp [c1]
          clear c1
          go_wp2_with fail
          refine (rd_num 3 g (q + 1) _ [-1, x.bins, 9223372036854775807] _ (hr3.alloc _) (by omega) (list_own 3 (g + 1) w3 [-1, x.bins, 9223372036854775807] (by simp [isI64]; omega) (by unfold maxLen; simp) (by omega)) (by simp)).mono ?_
          rintro e w4 ⟨n, hn, rfl, hr4, hg4⟩
          have hni : isI64 n := by
            simp at hn
            unfold isI64
            omega
          have k4 := (k3.alloc0 _).step hg4 (Nat.le_refl _)
          have ho4 := (ho3.alloc (Obj.cells ([-1, x.bins, 9223372036854775807].map (Value.int IntKind.i64)).toArray 3)).grown hg4 (own_ne (ho3.alloc (Obj.cells ([-1, x.bins, 9223372036854775807].map (Value.int IntKind.i64)).toArray 3)) hglt)
          clear hn ho3 k3 hr3 hg4 hub
          have hz4 := k4.size
          have hii : Hid (isI64 5000 ∧ isI64 n) := ⟨by unfold isI64; omega, hni⟩
          clear hni
          go_wp2_with (at_builtin; refine wpList_append1 (α := Mis) rfl (.tmp 58) (.tmp 65) _ rfl w0.heap.size 32 iM _ 16 Try.underlying26 ji jz0 jz1 jz2 rfl (by decide) (.slice A2 ms.length c2) ms ⟨5000, n⟩ rfl (ho4.alloc _) ⟨w4.heap.size, 0, none⟩ 1 (Mis.cells ⟨5000, n⟩) rfl ⟨hii.out, rfl⟩ (news_at w4 _ (Mis.cells ⟨5000, n⟩)) (by unfold maxLen; omega) (by omega) (by simp; omega) ?_; intro v' w8 ho8 hg8 _)
          obtain ⟨hr8, k8⟩ := appended hr4 k4 (ho4.alloc _) hg8 hglt
          clear hg8
          go_wp2_with fail
          go_ret
          exact ⟨_, _, q + 1 + 1, rfl, ho8.base_ hwlt, by simp; omega, hr8, by omega, hEND.out _ k8⟩
        · have d1 : (y == 1) = false := by simp [c1]
          clear c1
          by_cases c2' : y = 2 ∧ 0 < ms.length
          · obtain ⟨c2', c3⟩ := c2'
            have d2 : (y == 2) = true := by simp [c2']
            clear c2'
            have hmi : (0 : Int) < (ms.length : Int) := by omega
            obtain ⟨gl, rfl, hgl, hgl2, hcl, hml2⟩ := own_some ho3 c3
            obtain ⟨hok, e0, e1⟩ := own_mis ho3 0 c3
            rw [Nat.zero_mul] at e0 e1
            rw [Nat.zero_add] at e1
            have hii : Hid (isI64 ms[0].id ∧ isI64 ms[0].bin) := hok
            clear hok
            generalize ms[0].id = i at *
            generalize ms[0].bin = z at *
            go_wp2_with (at_builtin; refine wpList_append1 (α := Mis) rfl (.tmp 72) (.tmp 76) _ rfl w0.heap.size 32 iM _ 16 Try.underlying26 ji jz0 jz1 jz2 rfl (by decide) (.slice (some ⟨gl, 0, none⟩) ms.length c2) ms ⟨i, z⟩ rfl (ho3.alloc _) ⟨w3.heap.size, 0, none⟩ 1 (Mis.cells ⟨i, z⟩) rfl ⟨hii.out, rfl⟩ (news_at w3 _ (Mis.cells ⟨i, z⟩)) (by unfold maxLen; omega) (by omega) (by simp; omega) ?_; intro v' w8 ho8 hg8 _)
            obtain ⟨hr8, k8⟩ := appended hr3 k3 (ho3.alloc _) hg8 hglt
            clear hg8
            go_wp2_with fail
            go_ret
            exact ⟨_, _, q + 1, rfl, ho8.base_ hwlt, by simp; omega, hr8, by omega, hEND.out _ k8⟩
          · by_cases c4 : y = 2
            · have d2 : (y == 2) = true := by simp [c4]
              have hmi : ¬ (0 : Int) < (ms.length : Int) := by omega
              clear c4 c2'
              go_wp2_with fail
              go_ret
              exact ⟨_, _, q + 1, rfl, ho3.base_ hwlt, by omega, hr3, by omega, hEND.out _ k3⟩
            · have d2 : (y == 2) = false := by simp [c4]
              clear c4 c2'
              go_wp2_with fail
              go_ret
              exact ⟨_, _, q + 1, rfl, ho3.base_ hwlt, by omega, hr3, by omega, hEND.out _ k3⟩

end Go.Proofs.Ytekjjgnokjhleaa
