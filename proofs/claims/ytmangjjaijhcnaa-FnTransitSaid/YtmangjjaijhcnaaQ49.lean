/- NY -/
import Derived.Test.YtmangjjaijhcnaaQ42
import Derived.Test.YtmangjjaijhcnaaQ46
import Derived.Test.YtmangjjaijhcnaaQ48
import Derived.Test.YtmangjjaijhcnaaQ9
import Derived.Deep.RegionHeld3
namespace Go.Proofs.Ytmangjjaijhcnaa
open Go.RowKit

set_option maxRecDepth 100000 in
set_option maxHeartbeats 800000 in
theorem rd_l6Head (g p : Nat) (w : World) (hr : rdr w g p) (hp : p ≤ 1000000000000) :
    Calls Try.prog 76 #[.pointer (some ⟨g, 0, none⟩)] w fun e w' => ∃ s : ByteArray, e = .returned (.string s) ∧ s.size = 7 ∧ rdr w' g (p + 3) ∧ w.grownBy w' (some g) := by
  have hlt := hr.lt
  go_enter Try.func76, Try.ntmps76
  go_wp2_with fail
  refine (rd_of 9 g p _ [⟨#[49]⟩, ⟨#[48]⟩, ⟨#[50]⟩] _ (hr.alloc _) (by omega) (list_str 9 (g + 1) w [⟨#[49]⟩, ⟨#[48]⟩, ⟨#[50]⟩] (by intro x hx; simp at hx; rcases hx with rfl | rfl | rfl <;> decide) (by decide) (by omega)) (by decide)).mono ?_
  rintro e w1 ⟨x, hx, rfl, hxz, hr1, hg1⟩
  have hx1 : x.size = 1 := by simp at hx; rcases hx with rfl | rfl | rfl <;> rfl
  replace hg1 := grown_trans (World.grownBy_alloc w _ _) hg1
  clear hx hxz
  go_wp2_with fail
  refine (rd_pick g (p + 1) 3 _ hr1 (by omega) (by unfold isI64; omega)).mono ?_
  rintro e w2 ⟨y, rfl, hy, hr2, hg2⟩
  obtain ⟨y0, y1⟩ := hy.2 (by omega)
  obtain ⟨N, rfl⟩ := Int.eq_ofNat_of_zero_le y0
  replace hg2 := grown_trans hg1 hg2
  clear hy hr1 hg1
  go_wp2_with fail
  refine (dec_is (d := N) (by omega)).mono ?_
  rintro e w3 ⟨rfl, b3⟩
  have hs3 : (dgB N).size = 1 := rfl
  generalize dgB N = s at *
  have hr3 := hr2.below b3
  have hg3 := grown_below hg2 b3
  clear hr2 hg2 b3
  go_wp2_with fail
  refine (rd_pick g (p + 1 + 1) 3 _ hr3 (by omega) (by unfold isI64; omega)).mono ?_
  rintro e w4 ⟨y, rfl, hy, hr4, hg4⟩
  obtain ⟨z0, z1⟩ := hy.2 (by omega)
  obtain ⟨M, rfl⟩ := Int.eq_ofNat_of_zero_le z0
  replace hg4 := grown_trans hg3 hg4
  clear hy hr3 hg3
  go_wp2_with fail
  refine (dec_is (d := M) (by omega)).mono ?_
  rintro e w5 ⟨rfl, b5⟩
  have hs5 : (dgB M).size = 1 := rfl
  generalize dgB M = t at *
  have hr5 := hr4.below b5
  have hg5 := grown_below hg4 b5
  clear hr4 hg4 b5
  have HS : Hid ((((⟨#[49, 50, 48, 48]⟩ : ByteArray) ++ x) ++ s ++ t).size = 7) := by show _ = _; rw [ByteArray.size_append, ByteArray.size_append, ByteArray.size_append, hx1, hs3, hs5]; rfl
  go_wp2_with fail
  go_ret
  exact ⟨_, rfl, HS.out, hr5, hg5⟩

theorem cellsB2 {W : World} {h T : Nat} {a b : Value} (hb : W.heap[h]? = some (.cells #[a, b] T (0, 0))) :
    W.cell? ⟨h, 0, none⟩ = some a ∧ W.cell? ⟨h, 1, none⟩ = some b ∧ W.frozen? ⟨h, 0, none⟩ = false ∧ W.frozen? ⟨h, 1, none⟩ = false :=
  ⟨by rw [cell_of_row _ _ _ _ _ _ hb]; rfl, by rw [cell_of_row _ _ _ _ _ _ hb]; rfl, by simp [World.frozen?, hb], by simp [World.frozen?, hb]⟩
theorem zed {F w' : World} {g B : Nat} {o : Obj} (hg : F.grownBy w' (some g)) (h : F.heap[B]? = some o) (hne : g < B) : w'.heap[B]? = some o :=
  (hg.block B (Array.getElem?_eq_some_iff.1 h).1 (fun e => by injection e; omega)).trans h
theorem heap_new2 (w : World) (o o' : Obj) : ((w.alloc o).alloc o').heap[w.heap.size]? = some o :=
  (((Below.refl (w.alloc o).heap.size (w.alloc o)).alloc (Nat.le_refl _) o').block w.heap.size (by simp)).trans (heap_alloc_new w o)
theorem World.heap_past (w : World) (o : Obj) {B : Nat} {q : Obj} (h : w.heap[B]? = some q) : (w.alloc o).heap[B]? = some q :=
  (((Below.refl w.heap.size w).alloc (Nat.le_refl _) o).block B (Array.getElem?_eq_some_iff.1 h).1).trans h
/-- Behind the drawing of a rule: it lies in a block B of its own. -/
structure midR (T g q : Nat) (w0 : World) (s t : ByteArray) (B : Nat) (W : World) : Prop where
  hB : w0.heap.size ≤ B
  hrow : W.heap[B]? = some (.cells #[.string s, .string t] T (0, 0))
  hr : rdr W g q
  hk : kept2 g w0.heap.size w0 W
theorem midR_new {T g q : Nat} {w0 w6 : World} {s t : ByteArray} (hr : rdr w6 g q) (hk : kept2 g w0.heap.size w0 w6) :
    midR T g q w0 s t w6.heap.size (w6.alloc (Obj.cells #[.string s, .string t] T)) :=
  ⟨hk.size, heap_alloc_new _ _, hr.alloc _, hk.allocO _⟩
theorem two_setB {w : World} {g : Nat} {T : TypeId} {u0 u1 a b : Value} (h : w.heap[g]? = some (.cells #[u0, u1] T (0, 0))) :
    ((w.setCell ⟨g, 0, none⟩ a).setCell ⟨g, 1, none⟩ b).heap[g]? = some (.cells #[a, b] T (0, 0)) :=
  heap_setCell_same _ _ _ _ _ _ (heap_setCell_same _ _ _ _ _ _ h)
theorem midR_old {T g q B : Nat} {w0 w6 : World} {s t : ByteArray} {u0 u1 : Value} (hr : rdr w6 g q) (hg : g < w0.heap.size) (hk : kept2 g w0.heap.size w0 w6) (hB : w0.heap.size ≤ B) (h6 : w6.heap[B]? = some (.cells #[u0, u1] T (0, 0))) :
    midR T g q w0 s t B ((w6.setCell ⟨B, 0, none⟩ (.string s)).setCell ⟨B, 1, none⟩ (.string t)) := by
  have HG := grown_setCell (p := ⟨B, 1, none⟩) (grown_setCell (p := ⟨B, 0, none⟩) (World.grownBy.refl w6 (some B)) (.inl rfl) (.string s)) (.inl rfl) (.string t)
  exact ⟨hB, two_setB h6, hr.grown HG (by omega), (hk.set ⟨B, 0, none⟩ hB _).set ⟨B, 1, none⟩ hB _⟩
set_option maxRecDepth 100000 in
set_option maxHeartbeats 4000000 in
theorem rd_l6Rules (g p : Nat) (v : Value) (ns : List ByteArray) (w : World) (hr : rdr w g p) (hp : p ≤ 100000000000) (hv : own 9 (g + 1) w v ns) (hn : 0 < ns.length) :
    Calls Try.prog 171 #[.pointer (some ⟨g, 0, none⟩), v] w fun e w' => ∃ (v' : Value) (rs : List Fwd) (p' : Nat), e = .returned v' ∧ own 67 w.heap.size w' v' rs ∧ rs.length ≤ 5 ∧ rdr w' g p' ∧ p' ≤ p + 40 ∧ w.grownBy w' (some g) := by
  have hlt := hr.lt
  obtain ⟨i0, hi, hz0, hzz1, hzz2⟩ := info_parts Try.infoRul
  have HNB := Lib.hid (fun k hk => hv.blk k hk)
  have HVW := Lib.hid hv
  obtain ⟨A0, n0, c0, rfl, hn0, _, _, _⟩ := hv.rd
  subst hn0
  clear hv
  go_enter Try.func171, Try.ntmps171
  go_wp2_with fail
  have oE := own.made0 (α := Fwd) w 67 (Nat.le_refl _)
  have hrE := hr.alloc (Obj.cells #[] 67)
  have kE : kept2 g w.heap.size w (w.alloc (Obj.cells #[] 67)) := kept2.below ((Below.refl _ _).alloc (Nat.le_refl _) _)
  have hzA : w.heap.size + 1 = (w.alloc (Obj.cells #[] 67)).heap.size := by simp
  generalize w.alloc (Obj.cells #[] 67) = wA at *
  rw [hzA]
  have HZA := Lib.hid hzA; clear hzA
  have hltA := hrE.lt
  refine (rd_num 3 g p _ [3, 4, 2, 5, 1, 0] _ (hrE.alloc _) (by omega) (list_own 3 (g + 1) wA [3, 4, 2, 5, 1, 0] (by simp [isI64]) (by decide) (by omega)) (by decide)).mono ?_
  rintro e w1 ⟨n, hn', rfl, hr1, hg1⟩
  replace hg1 : wA.grownBy w1 (some g) := grown_trans (World.grownBy_alloc wA _ _) hg1
  have k1 := kE.step hg1 (Nat.le_refl _)
  have o1 := oE.grown hg1 (own_ne oE hlt)
  have hn2 : 0 ≤ n ∧ n ≤ 5 := by simp at hn'; omega
  obtain ⟨hn0, hn1⟩ := hn2
  obtain ⟨N, rfl⟩ := Int.eq_ofNat_of_zero_le hn0
  clear hn' oE hrE kE hg1
  go_wp2_with fail
  go_loopw [5, 6] (fun t i wr => ∃ (k : Nat) (rs : List Fwd) (q : Nat), k ≤ N ∧ i = .int .i64 k ∧ Hid (rs.length + k ≤ N) ∧ own 67 w.heap.size wr t rs ∧ rdr wr g q ∧ q + 5 * k ≤ p + 1 + 5 * N ∧ kept2 g w.heap.size w wr) (fun _ i _ => (intOf i).toNat)
  case atStart => exact ⟨N, [], p + 1, Nat.le_refl _, rfl, by show _ ≤ _; simp, o1, hr1, by omega, k1⟩
  case round =>
    obtain ⟨k, rs, q, hk, rfl, HXK, ho, hrq, hqb, kr⟩ := hrel
    obtain ⟨w2, rfl⟩ : ∃ w2 : World, w2 = wr := ⟨_, rfl⟩
    clear o1 hr1 k1
    have hxl : rs.length ≤ 5 := by have := HXK.out; omega
    obtain ⟨A, m, c, hv, hm, _, _, _⟩ := ho.rd
    subst hm hv
    by_cases hk0 : 0 < k
    · go_wp2_with fail
      have hglt2 := hrq.lt
      have K0 : Hid (kept2 g w2.heap.size w2 w2.drew) := ⟨rfl, rfl, rfl, Nat.le_refl _, fun _ _ _ => rfl⟩
      have HR0 : Hid (rdr w2.drew g q) := hrq.below ((Below.refl _ _).drew)
      have HP1 : Hid (∀ W, rdr W g q → kept2 g w2.heap.size w2 W → Calls Try.prog 76 #[.pointer (some ⟨g, 0, none⟩)] W fun e W' => ∃ s : ByteArray, e = .returned (.string s) ∧ s.size = 7 ∧ rdr W' g (q + 3) ∧ kept2 g w2.heap.size w2 W' ∧ W.grownBy W' (some g)) := fun W hr hk => by
        refine (rd_l6Head g q _ hr (by omega)).mono ?_
        rintro e w5 ⟨s, rfl, hs7, hr5, hg5⟩
        exact ⟨s, rfl, hs7, hr5, hk.step hg5 (Nat.le_refl _), hg5⟩
      have HR1 : Hid (∀ o : Obj, rdr (w2.alloc o).drew g q) := fun o => (hrq.alloc o).below ((Below.refl _ _).drew)
      have K1 : Hid (∀ o : Obj, kept2 g w2.heap.size w2 (w2.alloc o).drew) := fun o => by
        have h := (kept2.refl g w2.heap.size w2).allocO o
        exact ⟨h.os, h.tape, h.output, h.size, h.block⟩
      have HR2 : Hid (∀ o o' : Obj, rdr ((w2.alloc o).alloc o').drew g q) := fun o o' => ((hrq.alloc o).alloc o').below ((Below.refl _ _).drew)
      have K2 : Hid (∀ o o' : Obj, kept2 g w2.heap.size w2 ((w2.alloc o).alloc o').drew) := fun o o' => by
        have h := ((kept2.refl g w2.heap.size w2).allocO o).allocO o'
        exact ⟨h.os, h.tape, h.output, h.size, h.block⟩
      have KA : Hid (∀ W (o : Obj), kept2 g w2.heap.size w2 W → kept2 g w2.heap.size w2 (W.alloc o)) := fun W o h => h.allocO o
      have HP2 : Hid (∀ W v, rdr W g (q + 3) → kept2 g w2.heap.size w2 W → own 3 (g + 1) W v ([0, 4, 5, 6, 7, 2] : List Int) → Calls Try.prog 88 #[.pointer (some ⟨g, 0, none⟩), v] W fun e W' => ∃ m : Nat, e = .returned (.int .i64 (m : Int)) ∧ m ≤ 7 ∧ rdr W' g (q + 4) ∧ kept2 g w2.heap.size w2 W' ∧ W.grownBy W' (some g)) := fun W v hr hk hv => by
        refine (rd_num 3 g (q + 3) v [0, 4, 5, 6, 7, 2] W hr (by omega) hv (by decide)).mono ?_
        rintro e w5 ⟨z, hz, rfl, hr5, hg5⟩
        have hz2 : 0 ≤ z ∧ z ≤ 7 := by simp at hz; omega
        obtain ⟨m, rfl⟩ := Int.eq_ofNat_of_zero_le hz2.1
        exact ⟨m, rfl, by omega, hr5, hk.step hg5 (Nat.le_refl _), hg5⟩
      have HP3 : Hid (∀ W, rdr W g (q + 4) → kept2 g w2.heap.size w2 W → Calls Try.prog 87 #[.pointer (some ⟨g, 0, none⟩), .slice A0 ns.length c0] W fun e W' => ∃ t : ByteArray, e = .returned (.string t) ∧ t.size ≤ maxLen ∧ rdr W' g (q + 5) ∧ kept2 g w2.heap.size w2 W' ∧ W.grownBy W' (some g)) := fun W hr hk => by
        have hv : own 9 (g + 1) W (.slice A0 ns.length c0) ns := HVW.out.keepBlk fun j hj => (hk.block j (by have := (HNB.out j hj).2; have := kr.size; omega) (by have := (HNB.out j hj).1; omega)).trans (kr.block j (HNB.out j hj).2 (by have := (HNB.out j hj).1; omega))
        refine (rd_of 9 g (q + 4) _ ns W hr (by omega) hv hn).mono ?_
        rintro e w5 ⟨t, _, rfl, ht, hr5, hg5⟩
        exact ⟨t, rfl, ht, hr5, hk.step hg5 (Nat.le_refl _), hg5⟩
      have HLO : Hid (∀ W : World, g < W.heap.size → own 3 (g + 1) (W.alloc (Obj.cells #[Value.int IntKind.i64 0, Value.int IntKind.i64 4, Value.int IntKind.i64 5, Value.int IntKind.i64 6, Value.int IntKind.i64 7, Value.int IntKind.i64 2] 3)) (.slice (some ⟨W.heap.size, 0, none⟩) 6 6) ([0, 4, 5, 6, 7, 2] : List Int)) := fun W h => list_own 3 (g + 1) W [0, 4, 5, 6, 7, 2] (by simp [isI64]) (by decide) (by omega)
      have HLO2 : Hid (∀ (W : World) (o : Obj), g < W.heap.size → own 3 (g + 1) ((W.alloc o).alloc (Obj.cells #[Value.int IntKind.i64 0, Value.int IntKind.i64 4, Value.int IntKind.i64 5, Value.int IntKind.i64 6, Value.int IntKind.i64 7, Value.int IntKind.i64 2] 3)) (.slice (some ⟨W.heap.size + 1, 0, none⟩) 6 6) ([0, 4, 5, 6, 7, 2] : List Int)) := fun W o h => by
        have := HLO.out (W.alloc o) (by simp; omega)
        rwa [show (W.alloc o).heap.size = W.heap.size + 1 by simp] at this
      go_region_held3 (fun W => kept2 g w2.heap.size w2 W) (first | exact K0.out | exact (K1.out _) | exact (K2.out _ _) | exact KA.out _ _ (KA.out _ _ k5) | exact k5 | exact KA.out _ _ k5 | exact k6 | exact KA.out _ _ k6 | exact k7 | exact KA.out _ _ k7 | exact (k7.set ⟨_, 0, none⟩ (Nat.le_refl _) _).set ⟨_, 1, none⟩ (Nat.le_refl _) _ | exact (k7.set ⟨_, 0, none⟩ (Nat.le_succ _) _).set ⟨_, 1, none⟩ (Nat.le_succ _) _ | exact (k7.set ⟨_, 0, none⟩ (k5.size) _).set ⟨_, 1, none⟩ (k5.size) _ | exact (k7.set ⟨_, 0, none⟩ (Nat.le_succ_of_le k5.size) _).set ⟨_, 1, none⟩ (Nat.le_succ_of_le k5.size) _ | exact (k7.set ⟨_, 0, none⟩ (k6.size) _).set ⟨_, 1, none⟩ (k6.size) _ | fail) (first | (go_at_call 76; (with_reducible refine (HP1.out _ HR0.out K0.out).mono ?_); rintro e w5 ⟨s, rfl, hs7, hr5, k5, hg5⟩; have HS7 := Lib.hid hs7; clear hs7) | (go_at_call 76; (with_reducible refine (HP1.out _ (HR1.out (Obj.cells #[Value.string ⟨#[]⟩, Value.string ⟨#[]⟩] 67)) (K1.out (Obj.cells #[Value.string ⟨#[]⟩, Value.string ⟨#[]⟩] 67))).mono ?_); rintro e w5 ⟨s, rfl, hs7, hr5, k5, hg5⟩; have HS7 := Lib.hid hs7; clear hs7; have hq5 := zed hg5 (heap_alloc_new w2 (Obj.cells #[Value.string ⟨#[]⟩, Value.string ⟨#[]⟩] 67)) hglt2) | (go_at_call 76; (with_reducible refine (HP1.out _ (HR1.out (Obj.cells #[Value.int IntKind.i64 0, Value.int IntKind.i64 4, Value.int IntKind.i64 5, Value.int IntKind.i64 6, Value.int IntKind.i64 7, Value.int IntKind.i64 2] 3)) (K1.out (Obj.cells #[Value.int IntKind.i64 0, Value.int IntKind.i64 4, Value.int IntKind.i64 5, Value.int IntKind.i64 6, Value.int IntKind.i64 7, Value.int IntKind.i64 2] 3))).mono ?_); rintro e w5 ⟨s, rfl, hs7, hr5, k5, hg5⟩; have HS7 := Lib.hid hs7; clear hs7; have hl5 : own 3 (g + 1) w5 (.slice (some ⟨w2.heap.size, 0, none⟩) 6 6) ([0, 4, 5, 6, 7, 2] : List Int) := ((HLO.out w2 hglt2)).drew.grown hg5 (own_ne ((HLO.out w2 hglt2)) (Nat.lt_succ_self g))) | (go_at_call 76; (with_reducible refine (HP1.out _ (HR2.out (Obj.cells #[Value.string ⟨#[]⟩, Value.string ⟨#[]⟩] 67) (Obj.cells #[Value.int IntKind.i64 0, Value.int IntKind.i64 4, Value.int IntKind.i64 5, Value.int IntKind.i64 6, Value.int IntKind.i64 7, Value.int IntKind.i64 2] 3)) (K2.out (Obj.cells #[Value.string ⟨#[]⟩, Value.string ⟨#[]⟩] 67) (Obj.cells #[Value.int IntKind.i64 0, Value.int IntKind.i64 4, Value.int IntKind.i64 5, Value.int IntKind.i64 6, Value.int IntKind.i64 7, Value.int IntKind.i64 2] 3))).mono ?_); rintro e w5 ⟨s, rfl, hs7, hr5, k5, hg5⟩; have HS7 := Lib.hid hs7; clear hs7; have hq5 := zed hg5 (heap_new2 w2 (Obj.cells #[Value.string ⟨#[]⟩, Value.string ⟨#[]⟩] 67) (Obj.cells #[Value.int IntKind.i64 0, Value.int IntKind.i64 4, Value.int IntKind.i64 5, Value.int IntKind.i64 6, Value.int IntKind.i64 7, Value.int IntKind.i64 2] 3)) hglt2; have hl5 : own 3 (g + 1) w5 (.slice (some ⟨w2.heap.size + 1, 0, none⟩) 6 6) ([0, 4, 5, 6, 7, 2] : List Int) := ((HLO2.out w2 (Obj.cells #[Value.string ⟨#[]⟩, Value.string ⟨#[]⟩] 67) hglt2)).drew.grown hg5 (own_ne ((HLO2.out w2 (Obj.cells #[Value.string ⟨#[]⟩, Value.string ⟨#[]⟩] 67) hglt2)) (Nat.lt_succ_self g))) | (go_at_call 76; (with_reducible refine (HP1.out _ (HR2.out (Obj.cells #[Value.int IntKind.i64 0, Value.int IntKind.i64 4, Value.int IntKind.i64 5, Value.int IntKind.i64 6, Value.int IntKind.i64 7, Value.int IntKind.i64 2] 3) (Obj.cells #[Value.string ⟨#[]⟩, Value.string ⟨#[]⟩] 67)) (K2.out (Obj.cells #[Value.int IntKind.i64 0, Value.int IntKind.i64 4, Value.int IntKind.i64 5, Value.int IntKind.i64 6, Value.int IntKind.i64 7, Value.int IntKind.i64 2] 3) (Obj.cells #[Value.string ⟨#[]⟩, Value.string ⟨#[]⟩] 67))).mono ?_); rintro e w5 ⟨s, rfl, hs7, hr5, k5, hg5⟩; have HS7 := Lib.hid hs7; clear hs7; have hq5 := zed hg5 (heap_alloc2_new w2 (Obj.cells #[Value.int IntKind.i64 0, Value.int IntKind.i64 4, Value.int IntKind.i64 5, Value.int IntKind.i64 6, Value.int IntKind.i64 7, Value.int IntKind.i64 2] 3) (Obj.cells #[Value.string ⟨#[]⟩, Value.string ⟨#[]⟩] 67)) (by omega); have hl5 : own 3 (g + 1) w5 (.slice (some ⟨w2.heap.size, 0, none⟩) 6 6) ([0, 4, 5, 6, 7, 2] : List Int) := (((HLO.out w2 hglt2).alloc (Obj.cells #[Value.string ⟨#[]⟩, Value.string ⟨#[]⟩] 67))).drew.grown hg5 (own_ne (((HLO.out w2 hglt2).alloc (Obj.cells #[Value.string ⟨#[]⟩, Value.string ⟨#[]⟩] 67))) (Nat.lt_succ_self g))) | (go_at_call 88; (with_reducible refine (HP2.out _ _ hr5 k5 hl5).mono ?_); rintro e w6 ⟨m, rfl, hm7, hr6, k6, hg6⟩; have hms : (m : Int) ≤ (s.size : Int) := (by have := HS7.out; omega); have hq6 := zed hg6 hq5 (by first | exact hglt2 | exact Nat.lt_succ_of_lt hglt2)) | (go_at_call 88; (with_reducible refine (HP2.out _ _ (hr5.alloc (Obj.cells #[Value.int IntKind.i64 0, Value.int IntKind.i64 4, Value.int IntKind.i64 5, Value.int IntKind.i64 6, Value.int IntKind.i64 7, Value.int IntKind.i64 2] 3)) (KA.out _ (Obj.cells #[Value.int IntKind.i64 0, Value.int IntKind.i64 4, Value.int IntKind.i64 5, Value.int IntKind.i64 6, Value.int IntKind.i64 7, Value.int IntKind.i64 2] 3) k5) (HLO.out w5 hr5.lt)).mono ?_); rintro e w6 ⟨m, rfl, hm7, hr6, k6, hg6⟩; have hms : (m : Int) ≤ (s.size : Int) := (by have := HS7.out; omega); have hq6 := zed hg6 ((World.heap_past w5 (Obj.cells #[Value.int IntKind.i64 0, Value.int IntKind.i64 4, Value.int IntKind.i64 5, Value.int IntKind.i64 6, Value.int IntKind.i64 7, Value.int IntKind.i64 2] 3) hq5)) (by first | exact hglt2 | exact Nat.lt_succ_of_lt hglt2)) | (go_at_call 88; (with_reducible refine (HP2.out _ _ (hr5.alloc (Obj.cells #[Value.string ⟨#[]⟩, Value.string ⟨#[]⟩] 67)) (KA.out _ (Obj.cells #[Value.string ⟨#[]⟩, Value.string ⟨#[]⟩] 67) k5) (hl5.alloc _)).mono ?_); rintro e w6 ⟨m, rfl, hm7, hr6, k6, hg6⟩; have hms : (m : Int) ≤ (s.size : Int) := (by have := HS7.out; omega); have hq6 := zed hg6 (heap_alloc_new w5 (Obj.cells #[Value.string ⟨#[]⟩, Value.string ⟨#[]⟩] 67)) hr5.lt) | (go_at_call 88; (with_reducible refine (HP2.out _ _ ((hr5.alloc (Obj.cells #[Value.string ⟨#[]⟩, Value.string ⟨#[]⟩] 67)).alloc (Obj.cells #[Value.int IntKind.i64 0, Value.int IntKind.i64 4, Value.int IntKind.i64 5, Value.int IntKind.i64 6, Value.int IntKind.i64 7, Value.int IntKind.i64 2] 3)) (KA.out _ (Obj.cells #[Value.int IntKind.i64 0, Value.int IntKind.i64 4, Value.int IntKind.i64 5, Value.int IntKind.i64 6, Value.int IntKind.i64 7, Value.int IntKind.i64 2] 3) (KA.out _ (Obj.cells #[Value.string ⟨#[]⟩, Value.string ⟨#[]⟩] 67) k5)) (HLO2.out w5 (Obj.cells #[Value.string ⟨#[]⟩, Value.string ⟨#[]⟩] 67) hr5.lt)).mono ?_); rintro e w6 ⟨m, rfl, hm7, hr6, k6, hg6⟩; have hms : (m : Int) ≤ (s.size : Int) := (by have := HS7.out; omega); have hq6 := zed hg6 (heap_new2 w5 (Obj.cells #[Value.string ⟨#[]⟩, Value.string ⟨#[]⟩] 67) (Obj.cells #[Value.int IntKind.i64 0, Value.int IntKind.i64 4, Value.int IntKind.i64 5, Value.int IntKind.i64 6, Value.int IntKind.i64 7, Value.int IntKind.i64 2] 3)) hr5.lt) | (go_at_call 88; (with_reducible refine (HP2.out _ _ ((hr5.alloc (Obj.cells #[Value.int IntKind.i64 0, Value.int IntKind.i64 4, Value.int IntKind.i64 5, Value.int IntKind.i64 6, Value.int IntKind.i64 7, Value.int IntKind.i64 2] 3)).alloc (Obj.cells #[Value.string ⟨#[]⟩, Value.string ⟨#[]⟩] 67)) (KA.out _ (Obj.cells #[Value.string ⟨#[]⟩, Value.string ⟨#[]⟩] 67) (KA.out _ (Obj.cells #[Value.int IntKind.i64 0, Value.int IntKind.i64 4, Value.int IntKind.i64 5, Value.int IntKind.i64 6, Value.int IntKind.i64 7, Value.int IntKind.i64 2] 3) k5)) ((HLO.out w5 hr5.lt).alloc _)).mono ?_); rintro e w6 ⟨m, rfl, hm7, hr6, k6, hg6⟩; have hms : (m : Int) ≤ (s.size : Int) := (by have := HS7.out; omega); have hq6 := zed hg6 (heap_alloc2_new w5 (Obj.cells #[Value.int IntKind.i64 0, Value.int IntKind.i64 4, Value.int IntKind.i64 5, Value.int IntKind.i64 6, Value.int IntKind.i64 7, Value.int IntKind.i64 2] 3) (Obj.cells #[Value.string ⟨#[]⟩, Value.string ⟨#[]⟩] 67)) (by have := hr5.lt; omega)) | (go_at_call 88; (with_reducible refine (HP2.out _ _ hr5 k5 hl5).mono ?_); rintro e w6 ⟨m, rfl, hm7, hr6, k6, hg6⟩; have hms : (m : Int) ≤ (s.size : Int) := (by have := HS7.out; omega)) | (go_at_call 88; (with_reducible refine (HP2.out _ _ (hr5.alloc (Obj.cells #[Value.int IntKind.i64 0, Value.int IntKind.i64 4, Value.int IntKind.i64 5, Value.int IntKind.i64 6, Value.int IntKind.i64 7, Value.int IntKind.i64 2] 3)) (KA.out _ (Obj.cells #[Value.int IntKind.i64 0, Value.int IntKind.i64 4, Value.int IntKind.i64 5, Value.int IntKind.i64 6, Value.int IntKind.i64 7, Value.int IntKind.i64 2] 3) k5) (HLO.out w5 hr5.lt)).mono ?_); rintro e w6 ⟨m, rfl, hm7, hr6, k6, hg6⟩; have hms : (m : Int) ≤ (s.size : Int) := (by have := HS7.out; omega)) | (go_at_call 87; (with_reducible refine (HP3.out _ hr6 k6).mono ?_); rintro e w7 ⟨t, rfl, ht, hr7, k7, hg7⟩; have hq7 := zed hg7 hq6 (by first | exact hglt2 | exact Nat.lt_succ_of_lt hglt2 | exact hr5.lt | exact Nat.lt_succ_of_lt hr5.lt); obtain ⟨c70, c71, f70, f71⟩ := cellsB2 hq7) | (go_at_call 87; (with_reducible refine (HP3.out _ (hr6.alloc (Obj.cells #[Value.string ⟨#[]⟩, Value.string ⟨#[]⟩] 67)) (KA.out _ (Obj.cells #[Value.string ⟨#[]⟩, Value.string ⟨#[]⟩] 67) k6)).mono ?_); rintro e w7 ⟨t, rfl, ht, hr7, k7, hg7⟩; have hq7 := zed hg7 (heap_alloc_new w6 (Obj.cells #[Value.string ⟨#[]⟩, Value.string ⟨#[]⟩] 67)) hr6.lt; obtain ⟨c70, c71, f70, f71⟩ := cellsB2 hq7) | (go_at_call 87; (with_reducible refine (HP3.out _ hr6 k6).mono ?_); rintro e w7 ⟨t, rfl, ht, hr7, k7, hg7⟩) | fail)
      all_goals
        first
        | (obtain ⟨B, W, hB, hW, HM⟩ : ∃ B W, B = _ ∧ W = _ ∧ midR 67 g (q + 5) w2 (s.extract 0 m) t B W := ⟨_, _, rfl, rfl, midR_new hr7 k7⟩
           rw [← hW, ← hB])
        | (obtain ⟨B, W, hB, hW, HM⟩ : ∃ B W, B = _ ∧ W = _ ∧ midR 67 g (q + 5) w2 (s.extract 0 m) t B W := ⟨_, _, rfl, rfl, midR_old hr7 hglt2 k7 (Nat.le_refl _) hq7⟩
           rw [← hW, ← hB])
        | (obtain ⟨B, W, hB, hW, HM⟩ : ∃ B W, B = _ ∧ W = _ ∧ midR 67 g (q + 5) w2 (s.extract 0 m) t B W := ⟨_, _, rfl, rfl, midR_old (B := w2.heap.size + 1) hr7 hglt2 k7 (Nat.le_succ _) hq7⟩
           rw [← hW, ← hB])
        | (obtain ⟨B, W, hB, hW, HM⟩ : ∃ B W, B = _ ∧ W = _ ∧ midR 67 g (q + 5) w2 (s.extract 0 m) t B W := ⟨_, _, rfl, rfl, midR_old hr7 hglt2 k7 (k5.size) hq7⟩
           rw [← hW, ← hB])
        | (obtain ⟨B, W, hB, hW, HM⟩ : ∃ B W, B = _ ∧ W = _ ∧ midR 67 g (q + 5) w2 (s.extract 0 m) t B W := ⟨_, _, rfl, rfl, midR_old (B := w5.heap.size + 1) hr7 hglt2 k7 (Nat.le_succ_of_le k5.size) hq7⟩
           rw [← hW, ← hB])
        | (obtain ⟨B, W, hB, hW, HM⟩ : ∃ B W, B = _ ∧ W = _ ∧ midR 67 g (q + 5) w2 (s.extract 0 m) t B W := ⟨_, _, rfl, rfl, midR_old hr7 hglt2 k7 (k6.size) hq7⟩
           rw [← hW, ← hB])
      all_goals
        clear hW hB
        obtain ⟨hB, hrow, hr8, k8⟩ := HM
        obtain ⟨e0, e1, _, _⟩ := cellsB2 hrow
        have hsz : (s.extract 0 m).size ≤ maxLen := by rw [ByteArray.size_extract]; have := HS7.out; unfold maxLen; omega
        have HOK : Hid (Fwd.ok ⟨s.extract 0 m, t⟩) := ⟨hsz, ht⟩
        have hrs : own 67 w.heap.size W (.slice A rs.length c) rs := ho.keepBlk fun j hj => k8.block j (ho.blk j hj).2 (by have := (ho.blk j hj).1; omega)
        have kW : kept2 g w.heap.size w W := kr.trans ⟨k8.os, k8.tape, k8.output, k8.size, fun i hi hne => k8.block i (by have := kr.size; omega) hne⟩
        have hsw := kW.size
        generalize s.extract 0 m = sp at *
        go_wp2_with fail
        refine (spec_l6Index _ rs sp _ hrs.rd).mono ?_
        rintro e _ ⟨rfl, rfl⟩
        generalize fwdI rs sp = r at *
        by_cases hr0 : r < 0
        · go_wp2_with (at_builtin; refine wpList_append1 (α := Fwd) rfl (.tmp 31) (.tmp 33) _ rfl w.heap.size 67 i0 _ 32 Try.underlying63 hi hz0 hzz1 hzz2 rfl (by decide) (.slice A rs.length c) rs ⟨sp, t⟩ rfl (hrs.alloc _) ⟨W.heap.size, 0, none⟩ 1 (Fwd.cells ⟨sp, t⟩) rfl ⟨HOK.out, rfl⟩ (news_at W _ (Fwd.cells ⟨sp, t⟩)) (by unfold maxLen; omega) (by omega) (by simp; omega) ?_; intro v' w9 o9 hg9 _)
          obtain ⟨hr9, k9⟩ := appendedA hr8 kW (hrs.alloc _) hg9 hlt
          clear hg9
          go_wp2_with fail
          go_roundw
          case rel => exact ⟨k - 1, _, q + 5, by omega, by go_num, by show _ ≤ _; have := HXK.out; simp; omega, o9, hr9, by omega, k9⟩
          case measure => simp [intOf]; omega
        · go_wp2_with fail
          go_roundw
          case rel => exact ⟨k - 1, rs, q + 5, by omega, by go_num, by show _ ≤ _; have := HXK.out; omega, hrs, hr8, by omega, kW⟩
          case measure => simp [intOf]; omega
    · go_wp2_with fail
      go_ret
      exact ⟨_, rs, q, rfl, ho, hxl, hrq, by omega, kept2.back (World.grownBy.refl w (some g)) kr (Nat.le_refl _)⟩

end Go.Proofs.Ytmangjjaijhcnaa
