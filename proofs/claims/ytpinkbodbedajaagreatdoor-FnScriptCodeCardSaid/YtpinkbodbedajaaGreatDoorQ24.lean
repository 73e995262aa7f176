/- NY NZ GO -/
import Derived.Test.YtpinkbodbedajaaGreatDoorQ22
import Derived.Test.YtpinkbodbedajaaGreatDoorQ23
import Derived.Test.YtpinkbodbedajaaGreatDoorQ21
import Derived.Deep.RegionHeld3
import Derived.Test.YtpinkbodbedajaaGreatDoorQ7
import Derived.Test.YtpinkbodbedajaaGreatDoorQ6
import Derived.Test.YtpinkbodbedajaaGreatDoorQ13
namespace Go.Proofs.YtpinkbodbedajaaGreatDoor
open Go.RowKit

set_option maxRecDepth 100000 in
set_option maxHeartbeats 800000 in
theorem rd_l6Head (g p : Nat) (w : World) (hr : rdr w g p) (hp : p ≤ 1000000000000) :
    Calls Tryz.prog 82 #[.pointer (some ⟨g, 0, none⟩)] w fun e w' => ∃ s : ByteArray, e = .returned (.string s) ∧ head7 s ∧ rdr w' g (p + 3) ∧ w.grownBy w' (some g) := by
  have hlt := hr.lt
  go_enter Tryz.func82, Tryz.ntmps82
  go_wp2_with fail
  refine (rd_of 9 g p _ [⟨#[49]⟩, ⟨#[48]⟩, ⟨#[50]⟩] _ (hr.alloc _) (by omega) (list_str 9 (g + 1) w [⟨#[49]⟩, ⟨#[48]⟩, ⟨#[50]⟩] (by intro x hx; simp at hx; rcases hx with rfl | rfl | rfl <;> decide) (by decide) (by omega)) (by decide)).mono ?_
  rintro e w1 ⟨x, hx, rfl, hxz, hr1, hg1⟩
  have hx1 : x.size = 1 := by simp at hx; rcases hx with rfl | rfl | rfl <;> rfl
  have HX := Lib.hid hx
  replace hg1 := grown_trans (World.grownBy_alloc w _ _) hg1
  clear hx hxz
  go_wp2_with fail
  refine (rd_pick g (p + 1) 3 _ hr1 (by omega) (by unfold isI64; omega)).mono ?_
  rintro e w2 ⟨y, rfl, hy, hr2, hg2⟩
  obtain ⟨y0, y1⟩ := hy.2 (by omega)
  obtain ⟨N, rfl⟩ := Int.eq_ofNat_of_zero_le y0
  replace hg2 := grown_trans hg1 hg2
  clear hy hr1 hg1
  go_wp2_with fail
  refine (dec_is (d := N) (by omega)).mono ?_
  rintro e w3 ⟨rfl, b3⟩
  have hs3 : (dgB N).size = 1 := rfl
  have HS0 : Hid (∀ M, M < 10 → head7 (((⟨#[49, 50, 48, 48]⟩ : ByteArray) ++ x) ++ dgB N ++ dgB M)) := fun M hM => head7_of HX.out (by omega) hM
  generalize dgB N = s at *
  have hr3 := hr2.below b3
  have hg3 := grown_below hg2 b3
  clear hr2 hg2 b3
  go_wp2_with fail
  refine (rd_pick g (p + 1 + 1) 3 _ hr3 (by omega) (by unfold isI64; omega)).mono ?_
  rintro e w4 ⟨y, rfl, hy, hr4, hg4⟩
  obtain ⟨z0, z1⟩ := hy.2 (by omega)
  obtain ⟨M, rfl⟩ := Int.eq_ofNat_of_zero_le z0
  replace hg4 := grown_trans hg3 hg4
  clear hy hr3 hg3
  go_wp2_with fail
  refine (dec_is (d := M) (by omega)).mono ?_
  rintro e w5 ⟨rfl, b5⟩
  have hs5 : (dgB M).size = 1 := rfl
  have HS := Lib.hid (HS0.out M (by omega))
  generalize dgB M = t at *
  have hr5 := hr4.below b5
  have hg5 := grown_below hg4 b5
  clear hr4 hg4 b5
  go_wp2_with fail
  go_ret
  exact ⟨_, rfl, HS.out, hr5, hg5⟩

theorem cellsB2 {W : World} {h T : Nat} {a b : Value} (hb : W.heap[h]? = some (.cells #[a, b] T (0, 0))) :
    W.cell? ⟨h, 0, none⟩ = some a ∧ W.cell? ⟨h, 1, none⟩ = some b ∧ W.frozen? ⟨h, 0, none⟩ = false ∧ W.frozen? ⟨h, 1, none⟩ = false :=
  ⟨by rw [cell_of_row _ _ _ _ _ _ hb]; rfl, by rw [cell_of_row _ _ _ _ _ _ hb]; rfl, by simp [World.frozen?, hb], by simp [World.frozen?, hb]⟩
theorem zed {F w' : World} {g B : Nat} {o : Obj} (hg : F.grownBy w' (some g)) (h : F.heap[B]? = some o) (hne : g < B) : w'.heap[B]? = some o :=
  (hg.block B (Array.getElem?_eq_some_iff.1 h).1 (fun e => by injection e; omega)).trans h
theorem heap_new2 (w : World) (o o' : Obj) : ((w.alloc o).alloc o').heap[w.heap.size]? = some o :=
  (((Below.refl (w.alloc o).heap.size (w.alloc o)).alloc (Nat.le_refl _) o').block w.heap.size (by simp)).trans (heap_alloc_new w o)
theorem World.heap_past (w : World) (o : Obj) {B : Nat} {q : Obj} (h : w.heap[B]? = some q) : (w.alloc o).heap[B]? = some q :=
  (((Below.refl w.heap.size w).alloc (Nat.le_refl _) o).block B (Array.getElem?_eq_some_iff.1 h).1).trans h
/-- Behind the drawing of a rule: it lies in a block B of its own. -/
structure midR (T g q : Nat) (w0 : World) (s t : ByteArray) (B : Nat) (W : World) : Prop where
  hB : w0.heap.size ≤ B
  hrow : W.heap[B]? = some (.cells #[.string s, .string t] T (0, 0))
  hr : rdr W g q
  hk : kept2 g w0.heap.size w0 W
theorem midR_new {T g q : Nat} {w0 w6 : World} {s t : ByteArray} (hr : rdr w6 g q) (hk : kept2 g w0.heap.size w0 w6) :
    midR T g q w0 s t w6.heap.size (w6.alloc (Obj.cells #[.string s, .string t] T)) :=
  ⟨hk.size, heap_alloc_new _ _, hr.alloc _, hk.allocO _⟩
theorem two_setB {w : World} {g : Nat} {T : TypeId} {u0 u1 a b : Value} (h : w.heap[g]? = some (.cells #[u0, u1] T (0, 0))) :
    ((w.setCell ⟨g, 0, none⟩ a).setCell ⟨g, 1, none⟩ b).heap[g]? = some (.cells #[a, b] T (0, 0)) :=
  heap_setCell_same _ _ _ _ _ _ (heap_setCell_same _ _ _ _ _ _ h)
theorem midR_old {T g q B : Nat} {w0 w6 : World} {s t : ByteArray} {u0 u1 : Value} (hr : rdr w6 g q) (hg : g < w0.heap.size) (hk : kept2 g w0.heap.size w0 w6) (hB : w0.heap.size ≤ B) (h6 : w6.heap[B]? = some (.cells #[u0, u1] T (0, 0))) :
    midR T g q w0 s t B ((w6.setCell ⟨B, 0, none⟩ (.string s)).setCell ⟨B, 1, none⟩ (.string t)) := by
  have HG := grown_setCell (p := ⟨B, 1, none⟩) (grown_setCell (p := ⟨B, 0, none⟩) (World.grownBy.refl w6 (some B)) (.inl rfl) (.string s)) (.inl rfl) (.string t)
  exact ⟨hB, two_setB h6, hr.grown HG (by omega), (hk.set ⟨B, 0, none⟩ hB _).set ⟨B, 1, none⟩ hB _⟩
set_option maxRecDepth 100000 in
set_option maxHeartbeats 4000000 in
theorem rd_l6Rules (g p : Nat) (v : Value) (ns : List ByteArray) (w : World) (hr : rdr w g p) (hp : p ≤ 100000000000) (hv : own 9 (g + 1) w v ns) (hn : 0 < ns.length) :
    Calls Tryz.prog 147 #[.pointer (some ⟨g, 0, none⟩), v] w fun e w' => ∃ (v' : Value) (rs : List Fwd) (p' : Nat), e = .returned v' ∧ own 174 w.heap.size w' v' rs ∧ rs.length ≤ 5 ∧ drawnR ns rs ∧ rdr w' g p' ∧ p' ≤ p + 40 ∧ w.grownBy w' (some g) := by
  have hlt := hr.lt
  obtain ⟨i0, hi, hz0, hzz1, hzz2⟩ := info_parts Tryz.infoRul
  have HNB := Lib.hid (fun k hk => hv.blk k hk)
  have HVW := Lib.hid hv
  obtain ⟨A0, n0, c0, rfl, hn0, _, _, _⟩ := hv.rd
  subst hn0
  clear hv
  go_enter Tryz.func147, Tryz.ntmps147
  go_wp2_with fail
  have oE := own.made0 (α := Fwd) w 174 (Nat.le_refl _)
  have hrE := hr.alloc (Obj.cells #[] 174)
  have kE : kept2 g w.heap.size w (w.alloc (Obj.cells #[] 174)) := kept2.below ((Below.refl _ _).alloc (Nat.le_refl _) _)
  have hzA : w.heap.size + 1 = (w.alloc (Obj.cells #[] 174)).heap.size := by simp
  generalize w.alloc (Obj.cells #[] 174) = wA at *
  rw [hzA]
  have HZA := Lib.hid hzA; clear hzA
  have hltA := hrE.lt
  refine (rd_num 3 g p _ [3, 4, 2, 5, 1, 0] _ (hrE.alloc _) (by omega) (list_own 3 (g + 1) wA [3, 4, 2, 5, 1, 0] (by simp [isI64]) (by decide) (by omega)) (by decide)).mono ?_
  rintro e w1 ⟨n, hn', rfl, hr1, hg1⟩
  replace hg1 : wA.grownBy w1 (some g) := grown_trans (World.grownBy_alloc wA _ _) hg1
  have k1 := kE.step hg1 (Nat.le_refl _)
  have o1 := oE.grown hg1 (own_ne oE hlt)
  have hn2 : 0 ≤ n ∧ n ≤ 5 := by simp at hn'; omega
  obtain ⟨hn0, hn1⟩ := hn2
  obtain ⟨N, rfl⟩ := Int.eq_ofNat_of_zero_le hn0
  clear hn' oE hrE kE hg1
  go_wp2_with fail
  go_loopw [5, 6] (fun t i wr => ∃ (k : Nat) (rs : List Fwd) (q : Nat), k ≤ N ∧ i = .int .i64 k ∧ Hid (rs.length + k ≤ N) ∧ Hid (drawnR ns rs) ∧ own 174 w.heap.size wr t rs ∧ rdr wr g q ∧ q + 5 * k ≤ p + 1 + 5 * N ∧ kept2 g w.heap.size w wr) (fun _ i _ => (intOf i).toNat)
  case atStart => exact ⟨N, [], p + 1, Nat.le_refl _, rfl, by show _ ≤ _; simp, drawnR.nil _, o1, hr1, by omega, k1⟩
  case round =>
    obtain ⟨k, rs, q, hk, rfl, HXK, HDR, ho, hrq, hqb, kr⟩ := hrel
    obtain ⟨w2, rfl⟩ : ∃ w2 : World, w2 = wr := ⟨_, rfl⟩
    clear o1 hr1 k1
    have hxl : rs.length ≤ 5 := by have := HXK.out; omega
    obtain ⟨A, m, c, hv, hm, _, _, _⟩ := ho.rd
    subst hm hv
    by_cases hk0 : 0 < k
    · go_wp2_with fail
      have hglt2 := hrq.lt
      have K0 : Hid (kept2 g w2.heap.size w2 w2.drew) := ⟨rfl, rfl, rfl, Nat.le_refl _, fun _ _ _ => rfl⟩
      have HR0 : Hid (rdr w2.drew g q) := hrq.below ((Below.refl _ _).drew)
      have HP1 : Hid (∀ W, rdr W g q → kept2 g w2.heap.size w2 W → Calls Tryz.prog 82 #[.pointer (some ⟨g, 0, none⟩)] W fun e W' => ∃ s : ByteArray, e = .returned (.string s) ∧ head7 s ∧ rdr W' g (q + 3) ∧ kept2 g w2.heap.size w2 W' ∧ W.grownBy W' (some g)) := fun W hr hk => by
        refine (rd_l6Head g q _ hr (by omega)).mono ?_
        rintro e w5 ⟨s, rfl, hs7, hr5, hg5⟩
        exact ⟨s, rfl, hs7, hr5, hk.step hg5 (Nat.le_refl _), hg5⟩
      have HR1 : Hid (∀ o : Obj, rdr (w2.alloc o).drew g q) := fun o => (hrq.alloc o).below ((Below.refl _ _).drew)
      have K1 : Hid (∀ o : Obj, kept2 g w2.heap.size w2 (w2.alloc o).drew) := fun o => by
        have h := (kept2.refl g w2.heap.size w2).allocO o
        exact ⟨h.os, h.tape, h.output, h.size, h.block⟩
      have HR2 : Hid (∀ o o' : Obj, rdr ((w2.alloc o).alloc o').drew g q) := fun o o' => ((hrq.alloc o).alloc o').below ((Below.refl _ _).drew)
      have K2 : Hid (∀ o o' : Obj, kept2 g w2.heap.size w2 ((w2.alloc o).alloc o').drew) := fun o o' => by
        have h := ((kept2.refl g w2.heap.size w2).allocO o).allocO o'
        exact ⟨h.os, h.tape, h.output, h.size, h.block⟩
      have KA : Hid (∀ W (o : Obj), kept2 g w2.heap.size w2 W → kept2 g w2.heap.size w2 (W.alloc o)) := fun W o h => h.allocO o
      have HP2 : Hid (∀ W v, rdr W g (q + 3) → kept2 g w2.heap.size w2 W → own 3 (g + 1) W v ([0, 4, 5, 6, 7, 2] : List Int) → Calls Tryz.prog 103 #[.pointer (some ⟨g, 0, none⟩), v] W fun e W' => ∃ m : Nat, e = .returned (.int .i64 (m : Int)) ∧ m ≤ 7 ∧ rdr W' g (q + 4) ∧ kept2 g w2.heap.size w2 W' ∧ W.grownBy W' (some g)) := fun W v hr hk hv => by
        refine (rd_num 3 g (q + 3) v [0, 4, 5, 6, 7, 2] W hr (by omega) hv (by decide)).mono ?_
        rintro e w5 ⟨z, hz, rfl, hr5, hg5⟩
        have hz2 : 0 ≤ z ∧ z ≤ 7 := by simp at hz; omega
        obtain ⟨m, rfl⟩ := Int.eq_ofNat_of_zero_le hz2.1
        exact ⟨m, rfl, by omega, hr5, hk.step hg5 (Nat.le_refl _), hg5⟩
      have HP3 : Hid (∀ W, rdr W g (q + 4) → kept2 g w2.heap.size w2 W → Calls Tryz.prog 80 #[.pointer (some ⟨g, 0, none⟩), .slice A0 ns.length c0] W fun e W' => ∃ t : ByteArray, e = .returned (.string t) ∧ (t.size ≤ maxLen ∧ t ∈ ns) ∧ rdr W' g (q + 5) ∧ kept2 g w2.heap.size w2 W' ∧ W.grownBy W' (some g)) := fun W hr hk => by
        have hv : own 9 (g + 1) W (.slice A0 ns.length c0) ns := HVW.out.keepBlk fun j hj => (hk.block j (by have := (HNB.out j hj).2; have := kr.size; omega) (by have := (HNB.out j hj).1; omega)).trans (kr.block j (HNB.out j hj).2 (by have := (HNB.out j hj).1; omega))
        refine (rd_of 9 g (q + 4) _ ns W hr (by omega) hv hn).mono ?_
        rintro e w5 ⟨t, htm, rfl, ht, hr5, hg5⟩
        exact ⟨t, rfl, ⟨ht, htm⟩, hr5, hk.step hg5 (Nat.le_refl _), hg5⟩
      have HLO : Hid (∀ W : World, g < W.heap.size → own 3 (g + 1) (W.alloc (Obj.cells #[Value.int IntKind.i64 0, Value.int IntKind.i64 4, Value.int IntKind.i64 5, Value.int IntKind.i64 6, Value.int IntKind.i64 7, Value.int IntKind.i64 2] 3)) (.slice (some ⟨W.heap.size, 0, none⟩) 6 6) ([0, 4, 5, 6, 7, 2] : List Int)) := fun W h => list_own 3 (g + 1) W [0, 4, 5, 6, 7, 2] (by simp [isI64]) (by decide) (by omega)
      have HLO2 : Hid (∀ (W : World) (o : Obj), g < W.heap.size → own 3 (g + 1) ((W.alloc o).alloc (Obj.cells #[Value.int IntKind.i64 0, Value.int IntKind.i64 4, Value.int IntKind.i64 5, Value.int IntKind.i64 6, Value.int IntKind.i64 7, Value.int IntKind.i64 2] 3)) (.slice (some ⟨W.heap.size + 1, 0, none⟩) 6 6) ([0, 4, 5, 6, 7, 2] : List Int)) := fun W o h => by
        have := HLO.out (W.alloc o) (by simp; omega)
        rwa [show (W.alloc o).heap.size = W.heap.size + 1 by simp] at this
      go_region_held3 (fun W => kept2 g w2.heap.size w2 W) (first | exact K0.out | exact (K1.out _) | exact (K2.out _ _) | exact KA.out _ _ (KA.out _ _ k5) | exact k5 | exact KA.out _ _ k5 | exact k6 | exact KA.out _ _ k6 | exact k7 | exact KA.out _ _ k7 | exact (k7.set ⟨_, 0, none⟩ (Nat.le_refl _) _).set ⟨_, 1, none⟩ (Nat.le_refl _) _ | exact (k7.set ⟨_, 0, none⟩ (Nat.le_succ _) _).set ⟨_, 1, none⟩ (Nat.le_succ _) _ | exact (k7.set ⟨_, 0, none⟩ (k5.size) _).set ⟨_, 1, none⟩ (k5.size) _ | exact (k7.set ⟨_, 0, none⟩ (Nat.le_succ_of_le k5.size) _).set ⟨_, 1, none⟩ (Nat.le_succ_of_le k5.size) _ | exact (k7.set ⟨_, 0, none⟩ (k6.size) _).set ⟨_, 1, none⟩ (k6.size) _ | fail) (first | (go_at_call 82; (with_reducible refine (HP1.out _ HR0.out K0.out).mono ?_); rintro e w5 ⟨s, rfl, hs7, hr5, k5, hg5⟩; have HS7 := Lib.hid hs7; clear hs7) | (go_at_call 82; (with_reducible refine (HP1.out _ (HR1.out (Obj.cells #[Value.string ⟨#[]⟩, Value.string ⟨#[]⟩] 174)) (K1.out (Obj.cells #[Value.string ⟨#[]⟩, Value.string ⟨#[]⟩] 174))).mono ?_); rintro e w5 ⟨s, rfl, hs7, hr5, k5, hg5⟩; have HS7 := Lib.hid hs7; clear hs7; have hq5 := zed hg5 (heap_alloc_new w2 (Obj.cells #[Value.string ⟨#[]⟩, Value.string ⟨#[]⟩] 174)) hglt2) | (go_at_call 82; (with_reducible refine (HP1.out _ (HR1.out (Obj.cells #[Value.int IntKind.i64 0, Value.int IntKind.i64 4, Value.int IntKind.i64 5, Value.int IntKind.i64 6, Value.int IntKind.i64 7, Value.int IntKind.i64 2] 3)) (K1.out (Obj.cells #[Value.int IntKind.i64 0, Value.int IntKind.i64 4, Value.int IntKind.i64 5, Value.int IntKind.i64 6, Value.int IntKind.i64 7, Value.int IntKind.i64 2] 3))).mono ?_); rintro e w5 ⟨s, rfl, hs7, hr5, k5, hg5⟩; have HS7 := Lib.hid hs7; clear hs7; have hl5 : own 3 (g + 1) w5 (.slice (some ⟨w2.heap.size, 0, none⟩) 6 6) ([0, 4, 5, 6, 7, 2] : List Int) := ((HLO.out w2 hglt2)).drew.grown hg5 (own_ne ((HLO.out w2 hglt2)) (Nat.lt_succ_self g))) | (go_at_call 82; (with_reducible refine (HP1.out _ (HR2.out (Obj.cells #[Value.string ⟨#[]⟩, Value.string ⟨#[]⟩] 174) (Obj.cells #[Value.int IntKind.i64 0, Value.int IntKind.i64 4, Value.int IntKind.i64 5, Value.int IntKind.i64 6, Value.int IntKind.i64 7, Value.int IntKind.i64 2] 3)) (K2.out (Obj.cells #[Value.string ⟨#[]⟩, Value.string ⟨#[]⟩] 174) (Obj.cells #[Value.int IntKind.i64 0, Value.int IntKind.i64 4, Value.int IntKind.i64 5, Value.int IntKind.i64 6, Value.int IntKind.i64 7, Value.int IntKind.i64 2] 3))).mono ?_); rintro e w5 ⟨s, rfl, hs7, hr5, k5, hg5⟩; have HS7 := Lib.hid hs7; clear hs7; have hq5 := zed hg5 (heap_new2 w2 (Obj.cells #[Value.string ⟨#[]⟩, Value.string ⟨#[]⟩] 174) (Obj.cells #[Value.int IntKind.i64 0, Value.int IntKind.i64 4, Value.int IntKind.i64 5, Value.int IntKind.i64 6, Value.int IntKind.i64 7, Value.int IntKind.i64 2] 3)) hglt2; have hl5 : own 3 (g + 1) w5 (.slice (some ⟨w2.heap.size + 1, 0, none⟩) 6 6) ([0, 4, 5, 6, 7, 2] : List Int) := ((HLO2.out w2 (Obj.cells #[Value.string ⟨#[]⟩, Value.string ⟨#[]⟩] 174) hglt2)).drew.grown hg5 (own_ne ((HLO2.out w2 (Obj.cells #[Value.string ⟨#[]⟩, Value.string ⟨#[]⟩] 174) hglt2)) (Nat.lt_succ_self g))) | (go_at_call 82; (with_reducible refine (HP1.out _ (HR2.out (Obj.cells #[Value.int IntKind.i64 0, Value.int IntKind.i64 4, Value.int IntKind.i64 5, Value.int IntKind.i64 6, Value.int IntKind.i64 7, Value.int IntKind.i64 2] 3) (Obj.cells #[Value.string ⟨#[]⟩, Value.string ⟨#[]⟩] 174)) (K2.out (Obj.cells #[Value.int IntKind.i64 0, Value.int IntKind.i64 4, Value.int IntKind.i64 5, Value.int IntKind.i64 6, Value.int IntKind.i64 7, Value.int IntKind.i64 2] 3) (Obj.cells #[Value.string ⟨#[]⟩, Value.string ⟨#[]⟩] 174))).mono ?_); rintro e w5 ⟨s, rfl, hs7, hr5, k5, hg5⟩; have HS7 := Lib.hid hs7; clear hs7; have hq5 := zed hg5 (heap_alloc2_new w2 (Obj.cells #[Value.int IntKind.i64 0, Value.int IntKind.i64 4, Value.int IntKind.i64 5, Value.int IntKind.i64 6, Value.int IntKind.i64 7, Value.int IntKind.i64 2] 3) (Obj.cells #[Value.string ⟨#[]⟩, Value.string ⟨#[]⟩] 174)) (by omega); have hl5 : own 3 (g + 1) w5 (.slice (some ⟨w2.heap.size, 0, none⟩) 6 6) ([0, 4, 5, 6, 7, 2] : List Int) := (((HLO.out w2 hglt2).alloc (Obj.cells #[Value.string ⟨#[]⟩, Value.string ⟨#[]⟩] 174))).drew.grown hg5 (own_ne (((HLO.out w2 hglt2).alloc (Obj.cells #[Value.string ⟨#[]⟩, Value.string ⟨#[]⟩] 174))) (Nat.lt_succ_self g))) | (go_at_call 103; (with_reducible refine (HP2.out _ _ hr5 k5 hl5).mono ?_); rintro e w6 ⟨m, rfl, hm7, hr6, k6, hg6⟩; have hms : (m : Int) ≤ (s.size : Int) := (by have := HS7.out.1; omega); have hq6 := zed hg6 hq5 (by first | exact hglt2 | exact Nat.lt_succ_of_lt hglt2)) | (go_at_call 103; (with_reducible refine (HP2.out _ _ (hr5.alloc (Obj.cells #[Value.int IntKind.i64 0, Value.int IntKind.i64 4, Value.int IntKind.i64 5, Value.int IntKind.i64 6, Value.int IntKind.i64 7, Value.int IntKind.i64 2] 3)) (KA.out _ (Obj.cells #[Value.int IntKind.i64 0, Value.int IntKind.i64 4, Value.int IntKind.i64 5, Value.int IntKind.i64 6, Value.int IntKind.i64 7, Value.int IntKind.i64 2] 3) k5) (HLO.out w5 hr5.lt)).mono ?_); rintro e w6 ⟨m, rfl, hm7, hr6, k6, hg6⟩; have hms : (m : Int) ≤ (s.size : Int) := (by have := HS7.out.1; omega); have hq6 := zed hg6 ((World.heap_past w5 (Obj.cells #[Value.int IntKind.i64 0, Value.int IntKind.i64 4, Value.int IntKind.i64 5, Value.int IntKind.i64 6, Value.int IntKind.i64 7, Value.int IntKind.i64 2] 3) hq5)) (by first | exact hglt2 | exact Nat.lt_succ_of_lt hglt2)) | (go_at_call 103; (with_reducible refine (HP2.out _ _ (hr5.alloc (Obj.cells #[Value.string ⟨#[]⟩, Value.string ⟨#[]⟩] 174)) (KA.out _ (Obj.cells #[Value.string ⟨#[]⟩, Value.string ⟨#[]⟩] 174) k5) (hl5.alloc _)).mono ?_); rintro e w6 ⟨m, rfl, hm7, hr6, k6, hg6⟩; have hms : (m : Int) ≤ (s.size : Int) := (by have := HS7.out.1; omega); have hq6 := zed hg6 (heap_alloc_new w5 (Obj.cells #[Value.string ⟨#[]⟩, Value.string ⟨#[]⟩] 174)) hr5.lt) | (go_at_call 103; (with_reducible refine (HP2.out _ _ ((hr5.alloc (Obj.cells #[Value.string ⟨#[]⟩, Value.string ⟨#[]⟩] 174)).alloc (Obj.cells #[Value.int IntKind.i64 0, Value.int IntKind.i64 4, Value.int IntKind.i64 5, Value.int IntKind.i64 6, Value.int IntKind.i64 7, Value.int IntKind.i64 2] 3)) (KA.out _ (Obj.cells #[Value.int IntKind.i64 0, Value.int IntKind.i64 4, Value.int IntKind.i64 5, Value.int IntKind.i64 6, Value.int IntKind.i64 7, Value.int IntKind.i64 2] 3) (KA.out _ (Obj.cells #[Value.string ⟨#[]⟩, Value.string ⟨#[]⟩] 174) k5)) (HLO2.out w5 (Obj.cells #[Value.string ⟨#[]⟩, Value.string ⟨#[]⟩] 174) hr5.lt)).mono ?_); rintro e w6 ⟨m, rfl, hm7, hr6, k6, hg6⟩; have hms : (m : Int) ≤ (s.size : Int) := (by have := HS7.out.1; omega); have hq6 := zed hg6 (heap_new2 w5 (Obj.cells #[Value.string ⟨#[]⟩, Value.string ⟨#[]⟩] 174) (Obj.cells #[Value.int IntKind.i64 0, Value.int IntKind.i64 4, Value.int IntKind.i64 5, Value.int IntKind.i64 6, Value.int IntKind.i64 7, Value.int IntKind.i64 2] 3)) hr5.lt) | (go_at_call 103; (with_reducible refine (HP2.out _ _ ((hr5.alloc (Obj.cells #[Value.int IntKind.i64 0, Value.int IntKind.i64 4, Value.int IntKind.i64 5, Value.int IntKind.i64 6, Value.int IntKind.i64 7, Value.int IntKind.i64 2] 3)).alloc (Obj.cells #[Value.string ⟨#[]⟩, Value.string ⟨#[]⟩] 174)) (KA.out _ (Obj.cells #[Value.string ⟨#[]⟩, Value.string ⟨#[]⟩] 174) (KA.out _ (Obj.cells #[Value.int IntKind.i64 0, Value.int IntKind.i64 4, Value.int IntKind.i64 5, Value.int IntKind.i64 6, Value.int IntKind.i64 7, Value.int IntKind.i64 2] 3) k5)) ((HLO.out w5 hr5.lt).alloc _)).mono ?_); rintro e w6 ⟨m, rfl, hm7, hr6, k6, hg6⟩; have hms : (m : Int) ≤ (s.size : Int) := (by have := HS7.out.1; omega); have hq6 := zed hg6 (heap_alloc2_new w5 (Obj.cells #[Value.int IntKind.i64 0, Value.int IntKind.i64 4, Value.int IntKind.i64 5, Value.int IntKind.i64 6, Value.int IntKind.i64 7, Value.int IntKind.i64 2] 3) (Obj.cells #[Value.string ⟨#[]⟩, Value.string ⟨#[]⟩] 174)) (by have := hr5.lt; omega)) | (go_at_call 103; (with_reducible refine (HP2.out _ _ hr5 k5 hl5).mono ?_); rintro e w6 ⟨m, rfl, hm7, hr6, k6, hg6⟩; have hms : (m : Int) ≤ (s.size : Int) := (by have := HS7.out.1; omega)) | (go_at_call 103; (with_reducible refine (HP2.out _ _ (hr5.alloc (Obj.cells #[Value.int IntKind.i64 0, Value.int IntKind.i64 4, Value.int IntKind.i64 5, Value.int IntKind.i64 6, Value.int IntKind.i64 7, Value.int IntKind.i64 2] 3)) (KA.out _ (Obj.cells #[Value.int IntKind.i64 0, Value.int IntKind.i64 4, Value.int IntKind.i64 5, Value.int IntKind.i64 6, Value.int IntKind.i64 7, Value.int IntKind.i64 2] 3) k5) (HLO.out w5 hr5.lt)).mono ?_); rintro e w6 ⟨m, rfl, hm7, hr6, k6, hg6⟩; have hms : (m : Int) ≤ (s.size : Int) := (by have := HS7.out.1; omega)) | (go_at_call 80; (with_reducible refine (HP3.out _ hr6 k6).mono ?_); rintro e w7 ⟨t, rfl, ht, hr7, k7, hg7⟩; have hq7 := zed hg7 hq6 (by first | exact hglt2 | exact Nat.lt_succ_of_lt hglt2 | exact hr5.lt | exact Nat.lt_succ_of_lt hr5.lt); obtain ⟨c70, c71, f70, f71⟩ := cellsB2 hq7) | (go_at_call 80; (with_reducible refine (HP3.out _ (hr6.alloc (Obj.cells #[Value.string ⟨#[]⟩, Value.string ⟨#[]⟩] 174)) (KA.out _ (Obj.cells #[Value.string ⟨#[]⟩, Value.string ⟨#[]⟩] 174) k6)).mono ?_); rintro e w7 ⟨t, rfl, ht, hr7, k7, hg7⟩; have hq7 := zed hg7 (heap_alloc_new w6 (Obj.cells #[Value.string ⟨#[]⟩, Value.string ⟨#[]⟩] 174)) hr6.lt; obtain ⟨c70, c71, f70, f71⟩ := cellsB2 hq7) | (go_at_call 80; (with_reducible refine (HP3.out _ hr6 k6).mono ?_); rintro e w7 ⟨t, rfl, ht, hr7, k7, hg7⟩) | fail)
      all_goals
        first
        | (obtain ⟨B, W, hB, hW, HM⟩ : ∃ B W, B = _ ∧ W = _ ∧ midR 174 g (q + 5) w2 (s.extract 0 m) t B W := ⟨_, _, rfl, rfl, midR_new hr7 k7⟩
           rw [← hW, ← hB])
        | (obtain ⟨B, W, hB, hW, HM⟩ : ∃ B W, B = _ ∧ W = _ ∧ midR 174 g (q + 5) w2 (s.extract 0 m) t B W := ⟨_, _, rfl, rfl, midR_old hr7 hglt2 k7 (Nat.le_refl _) hq7⟩
           rw [← hW, ← hB])
        | (obtain ⟨B, W, hB, hW, HM⟩ : ∃ B W, B = _ ∧ W = _ ∧ midR 174 g (q + 5) w2 (s.extract 0 m) t B W := ⟨_, _, rfl, rfl, midR_old (B := w2.heap.size + 1) hr7 hglt2 k7 (Nat.le_succ _) hq7⟩
           rw [← hW, ← hB])
        | (obtain ⟨B, W, hB, hW, HM⟩ : ∃ B W, B = _ ∧ W = _ ∧ midR 174 g (q + 5) w2 (s.extract 0 m) t B W := ⟨_, _, rfl, rfl, midR_old hr7 hglt2 k7 (k5.size) hq7⟩
           rw [← hW, ← hB])
        | (obtain ⟨B, W, hB, hW, HM⟩ : ∃ B W, B = _ ∧ W = _ ∧ midR 174 g (q + 5) w2 (s.extract 0 m) t B W := ⟨_, _, rfl, rfl, midR_old (B := w5.heap.size + 1) hr7 hglt2 k7 (Nat.le_succ_of_le k5.size) hq7⟩
           rw [← hW, ← hB])
        | (obtain ⟨B, W, hB, hW, HM⟩ : ∃ B W, B = _ ∧ W = _ ∧ midR 174 g (q + 5) w2 (s.extract 0 m) t B W := ⟨_, _, rfl, rfl, midR_old hr7 hglt2 k7 (k6.size) hq7⟩
           rw [← hW, ← hB])
      all_goals
        clear hW hB
        obtain ⟨hB, hrow, hr8, k8⟩ := HM
        obtain ⟨e0, e1, _, _⟩ := cellsB2 hrow
        have hsz : (s.extract 0 m).size ≤ maxLen := by rw [ByteArray.size_extract]; have := HS7.out.1; unfold maxLen; omega
        have HOK : Hid (Fwd.ok ⟨s.extract 0 m, t⟩) := ⟨hsz, ht.1⟩
        have hrs : own 174 w.heap.size W (.slice A rs.length c) rs := ho.keepBlk fun j hj => k8.block j (ho.blk j hj).2 (by have := (ho.blk j hj).1; omega)
        have kW : kept2 g w.heap.size w W := kr.trans ⟨k8.os, k8.tape, k8.output, k8.size, fun i hi hne => k8.block i (by have := kr.size; omega) hne⟩
        have hsw := kW.size
        have HPX := Lib.hid (HS7.out.pfx m)
        have HTM := Lib.hid ht.2
        generalize s.extract 0 m = sp at *
        go_wp2_with fail
        refine (spec_l6Index _ rs sp _ hrs.rd).mono ?_
        rintro e _ ⟨rfl, rfl⟩
        have HSN := Lib.hid (drawnR.snoc HDR.out HPX.out HTM.out)
        generalize fwdI rs sp = r at *
        by_cases hr0 : r < 0
        · replace HSN := Lib.hid (HSN.out hr0)
          go_wp2_with (at_builtin; refine wpList_append1 (α := Fwd) rfl (.tmp 31) (.tmp 33) _ rfl w.heap.size 174 i0 _ 32 Tryz.underlying100 hi hz0 hzz1 hzz2 rfl (by decide) (.slice A rs.length c) rs ⟨sp, t⟩ rfl (hrs.alloc _) ⟨W.heap.size, 0, none⟩ 1 (Fwd.cells ⟨sp, t⟩) rfl ⟨HOK.out, rfl⟩ (news_at W _ (Fwd.cells ⟨sp, t⟩)) (by unfold maxLen; omega) (by omega) (by simp; omega) ?_; intro v' w9 o9 hg9 _)
          obtain ⟨hr9, k9⟩ := appendedA hr8 kW (hrs.alloc _) hg9 hlt
          clear hg9
          go_wp2_with fail
          go_roundw
          case rel => exact ⟨k - 1, _, q + 5, by omega, by go_num, by show _ ≤ _; have := HXK.out; simp; omega, HSN.out, o9, hr9, by omega, k9⟩
          case measure => simp [intOf]; omega
        · go_wp2_with fail
          go_roundw
          case rel => exact ⟨k - 1, rs, q + 5, by omega, by go_num, by show _ ≤ _; have := HXK.out; omega, HDR.out, hrs, hr8, by omega, kW⟩
          case measure => simp [intOf]; omega
    · go_wp2_with fail
      go_ret
      exact ⟨_, rs, q, rfl, ho, hxl, HDR.out, hrq, by omega, kept2.back (World.grownBy.refl w (some g)) kr (Nat.le_refl _)⟩

end Go.Proofs.YtpinkbodbedajaaGreatDoor

namespace Go.Proofs.YtpinkbodbedajaaGreatDoor
open Go.RowKit

section
variable {T1 T2 base G n c : Nat} {w w1 : World} {net : List Ofc} {os : List OfV}
theorem set_val {os : List OfV} {d : Nat} {x : OfV} (hd : d < os.length) (hx : x.val = os[d].val) (k : Nat) (hk : k < (os.set d x).length) : (os.set d x)[k].val = (os[k]'(by simpa using hk)).val := by
  rw [List.getElem_set]
  split
  · rename_i e; subst e; exact hx
  · rfl
/-- An office is called otherwise. -/
theorem isN.setName (h : isN T1 T2 base w (.slice (some ⟨G, 0, none⟩) n c) net os) {d : Nat} (hd : d < os.length) (hd' : d < net.length) {s : ByteArray} (hs : s.size ≤ maxLen) :
    isN T1 T2 base (w.setCell ⟨G, d * 2, none⟩ (.string s)) (.slice (some ⟨G, 0, none⟩) n c) (net.set d ⟨s, net[d].rules⟩) (os.set d ⟨s, os[d].val⟩) := by
  obtain ⟨h1, h2, h3, h4, h5⟩ := h
  have q := h1.setCell (k := d) (j := 0) hd (by decide) (.string s) ⟨s, os[d].val⟩ (fun ecs he => by
    obtain ⟨rfl, _, q⟩ := he
    exact ⟨rfl, hs, q⟩)
  have hv := set_val (x := ⟨s, os[d].val⟩) hd rfl
  have hG : w.grownBy (w.setCell ⟨G, d * 2, none⟩ (.string s)) (some G) := grown_setCell (World.grownBy.refl w (some G)) (.inl rfl) _
  refine ⟨q, by simp [h2], fun k hk hk' => ?_, fun j k hj hk hne => ?_, fun k hk => ?_⟩
  · have hk0 : k < os.length := by simpa using hk
    have hk0' : k < net.length := by simpa using hk'
    obtain ⟨e1, e2⟩ := h3 k hk0 hk0'
    rw [hv k hk]
    have e3 := e2.grown hG (h5 k hk0)
    by_cases hkd : k = d
    · subst hkd
      simp only [List.getElem_set_self]
      exact ⟨trivial, e3⟩
    · rw [List.getElem_set_ne (Ne.symm hkd), List.getElem_set_ne (Ne.symm hkd)]
      exact ⟨e1, e3⟩
  · rw [hv j hj, hv k hk]; exact h4 j k _ _ hne
  · rw [hv k hk]; exact h5 k _
/-- An office gets other rules. -/
theorem isN.setRules (h : isN T1 T2 base w (.slice (some ⟨G, 0, none⟩) n c) net os) {d : Nat} (hd : d < os.length) (hd' : d < net.length) {u : Value} {ys : List Fwd} (ho : own T2 base w u ys) (hf : apart u (.slice (some ⟨G, 0, none⟩) n c)) (hfs : ∀ k (hk : k < os.length), apart u os[k].val) :
    isN T1 T2 base (w.setCell ⟨G, d * 2 + 1, none⟩ u) (.slice (some ⟨G, 0, none⟩) n c) (net.set d ⟨net[d].name, ys⟩) (os.set d ⟨os[d].name, u⟩) := by
  obtain ⟨h1, h2, h3, h4, h5⟩ := h
  have hu1 : u.oneCell' = true := by
    rcases ho.form with ⟨rfl, _⟩ | ⟨g, c, rfl, _⟩ <;> rfl
  have q := h1.setCell (k := d) (j := 1) hd (by decide) u ⟨os[d].name, u⟩ (fun ecs he => by
    obtain ⟨rfl, q, _⟩ := he
    exact ⟨rfl, q, hu1⟩)
  have hG : w.grownBy (w.setCell ⟨G, d * 2 + 1, none⟩ u) (some G) := grown_setCell (World.grownBy.refl w (some G)) (.inl rfl) _
  refine ⟨q, by simp [h2], fun k hk hk' => ?_, fun j k hj hk hne => ?_, fun k hk => ?_⟩
  · have hk0 : k < os.length := by simpa using hk
    have hk0' : k < net.length := by simpa using hk'
    obtain ⟨e1, e2⟩ := h3 k hk0 hk0'
    by_cases hkd : k = d
    · subst hkd
      simp only [List.getElem_set_self]
      exact ⟨e1, ho.grown hG hf⟩
    · rw [List.getElem_set_ne (Ne.symm hkd), List.getElem_set_ne (Ne.symm hkd)]
      exact ⟨e1, e2.grown hG (h5 k hk0)⟩
  · have hj0 : j < os.length := by simpa using hj
    have hk0 : k < os.length := by simpa using hk
    by_cases hjd : j = d
    · subst hjd
      rw [List.getElem_set_self, List.getElem_set_ne hne]
      exact hfs k hk0
    · rw [List.getElem_set_ne (Ne.symm hjd)]
      by_cases hkd : k = d
      · subst hkd
        rw [List.getElem_set_self]
        exact apart_symm (hfs j hj0)
      · rw [List.getElem_set_ne (Ne.symm hkd)]
        exact h4 j k hj0 hk0 hne
  · have hk0 : k < os.length := by simpa using hk
    by_cases hkd : k = d
    · subst hkd; rw [List.getElem_set_self]; exact hf
    · rw [List.getElem_set_ne (Ne.symm hkd)]; exact h5 k hk0
/-- An office more. -/
theorem isN.snoc {v u : Value} {g m cap : Nat} {nm : ByteArray} {ys : List Fwd} (h : isN T1 T2 base w v net os) (ho : own T2 base w u ys) (hf : apart u v) (hfs : ∀ k (hk : k < os.length), apart u os[k].val)
    (hn : own T1 base w1 (.slice (some ⟨g, 0, none⟩) m cap) (os ++ [⟨nm, u⟩])) (hg : w.grownBy w1 v.ownBlock) (ha : some g = v.ownBlock ∨ g = w.heap.size) :
    isN T1 T2 base w1 (.slice (some ⟨g, 0, none⟩) m cap) (net ++ [⟨nm, ys⟩]) (os ++ [⟨nm, u⟩]) := by
  obtain ⟨h1, h2, h3, h4, h5⟩ := h
  have hfu : ∀ k (hk : k < (os ++ [(⟨nm, u⟩ : OfV)]).length), apart (os ++ [(⟨nm, u⟩ : OfV)])[k].val v := fun k hk => by
    by_cases hkv : k < os.length
    · rw [List.getElem_append_left hkv]; exact h5 k hkv
    · rw [List.getElem_append_right (by omega)]
      have : k - os.length = 0 := by simp at hk; omega
      simp only [this, List.getElem_cons_zero]; exact hf
  have hlt : ∀ k (hk : k < (os ++ [(⟨nm, u⟩ : OfV)]).length) j, (os ++ [(⟨nm, u⟩ : OfV)])[k].val.ownBlock = some j → j < w.heap.size := fun k hk j => by
    by_cases hkv : k < os.length
    · rw [List.getElem_append_left hkv]; exact fun e => ((h3 k hkv (by omega)).2.blk j e).2
    · rw [List.getElem_append_right (by omega)]
      have : k - os.length = 0 := by simp at hk; omega
      simp only [this, List.getElem_cons_zero]; exact fun e => (ho.blk j e).2
  refine ⟨hn, by simp [h2], fun k hk hk' => ?_, fun j k hj hk hne => ?_, fun k hk => ?_⟩
  · by_cases hkv : k < os.length
    · rw [List.getElem_append_left hkv, List.getElem_append_left (by omega)]
      exact ⟨(h3 k hkv (by omega)).1, (h3 k hkv (by omega)).2.grown hg (h5 k hkv)⟩
    · have e1 : k - os.length = 0 := by simp at hk; omega
      have e2 : k - net.length = 0 := by omega
      rw [List.getElem_append_right (by omega), List.getElem_append_right (by omega)]
      simp only [e1, e2, List.getElem_cons_zero]
      exact ⟨trivial, ho.grown hg hf⟩
  · by_cases hjv : j < os.length
    · by_cases hkv : k < os.length
      · rw [List.getElem_append_left hjv, List.getElem_append_left hkv]; exact h4 j k hjv hkv hne
      · have e1 : k - os.length = 0 := by simp at hk; omega
        rw [List.getElem_append_left hjv, List.getElem_append_right (by omega)]
        simp only [e1, List.getElem_cons_zero]; exact apart_symm (hfs j hjv)
    · have e1 : j - os.length = 0 := by simp at hj; omega
      by_cases hkv : k < os.length
      · rw [List.getElem_append_right (by omega), List.getElem_append_left hkv]
        simp only [e1, List.getElem_cons_zero]; exact hfs k hkv
      · exfalso; simp at hj hk; omega
  · exact apart_symm (apart_app (apart_symm (hfu k hk)) ha fun j hj => hlt k hk j hj)
end

/-- What l6BadRules gives. -/
def l6BadPost (T g p b0 : Nat) (w : World) (e : Ending) (w' : World) : Prop :=
  ∃ (v' : Value) (ys : List Fwd) (p' : Nat), e = .returned v' ∧ own T b0 w' v' ys ∧ ys.length ≤ 40 ∧ rdr w' g p' ∧ p' ≤ p + 5 ∧ kept2 g b0 w w'

set_option maxRecDepth 100000 in
set_option maxHeartbeats 1600000 in
theorem rd_l6BadRules (g p b0 : Nat) (v : Value) (xs : List Fwd) (w : World) (hr : rdr w g p) (hp : p ≤ 100000000000) (hv : own 174 b0 w v xs) (hb0 : g < b0) (hx1 : xs.length ≤ 40) :
    Calls Tryz.prog 146 #[.pointer (some ⟨g, 0, none⟩), v] w (l6BadPost 174 g p b0 w) := by
  have hlt := hr.lt
  obtain ⟨i0, hi, hz0, hz1, hz2⟩ := info_parts Tryz.infoRul
  rcases hv.form with ⟨rfl, rfl⟩ | ⟨gg, c, rfl, hg, hgl, hc, hm⟩
  · go_enter Tryz.func146, Tryz.ntmps146
    go_wp2
    go_ret
    exact ⟨_, [], p, rfl, hv, by simp, hr, by omega, kept2.refl _ _ _⟩
  · by_cases h0 : xs.length = 0
    · have hl0 : ((xs.length : Int) == 0) = true := by rw [h0]; rfl
      clear h0
      go_enter Tryz.func146, Tryz.ntmps146
      go_wp2
      go_ret
      exact ⟨_, xs, p, rfl, hv, by omega, hr, by omega, kept2.refl _ _ _⟩
    have hl0 : ((xs.length : Int) == 0) = false := beq_eq_false_iff_ne.2 (by omega)
    have hpos : 0 < xs.length := by omega
    have hposi : (0 : Int) < (xs.length : Int) := by omega
    unfold maxLen at hm
    go_enter Tryz.func146, Tryz.ntmps146
    go_wp2_with fail
    refine (rd_pick g p xs.length _ hr (by omega) (by unfold isI64; omega)).mono ?_
    rintro e w1 ⟨y, rfl, hy, hr1, hg1⟩
    obtain ⟨y0, y1⟩ := hy.2 (by omega)
    obtain ⟨k, rfl⟩ := Int.eq_ofNat_of_zero_le y0
    have ho1 := hv.grown hg1 (own_ne hv hb0)
    clear hy
    go_wp2_with fail
    refine (rd_pick g (p + 1) 40 _ hr1 (by omega) (by unfold isI64; omega)).mono ?_
    rintro e w2 ⟨x, rfl, hx, hr2, hg2⟩
    have ho2 := ho1.grown hg2 (own_ne ho1 hb0)
    clear hx
    have hbw : b0 ≤ w.heap.size := by omega
    have hz1' := hg1.size
    have hzw := hg2.size
    have hB2 : kept2 g b0 w w2 := (kept2.grown hg1 hbw).step hg2 hbw
    have hz2' := hr2.lt
    have hklt : k < xs.length := by omega
    clear hg1 hg2 ho1
    by_cases c0 : x = 0
    · have d0 : (x == 0) = true := by simp [c0]
      clear c0
      obtain ⟨⟨hi1, hi2⟩, c1, _⟩ := own_fwd ho2 0 hpos
      rw [Nat.zero_mul] at c1
      obtain ⟨s0, hs0⟩ : ∃ s0, s0 = xs[0].src := ⟨_, rfl⟩
      rw [← hs0] at hi1 c1
      clear hi2 hs0
      go_wp2_with fail
      refine (rd_of 9 g (p + 1 + 1) _ [⟨#[120]⟩, ⟨#[49, 50, 48, 48, 49, 48, 49, 49]⟩, s0] _ (hr2.alloc _) (by omega) (list_str 9 (g + 1) w2 [⟨#[120]⟩, ⟨#[49, 50, 48, 48, 49, 48, 49, 49]⟩, s0] (by intro x hx; simp at hx; rcases hx with rfl | rfl | rfl; decide; decide; exact hi1) (by show 3 ≤ maxLen; decide) (by omega)) (by show 0 < 3; decide)).mono ?_
      rintro e w3 ⟨t, _, rfl, ht, hr3, hg3⟩
      replace hg3 := grown_trans (World.grownBy_alloc w2 _ _) hg3
      have ho3 := ho2.grown hg3 (own_ne ho2 hb0)
      obtain ⟨u1, g1⟩ := ho3.cellAt (j := k * 2) (by show _ < _ * 2; omega)
      have f1 := ho3.freeAt (k * 2)
      have HO := Lib.hid (ho3.setCell (k := k) (j := 0) hklt (by decide) (.string t) ⟨t, xs[k].dst⟩ (fun ecs he => by
        obtain ⟨⟨_, h2⟩, rfl⟩ := he
        exact ⟨⟨ht, h2⟩, rfl⟩))
      have HR : Hid (rdr (w3.setCell ⟨gg, k * 2, none⟩ (.string t)) g (p + 1 + 1 + 1)) := hr3.grown (g' := gg) (grown_setCell (World.grownBy.refl _ _) (.inl rfl) _) (Nat.lt_of_lt_of_le hb0 hg)
      have HB : Hid (kept2 g b0 w (w3.setCell ⟨gg, k * 2, none⟩ (.string t))) := (hB2.step hg3 hbw).trans (kept2.below ((Below.refl _ _).setCell (p := ⟨gg, k * 2, none⟩) hg _))
      clear ho3 ht hg3
      go_wp2_with fail
      go_ret
      exact ⟨_, _, _, rfl, HO.out, by simp; omega, HR.out, by omega, HB.out⟩
    have d0 : (x == 0) = false := by simp [c0]
    by_cases c1 : x = 1
    · have d1 : (x == 1) = true := by simp [c1]
      clear c1 c0
      go_wp2_with fail
      refine (rd_of 9 g (p + 1 + 1) _ [⟨#[]⟩, ⟨#[65]⟩, ⟨#[97, 98, 99, 100, 101, 102, 103, 104, 105]⟩] _ (hr2.alloc _) (by omega) (list_str 9 (g + 1) w2 [⟨#[]⟩, ⟨#[65]⟩, ⟨#[97, 98, 99, 100, 101, 102, 103, 104, 105]⟩] (by intro x hx; simp at hx; rcases hx with rfl | rfl | rfl <;> decide) (by decide) (by omega)) (by decide)).mono ?_
      rintro e w3 ⟨t, _, rfl, ht, hr3, hg3⟩
      replace hg3 := grown_trans (World.grownBy_alloc w2 _ _) hg3
      have ho3 := ho2.grown hg3 (own_ne ho2 hb0)
      obtain ⟨u1, g1⟩ := ho3.cellAt (j := k * 2 + 1) (by show _ < _ * 2; omega)
      have f1 := ho3.freeAt (k * 2 + 1)
      have HO := Lib.hid (ho3.setCell (k := k) (j := 1) hklt (by decide) (.string t) ⟨xs[k].src, t⟩ (fun ecs he => by
        obtain ⟨⟨h1, _⟩, rfl⟩ := he
        exact ⟨⟨h1, ht⟩, rfl⟩))
      have HR : Hid (rdr (w3.setCell ⟨gg, k * 2 + 1, none⟩ (.string t)) g (p + 1 + 1 + 1)) := hr3.grown (g' := gg) (grown_setCell (World.grownBy.refl _ _) (.inl rfl) _) (Nat.lt_of_lt_of_le hb0 hg)
      have HB : Hid (kept2 g b0 w (w3.setCell ⟨gg, k * 2 + 1, none⟩ (.string t))) := (hB2.step hg3 hbw).trans (kept2.below ((Below.refl _ _).setCell (p := ⟨gg, k * 2 + 1, none⟩) hg _))
      clear ho3 ht hg3
      go_wp2_with fail
      go_ret
      exact ⟨_, _, _, rfl, HO.out, by simp; omega, HR.out, by omega, HB.out⟩
    have d1 : (x == 1) = false := by simp [c1]
    by_cases c2 : x = 2
    · have d2 : (x == 2) = true := by simp [c2]
      clear c2 c1 c0
      go_wp2_with fail
      have HO2 := Lib.hid ho2; clear ho2
      go_loopw [1] (fun t wr => ∃ (ys : List Fwd), own 174 b0 wr t ys ∧ ys.length ≤ 40 ∧ rdr wr g (p + 1 + 1) ∧ kept2 g b0 w wr) (fun t wr => match t with | .slice _ n _ => 21 - n | _ => 0)
      case atStart => exact ⟨xs, HO2.out, by omega, hr2, hB2⟩
      case round =>
        obtain ⟨ys, ho, hy, hrr, hB⟩ := hrel
        obtain ⟨w3, rfl⟩ : ∃ w3 : World, w3 = wr := ⟨_, rfl⟩
        clear hr2 hB2
        obtain ⟨A, m, c', hv', hm', _, _, _⟩ := ho.rd
        subst hm' hv'
        have hlt3 := hrr.lt
        by_cases h61 : ys.length < 21
        · go_wp2_with fail
          refine (spec_l1Show ys.length 3 _ (by omega) (by omega)).mono ?_
          rintro e w5 ⟨rfl, b5⟩
          have hs := showB_size ys.length 3
          generalize showB ys.length 3 = s at *
          have ho5 := ho.below b5
          have hr5 := hrr.below b5
          have hB5 := hB.trans (kept2.below (b5.mono (by have := hB.size; omega) : Below b0 w3 w5))
          have hb3 : b0 ≤ w5.heap.size := by have := hB5.size; omega
          have HOK : Hid (Fwd.ok ⟨s, ⟨#[97]⟩⟩) := ⟨by show s.size ≤ maxLen; rw [hs]; decide, by show 1 ≤ maxLen; decide⟩
          clear hs b5 ho hrr hB
          go_wp2_with (at_builtin; refine wpList_append1 (α := Fwd) rfl (.tmp 43) (.tmp 48) _ rfl b0 174 i0 _ 32 Tryz.underlying100 hi hz0 hz1 hz2 rfl (by decide) (.slice A ys.length c') ys ⟨s, ⟨#[97]⟩⟩ rfl (ho5.alloc _) ⟨w5.heap.size, 0, none⟩ 1 (Fwd.cells ⟨s, ⟨#[97]⟩⟩) rfl ⟨HOK.out, rfl⟩ (news_at w5 _ (Fwd.cells ⟨s, ⟨#[97]⟩⟩)) (by unfold maxLen; omega) (by omega) (by simp; omega) ?_; intro v' w4 ho4 hg4 ha4)
          have hr4 : rdr w4 g (p + 1 + 1) := (hr5.alloc _).append (ho5.alloc _) hg4 hb0
          have hB4 : kept2 g b0 w w4 := (hB5.trans (kept2.below ((Below.refl _ _).alloc hb3 _))).trans (kept2.below (below_append (ho5.alloc _) hg4 (by simp; omega)))
          clear hg4 ha4
          obtain ⟨A4, m4, c4, hv4, hm4, _, _, _⟩ := ho4.rd
          subst hm4 hv4
          go_wp2_with fail
          go_roundw
          case rel => exact ⟨_, ho4, by simp; omega, hr4, hB4⟩
          case measure => simp; omega
        · go_wp2_with fail
          go_ret
          exact ⟨_, ys, _, rfl, ho, hy, hrr, by omega, hB⟩
    have d2 : (x == 2) = false := by simp [c2]
    clear c0 c1 c2
    go_wp2_with fail
    go_ret
    exact ⟨_, xs, _, rfl, ho2, by omega, hr2, by omega, hB2⟩

end Go.Proofs.YtpinkbodbedajaaGreatDoor

namespace Go.Proofs.YtpinkbodbedajaaGreatDoor
open Go.RowKit

def szO (o : Ofc) : Nat := o.name.size + (o.rules.length + sumFw o.rules)
def sumO (net : List Ofc) : Nat := (net.map szO).sum
def szN (net : List Ofc) : Nat := net.length + sumO net
theorem sumO_succ (net : List Ofc) (k : Nat) (h : k < net.length) : sumO (net.take (k + 1)) = sumO (net.take k) + szO net[k] := by
  unfold sumO; rw [List.take_succ_eq_append_getElem h, List.map_append, List.sum_append]; simp
theorem sumO_le (net : List Ofc) (k : Nat) : sumO (net.take k) ≤ sumO net := by
  unfold sumO
  conv => rhs; rw [← List.take_append_drop k net, List.map_append, List.sum_append]
  omega
theorem ofc_le_szN {net : List Ofc} {k : Nat} (h : k < net.length) : szO net[k] ≤ szN net := by
  have h1 := sumO_succ net k h
  have h2 := sumO_le net (k + 1)
  unfold szN; omega




theorem Tryz.infoOfc : (Tryz.prog.info? 102).map (fun i => (i.zero, i.size, i.bytes)) = some (some (.agg #[.string ⟨#[]⟩, .slice none 0 0]), 2, 40) := by kernel_rfl




end Go.Proofs.YtpinkbodbedajaaGreatDoor
