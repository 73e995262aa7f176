/- KM KN JL -/
import Derived.Test.YtpinkbodbedajaaGreatDoorQ19
import Derived.Test.YtpinkbodbedajaaGreatDoorQ11
import Derived.Test.YtpinkbodbedajaaGreatDoorQ14
import Derived.Test.YtpinkbodbedajaaGreatDoorQ16
import Derived.LaidLaws
import Derived.LaidOnce
import Derived.Lib.LaidTab
namespace Go.Proofs.YtpinkbodbedajaaGreatDoor
open Go.RowKit

set_option maxRecDepth 100000 in
set_option maxHeartbeats 1000000 in
theorem rd_l2BadC (g p b0 : Nat) (v : Value) (xs : List Ltr) (w : World) (hr : rdr w g p) (hp : p ≤ 100000000000) (hv : own 89 b0 w v xs) (hb0 : g < b0) (hx1 : xs.length ≤ 14) (hx2 : ∀ x ∈ xs, x.code.size = 7) :
    Calls Tryz.prog 45 #[.pointer (some ⟨g, 0, none⟩), v] w fun e w' => ∃ (v' : Value) (ys : List Ltr) (p' : Nat), e = .returned v' ∧ own 89 b0 w' v' ys ∧ (ys.length ≤ 14 ∨ ys.length = 61) ∧ rdr w' g p' ∧ p' ≤ p + 5 ∧ kept2 g b0 w w' ∧ keptS (fun k => k = g ∨ v.ownBlock = some k) w w' := by
  have hlt := hr.lt
  obtain ⟨i0, hi, hz0, hz1, hz2⟩ := info_parts Tryz.infoLtr
  rcases hv.form with ⟨rfl, rfl⟩ | ⟨gg, c, rfl, hg, hgl, hc, hm⟩
  · go_enter Tryz.func45, Tryz.ntmps45
    go_wp2
    go_ret
    exact ⟨_, [], p, rfl, hv, .inl (by simp), hr, by omega, kept2.refl _ _ _, keptS.refl _ _⟩
  · by_cases h0 : xs.length = 0
    · have hl0 : ((xs.length : Int) == 0) = true := by rw [h0]; rfl
      clear h0
      go_enter Tryz.func45, Tryz.ntmps45
      go_wp2
      go_ret
      exact ⟨_, xs, p, rfl, hv, .inl (by omega), hr, by omega, kept2.refl _ _ _, keptS.refl _ _⟩
    have hl0 : ((xs.length : Int) == 0) = false := beq_eq_false_iff_ne.2 (by omega)
    have hpos : 0 < xs.length := by omega
    unfold maxLen at hm
    go_enter Tryz.func45, Tryz.ntmps45
    go_wp2_with fail
    refine (rd_pick g p xs.length _ hr (by omega) ⟨by omega, by omega⟩).mono ?_
    rintro e w1 ⟨x, rfl, hx, hr1, hg1⟩
    obtain ⟨y0, y1⟩ := hx.2 (by omega)
    obtain ⟨k, rfl⟩ := Int.eq_ofNat_of_zero_le y0
    have ho1 := hv.grown hg1 (own_ne hv hb0)
    clear hx
    go_wp2_with fail
    refine (rd_pick g (p + 1) 40 _ hr1 (by omega) (by unfold isI64; omega)).mono ?_
    rintro e w2 ⟨x, rfl, hx, hr2, hg2⟩
    have ho2 := ho1.grown hg2 (own_ne ho1 hb0)
    replace hg2 := grown_trans hg1 hg2
    clear hx hg1
    have hbw : b0 ≤ w.heap.size := by omega
    have hzw := hg2.size
    have hB2 : kept2 g b0 w w2 := kept2.grown hg2 hbw
    have hz2' := hr2.lt
    have HS2 : keptS (fun k => k = g ∨ (Value.slice (some ⟨gg, 0, none⟩) xs.length c).ownBlock = some k) w w2 := (keptS.refl _ _).next hg2 fun r e => .inl (.inl (by injection e with e; exact e.symm))
    by_cases c0 : x = 0
    · have d0 : (x == 0) = true := by simp [c0]
      clear c0
      obtain ⟨⟨hi1, hi2⟩, c1, c2⟩ := own_ltr ho2 k (by omega)
      have hcs := hx2 xs[k] (List.getElem_mem _)
      have hcs' : xs[k].code.size ≤ 7 := by omega
      have HCS := Lib.hid hcs; clear hcs
      generalize hxk : xs[k] = z at *
      have HXK := Lib.hid hxk; clear hxk
      go_wp2_with fail
      refine (rd_l1Bad g (p + 1 + 1) _ _ hr2 (by omega) (by rw [ByteArray.size_append]; show 1 ≤ _ + 1; omega) (by rw [ByteArray.size_append]; show _ + 1 ≤ _; omega)).mono ?_
      rintro e w3 ⟨t, rfl, ht, hr3, hg3⟩
      have ht' : t.size ≤ maxLen := by
        rw [ByteArray.size_append] at ht
        have : t.size ≤ z.code.size + 1 + 1 := ht
        unfold maxLen; omega
      have ho3 := ho2.grown hg3 (own_ne ho2 hb0)
      obtain ⟨u1, g1⟩ := ho3.cellAt (j := k * 2 + 1) (by show _ < _ * 2; omega)
      have f1 := ho3.freeAt (k * 2 + 1)
      have HO := Lib.hid (ho3.setCell (k := k) (j := 1) (by omega) (by decide) (.string t) ⟨z.id, t⟩ (fun ecs he => by
        obtain ⟨_, rfl⟩ := he
        refine ⟨⟨hi1, ht'⟩, ?_⟩
        rw [HXK.out]
        rfl))
      have HR : Hid (rdr (w3.setCell ⟨gg, k * 2 + 1, none⟩ (.string t)) g (p + 1 + 1 + 1)) := hr3.grown (g' := gg) (grown_setCell (World.grownBy.refl _ _) (.inl rfl) _) (Nat.lt_of_lt_of_le hb0 hg)
      have HB : Hid (kept2 g b0 w (w3.setCell ⟨gg, k * 2 + 1, none⟩ (.string t))) := (hB2.trans (kept2.grown hg3 (by omega))).trans (kept2.below ((Below.refl _ _).setCell (p := ⟨gg, k * 2 + 1, none⟩) hg _))
      have HS3 := (HS2.next hg3 fun r e => .inl (.inl (by injection e with e; exact e.symm))).set ⟨gg, k * 2 + 1, none⟩ (.inl (.inr rfl)) (.string t)
      clear ho3 ht HS2
      go_wp2_with fail
      go_ret
      exact ⟨_, _, _, rfl, HO.out, .inl (by simp; omega), HR.out, by omega, HB.out, HS3⟩
    have d0 : (x == 0) = false := by simp [c0]
    by_cases c1 : x = 1
    · have d1 : (x == 1) = true := by simp [c1]
      clear c1 c0
      obtain ⟨⟨hi1, hi2⟩, c1, _⟩ := own_ltr ho2 0 hpos
      rw [Nat.zero_mul] at c1
      generalize xs[0].id = i at *
      go_wp2_with fail
      have hB3 := hB2
      refine (rd_num 3 g (p + 1 + 1) _ [0, 10000, 9999, -1, i] _ (hr2.alloc _) (by omega) (list_own 3 (g + 1) w2 [0, 10000, 9999, -1, i] (by
        intro y hy
        simp at hy
        rcases hy with rfl | rfl | rfl | rfl | rfl
        · simp [isI64]
        · simp [isI64]
        · simp [isI64]
        · simp [isI64]
        · exact hi1) (by show 5 ≤ maxLen; decide) (by omega)) (by show 0 < 5; decide)).mono ?_
      rintro e w3 ⟨y, hy, rfl, hr3, hg3⟩
      have hyi : isI64 y := by
        simp at hy
        rcases hy with rfl | rfl | rfl | rfl | rfl
        · simp [isI64]
        · simp [isI64]
        · simp [isI64]
        · simp [isI64]
        · exact hi1
      clear hy
      have ho2' := ho2.alloc (Obj.cells ([0, 10000, 9999, -1, i].map (Value.int IntKind.i64)).toArray 3)
      have ho3 := ho2'.grown hg3 (own_ne ho2' hb0)
      obtain ⟨u1, g1⟩ := ho3.cellAt (j := k * 2) (by show _ < _ * 2; omega)
      have f1 := ho3.freeAt (k * 2)
      have HO := Lib.hid (ho3.setCell (k := k) (j := 0) (by omega) (by decide) (.int .i64 y) ⟨y, xs[k].code⟩ (fun ecs he => by
        obtain ⟨⟨_, hh⟩, rfl⟩ := he
        exact ⟨⟨hyi, hh⟩, rfl⟩))
      have HR : Hid (rdr (w3.setCell ⟨gg, k * 2, none⟩ (.int .i64 y)) g (p + 1 + 1 + 1)) := hr3.grown (g' := gg) (grown_setCell (World.grownBy.refl _ _) (.inl rfl) _) (Nat.lt_of_lt_of_le hb0 hg)
      have HB : Hid (kept2 g b0 w (w3.setCell ⟨gg, k * 2, none⟩ (.int .i64 y))) := ((hB2.trans (kept2.below ((Below.refl _ _).alloc (by omega) _))).trans (kept2.grown hg3 (by simp; omega))).trans (kept2.below ((Below.refl _ _).setCell (p := ⟨gg, k * 2, none⟩) hg _))
      have HS3 := ((HS2.alloc _).next hg3 fun r e => .inl (.inl (by injection e with e; exact e.symm))).set ⟨gg, k * 2, none⟩ (.inl (.inr rfl)) (.int .i64 y)
      clear ho3 ho2' hg3 HS2
      go_wp2_with fail
      go_ret
      exact ⟨_, _, _, rfl, HO.out, .inl (by simp; omega), HR.out, by omega, HB.out, HS3⟩
    have d1 : (x == 1) = false := by simp [c1]
    by_cases c2 : x = 2
    · have d2 : (x == 2) = true := by simp [c2]
      clear c2 c1 c0
      go_wp2_with fail
      have HO2 := Lib.hid ho2; clear ho2
      go_loopw [1] (fun t wr => ∃ (ys : List Ltr), own 89 b0 wr t ys ∧ ys.length ≤ 61 ∧ rdr wr g (p + 1 + 1) ∧ kept2 g b0 w wr ∧ keptS (fun k => k = g ∨ (Value.slice (some ⟨gg, 0, none⟩) xs.length c).ownBlock = some k) w wr ∧ Hid (∀ r, t.ownBlock = some r → r = gg ∨ w.heap.size ≤ r)) (fun t wr => match t with | .slice _ n _ => 61 - n | _ => 0)
      case atStart => exact ⟨xs, HO2.out, by omega, hr2, hB2, HS2, fun r e => .inl (by injection e with e; exact e.symm)⟩
      case round =>
        obtain ⟨ys, ho, hy, hrr, hB, hS, HT⟩ := hrel
        obtain ⟨w3, rfl⟩ : ∃ w3 : World, w3 = wr := ⟨_, rfl⟩
        clear hr2 hB2 HS2
        obtain ⟨A, m, c', hv', hm', _, _, _⟩ := ho.rd
        subst hm' hv'
        have hlt3 := hrr.lt
        by_cases h61 : ys.length < 61
        · have hb3 : b0 ≤ w3.heap.size := by have := hB.size; omega
          go_wp2_with (at_builtin; refine wpList_append1 (α := Ltr) rfl (.tmp 48) (.tmp 53) _ rfl b0 89 i0 _ 24 Tryz.underlying29 hi hz0 hz1 hz2 rfl (by decide) (.slice A ys.length c') ys ⟨1000 + ys.length, ⟨#[49, 50, 48, 48, 49, 48, 49]⟩⟩ rfl (ho.alloc _) ⟨w3.heap.size, 0, none⟩ 1 (Ltr.cells ⟨1000 + ys.length, ⟨#[49, 50, 48, 48, 49, 48, 49]⟩⟩) rfl ⟨⟨⟨by show _ ≤ 1000 + (ys.length : Int); omega, by show 1000 + (ys.length : Int) ≤ _; omega⟩, by show 7 ≤ maxLen; decide⟩, rfl⟩ (news_at w3 _ (Ltr.cells ⟨1000 + ys.length, ⟨#[49, 50, 48, 48, 49, 48, 49]⟩⟩)) (by unfold maxLen; omega) (by omega) (by simp; omega) ?_; intro v' w4 ho4 hg4 ha4)
          have hr4 : rdr w4 g (p + 1 + 1) := (hrr.alloc _).append (ho.alloc _) hg4 hb0
          have hB4 : kept2 g b0 w w4 := (hB.trans (kept2.below ((Below.refl _ _).alloc hb3 _))).trans (kept2.below (below_append (ho.alloc _) hg4 (by simp; omega)))
          have hS4 := (hS.alloc (Obj.cells (Ltr.cells ⟨1000 + ys.length, ⟨#[49, 50, 48, 48, 49, 48, 49]⟩⟩).toArray 89)).next hg4 fun r e => by
            rcases HT.out r e with h | h
            · exact .inl (.inr (by rw [h]; rfl))
            · exact .inr h
          have HT4 : Hid (∀ r, v'.ownBlock = some r → r = gg ∨ w.heap.size ≤ r) := fun r e => by
            rcases ha4 with h | h
            · exact HT.out r (h.symm.trans e)
            · right
              rw [h] at e
              injection e with e
              have hzz := hB.size
              simp at e
              omega
          clear hg4 ha4
          obtain ⟨A4, m4, c4, hv4, hm4, _, _, _⟩ := ho4.rd
          subst hm4 hv4
          go_wp2_with fail
          go_roundw
          case rel => exact ⟨_, ho4, by simp; omega, hr4, hB4, hS4, HT4⟩
          case measure => simp; omega
        · go_wp2_with fail
          go_ret
          exact ⟨_, ys, _, rfl, ho, .inr (by omega), hrr, by omega, hB, hS⟩
    have d2 : (x == 2) = false := by simp [c2]
    clear c0 c1 c2
    go_wp2_with fail
    go_ret
    exact ⟨_, xs, _, rfl, ho2, .inl (by omega), hr2, by omega, hB2, HS2⟩

def draw3PostC (T1 T2 : Nat) (w : World) (e : Ending) (w' : World) : Prop :=
  ∃ (v vb : Value) (x : Pln) (xs : List Ltr) (k : Int), e = .returned (.tuple #[v, vb, .int .i64 k]) ∧ ownP T1 w.heap.size w' v x ∧ own T2 w.heap.size w' vb xs ∧ isI64 k ∧ (xs.length ≤ 14 ∨ xs.length = 61) ∧ x.order.length ≤ 101 ∧ Below w.heap.size w w'
theorem draw3PostC_of {T T1 T2 h B : _} {u0 u1 u2 : Value} {w W : World} {v vb a b d : Value} {x : Pln} {xs : List Ltr} {k : Int} (hh : w.heap.size ≤ h) (hbase : h < B) (hv : ownP T1 B W v x) (hvb : own T2 B W vb xs)
    (hk : isI64 k) (h1 : (xs.length ≤ 14 ∨ xs.length = 61)) (h3 : x.order.length ≤ 101) (hG : Below w.heap.size w W) (he : v = .agg #[a, b, d]) (_ : W.heap[h]? = some (.cells #[u0, u1, u2] T (0, 0))) :
    draw3PostC T1 T2 w (.returned (.tuple #[.agg #[a, b, d], vb, .int .i64 k])) (((W.setCell ⟨h, 0, none⟩ a).setCell ⟨h, 1, none⟩ b).setCell ⟨h, 2, none⟩ d) := by
  have HG := grown_setCell (p := ⟨h, 2, none⟩) (grown_setCell (p := ⟨h, 1, none⟩) (grown_setCell (p := ⟨h, 0, none⟩) (World.grownBy.refl W (some h)) (.inl rfl) a) (.inl rfl) b) (.inl rfl) d
  have HS := ((hG.setCell (p := ⟨h, 0, none⟩) hh a).setCell (p := ⟨h, 1, none⟩) hh b).setCell (p := ⟨h, 2, none⟩) hh d
  rw [← he]
  exact ⟨v, vb, x, xs, k, rfl, (hv.grown HG (fun r e => by injection e with e; omega)).base_ (by omega), (hvb.grown HG (own_ne hvb hbase)).base_ (by omega), hk, h1, h3, HS⟩
/-- Drawn: a plan, letters. -/
def draw2BPostC (T1 T2 : Nat) (w : World) (e : Ending) (w' : World) : Prop :=
  ∃ (v vb : Value) (x : Pln) (xs : List Ltr), e = .returned (.tuple #[v, vb]) ∧ ownP T1 w.heap.size w' v x ∧ own T2 w.heap.size w' vb xs ∧ (xs.length ≤ 14 ∨ xs.length = 61) ∧ x.order.length ≤ 101 ∧ Below w.heap.size w w'
theorem draw2BPostC_of {T T1 T2 h B : _} {u0 u1 u2 : Value} {w W : World} {v vb a b d : Value} {x : Pln} {xs : List Ltr} (hh : w.heap.size ≤ h) (hbase : h < B) (hv : ownP T1 B W v x) (hvb : own T2 B W vb xs)
    (h1 : (xs.length ≤ 14 ∨ xs.length = 61)) (h3 : x.order.length ≤ 101) (hG : Below w.heap.size w W) (he : v = .agg #[a, b, d]) (_ : W.heap[h]? = some (.cells #[u0, u1, u2] T (0, 0))) :
    draw2BPostC T1 T2 w (.returned (.tuple #[.agg #[a, b, d], vb])) (((W.setCell ⟨h, 0, none⟩ a).setCell ⟨h, 1, none⟩ b).setCell ⟨h, 2, none⟩ d) := by
  have HG := grown_setCell (p := ⟨h, 2, none⟩) (grown_setCell (p := ⟨h, 1, none⟩) (grown_setCell (p := ⟨h, 0, none⟩) (World.grownBy.refl W (some h)) (.inl rfl) a) (.inl rfl) b) (.inl rfl) d
  have HS := ((hG.setCell (p := ⟨h, 0, none⟩) hh a).setCell (p := ⟨h, 1, none⟩) hh b).setCell (p := ⟨h, 2, none⟩) hh d
  rw [← he]
  exact ⟨v, vb, x, xs, rfl, (hv.grown HG (fun r e => by injection e with e; omega)).base_ (by omega), (hvb.grown HG (own_ne hvb hbase)).base_ (by omega), h1, h3, HS⟩

set_option maxRecDepth 100000 in
set_option maxHeartbeats 1000000 in
theorem draw_DrawPlanPassC (v : Value) (bs : List UInt8) (w : World) (hv : rd w w.heap.size v bs) :
    Calls Tryz.prog 92 #[v] w (draw3PostC 9 89 w) := by
  obtain ⟨w00, hw00⟩ : ∃ u, u = w.alloc (Obj.cells #[.int .i64 0, .int .i64 0, .slice none 0 0] 25) := ⟨_, rfl⟩
  have hB00 : Below w.heap.size w w00 := by rw [hw00]; exact (Below.refl _ _).alloc (Nat.le_refl _) _
  have hz00 : w00.heap.size = w.heap.size + 1 := by rw [hw00]; simp
  have hb00 : w00.heap[w.heap.size]? = some (.cells #[.int .i64 0, .int .i64 0, .slice none 0 0] 25 (0, 0)) := by rw [hw00]; exact heap_alloc_new w _
  have hvA := hv.on hB00
  have HW00 := Lib.hid hw00; clear hw00
  go_enter Tryz.func92, Tryz.ntmps92
  go_wp2_with fail
  rw [← HW00.out]
  refine (rd_open _ bs _ hvA).mono ?_
  rintro e wA ⟨g, rfl, hg, hrA, b1⟩
  have hlt := hrA.lt
  have hbA := (b1.block w.heap.size (by omega)).trans hb00
  have hBA : Below w.heap.size w wA := hB00.trans (b1.mono (by omega))
  have hzA := b1.size
  obtain ⟨p, hp0⟩ : ∃ p : Nat, p = 0 := ⟨_, rfl⟩
  rw [← hp0] at hrA
  have hp : p ≤ 1000000000 := by omega
  have hwg : w.heap.size < g := by omega
  clear hvA hv hB00 b1 hb00
  go_wp2_with fail
  refine (rd_l3Some g p _ hrA (by omega)).mono ?_
  rintro e w1 ⟨v, x, p1, rfl, ov, hd, hr1, hp1, hg1⟩
  have HD := Lib.hid hd
  obtain ⟨hd1, hd2, hd3, hd4, hd5, hd6, _⟩ := hd
  have OV1 := Lib.hid ov
  obtain ⟨vo, rfl, i1, i2, hvo⟩ := ov
  obtain ⟨Ao, no, co, hvo2, hno, _, _, _⟩ := hvo.rd
  subst hno hvo2
  clear hvo
  obtain ⟨wB, hwB⟩ : ∃ u, u = w1.alloc (Obj.cells #[.int .i64 x.bins, .int .i64 x.passes, .slice Ao x.order.length co] 25) := ⟨_, rfl⟩
  have hBB : Below w1.heap.size w1 wB := by rw [hwB]; exact (Below.refl _ _).alloc (Nat.le_refl _) _
  have hrB : rdr wB g p1 := by rw [hwB]; exact hr1.alloc _
  have hzB : wB.heap.size = w1.heap.size + 1 := by rw [hwB]; simp
  have hbB : wB.heap[w1.heap.size]? = some (.cells #[.int .i64 x.bins, .int .i64 x.passes, .slice Ao x.order.length co] 25 (0, 0)) := by rw [hwB]; exact heap_alloc_new w1 _
  have hgB : wA.grownBy wB (some g) := grown_below hg1 hBB
  have hz1 := hg1.size
  have OVB : Hid (ownP 9 wA.heap.size wB (.agg #[.int .i64 x.bins, .int .i64 x.passes, .slice Ao x.order.length co]) x) := OV1.out.grown (grown_below (World.grownBy.refl w1 (some g)) hBB) (fun r e => by injection e with e; omega)
  have HAB : Hid (∀ W, wB.grownBy W (some g) → W.heap[w.heap.size]? = some (.cells #[.int .i64 0, .int .i64 0, .slice none 0 0] 25 (0, 0))) := fun W hg => ((hg.block w.heap.size (by omega) (fun e => by injection e; omega)).trans (hgB.block w.heap.size (by omega) (fun e => by injection e; omega))).trans hbA
  have HBB : Hid (∀ W, wB.grownBy W (some g) → W.heap[w1.heap.size]? = some (.cells #[.int .i64 x.bins, .int .i64 x.passes, .slice Ao x.order.length co] 25 (0, 0))) := fun W hg => (hg.block w1.heap.size (by omega) (fun e => by injection e; omega)).trans hbB
  have HVL : Hid (∀ k, planBlk (.agg #[.int .i64 x.bins, .int .i64 x.passes, .slice Ao x.order.length co]) k → k < w1.heap.size) := fun k hk => (planBlk_own OV1.out k hk).2
  have HWB := Lib.hid hwB
  clear hwB hBB hbB hbA hr1 hg1 hrA
  go_wp2_with fail
  rw [← HWB.out]
  refine (rd_l3Mail g p1 wA.heap.size _ x _ hrB (by omega) OVB.out (by omega) HD.out).mono ?_
  rintro e w2 ⟨vb, xs, p2, rfl, ob, hxl, hx7, hr2, hp2, hg2⟩
  have OB2 := Lib.hid ob
  have HX7 := Lib.hid hx7
  clear ob hx7 hrB
  obtain ⟨c0, c1, c2, _, _, _⟩ := cells3 (HBB.out w2 hg2)
  have hbl := OB2.out.rd
  obtain ⟨Ab, nb, cb, hvb, hnb, _, _, _⟩ := hbl
  subst hnb hvb
  go_wp2_with fail
  refine (rd_pick g p2 x.passes _ hr2 (by omega) i2).mono ?_
  rintro e w3 ⟨y, rfl, hy, hr3, hg3⟩
  obtain ⟨y0, y1⟩ := hy.2 (by omega)
  clear hy hr2
  have hgB3 := grown_trans hg2 hg3
  have OB3 := Lib.hid (OB2.out.grown hg3 (own_ne OB2.out (by omega)))
  go_wp2_with fail
  refine (rd_pick g (p2 + 1) 16 _ hr3 (by omega) (by unfold isI64; omega)).mono ?_
  rintro e w4 ⟨z, rfl, hz, hr4, hg4⟩
  clear hz hr3
  have hgB4 := grown_trans hgB3 hg4
  have OB4 := Lib.hid (OB3.out.grown hg4 (own_ne OB3.out (by omega)))
  clear c0 c1 c2 hg2 hg3 hg4 hgB3 OB2 OB3
  obtain ⟨c0, c1, c2, _, _, _⟩ := cells3 (HBB.out w4 hgB4)
  by_cases hz0 : z = 0
  rotate_left
  have d0 : (z == 0) = false := by simp [hz0]
  clear hz0
  obtain ⟨K, rfl⟩ : ∃ K : Int, K = y := ⟨_, rfl⟩
  obtain ⟨W, rfl⟩ : ∃ W : World, W = w4 := ⟨_, rfl⟩
  obtain ⟨q, hq⟩ : ∃ q : Nat, q = p2 + 1 + 1 := ⟨_, rfl⟩
  have hKi : isI64 K := by unfold isI64; omega
  rw [← hq] at hr4
  rotate_left
  have d0 : (z == 0) = true := by simp [hz0]
  clear hz0
  have hlt4 := hr4.lt
  go_wp2_with fail
  refine (rd_num 3 g (p2 + 1 + 1) _ [-1, x.passes, 9223372036854775807] _ (hr4.alloc _) (by omega) (list_own 3 (g + 1) w4 [-1, x.passes, 9223372036854775807] (by simp [isI64]; omega) (by unfold maxLen; simp) (by omega)) (by simp)).mono ?_
  rintro e W ⟨K, hK, rfl, hr5, hg5⟩
  have hKi : isI64 K := by
    simp at hK
    unfold isI64
    omega
  replace hg5 : w4.grownBy W (some g) := grown_trans (World.grownBy_alloc w4 _ _) hg5
  replace OB4 := Lib.hid (OB4.out.grown hg5 (own_ne OB4.out (by omega)))
  replace hgB4 := grown_trans hgB4 hg5
  clear hr4 hK hg5
  have hr4 := hr5
  clear hr5
  obtain ⟨q, hq⟩ : ∃ q : Nat, q = p2 + 1 + 1 + 1 := ⟨_, rfl⟩
  rw [← hq] at hr4
  clear c0 c1 c2
  obtain ⟨c0, c1, c2, _, _, _⟩ := cells3 (HBB.out W hgB4)
  all_goals
    have hgBz := hgB4.size
    have OVW := Lib.hid (OVB.out.grown hgB4 (fun r e => by injection e with e; omega))
    have hrW := hr4
    have OV7 := OVW
    have OB7 := OB4
    have OBW := OB4
    have hgB7 := hgB4
    clear hr4 hgB4 OB4 OVW
    go_wp2_with fail
    refine (rd_l3Bad g q wA.heap.size _ x _ hrW (by omega) OV7.out (by omega) HD.out).mono ?_
    rintro e w8 ⟨v8, x8, q8, rfl, ov8, hl8, hr8, hq8, hk8, hs8, hb8⟩
    have OB8 := Lib.hid (OB7.out.keepBlk (w' := w8) fun k hk => by
      have h1 := OB7.out.blk k hk
      refine hs8.block k h1.2 fun h => ?_
      rcases h with h | h
      · omega
      · have := HVL.out k h; omega)
    have hz8 := hs8.size
    have hA8 := (hk8.block w.heap.size (by omega) (by omega)).trans (HAB.out W hgB7)
    have hgw8 : wA.grownBy w8 (some g) := kept2.back (grown_trans hgB hgB7) hk8 (Nat.le_refl _)
    have hpl8 : ∀ k, planBlk v8 k → k ≠ g ∧ (k < w1.heap.size ∨ W.heap.size ≤ k) := fun k hk => by
      have h1 := planBlk_own ov8 k hk
      refine ⟨by omega, ?_⟩
      rcases hb8 k hk with (h | h) | h
      · omega
      · exact .inl (HVL.out k h)
      · exact .inr h
    have OV8 := Lib.hid ov8
    have HPL := Lib.hid hpl8
    have OBK : Hid (∀ k, (Value.slice Ab xs.length cb).ownBlock = some k → k < W.heap.size) := fun k hk => (OBW.out.blk k hk).2
    clear ov8 hb8 hpl8 hs8 hk8 OB7 hrW c0 c1 c2
    have hob8 := OB8.out
    go_wp2_with fail
    refine (rd_l2BadC g q8 wB.heap.size _ xs _ hr8 (by omega) OB8.out (by omega) (by omega) HX7.out).mono ?_
    rintro e w9 ⟨vb9, xs9, q9, rfl, ob9, hl9, hr9, hq9, hk9, hs9⟩
    have OV9 := Lib.hid (OV8.out.keepBlk (w' := w9) fun k hk => by
      have h1 := planBlk_own OV8.out k hk
      have h2 := HPL.out k hk
      refine hs9.block k h1.2 fun h => ?_
      rcases h with h | h
      · omega
      · have h3 := OB8.out.blk k h
        rcases h2.2 with h4 | h4
        · omega
        · have := OBK.out k h; omega)
    have hA9 := (hk9.block w.heap.size (by omega) (by omega)).trans hA8
    have hgw9 : wA.grownBy w9 (some g) := kept2.back hgw8 hk9 (by omega)
    clear hs9 hk9 hgw8 hA8 OV8 HPL OB8 hob8 hr8 OBK
    have OB9 := Lib.hid ob9
    obtain ⟨vo9, hv9, i91, i92, ho9⟩ := OV9.out
    obtain ⟨A9, n9, c9, hvo9, hn9, _, _, _⟩ := ho9.rd
    subst hn9 hvo9
    subst hv9
    clear ho9 ob9
    obtain ⟨a0, a1, a2, f0, f1, f2⟩ := cells3 hA9
    go_wp2_with fail
    refine ret_box2 rfl rfl (three_set hA9) Tryz.underlying25 rfl Tryz.sizePln rfl ?_
    exact draw3PostC_of (B := wA.heap.size) (Nat.le_refl _) (by omega) OV9.out (OB9.out.base_ (by omega)) hKi hl9 hl8 (hBA.trans (below_of_grown hgw9 hBA.size (fun r e => by injection e; omega))) rfl hA9

set_option maxRecDepth 100000 in
set_option maxHeartbeats 400000 in
theorem draw_DrawRunPlanC (v : Value) (bs : List UInt8) (w : World) (hv : rd w w.heap.size v bs) :
    Calls Tryz.prog 33 #[v] w (draw2BPostC 9 89 w) := by
  obtain ⟨wA, hwA⟩ : ∃ u, u = w.alloc (Obj.cells #[.int .i64 0, .int .i64 0, .slice none 0 0] 25) := ⟨_, rfl⟩
  have hBA : Below w.heap.size w wA := by rw [hwA]; exact (Below.refl _ _).alloc (Nat.le_refl _) _
  have hzA : wA.heap.size = w.heap.size + 1 := by rw [hwA]; simp
  have hbA : wA.heap[w.heap.size]? = some (.cells #[.int .i64 0, .int .i64 0, .slice none 0 0] 25 (0, 0)) := by rw [hwA]; exact heap_alloc_new w _
  have hvA := hv.on hBA
  have HWA := Lib.hid hwA; clear hwA
  go_enter Tryz.func33, Tryz.ntmps33
  go_wp2_with fail
  rw [← HWA.out]
  refine (draw_DrawPlanPassC _ bs _ hvA).mono ?_
  rintro e w2 ⟨v2, vb, x, xs, k, rfl, ov, ob, hk, hxl, hol, b2⟩
  have hz2 := b2.size
  have hb2 := (b2.block w.heap.size (by omega)).trans hbA
  have hB2 : Below w.heap.size w w2 := hBA.trans (b2.mono (by omega))
  have OV := Lib.hid ov
  obtain ⟨vo, rfl, i1, i2, ho⟩ := ov
  obtain ⟨A, n, c, hvo, hn, _, _, _⟩ := ho.rd
  subst hn hvo
  clear ho b2 hbA hBA hvA hv
  obtain ⟨wC, hwC⟩ : ∃ u, u = w2.alloc (Obj.cells #[.int .i64 x.bins, .int .i64 x.passes, .slice A x.order.length c] 25) := ⟨_, rfl⟩
  have hBC : Below w2.heap.size w2 wC := by rw [hwC]; exact (Below.refl _ _).alloc (Nat.le_refl _) _
  have hb3 := (hBC.block w.heap.size (by omega)).trans hb2
  have hB3 : Below w.heap.size w wC := hB2.trans (hBC.mono (by omega))
  have OV3 : Hid (ownP 9 wA.heap.size wC (.agg #[.int .i64 x.bins, .int .i64 x.passes, .slice A x.order.length c]) x) := OV.out.keepBlk fun k hk => hBC.block k (planBlk_own OV.out k hk).2
  have ob3 := ob.below hBC
  have hbC : wC.heap[w2.heap.size]? = some (.cells #[.int .i64 x.bins, .int .i64 x.passes, .slice A x.order.length c] 25 (0, 0)) := by rw [hwC]; exact heap_alloc_new w2 _
  have hb3' := hb3
  have hbC' := hbC
  rw [hwC] at hb3' hbC'
  have HWC := Lib.hid hwC; clear hwC
  obtain ⟨a0, a1, a2, f0, f1, f2⟩ := cells3 hb3'
  obtain ⟨d0, d1, d2, _, _, _⟩ := cells3 hbC'
  go_wp2_with fail
  rw [← HWC.out]
  refine ret_box1 rfl rfl (three_set hb3) Tryz.underlying25 rfl Tryz.sizePln rfl ?_
  exact draw2BPostC_of (B := wA.heap.size) (Nat.le_refl _) (by omega) OV3.out ob3 hxl hol hB3 rfl hb3

end Go.Proofs.YtpinkbodbedajaaGreatDoor

namespace Go.Proofs.YtpinkbodbedajaaGreatDoor
open Go.RowKit

/-! ### Plain facts -/
theorem okB_of_perm {xs ys : List Ltr} (hp : ys.Perm xs) (h : okB xs = true) : okB ys = true := by
  obtain ⟨h1, h2, h3⟩ := okB_pw.1 h
  exact okB_pw.2 ⟨by rw [hp.length_eq]; exact h1, fun x hx => h2 x (hp.mem_iff.1 hx), (hp.pairwise_iff (fun {a b} hab => Ne.symm hab)).2 h3⟩
theorem filter_partsK {α : Type} (p : α → Bool) : ∀ xs : List α, (xs.filter p ++ xs.filter fun x => !p x).Perm xs
  | [] => List.Perm.refl _
  | x :: xs => by
    have ih := filter_partsK p xs
    by_cases h : p x = true
    · rw [List.filter_cons_of_pos h, List.filter_cons_of_neg (by simp [h])]
      exact ih.cons x
    · rw [List.filter_cons_of_neg h, List.filter_cons_of_pos (by simp [h])]
      exact List.perm_middle.trans (ih.cons x)
theorem rp_parts {p : Pln} {xs : List Ltr} (h : rpOk p xs = true) : planOk p = true ∧ okB xs = true := by
  unfold rpOk at h
  rwa [Bool.and_eq_true] at h
theorem rp_perm {p : Pln} {xs : List Ltr} (h : rpOk p xs = true) : (rpRound p xs ++ rpRest p xs).Perm xs := by
  obtain ⟨hp, hx⟩ := rp_parts h
  have hpb := planOk_bins hp
  have hn : ∀ zs : List Ltr, okB zs = true → zs.Nodup := fun zs hz => (okB_pw.1 hz).2.2.imp fun {a b} hab e => hab (by rw [e])
  have hp1 : (rpRound p xs).Perm (xs.filter fun x => decide (0 ≤ rkI p.order x.code)) := (List.perm_ext_iff_of_nodup (hn _ (okB_rp h)) ((hn _ hx).filter _)).2 fun x => by
    rw [rp_mem h, List.mem_filter, decide_eq_true_iff]
  have hp2 : rpRest p xs = xs.filter fun x => !decide (0 ≤ rkI p.order x.code) := by
    unfold rpRest restOf
    rw [if_pos h]
    congr 1
    funext x
    have hb : binI p x.code 0 < 0 ↔ rkI p.order x.code < 0 := binI_rank hpb.1
    rw [← decide_not]
    refine decide_eq_decide.2 ?_
    show binI p x.code 0 < 0 ↔ _
    omega
  rw [hp2]
  exact (hp1.append_right _).trans (filter_partsK _ xs)
theorem rp_lens {p : Pln} {xs : List Ltr} (h : rpOk p xs = true) : (rpRound p xs).length + (rpRest p xs).length = xs.length := by
  have := (rp_perm h).length_eq
  rwa [List.length_append] at this
theorem numT_nat (n : Nat) : numT (n : Int) = decB n := by
  unfold numT
  rw [if_neg (by omega), itoa_dec]
theorem sL_rng (xs : List Ltr) : ∀ n : Int, 0 ≤ n → n < 9973 → 0 ≤ xs.foldl sStep n ∧ xs.foldl sStep n < 9973 := by
  induction xs with
  | nil => exact fun n h0 h1 => ⟨h0, h1⟩
  | cons x xs ih => exact fun n h0 h1 => ih _ (by unfold sStep; omega) (by unfold sStep; omega)
theorem osL_rng (xs : List Ltr) : ∀ n : Int, 0 ≤ n → n < 9973 → 0 ≤ xs.foldl osStep n ∧ xs.foldl osStep n < 9973 := by
  induction xs with
  | nil => exact fun n h0 h1 => ⟨h0, h1⟩
  | cons x xs ih => exact fun n h0 h1 => ih _ (by unfold osStep; omega) (by unfold osStep; omega)
theorem seal_nat {xs : List Ltr} (h : okB xs = true) : ∃ n : Nat, orOf (okB xs) (sL xs) = (n : Int) ∧ n ≤ 9972 := by
  obtain ⟨h1, h2⟩ := sL_rng xs 0 (by omega) (by omega)
  refine ⟨(sL xs).toNat, ?_, ?_⟩
  · rw [h]; show sL xs = _; unfold sL; omega
  · unfold sL; omega
theorem oseal_nat {xs : List Ltr} (h : okB xs = true) : ∃ n : Nat, orOf (okB xs) (osL xs) = (n : Int) ∧ n ≤ 9972 := by
  obtain ⟨h1, h2⟩ := osL_rng xs 0 (by omega) (by omega)
  refine ⟨(osL xs).toNat, ?_, ?_⟩
  · rw [h]; show osL xs = _; unfold osL; omega
  · unfold osL; omega
theorem moved_nat {p : Pln} {xs : List Ltr} (h : rpOk p xs = true) : ∃ n : Nat, movedI p xs = (n : Int) ∧ n ≤ 60 := by
  have h1 := keptI_range p xs
  have h2 : keptI p xs = keptN p xs := by unfold keptI; rw [if_pos (by exact h)]
  have h3 := movedI_ok h
  have h4 := okB_len' (rp_parts h).2
  exact ⟨(movedI p xs).toNat, by omega, by omega⟩

set_option maxHeartbeats 400000 in
theorem so_decimal (n : Nat) (w : World) (hn : n ≤ 9999) :
    Calls Tryz.prog 15 #[.int .i64 n] w fun e w' => e = .returned (.string (decB n)) ∧ Below w.heap.size w w' := by
  have hbs := byteString
  have hL : Hid ((decB n).data.toList = decL n) := rfl
  have hz := (dec10_size (n := n) hn).1
  have HZ : Hid ((decL n).length ≤ 4) := by
    show _ ≤ _
    have h1 : (decB n).data.toList.length = (decB n).size := by simp
    rw [hL.out] at h1
    omega
  go_enter Tryz.func15, Tryz.ntmps15
  go_wp2_with fail
  go_loopw [0, 3] (fun t s wr => ∃ (m : Nat) (u : ByteArray), m ≤ n ∧ t = .int .i64 m ∧ s = .string u ∧ u.size ≤ 4 ∧ Hid (decL n = decL m ++ u.data.toList) ∧ Below w.heap.size w wr) (fun t _ _ => (intOf t).toNat)
  case atStart => exact ⟨n, _, Nat.le_refl _, rfl, rfl, Nat.zero_le _, by show _ = _; simp, Below.refl _ _⟩
  case round =>
    obtain ⟨m, u, hm, rfl, rfl, hu, HD, hbl⟩ := hrel
    obtain ⟨w1, rfl⟩ : ∃ w1 : World, w1 = wr := ⟨_, rfl⟩
    by_cases h9 : 9 < m
    · have HN : Hid (decL n = decL (m / 10) ++ ((⟨#[b8 (48 + (m : Int) % 10)]⟩ : ByteArray) ++ u).data.toList) := by
        show _ = _
        rw [HD.out, ba_append]
        show _ = decL (m / 10) ++ ([b8 (48 + (m : Int) % 10)] ++ _)
        unfold decL
        rw [if_neg (by omega), if_neg (by omega), dec10_step (n := m) (by omega), List.append_assoc]
        unfold b8
        rw [show (48 + (m : Int) % 10).toNat = 48 + m % 10 by omega]
      have hu4 : ((⟨#[b8 (48 + (m : Int) % 10)]⟩ : ByteArray) ++ u).size ≤ 4 := by
        have h1 := HZ.out
        rw [HN.out, List.length_append] at h1
        have h2 : ((⟨#[b8 (48 + (m : Int) % 10)]⟩ : ByteArray) ++ u).data.toList.length = ((⟨#[b8 (48 + (m : Int) % 10)]⟩ : ByteArray) ++ u).size := rfl
        omega
      have HU4 := Lib.hid hu4; clear hu4
      have hm10 : ((m / 10 : Nat) : Int) ≠ 0 := by omega
      have hq : (((m : Int) / 10) == 0) = false := beq_eq_false_iff_ne.2 (by omega)
      clear HD
      go_wp2_with fail
      go_roundw
      case rel => exact ⟨m / 10, _, by omega, by go_num, rfl, HU4.out, HN.out, hbl.alloc hbl.size _⟩
      case measure => simp [intOf]; omega
    · have hq : (((m : Int) / 10) == 0) = true := by simp; omega
      have HN : Hid (decL n = ((⟨#[b8 (48 + (m : Int) % 10)]⟩ : ByteArray) ++ u).data.toList) := by
        show _ = _
        rw [HD.out, ba_append]
        show _ = [b8 (48 + (m : Int) % 10)] ++ _
        congr 1
        unfold decL
        split
        · rename_i h0; subst h0; rfl
        · rw [dec10_small (by omega) (by omega), show (48 + (m : Int) % 10) = 48 + (m : Int) by omega]
      clear HD
      go_wp2_with fail
      go_ret
      exact ⟨ret_str (ba_ext HN.out.symm), hbl.alloc hbl.size _⟩

/-! ### The script -/
def sortLs (p : Pln) (b : List Ltr) (dg : Nat) : List ByteArray := [lnOne planWd (fmtPl p), lnOne lettersWd (fmtB b), movedWd, lnOne passWd (decB dg), sortWd, sequenceWd, movedWd, sealWd]
def sortS (b : List Ltr) (dg : Nat) : List Ltr := sortedL (spL b (dg : Int))
def sortAs (p : Pln) (b : List Ltr) (dg : Nat) : List ByteArray :=
  [okW, fmtB b, numT (movedI p b), fmtB (spL b (dg : Int)), fmtB (sortS b dg), fmtB (rpRound p (sortS b dg)) ++ ⟨#[47]⟩ ++ fmtB (rpRest p (sortS b dg)), numT (movedI p (rpRound p (sortS b dg))),
    numT (orOf (okB (rpRound p (sortS b dg))) (sL (rpRound p (sortS b dg)))) ++ ⟨#[32]⟩ ++ numT (orOf (okB (rpRound p (sortS b dg))) (osL (rpRound p (sortS b dg))))]
def planD (p : Pln) : Dsk := { firstD with day := { firstD.day with plan := p } }
def sortD (p : Pln) (b : List Ltr) (dg : Nat) : Nat → Dsk
  | 0 => firstD
  | 1 => planD p
  | 2 => { planD p with letters := b }
  | 3 => { planD p with letters := b }
  | 4 => { planD p with letters := spL b (dg : Int) }
  | 5 => { planD p with letters := sortS b dg }
  | _ => { planD p with letters := rpRound p (sortS b dg) }
theorem sort_facts {p : Pln} {b : List Ltr} {dg : Nat} (hr : rpOk p b = true) (hd : dg < 7) : bpOk b (dg : Int) = true ∧ okB (spL b (dg : Int)) = true ∧ (spL b (dg : Int)).length ≤ b.length ∧ okB (sortS b dg) = true ∧ rpOk p (sortS b dg) = true ∧ okB (rpRound p (sortS b dg)) = true ∧ rpOk p (rpRound p (sortS b dg)) = true ∧ movedI p (rpRound p (sortS b dg)) = 0 := by
  obtain ⟨hp, hb⟩ := rp_parts hr
  have h1 : bpOk b (dg : Int) = true := by
    unfold bpOk
    rw [hb, decide_eq_true (show (0 : Int) ≤ (dg : Int) by omega), decide_eq_true (show (dg : Int) < 7 by omega)]
    rfl
  have h2 := spL_ok h1
  have h3 : okB (sortS b dg) = true := okB_of_perm (sortedL_perm _) h2
  have h4 : rpOk p (sortS b dg) = true := by unfold rpOk; rw [hp, h3]; rfl
  have h5 := okB_rp h4
  have h6 : rpOk p (rpRound p (sortS b dg)) = true := by unfold rpOk; rw [hp, h5]; rfl
  have h7 : (spL b (dg : Int)).length ≤ b.length := by
    rw [spL_yes h1]
    exact flatten_length_binsOf _
  exact ⟨h1, h2, h7, h3, h4, h5, h6, moved_ord h6 (rp_ord h4)⟩
theorem plan_i64 {p : Pln} (h : planOk p = true) : isI64 p.bins ∧ isI64 p.passes := by
  obtain ⟨⟨x1, x2, x3, x4⟩, _⟩ := planOk_iff.1 h
  exact ⟨by unfold isI64; omega, by unfold isI64; omega⟩

theorem run_sort {p : Pln} {b : List Ltr} {dg : Nat} (hr : rpOk p b = true) (hl : b.length ≤ 14) (hd : dg < 7) (w : World) (hT : TabW w) :
    Calls Tryz.prog 20 #[.string (linesT (sortLs p b dg))] w fun e w' => e = .returned (.string (linesT (sortAs p b dg))) ∧ Below w.heap.size w w' := by
  obtain ⟨hp, hb⟩ := rp_parts hr
  obtain ⟨f1, f2, f3, f4, f5, f6, f7, f8⟩ := sort_facts hr hd
  have hpi := plan_i64 hp
  obtain ⟨mv, m1, m2⟩ := moved_nat hr
  obtain ⟨se, s1, s2⟩ := seal_nat f6
  obtain ⟨os, o1, o2⟩ := oseal_nat f6
  obtain ⟨n1, n2⟩ := decB_num (n := dg) (by omega)
  have hfd : fieldN (decB dg) = (dg : Int) := by unfold fieldN; rw [n1, if_pos rfl, n2]
  have zd := dec10_size (n := dg) (by omega)
  have zm := dec10_size (n := mv) (by omega)
  have zs := dec10_size (n := se) (by omega)
  have zo := dec10_size (n := os) (by omega)
  have z0 := dec10_size (n := 0) (by omega)
  have y1 := fmtPl_size p
  have y2 := fmtB_size b
  have y3 := fmtB_size (spL b (dg : Int))
  have y4 := fmtB_size (sortS b dg)
  have y5 := fmtB_size (rpRound p (sortS b dg))
  have y6 := fmtB_size (rpRest p (sortS b dg))
  have p2 := fmtB_pos hb
  have p3 := fmtB_pos f2
  have p4 := fmtB_pos f4
  have p5 := fmtB_pos f6
  have e7 : numT (movedI p (rpRound p (sortS b dg))) = decB 0 := by rw [f8]; exact numT_nat 0
  have k0 := lnOne_size planWd (fmtPl p)
  have k1 := lnOne_size lettersWd (fmtB b)
  have k3 := lnOne_size passWd (decB dg)
  have w0 : planWd.size = 4 := rfl
  have w1 : lettersWd.size = 7 := rfl
  have w3 : passWd.size = 4 := rfl
  refine run_lines TabW (sortLs p b dg) (sortAs p b dg) (sortD p b dg) w rfl rfl (by show 8 ≤ 100; decide) (fun l h => ?_) (fun l h => ?_) (fun a h => ?_) ?_ ?_ (fun W hW => hT.on hW) (fun k hk => ?_)
  · simp only [sortLs, List.mem_cons, List.not_mem_nil, or_false] at h
    rcases h with rfl | rfl | rfl | rfl | rfl | rfl | rfl | rfl
    · exact lnOne_10 (by decide) fmtPl_not
    · exact lnOne_10 (by decide) fmtB_not
    · decide
    · exact lnOne_10 (by decide) (decB_not (by decide))
    · decide
    · decide
    · decide
    · decide
  · simp only [sortLs, List.mem_cons, List.not_mem_nil, or_false] at h
    rcases h with rfl | rfl | rfl | rfl | rfl | rfl | rfl | rfl
    · omega
    · omega
    · decide
    · omega
    · decide
    · decide
    · decide
    · decide
  · simp only [sortAs, List.mem_cons, List.not_mem_nil, or_false] at h
    rcases h with rfl | rfl | rfl | rfl | rfl | rfl | rfl | rfl
    · decide
    · exact p2
    · rw [m1, numT_nat]; exact zm.2
    · exact p3
    · exact p4
    · simp only [ByteArray.size_append]; omega
    · rw [e7]; exact z0.2
    · rw [s1, o1, numT_nat, numT_nat]; simp only [ByteArray.size_append]; omega
  · simp only [sortLs, linesT_cons, linesT_nil, ByteArray.size_append]
    show _ + 1 + (_ + 1 + (5 + 1 + (_ + 1 + (4 + 1 + (8 + 1 + (5 + 1 + (4 + 1 + 0))))))) ≤ _
    omega
  · simp only [sortAs, linesT_cons, linesT_nil, ByteArray.size_append, e7, m1, s1, o1, numT_nat]
    show 2 + 1 + (_ + 1 + (_ + 1 + (_ + 1 + (_ + 1 + (_ + 1 + _ + 1 + (_ + 1 + (_ + 1 + _ + 1 + 0))))))) ≤ _
    omega
  · match k, hk with
    | 0, _ =>
      exact fun B d vH W hX hB hD => line_plan B d firstD vH p W hD hB hp
    | 1, _ =>
      exact fun B d vH W hX hB hD => line_letters B d (planD p) vH b W hD hB hX hb
    | 2, _ =>
      exact fun B d vH W hX hB hD => line_word B d _ vH movedWd _ W (by decide) (by decide +kernel) fun W' hW' => word_moved B d _ vH W' (hD.below hW') (hX.on hW') hpi (show isI64 (movedI p b) by rw [m1]; unfold isI64; omega)
    | 3, _ =>
      exact fun B d vH W hX hB hD => line_one B d _ vH (lnOne passWd (decB dg)) passWd (decB dg) (decB dg) _ W (by rw [k3, w3]; unfold maxLen; omega) (by omega) (cut_app (by decide)) (parts_one (decB_not (by decide)))
        (by rw [ByteArray.toList_eq]; decide) (by rw [ByteArray.toList_eq]; decide) (by rw [ByteArray.toList_eq]; decide) (by rw [ByteArray.toList_eq]; decide) fun W' hW' => by
          have h := one_pass B d { planD p with letters := b } vH (decB dg) W' (hD.below hW') (Nat.le_trans hB hW'.size) (hX.on hW') (by unfold maxLen; omega)
          rw [hfd] at h
          have h' := f1
          simp only [h', if_true] at h
          exact h
    | 4, _ =>
      exact fun B d vH W hX hB hD => line_word B d _ vH sortWd _ W (by decide) (by decide +kernel) fun W' hW' => word_sort B d { planD p with letters := spL b (dg : Int) } vH W' (hD.below hW') (Nat.le_trans hB hW'.size) (hX.on hW') (show (spL b (dg : Int)).length ≤ 19 by omega) f2
    | 5, _ =>
      exact fun B d vH W hX hB hD => line_word B d _ vH sequenceWd _ W (by decide) (by decide +kernel) fun W' hW' => word_sequence B d _ vH _ W' (desk_sequence B d { planD p with letters := sortS b dg } vH W' (hD.below hW') (Nat.le_trans hB hW'.size) (hX.on hW') hpi f5)
    | 6, _ =>
      exact fun B d vH W hX hB hD => line_word B d _ vH movedWd _ W (by decide) (by decide +kernel) fun W' hW' => word_moved B d { planD p with letters := rpRound p (sortS b dg) } vH W' (hD.below hW') (hX.on hW') hpi (show isI64 (movedI p (rpRound p (sortS b dg))) by rw [f8]; unfold isI64; omega)
    | 7, _ =>
      exact fun B d vH W hX hB hD => line_word B d _ vH sealWd _ W (by decide) (by decide +kernel) fun W' hW' => word_seal B d { planD p with letters := rpRound p (sortS b dg) } vH W' (hD.below hW') (hX.on hW') (show isI64 (orOf (okB (rpRound p (sortS b dg))) (sL (rpRound p (sortS b dg)))) by rw [s1]; unfold isI64; omega) (show isI64 (orOf (okB (rpRound p (sortS b dg))) (osL (rpRound p (sortS b dg)))) by rw [o1]; unfold isI64; omega)
        (show (numT (orOf (okB (rpRound p (sortS b dg))) (sL (rpRound p (sortS b dg))))).size ≤ 100 by rw [s1, numT_nat]; omega) (show (numT (orOf (okB (rpRound p (sortS b dg))) (osL (rpRound p (sortS b dg))))).size ≤ 100 by rw [o1, numT_nat]; omega)
    | k + 8, hk => exact absurd hk (by unfold sortLs; simp)

end Go.Proofs.YtpinkbodbedajaaGreatDoor

namespace Go.Proofs.YtpinkbodbedajaaGreatDoor
open Go.RowKit Go.ChangeShapes Go.WideShapes

end Go.Proofs.YtpinkbodbedajaaGreatDoor
