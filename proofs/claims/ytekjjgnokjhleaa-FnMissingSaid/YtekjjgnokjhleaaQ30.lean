/- DW R0 R2 -/
import Derived.Test.YtekjjgnokjhleaaQ24
import Derived.Test.YtekjjgnokjhleaaQ1
import Derived.ProofKit
import Derived.OpenShut
import Derived.ShutString
import Derived.ChangeOld
import Derived.Deep.Slices
import Derived.Deep.Fields
import Derived.ChangeSame
import Derived.Test.YtekjjgnokjhleaaQ4
namespace Go.Proofs.Ytekjjgnokjhleaa
open Go.RowKit

/-- Drawn: a plan, letters, a pass, missorts. -/
def draw4Post (T1 T2 T3 : Nat) (w : World) (e : Ending) (w' : World) : Prop :=
  ∃ (v vb vm : Value) (x : Pln) (xs : List Ltr) (k : Int) (ms : List Mis), e = .returned (.tuple #[v, vb, .int .i64 k, vm]) ∧ ownP T1 w.heap.size w' v x ∧ own T2 w.heap.size w' vb xs ∧ own T3 w.heap.size w' vm ms ∧ isI64 k ∧ xs.length ≤ 61 ∧ ms.length ≤ 5 ∧ x.order.length ≤ 101 ∧ Below w.heap.size w w'
def draw2Post (T1 T3 : Nat) (w : World) (e : Ending) (w' : World) : Prop :=
  ∃ (v vm : Value) (x : Pln) (ms : List Mis), e = .returned (.tuple #[v, vm]) ∧ ownP T1 w.heap.size w' v x ∧ own T3 w.heap.size w' vm ms ∧ ms.length ≤ 5 ∧ x.order.length ≤ 101 ∧ Below w.heap.size w w'
theorem draw4Post_of {T T1 T2 T3 h B : _} {u0 u1 u2 : Value} {w W : World} {v vb vm a b d : Value} {x : Pln} {xs : List Ltr} {k : Int} {ms : List Mis} (hh : w.heap.size ≤ h) (hbase : h < B) (hv : ownP T1 B W v x) (hvb : own T2 B W vb xs) (hvm : own T3 B W vm ms)
    (hk : isI64 k) (h1 : xs.length ≤ 61) (h2 : ms.length ≤ 5) (h3 : x.order.length ≤ 101) (hG : Below w.heap.size w W) (he : v = .agg #[a, b, d]) (_ : W.heap[h]? = some (.cells #[u0, u1, u2] T (0, 0))) :
    draw4Post T1 T2 T3 w (.returned (.tuple #[.agg #[a, b, d], vb, .int .i64 k, vm])) (((W.setCell ⟨h, 0, none⟩ a).setCell ⟨h, 1, none⟩ b).setCell ⟨h, 2, none⟩ d) := by
  have HG := grown_setCell (p := ⟨h, 2, none⟩) (grown_setCell (p := ⟨h, 1, none⟩) (grown_setCell (p := ⟨h, 0, none⟩) (World.grownBy.refl W (some h)) (.inl rfl) a) (.inl rfl) b) (.inl rfl) d
  have HS := ((hG.setCell (p := ⟨h, 0, none⟩) hh a).setCell (p := ⟨h, 1, none⟩) hh b).setCell (p := ⟨h, 2, none⟩) hh d
  rw [← he]
  exact ⟨v, vb, vm, x, xs, k, ms, rfl, (hv.grown HG (fun r e => by injection e with e; omega)).base_ (by omega), (hvb.grown HG (own_ne hvb hbase)).base_ (by omega), (hvm.grown HG (own_ne hvm hbase)).base_ (by omega), hk, h1, h2, h3, HS⟩

set_option maxRecDepth 100000 in
set_option maxHeartbeats 400000 in
theorem draw_DrawFaultyPass (v : Value) (bs : List UInt8) (w : World) (hv : rd w w.heap.size v bs) :
    Calls Try.prog 19 #[v] w (draw4Post 9 44 32 w) := by
  obtain ⟨wA, hwA⟩ : ∃ u, u = w.alloc (Obj.cells #[.int .i64 0, .int .i64 0, .slice none 0 0] 25) := ⟨_, rfl⟩
  have hBA : Below w.heap.size w wA := by rw [hwA]; exact (Below.refl _ _).alloc (Nat.le_refl _) _
  have hzA : wA.heap.size = w.heap.size + 1 := by rw [hwA]; simp
  have hbA : wA.heap[w.heap.size]? = some (.cells #[.int .i64 0, .int .i64 0, .slice none 0 0] 25 (0, 0)) := by rw [hwA]; exact heap_alloc_new w _
  have hvA := hv.on hBA
  have HWA := Lib.hid hwA; clear hwA
  go_enter Try.func19, Try.ntmps19
  go_wp2_with fail
  rw [← HWA.out]
  refine (rd_open _ bs _ hvA).mono ?_
  rintro e w1 ⟨g, rfl, hg, hr1, b1⟩
  have hlt := hr1.lt
  have hb1 := (b1.block w.heap.size (by omega)).trans hbA
  have hB1 : Below w.heap.size w w1 := hBA.trans (b1.mono (by omega))
  have hz1 := b1.size
  clear hvA hv hBA b1 hbA
  go_wp2_with fail
  refine (rd_l7Draw g 0 _ hr1 (by omega)).mono ?_
  rintro e w2 ⟨v2, vb, vm, x, xs, k, ms, p2, rfl, ov, ob, om, hk, hxl, hml, hol, _, _, hg2⟩
  have hb2 := (hg2.block w.heap.size (by omega) (fun e => by injection e; omega)).trans hb1
  have hB2 : Below w.heap.size w w2 := hB1.trans (below_of_grown hg2 hB1.size (fun r e => by injection e; omega))
  have OV := Lib.hid ov
  obtain ⟨vo, rfl, i1, i2, ho⟩ := ov
  obtain ⟨A, n, c, hvo, hn, _, _, _⟩ := ho.rd
  subst hn hvo
  clear ho hg2 hb1 hB1
  obtain ⟨a0, a1, a2, f0, f1, f2⟩ := cells3 hb2
  go_wp2_with fail
  refine ret_box3 rfl rfl (three_set hb2) Try.underlying25 rfl Try.sizePln rfl ?_
  exact draw4Post_of (B := w1.heap.size) (Nat.le_refl _) (by omega) OV.out ob om hk hxl hml hol hB2 rfl hb2

set_option maxRecDepth 100000 in
set_option maxHeartbeats 400000 in
theorem draw_DrawRunRepaired (v : Value) (bs : List UInt8) (w : World) (hv : rd w w.heap.size v bs) :
    Calls Try.prog 45 #[v] w (draw4Post 9 44 32 w) := by
  obtain ⟨wA, hwA⟩ : ∃ u, u = w.alloc (Obj.cells #[.int .i64 0, .int .i64 0, .slice none 0 0] 25) := ⟨_, rfl⟩
  have hBA : Below w.heap.size w wA := by rw [hwA]; exact (Below.refl _ _).alloc (Nat.le_refl _) _
  have hzA : wA.heap.size = w.heap.size + 1 := by rw [hwA]; simp
  have hbA : wA.heap[w.heap.size]? = some (.cells #[.int .i64 0, .int .i64 0, .slice none 0 0] 25 (0, 0)) := by rw [hwA]; exact heap_alloc_new w _
  have hvA := hv.on hBA
  have HWA := Lib.hid hwA; clear hwA
  go_enter Try.func45, Try.ntmps45
  go_wp2_with fail
  rw [← HWA.out]
  refine (rd_open _ bs _ hvA).mono ?_
  rintro e w1 ⟨g, rfl, hg, hr1, b1⟩
  have hlt := hr1.lt
  have hb1 := (b1.block w.heap.size (by omega)).trans hbA
  have hB1 : Below w.heap.size w w1 := hBA.trans (b1.mono (by omega))
  have hz1 := b1.size
  clear hvA hv hBA b1 hbA
  go_wp2_with fail
  refine (rd_l7Draw g 0 _ hr1 (by omega)).mono ?_
  rintro e w2 ⟨v2, vb, vm, x, xs, k, ms, p2, rfl, ov, ob, om, hk, hxl, hml, hol, _, _, hg2⟩
  have hb2 := (hg2.block w.heap.size (by omega) (fun e => by injection e; omega)).trans hb1
  have hB2 : Below w.heap.size w w2 := hB1.trans (below_of_grown hg2 hB1.size (fun r e => by injection e; omega))
  have OV := Lib.hid ov
  obtain ⟨vo, rfl, i1, i2, ho⟩ := ov
  obtain ⟨A, n, c, hvo, hn, _, _, _⟩ := ho.rd
  subst hn hvo
  clear ho hg2 hb1 hB1
  obtain ⟨a0, a1, a2, f0, f1, f2⟩ := cells3 hb2
  go_wp2_with fail
  refine ret_box3 rfl rfl (three_set hb2) Try.underlying25 rfl Try.sizePln rfl ?_
  exact draw4Post_of (B := w1.heap.size) (Nat.le_refl _) (by omega) OV.out ob om hk hxl hml hol hB2 rfl hb2

set_option maxRecDepth 100000 in
set_option maxHeartbeats 400000 in
theorem draw_DrawRunRestarted (v : Value) (bs : List UInt8) (w : World) (hv : rd w w.heap.size v bs) :
    Calls Try.prog 39 #[v] w (draw4Post 9 44 32 w) := by
  obtain ⟨wA, hwA⟩ : ∃ u, u = w.alloc (Obj.cells #[.int .i64 0, .int .i64 0, .slice none 0 0] 25) := ⟨_, rfl⟩
  have hBA : Below w.heap.size w wA := by rw [hwA]; exact (Below.refl _ _).alloc (Nat.le_refl _) _
  have hzA : wA.heap.size = w.heap.size + 1 := by rw [hwA]; simp
  have hbA : wA.heap[w.heap.size]? = some (.cells #[.int .i64 0, .int .i64 0, .slice none 0 0] 25 (0, 0)) := by rw [hwA]; exact heap_alloc_new w _
  have hvA := hv.on hBA
  have HWA := Lib.hid hwA; clear hwA
  go_enter Try.func39, Try.ntmps39
  go_wp2_with fail
  rw [← HWA.out]
  refine (rd_open _ bs _ hvA).mono ?_
  rintro e w1 ⟨g, rfl, hg, hr1, b1⟩
  have hlt := hr1.lt
  have hb1 := (b1.block w.heap.size (by omega)).trans hbA
  have hB1 : Below w.heap.size w w1 := hBA.trans (b1.mono (by omega))
  have hz1 := b1.size
  clear hvA hv hBA b1 hbA
  go_wp2_with fail
  refine (rd_l7Draw g 0 _ hr1 (by omega)).mono ?_
  rintro e w2 ⟨v2, vb, vm, x, xs, k, ms, p2, rfl, ov, ob, om, hk, hxl, hml, hol, _, _, hg2⟩
  have hb2 := (hg2.block w.heap.size (by omega) (fun e => by injection e; omega)).trans hb1
  have hB2 : Below w.heap.size w w2 := hB1.trans (below_of_grown hg2 hB1.size (fun r e => by injection e; omega))
  have OV := Lib.hid ov
  obtain ⟨vo, rfl, i1, i2, ho⟩ := ov
  obtain ⟨A, n, c, hvo, hn, _, _, _⟩ := ho.rd
  subst hn hvo
  clear ho hg2 hb1 hB1
  obtain ⟨a0, a1, a2, f0, f1, f2⟩ := cells3 hb2
  go_wp2_with fail
  refine ret_box3 rfl rfl (three_set hb2) Try.underlying25 rfl Try.sizePln rfl ?_
  exact draw4Post_of (B := w1.heap.size) (Nat.le_refl _) (by omega) OV.out ob om hk hxl hml hol hB2 rfl hb2

theorem draw2Post_of {T T1 T3 h B : _} {u0 u1 u2 : Value} {w W : World} {v vm a b d : Value} {x : Pln} {ms : List Mis} (hh : w.heap.size ≤ h) (hbase : h < B) (hv : ownP T1 B W v x) (hvm : own T3 B W vm ms)
    (h2 : ms.length ≤ 5) (h3 : x.order.length ≤ 101) (hG : Below w.heap.size w W) (he : v = .agg #[a, b, d]) (_ : W.heap[h]? = some (.cells #[u0, u1, u2] T (0, 0))) :
    draw2Post T1 T3 w (.returned (.tuple #[.agg #[a, b, d], vm])) (((W.setCell ⟨h, 0, none⟩ a).setCell ⟨h, 1, none⟩ b).setCell ⟨h, 2, none⟩ d) := by
  have HG := grown_setCell (p := ⟨h, 2, none⟩) (grown_setCell (p := ⟨h, 1, none⟩) (grown_setCell (p := ⟨h, 0, none⟩) (World.grownBy.refl W (some h)) (.inl rfl) a) (.inl rfl) b) (.inl rfl) d
  have HS := ((hG.setCell (p := ⟨h, 0, none⟩) hh a).setCell (p := ⟨h, 1, none⟩) hh b).setCell (p := ⟨h, 2, none⟩) hh d
  rw [← he]
  exact ⟨v, vm, x, ms, rfl, (hv.grown HG (fun r e => by injection e with e; omega)).base_ (by omega), (hvm.grown HG (own_ne hvm hbase)).base_ (by omega), h2, h3, HS⟩
set_option maxRecDepth 100000 in
set_option maxHeartbeats 400000 in
theorem draw_DrawMissortsValid (v : Value) (bs : List UInt8) (w : World) (hv : rd w w.heap.size v bs) :
    Calls Try.prog 15 #[v] w (draw2Post 9 32 w) := by
  obtain ⟨wA, hwA⟩ : ∃ u, u = w.alloc (Obj.cells #[.int .i64 0, .int .i64 0, .slice none 0 0] 25) := ⟨_, rfl⟩
  have hBA : Below w.heap.size w wA := by rw [hwA]; exact (Below.refl _ _).alloc (Nat.le_refl _) _
  have hzA : wA.heap.size = w.heap.size + 1 := by rw [hwA]; simp
  have hbA : wA.heap[w.heap.size]? = some (.cells #[.int .i64 0, .int .i64 0, .slice none 0 0] 25 (0, 0)) := by rw [hwA]; exact heap_alloc_new w _
  have hvA := hv.on hBA
  have HWA := Lib.hid hwA; clear hwA
  go_enter Try.func15, Try.ntmps15
  go_wp2_with fail
  rw [← HWA.out]
  refine (rd_open _ bs _ hvA).mono ?_
  rintro e w1 ⟨g, rfl, hg, hr1, b1⟩
  have hlt := hr1.lt
  have hb1 := (b1.block w.heap.size (by omega)).trans hbA
  have hB1 : Below w.heap.size w w1 := hBA.trans (b1.mono (by omega))
  have hz1 := b1.size
  clear hvA hv hBA b1 hbA
  go_wp2_with fail
  refine (rd_l7Draw g 0 _ hr1 (by omega)).mono ?_
  rintro e w2 ⟨v2, vb, vm, x, xs, k, ms, p2, rfl, ov, ob, om, hk, hxl, hml, hol, _, _, hg2⟩
  have hb2 := (hg2.block w.heap.size (by omega) (fun e => by injection e; omega)).trans hb1
  have hB2 : Below w.heap.size w w2 := hB1.trans (below_of_grown hg2 hB1.size (fun r e => by injection e; omega))
  have OV := Lib.hid ov
  have hz2 := hg2.size
  obtain ⟨vo, rfl, i1, i2, ho⟩ := ov
  obtain ⟨A, n, c, hvo, hn, _, _, _⟩ := ho.rd
  subst hn hvo
  clear ho hg2 hb1 hB1 ob
  obtain ⟨a0, a1, a2, f0, f1, f2⟩ := cells3 hb2
  obtain ⟨wC, hwC⟩ : ∃ u, u = w2.alloc (Obj.cells #[.int .i64 x.bins, .int .i64 x.passes, .slice A x.order.length c] 25) := ⟨_, rfl⟩
  have hBC : Below w2.heap.size w2 wC := by rw [hwC]; exact (Below.refl _ _).alloc (Nat.le_refl _) _
  have hb3 := (hBC.block w.heap.size (by omega)).trans hb2
  have hB3 : Below w.heap.size w wC := hB2.trans (hBC.mono (by omega))
  have OV3 : Hid (ownP 9 w1.heap.size wC (.agg #[.int .i64 x.bins, .int .i64 x.passes, .slice A x.order.length c]) x) := OV.out.keepBlk fun k hk => hBC.block k (planBlk_own OV.out k hk).2
  have om3 := om.below hBC
  have hbC : wC.heap[w2.heap.size]? = some (.cells #[.int .i64 x.bins, .int .i64 x.passes, .slice A x.order.length c] 25 (0, 0)) := by rw [hwC]; exact heap_alloc_new w2 _
  have hb3' := hb3
  have hbC' := hbC
  rw [hwC] at hb3' hbC'
  have HWC := Lib.hid hwC; clear hwC
  clear a0 a1 a2 f0 f1 f2
  obtain ⟨a0, a1, a2, f0, f1, f2⟩ := cells3 hb3'
  obtain ⟨d0, d1, d2, _, _, _⟩ := cells3 hbC'
  go_wp2_with fail
  rw [← HWC.out]
  refine ret_box1 rfl rfl (three_set hb3) Try.underlying25 rfl Try.sizePln rfl ?_
  exact draw2Post_of (B := w1.heap.size) (Nat.le_refl _) (by omega) OV3.out om3 hml hol hB3 rfl hb3

end Go.Proofs.Ytekjjgnokjhleaa

namespace Go.Proofs.Ytekjjgnokjhleaa
open Go.RowKit Go.ChangeShapes Go.WideShapes Go.Deep

/-- Whatever reads at type t reads as some x of α. -/
def Opens (P : Program) (t : TypeId) (α : Type) [El α] : Prop :=
  ∀ {H : Type} (enc : TypeId × Value → H) (w : World) (spare : Nat → Bool) (held : Bool) (fuel : Nat) (cs : List Value) (x : DataW H × List MemPlace),
    DataW.trod enc P w 0 spare held fuel t cs = some x → ∃ y : α, El.el w w.heap.size y cs

theorem list_of {α : Type} {p : Nat → α → Prop} : ∀ {n : Nat}, (∀ i, i < n → ∃ y, p i y) → ∃ xs : List α, xs.length = n ∧ ∀ i (h : i < xs.length), p i xs[i]
  | 0, _ => ⟨[], rfl, fun i h => absurd h (Nat.not_lt_zero i)⟩
  | n + 1, h => by
    obtain ⟨xs, hl, hp⟩ := list_of (n := n) (fun i hi => h i (by omega))
    obtain ⟨y, hy⟩ := h n (by omega)
    refine ⟨xs ++ [y], by simp [hl], fun i hi => ?_⟩
    by_cases hin : i < xs.length
    · rw [List.getElem_append_left hin]
      exact hp i hin
    · have : i = n := by simp at hi; omega
      subst this
      rw [List.getElem_append_right (by omega)]
      simpa [hl] using hy

theorem opens_row {α : Type} [El α] {P : Program} {t e : TypeId} (ht : P.underlying t = some (.slice e)) (hc : P.cellsOf e = El.size α) (hs : 0 < El.size α) (ho : Opens P e α)
    {H : Type} {enc : TypeId × Value → H} {w : World} {spare : Nat → Bool} {held : Bool} {fuel : Nat} {v : Value} {x : DataW H × List MemPlace}
    (h : DataW.trod enc P w 0 spare held fuel t [v] = some x) : ∃ xs : List α, rd w w.heap.size v xs := by
  rcases open_slice ht h with ⟨h0, _⟩ | ⟨a, len, cap, m, n, D, Pl, hcs, hb, hl, hm, hmm, hx, hi⟩
  · injection h0 with h0
    subst h0
    exact ⟨[], rd.nil_⟩
  · injection hcs with hv
    subst hv
    obtain ⟨xs, hxl, hxp⟩ := list_of (n := len) (p := fun i (y : α) => ∃ cs : List Value, El.el w w.heap.size y cs ∧ ∀ j u, cs[j]? = some u → w.cell? (a.add (i * El.size α + j)) = some u) (fun i hil => by
      obtain ⟨cs', hcc, hd⟩ := hi i (by rw [hmm]; split <;> omega)
      obtain ⟨y, hy⟩ := ho enc w spare held n cs' _ hd
      obtain ⟨_, hcl, hat⟩ := World.cells?_some hcc
      refine ⟨y, cs', hy, fun j u hu => ?_⟩
      have hj : j < P.cellsOf e := by
        rw [← hcl]
        exact (List.getElem?_eq_some_iff.1 hu).1
      have := hat j hj
      rw [← add_add, ← hc, this, hu])
    refine ⟨xs, some a, len, cap, rfl, hxl.symm, hl, hm, fun k hk => ?_⟩
    obtain ⟨cs, hel, hcell⟩ := hxp k hk
    have h0 : cs[0]? = some (cs[0]'(by rw [El.len hel]; exact hs)) := List.getElem?_eq_getElem _
    obtain ⟨b, o, spot⟩ := a
    have hc0 := hcell 0 _ h0
    have hspot : spot = none := by
      have h1 := hxp 0 (by omega)
      obtain ⟨cs1, hel1, hcell1⟩ := h1
      have h01 : cs1[0]? = some (cs1[0]'(by rw [El.len hel1]; exact hs)) := List.getElem?_eq_getElem _
      have := World.cell?_spot (hcell1 0 _ h01)
      simpa [Addr.add] using this
    subst hspot
    have hlt := World.block_lt_of_cell? _ _ hc0
    rw [block_of_add] at hlt
    exact ⟨b, o, cs, rfl, hlt, hel, fun j u hu => by have := hcell j u hu; rwa [add_lit] at this⟩

/-- The cells of a struct, field by field. -/
theorem trod_fields {H : Type} {enc : TypeId × Value → H} {P : Program} {w : World} {base : Nat} {spare : Nat → Bool} {held : Bool} {t : TypeId} {fs : Array Field} {fuel : Nat} {cs : List Value} {x : DataW H × List MemPlace}
    (ht : P.underlying t = some (.struct fs)) (h : DataW.trod enc P w base spare held fuel t cs = some x) :
    cs.length = P.cellsOf t ∧ ∀ (i : Nat) (f : Field), fs[i]? = some f → ∃ n y, DataW.trod enc P w base spare held n f.type ((cs.drop f.offset).take (P.cellsOf f.type)) = some y := by
  obtain ⟨xs, n, _, _, hlen, hl, hf⟩ := DataW.trod_struct ht h
  refine ⟨hlen, fun i f hi => ?_⟩
  have hil : i < xs.length := by rw [hl]; exact (Array.getElem?_eq_some_iff.1 hi).1
  exact ⟨n, xs[i], by rw [hf i f hi]; exact List.getElem?_eq_getElem hil⟩
theorem list2 {α : Type} {l : List α} (h : l.length = 2) : ∃ a b, l = [a, b] := by
  match l, h with
  | [a, b], _ => exact ⟨a, b, rfl⟩
theorem list3 {α : Type} {l : List α} (h : l.length = 3) : ∃ a b c, l = [a, b, c] := by
  match l, h with
  | [a, b, c], _ => exact ⟨a, b, c, rfl⟩
theorem list4 {α : Type} {l : List α} (h : l.length = 4) : ∃ a b c d, l = [a, b, c, d] := by
  match l, h with
  | [a, b, c, d], _ => exact ⟨a, b, c, d, rfl⟩
theorem list6 {α : Type} {l : List α} (h : l.length = 6) : ∃ a b c d e f, l = [a, b, c, d, e, f] := by
  match l, h with
  | [a, b, c, d, e, f], _ => exact ⟨a, b, c, d, e, f, rfl⟩

end Go.Proofs.Ytekjjgnokjhleaa

namespace Go.Proofs.Ytekjjgnokjhleaa
open Go.ChangeShapes Go.WideShapes Go.ChangeAt Go.RowKit

theorem opensByte : Opens Try.prog 5 UInt8 := by
  intro H enc w spare held fuel cs x h
  obtain ⟨n, rfl, _, wf⟩ := DataW.trod_int Try.underlying5 h
  simp [Lit.wf, IntKind.min, IntKind.max, IntKind.signed, IntKind.bits] at wf
  refine ⟨UInt8.ofNat n.toNat, ?_⟩
  show [Value.int .u8 n] = [Value.int .u8 ((UInt8.ofNat n.toNat).toNat : Int)]
  rw [UInt8.toNat_ofNat_of_lt' (by show n.toNat < 256; omega)]
  congr 2
  omega

end Go.Proofs.Ytekjjgnokjhleaa
