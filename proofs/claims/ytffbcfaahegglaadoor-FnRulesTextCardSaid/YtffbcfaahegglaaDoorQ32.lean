/- DQ DR YA YB -/
import Derived.Test.YtffbcfaahegglaaDoorQ31
import Derived.Test.YtffbcfaahegglaaDoorQ15
import Derived.Deep.RegionHeld3
import Derived.Test.YtffbcfaahegglaaDoorQ5
namespace Go.Proofs.YtffbcfaahegglaaDoor
open Go.RowKit

theorem ownP.grown {T base : Nat} {w w' : World} {v : Value} {p : Pln} {row : Option Nat} (h : ownP T base w v p) (hg : w.grownBy w' row) (hr : ∀ k, row = some k → k < base) : ownP T base w' v p := by
  obtain ⟨vo, h1, h2, h3, h4⟩ := h
  refine ⟨vo, h1, h2, h3, h4.grown hg ?_⟩
  cases hb : vo.ownBlock with
  | none => exact .inl rfl
  | some k => exact .inr fun e => by have h1 := (h4.blk k hb).1; have h2 := hr k e.symm; omega
theorem ownP.base_ {T base base' : Nat} {w : World} {v : Value} {p : Pln} (h : ownP T base w v p) (hb : base' ≤ base) : ownP T base' w v p := by
  obtain ⟨vo, h1, h2, h3, h4⟩ := h
  exact ⟨vo, h1, h2, h3, h4.base_ hb⟩

theorem Tryd.sizePln : (Tryd.prog.info? 89).map (·.size) = some 3 := by kernel_rfl
theorem three_set {w : World} {g : Nat} {T : TypeId} {u0 u1 u2 a b d : Value} (h : w.heap[g]? = some (.cells #[u0, u1, u2] T (0, 0))) :
    (((w.setCell ⟨g, 0, none⟩ a).setCell ⟨g, 1, none⟩ b).setCell ⟨g, 2, none⟩ d).heap[g]? = some (.cells #[a, b, d] T (0, 0)) :=
  heap_setCell_same _ _ _ _ _ _ (heap_setCell_same _ _ _ _ _ _ (heap_setCell_same _ _ _ _ _ _ h))
section
variable {P : Program} {fn : Func} {R : Ending → World → Prop} {a : Act} {w : World} {p u v r : Tmp} {ty : TypeId} {g : Nat} {t : TypeId} {cs : Array Value} {d : TypeDesc}
theorem loadBox (hg : w.heap[g]? = some (.cells cs t (0, 0))) (hu : P.underlying ty = some d) (hd : (match d with | .struct _ | .array _ _ => true | _ => false) = true) (hi : (P.info? ty).map (·.size) = some cs.size) :
    (loadVar ty ⟨g, 0, none⟩).run P w = .ok (.agg cs) w := run_loadVar_row w g t ty cs (0, 0) d hg hu hd hi
theorem ret_box (h : fn.results = #[.cell p ty]) (hp : a.tmps.getD p undef = .pointer (some ⟨g, 0, none⟩)) (hg : w.heap[g]? = some (.cells cs t (0, 0)))
    (hu : P.underlying ty = some d) (hd : (match d with | .struct _ | .array _ _ => true | _ => false) = true) (hi : (P.info? ty).map (·.size) = some cs.size) (hf : a.defers = [])
    (hR : R (.returned (.agg cs)) w) : bodyPost P fn R .ret a w :=
  bodyPost_ret (results_cell_row h a.tmps w g t cs (0, 0) d hp hg hu hd hi) hf hR
theorem ret_box1 (h : fn.results = #[.cell p ty, .tmp u]) (hp : a.tmps.getD p undef = .pointer (some ⟨g, 0, none⟩)) (hg : w.heap[g]? = some (.cells cs t (0, 0)))
    (hu : P.underlying ty = some d) (hd : (match d with | .struct _ | .array _ _ => true | _ => false) = true) (hi : (P.info? ty).map (·.size) = some cs.size) (hf : a.defers = [])
    (hR : R (.returned (.tuple #[.agg cs, a.tmps.getD u undef])) w) : bodyPost P fn R .ret a w := by
  refine bodyPost_ret ?_ hf hR
  have hp' : a.tmps[p]?.getD undef = .pointer (some ⟨g, 0, none⟩) := by simpa using hp
  simp [results, h, hp', asAddr, loadBox hg hu hd hi, Sem.run_bind, Result.andThen]
theorem ret_box2 (h : fn.results = #[.cell p ty, .tmp u, .tmp v]) (hp : a.tmps.getD p undef = .pointer (some ⟨g, 0, none⟩)) (hg : w.heap[g]? = some (.cells cs t (0, 0)))
    (hu : P.underlying ty = some d) (hd : (match d with | .struct _ | .array _ _ => true | _ => false) = true) (hi : (P.info? ty).map (·.size) = some cs.size) (hf : a.defers = [])
    (hR : R (.returned (.tuple #[.agg cs, a.tmps.getD u undef, a.tmps.getD v undef])) w) : bodyPost P fn R .ret a w := by
  refine bodyPost_ret ?_ hf hR
  have hp' : a.tmps[p]?.getD undef = .pointer (some ⟨g, 0, none⟩) := by simpa using hp
  simp [results, h, hp', asAddr, loadBox hg hu hd hi, Sem.run_bind, Result.andThen]
theorem ret_box3 (h : fn.results = #[.cell p ty, .tmp u, .tmp v, .tmp r]) (hp : a.tmps.getD p undef = .pointer (some ⟨g, 0, none⟩)) (hg : w.heap[g]? = some (.cells cs t (0, 0)))
    (hu : P.underlying ty = some d) (hd : (match d with | .struct _ | .array _ _ => true | _ => false) = true) (hi : (P.info? ty).map (·.size) = some cs.size) (hf : a.defers = [])
    (hR : R (.returned (.tuple #[.agg cs, a.tmps.getD u undef, a.tmps.getD v undef, a.tmps.getD r undef])) w) : bodyPost P fn R .ret a w := by
  refine bodyPost_ret ?_ hf hR
  have hp' : a.tmps[p]?.getD undef = .pointer (some ⟨g, 0, none⟩) := by simpa using hp
  simp [results, h, hp', asAddr, loadBox hg hu hd hi, Sem.run_bind, Result.andThen]
end
/-- A plan that is drawn. -/
def drawnP (p : Pln) : Prop := 2 ≤ p.bins ∧ p.bins ≤ 10 ∧ 1 ≤ p.passes ∧ p.passes ≤ 4 ∧ 1 ≤ p.order.length ∧ p.order.length ≤ 100 ∧ drawnC p.order

def l3SomePost (T : TypeId) (g p : Nat) (w : World) (e : Ending) (w' : World) : Prop :=
  ∃ (v : Value) (x : Pln) (p' : Nat), e = .returned v ∧ ownP T w.heap.size w' v x ∧ drawnP x ∧ rdr w' g p' ∧ p' ≤ p + 1002 ∧ w.grownBy w' (some g)
theorem l3SomePost_of {T g p q b A n c : _} {w w2 : World} {xs : List ByteArray} {y : Int} {V : Value} (hV : own T b w2 V xs) (hb : w.heap.size < b) (hr : rdr w2 g q) (hg : w.grownBy w2 (some g)) (hlt : g < w.heap.size) (hq : q ≤ p + 1 + 1001)
    (n0 : 2 ≤ n) (n1 : n ≤ 10) (y1 : 1 ≤ y) (y2 : y ≤ 4) (l1 : 1 ≤ xs.length) (l2 : xs.length ≤ 100) (hd : drawnC xs) (hVe : V = .slice A xs.length c) :
    l3SomePost T g p w (.returned (.agg #[.int .i64 n, .int .i64 y, .slice A xs.length c])) (((w2.setCell ⟨w.heap.size, 0, none⟩ (.int .i64 n)).setCell ⟨w.heap.size, 1, none⟩ (.int .i64 y)).setCell ⟨w.heap.size, 2, none⟩ (.slice A xs.length c)) := by
  subst hVe
  have HG := grown_setCell (p := ⟨w.heap.size, 2, none⟩) (grown_setCell (p := ⟨w.heap.size, 1, none⟩) (grown_setCell (p := ⟨w.heap.size, 0, none⟩) (World.grownBy.refl w2 (some w.heap.size)) (.inl rfl) (.int .i64 n)) (.inl rfl) (.int .i64 y)) (.inl rfl) (.slice A xs.length c)
  have HS := (((Below.refl w.heap.size w2).setCell (p := ⟨w.heap.size, 0, none⟩) (Nat.le_refl _) (.int .i64 n)).setCell (p := ⟨w.heap.size, 1, none⟩) (Nat.le_refl _) (.int .i64 y)).setCell (p := ⟨w.heap.size, 2, none⟩) (Nat.le_refl _) (.slice A xs.length c)
  exact ⟨_, ⟨n, y, xs⟩, q, rfl, ⟨_, rfl, ⟨by show _ ≤ n; omega, by show n ≤ _; omega⟩, ⟨by show _ ≤ y; omega, by show y ≤ _; omega⟩, (hV.grown HG (own_ne hV hb)).base_ (Nat.le_of_lt hb)⟩, ⟨n0, n1, y1, y2, l1, l2, hd⟩, hr.grown HG hlt, by omega, grown_of_below hg HS⟩

set_option maxRecDepth 100000 in
set_option maxHeartbeats 1000000 in
theorem rd_l3Some (g p : Nat) (w : World) (hr : rdr w g p) (hp : p ≤ 10000000000) :
    Calls Tryd.prog 112 #[.pointer (some ⟨g, 0, none⟩)] w (l3SomePost 9 g p w) := by
  have hlt := hr.lt
  go_enter Tryd.func112, Tryd.ntmps112
  go_wp2_with fail
  have hrA := hr.alloc (Obj.cells #[.int .i64 0, .int .i64 0, .slice none 0 0] 89)
  have hgA := World.grownBy_alloc w (Obj.cells #[.int .i64 0, .int .i64 0, .slice none 0 0] 89) (some g)
  have hzA : w.heap.size + 1 = (w.alloc (Obj.cells #[.int .i64 0, .int .i64 0, .slice none 0 0] 89)).heap.size := by simp
  have hbA := heap_alloc_new w (Obj.cells #[.int .i64 0, .int .i64 0, .slice none 0 0] 89)
  generalize w.alloc (Obj.cells #[.int .i64 0, .int .i64 0, .slice none 0 0] 89) = wA at *
  rw [hzA]
  have hltA := hrA.lt
  refine (rd_num 3 g p _ [4, 3, 5, 2, 10] _ (hrA.alloc _) (by omega) (list_own 3 (g + 1) wA [4, 3, 5, 2, 10] (by simp [isI64]) (by decide) (by omega)) (by decide)).mono ?_
  rintro e w1 ⟨n, hn, rfl, hr1, hg1⟩
  replace hg1 : wA.grownBy w1 (some g) := grown_trans (World.grownBy_alloc wA _ _) hg1
  have hb1 := (hg1.block w.heap.size (by omega) (fun e => by injection e; omega)).trans hbA
  replace hg1 := grown_trans hgA hg1
  have hn2 : 2 ≤ n ∧ n ≤ 10 := by simp at hn; omega
  obtain ⟨hn0, hn1⟩ := hn2
  have hz1 := hg1.size
  clear hn hrA hgA hbA
  have hlt1 : w.heap.size < w1.heap.size := (Array.getElem?_eq_some_iff.1 hb1).1
  have HB1 := Lib.hid hb1; clear hb1
  clear hzA hltA
  go_wp2_with fail
  refine (rd_l3Order g (p + 1) 12 _ hr1 (by omega) (by omega) (by omega)).mono ?_
  rintro e w2 ⟨v, xs, q, rfl, ho2, hl1, hl2, hd, hr2, hq, hg2⟩
  have hb2 := (hg2.block w.heap.size hlt1 (fun e => by injection e; omega)).trans HB1.out
  have HO2 := Lib.hid ho2
  have HZ1 := Lib.hid hz1; have HLT1 := Lib.hid hlt1
  replace hg2 := grown_trans hg1 hg2
  obtain ⟨A, m, c, rfl, hm, _, _, _⟩ := ho2.rd
  subst hm
  clear ho2 HB1 hg1 hr1
  have HD := Lib.hid hd; clear hd
  have HB2 := Lib.hid hb2; clear hb2
  go_wp2_with fail
  refine (rd_LeastPasses xs.length n _).mono ?_
  rintro e _ ⟨x, rfl, hx1, hx2, rfl⟩
  have h2 := HB2.out
  have g0 : w2.cell? ⟨w.heap.size, 0, none⟩ = some (.int .i64 0) := by rw [cell_of_row _ _ _ _ _ _ h2]; rfl
  have g1 : w2.cell? ⟨w.heap.size, 1, none⟩ = some (.int .i64 0) := by rw [cell_of_row _ _ _ _ _ _ h2]; rfl
  have g2 : w2.cell? ⟨w.heap.size, 2, none⟩ = some (.slice none 0 0) := by rw [cell_of_row _ _ _ _ _ _ h2]; rfl
  have f0 : w2.frozen? ⟨w.heap.size, 0, none⟩ = false := by simp [World.frozen?, h2]
  have f1 : w2.frozen? ⟨w.heap.size, 1, none⟩ = false := by simp [World.frozen?, h2]
  have f2 : w2.frozen? ⟨w.heap.size, 2, none⟩ = false := by simp [World.frozen?, h2]
  clear h2
  have HR2 := Lib.hid hr2; have HG2 := Lib.hid hg2
  clear hr2 hg2
  by_cases hx : x < 1
  · go_wp2_with fail
    refine ret_box rfl rfl (three_set HB2.out) Tryd.underlying89 rfl Tryd.sizePln rfl ?_
    exact l3SomePost_of HO2.out HLT1.out HR2.out HG2.out hlt hq hn0 hn1 (by omega) (by omega) hl1 hl2 HD.out rfl
  · go_wp2_with fail
    refine ret_box rfl rfl (three_set HB2.out) Tryd.underlying89 rfl Tryd.sizePln rfl ?_
    exact l3SomePost_of HO2.out HLT1.out HR2.out HG2.out hlt hq hn0 hn1 (by omega) hx2 hl1 hl2 HD.out rfl

end Go.Proofs.YtffbcfaahegglaaDoor

namespace Go.Proofs.YtffbcfaahegglaaDoor
open Go.RowKit

theorem own_cellStr {T base g n c : Nat} {w : World} {xs : List ByteArray} (h : own T base w (.slice (some ⟨g, 0, none⟩) n c) xs) (k : Nat) (hk : k < xs.length) : (xs[k]).size ≤ maxLen ∧ w.cell? ⟨g, k, none⟩ = some (.string xs[k]) := by
  obtain ⟨A, n', c', hv, _, _, _, hrd⟩ := h.rd
  obtain ⟨b, o, hA, _, hok, c1⟩ := hrd.str k hk
  injection hv with e1 _ _
  subst e1
  injection hA with hA
  injection hA with hA1 hA2
  subst hA1 hA2
  rw [Nat.zero_add] at c1
  exact ⟨hok, c1⟩

theorem kept2.cell {g b : Nat} {w w' : World} (h : kept2 g b w w') (p : Addr) (hp : p.block < b) (hne : p.block ≠ g) : w'.cell? p = w.cell? p :=
  World.cell?_of_block (h.block p.block hp hne)
theorem kept2.step {g b : Nat} {u w w' : World} (h : kept2 g b u w) (hg : w.grownBy w' (some g)) (hb : b ≤ u.heap.size) : kept2 g b u w' :=
  h.trans (kept2.grown hg (Nat.le_trans hb h.size))

theorem kept2.set {g b : Nat} {u w : World} (h : kept2 g b u w) (p : Addr) (hp : b ≤ p.block) (v : Value) : kept2 g b u (w.setCell p v) := h.trans (kept2.below ((Below.refl _ _).setCell (p := p) hp v))


end Go.Proofs.YtffbcfaahegglaaDoor

namespace Go.Proofs.YtffbcfaahegglaaDoor
open Go.RowKit

theorem Tryd.infoFwdI : (Tryd.prog.info? 159).map (fun i => (i.zero, i.size, i.bytes)) = some (some (.agg #[.string ⟨#[]⟩, .string ⟨#[]⟩]), 2, 32) := by kernel_rfl
theorem kept2.allocO {g : Nat} {u w : World} (h : kept2 g u.heap.size u w) (o : Obj) : kept2 g u.heap.size u (w.alloc o) := h.trans (kept2.below ((Below.refl _ _).alloc h.size o))
/-- Behind an append to a row of one's own. -/
theorem appendedA {α : Type} [Flat α] {T g q : Nat} {w0 W w4 : World} {v : Value} {ms : List α} {o : Obj} (hr : rdr W g q) (k : kept2 g w0.heap.size w0 W) (ho : own T w0.heap.size (W.alloc o) v ms) (hg : (W.alloc o).grownBy w4 v.ownBlock) (hlt : g < w0.heap.size) :
    rdr w4 g q ∧ kept2 g w0.heap.size w0 w4 :=
  ⟨(hr.alloc o).append ho hg hlt, k.trans (kept2.below (((Below.refl _ _).alloc k.size _).trans (below_append ho hg (by simp; have := k.size; omega))))⟩

set_option maxRecDepth 100000 in
set_option maxHeartbeats 400000 in
theorem rd_l4Code (g p : Nat) (w : World) (hr : rdr w g p) (hp : p ≤ 1000000000000) :
    Calls Tryd.prog 114 #[.pointer (some ⟨g, 0, none⟩)] w fun e w' => ∃ s : ByteArray, e = .returned (.string s) ∧ s.size = 7 ∧ rdr w' g (p + 1) ∧ w.grownBy w' (some g) := by
  have hlt := hr.lt
  go_enter Tryd.func114, Tryd.ntmps114
  go_wp2_with fail
  refine (rd_pick g p 9 _ hr (by omega) (by unfold isI64; omega)).mono ?_
  rintro e w1 ⟨y, rfl, hy, hr1, hg1⟩
  obtain ⟨y0, y1⟩ := hy.2 (by omega)
  obtain ⟨N, rfl⟩ := Int.eq_ofNat_of_zero_le y0
  clear hy
  go_wp2_with fail
  refine (spec_l1Show N 2 _ (by omega) (by omega)).mono ?_
  rintro e w2 ⟨rfl, b2⟩
  have hs := showB_size N 2
  generalize showB N 2 = s at *
  have hr2 := hr1.below b2
  have hg2 := grown_below hg1 b2
  have HS : Hid (((⟨#[49, 50, 48, 48, 49]⟩ : ByteArray) ++ s).size = 7) := by show _ = _; rw [ByteArray.size_append, hs]; rfl
  go_wp2_with fail
  go_ret
  exact ⟨_, rfl, HS.out, hr2, hg2⟩

def drawnF (fs : List Fwd) : Prop := ∀ x ∈ fs, x.src.size = 7 ∧ x.dst.size = 7
set_option maxRecDepth 100000 in
set_option maxHeartbeats 1000000 in
theorem rd_l4Some (g p : Nat) (w : World) (hr : rdr w g p) (hp : p ≤ 100000000000) :
    Calls Tryd.prog 113 #[.pointer (some ⟨g, 0, none⟩)] w fun e w' => ∃ (v : Value) (fs : List Fwd) (p' : Nat), e = .returned v ∧ own 159 w.heap.size w' v fs ∧ fs.length ≤ 8 ∧ drawnF fs ∧ rdr w' g p' ∧ p' ≤ p + 20 ∧ w.grownBy w' (some g) := by
  have hlt := hr.lt
  obtain ⟨i0, hi, hz0, hzz1, hzz2⟩ := info_parts Tryd.infoFwdI
  go_enter Tryd.func113, Tryd.ntmps113
  go_wp2_with fail
  have oE := own.made0 (α := Fwd) w 159 (Nat.le_refl _)
  have hrE := hr.alloc (Obj.cells #[] 159)
  have kE : kept2 g w.heap.size w (w.alloc (Obj.cells #[] 159)) := kept2.below ((Below.refl _ _).alloc (Nat.le_refl _) _)
  have hzA : w.heap.size + 1 = (w.alloc (Obj.cells #[] 159)).heap.size := by simp
  generalize w.alloc (Obj.cells #[] 159) = wA at *
  rw [hzA]
  have HZA := Lib.hid hzA; clear hzA
  have hltA := hrE.lt
  refine (rd_num 3 g p _ [4, 3, 6, 2, 8, 0] _ (hrE.alloc _) (by omega) (list_own 3 (g + 1) wA [4, 3, 6, 2, 8, 0] (by simp [isI64]) (by decide) (by omega)) (by decide)).mono ?_
  rintro e w1 ⟨n, hn, rfl, hr1, hg1⟩
  replace hg1 : wA.grownBy w1 (some g) := grown_trans (World.grownBy_alloc wA _ _) hg1
  have k1 := kE.step hg1 (Nat.le_refl _)
  have o1 := oE.grown hg1 (own_ne oE hlt)
  have hn2 : 0 ≤ n ∧ n ≤ 8 := by simp at hn; omega
  obtain ⟨hn0, hn1⟩ := hn2
  obtain ⟨N, rfl⟩ := Int.eq_ofNat_of_zero_le hn0
  clear hn oE hrE kE hg1
  go_wp2_with fail
  go_loopw [3, 4] (fun t i wr => ∃ (k : Nat) (fs : List Fwd) (q : Nat), k ≤ N ∧ i = .int .i64 k ∧ Hid (fs.length + k ≤ N) ∧ own 159 w.heap.size wr t fs ∧ Hid (drawnF fs) ∧ rdr wr g q ∧ q + 2 * k ≤ p + 1 + 2 * N ∧ kept2 g w.heap.size w wr) (fun _ i _ => (intOf i).toNat)
  case atStart => exact ⟨N, [], p + 1, Nat.le_refl _, rfl, by show _ ≤ _; simp, o1, fun x hx => by simp at hx, hr1, by omega, k1⟩
  case round =>
    obtain ⟨k, fs, q, hk, rfl, HXK, ho, HX, hrq, hqb, kr⟩ := hrel
    obtain ⟨w2, rfl⟩ : ∃ w2 : World, w2 = wr := ⟨_, rfl⟩
    clear o1 hr1 k1
    have hxl : fs.length ≤ 8 := by have := HXK.out; omega
    obtain ⟨A, m, c, hv, hm, _, _, _⟩ := ho.rd
    subst hm hv
    by_cases hk0 : 0 < k
    · go_wp2_with fail
      refine (rd_l4Code g q _ hrq (by omega)).mono ?_
      rintro e w3 ⟨s, rfl, hs7, hr3, hg3⟩
      have o3 := ho.grown hg3 (own_ne ho hlt)
      have k3 := kr.step hg3 (Nat.le_refl _)
      clear ho hg3 kr hrq
      go_wp2_with fail
      refine (rd_l4Code g (q + 1) _ hr3 (by omega)).mono ?_
      rintro e w4 ⟨t, rfl, ht7, hr4, hg4⟩
      have o4 := o3.grown hg4 (own_ne o3 hlt)
      have k4 := k3.step hg4 (Nat.le_refl _)
      have HS7 := Lib.hid hs7; have HT7 := Lib.hid ht7
      have hsl : s.size ≤ maxLen := by rw [hs7]; decide
      have htl : t.size ≤ maxLen := by rw [ht7]; decide
      have HOK : Hid (Fwd.ok ⟨s, t⟩) := ⟨hsl, htl⟩
      clear o3 hg4 k3 hr3 hs7 ht7
      obtain ⟨wb, hwb⟩ : ∃ u, u = w4.alloc (Obj.cells #[.string s, .string t] 159) := ⟨_, rfl⟩
      have hBb : Below w4.heap.size w4 wb := by rw [hwb]; exact (Below.refl _ _).alloc (Nat.le_refl _) _
      have o5 := o4.below hBb
      have r5 : rdr wb g (q + 1 + 1) := by rw [hwb]; exact hr4.alloc _
      have k5 : kept2 g w.heap.size w wb := by rw [hwb]; exact k4.allocO _
      have hbb : wb.heap[w4.heap.size]? = some (.cells #[.string s, .string t] 159 (0, 0)) := by rw [hwb]; exact heap_alloc_new w4 _
      have e0 : wb.cell? ⟨w4.heap.size, 0, none⟩ = some (.string s) := by rw [cell_of_row _ _ _ _ _ _ hbb]; rfl
      have e1 : wb.cell? ⟨w4.heap.size, 1, none⟩ = some (.string t) := by rw [cell_of_row _ _ _ _ _ _ hbb]; rfl
      have e0' := e0
      rw [hwb] at e0'
      have HWB := Lib.hid hwb
      clear hwb hbb hBb o4 hr4 k4
      go_wp2_with fail
      rw [← HWB.out]
      clear e0'
      refine (spec_l4Index _ fs s _ o5.rd).mono ?_
      obtain ⟨r, HRR⟩ : ∃ r, Hid (fwdI fs s = r) := ⟨_, rfl⟩
      rw [HRR.out]
      rintro e _ ⟨rfl, rfl⟩
      have hz5 := k5.size
      by_cases hr0 : r < 0
      · go_wp2_with (at_builtin; refine wpList_append1 (α := Fwd) rfl (.tmp 24) (.tmp 26) _ rfl w.heap.size 159 i0 _ 32 Tryd.underlying90 hi hz0 hzz1 hzz2 rfl (by decide) (.slice A fs.length c) fs ⟨s, t⟩ rfl (o5.alloc _) ⟨wb.heap.size, 0, none⟩ 1 (Fwd.cells ⟨s, t⟩) rfl ⟨HOK.out, rfl⟩ (news_at wb _ (Fwd.cells ⟨s, t⟩)) (by unfold maxLen; omega) (by omega) (by simp; omega) ?_; intro v' w6 o6 hg6 _)
        obtain ⟨hr6, k6⟩ := appendedA r5 k5 (o5.alloc _) hg6 hlt
        clear hg6
        go_wp2_with fail
        go_roundw
        case rel =>
          refine ⟨k - 1, _, q + 1 + 1, by omega, by go_num, by show _ ≤ _; have := HXK.out; simp; omega, o6, fun x hx => ?_, hr6, by omega, k6⟩
          rcases List.mem_append.1 hx with h | h
          · exact HX.out x h
          · rw [List.mem_singleton.1 h]; exact ⟨HS7.out, HT7.out⟩
        case measure => simp [intOf]; omega
      · go_wp2_with fail
        go_roundw
        case rel => exact ⟨k - 1, fs, q + 1 + 1, by omega, by go_num, by show _ ≤ _; have := HXK.out; omega, o5, HX.out, r5, by omega, k5⟩
        case measure => simp [intOf]; omega
    · go_wp2_with fail
      go_ret
      exact ⟨_, fs, q, rfl, ho, hxl, HX.out, hrq, by omega, kept2.back (World.grownBy.refl w (some g)) kr (Nat.le_refl _)⟩

end Go.Proofs.YtffbcfaahegglaaDoor

namespace Go.Proofs.YtffbcfaahegglaaDoor
open Go.RowKit

theorem own_fwd {T base g n c : Nat} {w : World} {xs : List Fwd} (h : own T base w (.slice (some ⟨g, 0, none⟩) n c) xs) (k : Nat) (hk : k < xs.length) :
    (xs[k]).ok ∧ w.cell? ⟨g, k * 2, none⟩ = some (.string (xs[k]).src) ∧ w.cell? ⟨g, k * 2 + 1, none⟩ = some (.string (xs[k]).dst) := by
  obtain ⟨A, n', c', hv, _, _, _, hrd⟩ := h.rd
  obtain ⟨b, o, hA, _, hok, c1, c2⟩ := hrd.fwdU k hk
  injection hv with e1 _ _
  subst e1
  injection hA with hA
  injection hA with hA1 hA2
  subst hA1 hA2
  have c1 := c1 w (Below.refl _ _)
  have c2 := c2 w (Below.refl _ _)
  rw [Nat.zero_add] at c1 c2
  exact ⟨hok, c1, c2⟩

/-- What l4Bad gives. -/
def l4BadPost (T g p b0 : Nat) (v : Value) (w : World) (e : Ending) (w' : World) : Prop :=
  ∃ (v' : Value) (ys : List Fwd) (p' : Nat), e = .returned v' ∧ own T b0 w' v' ys ∧ ys.length ≤ 31 ∧ rdr w' g p' ∧ p' ≤ p + 5 ∧ kept2 g b0 w w' ∧ keptS (fun k => k = g ∨ v.ownBlock = some k) w w' ∧ (∀ r, v'.ownBlock = some r → v.ownBlock = some r ∨ w.heap.size ≤ r)

set_option maxRecDepth 100000 in
set_option maxHeartbeats 1000000 in
theorem rd_l4Bad (g p b0 : Nat) (v : Value) (xs : List Fwd) (w : World) (hr : rdr w g p) (hp : p ≤ 100000000000) (hv : own 159 b0 w v xs) (hb0 : g < b0) (hx1 : xs.length ≤ 8) (hx2 : drawnF xs) :
    Calls Tryd.prog 111 #[.pointer (some ⟨g, 0, none⟩), v] w (l4BadPost 159 g p b0 v w) := by
  have hlt := hr.lt
  obtain ⟨i0, hi, hz0, hz1, hz2⟩ := info_parts Tryd.infoFwdI
  rcases hv.form with ⟨rfl, rfl⟩ | ⟨gg, c, rfl, hg, hgl, hc, hm⟩
  · go_enter Tryd.func111, Tryd.ntmps111
    go_wp2
    go_ret
    exact ⟨_, [], p, rfl, hv, by simp, hr, by omega, kept2.refl _ _ _, keptS.refl _ _, fun r e => .inl e⟩
  · by_cases h0 : xs.length = 0
    · have hl0 : ((xs.length : Int) == 0) = true := by rw [h0]; rfl
      clear h0
      go_enter Tryd.func111, Tryd.ntmps111
      go_wp2
      go_ret
      exact ⟨_, xs, p, rfl, hv, by omega, hr, by omega, kept2.refl _ _ _, keptS.refl _ _, fun r e => .inl e⟩
    have hl0 : ((xs.length : Int) == 0) = false := beq_eq_false_iff_ne.2 (by omega)
    have hpos : 0 < xs.length := by omega
    have hposi : (0 : Int) < (xs.length : Int) := by omega
    unfold maxLen at hm
    go_enter Tryd.func111, Tryd.ntmps111
    go_wp2_with fail
    refine (rd_pick g p 40 _ hr (by omega) (by unfold isI64; omega)).mono ?_
    rintro e w2 ⟨x, rfl, hx, hr2, hg2⟩
    have ho2 := hv.grown hg2 (own_ne hv hb0)
    clear hx
    have hbw : b0 ≤ w.heap.size := by omega
    have hzw := hg2.size
    have hB2 : kept2 g b0 w w2 := kept2.grown hg2 hbw
    have HS2 : keptS (fun k => k = g ∨ (Value.slice (some ⟨gg, 0, none⟩) xs.length c).ownBlock = some k) w w2 := (keptS.refl _ _).next hg2 fun r e => .inl (.inl (by injection e with e; exact e.symm))
    have hz2' := hr2.lt
    by_cases c0 : x = 0
    · have d0 : (x == 0) = true := by simp [c0]
      clear c0
      obtain ⟨⟨hi1, hi2⟩, c1, c2⟩ := own_fwd ho2 0 hpos
      rw [Nat.zero_mul] at c1 c2
      rw [Nat.zero_add] at c2
      have hcs := (hx2 xs[0] (List.getElem_mem _)).2
      have HCS := Lib.hid hcs; clear hcs
      obtain ⟨S0, hS0⟩ : ∃ S0, S0 = xs[0] := ⟨_, rfl⟩
      have HS0 := Lib.hid hS0
      rw [← hS0] at hi1 hi2 c1 c2
      have HCS2 : Hid (S0.dst.size = 7) := by show _ = _; rw [hS0]; exact HCS.out
      clear hS0
      have hcs7 : S0.dst.size ≤ 7 := by rw [HCS2.out]; omega
      have HQ8 : Hid ((S0.dst ++ (⟨#[49]⟩ : ByteArray)).size = 8) := by show _ = _; rw [ByteArray.size_append, HCS2.out]; rfl
      go_wp2_with fail
      refine (rd_l1Bad g (p + 1) _ _ hr2 (by omega) (by rw [HQ8.out]; omega) (by rw [HQ8.out]; omega)).mono ?_
      rintro e w3 ⟨t, rfl, ht, hr3, hg3⟩
      have ht' : t.size ≤ maxLen := by
        rw [HQ8.out] at ht
        unfold maxLen; omega
      have ho3 := ho2.grown hg3 (own_ne ho2 hb0)
      obtain ⟨u1, g1⟩ := ho3.cellAt (j := 1) (by show _ < _ * 2; omega)
      have f1 := ho3.freeAt 1
      have HO := Lib.hid (ho3.setCell (k := 0) (j := 1) hpos (by decide) (.string t) ⟨S0.src, t⟩ (fun ecs he => by
        obtain ⟨_, rfl⟩ := he
        refine ⟨⟨hi1, ht'⟩, ?_⟩
        rw [← HS0.out]
        rfl))
      have HR : Hid (rdr (w3.setCell ⟨gg, 1, none⟩ (.string t)) g (p + 1 + 1)) := hr3.grown (g' := gg) (grown_setCell (World.grownBy.refl _ _) (.inl rfl) _) (Nat.lt_of_lt_of_le hb0 hg)
      have HB : Hid (kept2 g b0 w (w3.setCell ⟨gg, 1, none⟩ (.string t))) := (hB2.trans (kept2.grown hg3 (by omega))).trans (kept2.below ((Below.refl _ _).setCell (p := ⟨gg, 1, none⟩) hg _))
      have HS3 := (HS2.next hg3 fun r e => .inl (.inl (by injection e with e; exact e.symm))).set ⟨gg, 1, none⟩ (.inl (.inr rfl)) (.string t)
      clear ho3 ht HS2
      go_wp2_with fail
      go_ret
      exact ⟨_, _, _, rfl, by simpa [El.size] using HO.out, by simp; omega, HR.out, by omega, HB.out, HS3, fun r e => .inl e⟩
    have d0 : (x == 0) = false := by simp [c0]
    by_cases c1 : x = 1
    · have d1 : (x == 1) = true := by simp [c1]
      clear c1 c0
      obtain ⟨hok, c1, c2⟩ := own_fwd ho2 0 hpos
      rw [Nat.zero_mul] at c1 c2
      rw [Nat.zero_add] at c2
      have HOK := Lib.hid hok; clear hok
      generalize xs[0] = y at *
      go_wp2_with (at_builtin; refine wpList_append1 (α := Fwd) rfl (.tmp 25) (.tmp 29) _ rfl b0 159 i0 _ 32 Tryd.underlying90 hi hz0 hz1 hz2 rfl (by decide) (.slice (some ⟨gg, 0, none⟩) xs.length c) xs y rfl (ho2.alloc _) ⟨w2.heap.size, 0, none⟩ 1 (Fwd.cells y) rfl ⟨HOK.out, rfl⟩ (news_at w2 _ (Fwd.cells y)) (by unfold maxLen; omega) (by omega) (by simp; omega) ?_; intro v' w4 ho4 hg4 ha4)
      have hr4 : rdr w4 g (p + 1) := (hr2.alloc _).append (ho2.alloc _) hg4 hb0
      have hB4 : kept2 g b0 w w4 := (hB2.trans (kept2.below ((Below.refl _ _).alloc (by omega) _))).trans (kept2.below (below_append (ho2.alloc _) hg4 (by simp; omega)))
      have hS4 := (HS2.alloc (Obj.cells (Fwd.cells y).toArray 159)).next hg4 fun r e => .inl (.inr e)
      have hT4 : Hid (∀ r, v'.ownBlock = some r → (Value.slice (some ⟨gg, 0, none⟩) xs.length c).ownBlock = some r ∨ w.heap.size ≤ r) := fun r e => by
        rcases ha4 with h | h
        · exact .inl (h.symm.trans e)
        · right
          rw [h] at e
          injection e with e
          simp at e
          omega
      clear hg4 ha4
      go_wp2_with fail
      go_ret
      exact ⟨_, _, _, rfl, ho4, by simp; omega, hr4, by omega, hB4, hS4, hT4.out⟩
    have d1 : (x == 1) = false := by simp [c1]
    by_cases c2 : x = 2
    · have d2 : (x == 2) = true := by simp [c2]
      clear c2 c1 c0
      go_wp2_with fail
      have HO2 := Lib.hid ho2; clear ho2
      go_loopw [1] (fun t wr => ∃ (ys : List Fwd), own 159 b0 wr t ys ∧ ys.length ≤ 31 ∧ rdr wr g (p + 1) ∧ kept2 g b0 w wr ∧ keptS (fun k => k = g ∨ (Value.slice (some ⟨gg, 0, none⟩) xs.length c).ownBlock = some k) w wr ∧ Hid (∀ r, t.ownBlock = some r → r = gg ∨ w.heap.size ≤ r)) (fun t wr => match t with | .slice _ n _ => 31 - n | _ => 0)
      case atStart => exact ⟨xs, HO2.out, by omega, hr2, hB2, HS2, fun r e => .inl (by injection e with e; exact e.symm)⟩
      case round =>
        obtain ⟨ys, ho, hy, hrr, hB, hS, HT⟩ := hrel
        obtain ⟨w3, rfl⟩ : ∃ w3 : World, w3 = wr := ⟨_, rfl⟩
        clear hr2 hB2 HS2
        obtain ⟨A, m, c', hv', hm', _, _, _⟩ := ho.rd
        subst hm' hv'
        have hlt3 := hrr.lt
        by_cases h61 : ys.length < 31
        · obtain ⟨N5, hN5⟩ : ∃ N5 : Nat, N5 = 5000 + ys.length := ⟨_, rfl⟩
          have hN6 : N5 ≤ 5031 := by omega
          have hws : IntKind.i64.wrap ((5000 : Int) + (ys.length : Int)) = (N5 : Int) := by rw [IntWalk.i64_in _ (by omega)]; omega
          clear hN5
          go_wp2_with fail
          refine (spec_l1Show N5 7 _ (by omega) (by omega)).mono ?_
          rintro e w5 ⟨rfl, b5⟩
          have hs := showB_size N5 7
          generalize showB N5 7 = s at *
          have ho5 := ho.below b5
          have hr5 := hrr.below b5
          have hB5 := hB.trans (kept2.below (b5.mono (by have := hB.size; omega) : Below b0 w3 w5))
          have hS5 := hS.below (b5.mono hS.size)
          have hb3 : b0 ≤ w5.heap.size := by have := hB5.size; omega
          have HOK : Hid (Fwd.ok ⟨s, ⟨#[49, 50, 48, 48, 49, 48, 48]⟩⟩) := ⟨by show s.size ≤ maxLen; rw [hs]; decide, by show 7 ≤ maxLen; decide⟩
          clear hs b5 ho hrr hB hS
          go_wp2_with (at_builtin; refine wpList_append1 (α := Fwd) rfl (.tmp 36) (.tmp 42) _ rfl b0 159 i0 _ 32 Tryd.underlying90 hi hz0 hz1 hz2 rfl (by decide) (.slice A ys.length c') ys ⟨s, ⟨#[49, 50, 48, 48, 49, 48, 48]⟩⟩ rfl (ho5.alloc _) ⟨w5.heap.size, 0, none⟩ 1 (Fwd.cells ⟨s, ⟨#[49, 50, 48, 48, 49, 48, 48]⟩⟩) rfl ⟨HOK.out, rfl⟩ (news_at w5 _ (Fwd.cells ⟨s, ⟨#[49, 50, 48, 48, 49, 48, 48]⟩⟩)) (by unfold maxLen; omega) (by omega) (by simp; omega) ?_; intro v' w4 ho4 hg4 ha4)
          have hr4 : rdr w4 g (p + 1) := (hr5.alloc _).append (ho5.alloc _) hg4 hb0
          have hB4 : kept2 g b0 w w4 := (hB5.trans (kept2.below ((Below.refl _ _).alloc hb3 _))).trans (kept2.below (below_append (ho5.alloc _) hg4 (by simp; omega)))
          have hS4 := (hS5.alloc (Obj.cells (Fwd.cells ⟨s, ⟨#[49, 50, 48, 48, 49, 48, 48]⟩⟩).toArray 159)).next hg4 fun r e => by
            rcases HT.out r e with h | h
            · exact .inl (.inr (by rw [h]; rfl))
            · exact .inr h
          have HT4 : Hid (∀ r, v'.ownBlock = some r → r = gg ∨ w.heap.size ≤ r) := fun r e => by
            rcases ha4 with h | h
            · exact HT.out r (h.symm.trans e)
            · right
              rw [h] at e
              injection e with e
              have hzz := hB5.size
              simp at e
              omega
          clear hg4 ha4
          obtain ⟨A4, m4, c4, hv4, hm4, _, _, _⟩ := ho4.rd
          subst hm4 hv4
          go_wp2_with fail
          go_roundw
          case rel => exact ⟨_, ho4, by simp; omega, hr4, hB4, hS4, HT4⟩
          case measure => simp; omega
        · go_wp2_with fail
          go_ret
          exact ⟨_, ys, _, rfl, ho, hy, hrr, by omega, hB, hS, fun r e => (HT.out r e).imp (fun h => by rw [h]; rfl) id⟩
    have d2 : (x == 2) = false := by simp [c2]
    clear c0 c1 c2
    go_wp2_with fail
    go_ret
    exact ⟨_, xs, _, rfl, ho2, by omega, hr2, by omega, hB2, HS2, fun r e => .inl e⟩

end Go.Proofs.YtffbcfaahegglaaDoor
