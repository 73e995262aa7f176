/- DP DQ DR -/
import Derived.Test.YtmangjjaijhcnaaQ37
import Derived.Test.YtmangjjaijhcnaaQ35
import Derived.Test.YtmangjjaijhcnaaQ6
import Derived.Test.YtmangjjaijhcnaaQ11
import Derived.Deep.RegionHeld3
namespace Go.Proofs.Ytmangjjaijhcnaa
open Go.RowKit

set_option maxHeartbeats 400000 in
theorem rd_LeastPasses (n b : Int) (w : World) :
    Calls Try.prog 136 #[.int .i64 n, .int .i64 b] w fun e w' => ∃ x : Int, e = .returned (.int .i64 x) ∧ -1 ≤ x ∧ x ≤ 4 ∧ w = w' := by
  go_enter Try.func136, Try.ntmps136
  by_cases hn : 0 ≤ n
  · go_wp2
    go_loop [5] (fun i => ∃ k : Nat, 1 ≤ k ∧ k ≤ 5 ∧ i = .int .i64 k) (fun i => 5 - (intOf i).toNat)
    case atStart => exact ⟨1, Nat.le_refl _, by omega, rfl⟩
    case round =>
      obtain ⟨k, hk1, hk5, rfl⟩ := hrel
      go_wp2_with fail
      refine (spec_l3Shape b k _).mono ?_
      rintro e _ ⟨rfl, rfl⟩
      cases hs : shapeOk b k
      · go_wp2_with fail
        go_ret
        exact ⟨_, rfl, by omega, by omega, rfl⟩
      · have hs2 : (2 ≤ b ∧ b ≤ 16) ∧ 1 ≤ (k : Int) ∧ (k : Int) ≤ 4 := by simpa [shapeOk] using hs
        have HS := Lib.hid hs; clear hs
        obtain ⟨⟨b1, b2⟩, k1, k2⟩ := hs2
        go_wp2_with fail
        refine (spec_l3Power b k _ b1 b2 (by omega)).mono ?_
        rintro e _ ⟨rfl, rfl⟩
        generalize powI b k = q
        by_cases hq : n ≤ q
        · go_wp2_with fail
          go_ret
          exact ⟨_, rfl, by omega, by omega, rfl⟩
        · go_wp2_with fail
          go_round
          case rel => exact ⟨k + 1, by omega, by omega, by go_num⟩
          case measure => simp [intOf]; omega
  · go_wp2
    go_loop [5] (fun i => i = .int .i64 1) (fun i => 0)
    case atStart => exact rfl
    case round =>
      subst hrel
      go_wp2
      go_ret
      exact ⟨_, rfl, by omega, by omega, rfl⟩

/-- The codes that are drawn. -/
def drawnC (xs : List ByteArray) : Prop := ∀ x ∈ xs, x.size = 7

set_option maxRecDepth 100000 in
set_option maxHeartbeats 1000000 in
theorem rd_l3Order (g p : Nat) (most : Int) (w : World) (hr : rdr w g p) (hp : p ≤ 100000000000) (hm1 : 1 ≤ most) (hm2 : most ≤ 100) :
    Calls Try.prog 135 #[.pointer (some ⟨g, 0, none⟩), .int .i64 most] w fun e w' => ∃ (v : Value) (xs : List ByteArray) (p' : Nat), e = .returned v ∧ own 9 w.heap.size w' v xs ∧ 1 ≤ xs.length ∧ xs.length ≤ 100 ∧ drawnC xs ∧ rdr w' g p' ∧ p' ≤ p + 1001 ∧ w.grownBy w' (some g) := by
  have hlt := hr.lt
  obtain ⟨i0, hi, hz0, hz1, hz2⟩ := info_parts Try.infoStr
  go_enter Try.func135, Try.ntmps135
  go_wp2_with fail
  have hA := hr.alloc (Obj.cells #[] 9)
  have hoA : own (α := ByteArray) 9 w.heap.size (w.alloc (Obj.cells #[] 9)) (.slice (some ⟨w.heap.size, 0, none⟩) 0 0) [] := own.made0 w _ (Nat.le_refl _)
  have hgA := World.grownBy_alloc w (Obj.cells #[] 9) (some g)
  generalize w.alloc (Obj.cells #[] 9) = wA at *
  refine (rd_pick g p most _ hA (by omega) (by unfold isI64; omega)).mono ?_
  rintro e w1 ⟨x, rfl, hx, hr1, hg1⟩
  obtain ⟨x0, x1⟩ := hx.2 (by omega)
  obtain ⟨N, rfl⟩ := Int.eq_ofNat_of_zero_le x0
  have ho1 := hoA.grown hg1 (own_ne hoA hlt)
  have hg1' := grown_trans hgA hg1
  clear hx hoA hA hgA hg1
  go_wp2_with fail
  go_loopw [5, 6] (fun t i wr => ∃ (k : Nat) (xs : List ByteArray) (q : Nat), k ≤ N + 1 ∧ i = .int .i64 k ∧ xs.length + k ≤ N + 1 ∧ Hid (k = N + 1 ∨ 1 ≤ xs.length) ∧ own 9 w.heap.size wr t xs ∧ Hid (drawnC xs) ∧ rdr wr g q ∧ q + 10 * k ≤ p + 1 + 10 * (N + 1) ∧ w.grownBy wr (some g)) (fun _ i _ => (intOf i).toNat)
  case atStart => exact ⟨N + 1, [], p + 1, Nat.le_refl _, by go_num, by simp, .inl rfl, ho1, fun x hx => by simp at hx, hr1, by omega, hg1'⟩
  case round =>
    obtain ⟨k, xs, q, hk, rfl, hxk, HK, ho, HX, hrq, hqb, hgq⟩ := hrel
    obtain ⟨w2, rfl⟩ : ∃ w2 : World, w2 = wr := ⟨_, rfl⟩
    clear ho1 hr1 hg1'
    have HXK := Lib.hid hxk
    have hxl : xs.length ≤ 100 := by omega
    clear hxk
    by_cases hk0 : 0 < k
    · go_wp2_with fail
      refine (rd_l1Some g q _ hrq (by omega)).mono ?_
      rintro e w3 ⟨s, q', rfl, hs7, hr3, hq3, hg3⟩
      have HS7 := Lib.hid hs7
      have hne := own_ne ho hlt
      have ho3 := ho.grown hg3 hne
      have hgq3 := grown_trans hgq hg3
      have hz3 := hgq3.size
      have hsl : s.size ≤ maxLen := by rw [hs7]; decide
      clear hs7 hg3 hne ho
      have HO3 := Lib.hid ho3
      obtain ⟨A, m, c, rfl, hm, _, _, _⟩ := ho3.rd
      subst hm
      clear ho3
      go_wp2_with fail
      refine (spec_l3Rank _ xs s _ HO3.out.rd).mono ?_
      rintro e _ ⟨rfl, rfl⟩
      have hrk := rkI_range xs s
      have HRK : Hid (rkI xs s < 0 ∨ 1 ≤ xs.length) := by show _ ∨ _; omega
      generalize rkI xs s = z at *
      by_cases hz : z < 0
      · go_wp2_with (at_builtin; refine wpList_append1 (α := ByteArray) rfl (.tmp 23) (.tmp 25) _ rfl w.heap.size 9 i0 _ 16 Try.underlying23 hi hz0 hz1 hz2 rfl (by decide) (.slice A xs.length c) xs s rfl (HO3.out.alloc _) ⟨w3.heap.size, 0, none⟩ 1 [.string s] rfl ⟨hsl, rfl⟩ (news_at w3 _ [.string s]) (by unfold maxLen; omega) (by omega) (by simp; omega) ?_; intro v' w4 ho4 hg4 _)
        have hb4 : Below w.heap.size w3 w4 := ((Below.refl _ _).alloc hz3 _).trans (below_append (HO3.out.alloc _) hg4 (by simp; omega))
        have hr4 : rdr w4 g q' := (hr3.alloc _).append (HO3.out.alloc _) hg4 hlt
        have hgq4 : w.grownBy w4 (some g) := grown_of_below hgq3 hb4
        clear hg4 hb4 hr3
        go_wp2_with fail
        go_roundw
        case rel =>
          refine ⟨k - 1, _, q', by omega, by go_num, by have := HXK.out; simp; omega, .inr (by simp), ho4, fun x hx => ?_, hr4, by omega, hgq4⟩
          rcases List.mem_append.1 hx with h | h
          · exact HX.out x h
          · simp at h
            subst h
            exact HS7.out
        case measure => simp [intOf]; omega
      · have HZ := Lib.hid hz; clear hz
        have hz' : 0 ≤ z := by have := HZ.out; omega
        go_wp2_with fail
        go_roundw
        case rel => exact ⟨k - 1, xs, q', by omega, by go_num, by have := HXK.out; omega, .inr (by have := HRK.out; have := HZ.out; omega), HO3.out, HX.out, hr3, by omega, hgq3⟩
        case measure => simp [intOf]; omega
    · have HO := Lib.hid ho
      obtain ⟨A, m, c, rfl, hm, _, _, _⟩ := ho.rd
      clear hm ho
      go_wp2_with fail
      go_ret
      exact ⟨_, xs, q, rfl, HO.out, by have := HK.out; omega, hxl, HX.out, hrq, by omega, hgq⟩

end Go.Proofs.Ytmangjjaijhcnaa

namespace Go.Proofs.Ytmangjjaijhcnaa
open Go.RowKit

theorem ownP.grown {T base : Nat} {w w' : World} {v : Value} {p : Pln} {row : Option Nat} (h : ownP T base w v p) (hg : w.grownBy w' row) (hr : ∀ k, row = some k → k < base) : ownP T base w' v p := by
  obtain ⟨vo, h1, h2, h3, h4⟩ := h
  refine ⟨vo, h1, h2, h3, h4.grown hg ?_⟩
  cases hb : vo.ownBlock with
  | none => exact .inl rfl
  | some k => exact .inr fun e => by have h1 := (h4.blk k hb).1; have h2 := hr k e.symm; omega
theorem ownP.base_ {T base base' : Nat} {w : World} {v : Value} {p : Pln} (h : ownP T base w v p) (hb : base' ≤ base) : ownP T base' w v p := by
  obtain ⟨vo, h1, h2, h3, h4⟩ := h
  exact ⟨vo, h1, h2, h3, h4.base_ hb⟩

theorem Try.sizePln : (Try.prog.info? 25).map (·.size) = some 3 := by kernel_rfl
theorem three_set {w : World} {g : Nat} {T : TypeId} {u0 u1 u2 a b d : Value} (h : w.heap[g]? = some (.cells #[u0, u1, u2] T (0, 0))) :
    (((w.setCell ⟨g, 0, none⟩ a).setCell ⟨g, 1, none⟩ b).setCell ⟨g, 2, none⟩ d).heap[g]? = some (.cells #[a, b, d] T (0, 0)) :=
  heap_setCell_same _ _ _ _ _ _ (heap_setCell_same _ _ _ _ _ _ (heap_setCell_same _ _ _ _ _ _ h))
section
variable {P : Program} {fn : Func} {R : Ending → World → Prop} {a : Act} {w : World} {p u v r : Tmp} {ty : TypeId} {g : Nat} {t : TypeId} {cs : Array Value} {d : TypeDesc}
theorem loadBox (hg : w.heap[g]? = some (.cells cs t (0, 0))) (hu : P.underlying ty = some d) (hd : (match d with | .struct _ | .array _ _ => true | _ => false) = true) (hi : (P.info? ty).map (·.size) = some cs.size) :
    (loadVar ty ⟨g, 0, none⟩).run P w = .ok (.agg cs) w := run_loadVar_row w g t ty cs (0, 0) d hg hu hd hi
theorem ret_box (h : fn.results = #[.cell p ty]) (hp : a.tmps.getD p undef = .pointer (some ⟨g, 0, none⟩)) (hg : w.heap[g]? = some (.cells cs t (0, 0)))
    (hu : P.underlying ty = some d) (hd : (match d with | .struct _ | .array _ _ => true | _ => false) = true) (hi : (P.info? ty).map (·.size) = some cs.size) (hf : a.defers = [])
    (hR : R (.returned (.agg cs)) w) : bodyPost P fn R .ret a w :=
  bodyPost_ret (results_cell_row h a.tmps w g t cs (0, 0) d hp hg hu hd hi) hf hR
theorem ret_box1 (h : fn.results = #[.cell p ty, .tmp u]) (hp : a.tmps.getD p undef = .pointer (some ⟨g, 0, none⟩)) (hg : w.heap[g]? = some (.cells cs t (0, 0)))
    (hu : P.underlying ty = some d) (hd : (match d with | .struct _ | .array _ _ => true | _ => false) = true) (hi : (P.info? ty).map (·.size) = some cs.size) (hf : a.defers = [])
    (hR : R (.returned (.tuple #[.agg cs, a.tmps.getD u undef])) w) : bodyPost P fn R .ret a w := by
  refine bodyPost_ret ?_ hf hR
  have hp' : a.tmps[p]?.getD undef = .pointer (some ⟨g, 0, none⟩) := by simpa using hp
  simp [results, h, hp', asAddr, loadBox hg hu hd hi, Sem.run_bind, Result.andThen]
theorem ret_box2 (h : fn.results = #[.cell p ty, .tmp u, .tmp v]) (hp : a.tmps.getD p undef = .pointer (some ⟨g, 0, none⟩)) (hg : w.heap[g]? = some (.cells cs t (0, 0)))
    (hu : P.underlying ty = some d) (hd : (match d with | .struct _ | .array _ _ => true | _ => false) = true) (hi : (P.info? ty).map (·.size) = some cs.size) (hf : a.defers = [])
    (hR : R (.returned (.tuple #[.agg cs, a.tmps.getD u undef, a.tmps.getD v undef])) w) : bodyPost P fn R .ret a w := by
  refine bodyPost_ret ?_ hf hR
  have hp' : a.tmps[p]?.getD undef = .pointer (some ⟨g, 0, none⟩) := by simpa using hp
  simp [results, h, hp', asAddr, loadBox hg hu hd hi, Sem.run_bind, Result.andThen]
theorem ret_box3 (h : fn.results = #[.cell p ty, .tmp u, .tmp v, .tmp r]) (hp : a.tmps.getD p undef = .pointer (some ⟨g, 0, none⟩)) (hg : w.heap[g]? = some (.cells cs t (0, 0)))
    (hu : P.underlying ty = some d) (hd : (match d with | .struct _ | .array _ _ => true | _ => false) = true) (hi : (P.info? ty).map (·.size) = some cs.size) (hf : a.defers = [])
    (hR : R (.returned (.tuple #[.agg cs, a.tmps.getD u undef, a.tmps.getD v undef, a.tmps.getD r undef])) w) : bodyPost P fn R .ret a w := by
  refine bodyPost_ret ?_ hf hR
  have hp' : a.tmps[p]?.getD undef = .pointer (some ⟨g, 0, none⟩) := by simpa using hp
  simp [results, h, hp', asAddr, loadBox hg hu hd hi, Sem.run_bind, Result.andThen]
end
/-- A plan that is drawn. -/
def drawnP (p : Pln) : Prop := 2 ≤ p.bins ∧ p.bins ≤ 10 ∧ 1 ≤ p.passes ∧ p.passes ≤ 4 ∧ 1 ≤ p.order.length ∧ p.order.length ≤ 100 ∧ drawnC p.order

def l3SomePost (T : TypeId) (g p : Nat) (w : World) (e : Ending) (w' : World) : Prop :=
  ∃ (v : Value) (x : Pln) (p' : Nat), e = .returned v ∧ ownP T w.heap.size w' v x ∧ drawnP x ∧ rdr w' g p' ∧ p' ≤ p + 1002 ∧ w.grownBy w' (some g)
theorem l3SomePost_of {T g p q b A n c : _} {w w2 : World} {xs : List ByteArray} {y : Int} {V : Value} (hV : own T b w2 V xs) (hb : w.heap.size < b) (hr : rdr w2 g q) (hg : w.grownBy w2 (some g)) (hlt : g < w.heap.size) (hq : q ≤ p + 1 + 1001)
    (n0 : 2 ≤ n) (n1 : n ≤ 10) (y1 : 1 ≤ y) (y2 : y ≤ 4) (l1 : 1 ≤ xs.length) (l2 : xs.length ≤ 100) (hd : drawnC xs) (hVe : V = .slice A xs.length c) :
    l3SomePost T g p w (.returned (.agg #[.int .i64 n, .int .i64 y, .slice A xs.length c])) (((w2.setCell ⟨w.heap.size, 0, none⟩ (.int .i64 n)).setCell ⟨w.heap.size, 1, none⟩ (.int .i64 y)).setCell ⟨w.heap.size, 2, none⟩ (.slice A xs.length c)) := by
  subst hVe
  have HG := grown_setCell (p := ⟨w.heap.size, 2, none⟩) (grown_setCell (p := ⟨w.heap.size, 1, none⟩) (grown_setCell (p := ⟨w.heap.size, 0, none⟩) (World.grownBy.refl w2 (some w.heap.size)) (.inl rfl) (.int .i64 n)) (.inl rfl) (.int .i64 y)) (.inl rfl) (.slice A xs.length c)
  have HS := (((Below.refl w.heap.size w2).setCell (p := ⟨w.heap.size, 0, none⟩) (Nat.le_refl _) (.int .i64 n)).setCell (p := ⟨w.heap.size, 1, none⟩) (Nat.le_refl _) (.int .i64 y)).setCell (p := ⟨w.heap.size, 2, none⟩) (Nat.le_refl _) (.slice A xs.length c)
  exact ⟨_, ⟨n, y, xs⟩, q, rfl, ⟨_, rfl, ⟨by show _ ≤ n; omega, by show n ≤ _; omega⟩, ⟨by show _ ≤ y; omega, by show y ≤ _; omega⟩, (hV.grown HG (own_ne hV hb)).base_ (Nat.le_of_lt hb)⟩, ⟨n0, n1, y1, y2, l1, l2, hd⟩, hr.grown HG hlt, by omega, grown_of_below hg HS⟩

set_option maxRecDepth 100000 in
set_option maxHeartbeats 1000000 in
theorem rd_l3Some (g p : Nat) (w : World) (hr : rdr w g p) (hp : p ≤ 10000000000) :
    Calls Try.prog 89 #[.pointer (some ⟨g, 0, none⟩)] w (l3SomePost 9 g p w) := by
  have hlt := hr.lt
  go_enter Try.func89, Try.ntmps89
  go_wp2_with fail
  have hrA := hr.alloc (Obj.cells #[.int .i64 0, .int .i64 0, .slice none 0 0] 25)
  have hgA := World.grownBy_alloc w (Obj.cells #[.int .i64 0, .int .i64 0, .slice none 0 0] 25) (some g)
  have hzA : w.heap.size + 1 = (w.alloc (Obj.cells #[.int .i64 0, .int .i64 0, .slice none 0 0] 25)).heap.size := by simp
  have hbA := heap_alloc_new w (Obj.cells #[.int .i64 0, .int .i64 0, .slice none 0 0] 25)
  generalize w.alloc (Obj.cells #[.int .i64 0, .int .i64 0, .slice none 0 0] 25) = wA at *
  rw [hzA]
  have hltA := hrA.lt
  refine (rd_num 3 g p _ [4, 3, 5, 2, 10] _ (hrA.alloc _) (by omega) (list_own 3 (g + 1) wA [4, 3, 5, 2, 10] (by simp [isI64]) (by decide) (by omega)) (by decide)).mono ?_
  rintro e w1 ⟨n, hn, rfl, hr1, hg1⟩
  replace hg1 : wA.grownBy w1 (some g) := grown_trans (World.grownBy_alloc wA _ _) hg1
  have hb1 := (hg1.block w.heap.size (by omega) (fun e => by injection e; omega)).trans hbA
  replace hg1 := grown_trans hgA hg1
  have hn2 : 2 ≤ n ∧ n ≤ 10 := by simp at hn; omega
  obtain ⟨hn0, hn1⟩ := hn2
  have hz1 := hg1.size
  clear hn hrA hgA hbA
  have hlt1 : w.heap.size < w1.heap.size := (Array.getElem?_eq_some_iff.1 hb1).1
  have HB1 := Lib.hid hb1; clear hb1
  clear hzA hltA
  go_wp2_with fail
  refine (rd_l3Order g (p + 1) 12 _ hr1 (by omega) (by omega) (by omega)).mono ?_
  rintro e w2 ⟨v, xs, q, rfl, ho2, hl1, hl2, hd, hr2, hq, hg2⟩
  have hb2 := (hg2.block w.heap.size hlt1 (fun e => by injection e; omega)).trans HB1.out
  have HO2 := Lib.hid ho2
  have HZ1 := Lib.hid hz1; have HLT1 := Lib.hid hlt1
  replace hg2 := grown_trans hg1 hg2
  obtain ⟨A, m, c, rfl, hm, _, _, _⟩ := ho2.rd
  subst hm
  clear ho2 HB1 hg1 hr1
  have HD := Lib.hid hd; clear hd
  have HB2 := Lib.hid hb2; clear hb2
  go_wp2_with fail
  refine (rd_LeastPasses xs.length n _).mono ?_
  rintro e _ ⟨x, rfl, hx1, hx2, rfl⟩
  have h2 := HB2.out
  have g0 : w2.cell? ⟨w.heap.size, 0, none⟩ = some (.int .i64 0) := by rw [cell_of_row _ _ _ _ _ _ h2]; rfl
  have g1 : w2.cell? ⟨w.heap.size, 1, none⟩ = some (.int .i64 0) := by rw [cell_of_row _ _ _ _ _ _ h2]; rfl
  have g2 : w2.cell? ⟨w.heap.size, 2, none⟩ = some (.slice none 0 0) := by rw [cell_of_row _ _ _ _ _ _ h2]; rfl
  have f0 : w2.frozen? ⟨w.heap.size, 0, none⟩ = false := by simp [World.frozen?, h2]
  have f1 : w2.frozen? ⟨w.heap.size, 1, none⟩ = false := by simp [World.frozen?, h2]
  have f2 : w2.frozen? ⟨w.heap.size, 2, none⟩ = false := by simp [World.frozen?, h2]
  clear h2
  have HR2 := Lib.hid hr2; have HG2 := Lib.hid hg2
  clear hr2 hg2
  by_cases hx : x < 1
  · go_wp2_with fail
    refine ret_box rfl rfl (three_set HB2.out) Try.underlying25 rfl Try.sizePln rfl ?_
    exact l3SomePost_of HO2.out HLT1.out HR2.out HG2.out hlt hq hn0 hn1 (by omega) (by omega) hl1 hl2 HD.out rfl
  · go_wp2_with fail
    refine ret_box rfl rfl (three_set HB2.out) Try.underlying25 rfl Try.sizePln rfl ?_
    exact l3SomePost_of HO2.out HLT1.out HR2.out HG2.out hlt hq hn0 hn1 (by omega) hx2 hl1 hl2 HD.out rfl

end Go.Proofs.Ytmangjjaijhcnaa

namespace Go.Proofs.Ytmangjjaijhcnaa
open Go.RowKit

theorem own_cellStr {T base g n c : Nat} {w : World} {xs : List ByteArray} (h : own T base w (.slice (some ⟨g, 0, none⟩) n c) xs) (k : Nat) (hk : k < xs.length) : (xs[k]).size ≤ maxLen ∧ w.cell? ⟨g, k, none⟩ = some (.string xs[k]) := by
  obtain ⟨A, n', c', hv, _, _, _, hrd⟩ := h.rd
  obtain ⟨b, o, hA, _, hok, c1⟩ := hrd.str k hk
  injection hv with e1 _ _
  subst e1
  injection hA with hA
  injection hA with hA1 hA2
  subst hA1 hA2
  rw [Nat.zero_add] at c1
  exact ⟨hok, c1⟩

theorem kept2.cell {g b : Nat} {w w' : World} (h : kept2 g b w w') (p : Addr) (hp : p.block < b) (hne : p.block ≠ g) : w'.cell? p = w.cell? p :=
  World.cell?_of_block (h.block p.block hp hne)
theorem kept2.step {g b : Nat} {u w w' : World} (h : kept2 g b u w) (hg : w.grownBy w' (some g)) (hb : b ≤ u.heap.size) : kept2 g b u w' :=
  h.trans (kept2.grown hg (Nat.le_trans hb h.size))

theorem kept2.set {g b : Nat} {u w : World} (h : kept2 g b u w) (p : Addr) (hp : b ≤ p.block) (v : Value) : kept2 g b u (w.setCell p v) := h.trans (kept2.below ((Below.refl _ _).setCell (p := p) hp v))


end Go.Proofs.Ytmangjjaijhcnaa
