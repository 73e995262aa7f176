/- DQ U0 E3 -/
import Derived.Test.YtekjjgnokjhleaaQ19
import Derived.Test.YtekjjgnokjhleaaQ5
import Derived.Test.YtekjjgnokjhleaaQ4
import Derived.Test.YtekjjgnokjhleaaQ2
namespace Go.Proofs.Ytekjjgnokjhleaa
open Go.RowKit

theorem ownP.grown {T base : Nat} {w w' : World} {v : Value} {p : Pln} {row : Option Nat} (h : ownP T base w v p) (hg : w.grownBy w' row) (hr : ∀ k, row = some k → k < base) : ownP T base w' v p := by
  obtain ⟨vo, h1, h2, h3, h4⟩ := h
  refine ⟨vo, h1, h2, h3, h4.grown hg ?_⟩
  cases hb : vo.ownBlock with
  | none => exact .inl rfl
  | some k => exact .inr fun e => by have h1 := (h4.blk k hb).1; have h2 := hr k e.symm; omega
theorem ownP.base_ {T base base' : Nat} {w : World} {v : Value} {p : Pln} (h : ownP T base w v p) (hb : base' ≤ base) : ownP T base' w v p := by
  obtain ⟨vo, h1, h2, h3, h4⟩ := h
  exact ⟨vo, h1, h2, h3, h4.base_ hb⟩

theorem Try.sizePln : (Try.prog.info? 25).map (·.size) = some 3 := by kernel_rfl
theorem three_set {w : World} {g : Nat} {T : TypeId} {u0 u1 u2 a b d : Value} (h : w.heap[g]? = some (.cells #[u0, u1, u2] T (0, 0))) :
    (((w.setCell ⟨g, 0, none⟩ a).setCell ⟨g, 1, none⟩ b).setCell ⟨g, 2, none⟩ d).heap[g]? = some (.cells #[a, b, d] T (0, 0)) :=
  heap_setCell_same _ _ _ _ _ _ (heap_setCell_same _ _ _ _ _ _ (heap_setCell_same _ _ _ _ _ _ h))
section
variable {P : Program} {fn : Func} {R : Ending → World → Prop} {a : Act} {w : World} {p u v r : Tmp} {ty : TypeId} {g : Nat} {t : TypeId} {cs : Array Value} {d : TypeDesc}
theorem loadBox (hg : w.heap[g]? = some (.cells cs t (0, 0))) (hu : P.underlying ty = some d) (hd : (match d with | .struct _ | .array _ _ => true | _ => false) = true) (hi : (P.info? ty).map (·.size) = some cs.size) :
    (loadVar ty ⟨g, 0, none⟩).run P w = .ok (.agg cs) w := run_loadVar_row w g t ty cs (0, 0) d hg hu hd hi
theorem ret_box (h : fn.results = #[.cell p ty]) (hp : a.tmps.getD p undef = .pointer (some ⟨g, 0, none⟩)) (hg : w.heap[g]? = some (.cells cs t (0, 0)))
    (hu : P.underlying ty = some d) (hd : (match d with | .struct _ | .array _ _ => true | _ => false) = true) (hi : (P.info? ty).map (·.size) = some cs.size) (hf : a.defers = [])
    (hR : R (.returned (.agg cs)) w) : bodyPost P fn R .ret a w :=
  bodyPost_ret (results_cell_row h a.tmps w g t cs (0, 0) d hp hg hu hd hi) hf hR
theorem ret_box1 (h : fn.results = #[.cell p ty, .tmp u]) (hp : a.tmps.getD p undef = .pointer (some ⟨g, 0, none⟩)) (hg : w.heap[g]? = some (.cells cs t (0, 0)))
    (hu : P.underlying ty = some d) (hd : (match d with | .struct _ | .array _ _ => true | _ => false) = true) (hi : (P.info? ty).map (·.size) = some cs.size) (hf : a.defers = [])
    (hR : R (.returned (.tuple #[.agg cs, a.tmps.getD u undef])) w) : bodyPost P fn R .ret a w := by
  refine bodyPost_ret ?_ hf hR
  have hp' : a.tmps[p]?.getD undef = .pointer (some ⟨g, 0, none⟩) := by simpa using hp
  simp [results, h, hp', asAddr, loadBox hg hu hd hi, Sem.run_bind, Result.andThen]
theorem ret_box2 (h : fn.results = #[.cell p ty, .tmp u, .tmp v]) (hp : a.tmps.getD p undef = .pointer (some ⟨g, 0, none⟩)) (hg : w.heap[g]? = some (.cells cs t (0, 0)))
    (hu : P.underlying ty = some d) (hd : (match d with | .struct _ | .array _ _ => true | _ => false) = true) (hi : (P.info? ty).map (·.size) = some cs.size) (hf : a.defers = [])
    (hR : R (.returned (.tuple #[.agg cs, a.tmps.getD u undef, a.tmps.getD v undef])) w) : bodyPost P fn R .ret a w := by
  refine bodyPost_ret ?_ hf hR
  have hp' : a.tmps[p]?.getD undef = .pointer (some ⟨g, 0, none⟩) := by simpa using hp
  simp [results, h, hp', asAddr, loadBox hg hu hd hi, Sem.run_bind, Result.andThen]
theorem ret_box3 (h : fn.results = #[.cell p ty, .tmp u, .tmp v, .tmp r]) (hp : a.tmps.getD p undef = .pointer (some ⟨g, 0, none⟩)) (hg : w.heap[g]? = some (.cells cs t (0, 0)))
    (hu : P.underlying ty = some d) (hd : (match d with | .struct _ | .array _ _ => true | _ => false) = true) (hi : (P.info? ty).map (·.size) = some cs.size) (hf : a.defers = [])
    (hR : R (.returned (.tuple #[.agg cs, a.tmps.getD u undef, a.tmps.getD v undef, a.tmps.getD r undef])) w) : bodyPost P fn R .ret a w := by
  refine bodyPost_ret ?_ hf hR
  have hp' : a.tmps[p]?.getD undef = .pointer (some ⟨g, 0, none⟩) := by simpa using hp
  simp [results, h, hp', asAddr, loadBox hg hu hd hi, Sem.run_bind, Result.andThen]
end
/-- A plan that is drawn. -/
def drawnP (p : Pln) : Prop := 2 ≤ p.bins ∧ p.bins ≤ 10 ∧ 1 ≤ p.passes ∧ p.passes ≤ 4 ∧ 1 ≤ p.order.length ∧ p.order.length ≤ 100 ∧ drawnC p.order

def l3SomePost (T : TypeId) (g p : Nat) (w : World) (e : Ending) (w' : World) : Prop :=
  ∃ (v : Value) (x : Pln) (p' : Nat), e = .returned v ∧ ownP T w.heap.size w' v x ∧ drawnP x ∧ rdr w' g p' ∧ p' ≤ p + 1002 ∧ w.grownBy w' (some g)
theorem l3SomePost_of {T g p q b A n c : _} {w w2 : World} {xs : List ByteArray} {y : Int} {V : Value} (hV : own T b w2 V xs) (hb : w.heap.size < b) (hr : rdr w2 g q) (hg : w.grownBy w2 (some g)) (hlt : g < w.heap.size) (hq : q ≤ p + 1 + 1001)
    (n0 : 2 ≤ n) (n1 : n ≤ 10) (y1 : 1 ≤ y) (y2 : y ≤ 4) (l1 : 1 ≤ xs.length) (l2 : xs.length ≤ 100) (hd : drawnC xs) (hVe : V = .slice A xs.length c) :
    l3SomePost T g p w (.returned (.agg #[.int .i64 n, .int .i64 y, .slice A xs.length c])) (((w2.setCell ⟨w.heap.size, 0, none⟩ (.int .i64 n)).setCell ⟨w.heap.size, 1, none⟩ (.int .i64 y)).setCell ⟨w.heap.size, 2, none⟩ (.slice A xs.length c)) := by
  subst hVe
  have HG := grown_setCell (p := ⟨w.heap.size, 2, none⟩) (grown_setCell (p := ⟨w.heap.size, 1, none⟩) (grown_setCell (p := ⟨w.heap.size, 0, none⟩) (World.grownBy.refl w2 (some w.heap.size)) (.inl rfl) (.int .i64 n)) (.inl rfl) (.int .i64 y)) (.inl rfl) (.slice A xs.length c)
  have HS := (((Below.refl w.heap.size w2).setCell (p := ⟨w.heap.size, 0, none⟩) (Nat.le_refl _) (.int .i64 n)).setCell (p := ⟨w.heap.size, 1, none⟩) (Nat.le_refl _) (.int .i64 y)).setCell (p := ⟨w.heap.size, 2, none⟩) (Nat.le_refl _) (.slice A xs.length c)
  exact ⟨_, ⟨n, y, xs⟩, q, rfl, ⟨_, rfl, ⟨by show _ ≤ n; omega, by show n ≤ _; omega⟩, ⟨by show _ ≤ y; omega, by show y ≤ _; omega⟩, (hV.grown HG (own_ne hV hb)).base_ (Nat.le_of_lt hb)⟩, ⟨n0, n1, y1, y2, l1, l2, hd⟩, hr.grown HG hlt, by omega, grown_of_below hg HS⟩

set_option maxRecDepth 100000 in
set_option maxHeartbeats 1000000 in
theorem rd_l3Some (g p : Nat) (w : World) (hr : rdr w g p) (hp : p ≤ 10000000000) :
    Calls Try.prog 104 #[.pointer (some ⟨g, 0, none⟩)] w (l3SomePost 9 g p w) := by
  have hlt := hr.lt
  go_enter Try.func104, Try.ntmps104
  go_wp2_with fail
  have hrA := hr.alloc (Obj.cells #[.int .i64 0, .int .i64 0, .slice none 0 0] 25)
  have hgA := World.grownBy_alloc w (Obj.cells #[.int .i64 0, .int .i64 0, .slice none 0 0] 25) (some g)
  have hzA : w.heap.size + 1 = (w.alloc (Obj.cells #[.int .i64 0, .int .i64 0, .slice none 0 0] 25)).heap.size := by simp
  have hbA := heap_alloc_new w (Obj.cells #[.int .i64 0, .int .i64 0, .slice none 0 0] 25)
  generalize w.alloc (Obj.cells #[.int .i64 0, .int .i64 0, .slice none 0 0] 25) = wA at *
  rw [hzA]
  have hltA := hrA.lt
  refine (rd_num 3 g p _ [4, 3, 5, 2, 10] _ (hrA.alloc _) (by omega) (list_own 3 (g + 1) wA [4, 3, 5, 2, 10] (by simp [isI64]) (by decide) (by omega)) (by decide)).mono ?_
  rintro e w1 ⟨n, hn, rfl, hr1, hg1⟩
  replace hg1 : wA.grownBy w1 (some g) := grown_trans (World.grownBy_alloc wA _ _) hg1
  have hb1 := (hg1.block w.heap.size (by omega) (fun e => by injection e; omega)).trans hbA
  replace hg1 := grown_trans hgA hg1
  have hn2 : 2 ≤ n ∧ n ≤ 10 := by simp at hn; omega
  obtain ⟨hn0, hn1⟩ := hn2
  have hz1 := hg1.size
  clear hn hrA hgA hbA
  have hlt1 : w.heap.size < w1.heap.size := (Array.getElem?_eq_some_iff.1 hb1).1
  have HB1 := Lib.hid hb1; clear hb1
  clear hzA hltA
  go_wp2_with fail
  refine (rd_l3Order g (p + 1) 12 _ hr1 (by omega) (by omega) (by omega)).mono ?_
  rintro e w2 ⟨v, xs, q, rfl, ho2, hl1, hl2, hd, hr2, hq, hg2⟩
  have hb2 := (hg2.block w.heap.size hlt1 (fun e => by injection e; omega)).trans HB1.out
  have HO2 := Lib.hid ho2
  have HZ1 := Lib.hid hz1; have HLT1 := Lib.hid hlt1
  replace hg2 := grown_trans hg1 hg2
  obtain ⟨A, m, c, rfl, hm, _, _, _⟩ := ho2.rd
  subst hm
  clear ho2 HB1 hg1 hr1
  have HD := Lib.hid hd; clear hd
  have HB2 := Lib.hid hb2; clear hb2
  go_wp2_with fail
  refine (rd_LeastPasses xs.length n _).mono ?_
  rintro e _ ⟨x, rfl, hx1, hx2, rfl⟩
  have h2 := HB2.out
  have g0 : w2.cell? ⟨w.heap.size, 0, none⟩ = some (.int .i64 0) := by rw [cell_of_row _ _ _ _ _ _ h2]; rfl
  have g1 : w2.cell? ⟨w.heap.size, 1, none⟩ = some (.int .i64 0) := by rw [cell_of_row _ _ _ _ _ _ h2]; rfl
  have g2 : w2.cell? ⟨w.heap.size, 2, none⟩ = some (.slice none 0 0) := by rw [cell_of_row _ _ _ _ _ _ h2]; rfl
  have f0 : w2.frozen? ⟨w.heap.size, 0, none⟩ = false := by simp [World.frozen?, h2]
  have f1 : w2.frozen? ⟨w.heap.size, 1, none⟩ = false := by simp [World.frozen?, h2]
  have f2 : w2.frozen? ⟨w.heap.size, 2, none⟩ = false := by simp [World.frozen?, h2]
  clear h2
  have HR2 := Lib.hid hr2; have HG2 := Lib.hid hg2
  clear hr2 hg2
  by_cases hx : x < 1
  · go_wp2_with fail
    refine ret_box rfl rfl (three_set HB2.out) Try.underlying25 rfl Try.sizePln rfl ?_
    exact l3SomePost_of HO2.out HLT1.out HR2.out HG2.out hlt hq hn0 hn1 (by omega) (by omega) hl1 hl2 HD.out rfl
  · go_wp2_with fail
    refine ret_box rfl rfl (three_set HB2.out) Try.underlying25 rfl Try.sizePln rfl ?_
    exact l3SomePost_of HO2.out HLT1.out HR2.out HG2.out hlt hq hn0 hn1 (by omega) hx2 hl1 hl2 HD.out rfl

end Go.Proofs.Ytekjjgnokjhleaa

namespace Go.Proofs.Ytekjjgnokjhleaa
open Go.RowKit

theorem leftOf_ok {l : Int} {n : Nat} (h : 0 ≤ leftOf l n) (hl : l ≤ 1048576) : 0 ≤ leftOf l n ∧ leftOf l n ≤ 1048576 ∧ n ≤ 1048576 := by
  unfold leftOf at *
  split at h <;> rename_i h1
  · omega
  · rw [if_neg h1]; omega
theorem lessOr_eq (l n : Int) : lessOr l n = leftOf l n := rfl
theorem leftOf_leftOf (l : Int) (m n : Nat) (hl : 0 ≤ l) : (if leftOf l m < 0 then -1 else leftOf (leftOf l m) n) = leftOf l ((m + n : Nat) : Int) := by
  unfold leftOf
  by_cases h : l < (m : Int)
  · rw [if_pos h]; simp only [show (-1 : Int) < 0 by omega, if_true]; rw [if_pos (by omega)]
  · rw [if_neg h, if_neg (by omega)]
    by_cases h2 : l - m < (n : Int)
    · rw [if_pos h2, if_pos (by omega)]
    · rw [if_neg h2, if_neg (by omega)]; omega

/-! plans -/
def szP (p : Pln) : Nat := p.order.length + sumStr p.order


end Go.Proofs.Ytekjjgnokjhleaa

namespace Go.Proofs.Ytekjjgnokjhleaa
open Go.RowKit

/-- The marks that 'markLetterS' leaves in n letters. -/
def marksL (k n : Nat) : List Ltr := (List.range n).map fun i => ⟨((k + 2 * i : Nat) : Int), markB (k + 2 * i + 1)⟩
theorem marksL_len (k n : Nat) : (marksL k n).length = n := by simp [marksL]
theorem marksL_get (k n i : Nat) (h : i < (marksL k n).length) : (marksL k n)[i] = ⟨((k + 2 * i : Nat) : Int), markB (k + 2 * i + 1)⟩ := by simp [marksL]
theorem markB_size (k : Nat) (hk : k ≤ 1099511627776) : (markB k).size ≤ maxLen := by
  unfold markB
  have := dec10_len k
  split
  · show 2 ≤ maxLen
    unfold maxLen; omega
  · show (109 :: dec10 k).toArray.size ≤ maxLen
    rw [List.size_toArray, List.length_cons]
    unfold maxLen; omega

/-- The first k letters marked. -/
def markedTo (k0 : Nat) (xs : List Ltr) (k : Nat) : List Ltr := marksL k0 k ++ xs.drop k
theorem markedTo_len {k0 : Nat} {xs : List Ltr} {k : Nat} (h : k ≤ xs.length) : (markedTo k0 xs k).length = xs.length := by
  simp [markedTo, marksL_len]; omega
theorem markedTo_step {k0 : Nat} {xs : List Ltr} {k : Nat} (h : k < xs.length) : (markedTo k0 xs k).set k ⟨((k0 + 2 * k : Nat) : Int), markB (k0 + 2 * k + 1)⟩ = markedTo k0 xs (k + 1) := by
  unfold markedTo
  rw [List.set_append_right _ _ (by rw [marksL_len]; exact Nat.le_refl _), marksL_len, Nat.sub_self, List.drop_eq_getElem_cons h, List.set_cons_zero]
  unfold marksL
  rw [List.range_succ, List.map_append]
  simp



end Go.Proofs.Ytekjjgnokjhleaa
