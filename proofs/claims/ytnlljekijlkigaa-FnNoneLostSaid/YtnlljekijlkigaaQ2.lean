/- L0 E1 E4 W1 -/
import Derived.Test.YtnlljekijlkigaaQ1
import Derived.StillTailTactics
import Derived.Deep.RegionHeld3
import Derived.Handy
import Derived.Laws.StructEq
import Derived.Deep.QuietTactic
import Derived.BigQuiet
namespace Go.Proofs.Ytnlljekijlkigaa
open Go.RowKit

structure Ltr where
  id : Int
  code : ByteArray

def isI64 (n : Int) : Prop := -9223372036854775808 ≤ n ∧ n ≤ 9223372036854775807
theorem wf_range {n : Int} (h : (Lit.int .i64 n).wf = true) : isI64 n := by
  simp [Lit.wf, IntKind.min, IntKind.max, IntKind.signed, IntKind.bits] at h
  unfold isI64
  omega
def Ltr.ok (x : Ltr) : Prop := isI64 x.id ∧ x.code.size ≤ maxLen
def Ltr.cells (x : Ltr) : List Value := [.int .i64 x.id, .string x.code]

instance elLtr : El Ltr where
  size := 2
  el _ _ x cs := x.ok ∧ cs = x.cells
  len h := by rw [h.2]; rfl
  more h _ := h
  keep h _ := h
  one h := by rw [h.2]; intro u hu; simp [Ltr.cells] at hu; rcases hu with rfl | rfl <;> rfl
instance flatLtr : Flat Ltr where
  free h := h

theorem rdA.ltr {w : World} {B : Nat} {A : Option Addr} {xs : List Ltr} (h : rdA w B A xs) (k : Nat) (hk : k < xs.length) :
    ∃ b o, A = some ⟨b, o, none⟩ ∧ b < B ∧ (xs[k]).ok ∧ w.cell? ⟨b, o + k * 2, none⟩ = some (.int .i64 (xs[k]).id) ∧ w.cell? ⟨b, o + k * 2 + 1, none⟩ = some (.string (xs[k]).code) := by
  obtain ⟨b, o, cs, hA, hb, ⟨hok, rfl⟩, hc⟩ := h k hk
  exact ⟨b, o, hA, hb, hok, by simpa [Ltr.cells, El.size] using hc 0 _ rfl, by simpa [Ltr.cells, El.size, Nat.add_assoc] using hc 1 _ rfl⟩

def goodL (xs : List Ltr) (k : Nat) : Bool :=
  match xs[k]? with
  | none => false
  | some x => decide (1 ≤ x.id) && decide (x.id ≤ 9999) && isCode x.code && (xs.take k).all (fun y => y.id != x.id)
def okB (xs : List Ltr) : Bool := decide (xs.length ≤ 60) && (List.range xs.length).all (goodL xs)

theorem okB_bad {xs : List Ltr} {k : Nat} (hk : k < xs.length) (h : goodL xs k = false) : okB xs = false := by
  unfold okB
  rw [Bool.and_eq_false_iff]
  exact .inr (List.all_eq_false.2 ⟨k, by simpa using hk, by simp [h]⟩)
theorem okB_good {xs : List Ltr} (h60 : xs.length ≤ 60) (h : ∀ j, j < xs.length → goodL xs j = true) : okB xs = true := by
  unfold okB
  simp [h60]
  exact h
theorem goodL_of {xs : List Ltr} {k : Nat} (hk : k < xs.length) : goodL xs k = (decide (1 ≤ xs[k].id) && decide (xs[k].id ≤ 9999) && isCode xs[k].code && (xs.take k).all (fun y => y.id != xs[k].id)) := by
  unfold goodL
  rw [List.getElem?_eq_getElem hk]
theorem take_all_succ {α : Type} {p : α → Bool} (xs : List α) (m : Nat) (h : m < xs.length) : (xs.take (m + 1)).all p = ((xs.take m).all p && p xs[m]) := by
  rw [List.take_succ_eq_append_getElem h, List.all_append]; simp
theorem take_all_bad {α : Type} {p : α → Bool} (xs : List α) (m k : Nat) (h : m < xs.length) (hk : m < k) (hp : p xs[m] = false) : (xs.take k).all p = false := by
  rw [List.all_eq_false]
  refine ⟨xs[m], ?_, by simp [hp]⟩
  rw [List.mem_take_iff_getElem]
  exact ⟨m, by omega, rfl⟩
theorem okB_iff {xs : List Ltr} : okB xs = true ↔ xs.length ≤ 60 ∧ ∀ k (h : k < xs.length), 1 ≤ xs[k].id ∧ xs[k].id ≤ 9999 ∧ isCode xs[k].code = true ∧ ∀ j (hj : j < k), xs[j].id ≠ xs[k].id := by
  unfold okB
  rw [Bool.and_eq_true, decide_eq_true_iff, List.all_eq_true]
  refine and_congr Iff.rfl ⟨fun h k hk => ?_, fun h k hk => ?_⟩
  · have := h k (by simpa using hk)
    rw [goodL_of hk] at this
    simp only [Bool.and_eq_true, decide_eq_true_iff] at this
    refine ⟨this.1.1.1, this.1.1.2, this.1.2, fun j hj => ?_⟩
    have hh := List.all_eq_true.1 this.2 xs[j] (by rw [List.mem_take_iff_getElem]; exact ⟨j, by omega, rfl⟩)
    simpa using hh
  · have hk' : k < xs.length := by simpa using hk
    obtain ⟨h1, h2, h3, h4⟩ := h k hk'
    rw [goodL_of hk']
    simp only [Bool.and_eq_true, decide_eq_true_iff]
    refine ⟨⟨⟨h1, h2⟩, h3⟩, List.all_eq_true.2 fun y hy => ?_⟩
    rw [List.mem_take_iff_getElem] at hy
    obtain ⟨j, hj, rfl⟩ := hy
    simpa using h4 j (by omega)

end Go.Proofs.Ytnlljekijlkigaa

namespace Go.Proofs.Ytnlljekijlkigaa
open Go.RowKit

def lessOr (l n : Int) : Int := if l < n then -1 else l - n
def sumSz (xs : List Ltr) : Nat := (xs.map fun x => x.code.size).sum
theorem sumSz_succ (xs : List Ltr) (k : Nat) (h : k < xs.length) : sumSz (xs.take (k + 1)) = sumSz (xs.take k) + xs[k].code.size := by
  unfold sumSz; rw [List.take_succ_eq_append_getElem h, List.map_append, List.sum_append]; simp
theorem sumSz_le (xs : List Ltr) (k : Nat) : sumSz (xs.take k) ≤ sumSz xs := by
  unfold sumSz
  conv => rhs; rw [← List.take_append_drop k xs, List.map_append, List.sum_append]
  omega

theorem laws_szLetter (x : Ltr) (l : Int) (w : World) (hx : x.code.size ≤ maxLen) (h0 : 0 ≤ l) (h1 : l ≤ 1048576) :
    Calls Try.prog 100 #[.agg #[.int .i64 x.id, .string x.code], .int .i64 l] w fun e w' => e = .returned (.int .i64 (lessOr l x.code.size)) ∧ Below w.heap.size w w' := by
  unfold maxLen at hx
  go_enter Try.func100, Try.ntmps100
  by_cases h : l < x.code.size
  · go_wp2
    go_ret
    exact ⟨ret_int (by unfold lessOr; rw [if_pos h]), (Below.refl _ _).alloc (Nat.le_refl _) _⟩
  · go_wp2
    go_ret
    exact ⟨ret_int (by unfold lessOr; rw [if_neg (by omega)]), (Below.refl _ _).alloc (Nat.le_refl _) _⟩

set_option maxHeartbeats 400000 in
theorem laws_szLetterS (v : Value) (xs : List Ltr) (l : Int) (w : World) (hv : rd w w.heap.size v xs) (h0 : 0 ≤ l) (h1 : l ≤ 1048576) :
    Calls Try.prog 46 #[v, .int .i64 l] w fun e w' => e = .returned (.int .i64 (lessOr l (xs.length + sumSz xs))) ∧ Below w.heap.size w w' := by
  obtain ⟨A, n, c, rfl, hn, hc, hm, hr⟩ := hv
  subst hn
  unfold maxLen at hm
  have HR := Lib.hid hr; clear hr
  go_enter Try.func46, Try.ntmps46
  by_cases h : l < xs.length
  · go_wp2
    go_ret
    exact ⟨ret_int (by unfold lessOr; rw [if_pos (by omega)]), Below.refl _ _⟩
  · go_wp2
    go_loopw [1, 5] (fun t i wr => ∃ (k : Nat) (m : Int), k ≤ xs.length ∧ i = .int .i64 k ∧ t = .int .i64 m ∧ 0 ≤ m ∧ m ≤ 1048576 ∧ Below w.heap.size w wr ∧ Hid (m = l - xs.length - sumSz (xs.take k))) (fun _ i _ => xs.length - (intOf i).toNat)
    case atStart => exact ⟨0, _, Nat.zero_le _, rfl, rfl, by omega, by omega, Below.refl _ _, by show _ = _; simp [sumSz]⟩
    case round =>
      obtain ⟨k, m, hk, rfl, rfl, m0, m1, hbl, HM⟩ := hrel
      obtain ⟨w1, rfl⟩ : ∃ w1 : World, w1 = wr := ⟨_, rfl⟩
      by_cases hlt : k < xs.length
      · obtain ⟨b, o, rfl, hb, ⟨⟨o1, o2⟩, o3⟩, c1, c2⟩ := HR.out.ltr k hlt
        have HS := Lib.hid (sumSz_succ xs k hlt)
        have HL := Lib.hid (sumSz_le xs (k + 1))
        generalize xs[k] = x at *
        have c1' : w1.cell? ⟨b, o + k * 2, none⟩ = some (.int .i64 x.id) := (hbl.cell (p := ⟨b, o + k * 2, none⟩) hb).trans c1
        have c2' : w1.cell? ⟨b, o + k * 2 + 1, none⟩ = some (.string x.code) := (hbl.cell (p := ⟨b, o + k * 2 + 1, none⟩) hb).trans c2
        clear c1 c2
        by_cases hs : m < x.code.size
        · have he : lessOr m x.code.size = -1 := by unfold lessOr; rw [if_pos hs]
          go_wp2_with (go_at_call 100; refine (laws_szLetter _ _ _ o3 m0 m1).mono ?_; rw [he]; rintro e w' ⟨rfl, hb1⟩)
          go_ret
          refine ⟨ret_int ?_, hbl.trans (hb1.mono hbl.size)⟩
          have := HM.out; have h2 := HS.out; have h3 := HL.out
          unfold lessOr; rw [if_pos (by omega)]
        · have he : lessOr m x.code.size = m - x.code.size := by unfold lessOr; rw [if_neg hs]
          have hnn : 0 ≤ m - (x.code.size : Int) := by omega
          have hnn2 : m - (x.code.size : Int) ≤ 1048576 := by omega
          go_wp2_with (go_at_call 100; refine (laws_szLetter _ _ _ o3 m0 m1).mono ?_; rw [he]; rintro e w' ⟨rfl, hb1⟩)
          go_roundw
          case rel =>
            refine ⟨k + 1, _, by omega, by go_num, rfl, hnn, hnn2, hbl.trans (hb1.mono hbl.size), ?_⟩
            show _ = _
            have := HM.out; have h2 := HS.out
            omega
          case measure => simp [intOf]; omega
      · have HE := Lib.hid (show k = xs.length by omega)
        go_wp2
        go_ret
        refine ⟨ret_int ?_, hbl⟩
        have := HM.out
        rw [HE.out, List.take_length] at this
        unfold lessOr; rw [if_neg (by omega)]; omega

theorem laws_toLetter (x : Ltr) (w : World) :
    Calls Try.prog 105 #[.agg #[.int .i64 x.id, .string x.code]] w fun e w' => e = .returned (.agg #[.int .i64 x.id, .string x.code]) ∧ Below w.heap.size w w' := by
  go_enter Try.func105, Try.ntmps105
  go_wp2
  refine bodyPost_ret (v := .agg #[.int .i64 x.id, .string x.code]) (by simp [results, Try.results105, go_sem]) rfl ⟨rfl, ?_⟩
  go_grown

def ltrEq (x y : Ltr) : Bool := x.id == y.id && sEq x.code y.code
theorem ltrEq_iff (x y : Ltr) : ltrEq x y = true ↔ x = y := by
  cases x; cases y; simp [ltrEq, sEq_iff]

theorem laws_eqLetter (x y : Ltr) (w : World) :
    Calls Try.prog 110 #[.agg #[.int .i64 x.id, .string x.code], .agg #[.int .i64 y.id, .string y.code]] w fun e w' => e = .returned (.bool (ltrEq x y)) ∧ Below w.heap.size w w' := by
  have hB : Below w.heap.size w ((w.alloc (Obj.cells #[Value.int IntKind.i64 x.id, Value.string x.code] 49)).alloc (Obj.cells #[Value.int IntKind.i64 y.id, Value.string y.code] 49)) := by
    exact ((Below.refl _ _).alloc (Nat.le_refl _) _).alloc (by simp) _
  by_cases h1 : x.id = y.id
  · have g1 : (x.id != y.id) = false := by simp [h1]
    have g1' := Lib.hid h1
    clear h1
    cases h2 : sEq x.code y.code
    · have h3 := Lib.hid h2
      unfold sEq at h2
      go_enter Try.func110, Try.ntmps110
      go_wp2
      go_ret
      exact ⟨ret_bool (by simp [ltrEq, h3.out]), hB⟩
    · have h3 := Lib.hid h2
      unfold sEq at h2
      go_enter Try.func110, Try.ntmps110
      go_wp2
      go_ret
      exact ⟨ret_bool (by simp [ltrEq, h3.out, g1'.out]), hB⟩
  · have g1 : (x.id != y.id) = true := by simp [h1]
    have g1' := Lib.hid h1
    clear h1
    go_enter Try.func110, Try.ntmps110
    go_wp2
    go_ret
    exact ⟨ret_bool (by simp [ltrEq, g1'.out]), hB⟩

set_option maxRecDepth 100000 in
set_option maxHeartbeats 400000 in
theorem laws_eqLetterS (v v' : Value) (xs ys : List Ltr) (w : World) (hv : rd w w.heap.size v xs) (hv' : rd w w.heap.size v' ys) :
    Calls Try.prog 52 #[v, v'] w fun e w' => e = .returned (.bool (eqBy ltrEq xs ys)) ∧ Below w.heap.size w w' := by
  obtain ⟨A, n, c, rfl, hn, hc, hm, hr⟩ := hv
  obtain ⟨A', n', c', rfl, hn', hc', hm', hr'⟩ := hv'
  subst hn hn'
  unfold maxLen at hm hm'
  have HR := Lib.hid hr; clear hr
  have HR' := Lib.hid hr'; clear hr'
  go_enter Try.func52, Try.ntmps52
  by_cases hl : xs.length = ys.length
  · have hl1 : ((xs.length : Int) != (ys.length : Int)) = false := by simp [hl]
    have HL := Lib.hid hl; clear hl
    go_wp2
    go_loopw [5] (fun i wr => ∃ k : Nat, k ≤ xs.length ∧ i = .int .i64 k ∧ Below w.heap.size w wr ∧ Hid (∀ j (h1 : j < xs.length) (h2 : j < ys.length), j < k → ltrEq xs[j] ys[j] = true)) (fun i _ => xs.length - (intOf i).toNat)
    case atStart => exact ⟨0, Nat.zero_le _, rfl, Below.refl _ _, fun j _ _ hj => absurd hj (Nat.not_lt_zero j)⟩
    case round =>
      obtain ⟨k, hk, rfl, hbl, HG⟩ := hrel
      obtain ⟨w1, rfl⟩ : ∃ w1 : World, w1 = wr := ⟨_, rfl⟩
      by_cases hlt : k < xs.length
      · have hlt' : k < ys.length := by rw [← HL.out]; exact hlt
        obtain ⟨b, o, rfl, hb, _, c1, c2⟩ := HR.out.ltr k hlt
        obtain ⟨b', o', rfl, hb', _, d1, d2⟩ := HR'.out.ltr k hlt'
        have hbad := Lib.hid (fun h => eqBy_bad (p := ltrEq) k hlt hlt' h)
        have HX : Hid (∀ h : ltrEq xs[k] ys[k] = true, ∀ j (h1 : j < xs.length) (h2 : j < ys.length), j < k + 1 → ltrEq xs[j] ys[j] = true) := fun h j h1 h2 hj => by
          by_cases hjk : j < k
          · exact HG.out j h1 h2 hjk
          · obtain rfl : j = k := by omega
            exact h
        generalize xs[k] = x at *
        generalize ys[k] = y at *
        have c1' : w1.cell? ⟨b, o + k * 2, none⟩ = some (.int .i64 x.id) := (hbl.cell (p := ⟨b, o + k * 2, none⟩) hb).trans c1
        have c2' : w1.cell? ⟨b, o + k * 2 + 1, none⟩ = some (.string x.code) := (hbl.cell (p := ⟨b, o + k * 2 + 1, none⟩) hb).trans c2
        have d1' : w1.cell? ⟨b', o' + k * 2, none⟩ = some (.int .i64 y.id) := (hbl.cell (p := ⟨b', o' + k * 2, none⟩) hb').trans d1
        have d2' : w1.cell? ⟨b', o' + k * 2 + 1, none⟩ = some (.string y.code) := (hbl.cell (p := ⟨b', o' + k * 2 + 1, none⟩) hb').trans d2
        clear c1 c2 d1 d2
        have hki : (k : Int) < (xs.length : Int) := by omega
        have hki' : (k : Int) < (ys.length : Int) := by omega
        have hb2 : Below w.heap.size w w1.drew := hbl.drew
        cases he : ltrEq x y
        · have he' := Lib.hid he; clear he
          go_wp2
          go_still_tail 8, (by kernel_rfl)
          change wpList _ _ _ _ _ w1.drew
          generalize w1.drew = w2 at *
          go_wp2_with (go_at_call 110; refine (laws_eqLetter _ _ _).mono ?_; rw [he'.out]; rintro e w' ⟨rfl, hb3⟩)
          go_ret
          exact ⟨ret_bool (hbad.out he'.out).symm, hb2.trans (hb3.mono hb2.size)⟩
        · have he' := Lib.hid he; clear he
          go_wp2
          go_still_tail 8, (by kernel_rfl)
          change wpList _ _ _ _ _ w1.drew
          generalize w1.drew = w2 at *
          go_wp2_with (go_at_call 110; refine (laws_eqLetter _ _ _).mono ?_; rw [he'.out]; rintro e w' ⟨rfl, hb3⟩)
          go_roundw
          case rel => exact ⟨k + 1, by omega, by go_num, hb2.trans (hb3.mono hb2.size), HX.out he'.out⟩
          case measure => simp [intOf]; omega
      · have HE := Lib.hid (show k = xs.length by omega)
        go_wp2
        go_ret
        exact ⟨ret_bool (eqBy_good HL.out fun j h1 h2 => HG.out j h1 h2 (by rw [HE.out]; exact h1)).symm, hbl⟩
  · have hl1 : ((xs.length : Int) != (ys.length : Int)) = true := by simp; omega
    have HL := Lib.hid hl; clear hl
    go_wp2
    go_ret
    exact ⟨ret_bool (eqBy_len HL.out).symm, Below.refl _ _⟩

end Go.Proofs.Ytnlljekijlkigaa

namespace Go.Proofs.Ytnlljekijlkigaa
open Go.RowKit

theorem ltr_equalIn (a c : Int) (b d : ByteArray) (w : World) : (Op.equalIn 10000 49 (.agg #[.int .i64 a, .string b]) (.agg #[.int .i64 c, .string d])).run Try.prog w = .ok (ltrEq ⟨a, b⟩ ⟨c, d⟩) w := by
  have u3 := Try.underlying3
  have a3 := Try.isAgg3
  have z3 := Try.sizeOf3
  have u9 := Try.underlying9
  have a9 := Try.isAgg9
  have z9 := Try.sizeOf9
  have hS : Try.prog.underlying 49 = some (.struct (Try.prog.fieldsOf 49)) := by kernel_rfl
  rw [show (10000 : Nat) = 9999 + 1 from rfl, run_equalIn_agg w 9999 49 _ _ hS (by kernel_rfl)]
  simp only [Program.fieldsOf, Try.underlying49]
  go_simp
  unfold ltrEq sEq
  by_cases h1 : a = c <;> by_cases h2 : b.toList = d.toList <;> simp [h1, h2]
theorem ltr_neq (a c : Int) (b d : ByteArray) (w : World) : (binOp .neq 49 (.agg #[.int .i64 a, .string b]) (.agg #[.int .i64 c, .string d])).run Try.prog w = .ok (.bool (!ltrEq ⟨a, b⟩ ⟨c, d⟩)) w := by
  rw [run_neq_struct, ltr_equalIn]; rfl
theorem ltr_eql (a c : Int) (b d : ByteArray) (w : World) : (binOp .eql 49 (.agg #[.int .i64 a, .string b]) (.agg #[.int .i64 c, .string d])).run Try.prog w = .ok (.bool (ltrEq ⟨a, b⟩ ⟨c, d⟩)) w := by
  rw [run_eql_struct, ltr_equalIn]; rfl
theorem ltr_guard (op : BinOp) (x y : Operand) (xs ys : Array Value) (w : World) : (eqGuard op 49 x y (.agg xs) (.agg ys)).run Try.prog w = .ok () w := run_eqGuard_agg w op _ x y xs ys (by kernel_rfl)

set_option maxHeartbeats 400000 in
theorem laws_soBatch (v v' : Value) (xs ys : List Ltr) (w : World) (hv : rd w w.heap.size v xs) (hv' : rd w w.heap.size v' ys) :
    Calls Try.prog 23 #[v, v'] w fun e w' => e = .returned (.bool (eqBy ltrEq xs ys)) ∧ Below w.heap.size w w' := by
  obtain ⟨A, n, c, rfl, hn, hc, hm, hr⟩ := hv
  obtain ⟨A', n', c', rfl, hn', hc', hm', hr'⟩ := hv'
  subst hn hn'
  unfold maxLen at hm hm'
  have HR := Lib.hid hr; clear hr
  have HR' := Lib.hid hr'; clear hr'
  go_enter Try.func23, Try.ntmps23
  by_cases hl : xs.length = ys.length
  · have hl1 : ((xs.length : Int) != (ys.length : Int)) = false := by simp [hl]
    have HL := Lib.hid hl; clear hl
    go_wp2
    go_loopw [5] (fun i wr => ∃ k : Nat, k ≤ xs.length ∧ i = .int .i64 k ∧ Below w.heap.size w wr ∧ Hid (∀ j (h1 : j < xs.length) (h2 : j < ys.length), j < k → ltrEq xs[j] ys[j] = true)) (fun i _ => xs.length - (intOf i).toNat)
    case atStart => exact ⟨0, Nat.zero_le _, rfl, Below.refl _ _, fun j _ _ hj => absurd hj (Nat.not_lt_zero j)⟩
    case round =>
      obtain ⟨k, hk, rfl, hbl, HG⟩ := hrel
      obtain ⟨w1, rfl⟩ : ∃ w1 : World, w1 = wr := ⟨_, rfl⟩
      by_cases hlt : k < xs.length
      · have hlt' : k < ys.length := by rw [← HL.out]; exact hlt
        obtain ⟨b, o, rfl, hb, _, c1, c2⟩ := HR.out.ltr k hlt
        obtain ⟨b', o', rfl, hb', _, d1, d2⟩ := HR'.out.ltr k hlt'
        have hbad := Lib.hid (fun h => eqBy_bad (p := ltrEq) k hlt hlt' h)
        have HX : Hid (∀ h : ltrEq xs[k] ys[k] = true, ∀ j (h1 : j < xs.length) (h2 : j < ys.length), j < k + 1 → ltrEq xs[j] ys[j] = true) := fun h j h1 h2 hj => by
          by_cases hjk : j < k
          · exact HG.out j h1 h2 hjk
          · obtain rfl : j = k := by omega
            exact h
        generalize xs[k] = x at *
        generalize ys[k] = y at *
        have c1' : w1.cell? ⟨b, o + k * 2, none⟩ = some (.int .i64 x.id) := (hbl.cell (p := ⟨b, o + k * 2, none⟩) hb).trans c1
        have c2' : w1.cell? ⟨b, o + k * 2 + 1, none⟩ = some (.string x.code) := (hbl.cell (p := ⟨b, o + k * 2 + 1, none⟩) hb).trans c2
        have d1' : w1.cell? ⟨b', o' + k * 2, none⟩ = some (.int .i64 y.id) := (hbl.cell (p := ⟨b', o' + k * 2, none⟩) hb').trans d1
        have d2' : w1.cell? ⟨b', o' + k * 2 + 1, none⟩ = some (.string y.code) := (hbl.cell (p := ⟨b', o' + k * 2 + 1, none⟩) hb').trans d2
        clear c1 c2 d1 d2
        have hki : (k : Int) < (xs.length : Int) := by omega
        have hki' : (k : Int) < (ys.length : Int) := by omega
        have q1 := ltr_neq x.id y.id x.code y.code
        have q2 := ltr_guard
        cases he : ltrEq x y
        · have he' := Lib.hid he
          have he2 : ltrEq ⟨x.id, x.code⟩ ⟨y.id, y.code⟩ = false := he
          clear he
          go_wp2
          go_quiet (fail)
          go_wp2
          go_ret
          exact ⟨ret_bool (hbad.out he'.out).symm, below_drewN hbl _⟩
        · have he' := Lib.hid he
          have he2 : ltrEq ⟨x.id, x.code⟩ ⟨y.id, y.code⟩ = true := he
          clear he
          go_wp2
          go_quiet (fail)
          go_wp2
          go_roundw
          case rel => exact ⟨k + 1, by omega, by go_num, below_drewN hbl _, HX.out he'.out⟩
          case measure => simp [intOf]; omega
      · have HE := Lib.hid (show k = xs.length by omega)
        go_wp2
        go_ret
        exact ⟨ret_bool (eqBy_good HL.out fun j h1 h2 => HG.out j h1 h2 (by rw [HE.out]; exact h1)).symm, hbl⟩
  · have hl1 : ((xs.length : Int) != (ys.length : Int)) = true := by simp; omega
    have HL := Lib.hid hl; clear hl
    go_wp2
    go_ret
    exact ⟨ret_bool (eqBy_len HL.out).symm, Below.refl _ _⟩

end Go.Proofs.Ytnlljekijlkigaa

namespace Go.Proofs.Ytnlljekijlkigaa
open Go.RowKit

theorem flatten_set {α : Type} {n : Nat} : ∀ {l : List (List α)} (_ : ∀ x ∈ l, x.length = n) {k j : Nat} (hk : k < l.length) (_ : j < n) (u : α), l.flatten.set (k * n + j) u = (l.set k ((l[k]).set j u)).flatten
  | [], _, k, j, hk, _, _ => absurd hk (Nat.not_lt_zero k)
  | x :: l, h, 0, j, _, hj, u => by
    have hx := h x (List.mem_cons_self ..)
    simp only [Nat.zero_mul, Nat.zero_add, List.flatten_cons, List.getElem_cons_zero, List.set_cons_zero]
    rw [List.set_append_left _ _ (by omega)]
  | x :: l, h, k + 1, j, hk, hj, u => by
    have hx := h x (List.mem_cons_self ..)
    simp only [List.flatten_cons, List.getElem_cons_succ, List.set_cons_succ]
    rw [List.set_append_right _ _ (by rw [hx, Nat.add_mul]; omega), hx, show (k + 1) * n + j - n = k * n + j by rw [Nat.add_mul]; omega,
      flatten_set (fun y hy => h y (List.mem_cons_of_mem _ hy)) (by simpa using hk) hj u]

section
variable {α : Type} [Flat α] {T : TypeId} {base : Nat} {w w' : World} {xs : List α} {g n c : Nat}
theorem own.setCell (h : own T base w (.slice (some ⟨g, 0, none⟩) n c) xs) {k j : Nat} (hk : k < xs.length) (hj : j < El.size α) (u : Value) (y : α)
    (he : ∀ ecs, El.el w w.heap.size xs[k] ecs → El.el w w.heap.size y (ecs.set j u)) :
    own T base (w.setCell ⟨g, k * El.size α + j, none⟩ u) (.slice (some ⟨g, 0, none⟩) n c) (xs.set k y) := by
  obtain ⟨css, ⟨h1, h2⟩, h3, h4⟩ := h
  have hcs : ∀ x ∈ css, x.length = El.size α := fun x hx => by
    obtain ⟨i, hi, rfl⟩ := List.getElem_of_mem hx
    exact El.len (h4 i (by omega) hi)
  refine ⟨css.set k ((css[k]'(by omega)).set j u), ⟨?_, .inr ?_⟩, by simp [h3], fun i hi hi' => ?_⟩
  · rw [← flatten_set hcs (by omega) hj u, List.length_set, List.length_set]
    exact h1
  · rcases h2 with ⟨h2, _⟩ | ⟨g', cap, cur, hv, hg, hh, hc, hm, hs, ht⟩
    · injection h2 with h2
      cases h2
    · injection hv with e1 e2 e3
      injection e1 with e1
      injection e1 with e1
      subst e1 e2 e3
      have hkn : k * El.size α + El.size α ≤ xs.length * El.size α := by
        rw [← Nat.succ_mul]
        exact Nat.mul_le_mul_right _ (by omega)
      refine ⟨g, c, cur.setIfInBounds (k * El.size α + j) u, by simp, hg, by simp [World.setCell, Array.getElem?_modify, hh], by simpa using hc, hm, by simpa using hs, ?_⟩
      rw [← flatten_set hcs (by omega) hj u, ← ht, List.length_set, Array.toList_setIfInBounds]
      rw [List.take_set]
  · by_cases hik : i = k
    · subst hik
      simp only [List.getElem_set_self]
      exact Flat.free (he _ (h4 i (by simpa using hi) (by omega)))
    · rw [List.getElem_set_ne (by omega), List.getElem_set_ne (by omega)]
      exact Flat.free (h4 i (by simpa using hi) (by simpa using hi'))
/-- The cells of an owned row lie in its block. -/
theorem own.cellAt (h : own T base w (.slice (some ⟨g, 0, none⟩) n c) xs) {j : Nat} (hj : j < xs.length * El.size α) : ∃ u, w.cell? ⟨g, j, none⟩ = some u := by
  obtain ⟨css, ⟨h1, h2⟩, h3, h4⟩ := h
  rcases h2 with ⟨h2, _⟩ | ⟨g', cap, cur, hv, hg, hh, hc, hm, hs, ht⟩
  · injection h2 with h2
    cases h2
  · injection hv with e1 e2 e3
    injection e1 with e1
    injection e1 with e1
    subst e1
    have hle : xs.length * El.size α ≤ cap * El.size α := Nat.mul_le_mul_right _ hc
    exact ⟨cur[j]'(by omega), by rw [cell_of_row _ _ _ _ _ _ hh]; exact Array.getElem?_eq_getElem _⟩
theorem own.freeAt (h : own T base w (.slice (some ⟨g, 0, none⟩) n c) xs) (j : Nat) : w.frozen? ⟨g, j, none⟩ = false := by
  obtain ⟨css, ⟨h1, h2⟩, h3, h4⟩ := h
  rcases h2 with ⟨h2, _⟩ | ⟨g', cap, cur, hv, hg, hh, hc, hm, hs, ht⟩
  · injection h2 with h2
    cases h2
  · injection hv with e1 e2 e3
    injection e1 with e1
    injection e1 with e1
    subst e1
    simp [World.frozen?, hh]
end

/-! 'Only the row, and what is new, has turned.' -/
theorem grown_drewN {a w : World} {row : Option Nat} (h : a.grownBy w row) (n : Nat) : a.grownBy (w.drewN n) row := ⟨h.os, h.tape, h.output, h.size, h.block⟩
theorem grown_below {a w w' : World} {row : Option Nat} (h : a.grownBy w row) (hb : Below w.heap.size w w') : a.grownBy w' row :=
  ⟨hb.os.trans h.os, hb.tape.trans h.tape, hb.output.trans h.output, Nat.le_trans h.size hb.size, fun i hi hne => (hb.block i (Nat.lt_of_lt_of_le hi h.size)).trans (h.block i hi hne)⟩
theorem grown_setCell {a w : World} {g : Nat} (h : a.grownBy w (some g)) {p : Addr} (hp : p.block = g ∨ a.heap.size ≤ p.block) (u : Value) : a.grownBy (w.setCell p u) (some g) :=
  ⟨h.os, h.tape, h.output, by simpa [World.setCell] using h.size, fun i hi hne => (Below.heap_setCell w p u i (by
    rintro rfl
    rcases hp with hp | hp
    · exact hne (by rw [hp])
    · omega)).trans (h.block i hi hne)⟩
theorem below_of_grown {a w : World} {row : Option Nat} {B : Nat} (h : a.grownBy w row) (hB : B ≤ a.heap.size) (hr : ∀ k, row = some k → B ≤ k) : Below B a w :=
  (Below.refl B a).grown h hB hr

/-- 'out := []T{}' -/
theorem own.made0 {α : Type} [El α] (w : World) (T : TypeId) {base : Nat} (hb : base ≤ w.heap.size) : own T base (w.alloc (.cells #[] T)) (.slice (some ⟨w.heap.size, 0, none⟩) 0 0) ([] : List α) :=
  ⟨[], World.ownsRow_made w #[] 0 hb (Nat.zero_le _) (by simp), rfl, fun k h => absurd h (Nat.not_lt_zero k)⟩
/-- The cells of a block just made, as a list. -/
theorem news_at (w : World) (T : TypeId) (cs : List Value) : ∀ j u, cs[j]? = some u → (w.alloc (.cells cs.toArray T)).cell? ((⟨w.heap.size, 0, none⟩ : Addr).add j) = some u := fun j u hu => by
  rw [add_lit, Nat.zero_add, cell_new]
  simpa using hu
theorem below_append {base : Nat} {w w' : World} {v : Value} {α : Type} [El α] {T : TypeId} {xs : List α} (h : own T base w v xs) (hg : w.grownBy w' v.ownBlock) (hb : base ≤ w.heap.size) : Below base w w' :=
  below_of_grown hg hb fun k hk => (h.blk k hk).1

/-- Two rows in two blocks. -/
def apart (v v' : Value) : Prop := v.ownBlock = none ∨ v.ownBlock ≠ v'.ownBlock
theorem apart_lt {α β : Type} [El α] [El β] {T T' : TypeId} {b b' : Nat} {w w' : World} {v v' : Value} {xs : List α} {ys : List β} (h : own T b w v xs) (h' : own T' b' w' v' ys) (hle : w.heap.size ≤ b') : apart v v' := by
  unfold apart
  cases hv : v.ownBlock with
  | none => exact .inl rfl
  | some k =>
    refine .inr fun e => ?_
    have h1 := (h.blk k hv).2
    have h2 := (h'.blk k e.symm).1
    omega
theorem apart_gt {α β : Type} [El α] [El β] {T T' : TypeId} {b b' : Nat} {w w' : World} {v v' : Value} {xs : List α} {ys : List β} (h : own T b w v xs) (h' : own T' b' w' v' ys) (hle : w'.heap.size ≤ b) : apart v v' := by
  unfold apart
  cases hv : v.ownBlock with
  | none => exact .inl rfl
  | some k =>
    refine .inr fun e => ?_
    have h1 := (h.blk k hv).1
    have h2 := (h'.blk k e.symm).2
    omega
theorem below_mark {α : Type} [El α] {T : TypeId} {b : Nat} {w0 w w' : World} {v : Value} {xs : List α} (h : own T b w v xs) (hg : w.grownBy w' v.ownBlock) (hb : w0.heap.size ≤ b) (hw : Below w0.heap.size w0 w) : Below w0.heap.size w0 w' :=
  hw.grown hg hw.size fun k hk => Nat.le_trans hb (h.blk k hk).1

end Go.Proofs.Ytnlljekijlkigaa
