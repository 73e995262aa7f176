/- L0 L1 W1 GFwd -/
import Derived.Test.YtmangjjaijhcnaaQ1
import Derived.StillTailTactics
import Derived.Handy
namespace Go.Proofs.Ytmangjjaijhcnaa
open Go.RowKit

structure Ltr where
  id : Int
  code : ByteArray

def isI64 (n : Int) : Prop := -9223372036854775808 ≤ n ∧ n ≤ 9223372036854775807
theorem wf_range {n : Int} (h : (Lit.int .i64 n).wf = true) : isI64 n := by
  simp [Lit.wf, IntKind.min, IntKind.max, IntKind.signed, IntKind.bits] at h
  unfold isI64
  omega
def Ltr.ok (x : Ltr) : Prop := isI64 x.id ∧ x.code.size ≤ maxLen
def Ltr.cells (x : Ltr) : List Value := [.int .i64 x.id, .string x.code]

instance elLtr : El Ltr where
  size := 2
  el _ _ x cs := x.ok ∧ cs = x.cells
  len h := by rw [h.2]; rfl
  more h _ := h
  keep h _ := h
  one h := by rw [h.2]; intro u hu; simp [Ltr.cells] at hu; rcases hu with rfl | rfl <;> rfl
instance flatLtr : Flat Ltr where
  free h := h

theorem rdA.ltr {w : World} {B : Nat} {A : Option Addr} {xs : List Ltr} (h : rdA w B A xs) (k : Nat) (hk : k < xs.length) :
    ∃ b o, A = some ⟨b, o, none⟩ ∧ b < B ∧ (xs[k]).ok ∧ w.cell? ⟨b, o + k * 2, none⟩ = some (.int .i64 (xs[k]).id) ∧ w.cell? ⟨b, o + k * 2 + 1, none⟩ = some (.string (xs[k]).code) := by
  obtain ⟨b, o, cs, hA, hb, ⟨hok, rfl⟩, hc⟩ := h k hk
  exact ⟨b, o, hA, hb, hok, by simpa [Ltr.cells, El.size] using hc 0 _ rfl, by simpa [Ltr.cells, El.size, Nat.add_assoc] using hc 1 _ rfl⟩

def goodL (xs : List Ltr) (k : Nat) : Bool :=
  match xs[k]? with
  | none => false
  | some x => decide (1 ≤ x.id) && decide (x.id ≤ 9999) && isCode x.code && (xs.take k).all (fun y => y.id != x.id)
def okB (xs : List Ltr) : Bool := decide (xs.length ≤ 60) && (List.range xs.length).all (goodL xs)

theorem okB_bad {xs : List Ltr} {k : Nat} (hk : k < xs.length) (h : goodL xs k = false) : okB xs = false := by
  unfold okB
  rw [Bool.and_eq_false_iff]
  exact .inr (List.all_eq_false.2 ⟨k, by simpa using hk, by simp [h]⟩)
theorem okB_good {xs : List Ltr} (h60 : xs.length ≤ 60) (h : ∀ j, j < xs.length → goodL xs j = true) : okB xs = true := by
  unfold okB
  simp [h60]
  exact h
theorem goodL_of {xs : List Ltr} {k : Nat} (hk : k < xs.length) : goodL xs k = (decide (1 ≤ xs[k].id) && decide (xs[k].id ≤ 9999) && isCode xs[k].code && (xs.take k).all (fun y => y.id != xs[k].id)) := by
  unfold goodL
  rw [List.getElem?_eq_getElem hk]
theorem take_all_succ {α : Type} {p : α → Bool} (xs : List α) (m : Nat) (h : m < xs.length) : (xs.take (m + 1)).all p = ((xs.take m).all p && p xs[m]) := by
  rw [List.take_succ_eq_append_getElem h, List.all_append]; simp
theorem take_all_bad {α : Type} {p : α → Bool} (xs : List α) (m k : Nat) (h : m < xs.length) (hk : m < k) (hp : p xs[m] = false) : (xs.take k).all p = false := by
  rw [List.all_eq_false]
  refine ⟨xs[m], ?_, by simp [hp]⟩
  rw [List.mem_take_iff_getElem]
  exact ⟨m, by omega, rfl⟩
theorem okB_iff {xs : List Ltr} : okB xs = true ↔ xs.length ≤ 60 ∧ ∀ k (h : k < xs.length), 1 ≤ xs[k].id ∧ xs[k].id ≤ 9999 ∧ isCode xs[k].code = true ∧ ∀ j (hj : j < k), xs[j].id ≠ xs[k].id := by
  unfold okB
  rw [Bool.and_eq_true, decide_eq_true_iff, List.all_eq_true]
  refine and_congr Iff.rfl ⟨fun h k hk => ?_, fun h k hk => ?_⟩
  · have := h k (by simpa using hk)
    rw [goodL_of hk] at this
    simp only [Bool.and_eq_true, decide_eq_true_iff] at this
    refine ⟨this.1.1.1, this.1.1.2, this.1.2, fun j hj => ?_⟩
    have hh := List.all_eq_true.1 this.2 xs[j] (by rw [List.mem_take_iff_getElem]; exact ⟨j, by omega, rfl⟩)
    simpa using hh
  · have hk' : k < xs.length := by simpa using hk
    obtain ⟨h1, h2, h3, h4⟩ := h k hk'
    rw [goodL_of hk']
    simp only [Bool.and_eq_true, decide_eq_true_iff]
    refine ⟨⟨⟨h1, h2⟩, h3⟩, List.all_eq_true.2 fun y hy => ?_⟩
    rw [List.mem_take_iff_getElem] at hy
    obtain ⟨j, hj, rfl⟩ := hy
    simpa using h4 j (by omega)

end Go.Proofs.Ytmangjjaijhcnaa

namespace Go.Proofs.Ytmangjjaijhcnaa
open Go.RowKit

instance elStr : El ByteArray where
  size := 1
  el _ _ x cs := x.size ≤ maxLen ∧ cs = [.string x]
  len h := by rw [h.2]; rfl
  more h _ := h
  keep h _ := h
  one h := by rw [h.2]; intro u hu; simp at hu; rw [hu]; rfl
instance flatStr : Flat ByteArray where
  free h := h
theorem rdA.str {w : World} {B : Nat} {A : Option Addr} {xs : List ByteArray} (h : rdA w B A xs) (k : Nat) (hk : k < xs.length) :
    ∃ b o, A = some ⟨b, o, none⟩ ∧ b < B ∧ (xs[k]).size ≤ maxLen ∧ w.cell? ⟨b, o + k, none⟩ = some (.string xs[k]) := by
  obtain ⟨b, o, cs, hA, hb, ⟨hi, rfl⟩, hc⟩ := h k hk
  exact ⟨b, o, hA, hb, hi, by simpa [El.size] using hc 0 _ rfl⟩

structure Mis where
  id : Int
  bin : Int
def Mis.ok (x : Mis) : Prop := isI64 x.id ∧ isI64 x.bin
def Mis.cells (x : Mis) : List Value := [.int .i64 x.id, .int .i64 x.bin]
instance elMis : El Mis where
  size := 2
  el _ _ x cs := x.ok ∧ cs = x.cells
  len h := by rw [h.2]; rfl
  more h _ := h
  keep h _ := h
  one h := by rw [h.2]; intro u hu; simp [Mis.cells] at hu; rcases hu with rfl | rfl <;> rfl
instance flatMis : Flat Mis where
  free h := h
theorem rdA.mis {w : World} {B : Nat} {A : Option Addr} {xs : List Mis} (h : rdA w B A xs) (k : Nat) (hk : k < xs.length) :
    ∃ b o, A = some ⟨b, o, none⟩ ∧ b < B ∧ (xs[k]).ok ∧ w.cell? ⟨b, o + k * 2, none⟩ = some (.int .i64 (xs[k]).id) ∧ w.cell? ⟨b, o + k * 2 + 1, none⟩ = some (.int .i64 (xs[k]).bin) := by
  obtain ⟨b, o, cs, hA, hb, ⟨hok, rfl⟩, hc⟩ := h k hk
  exact ⟨b, o, hA, hb, hok, by simpa [Mis.cells, El.size] using hc 0 _ rfl, by simpa [Mis.cells, El.size, Nat.add_assoc] using hc 1 _ rfl⟩

structure Fwd where
  src : ByteArray
  dst : ByteArray
def Fwd.ok (x : Fwd) : Prop := x.src.size ≤ maxLen ∧ x.dst.size ≤ maxLen
def Fwd.cells (x : Fwd) : List Value := [.string x.src, .string x.dst]
instance elFwd : El Fwd where
  size := 2
  el _ _ x cs := x.ok ∧ cs = x.cells
  len h := by rw [h.2]; rfl
  more h _ := h
  keep h _ := h
  one h := by rw [h.2]; intro u hu; simp [Fwd.cells] at hu; rcases hu with rfl | rfl <;> rfl
instance flatFwd : Flat Fwd where
  free h := h
theorem rdA.fwd {w : World} {B : Nat} {A : Option Addr} {xs : List Fwd} (h : rdA w B A xs) (k : Nat) (hk : k < xs.length) :
    ∃ b o, A = some ⟨b, o, none⟩ ∧ b < B ∧ (xs[k]).ok ∧ w.cell? ⟨b, o + k * 2, none⟩ = some (.string (xs[k]).src) ∧ w.cell? ⟨b, o + k * 2 + 1, none⟩ = some (.string (xs[k]).dst) := by
  obtain ⟨b, o, cs, hA, hb, ⟨hok, rfl⟩, hc⟩ := h k hk
  exact ⟨b, o, hA, hb, hok, by simpa [Fwd.cells, El.size] using hc 0 _ rfl, by simpa [Fwd.cells, El.size, Nat.add_assoc] using hc 1 _ rfl⟩

/-- A plan: bins, passes, the codes of the round. -/
structure Pln where
  bins : Int
  passes : Int
  order : List ByteArray
/-- The value v is the plan p, its codes read below block B. -/
def rdP (w : World) (B : Nat) (v : Value) (p : Pln) : Prop :=
  ∃ vo, v = .agg #[.int .i64 p.bins, .int .i64 p.passes, vo] ∧ isI64 p.bins ∧ isI64 p.passes ∧ rd w B vo p.order
theorem rdP.keep {w w' : World} {B : Nat} {v : Value} {p : Pln} (h : rdP w B v p) (hk : ∀ q : Addr, q.block < B → w'.cell? q = w.cell? q) : rdP w' B v p := by
  obtain ⟨vo, h1, h2, h3, h4⟩ := h
  exact ⟨vo, h1, h2, h3, h4.keep hk⟩
theorem rdP.below {w w' : World} {B : Nat} {v : Value} {p : Pln} (h : rdP w B v p) (hb : Below B w w') : rdP w' B v p := h.keep fun _ hp => hb.cell hp
theorem rdP.more {w : World} {B B' : Nat} {v : Value} {p : Pln} (h : rdP w B v p) (hB : B ≤ B') : rdP w B' v p := by
  obtain ⟨vo, h1, h2, h3, h4⟩ := h
  exact ⟨vo, h1, h2, h3, h4.more hB⟩
theorem rdP.on {w w' : World} {v : Value} {p : Pln} (h : rdP w w.heap.size v p) (hb : Below w.heap.size w w') : rdP w' w'.heap.size v p := (h.below hb).more hb.size
/-- A plan whose codes lie in memory of the call's own. -/
def ownP (T base : Nat) (w : World) (v : Value) (p : Pln) : Prop :=
  ∃ vo, v = .agg #[.int .i64 p.bins, .int .i64 p.passes, vo] ∧ isI64 p.bins ∧ isI64 p.passes ∧ own T base w vo p.order
theorem ownP.rd {T base : Nat} {w : World} {v : Value} {p : Pln} (h : ownP T base w v p) : rdP w w.heap.size v p := by
  obtain ⟨vo, h1, h2, h3, h4⟩ := h
  exact ⟨vo, h1, h2, h3, h4.rd⟩
theorem ownP.below {T base : Nat} {w w' : World} {v : Value} {p : Pln} (h : ownP T base w v p) (hb : Below w.heap.size w w') : ownP T base w' v p := by
  obtain ⟨vo, h1, h2, h3, h4⟩ := h
  exact ⟨vo, h1, h2, h3, h4.below hb⟩

/-! ### What makes a plan valid -/
def goodC (cs : List ByteArray) (k : Nat) : Bool :=
  match cs[k]? with
  | none => false
  | some c => isCode c && (cs.take k).all (fun d => !sEq d c)
def codesOk (cs : List ByteArray) : Bool := (List.range cs.length).all (goodC cs)
theorem codesOk_bad {cs : List ByteArray} {k : Nat} (hk : k < cs.length) (h : goodC cs k = false) : codesOk cs = false :=
  List.all_eq_false.2 ⟨k, by simpa using hk, by simp [h]⟩
theorem codesOk_good {cs : List ByteArray} (h : ∀ j, j < cs.length → goodC cs j = true) : codesOk cs = true :=
  List.all_eq_true.2 fun k hk => h k (by simpa using hk)
theorem goodC_of {cs : List ByteArray} {k : Nat} (hk : k < cs.length) : goodC cs k = (isCode cs[k] && (cs.take k).all (fun d => !sEq d cs[k])) := by
  unfold goodC
  rw [List.getElem?_eq_getElem hk]
/-- bins to the power of passes. -/
def powI (b : Int) : Nat → Int
  | 0 => 1
  | n + 1 => powI b n * b
def shapeOk (b p : Int) : Bool := decide (2 ≤ b) && decide (b ≤ 16) && (decide (1 ≤ p) && decide (p ≤ 4))
def planOk (p : Pln) : Bool :=
  shapeOk p.bins p.passes && (decide (1 ≤ p.order.length) && decide (p.order.length ≤ 60)) && decide ((p.order.length : Int) ≤ powI p.bins p.passes.toNat) && codesOk p.order
theorem shapeOk_iff {b p : Int} : shapeOk b p = true ↔ 2 ≤ b ∧ b ≤ 16 ∧ 1 ≤ p ∧ p ≤ 4 := by
  unfold shapeOk
  simp only [Bool.and_eq_true, decide_eq_true_iff]
  omega
theorem powI_bounds {b : Int} (h1 : 2 ≤ b) (h2 : b ≤ 16) : ∀ n : Nat, n ≤ 4 → 1 ≤ powI b n ∧ powI b n ≤ 65536 := by
  have h0 : powI b 0 = 1 := rfl
  have e1 : powI b 1 = powI b 0 * b := rfl
  have e2 : powI b 2 = powI b 1 * b := rfl
  have e3 : powI b 3 = powI b 2 * b := rfl
  have e4 : powI b 4 = powI b 3 * b := rfl
  have st : ∀ x y M : Int, 1 ≤ x → x ≤ M → y = x * b → 1 ≤ y ∧ y ≤ M * 16 := fun x y M hx hM hy => by
    subst hy
    have l1 : 1 * 2 ≤ x * b := Int.mul_le_mul hx h1 (by omega) (by omega)
    have l2 : x * b ≤ M * 16 := Int.mul_le_mul hM h2 (by omega) (by omega)
    omega
  have s1 := st _ _ 1 (by omega) (by omega) e1
  have s2 := st _ _ (1 * 16) s1.1 s1.2 e2
  have s3 := st _ _ (1 * 16 * 16) s2.1 s2.2 e3
  have s4 := st _ _ (1 * 16 * 16 * 16) s3.1 s3.2 e4
  intro n hn
  match n, hn with
  | 0, _ => omega
  | 1, _ => omega
  | 2, _ => omega
  | 3, _ => omega
  | 4, _ => omega

end Go.Proofs.Ytmangjjaijhcnaa

namespace Go.Proofs.Ytmangjjaijhcnaa
open Go.RowKit

theorem flatten_set {α : Type} {n : Nat} : ∀ {l : List (List α)} (_ : ∀ x ∈ l, x.length = n) {k j : Nat} (hk : k < l.length) (_ : j < n) (u : α), l.flatten.set (k * n + j) u = (l.set k ((l[k]).set j u)).flatten
  | [], _, k, j, hk, _, _ => absurd hk (Nat.not_lt_zero k)
  | x :: l, h, 0, j, _, hj, u => by
    have hx := h x (List.mem_cons_self ..)
    simp only [Nat.zero_mul, Nat.zero_add, List.flatten_cons, List.getElem_cons_zero, List.set_cons_zero]
    rw [List.set_append_left _ _ (by omega)]
  | x :: l, h, k + 1, j, hk, hj, u => by
    have hx := h x (List.mem_cons_self ..)
    simp only [List.flatten_cons, List.getElem_cons_succ, List.set_cons_succ]
    rw [List.set_append_right _ _ (by rw [hx, Nat.add_mul]; omega), hx, show (k + 1) * n + j - n = k * n + j by rw [Nat.add_mul]; omega,
      flatten_set (fun y hy => h y (List.mem_cons_of_mem _ hy)) (by simpa using hk) hj u]

section
variable {α : Type} [Flat α] {T : TypeId} {base : Nat} {w w' : World} {xs : List α} {g n c : Nat}
theorem own.setCell (h : own T base w (.slice (some ⟨g, 0, none⟩) n c) xs) {k j : Nat} (hk : k < xs.length) (hj : j < El.size α) (u : Value) (y : α)
    (he : ∀ ecs, El.el w w.heap.size xs[k] ecs → El.el w w.heap.size y (ecs.set j u)) :
    own T base (w.setCell ⟨g, k * El.size α + j, none⟩ u) (.slice (some ⟨g, 0, none⟩) n c) (xs.set k y) := by
  obtain ⟨css, ⟨h1, h2⟩, h3, h4⟩ := h
  have hcs : ∀ x ∈ css, x.length = El.size α := fun x hx => by
    obtain ⟨i, hi, rfl⟩ := List.getElem_of_mem hx
    exact El.len (h4 i (by omega) hi)
  refine ⟨css.set k ((css[k]'(by omega)).set j u), ⟨?_, .inr ?_⟩, by simp [h3], fun i hi hi' => ?_⟩
  · rw [← flatten_set hcs (by omega) hj u, List.length_set, List.length_set]
    exact h1
  · rcases h2 with ⟨h2, _⟩ | ⟨g', cap, cur, hv, hg, hh, hc, hm, hs, ht⟩
    · injection h2 with h2
      cases h2
    · injection hv with e1 e2 e3
      injection e1 with e1
      injection e1 with e1
      subst e1 e2 e3
      have hkn : k * El.size α + El.size α ≤ xs.length * El.size α := by
        rw [← Nat.succ_mul]
        exact Nat.mul_le_mul_right _ (by omega)
      refine ⟨g, c, cur.setIfInBounds (k * El.size α + j) u, by simp, hg, by simp [World.setCell, Array.getElem?_modify, hh], by simpa using hc, hm, by simpa using hs, ?_⟩
      rw [← flatten_set hcs (by omega) hj u, ← ht, List.length_set, Array.toList_setIfInBounds]
      rw [List.take_set]
  · by_cases hik : i = k
    · subst hik
      simp only [List.getElem_set_self]
      exact Flat.free (he _ (h4 i (by simpa using hi) (by omega)))
    · rw [List.getElem_set_ne (by omega), List.getElem_set_ne (by omega)]
      exact Flat.free (h4 i (by simpa using hi) (by simpa using hi'))
/-- The cells of an owned row lie in its block. -/
theorem own.cellAt (h : own T base w (.slice (some ⟨g, 0, none⟩) n c) xs) {j : Nat} (hj : j < xs.length * El.size α) : ∃ u, w.cell? ⟨g, j, none⟩ = some u := by
  obtain ⟨css, ⟨h1, h2⟩, h3, h4⟩ := h
  rcases h2 with ⟨h2, _⟩ | ⟨g', cap, cur, hv, hg, hh, hc, hm, hs, ht⟩
  · injection h2 with h2
    cases h2
  · injection hv with e1 e2 e3
    injection e1 with e1
    injection e1 with e1
    subst e1
    have hle : xs.length * El.size α ≤ cap * El.size α := Nat.mul_le_mul_right _ hc
    exact ⟨cur[j]'(by omega), by rw [cell_of_row _ _ _ _ _ _ hh]; exact Array.getElem?_eq_getElem _⟩
theorem own.freeAt (h : own T base w (.slice (some ⟨g, 0, none⟩) n c) xs) (j : Nat) : w.frozen? ⟨g, j, none⟩ = false := by
  obtain ⟨css, ⟨h1, h2⟩, h3, h4⟩ := h
  rcases h2 with ⟨h2, _⟩ | ⟨g', cap, cur, hv, hg, hh, hc, hm, hs, ht⟩
  · injection h2 with h2
    cases h2
  · injection hv with e1 e2 e3
    injection e1 with e1
    injection e1 with e1
    subst e1
    simp [World.frozen?, hh]
end

/-! 'Only the row, and what is new, has turned.' -/
theorem grown_drewN {a w : World} {row : Option Nat} (h : a.grownBy w row) (n : Nat) : a.grownBy (w.drewN n) row := ⟨h.os, h.tape, h.output, h.size, h.block⟩
theorem grown_below {a w w' : World} {row : Option Nat} (h : a.grownBy w row) (hb : Below w.heap.size w w') : a.grownBy w' row :=
  ⟨hb.os.trans h.os, hb.tape.trans h.tape, hb.output.trans h.output, Nat.le_trans h.size hb.size, fun i hi hne => (hb.block i (Nat.lt_of_lt_of_le hi h.size)).trans (h.block i hi hne)⟩
theorem grown_setCell {a w : World} {g : Nat} (h : a.grownBy w (some g)) {p : Addr} (hp : p.block = g ∨ a.heap.size ≤ p.block) (u : Value) : a.grownBy (w.setCell p u) (some g) :=
  ⟨h.os, h.tape, h.output, by simpa [World.setCell] using h.size, fun i hi hne => (Below.heap_setCell w p u i (by
    rintro rfl
    rcases hp with hp | hp
    · exact hne (by rw [hp])
    · omega)).trans (h.block i hi hne)⟩
theorem below_of_grown {a w : World} {row : Option Nat} {B : Nat} (h : a.grownBy w row) (hB : B ≤ a.heap.size) (hr : ∀ k, row = some k → B ≤ k) : Below B a w :=
  (Below.refl B a).grown h hB hr

/-- 'out := []T{}' -/
theorem own.made0 {α : Type} [El α] (w : World) (T : TypeId) {base : Nat} (hb : base ≤ w.heap.size) : own T base (w.alloc (.cells #[] T)) (.slice (some ⟨w.heap.size, 0, none⟩) 0 0) ([] : List α) :=
  ⟨[], World.ownsRow_made w #[] 0 hb (Nat.zero_le _) (by simp), rfl, fun k h => absurd h (Nat.not_lt_zero k)⟩
/-- The cells of a block just made, as a list. -/
theorem news_at (w : World) (T : TypeId) (cs : List Value) : ∀ j u, cs[j]? = some u → (w.alloc (.cells cs.toArray T)).cell? ((⟨w.heap.size, 0, none⟩ : Addr).add j) = some u := fun j u hu => by
  rw [add_lit, Nat.zero_add, cell_new]
  simpa using hu
theorem below_append {base : Nat} {w w' : World} {v : Value} {α : Type} [El α] {T : TypeId} {xs : List α} (h : own T base w v xs) (hg : w.grownBy w' v.ownBlock) (hb : base ≤ w.heap.size) : Below base w w' :=
  below_of_grown hg hb fun k hk => (h.blk k hk).1

/-- Two rows in two blocks. -/
def apart (v v' : Value) : Prop := v.ownBlock = none ∨ v.ownBlock ≠ v'.ownBlock
theorem apart_lt {α β : Type} [El α] [El β] {T T' : TypeId} {b b' : Nat} {w w' : World} {v v' : Value} {xs : List α} {ys : List β} (h : own T b w v xs) (h' : own T' b' w' v' ys) (hle : w.heap.size ≤ b') : apart v v' := by
  unfold apart
  cases hv : v.ownBlock with
  | none => exact .inl rfl
  | some k =>
    refine .inr fun e => ?_
    have h1 := (h.blk k hv).2
    have h2 := (h'.blk k e.symm).1
    omega
theorem apart_gt {α β : Type} [El α] [El β] {T T' : TypeId} {b b' : Nat} {w w' : World} {v v' : Value} {xs : List α} {ys : List β} (h : own T b w v xs) (h' : own T' b' w' v' ys) (hle : w'.heap.size ≤ b) : apart v v' := by
  unfold apart
  cases hv : v.ownBlock with
  | none => exact .inl rfl
  | some k =>
    refine .inr fun e => ?_
    have h1 := (h.blk k hv).1
    have h2 := (h'.blk k e.symm).2
    omega
theorem below_mark {α : Type} [El α] {T : TypeId} {b : Nat} {w0 w w' : World} {v : Value} {xs : List α} (h : own T b w v xs) (hg : w.grownBy w' v.ownBlock) (hb : w0.heap.size ≤ b) (hw : Below w0.heap.size w0 w) : Below w0.heap.size w0 w' :=
  hw.grown hg hw.size fun k hk => Nat.le_trans hb (h.blk k hk).1

end Go.Proofs.Ytmangjjaijhcnaa

namespace Go.Proofs.Ytmangjjaijhcnaa
open Go.RowKit


def fwdEq (x y : Fwd) : Bool := sEq x.src y.src && sEq x.dst y.dst
theorem fwdEq_iff (x y : Fwd) : fwdEq x y = true ↔ x = y := by
  cases x; cases y; simp [fwdEq, sEq_iff]

theorem Try.infoFwd : (Try.prog.info? 90).map (fun i => (i.zero, i.size, i.bytes)) = some (some (.agg #[.string ⟨#[]⟩, .string ⟨#[]⟩]), 2, 32) := by kernel_rfl



end Go.Proofs.Ytmangjjaijhcnaa
