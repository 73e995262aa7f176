/- Letters as data: how they lie in cells; what makes letters a batch. Plain facts. -/
import Derived.Test.YtiaepapdofcnjaaA1
namespace Go.Proofs.Ytiaepapdofcnjaa
open Go.RowKit

structure Ltr where
  id : Int
  code : ByteArray

def isI64 (n : Int) : Prop := -9223372036854775808 ≤ n ∧ n ≤ 9223372036854775807
theorem wf_range {n : Int} (h : (Lit.int .i64 n).wf = true) : isI64 n := by
  simp [Lit.wf, IntKind.min, IntKind.max, IntKind.signed, IntKind.bits] at h
  unfold isI64
  omega
def Ltr.ok (x : Ltr) : Prop := isI64 x.id ∧ x.code.size ≤ maxLen
def Ltr.cells (x : Ltr) : List Value := [.int .i64 x.id, .string x.code]

instance elLtr : El Ltr where
  size := 2
  el _ _ x cs := x.ok ∧ cs = x.cells
  len h := by rw [h.2]; rfl
  more h _ := h
  keep h _ := h
  one h := by rw [h.2]; intro u hu; simp [Ltr.cells] at hu; rcases hu with rfl | rfl <;> rfl
instance flatLtr : Flat Ltr where
  free h := h

theorem rdA.ltr {w : World} {B : Nat} {A : Option Addr} {xs : List Ltr} (h : rdA w B A xs) (k : Nat) (hk : k < xs.length) :
    ∃ b o, A = some ⟨b, o, none⟩ ∧ b < B ∧ (xs[k]).ok ∧ w.cell? ⟨b, o + k * 2, none⟩ = some (.int .i64 (xs[k]).id) ∧ w.cell? ⟨b, o + k * 2 + 1, none⟩ = some (.string (xs[k]).code) := by
  obtain ⟨b, o, cs, hA, hb, ⟨hok, rfl⟩, hc⟩ := h k hk
  exact ⟨b, o, hA, hb, hok, by simpa [Ltr.cells, El.size] using hc 0 _ rfl, by simpa [Ltr.cells, El.size, Nat.add_assoc] using hc 1 _ rfl⟩

def goodL (xs : List Ltr) (k : Nat) : Bool :=
  match xs[k]? with
  | none => false
  | some x => decide (1 ≤ x.id) && decide (x.id ≤ 9999) && isCode x.code && (xs.take k).all (fun y => y.id != x.id)
def okB (xs : List Ltr) : Bool := decide (xs.length ≤ 60) && (List.range xs.length).all (goodL xs)

theorem okB_bad {xs : List Ltr} {k : Nat} (hk : k < xs.length) (h : goodL xs k = false) : okB xs = false := by
  unfold okB
  rw [Bool.and_eq_false_iff]
  exact .inr (List.all_eq_false.2 ⟨k, by simpa using hk, by simp [h]⟩)
theorem okB_good {xs : List Ltr} (h60 : xs.length ≤ 60) (h : ∀ j, j < xs.length → goodL xs j = true) : okB xs = true := by
  unfold okB
  simp [h60]
  exact h
theorem goodL_of {xs : List Ltr} {k : Nat} (hk : k < xs.length) : goodL xs k = (decide (1 ≤ xs[k].id) && decide (xs[k].id ≤ 9999) && isCode xs[k].code && (xs.take k).all (fun y => y.id != xs[k].id)) := by
  unfold goodL
  rw [List.getElem?_eq_getElem hk]
theorem take_all_succ {α : Type} {p : α → Bool} (xs : List α) (m : Nat) (h : m < xs.length) : (xs.take (m + 1)).all p = ((xs.take m).all p && p xs[m]) := by
  rw [List.take_succ_eq_append_getElem h, List.all_append]; simp
theorem take_all_bad {α : Type} {p : α → Bool} (xs : List α) (m k : Nat) (h : m < xs.length) (hk : m < k) (hp : p xs[m] = false) : (xs.take k).all p = false := by
  rw [List.all_eq_false]
  refine ⟨xs[m], ?_, by simp [hp]⟩
  rw [List.mem_take_iff_getElem]
  exact ⟨m, by omega, rfl⟩
theorem okB_iff {xs : List Ltr} : okB xs = true ↔ xs.length ≤ 60 ∧ ∀ k (h : k < xs.length), 1 ≤ xs[k].id ∧ xs[k].id ≤ 9999 ∧ isCode xs[k].code = true ∧ ∀ j (hj : j < k), xs[j].id ≠ xs[k].id := by
  unfold okB
  rw [Bool.and_eq_true, decide_eq_true_iff, List.all_eq_true]
  refine and_congr Iff.rfl ⟨fun h k hk => ?_, fun h k hk => ?_⟩
  · have := h k (by simpa using hk)
    rw [goodL_of hk] at this
    simp only [Bool.and_eq_true, decide_eq_true_iff] at this
    refine ⟨this.1.1.1, this.1.1.2, this.1.2, fun j hj => ?_⟩
    have hh := List.all_eq_true.1 this.2 xs[j] (by rw [List.mem_take_iff_getElem]; exact ⟨j, by omega, rfl⟩)
    simpa using hh
  · have hk' : k < xs.length := by simpa using hk
    obtain ⟨h1, h2, h3, h4⟩ := h k hk'
    rw [goodL_of hk']
    simp only [Bool.and_eq_true, decide_eq_true_iff]
    refine ⟨⟨⟨h1, h2⟩, h3⟩, List.all_eq_true.2 fun y hy => ?_⟩
    rw [List.mem_take_iff_getElem] at hy
    obtain ⟨j, hj, rfl⟩ := hy
    simpa using h4 j (by omega)

end Go.Proofs.Ytiaepapdofcnjaa
