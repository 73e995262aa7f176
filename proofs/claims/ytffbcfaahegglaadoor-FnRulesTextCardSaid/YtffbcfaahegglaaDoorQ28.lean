/- DT NT -/
import Derived.Test.YtffbcfaahegglaaDoorQ23
import Derived.Test.YtffbcfaahegglaaDoorQ27
import Derived.Test.YtffbcfaahegglaaDoorQ18
import Derived.Test.YtffbcfaahegglaaDoorQ19
import Derived.Test.YtffbcfaahegglaaDoorQ10
import Derived.Test.YtffbcfaahegglaaDoorQ14
namespace Go.Proofs.YtffbcfaahegglaaDoor
open Go.RowKit

/-! ### Plain facts -/
/-- One letter more in the last tray, or in a new one. -/
def putT (s : Int) (L : List (List Ltr)) (x : Ltr) : List (List Ltr) :=
  if L.length = 0 ∨ ((L.getD (L.length - 1) []).length : Int) = s then L ++ [[x]] else L.set (L.length - 1) (L.getD (L.length - 1) [] ++ [x])
def trayTo (s : Int) (xs : List Ltr) : List (List Ltr) := xs.foldl (putT s) []
theorem trayTo_succ {s : Int} {xs : List Ltr} {k : Nat} (h : k < xs.length) : trayTo s (xs.take (k + 1)) = putT s (trayTo s (xs.take k)) xs[k] := by
  unfold trayTo; rw [List.take_succ_eq_append_getElem h, List.foldl_append]; rfl
theorem putT_len (s : Int) (L : List (List Ltr)) (x : Ltr) : (putT s L x).length ≤ L.length + 1 ∧ 0 < (putT s L x).length ∧ L.length ≤ (putT s L x).length := by
  unfold putT
  split
  · simp
  · rename_i h
    rw [List.length_set]
    have : L.length ≠ 0 := fun e => h (.inl e)
    omega
theorem set_flat {α : Type} : ∀ (L : List (List α)) (n : Nat) (r : List α) (h : n < L.length), ((L.set n r).flatten).length + (L[n]).length = (L.flatten).length + r.length := by
  intro L
  induction L with
  | nil => intro n r h; simp at h
  | cons a L ih =>
    intro n r h
    cases n with
    | zero => simp; omega
    | succ n =>
      simp only [List.set_cons_succ, List.flatten_cons, List.length_append, List.getElem_cons_succ]
      have := ih n r (by simpa using h)
      omega
theorem putT_flat (s : Int) (L : List (List Ltr)) (x : Ltr) : (putT s L x).flatten.length = L.flatten.length + 1 := by
  unfold putT
  split
  · simp
  · rename_i h
    have hn : L.length - 1 < L.length := by
      have : L.length ≠ 0 := fun e => h (.inl e)
      omega
    have h1 := set_flat L (L.length - 1) (L.getD (L.length - 1) [] ++ [x]) hn
    rw [List.getD_eq_getElem?_getD, List.getElem?_eq_getElem hn] at h1 ⊢
    simp only [Option.getD_some, List.length_append, List.length_singleton] at h1 ⊢
    omega
theorem trayTo_facts (s : Int) (xs : List Ltr) : ∀ k, k ≤ xs.length → (trayTo s (xs.take k)).length ≤ k ∧ ((trayTo s (xs.take k)).length = 0 ↔ k = 0) ∧ (trayTo s (xs.take k)).flatten.length = k
  | 0, _ => by simp [trayTo]
  | k + 1, h => by
    obtain ⟨h1, h2, h3⟩ := trayTo_facts s xs k (by omega)
    rw [trayTo_succ (by omega), putT_flat]
    obtain ⟨a, b, _⟩ := putT_len s (trayTo s (xs.take k)) xs[k]
    omega
theorem putT_new {s : Int} {L : List (List Ltr)} {x : Ltr} (h : L.length = 0 ∨ ∃ d, ∃ hd : d < L.length, L.length = d + 1 ∧ (L[d].length : Int) = s) : putT s L x = L ++ [[x]] := by
  unfold putT
  rw [if_pos]
  rcases h with h | ⟨d, hd, h1, h2⟩
  · exact .inl h
  · refine .inr ?_
    have e : L.length - 1 = d := by omega
    rw [e, List.getD_eq_getElem?_getD, List.getElem?_eq_getElem hd]
    exact h2
theorem putT_old {s : Int} {L : List (List Ltr)} {x : Ltr} {d : Nat} (hd : d < L.length) (h1 : L.length = d + 1) (h2 : (L[d].length : Int) ≠ s) : putT s L x = L.set d (L[d] ++ [x]) := by
  unfold putT
  have e : L.length - 1 = d := by omega
  rw [e, List.getD_eq_getElem?_getD, List.getElem?_eq_getElem hd, if_neg]
  · rfl
  · rintro (h | h)
    · omega
    · exact h2 h
theorem last_set {L : List (List Ltr)} {x : Ltr} {d : Nat} (h1 : L.length = d) (hd : d < (L ++ [[]]).length) : (L ++ [[]]).set d ((L ++ [[]])[d] ++ [x]) = L ++ [[x]] := by
  subst h1
  simp [List.getElem_append_right]
def ftOk (s : Int) (xs : List Ltr) : Bool := okB xs && sizeOk s
def ftRows (s : Int) (xs : List Ltr) : List (List Ltr) := if ftOk s xs then trayTo s xs else []
def dtOk (d : Dy) (xs : List Ltr) : Bool := rdOk d xs && ftOk d.size (rptOf d xs).round
def dtRows (d : Dy) (xs : List Ltr) : List (List Ltr) := if rdOk d xs then ftRows d.size (rptOf d xs).round else []
theorem ftRows_len (s : Int) (xs : List Ltr) : (ftRows s xs).length ≤ 60 ∧ (ftRows s xs).flatten.length ≤ 60 := by
  unfold ftRows
  split
  · rename_i h
    unfold ftOk at h
    rw [Bool.and_eq_true] at h
    have h1 := okB_len' h.1
    obtain ⟨a, _, b⟩ := trayTo_facts s xs xs.length (Nat.le_refl _)
    rw [List.take_length] at a b
    omega
  · simp
theorem dtRows_len (d : Dy) (xs : List Ltr) : (dtRows d xs).length ≤ 60 ∧ (dtRows d xs).flatten.length ≤ 60 := by
  unfold dtRows
  split
  · exact ftRows_len _ _
  · simp

theorem own.made1 {α : Type} [Flat α] (w : World) (T : TypeId) (cs : List Value) (x : α) {base : Nat} (hel : El.el w w.heap.size x cs) (hb : base ≤ w.heap.size) : own T base (w.alloc (.cells cs.toArray T)) (.slice (some ⟨w.heap.size, 0, none⟩) 1 1) [x] := by
  refine ⟨[cs], ⟨by simp [El.len hel], .inr ⟨w.heap.size, 1, cs.toArray, rfl, hb, heap_alloc_new w _, Nat.le_refl _, by unfold maxLen; omega, by simp [El.len hel], ?_⟩⟩, rfl, fun k h1 h2 => ?_⟩
  · show List.take (1 * El.size α) _ = _
    rw [Nat.one_mul, ← El.len hel]; simp
  · have hk : k = 0 := by simp at h1; omega
    subst hk
    exact Flat.free hel


end Go.Proofs.YtffbcfaahegglaaDoor

namespace Go.Proofs.YtffbcfaahegglaaDoor
open Go.RowKit


theorem own_int1 {T base g n c : Nat} {w : World} {xs : List Int} (h : own T base w (.slice (some ⟨g, 0, none⟩) n c) xs) (k : Nat) (hk : k < xs.length) : ∀ W, Below w.heap.size w W → W.cell? ⟨g, k, none⟩ = some (.int .i64 xs[k]) := by
  obtain ⟨A, n', c', hv, _, _, _, hrd⟩ := h.rd
  obtain ⟨b, o, hA, _, _, c1⟩ := hrd.intU k hk
  injection hv with e1 _ _
  subst e1
  injection hA with hA
  injection hA with hA1 hA2
  subst hA1 hA2
  intro W hW
  have := c1 W hW
  rwa [Nat.zero_add] at this


theorem sEmpty (s : ByteArray) : sEq s ⟨#[]⟩ = s.toList.isEmpty := by
  unfold sEq
  rw [ByteArray.toList_eq ⟨#[]⟩]
  generalize s.toList = l
  cases l <;> rfl
theorem own_names {T base : Nat} {w : World} {v : Value} {xs : List ByteArray} (h : own T base w v xs) : rd w w.heap.size v xs := h.rd


end Go.Proofs.YtffbcfaahegglaaDoor
