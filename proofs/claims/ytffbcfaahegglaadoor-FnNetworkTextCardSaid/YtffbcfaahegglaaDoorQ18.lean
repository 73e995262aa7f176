/- DT NT NU NF -/
import Derived.Test.YtffbcfaahegglaaDoorQ15
import Derived.Test.YtffbcfaahegglaaDoorQ17
import Derived.Test.YtffbcfaahegglaaDoorQ12
import Derived.Test.YtffbcfaahegglaaDoorQ13
import Derived.Test.YtffbcfaahegglaaDoorQ7
import Derived.Test.YtffbcfaahegglaaDoorQ10
import Derived.Test.YtffbcfaahegglaaDoorQ11
namespace Go.Proofs.YtffbcfaahegglaaDoor
open Go.RowKit

/-! ### Plain facts -/
/-- One letter more in the last tray, or in a new one. -/
def putT (s : Int) (L : List (List Ltr)) (x : Ltr) : List (List Ltr) :=
  if L.length = 0 ∨ ((L.getD (L.length - 1) []).length : Int) = s then L ++ [[x]] else L.set (L.length - 1) (L.getD (L.length - 1) [] ++ [x])
def trayTo (s : Int) (xs : List Ltr) : List (List Ltr) := xs.foldl (putT s) []
theorem trayTo_succ {s : Int} {xs : List Ltr} {k : Nat} (h : k < xs.length) : trayTo s (xs.take (k + 1)) = putT s (trayTo s (xs.take k)) xs[k] := by
  unfold trayTo; rw [List.take_succ_eq_append_getElem h, List.foldl_append]; rfl
theorem putT_len (s : Int) (L : List (List Ltr)) (x : Ltr) : (putT s L x).length ≤ L.length + 1 ∧ 0 < (putT s L x).length ∧ L.length ≤ (putT s L x).length := by
  unfold putT
  split
  · simp
  · rename_i h
    rw [List.length_set]
    have : L.length ≠ 0 := fun e => h (.inl e)
    omega
theorem set_flat {α : Type} : ∀ (L : List (List α)) (n : Nat) (r : List α) (h : n < L.length), ((L.set n r).flatten).length + (L[n]).length = (L.flatten).length + r.length := by
  intro L
  induction L with
  | nil => intro n r h; simp at h
  | cons a L ih =>
    intro n r h
    cases n with
    | zero => simp; omega
    | succ n =>
      simp only [List.set_cons_succ, List.flatten_cons, List.length_append, List.getElem_cons_succ]
      have := ih n r (by simpa using h)
      omega
theorem putT_flat (s : Int) (L : List (List Ltr)) (x : Ltr) : (putT s L x).flatten.length = L.flatten.length + 1 := by
  unfold putT
  split
  · simp
  · rename_i h
    have hn : L.length - 1 < L.length := by
      have : L.length ≠ 0 := fun e => h (.inl e)
      omega
    have h1 := set_flat L (L.length - 1) (L.getD (L.length - 1) [] ++ [x]) hn
    rw [List.getD_eq_getElem?_getD, List.getElem?_eq_getElem hn] at h1 ⊢
    simp only [Option.getD_some, List.length_append, List.length_singleton] at h1 ⊢
    omega
theorem trayTo_facts (s : Int) (xs : List Ltr) : ∀ k, k ≤ xs.length → (trayTo s (xs.take k)).length ≤ k ∧ ((trayTo s (xs.take k)).length = 0 ↔ k = 0) ∧ (trayTo s (xs.take k)).flatten.length = k
  | 0, _ => by simp [trayTo]
  | k + 1, h => by
    obtain ⟨h1, h2, h3⟩ := trayTo_facts s xs k (by omega)
    rw [trayTo_succ (by omega), putT_flat]
    obtain ⟨a, b, _⟩ := putT_len s (trayTo s (xs.take k)) xs[k]
    omega
theorem putT_new {s : Int} {L : List (List Ltr)} {x : Ltr} (h : L.length = 0 ∨ ∃ d, ∃ hd : d < L.length, L.length = d + 1 ∧ (L[d].length : Int) = s) : putT s L x = L ++ [[x]] := by
  unfold putT
  rw [if_pos]
  rcases h with h | ⟨d, hd, h1, h2⟩
  · exact .inl h
  · refine .inr ?_
    have e : L.length - 1 = d := by omega
    rw [e, List.getD_eq_getElem?_getD, List.getElem?_eq_getElem hd]
    exact h2
theorem putT_old {s : Int} {L : List (List Ltr)} {x : Ltr} {d : Nat} (hd : d < L.length) (h1 : L.length = d + 1) (h2 : (L[d].length : Int) ≠ s) : putT s L x = L.set d (L[d] ++ [x]) := by
  unfold putT
  have e : L.length - 1 = d := by omega
  rw [e, List.getD_eq_getElem?_getD, List.getElem?_eq_getElem hd, if_neg]
  · rfl
  · rintro (h | h)
    · omega
    · exact h2 h
theorem last_set {L : List (List Ltr)} {x : Ltr} {d : Nat} (h1 : L.length = d) (hd : d < (L ++ [[]]).length) : (L ++ [[]]).set d ((L ++ [[]])[d] ++ [x]) = L ++ [[x]] := by
  subst h1
  simp [List.getElem_append_right]
def ftOk (s : Int) (xs : List Ltr) : Bool := okB xs && sizeOk s
def ftRows (s : Int) (xs : List Ltr) : List (List Ltr) := if ftOk s xs then trayTo s xs else []
def dtOk (d : Dy) (xs : List Ltr) : Bool := rdOk d xs && ftOk d.size (rptOf d xs).round
def dtRows (d : Dy) (xs : List Ltr) : List (List Ltr) := if rdOk d xs then ftRows d.size (rptOf d xs).round else []
theorem ftRows_len (s : Int) (xs : List Ltr) : (ftRows s xs).length ≤ 60 ∧ (ftRows s xs).flatten.length ≤ 60 := by
  unfold ftRows
  split
  · rename_i h
    unfold ftOk at h
    rw [Bool.and_eq_true] at h
    have h1 := okB_len' h.1
    obtain ⟨a, _, b⟩ := trayTo_facts s xs xs.length (Nat.le_refl _)
    rw [List.take_length] at a b
    omega
  · simp
theorem dtRows_len (d : Dy) (xs : List Ltr) : (dtRows d xs).length ≤ 60 ∧ (dtRows d xs).flatten.length ≤ 60 := by
  unfold dtRows
  split
  · exact ftRows_len _ _
  · simp

theorem own.made1 {α : Type} [Flat α] (w : World) (T : TypeId) (cs : List Value) (x : α) {base : Nat} (hel : El.el w w.heap.size x cs) (hb : base ≤ w.heap.size) : own T base (w.alloc (.cells cs.toArray T)) (.slice (some ⟨w.heap.size, 0, none⟩) 1 1) [x] := by
  refine ⟨[cs], ⟨by simp [El.len hel], .inr ⟨w.heap.size, 1, cs.toArray, rfl, hb, heap_alloc_new w _, Nat.le_refl _, by unfold maxLen; omega, by simp [El.len hel], ?_⟩⟩, rfl, fun k h1 h2 => ?_⟩
  · show List.take (1 * El.size α) _ = _
    rw [Nat.one_mul, ← El.len hel]; simp
  · have hk : k = 0 := by simp at h1; omega
    subst hk
    exact Flat.free hel


end Go.Proofs.YtffbcfaahegglaaDoor

namespace Go.Proofs.YtffbcfaahegglaaDoor
open Go.RowKit


theorem own_int1 {T base g n c : Nat} {w : World} {xs : List Int} (h : own T base w (.slice (some ⟨g, 0, none⟩) n c) xs) (k : Nat) (hk : k < xs.length) : ∀ W, Below w.heap.size w W → W.cell? ⟨g, k, none⟩ = some (.int .i64 xs[k]) := by
  obtain ⟨A, n', c', hv, _, _, _, hrd⟩ := h.rd
  obtain ⟨b, o, hA, _, _, c1⟩ := hrd.intU k hk
  injection hv with e1 _ _
  subst e1
  injection hA with hA
  injection hA with hA1 hA2
  subst hA1 hA2
  intro W hW
  have := c1 W hW
  rwa [Nat.zero_add] at this


theorem sEmpty (s : ByteArray) : sEq s ⟨#[]⟩ = s.toList.isEmpty := by
  unfold sEq
  rw [ByteArray.toList_eq ⟨#[]⟩]
  generalize s.toList = l
  cases l <;> rfl
theorem own_names {T base : Nat} {w : World} {v : Value} {xs : List ByteArray} (h : own T base w v xs) : rd w w.heap.size v xs := h.rd


end Go.Proofs.YtffbcfaahegglaaDoor

namespace Go.Proofs.YtffbcfaahegglaaDoor
open Go.RowKit

theorem hops_take {net : List Ofc} (h : netOk net = true) {i : Nat} (hi : i < net.length) (xs : List Ltr) (k : Nat) (hx : xs.length ≤ 60) : 0 ≤ hops net i (xs.take k) ∧ hops net i (xs.take k) ≤ 480 := by
  have h1 := hops_le h hi (xs.take k)
  have h2 := (netOk_iff.1 h).1.2
  have h3 : ((xs.take k).length : Int) ≤ 60 := by rw [List.length_take]; omega
  refine ⟨h1.1, Int.le_trans h1.2 ?_⟩
  have h4 : ((xs.take k).length : Int) * net.length ≤ 60 * 8 := Int.mul_le_mul h3 (by omega) (by omega) (by omega)
  omega
theorem tcI_no {net : List Ofc} {s : ByteArray} {xs : List Ltr} (h : tcOk net s xs = false) : tcI net s xs = -1 := by unfold tcI; rw [h]; rfl



end Go.Proofs.YtffbcfaahegglaaDoor

namespace Go.Proofs.YtffbcfaahegglaaDoor
open Go.RowKit

/-! ### Faulty prefixes -/
def code0 : ByteArray := ⟨#[48, 48, 48, 48, 48, 48, 48]⟩
def firstW (p : ByteArray) : ByteArray := p ++ code0.extract p.size 7
def longR (p : ByteArray) (r : Fwd) : Bool := decide (p.size < r.src.size) && pre r.src p
def longO (p : ByteArray) (o : Ofc) : Bool := o.rules.any (longR p)
def longN (net : List Ofc) (p : ByteArray) : Bool := net.any (longO p)
def dgB (d : Nat) : ByteArray := ⟨#[UInt8.ofNat (48 + d)]⟩
def dgt (p : ByteArray) (d : Nat) : ByteArray := p ++ dgB d
theorem dgt_size (p : ByteArray) (d : Nat) : (dgt p d).size = p.size + 1 := by
  unfold dgt; rw [ByteArray.size_append]; rfl
def oneIs (p : ByteArray) : List ByteArray → Bool
  | [q] => sEq q p
  | _ => false
theorem oneIs_len {p : ByteArray} {l : List ByteArray} (h : l.length ≠ 1) : oneIs p l = false := by
  match l, h with
  | [], _ => rfl
  | [_], h => exact absurd rfl h
  | _ :: _ :: _, _ => rfl
theorem oneIs_one {p : ByteArray} {l : List ByteArray} (h : l.length = 1) : oneIs p l = sEq (l[0]'(by omega)) p := by
  match l, h with
  | [q], _ => rfl
mutual
def faultsN (net : List Ofc) (i : Nat) : Nat → ByteArray → List ByteArray
  | 0, _ => []
  | f + 1, p => if longN net p = true then (if ((List.range 10).all fun d => oneIs (dgt p d) (faultsN net i f (dgt p d))) = true then [p] else ((List.range 10).map fun d => faultsN net i f (dgt p d)).flatten) else if (route net (firstW p) i).2 = 0 then [] else [p]
end
/-- What the first k digits give. -/
def catN (net : List Ofc) (i f : Nat) (p : ByteArray) (k : Nat) : List ByteArray := ((List.range k).map fun d => faultsN net i f (dgt p d)).flatten
def cntN (net : List Ofc) (i f : Nat) (p : ByteArray) (k : Nat) : Nat := (List.range k).countP fun d => oneIs (dgt p d) (faultsN net i f (dgt p d))
def allN (net : List Ofc) (i f : Nat) (p : ByteArray) (k : Nat) : Bool := (List.range k).all fun d => oneIs (dgt p d) (faultsN net i f (dgt p d))
theorem faults_long {net : List Ofc} {i f : Nat} {p : ByteArray} (h : longN net p = true) : faultsN net i (f + 1) p = if allN net i f p 10 = true then [p] else catN net i f p 10 := by
  rw [faultsN, if_pos h]; rfl
theorem faults_home {net : List Ofc} {i f : Nat} {p : ByteArray} (h : longN net p = false) (h2 : (route net (firstW p) i).2 = 0) : faultsN net i (f + 1) p = [] := by
  rw [faultsN, if_neg (by rw [h]; simp), if_pos h2]
theorem faults_bad {net : List Ofc} {i f : Nat} {p : ByteArray} (h : longN net p = false) (h2 : (route net (firstW p) i).2 ≠ 0) : faultsN net i (f + 1) p = [p] := by
  rw [faultsN, if_neg (by rw [h]; simp), if_neg h2]
theorem catN_succ (net : List Ofc) (i f : Nat) (p : ByteArray) (k : Nat) : catN net i f p (k + 1) = catN net i f p k ++ faultsN net i f (dgt p k) := by
  unfold catN; rw [List.range_succ, List.map_append, List.flatten_append]; simp
theorem cntN_succ (net : List Ofc) (i f : Nat) (p : ByteArray) (k : Nat) : cntN net i f p (k + 1) = cntN net i f p k + (if oneIs (dgt p k) (faultsN net i f (dgt p k)) = true then 1 else 0) := by
  unfold cntN; rw [List.range_succ, List.countP_append]; simp [List.countP_cons]
theorem allN_succ (net : List Ofc) (i f : Nat) (p : ByteArray) (k : Nat) : allN net i f p (k + 1) = (allN net i f p k && oneIs (dgt p k) (faultsN net i f (dgt p k))) := by
  unfold allN; rw [List.range_succ, List.all_append]; simp
theorem cntN_all (net : List Ofc) (i f : Nat) (p : ByteArray) : ∀ k, cntN net i f p k ≤ k ∧ (allN net i f p k = true ↔ cntN net i f p k = k)
  | 0 => by simp [cntN, allN]
  | k + 1 => by
    have ih := cntN_all net i f p k
    rw [cntN_succ, allN_succ, Bool.and_eq_true]
    by_cases h : oneIs (dgt p k) (faultsN net i f (dgt p k)) = true
    · rw [if_pos h]
      refine ⟨by omega, ⟨fun ⟨h1, _⟩ => by have := ih.2.1 h1; omega, fun h1 => ⟨ih.2.2 (by omega), h⟩⟩⟩
    · rw [if_neg h]
      refine ⟨by omega, ⟨fun ⟨_, h2⟩ => absurd h2 h, fun h1 => by omega⟩⟩
theorem tens (f : Nat) : 10 ^ (f + 1) = 10 * 10 ^ f := by rw [Nat.pow_succ]; omega
/-- Not more than that many. -/
theorem faults_len (net : List Ofc) (i : Nat) : ∀ (f : Nat) (p : ByteArray), (faultsN net i f p).length ≤ 10 ^ f
  | 0, p => by simp [faultsN]
  | f + 1, p => by
    have ih := faults_len net i f
    have hp : 1 ≤ 10 ^ f := Nat.one_le_pow _ _ (by omega)
    have hc : ∀ k, (catN net i f p k).length ≤ k * 10 ^ f := fun k => by
      induction k with
      | zero => simp [catN]
      | succ k ihk =>
        rw [catN_succ, List.length_append, Nat.add_mul, Nat.one_mul]
        have := ih (dgt p k)
        omega
    have h10 := hc 10
    rw [tens]
    cases hl : longN net p
    · by_cases h2 : (route net (firstW p) i).2 = 0
      · rw [faults_home hl h2]; simp
      · rw [faults_bad hl h2]; simp; omega
    · rw [faults_long hl]
      split
      · simp; omega
      · exact h10
theorem catN_len (net : List Ofc) (i f : Nat) (p : ByteArray) : ∀ k, (catN net i f p k).length ≤ k * 10 ^ f
  | 0 => by simp [catN]
  | k + 1 => by
    have := catN_len net i f p k
    have h2 := faults_len net i f (dgt p k)
    rw [catN_succ, List.length_append, Nat.add_mul, Nat.one_mul]
    omega
/-- Each of them is short. -/
theorem faults_short (net : List Ofc) (i : Nat) : ∀ (f : Nat) (p q : ByteArray), q ∈ faultsN net i f p → q.size ≤ p.size + f
  | 0, p, q, h => by simp [faultsN] at h
  | f + 1, p, q, h => by
    have ih := faults_short net i f
    cases hl : longN net p
    · by_cases h2 : (route net (firstW p) i).2 = 0
      · rw [faults_home hl h2] at h; simp at h
      · rw [faults_bad hl h2] at h; simp at h; subst h; omega
    · rw [faults_long hl] at h
      split at h
      · simp at h; subst h; omega
      · unfold catN at h
        obtain ⟨l, hl, hq⟩ := List.mem_flatten.1 h
        obtain ⟨d, _, rfl⟩ := List.mem_map.1 hl
        have := ih _ _ hq
        rw [dgt_size] at this
        omega
theorem long_size {net : List Ofc} (hk : netOk net = true) {p : ByteArray} (h : longN net p = true) : p.size ≤ 6 := by
  unfold longN at h
  obtain ⟨o, ho, h⟩ := List.any_eq_true.1 h
  obtain ⟨k, hkl, rfl⟩ := List.getElem_of_mem ho
  unfold longO at h
  obtain ⟨r, hr, h⟩ := List.any_eq_true.1 h
  obtain ⟨m, hml, rfl⟩ := List.getElem_of_mem hr
  have h1 := ((netOk_iff.1 hk).2 k hkl).2.2.2.1
  have h2 := (isPfx_iff.1 ((rulesOk_iff.1 h1).2 m hml).1).2
  unfold longR at h
  rw [Bool.and_eq_true, decide_eq_true_iff] at h
  omega
/-! ### A prefix that no rule continues goes the way of its first code -/
theorem firstW_list (p : ByteArray) : ∃ z, (firstW p).data.toList = p.data.toList ++ z := ⟨_, by unfold firstW; rw [ByteArray.data_append, Array.toList_append]⟩
theorem pre_first {p s : ByteArray} (h : (decide (p.size < s.size) && pre s p) = false) : pre (firstW p) s = pre p s := by
  obtain ⟨z, hz⟩ := firstW_list p
  rw [Bool.eq_iff_iff, pre_iff, pre_iff, hz]
  have hl : ∀ s : ByteArray, s.data.toList.length = s.size := fun s => by simp
  constructor
  · intro h1
    by_cases hlt : p.size < s.size
    · have h2 : p.data.toList <+: s.data.toList := List.prefix_of_prefix_length_le (List.prefix_append _ z) h1 (by rw [hl, hl]; omega)
      rw [decide_eq_true hlt, pre_iff.2 h2] at h
      cases h
    · exact List.prefix_of_prefix_length_le h1 (List.prefix_append _ z) (by rw [hl, hl]; omega)
  · intro h1
    exact h1.trans (List.prefix_append _ z)
theorem best_first {rs : List Fwd} {p : ByteArray} (h : rs.any (longR p) = false) : ∀ k, bestN rs (firstW p) k = bestN rs p k
  | 0 => rfl
  | k + 1 => by
    show bestStep _ _ _ _ = bestStep _ _ _ _
    rw [best_first h k]
    unfold bestStep
    cases hx : rs[k]? with
    | none => rfl
    | some x =>
      have hm := List.mem_of_getElem? hx
      have h1 : longR p x = false := by simpa using List.any_eq_false.1 h x hm
      dsimp only
      rw [pre_first h1]
theorem next_first {rs : List Fwd} {p : ByteArray} (h : rs.any (longR p) = false) : bestI rs (firstW p) = bestI rs p ∧ nextS rs (firstW p) = nextS rs p := by
  have h1 : bestI rs (firstW p) = bestI rs p := best_first h _
  refine ⟨h1, ?_⟩
  unfold nextS
  rw [h1]
theorem hop_first {net : List Ofc} {p : ByteArray} (h : longN net p = false) (i : Nat) : hop net (firstW p) i = hop net p i := by
  unfold hop
  cases hx : net[i]? with
  | none => rfl
  | some o =>
    have hm := List.mem_of_getElem? hx
    have h1 : o.rules.any (longR p) = false := by
      have := List.any_eq_false.1 h o hm
      simpa [longO] using this
    obtain ⟨e1, e2⟩ := next_first h1
    dsimp only
    rw [e1, e2]
theorem routeN_first {net : List Ofc} {p : ByteArray} (h : longN net p = false) : ∀ (f : Nat) (q : List Nat) (i : Nat), routeN net (firstW p) f q i = routeN net p f q i
  | 0, _, _ => rfl
  | f + 1, q, i => by
    rw [routeN, routeN, hop_first h, routeN_first h f]
theorem route_first {net : List Ofc} {p : ByteArray} (h : longN net p = false) (i : Nat) : route net (firstW p) i = route net p i := routeN_first h _ _ _
/-! ### All of them -/
def fpS (net : List Ofc) (s : ByteArray) : List ByteArray := if (netOk net && decide (0 ≤ offI net s)) = true then faultsN net (offI net s).toNat 8 ⟨#[]⟩ else []
theorem fpS_len (net : List Ofc) (s : ByteArray) : (fpS net s).length ≤ 100000000 := by
  unfold fpS
  split
  · exact faults_len net _ 8 _
  · simp

end Go.Proofs.YtffbcfaahegglaaDoor
