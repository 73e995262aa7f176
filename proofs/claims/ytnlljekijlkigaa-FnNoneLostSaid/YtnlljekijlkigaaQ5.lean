/- W3 FL BM -/
import Derived.Test.YtnlljekijlkigaaQ2
import Derived.Test.YtnlljekijlkigaaQ4
import Derived.Test.YtnlljekijlkigaaQ3
import Derived.Deep.RegionHeld3
import Derived.StillTailTactics
import Derived.Handy
namespace Go.Proofs.Ytnlljekijlkigaa
open Go.RowKit

theorem later_trans {a b c : World} (h : Below a.heap.size a b) (k : Below b.heap.size b c) : Below a.heap.size a c := h.trans (k.mono h.size)
theorem later_alloc {a b : World} (h : Below a.heap.size a b) (o : Obj) : Below a.heap.size a (b.alloc o) := h.alloc h.size o
theorem later_drew {a b : World} (h : Below a.heap.size a b) : Below a.heap.size a b.drew := h.drew
theorem later_drewN {a b : World} (h : Below a.heap.size a b) (n : Nat) : Below a.heap.size a (b.drewN n) := below_drewN h n
theorem later_set {a b : World} (h : Below a.heap.size a b) {p : Addr} (hp : a.heap.size ≤ p.block) (u : Value) : Below a.heap.size a (b.setCell p u) := h.setCell hp u
attribute [go_sem] later_alloc later_drew later_drewN

/-- A cell that holds u in the world a and in every later one. -/
def stays (a : World) (p : Addr) (u : Value) : Prop := ∀ W, Below a.heap.size a W → W.cell? p = some u
theorem stays_of {a : World} {p : Addr} {u : Value} (h : p.block < a.heap.size) (c : a.cell? p = some u) : stays a p u := fun W hW => (hW.cell h).trans c
theorem stays.on {a b : World} {p : Addr} {u : Value} (h : stays a p u) (hb : Below a.heap.size a b) : stays b p u := fun W hW => h W (later_trans hb hW)
/-- The cells of a block just made. -/
theorem box_cells {w w0 : World} {cs : Array Value} {T : TypeId} (h : w0 = w.alloc (.cells cs T)) (i : Nat) (u : Value) (hu : cs[i]? = some u) : ∀ W, Below w0.heap.size w0 W → W.cell? ⟨w.heap.size, i, none⟩ = some u := fun W hW => by
  have h1 : w.heap.size < w0.heap.size := by subst h; simp
  rw [hW.cell (p := ⟨w.heap.size, i, none⟩) h1]
  subst h
  rw [cell_new]
  exact hu
theorem box_later {w w0 : World} {o : Obj} (h : w0 = w.alloc o) : Below w.heap.size w w0 ∧ w.heap.size < w0.heap.size := by
  subst h
  exact ⟨(Below.refl _ _).alloc (Nat.le_refl _) _, by simp⟩

theorem rdA.ltrU {w : World} {A : Option Addr} {xs : List Ltr} (h : rdA w w.heap.size A xs) (k : Nat) (hk : k < xs.length) :
    ∃ b o, A = some ⟨b, o, none⟩ ∧ b < w.heap.size ∧ (xs[k]).ok ∧ (∀ W, Below w.heap.size w W → W.cell? ⟨b, o + k * 2, none⟩ = some (.int .i64 (xs[k]).id)) ∧ (∀ W, Below w.heap.size w W → W.cell? ⟨b, o + k * 2 + 1, none⟩ = some (.string (xs[k]).code)) := by
  obtain ⟨b, o, hA, hb, hok, c1, c2⟩ := h.ltr k hk
  exact ⟨b, o, hA, hb, hok, fun W hW => (hW.cell (p := ⟨b, o + k * 2, none⟩) hb).trans c1, fun W hW => (hW.cell (p := ⟨b, o + k * 2 + 1, none⟩) hb).trans c2⟩
theorem rdA.misU {w : World} {A : Option Addr} {xs : List Mis} (h : rdA w w.heap.size A xs) (k : Nat) (hk : k < xs.length) :
    ∃ b o, A = some ⟨b, o, none⟩ ∧ b < w.heap.size ∧ (xs[k]).ok ∧ (∀ W, Below w.heap.size w W → W.cell? ⟨b, o + k * 2, none⟩ = some (.int .i64 (xs[k]).id)) ∧ (∀ W, Below w.heap.size w W → W.cell? ⟨b, o + k * 2 + 1, none⟩ = some (.int .i64 (xs[k]).bin)) := by
  obtain ⟨b, o, hA, hb, hok, c1, c2⟩ := h.mis k hk
  exact ⟨b, o, hA, hb, hok, fun W hW => (hW.cell (p := ⟨b, o + k * 2, none⟩) hb).trans c1, fun W hW => (hW.cell (p := ⟨b, o + k * 2 + 1, none⟩) hb).trans c2⟩
theorem rdA.fwdU {w : World} {A : Option Addr} {xs : List Fwd} (h : rdA w w.heap.size A xs) (k : Nat) (hk : k < xs.length) :
    ∃ b o, A = some ⟨b, o, none⟩ ∧ b < w.heap.size ∧ (xs[k]).ok ∧ (∀ W, Below w.heap.size w W → W.cell? ⟨b, o + k * 2, none⟩ = some (.string (xs[k]).src)) ∧ (∀ W, Below w.heap.size w W → W.cell? ⟨b, o + k * 2 + 1, none⟩ = some (.string (xs[k]).dst)) := by
  obtain ⟨b, o, hA, hb, hok, c1, c2⟩ := h.fwd k hk
  exact ⟨b, o, hA, hb, hok, fun W hW => (hW.cell (p := ⟨b, o + k * 2, none⟩) hb).trans c1, fun W hW => (hW.cell (p := ⟨b, o + k * 2 + 1, none⟩) hb).trans c2⟩
theorem rdA.strU {w : World} {A : Option Addr} {xs : List ByteArray} (h : rdA w w.heap.size A xs) (k : Nat) (hk : k < xs.length) :
    ∃ b o, A = some ⟨b, o, none⟩ ∧ b < w.heap.size ∧ (xs[k]).size ≤ maxLen ∧ (∀ W, Below w.heap.size w W → W.cell? ⟨b, o + k, none⟩ = some (.string xs[k])) := by
  obtain ⟨b, o, hA, hb, hok, c1⟩ := h.str k hk
  exact ⟨b, o, hA, hb, hok, fun W hW => (hW.cell (p := ⟨b, o + k, none⟩) hb).trans c1⟩
theorem rdA.intU {w : World} {A : Option Addr} {xs : List Int} (h : rdA w w.heap.size A xs) (k : Nat) (hk : k < xs.length) :
    ∃ b o, A = some ⟨b, o, none⟩ ∧ b < w.heap.size ∧ isI64 xs[k] ∧ (∀ W, Below w.heap.size w W → W.cell? ⟨b, o + k, none⟩ = some (.int .i64 xs[k])) := by
  obtain ⟨b, o, hA, hb, hok, c1⟩ := h.int k hk
  exact ⟨b, o, hA, hb, hok, fun W hW => (hW.cell (p := ⟨b, o + k, none⟩) hb).trans c1⟩

theorem openP {w : World} {B : Nat} {v : Value} {p : Pln} (h : rdP w B v p) : ∃ A c, v = .agg #[.int .i64 p.bins, .int .i64 p.passes, .slice A p.order.length c] := by
  obtain ⟨vo, rfl, _, _, A, n, c, rfl, rfl, _⟩ := h
  exact ⟨A, c, rfl⟩

/-! A block known whole. -/
theorem blk_cell {w : World} {g : Nat} {cs : Array Value} {T : TypeId} (h : w.heap[g]? = some (.cells cs T (0, 0))) (i : Nat) (u : Value) (hu : cs[i]? = some u) : w.cell? ⟨g, i, none⟩ = some u := by
  rw [cell_of_row _ _ _ _ _ _ h]; exact hu
theorem blk_free {w : World} {g : Nat} {cs : Array Value} {T : TypeId} (h : w.heap[g]? = some (.cells cs T (0, 0))) (i : Nat) : w.frozen? ⟨g, i, none⟩ = false := by
  simp [World.frozen?, h]
theorem blk_lt {w : World} {g : Nat} {o : Obj} (h : w.heap[g]? = some o) : g < w.heap.size := (Array.getElem?_eq_some_iff.1 h).1
theorem blk_below {w w' : World} {g : Nat} {o : Obj} (h : w.heap[g]? = some o) (hb : Below w.heap.size w w') : w'.heap[g]? = some o := (hb.block g (blk_lt h)).trans h
theorem blk_set {w : World} {g : Nat} {cs : Array Value} {T : TypeId} (h : w.heap[g]? = some (.cells cs T (0, 0))) (i : Nat) (u : Value) : (w.setCell ⟨g, i, none⟩ u).heap[g]? = some (.cells (cs.setIfInBounds i u) T (0, 0)) := by
  simp [World.setCell, Array.getElem?_modify, h]
theorem blk_other {w : World} {g : Nat} {o : Obj} (h : w.heap[g]? = some o) (p : Addr) (hp : p.block ≠ g) (u : Value) : (w.setCell p u).heap[g]? = some o := by
  rw [Below.heap_setCell _ _ _ _ (fun e => hp e.symm)]; exact h
/-- A store elsewhere leaves a row alone. -/
theorem own_out {α : Type} [Flat α] {T : TypeId} {base : Nat} {w : World} {v : Value} {xs : List α} (h : own T base w v xs) (p : Addr) (u : Value) (hp : p.block < base) : own T base (w.setCell p u) v xs :=
  h.grown (grown_setCell (World.grownBy.refl w (some p.block)) (.inl rfl) u) (by
    cases hv : v.ownBlock with
    | none => exact .inl rfl
    | some k =>
      refine .inr fun e => ?_
      have := (h.blk k hv).1
      injection e
      omega)

end Go.Proofs.Ytnlljekijlkigaa

namespace Go.Proofs.Ytnlljekijlkigaa
open Go.RowKit

def findI (b : List Ltr) (n : Int) : Int := if okB b then fiI (fun x => x.id == n) b else -1
/-! ### FindLetter -/
theorem impl_FindLetter (v : Value) (b : List Ltr) (n : Int) (w : World) (hv : rd w w.heap.size v b) :
    Calls Try.prog 84 #[v, .int .i64 n] w fun e w' => e = .returned (.int .i64 (findI b n)) ∧ Below w.heap.size w w' := by
  have HV := Lib.hid hv
  obtain ⟨A, m, c, rfl, hm, hc, hmx, hr⟩ := hv
  subst hm
  unfold maxLen at hmx
  have HR := Lib.hid hr; clear hr
  go_enter Try.func84, Try.ntmps84
  go_wp2_with fail
  refine (impl_BatchValid _ b _ HV.out).mono ?_
  rintro e w1 ⟨rfl, b1⟩
  have l1 := later_trans (Below.refl w.heap.size w) b1
  clear b1
  cases h1 : okB b
  · have HF : Hid (findI b n = -1) := by show _ = _; unfold findI; rw [h1]; rfl
    clear h1
    go_wp2_with fail
    go_ret
    exact ⟨ret_int HF.out.symm, l1⟩
  have HF : Hid (findI b n = fiI (fun x => x.id == n) b) := by show _ = _; unfold findI; rw [if_pos h1]
  clear h1
  go_wp2_with fail
  go_loopw [12] (fun i wr => ∃ k : Nat, k ≤ b.length ∧ i = .int .i64 k ∧ Below w.heap.size w wr ∧ Hid (∀ j (hj : j < b.length), j < k → (b[j].id == n) = false)) (fun i _ => b.length - (intOf i).toNat)
  case atStart => exact ⟨0, Nat.zero_le _, rfl, l1, fun j _ h => absurd h (Nat.not_lt_zero j)⟩
  case round =>
    obtain ⟨k, hk, rfl, lr, HG⟩ := hrel
    obtain ⟨w3, rfl⟩ : ∃ w3 : World, w3 = wr := ⟨_, rfl⟩
    clear l1
    by_cases hlt : k < b.length
    · obtain ⟨bb, o, rfl, hb, ⟨hxi, hxc⟩, c1, c2⟩ := HR.out.ltrU k hlt
      have HY : Hid (∀ h : (b[k].id == n) = true, findI b n = k) := fun h => by rw [HF.out]; exact fiI_at hlt HG.out h
      have HN : Hid (∀ h : (b[k].id == n) = false, ∀ j (hj : j < b.length), j < k + 1 → (b[j].id == n) = false) := fun h j hj hjk => by
        by_cases he : j = k
        · subst he; exact h
        · exact HG.out j hj (by omega)
      generalize b[k] = x at *
      have hki : (k : Int) < (b.length : Int) := by omega
      cases hx : (x.id == n)
      · have HN2 := Lib.hid (HN.out hx)
        go_wp2_with fail
        go_roundw
        case rel => exact ⟨k + 1, by omega, by go_num, later_alloc lr _, HN2.out⟩
        case measure => simp [intOf]; omega
      · have HY2 := Lib.hid (HY.out hx)
        go_wp2_with fail
        go_ret
        exact ⟨ret_int HY2.out.symm, later_alloc lr _⟩
    · have HE : Hid (findI b n = -1) := by show _ = _; rw [HF.out]; exact fiI_none fun j hj => HG.out j hj (by omega)
      go_wp2_with fail
      go_ret
      exact ⟨ret_int HE.out.symm, lr⟩


end Go.Proofs.Ytnlljekijlkigaa

namespace Go.Proofs.Ytnlljekijlkigaa
open Go.RowKit

/-- The bin of the last missort of a letter; b if there is none. -/
def misBin (ms : List Mis) (x : Ltr) (b : Int) : Int := ms.foldl (fun b m => if m.id = x.id then m.bin else b) b
def binsOf (f : Ltr → Int) (n : Nat) (xs : List Ltr) : List (List Ltr) := (List.range n).map fun (k : Nat) => xs.filter fun x => f x == (k : Int)
def restOf (f : Ltr → Int) (xs : List Ltr) : List Ltr := xs.filter fun x => decide (f x < 0)
theorem binsOf_len (f : Ltr → Int) (n : Nat) (xs : List Ltr) : (binsOf f n xs).length = n := by simp [binsOf]
theorem binsOf_get (f : Ltr → Int) (n : Nat) (xs : List Ltr) (k : Nat) (h : k < (binsOf f n xs).length) : (binsOf f n xs)[k] = xs.filter fun x => f x == (k : Int) := by simp [binsOf]
theorem binsOf_nil (f : Ltr → Int) (n : Nat) : binsOf f n [] = List.replicate n [] := by
  apply List.ext_getElem
  · simp [binsOf]
  · intro i h1 h2; simp [binsOf]
theorem binsOf_step {f : Ltr → Int} {n : Nat} {xs : List Ltr} {k d : Nat} (h : k < xs.length) (hf : f xs[k] = (d : Int)) (hd : d < (binsOf f n (xs.take k)).length) :
    binsOf f n (xs.take (k + 1)) = (binsOf f n (xs.take k)).set d ((binsOf f n (xs.take k))[d] ++ [xs[k]]) := by
  apply List.ext_getElem
  · simp [binsOf]
  · intro i h1 h2
    simp only [List.getElem_set, binsOf_get]
    rw [List.take_succ_eq_append_getElem h, List.filter_append]
    by_cases hi : d = i
    · subst hi
      rw [if_pos rfl]
      simp [hf]
    · rw [if_neg hi]
      have : (f xs[k] == (i : Int)) = false := beq_eq_false_iff_ne.2 (by omega)
      simp [this]
theorem binsOf_skip {f : Ltr → Int} {n : Nat} {xs : List Ltr} {k : Nat} (h : k < xs.length) (hf : f xs[k] < 0) : binsOf f n (xs.take (k + 1)) = binsOf f n (xs.take k) := by
  apply List.ext_getElem
  · simp [binsOf]
  · intro i h1 h2
    rw [binsOf_get, binsOf_get, List.take_succ_eq_append_getElem h, List.filter_append]
    have : (f xs[k] == (i : Int)) = false := beq_eq_false_iff_ne.2 (by omega)
    simp [this]
theorem restOf_step {f : Ltr → Int} {xs : List Ltr} {k : Nat} (h : k < xs.length) (hf : f xs[k] < 0) : restOf f (xs.take (k + 1)) = restOf f (xs.take k) ++ [xs[k]] := by
  unfold restOf
  rw [List.take_succ_eq_append_getElem h, List.filter_append]
  simp [hf]
theorem restOf_skip {f : Ltr → Int} {xs : List Ltr} {k : Nat} (h : k < xs.length) (hf : 0 ≤ f xs[k]) : restOf f (xs.take (k + 1)) = restOf f (xs.take k) := by
  unfold restOf
  rw [List.take_succ_eq_append_getElem h, List.filter_append]
  simp
  omega
theorem filter_len_le {α : Type} (p : α → Bool) (xs : List α) (k : Nat) : ((xs.take k).filter p).length ≤ k := by
  have h1 := List.length_filter_le p (xs.take k)
  have h2 := List.length_take_le k xs
  omega
theorem binI_neg {p : Pln} {c : ByteArray} {k : Nat} (h : rkI p.order c < 0) : binI p c k = -1 := by unfold binI; rw [if_pos h]
theorem binI_pos {p : Pln} {c : ByteArray} {k : Nat} (h : ¬ rkI p.order c < 0) : binI p c k = rkI p.order c / powI p.bins k % p.bins := by unfold binI; rw [if_neg h]
theorem binI_range (p : Pln) (c : ByteArray) (k : Nat) (hb : 2 ≤ p.bins) : -1 ≤ binI p c k ∧ binI p c k < p.bins := by
  unfold binI
  split
  · omega
  · have h1 := Int.emod_nonneg (rkI p.order c / powI p.bins k) (show p.bins ≠ 0 by omega)
    have h2 := Int.emod_lt_of_pos (rkI p.order c / powI p.bins k) (show 0 < p.bins by omega)
    omega
theorem misBin_range {ms : List Mis} {n : Int} (h : ∀ m ∈ ms, 0 ≤ m.bin ∧ m.bin < n) (x : Ltr) : ∀ b, -1 ≤ b ∧ b < n → -1 ≤ misBin ms x b ∧ misBin ms x b < n := by
  unfold misBin
  induction ms with
  | nil => intro b hb; exact hb
  | cons m ms ih =>
    intro b hb
    simp only [List.foldl_cons]
    refine ih (fun m' hm' => h m' (List.mem_cons_of_mem _ hm')) _ ?_
    split
    · have := h m (List.mem_cons_self ..); omega
    · exact hb
theorem misBin_take {ms : List Mis} {k : Nat} (h : k < ms.length) (x : Ltr) (b : Int) : misBin (ms.take (k + 1)) x b = if ms[k].id = x.id then ms[k].bin else misBin (ms.take k) x b := by
  unfold misBin
  rw [List.take_succ_eq_append_getElem h, List.foldl_append]; rfl
/-- One pass. -/
def pass1 (p : Pln) (k : Nat) (xs : List Ltr) : List Ltr := (binsOf (fun x => binI p x.code k) p.bins.toNat xs).flatten
/-- The passes from k on, n of them. -/
def passesN (p : Pln) : Nat → Nat → List Ltr → List Ltr
  | _, 0, xs => xs
  | k, n + 1, xs => passesN p (k + 1) n (pass1 p k xs)
theorem passesN_succ (p : Pln) : ∀ (n k : Nat) (xs : List Ltr), passesN p k (n + 1) xs = pass1 p (k + n) (passesN p k n xs)
  | 0, k, xs => rfl
  | n + 1, k, xs => by
    show passesN p (k + 1) (n + 1) (pass1 p k xs) = pass1 p (k + (n + 1)) (passesN p (k + 1) n (pass1 p k xs))
    rw [passesN_succ p n (k + 1), show k + 1 + n = k + (n + 1) by omega]
/-- What falls out. -/
def outN (p : Pln) : Nat → Nat → List Ltr → List Ltr
  | _, 0, _ => []
  | k, n + 1, xs => restOf (fun x => binI p x.code k) xs ++ outN p (k + 1) n (pass1 p k xs)
theorem outN_succ (p : Pln) : ∀ (n k : Nat) (xs : List Ltr), outN p k (n + 1) xs = outN p k n xs ++ restOf (fun x => binI p x.code (k + n)) (passesN p k n xs)
  | 0, k, xs => by show restOf _ xs ++ [] = [] ++ restOf _ xs; simp
  | n + 1, k, xs => by
    show restOf _ xs ++ outN p (k + 1) (n + 1) (pass1 p k xs) = (restOf _ xs ++ outN p (k + 1) n (pass1 p k xs)) ++ restOf (fun x => binI p x.code (k + (n + 1))) (passesN p (k + 1) n (pass1 p k xs))
    rw [outN_succ p n (k + 1), show k + 1 + n = k + (n + 1) by omega, List.append_assoc]
theorem binsOf_mem {f : Ltr → Int} {n : Nat} {xs : List Ltr} {x : Ltr} : x ∈ (binsOf f n xs).flatten ↔ x ∈ xs ∧ 0 ≤ f x ∧ f x < n := by
  simp only [binsOf, List.mem_flatten, List.mem_map, List.mem_range]
  constructor
  · rintro ⟨l, ⟨k, hk, rfl⟩, hx⟩
    simp only [List.mem_filter, beq_iff_eq] at hx
    exact ⟨hx.1, by omega, by omega⟩
  · rintro ⟨h1, h2, h3⟩
    obtain ⟨k, hk⟩ := Int.eq_ofNat_of_zero_le h2
    exact ⟨_, ⟨k, by omega, rfl⟩, by simp [h1, hk]⟩
theorem binI_rank {p : Pln} {c : ByteArray} {k : Nat} (hb : 2 ≤ p.bins) : binI p c k < 0 ↔ rkI p.order c < 0 := by
  unfold binI
  split
  · rename_i h; simp [h]
  · rename_i h
    have h1 := Int.emod_nonneg (rkI p.order c / powI p.bins k) (show p.bins ≠ 0 by omega)
    omega
theorem flatten_length_binsOf {f : Ltr → Int} {n : Nat} (xs : List Ltr) : (binsOf f n xs).flatten.length ≤ xs.length := by
  induction xs with
  | nil => rw [binsOf_nil]; simp
  | cons x xs ih =>
    have key : ∀ m, ((List.range m).map fun (k : Nat) => ((x :: xs).filter fun y => f y == (k : Int))).flatten.length = ((List.range m).map fun (k : Nat) => (xs.filter fun y => f y == (k : Int))).flatten.length + (if 0 ≤ f x ∧ f x < m then 1 else 0) := fun m => by
      induction m with
      | zero => simp
      | succ m ihm =>
        rw [List.range_succ, List.map_append, List.map_append, List.flatten_append, List.flatten_append, List.length_append, List.length_append, ihm]
        simp only [List.map_cons, List.map_nil, List.flatten_cons, List.flatten_nil, List.append_nil, List.filter_cons]
        by_cases h : f x = (m : Int)
        · simp only [h, beq_self_eq_true, if_true, List.length_cons]
          rw [if_neg (by omega), if_pos (by omega)]; omega
        · have hb : (f x == (m : Int)) = false := beq_eq_false_iff_ne.2 h
          simp only [hb, Bool.false_eq_true, if_false]
          by_cases h2 : 0 ≤ f x ∧ f x < m
          · rw [if_pos h2, if_pos (by omega)]; omega
          · rw [if_neg h2, if_neg (by omega)]; omega
    unfold binsOf at *
    rw [key n, List.length_cons]
    split <;> omega
theorem pass1_len (p : Pln) (k : Nat) (xs : List Ltr) : (pass1 p k xs).length ≤ xs.length := flatten_length_binsOf xs
theorem passesN_len (p : Pln) : ∀ (n k : Nat) (xs : List Ltr), (passesN p k n xs).length ≤ xs.length
  | 0, _, _ => Nat.le_refl _
  | n + 1, k, xs => Nat.le_trans (passesN_len p n (k + 1) _) (pass1_len p k xs)
/-- Behind a pass all letters have a rank: none falls out any more. -/
theorem rest_after {p : Pln} (hb : 2 ≤ p.bins) (j k : Nat) (xs : List Ltr) : restOf (fun x => binI p x.code j) (pass1 p k xs) = [] := by
  unfold restOf
  rw [List.filter_eq_nil_iff]
  intro x hx
  have h := (binsOf_mem.1 hx).2.1
  have h2 := (binI_rank (p := p) (c := x.code) (k := j) hb)
  have h3 := (binI_rank (p := p) (c := x.code) (k := k) hb)
  simp only [decide_eq_true_eq]
  intro h4
  have := h3.2 (h2.1 h4)
  omega
theorem outN_first {p : Pln} (hb : 2 ≤ p.bins) (k n : Nat) (xs : List Ltr) : outN p k (n + 1) xs = restOf (fun x => binI p x.code k) xs := by
  have h : ∀ (n j k : Nat) (ys : List Ltr), outN p j n (pass1 p k ys) = [] := by
    intro n
    induction n with
    | zero => intro j k ys; rfl
    | succ n ih =>
      intro j k ys
      show restOf _ (pass1 p k ys) ++ outN p (j + 1) n (pass1 p j (pass1 p k ys)) = []
      rw [rest_after hb, ih]; rfl
  show restOf _ xs ++ outN p (k + 1) n (pass1 p k xs) = _
  rw [h, List.append_nil]
def passOk (p : Pln) (k : Int) : Bool := planOk p && (decide (0 ≤ k) && decide (k < p.passes))
theorem passOk_iff {p : Pln} {k : Int} : passOk p k = true ↔ planOk p = true ∧ 0 ≤ k ∧ k < p.passes := by
  unfold passOk; simp only [Bool.and_eq_true, decide_eq_true_iff]
theorem planOk_bins {p : Pln} (h : planOk p = true) : 2 ≤ p.bins ∧ p.bins ≤ 16 ∧ 1 ≤ p.passes ∧ p.passes ≤ 4 ∧ p.order.length ≤ 60 := by
  unfold planOk shapeOk at h
  simp only [Bool.and_eq_true, decide_eq_true_iff] at h
  omega

end Go.Proofs.Ytnlljekijlkigaa
