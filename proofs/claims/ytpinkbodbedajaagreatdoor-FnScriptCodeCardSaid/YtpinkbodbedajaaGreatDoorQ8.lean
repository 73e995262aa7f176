/- L3 L4 BM B2 GMis B3 -/
import Derived.Test.YtpinkbodbedajaaGreatDoorQ1
import Derived.Test.YtpinkbodbedajaaGreatDoorQ3
import Derived.Test.YtpinkbodbedajaaGreatDoorQ6
import Derived.Test.YtpinkbodbedajaaGreatDoorQ7
import Derived.StillTailTactics
import Derived.Handy
import Derived.Deep.RegionLaw
namespace Go.Proofs.YtpinkbodbedajaaGreatDoor
open Go.RowKit

/-- The greatest length among those whose rank is at most n. -/
def topLe (L : List (Nat × Nat)) (n : Nat) : Nat := L.foldl (fun a x => if x.1 ≤ n then max a x.2 else a) 0
/-- The greatest length among those of rank n. -/
def topEq (L : List (Nat × Nat)) (n : Nat) : Nat := L.foldl (fun a x => if x.1 = n then max a x.2 else a) 0
def bestK (L : List (Nat × Nat)) : Nat := L.foldl (fun a x => max a x.2) 0
def stepK (L : List (Nat × Nat)) (r : Int) : List (Nat × Nat) := if r < 0 then L else L ++ [(r.toNat, topLe L r.toNat + 1)]
def runK (rs : List Int) : List (Nat × Nat) := rs.foldl stepK []
theorem topLe_snoc (L : List (Nat × Nat)) (x : Nat × Nat) (n : Nat) : topLe (L ++ [x]) n = if x.1 ≤ n then max (topLe L n) x.2 else topLe L n := by
  unfold topLe; rw [List.foldl_append]; rfl
theorem topEq_snoc (L : List (Nat × Nat)) (x : Nat × Nat) (n : Nat) : topEq (L ++ [x]) n = if x.1 = n then max (topEq L n) x.2 else topEq L n := by
  unfold topEq; rw [List.foldl_append]; rfl
theorem bestK_snoc (L : List (Nat × Nat)) (x : Nat × Nat) : bestK (L ++ [x]) = max (bestK L) x.2 := by
  unfold bestK; rw [List.foldl_append]; rfl
theorem runK_snoc (rs : List Int) (r : Int) : runK (rs ++ [r]) = stepK (runK rs) r := by
  unfold runK; rw [List.foldl_append]; rfl
theorem runK_succ (rs : List Int) (k : Nat) (h : k < rs.length) : runK (rs.take (k + 1)) = stepK (runK (rs.take k)) rs[k] := by
  rw [List.take_succ_eq_append_getElem h, runK_snoc]
/-- The greatest of g 0 .. g n. -/
def maxTo (g : Nat → Nat) : Nat → Nat
  | 0 => g 0
  | n + 1 => max (maxTo g n) (g (n + 1))
theorem maxTo_congr {g g' : Nat → Nat} : ∀ n, (∀ j, j ≤ n → g j = g' j) → maxTo g n = maxTo g' n
  | 0, h => h 0 (Nat.le_refl _)
  | n + 1, h => by unfold maxTo; rw [maxTo_congr n fun j hj => h j (by omega), h (n + 1) (Nat.le_refl _)]
theorem maxTo_set (g : Nat → Nat) (r f : Nat) : ∀ n, maxTo (fun j => if r = j then max (g j) f else g j) n = if r ≤ n then max (maxTo g n) f else maxTo g n
  | 0 => by
    unfold maxTo
    by_cases h : r = 0
    · simp [h]
    · simp [h]
  | n + 1 => by
    unfold maxTo
    rw [maxTo_set g r f n]
    by_cases h1 : r ≤ n
    · rw [if_pos h1, if_neg (by omega), if_pos (by omega)]; omega
    · rw [if_neg h1]
      by_cases h2 : r = n + 1
      · rw [if_pos h2, if_pos (by omega)]; omega
      · rw [if_neg h2, if_neg (by omega)]
theorem maxTo_zero : ∀ n, maxTo (fun _ => 0) n = 0
  | 0 => rfl
  | n + 1 => by unfold maxTo; rw [maxTo_zero n]; rfl
theorem snoc_ind {α : Type} {p : List α → Prop} (h0 : p []) (h1 : ∀ l a, p l → p (l ++ [a])) (l : List α) : p l := by
  have : ∀ n (l : List α), l.length = n → p l := fun n => by
    induction n with
    | zero => intro l hl; rw [List.length_eq_zero_iff.1 hl]; exact h0
    | succ n ih =>
      intro l hl
      have hne : l ≠ [] := by intro h; rw [h] at hl; simp at hl
      rw [← List.dropLast_concat_getLast hne]
      exact h1 _ _ (ih _ (by simp [hl]))
  exact this _ l rfl
theorem topLe_eq (L : List (Nat × Nat)) (n : Nat) : maxTo (topEq L) n = topLe L n := by
  induction L using snoc_ind with
  | h0 => exact maxTo_zero n
  | h1 L x ih =>
    rw [topLe_snoc, ← ih, ← maxTo_set]
    exact maxTo_congr n fun j _ => topEq_snoc L x j
theorem topEq_le_maxTo (g : Nat → Nat) : ∀ n j, j ≤ n → g j ≤ maxTo g n
  | 0, j, h => by obtain rfl : j = 0 := by omega
                  exact Nat.le_refl _
  | n + 1, j, h => by
    unfold maxTo
    by_cases hj : j = n + 1
    · rw [hj]; omega
    · have := topEq_le_maxTo g n j (by omega); omega
theorem topEq_step (L : List (Nat × Nat)) (r j : Nat) : topEq (L ++ [(r, topLe L r + 1)]) j = if r = j then topLe L r + 1 else topEq L j := by
  rw [topEq_snoc]
  by_cases h : r = j
  · subst h
    simp only [if_true]
    have := topEq_le_maxTo (topEq L) r r (Nat.le_refl _)
    rw [topLe_eq] at this
    omega
  · rw [if_neg h, if_neg h]
theorem runK_len (rs : List Int) : (runK rs).length ≤ rs.length := by
  induction rs using snoc_ind with
  | h0 => exact Nat.le_refl _
  | h1 rs r ih =>
    rw [runK_snoc]
    unfold stepK
    split
    · simp; omega
    · simp; omega
theorem topLe_bound (rs : List Int) (n : Nat) : topLe (runK rs) n ≤ rs.length ∧ bestK (runK rs) ≤ rs.length := by
  induction rs using snoc_ind generalizing n with
  | h0 => exact ⟨Nat.le_refl _, Nat.le_refl _⟩
  | h1 rs r ih =>
    rw [runK_snoc]
    unfold stepK
    have h1 := ih n
    split
    · simp; omega
    · have h2 := ih r.toNat
      rw [topLe_snoc, bestK_snoc]
      simp only [List.length_append, List.length_cons, List.length_nil]
      split <;> omega

/-- How many letters can stay: all ranks in their order. -/
def ranksOf (p : Pln) (xs : List Ltr) : List Int := xs.map fun x => rkI p.order x.code
def keptN (p : Pln) (xs : List Ltr) : Nat := bestK (runK (ranksOf p xs))
def keptI (p : Pln) (xs : List Ltr) : Int := if planOk p && okB xs then keptN p xs else -1

end Go.Proofs.YtpinkbodbedajaaGreatDoor

namespace Go.Proofs.YtpinkbodbedajaaGreatDoor
open Go.RowKit

/-- The row g 0, .., g (n - 1). -/
def rowK (g : Nat → Nat) (n : Nat) : List Int := (List.range n).map fun j => ((g j : Nat) : Int)
theorem rowK_len (g : Nat → Nat) (n : Nat) : (rowK g n).length = n := by simp [rowK]
theorem rowK_get (g : Nat → Nat) (n k : Nat) (h : k < (rowK g n).length) : (rowK g n)[k] = ((g k : Nat) : Int) := by simp [rowK]
theorem rowK_take (g : Nat → Nat) (n k : Nat) (h : k ≤ n) : (rowK g n).take k = rowK g k := by
  apply List.ext_getElem
  · simp [rowK_len]; omega
  · intro i h1 h2
    rw [List.getElem_take, rowK_get, rowK_get]
theorem rowK_set (g : Nat → Nat) (n r f : Nat) : (rowK g n).set r (f : Int) = rowK (fun j => if r = j then f else g j) n := by
  apply List.ext_getElem
  · simp [rowK_len]
  · intro i h1 h2
    rw [List.getElem_set, rowK_get, rowK_get]
    split <;> rfl
theorem rowK_congr {g g' : Nat → Nat} {n : Nat} (h : ∀ j, j < n → g j = g' j) : rowK g n = rowK g' n := by
  apply List.ext_getElem
  · simp [rowK_len]
  · intro i h1 h2
    rw [rowK_get, rowK_get, h i (by simpa [rowK_len] using h1)]

theorem own_setInt {T base g n c : Nat} {w : World} {xs : List Int} (h : own T base w (.slice (some ⟨g, 0, none⟩) n c) xs) {k : Nat} (hk : k < xs.length) (y : Int) (hy : isI64 y) :
    own T base (w.setCell ⟨g, k, none⟩ (.int .i64 y)) (.slice (some ⟨g, 0, none⟩) n c) (xs.set k y) := by
  have h1 := h.setCell (k := k) (j := 0) hk (by decide) (.int .i64 y) y (fun ecs he => by
    obtain ⟨_, rfl⟩ := he
    exact ⟨hy, rfl⟩)
  rw [show k * El.size Int + 0 = k from Nat.mul_one k] at h1
  exact h1

theorem Tryz.infoInt : (Tryz.prog.info? 3).map (fun i => (i.zero, i.size, i.bytes)) = some (some (.int .i64 0), 1, 8) := by kernel_rfl

theorem own_zeros (w : World) (n base : Nat) (hb : base ≤ w.heap.size) (hn : n ≤ maxLen) : own 3 base (w.alloc (.cells (madeCells #[.int .i64 0] n) 3)) (.slice (some ⟨w.heap.size, 0, none⟩) n n) (rowK (fun _ => 0) n) := by
  have hf : filled 3 (w.alloc (.cells (madeCells #[.int .i64 0] n) 3)) w.heap.size n n (rowK (fun _ => 0) n) := by
    refine ⟨madeCells #[.int .i64 0] n, heap_alloc_new w _, by rw [size_madeCells]; exact (Nat.mul_one _).symm, fun i hi hin => ⟨[.int .i64 0], ⟨?_, ?_⟩, fun j u hu => ?_⟩⟩
    · rw [rowK_get]; unfold isI64; omega
    · rw [rowK_get]; rfl
    · have hj : j = 0 := by
        cases j with
        | zero => rfl
        | succ j => simp at hu
      subst hj
      simp at hu
      subst hu
      rw [show i * El.size Int + 0 = i from Nat.mul_one i]
      simp [madeCells, Nat.mod_one, show i < n by simpa [rowK_len] using hi]
  exact hf.own (by rw [rowK_len]) hb hn

set_option maxHeartbeats 400000 in
theorem slices_MaxI (v : Value) (g : Nat → Nat) (n : Nat) (w : World) (hv : rd w w.heap.size v (rowK g (n + 1))) :
    Calls Tryz.prog 167 #[v] w fun e w' => e = .returned (.int .i64 (maxTo g n : Nat)) ∧ w = w' := by
  obtain ⟨A, m, c, rfl, hn, hc, hm, hr⟩ := hv
  rw [rowK_len] at hn
  subst hn
  unfold maxLen at hm
  have HR := Lib.hid hr; clear hr
  obtain ⟨b, o, rfl, hb, i0, c0⟩ := HR.out.int 0 (by rw [rowK_len]; omega)
  rw [rowK_get] at c0 i0
  have c0' : w.cell? ⟨b, o, none⟩ = some (.int .i64 (g 0 : Nat)) := c0
  clear c0
  have h1 : ¬ ((n : Int) + 1 < 1) := by omega
  go_enter Tryz.func167, Tryz.ntmps167
  go_wp2
  go_loop [3, 4] (fun t i => ∃ (k m : Nat), k ≤ n ∧ i = .int .i64 ((k : Int) + 1) ∧ t = .int .i64 (m : Int) ∧ Hid (m = maxTo g k)) (fun _ i => n + 1 - (intOf i).toNat)
  case atStart => exact ⟨0, g 0, Nat.zero_le _, rfl, rfl, rfl⟩
  case round =>
    obtain ⟨k, m, hk, rfl, rfl, HM⟩ := hrel
    by_cases hlt : k < n
    · obtain ⟨b', o', hA, _, _, c1⟩ := HR.out.int (k + 1) (by rw [rowK_len]; omega)
      injection hA with hA
      injection hA with hA1 hA2
      subst hA1 hA2
      rw [rowK_get] at c1
      have hx : maxTo g (k + 1) = max m (g (k + 1)) := by rw [HM.out]; rfl
      have HX := Lib.hid hx; clear hx
      generalize g (k + 1) = y at *
      have c1' : w.cell? ⟨b, o + (k + 1), none⟩ = some (.int .i64 (y : Int)) := c1
      clear c1
      have hi1 : (0 : Int) ≤ (k : Int) + 1 := by omega
      have hi2 : ((k : Int) + 1).toNat = k + 1 := by omega
      by_cases hmy : (m : Int) < (y : Int)
      · go_wp2
        go_round
        case rel => exact ⟨k + 1, y, by omega, by go_num, rfl, by show _ = _; rw [HX.out]; omega⟩
        case measure => simp [intOf]; omega
      · go_wp2
        go_round
        case rel => exact ⟨k + 1, m, by omega, by go_num, rfl, by show _ = _; rw [HX.out]; omega⟩
        case measure => simp [intOf]; omega
    · have HE := Lib.hid (show k = n by omega)
      go_wp2
      go_ret
      exact ⟨ret_int (by rw [← HE.out, ← HM.out]), rfl⟩

end Go.Proofs.YtpinkbodbedajaaGreatDoor

namespace Go.Proofs.YtpinkbodbedajaaGreatDoor
open Go.RowKit

/-- The bin of the last missort of a letter; b if there is none. -/
def misBin (ms : List Mis) (x : Ltr) (b : Int) : Int := ms.foldl (fun b m => if m.id = x.id then m.bin else b) b
def binsOf (f : Ltr → Int) (n : Nat) (xs : List Ltr) : List (List Ltr) := (List.range n).map fun (k : Nat) => xs.filter fun x => f x == (k : Int)
def restOf (f : Ltr → Int) (xs : List Ltr) : List Ltr := xs.filter fun x => decide (f x < 0)
theorem binsOf_len (f : Ltr → Int) (n : Nat) (xs : List Ltr) : (binsOf f n xs).length = n := by simp [binsOf]
theorem binsOf_get (f : Ltr → Int) (n : Nat) (xs : List Ltr) (k : Nat) (h : k < (binsOf f n xs).length) : (binsOf f n xs)[k] = xs.filter fun x => f x == (k : Int) := by simp [binsOf]
theorem binsOf_nil (f : Ltr → Int) (n : Nat) : binsOf f n [] = List.replicate n [] := by
  apply List.ext_getElem
  · simp [binsOf]
  · intro i h1 h2; simp [binsOf]
theorem binsOf_step {f : Ltr → Int} {n : Nat} {xs : List Ltr} {k d : Nat} (h : k < xs.length) (hf : f xs[k] = (d : Int)) (hd : d < (binsOf f n (xs.take k)).length) :
    binsOf f n (xs.take (k + 1)) = (binsOf f n (xs.take k)).set d ((binsOf f n (xs.take k))[d] ++ [xs[k]]) := by
  apply List.ext_getElem
  · simp [binsOf]
  · intro i h1 h2
    simp only [List.getElem_set, binsOf_get]
    rw [List.take_succ_eq_append_getElem h, List.filter_append]
    by_cases hi : d = i
    · subst hi
      rw [if_pos rfl]
      simp [hf]
    · rw [if_neg hi]
      have : (f xs[k] == (i : Int)) = false := beq_eq_false_iff_ne.2 (by omega)
      simp [this]
theorem binsOf_skip {f : Ltr → Int} {n : Nat} {xs : List Ltr} {k : Nat} (h : k < xs.length) (hf : f xs[k] < 0) : binsOf f n (xs.take (k + 1)) = binsOf f n (xs.take k) := by
  apply List.ext_getElem
  · simp [binsOf]
  · intro i h1 h2
    rw [binsOf_get, binsOf_get, List.take_succ_eq_append_getElem h, List.filter_append]
    have : (f xs[k] == (i : Int)) = false := beq_eq_false_iff_ne.2 (by omega)
    simp [this]
theorem restOf_step {f : Ltr → Int} {xs : List Ltr} {k : Nat} (h : k < xs.length) (hf : f xs[k] < 0) : restOf f (xs.take (k + 1)) = restOf f (xs.take k) ++ [xs[k]] := by
  unfold restOf
  rw [List.take_succ_eq_append_getElem h, List.filter_append]
  simp [hf]
theorem restOf_skip {f : Ltr → Int} {xs : List Ltr} {k : Nat} (h : k < xs.length) (hf : 0 ≤ f xs[k]) : restOf f (xs.take (k + 1)) = restOf f (xs.take k) := by
  unfold restOf
  rw [List.take_succ_eq_append_getElem h, List.filter_append]
  simp
  omega
theorem filter_len_le {α : Type} (p : α → Bool) (xs : List α) (k : Nat) : ((xs.take k).filter p).length ≤ k := by
  have h1 := List.length_filter_le p (xs.take k)
  have h2 := List.length_take_le k xs
  omega
theorem binI_neg {p : Pln} {c : ByteArray} {k : Nat} (h : rkI p.order c < 0) : binI p c k = -1 := by unfold binI; rw [if_pos h]
theorem binI_pos {p : Pln} {c : ByteArray} {k : Nat} (h : ¬ rkI p.order c < 0) : binI p c k = rkI p.order c / powI p.bins k % p.bins := by unfold binI; rw [if_neg h]
theorem binI_range (p : Pln) (c : ByteArray) (k : Nat) (hb : 2 ≤ p.bins) : -1 ≤ binI p c k ∧ binI p c k < p.bins := by
  unfold binI
  split
  · omega
  · have h1 := Int.emod_nonneg (rkI p.order c / powI p.bins k) (show p.bins ≠ 0 by omega)
    have h2 := Int.emod_lt_of_pos (rkI p.order c / powI p.bins k) (show 0 < p.bins by omega)
    omega
theorem misBin_range {ms : List Mis} {n : Int} (h : ∀ m ∈ ms, 0 ≤ m.bin ∧ m.bin < n) (x : Ltr) : ∀ b, -1 ≤ b ∧ b < n → -1 ≤ misBin ms x b ∧ misBin ms x b < n := by
  unfold misBin
  induction ms with
  | nil => intro b hb; exact hb
  | cons m ms ih =>
    intro b hb
    simp only [List.foldl_cons]
    refine ih (fun m' hm' => h m' (List.mem_cons_of_mem _ hm')) _ ?_
    split
    · have := h m (List.mem_cons_self ..); omega
    · exact hb
theorem misBin_take {ms : List Mis} {k : Nat} (h : k < ms.length) (x : Ltr) (b : Int) : misBin (ms.take (k + 1)) x b = if ms[k].id = x.id then ms[k].bin else misBin (ms.take k) x b := by
  unfold misBin
  rw [List.take_succ_eq_append_getElem h, List.foldl_append]; rfl
/-- One pass. -/
def pass1 (p : Pln) (k : Nat) (xs : List Ltr) : List Ltr := (binsOf (fun x => binI p x.code k) p.bins.toNat xs).flatten
/-- The passes from k on, n of them. -/
def passesN (p : Pln) : Nat → Nat → List Ltr → List Ltr
  | _, 0, xs => xs
  | k, n + 1, xs => passesN p (k + 1) n (pass1 p k xs)
theorem passesN_succ (p : Pln) : ∀ (n k : Nat) (xs : List Ltr), passesN p k (n + 1) xs = pass1 p (k + n) (passesN p k n xs)
  | 0, k, xs => rfl
  | n + 1, k, xs => by
    show passesN p (k + 1) (n + 1) (pass1 p k xs) = pass1 p (k + (n + 1)) (passesN p (k + 1) n (pass1 p k xs))
    rw [passesN_succ p n (k + 1), show k + 1 + n = k + (n + 1) by omega]
/-- What falls out. -/
def outN (p : Pln) : Nat → Nat → List Ltr → List Ltr
  | _, 0, _ => []
  | k, n + 1, xs => restOf (fun x => binI p x.code k) xs ++ outN p (k + 1) n (pass1 p k xs)
theorem outN_succ (p : Pln) : ∀ (n k : Nat) (xs : List Ltr), outN p k (n + 1) xs = outN p k n xs ++ restOf (fun x => binI p x.code (k + n)) (passesN p k n xs)
  | 0, k, xs => by show restOf _ xs ++ [] = [] ++ restOf _ xs; simp
  | n + 1, k, xs => by
    show restOf _ xs ++ outN p (k + 1) (n + 1) (pass1 p k xs) = (restOf _ xs ++ outN p (k + 1) n (pass1 p k xs)) ++ restOf (fun x => binI p x.code (k + (n + 1))) (passesN p (k + 1) n (pass1 p k xs))
    rw [outN_succ p n (k + 1), show k + 1 + n = k + (n + 1) by omega, List.append_assoc]
theorem binsOf_mem {f : Ltr → Int} {n : Nat} {xs : List Ltr} {x : Ltr} : x ∈ (binsOf f n xs).flatten ↔ x ∈ xs ∧ 0 ≤ f x ∧ f x < n := by
  simp only [binsOf, List.mem_flatten, List.mem_map, List.mem_range]
  constructor
  · rintro ⟨l, ⟨k, hk, rfl⟩, hx⟩
    simp only [List.mem_filter, beq_iff_eq] at hx
    exact ⟨hx.1, by omega, by omega⟩
  · rintro ⟨h1, h2, h3⟩
    obtain ⟨k, hk⟩ := Int.eq_ofNat_of_zero_le h2
    exact ⟨_, ⟨k, by omega, rfl⟩, by simp [h1, hk]⟩
theorem binI_rank {p : Pln} {c : ByteArray} {k : Nat} (hb : 2 ≤ p.bins) : binI p c k < 0 ↔ rkI p.order c < 0 := by
  unfold binI
  split
  · rename_i h; simp [h]
  · rename_i h
    have h1 := Int.emod_nonneg (rkI p.order c / powI p.bins k) (show p.bins ≠ 0 by omega)
    omega
theorem flatten_length_binsOf {f : Ltr → Int} {n : Nat} (xs : List Ltr) : (binsOf f n xs).flatten.length ≤ xs.length := by
  induction xs with
  | nil => rw [binsOf_nil]; simp
  | cons x xs ih =>
    have key : ∀ m, ((List.range m).map fun (k : Nat) => ((x :: xs).filter fun y => f y == (k : Int))).flatten.length = ((List.range m).map fun (k : Nat) => (xs.filter fun y => f y == (k : Int))).flatten.length + (if 0 ≤ f x ∧ f x < m then 1 else 0) := fun m => by
      induction m with
      | zero => simp
      | succ m ihm =>
        rw [List.range_succ, List.map_append, List.map_append, List.flatten_append, List.flatten_append, List.length_append, List.length_append, ihm]
        simp only [List.map_cons, List.map_nil, List.flatten_cons, List.flatten_nil, List.append_nil, List.filter_cons]
        by_cases h : f x = (m : Int)
        · simp only [h, beq_self_eq_true, if_true, List.length_cons]
          rw [if_neg (by omega), if_pos (by omega)]; omega
        · have hb : (f x == (m : Int)) = false := beq_eq_false_iff_ne.2 h
          simp only [hb, Bool.false_eq_true, if_false]
          by_cases h2 : 0 ≤ f x ∧ f x < m
          · rw [if_pos h2, if_pos (by omega)]; omega
          · rw [if_neg h2, if_neg (by omega)]; omega
    unfold binsOf at *
    rw [key n, List.length_cons]
    split <;> omega
theorem pass1_len (p : Pln) (k : Nat) (xs : List Ltr) : (pass1 p k xs).length ≤ xs.length := flatten_length_binsOf xs
theorem passesN_len (p : Pln) : ∀ (n k : Nat) (xs : List Ltr), (passesN p k n xs).length ≤ xs.length
  | 0, _, _ => Nat.le_refl _
  | n + 1, k, xs => Nat.le_trans (passesN_len p n (k + 1) _) (pass1_len p k xs)
/-- Behind a pass all letters have a rank: none falls out any more. -/
theorem rest_after {p : Pln} (hb : 2 ≤ p.bins) (j k : Nat) (xs : List Ltr) : restOf (fun x => binI p x.code j) (pass1 p k xs) = [] := by
  unfold restOf
  rw [List.filter_eq_nil_iff]
  intro x hx
  have h := (binsOf_mem.1 hx).2.1
  have h2 := (binI_rank (p := p) (c := x.code) (k := j) hb)
  have h3 := (binI_rank (p := p) (c := x.code) (k := k) hb)
  simp only [decide_eq_true_eq]
  intro h4
  have := h3.2 (h2.1 h4)
  omega
theorem outN_first {p : Pln} (hb : 2 ≤ p.bins) (k n : Nat) (xs : List Ltr) : outN p k (n + 1) xs = restOf (fun x => binI p x.code k) xs := by
  have h : ∀ (n j k : Nat) (ys : List Ltr), outN p j n (pass1 p k ys) = [] := by
    intro n
    induction n with
    | zero => intro j k ys; rfl
    | succ n ih =>
      intro j k ys
      show restOf _ (pass1 p k ys) ++ outN p (j + 1) n (pass1 p j (pass1 p k ys)) = []
      rw [rest_after hb, ih]; rfl
  show restOf _ xs ++ outN p (k + 1) n (pass1 p k xs) = _
  rw [h, List.append_nil]
def passOk (p : Pln) (k : Int) : Bool := planOk p && (decide (0 ≤ k) && decide (k < p.passes))
theorem passOk_iff {p : Pln} {k : Int} : passOk p k = true ↔ planOk p = true ∧ 0 ≤ k ∧ k < p.passes := by
  unfold passOk; simp only [Bool.and_eq_true, decide_eq_true_iff]
theorem planOk_bins {p : Pln} (h : planOk p = true) : 2 ≤ p.bins ∧ p.bins ≤ 16 ∧ 1 ≤ p.passes ∧ p.passes ≤ 4 ∧ p.order.length ≤ 60 := by
  unfold planOk shapeOk at h
  simp only [Bool.and_eq_true, decide_eq_true_iff] at h
  omega

end Go.Proofs.YtpinkbodbedajaaGreatDoor

namespace Go.Proofs.YtpinkbodbedajaaGreatDoor
open Go.RowKit

theorem ordP {w : World} {B : Nat} {p : Pln} {A : Option Addr} {c : Nat} (h : rdP w B (.agg #[.int .i64 p.bins, .int .i64 p.passes, .slice A p.order.length c]) p) : rd w B (.slice A p.order.length c) p.order := by
  obtain ⟨vo, h1, _, _, h4⟩ := h
  injection h1 with h1
  injection h1 with h1
  simp only [List.cons.injEq, and_true, true_and] at h1
  subst h1
  exact h4
theorem indexS_is {v : Value} {xs : List ByteArray} {c : ByteArray} {r : Int} {w : World} (hv : rd w w.heap.size v xs) (h : rkI xs c = r) :
    Calls Tryz.prog 166 #[v, .string c] w fun e w' => e = .returned (.int .i64 r) ∧ w = w' := by
  rw [← h]; exact slices_IndexS v xs c w hv
theorem l3RankI_is {v : Value} {xs : List ByteArray} {c : ByteArray} {r : Int} {w : World} (hv : rd w w.heap.size v xs) (h : rkI xs c = r) :
    Calls Tryz.prog 107 #[v, .string c] w fun e w' => e = .returned (.int .i64 r) ∧ w = w' := by
  rw [← h]; exact spec_l3Rank v xs c w hv

set_option maxRecDepth 100000 in
set_option maxHeartbeats 800000 in
theorem impl_binOf (v : Value) (p : Pln) (c : ByteArray) (k : Nat) (w : World) (hv : rdP w w.heap.size v p) (h1 : 2 ≤ p.bins) (h2 : p.bins ≤ 16) (hk : k ≤ 4) (hl : p.order.length ≤ 1000) :
    Calls Tryz.prog 226 #[v, .string c, .int .i64 k] w fun e w' => e = .returned (.int .i64 (binI p c k)) ∧ Below w.heap.size w w' := by
  obtain ⟨A0, c0, e0⟩ := openP hv
  obtain ⟨w0, hw0⟩ : ∃ w0, w0 = w.alloc (Obj.cells #[.int .i64 p.bins, .int .i64 p.passes, .slice A0 p.order.length c0] 25) := ⟨_, rfl⟩
  have q0 := box_cells hw0 0 (.int .i64 p.bins) rfl
  have q1 := box_cells hw0 1 (.int .i64 p.passes) rfl
  have q2 := box_cells hw0 2 (.slice A0 p.order.length c0) rfl
  have HT := Lib.hid (box_later hw0).1
  have HP := Lib.hid (hv.on HT.out)
  subst e0
  have HO := Lib.hid (ordP HP.out)
  have HW0 := Lib.hid hw0; clear hw0 hv
  have l0 := Below.refl w0.heap.size w0
  obtain ⟨r, HRR⟩ : ∃ r, Hid (rkI p.order c = r) := ⟨_, rfl⟩
  obtain ⟨q, HQ⟩ : ∃ q, Hid (powI p.bins k = q) := ⟨_, rfl⟩
  obtain ⟨qa, qb⟩ := powI_bounds h1 h2 k hk
  rw [HQ.out] at qa qb
  obtain ⟨ra, rb⟩ := rkI_range p.order c
  rw [HRR.out] at ra rb
  have C2 := Lib.hid (fun w => impl_binPower p.bins k w h1 h2 hk)
  go_enter Tryz.func226, Tryz.ntmps226
  go_wp2_with fail
  rw [← HW0.out]
  refine (indexS_is HO.out HRR.out).mono ?_
  rintro e w1 ⟨rfl, rfl⟩
  by_cases hr : r < 0
  · go_wp2_with fail
    go_ret
    exact ⟨ret_int (by rw [binI_neg (by rw [HRR.out]; exact hr)]), HT.out⟩
  have hr0 : 0 ≤ r := by omega
  have HE : Hid (binI p c k = r / q % p.bins) := by show _ = _; rw [binI_pos (by rw [HRR.out]; omega), HRR.out, HQ.out]
  have C3 : Hid (∀ w : World, Calls Tryz.prog 175 #[.int .i64 p.bins, .int .i64 k] w fun e w' => e = .returned (.int .i64 q) ∧ w = w') := fun w => by
    have h := C2.out w
    rw [HQ.out] at h
    exact h
  have hq0 : (q == 0) = false := beq_eq_false_iff_ne.2 (by omega)
  have hb0 : (p.bins == 0) = false := beq_eq_false_iff_ne.2 (by omega)
  have hq1 : ¬ q = 0 := by omega
  have hb1 : ¬ p.bins = 0 := by omega
  have d0 : 0 ≤ r / q := Int.ediv_nonneg hr0 (by omega)
  have d1 : r / q ≤ 1000 := by
    have := Int.ediv_le_self q hr0
    omega
  have m0 : 0 ≤ r / q % p.bins := Int.emod_nonneg _ hb1
  have m1 : r / q % p.bins < p.bins := Int.emod_lt_of_pos _ (by omega)
  go_wp2
  go_quiet (first | (go_at_call 175; refine quiet_c (C3.out _)))
  have t1 : r.tdiv q = r / q := Int.tdiv_eq_ediv_of_nonneg hr0
  have t2 : (r / q).tmod p.bins = r / q % p.bins := Int.tmod_eq_emod_of_nonneg d0
  have HT1 := Lib.hid t1; have HT2 := Lib.hid t2
  clear t1 t2 hq0 hb0 hq1 hb1
  go_wp2
  go_ret
  exact ⟨ret_int (by rw [HE.out]), later_trans HT.out (below_drewN l0 _)⟩

set_option maxRecDepth 100000 in
set_option maxHeartbeats 800000 in
theorem spec_l3Bin (v : Value) (p : Pln) (c : ByteArray) (k : Nat) (w : World) (hv : rdP w w.heap.size v p) (h1 : 2 ≤ p.bins) (h2 : p.bins ≤ 16) (hk : k ≤ 4) (hl : p.order.length ≤ 1000) :
    Calls Tryz.prog 162 #[v, .string c, .int .i64 k] w fun e w' => e = .returned (.int .i64 (binI p c k)) ∧ Below w.heap.size w w' := by
  obtain ⟨A0, c0, e0⟩ := openP hv
  obtain ⟨w0, hw0⟩ : ∃ w0, w0 = w.alloc (Obj.cells #[.int .i64 p.bins, .int .i64 p.passes, .slice A0 p.order.length c0] 25) := ⟨_, rfl⟩
  have q0 := box_cells hw0 0 (.int .i64 p.bins) rfl
  have q1 := box_cells hw0 1 (.int .i64 p.passes) rfl
  have q2 := box_cells hw0 2 (.slice A0 p.order.length c0) rfl
  have HT := Lib.hid (box_later hw0).1
  have HP := Lib.hid (hv.on HT.out)
  subst e0
  have HO := Lib.hid (ordP HP.out)
  have HW0 := Lib.hid hw0; clear hw0 hv
  have l0 := Below.refl w0.heap.size w0
  obtain ⟨r, HRR⟩ : ∃ r, Hid (rkI p.order c = r) := ⟨_, rfl⟩
  obtain ⟨q, HQ⟩ : ∃ q, Hid (powI p.bins k = q) := ⟨_, rfl⟩
  obtain ⟨qa, qb⟩ := powI_bounds h1 h2 k hk
  rw [HQ.out] at qa qb
  obtain ⟨ra, rb⟩ := rkI_range p.order c
  rw [HRR.out] at ra rb
  have C2 := Lib.hid (fun w => spec_l3Power p.bins k w h1 h2 hk)
  go_enter Tryz.func162, Tryz.ntmps162
  go_wp2_with fail
  rw [← HW0.out]
  refine (l3RankI_is HO.out HRR.out).mono ?_
  rintro e w1 ⟨rfl, rfl⟩
  by_cases hr : r < 0
  · go_wp2_with fail
    go_ret
    exact ⟨ret_int (by rw [binI_neg (by rw [HRR.out]; exact hr)]), HT.out⟩
  have hr0 : 0 ≤ r := by omega
  have HE : Hid (binI p c k = r / q % p.bins) := by show _ = _; rw [binI_pos (by rw [HRR.out]; omega), HRR.out, HQ.out]
  have C3 : Hid (∀ w : World, Calls Tryz.prog 172 #[.int .i64 p.bins, .int .i64 k] w fun e w' => e = .returned (.int .i64 q) ∧ w = w') := fun w => by
    have h := C2.out w
    rw [HQ.out] at h
    exact h
  have hq0 : (q == 0) = false := beq_eq_false_iff_ne.2 (by omega)
  have hb0 : (p.bins == 0) = false := beq_eq_false_iff_ne.2 (by omega)
  have hq1 : ¬ q = 0 := by omega
  have hb1 : ¬ p.bins = 0 := by omega
  have d0 : 0 ≤ r / q := Int.ediv_nonneg hr0 (by omega)
  have d1 : r / q ≤ 1000 := by
    have := Int.ediv_le_self q hr0
    omega
  have m0 : 0 ≤ r / q % p.bins := Int.emod_nonneg _ hb1
  have m1 : r / q % p.bins < p.bins := Int.emod_lt_of_pos _ (by omega)
  go_wp2
  go_quiet (first | (go_at_call 172; refine quiet_c (C3.out _)))
  have t1 : r.tdiv q = r / q := Int.tdiv_eq_ediv_of_nonneg hr0
  have t2 : (r / q).tmod p.bins = r / q % p.bins := Int.tmod_eq_emod_of_nonneg d0
  have HT1 := Lib.hid t1; have HT2 := Lib.hid t2
  clear t1 t2 hq0 hb0 hq1 hb1
  go_wp2
  go_ret
  exact ⟨ret_int (by rw [HE.out]), later_trans HT.out (below_drewN l0 _)⟩

theorem impl_passValid (v : Value) (p : Pln) (k : Int) (w : World) (hv : rdP w w.heap.size v p) :
    Calls Tryz.prog 285 #[v, .int .i64 k] w fun e w' => e = .returned (.bool (passOk p k)) ∧ Below w.heap.size w w' := by
  obtain ⟨A0, c0, e0⟩ := openP hv
  obtain ⟨w0, hw0⟩ : ∃ w0, w0 = w.alloc (Obj.cells #[.int .i64 p.bins, .int .i64 p.passes, .slice A0 p.order.length c0] 25) := ⟨_, rfl⟩
  have q0 := box_cells hw0 0 (.int .i64 p.bins) rfl
  have q1 := box_cells hw0 1 (.int .i64 p.passes) rfl
  have q2 := box_cells hw0 2 (.slice A0 p.order.length c0) rfl
  have HT := Lib.hid (box_later hw0).1
  have HP := Lib.hid (hv.on HT.out)
  subst e0
  have HO := Lib.hid (ordP HP.out)
  have HW0 := Lib.hid hw0; clear hw0 hv
  have l0 := Below.refl w0.heap.size w0
  have HQ : Hid (passOk p k = (planOk p && (decide (0 ≤ k) && decide (k < p.passes)))) := rfl
  go_enter Tryz.func285, Tryz.ntmps285
  go_wp2_with fail
  rw [← HW0.out]
  refine (impl_PlanValid _ p _ HP.out).mono ?_
  rintro e w1 ⟨rfl, b1⟩
  have l1 := later_trans l0 b1
  cases h1 : planOk p
  · have H1 := Lib.hid h1; clear h1
    go_wp2_with fail
    go_ret
    exact ⟨ret_bool (by rw [HQ.out, H1.out]; rfl), later_trans HT.out l1⟩
  have H1 := Lib.hid h1; clear h1
  by_cases h2 : 0 ≤ k
  · by_cases h3 : k < p.passes
    · have H2 := Lib.hid (decide_eq_true h2); have H3 := Lib.hid (decide_eq_true h3)
      go_wp2_with fail
      go_ret
      exact ⟨ret_bool (by rw [HQ.out, H1.out, H2.out, H3.out]; rfl), later_trans HT.out l1⟩
    · have H2 := Lib.hid (decide_eq_true h2); have H3 := Lib.hid (decide_eq_false h3)
      have h3' := decide_eq_false h3
      go_wp2_with fail
      go_ret
      exact ⟨ret_bool (by rw [HQ.out, H1.out, H2.out, H3.out]; rfl), later_trans HT.out l1⟩
  · have H2 := Lib.hid (decide_eq_false h2)
    have h2' := decide_eq_false h2
    go_wp2_with fail
    go_ret
    exact ⟨ret_bool (by rw [HQ.out, H1.out, H2.out]; rfl), later_trans HT.out l1⟩

theorem Tryz.infoRow : (Tryz.prog.info? 29).map (fun i => (i.zero, i.size, i.bytes)) = some (some (.slice none 0 0), 1, 24) := by kernel_rfl

set_option maxHeartbeats 800000 in
theorem impl_joinBins (v : Value) (xss : List (List Ltr)) (w : World) (hv : rd w w.heap.size v xss) (hl : xss.flatten.length ≤ 1048576) :
    Calls Tryz.prog 125 #[v] w fun e w' => ∃ v', e = .returned v' ∧ own 89 w.heap.size w' v' xss.flatten ∧ Below w.heap.size w w' := by
  obtain ⟨A, n, c, rfl, hn, hc, hm, hr⟩ := hv
  subst hn
  unfold maxLen at hm
  have HR := Lib.hid hr; clear hr
  have l0 := Below.refl w.heap.size w
  have HL := Lib.hid hl; clear hl
  obtain ⟨i0, hi, hz0, hz1, hz2⟩ := info_parts Tryz.infoLtr
  go_enter Tryz.func125, Tryz.ntmps125
  go_wp2
  go_loopw [3, 8] (fun t i wr => ∃ k : Nat, k ≤ xss.length ∧ i = .int .i64 k ∧ Below w.heap.size w wr ∧ own 89 w.heap.size wr t (xss.take k).flatten) (fun _ i _ => xss.length - (intOf i).toNat)
  case atStart => exact ⟨0, Nat.zero_le _, rfl, l0, own.nil_ _ _ _⟩
  case round =>
    obtain ⟨k, hk, rfl, lr, ho⟩ := hrel
    obtain ⟨w1, rfl⟩ : ∃ w1 : World, w1 = wr := ⟨_, rfl⟩
    clear l0
    by_cases hlt : k < xss.length
    · obtain ⟨b, o, u, rfl, hb, hu, c1⟩ := HR.out.rowU k hlt
      have HS : Hid ((xss.take (k + 1)).flatten = (xss.take k).flatten ++ xss[k]) := by show _ = _; rw [List.take_succ_eq_append_getElem hlt, List.flatten_append]; simp
      have HLB : Hid ((xss.take k).flatten.length + xss[k].length ≤ 1048576) := by
        show _ ≤ _
        rw [← List.length_append, ← HS.out]
        have : (xss.take (k + 1)).flatten.length ≤ xss.flatten.length := by
          conv => rhs; rw [← List.take_append_drop (k + 1) xss, List.flatten_append, List.length_append]
          omega
        have := HL.out
        omega
      generalize xss[k] = ys at *
      obtain ⟨A2, m2, c2, rfl, hm2, hc2, hmm2, hr2⟩ := hu
      have hu : rd w w.heap.size (.slice A2 m2 c2) ys := ⟨A2, m2, c2, rfl, hm2, hc2, hmm2, hr2⟩
      clear hm2 hc2 hmm2 hr2
      have HU := Lib.hid hu; clear hu
      generalize hys : (xss.take k).flatten = zs at *
      have HYS := Lib.hid hys; clear hys
      have ho' := Lib.hid ho
      obtain ⟨A3, m3, c3, rfl, hm3, _, _, _⟩ := ho.rd
      subst hm3
      clear ho
      have hbd := HLB.out
      go_wp2_with (at_builtin; refine wpList_appendAll (α := Ltr) rfl (.tmp 12) (.tmp 13) 29 rfl w.heap.size 89 i0 _ 24 Tryz.underlying29 hi hz0 hz1 hz2 rfl (by decide) (.slice A3 zs.length c3) zs rfl ho'.out (.slice A2 m2 c2) ys rfl w1.heap.size (HU.out.on lr) (by have := HLB.out; unfold maxLen; omega) (by have := HLB.out; omega) lr.size ?_; intro v' w2 ho2 hg2 _)
      have l2 : Below w.heap.size w w2 := lr.trans (below_append ho'.out hg2 lr.size)
      go_wp2
      go_roundw
      case rel => exact ⟨k + 1, by omega, by go_num, l2, by rw [HS.out]; exact ho2⟩
      case measure => simp [intOf]; omega
    · have HE := Lib.hid (show k = xss.length by omega)
      go_wp2
      go_ret
      exact ⟨_, rfl, by rw [HE.out, List.take_length] at ho; exact ho, lr⟩

end Go.Proofs.YtpinkbodbedajaaGreatDoor

namespace Go.Proofs.YtpinkbodbedajaaGreatDoor
open Go.RowKit


def misEq (x y : Mis) : Bool := (x.id == y.id) && (x.bin == y.bin)
theorem misEq_iff (x y : Mis) : misEq x y = true ↔ x = y := by
  cases x; cases y; simp [misEq, sEq_iff]

theorem Tryz.infoMis : (Tryz.prog.info? 225).map (fun i => (i.zero, i.size, i.bytes)) = some (some (.agg #[.int .i64 0, .int .i64 0]), 2, 16) := by kernel_rfl



end Go.Proofs.YtpinkbodbedajaaGreatDoor

namespace Go.Proofs.YtpinkbodbedajaaGreatDoor
open Go.RowKit

theorem farLL_grown {α : Type} [Flat α] {T1 T2 base : Nat} {w w' : World} {v u : Value} {xss : List (List α)} {vs : List Value} (h : isLL T1 T2 base w v xss vs) (hf : farLL u v vs) (hg : w.grownBy w' u.ownBlock) : isLL T1 T2 base w' v xss vs :=
  h.grown hg (apart_symm hf.1) fun k hk => apart_symm (hf.2 k hk)

set_option maxRecDepth 100000 in
set_option maxHeartbeats 3200000 in
theorem impl_placeLetters (v vb vm : Value) (p : Pln) (xs : List Ltr) (k0 : Nat) (ms : List Mis) (w : World) (hv : rdP w w.heap.size v p) (hb : rd w w.heap.size vb xs) (hm : rd w w.heap.size vm ms)
    (h1 : 2 ≤ p.bins) (h2 : p.bins ≤ 16) (hk0 : k0 ≤ 4) (hord : p.order.length ≤ 1000) (hms : ∀ m ∈ ms, 0 ≤ m.bin ∧ m.bin < p.bins) (hl : xs.length ≤ 1000) :
    Calls Tryz.prog 161 #[v, vb, .int .i64 k0, vm] w fun e w' => ∃ vB vO vs, e = .returned (.tuple #[vB, vO]) ∧ isLL 29 89 w.heap.size w' vB (binsOf (fun x => misBin ms x (binI p x.code k0)) p.bins.toNat xs) vs ∧ own 89 w.heap.size w' vO (restOf (fun x => misBin ms x (binI p x.code k0)) xs) ∧ farLL vO vB vs ∧ Below w.heap.size w w' := by
  obtain ⟨A0, c0, e0⟩ := openP hv
  obtain ⟨w0, hw0⟩ : ∃ w0, w0 = w.alloc (Obj.cells #[.int .i64 p.bins, .int .i64 p.passes, .slice A0 p.order.length c0] 25) := ⟨_, rfl⟩
  have q0 := box_cells hw0 0 (.int .i64 p.bins) rfl
  have q1 := box_cells hw0 1 (.int .i64 p.passes) rfl
  have q2 := box_cells hw0 2 (.slice A0 p.order.length c0) rfl
  have HT := Lib.hid (box_later hw0).1
  have HP := Lib.hid (hv.on HT.out)
  have hb' := hb.on HT.out
  have hm' := hm.on HT.out
  subst e0
  obtain ⟨A, n, cp, rfl, hn, hc, hmx, hr⟩ := hb'
  subst hn
  obtain ⟨A', n', cp', rfl, hn', hc', hmx', hr'⟩ := hm'
  subst hn'
  unfold maxLen at hmx hmx'
  have HR := Lib.hid hr
  have HM := Lib.hid hr'
  have hz0 : w0.heap.size = w.heap.size + 1 := by subst hw0; simp
  have hwlt : w.heap.size < w0.heap.size := by omega
  have HZ0 := Lib.hid hz0
  have HW0 := Lib.hid hw0; clear hw0 hv hb hm hr hr' hz0
  have l0 := Below.refl w0.heap.size w0
  obtain ⟨N, hN⟩ := Int.eq_ofNat_of_zero_le (show 0 ≤ p.bins by omega)
  have hNN : p.bins.toNat = N := by omega
  have HNN := Lib.hid hNN; clear hNN
  have hN16 : N ≤ 16 := by omega
  obtain ⟨i0, hi, hzz, hz1, hz2⟩ := info_parts Tryz.infoRow
  have hmk := make_row (P := Tryz.prog) 37 29 i0 _ Tryz.underlying37 hi hzz N (by rw [hz2]; omega) (by omega)
  rw [← hN] at hmk
  have HN := Lib.hid hN; clear hN
  obtain ⟨i1, ji, jz0, jz1, jz2⟩ := info_parts Tryz.infoLtr
  have HF : Hid (∀ x : Ltr, -1 ≤ misBin ms x (binI p x.code k0) ∧ misBin ms x (binI p x.code k0) < N) := fun x => by
    have := misBin_range hms x _ (binI_range p x.code k0 h1)
    have := HN.out
    omega
  have HMS := Lib.hid hms; clear hms
  obtain ⟨f, HFF⟩ : ∃ f : Ltr → Int, Hid (f = fun x => misBin ms x (binI p x.code k0)) := ⟨_, rfl⟩
  rw [← HFF.out]
  have HFX : Hid (∀ x, f x = misBin ms x (binI p x.code k0)) := fun x => by rw [HFF.out]
  rw [HNN.out]
  go_enter Tryz.func161, Tryz.ntmps161
  go_wp2
  rw [← HW0.out]
  have hoz := made_nil_row (α := Ltr) w0 29 89 N w0.heap.size (Nat.le_refl _) (by unfold maxLen; omega)
  have lz : Below w0.heap.size w0 (w0.alloc (Obj.cells (madeCells #[.slice none 0 0] N) 29)) := later_alloc l0 _
  generalize (w0.alloc (Obj.cells (madeCells #[.slice none 0 0] N) 29)) = wz at *
  have hG0 : w0.heap.size ≤ w.heap.size + 1 := Nat.le_of_eq HZ0.out
  have hoz2 := hoz
  rw [show (Value.slice (some ⟨w0.heap.size, 0, none⟩) N N) = (Value.slice (some ⟨w.heap.size + 1, 0, none⟩) N N) by rw [HZ0.out]] at hoz2
  clear hoz
  generalize hG : w.heap.size + 1 = G at *
  have HGG := Lib.hid hG; clear hG hmk
  obtain ⟨vs0, hoz2⟩ := hoz2
  have HOZ := Lib.hid hoz2; clear hoz2
  go_loopw [11, 22] (fun t i wr => ∃ (k : Nat) (vs : List Value), k ≤ xs.length ∧ i = .int .i64 k ∧ Below w0.heap.size w0 wr ∧ isLL 29 89 w0.heap.size wr (.slice (some ⟨G, 0, none⟩) N N) (binsOf f N (xs.take k)) vs ∧ own 89 w0.heap.size wr t (restOf f (xs.take k)) ∧ Hid (farLL t (.slice (some ⟨G, 0, none⟩) N N) vs)) (fun _ i _ => xs.length - (intOf i).toNat)
  case atStart =>
    refine ⟨0, vs0, Nat.zero_le _, rfl, lz, ?_, own.nil_ _ _ _, .inl rfl, fun k hk => .inl rfl⟩
    rw [List.take_zero, binsOf_nil]
    exact HOZ.out
  case round =>
    obtain ⟨k, vs, hk, rfl, lr, hB, hO, HFAR⟩ := hrel
    obtain ⟨w1, rfl⟩ : ∃ w1 : World, w1 = wr := ⟨_, rfl⟩
    have HB := Lib.hid hB; have HO := Lib.hid hO
    clear l0 lz HOZ hB
    obtain ⟨AO, mO, cO, rfl, hmO, _, _, _⟩ := hO.rd
    subst hmO
    clear hO
    by_cases hlt : k < xs.length
    · obtain ⟨b, o, rfl, hb, ⟨hxi, hxc⟩, c1, c2⟩ := HR.out.ltrU k hlt
      obtain ⟨x, hx⟩ : ∃ x, x = xs[k] := ⟨_, rfl⟩
      have HX := Lib.hid hx
      rw [← hx] at c1 c2 hxi hxc
      clear hx
      obtain ⟨wl, hwl⟩ : ∃ wl : World, wl = w1.alloc (Obj.cells #[.int .i64 x.id, .string x.code] 89) := ⟨_, rfl⟩
      have y0 := box_cells hwl 0 (.int .i64 x.id) rfl
      have y1 := box_cells hwl 1 (.string x.code) rfl
      have ll := later_trans lr (box_later hwl).1
      have BL := Lib.hid (box_later hwl).1
      have hll : w1.heap.size < wl.heap.size := (box_later hwl).2
      have HWL := Lib.hid hwl; clear hwl
      have hki : (k : Int) < (xs.length : Int) := by omega
      obtain ⟨b0, HB0⟩ : ∃ b0, Hid (binI p x.code k0 = b0) := ⟨_, rfl⟩
      go_wp2_with fail
      rw [← HWL.out]
      refine (impl_binOf _ p x.code k0 _ (HP.out.on ll) h1 h2 hk0 hord).mono ?_
      rw [HB0.out]
      rintro e w2 ⟨rfl, b2⟩
      have m2 := later_trans (Below.refl wl.heap.size wl) b2
      clear b2
      go_wp2_with fail
      go_loopw [14, 33] (fun t i wi => ∃ m : Nat, m ≤ ms.length ∧ i = .int .i64 m ∧ t = .int .i64 (misBin (ms.take m) x b0) ∧ Below wl.heap.size wl wi) (fun _ i _ => ms.length - (intOf i).toNat)
      case atStart => exact ⟨0, Nat.zero_le _, rfl, rfl, m2⟩
      case round =>
        obtain ⟨m, hm, rfl, rfl, li⟩ := hrel
        obtain ⟨w3, rfl⟩ : ∃ w3 : World, w3 = wr := ⟨_, rfl⟩
        have lw3 := later_trans ll li
        clear m2
        by_cases hmt : m < ms.length
        · obtain ⟨b', o', rfl, hb', ⟨hyi, hyb⟩, d1, d2⟩ := HM.out.misU m hmt
          have HMT := Lib.hid (misBin_take hmt x b0)
          generalize ms[m] = y at *
          have hmi : (m : Int) < (ms.length : Int) := by omega
          by_cases hyx : y.id = x.id
          · have hyx' : (y.id == x.id) = true := by simpa using hyx
            have HY := Lib.hid hyx; clear hyx
            go_wp2
            go_roundw
            case rel => exact ⟨m + 1, by omega, by go_num, by rw [HMT.out, if_pos HY.out], later_alloc li _⟩
            case measure => simp [intOf]; omega
          · have hyx' : (y.id == x.id) = false := by simpa using hyx
            have HY := Lib.hid hyx; clear hyx
            go_wp2
            go_roundw
            case rel => exact ⟨m + 1, by omega, by go_num, by rw [HMT.out, if_neg HY.out], later_alloc li _⟩
            case measure => simp [intOf]; omega
        · have HME := Lib.hid (show m = ms.length by omega)
          have HFXX : Hid (misBin (ms.take m) x b0 = f x) := by show _ = _; rw [HME.out, List.take_length, HFX.out, HB0.out]
          rw [HFXX.out]
          obtain ⟨fx1, fx2⟩ := HF.out x
          rw [← HFX.out] at fx1 fx2
          have HFXK : Hid (f xs[k] = f x) := by show _ = _; rw [← HX.out]
          have B3 := BL.out.trans (li.mono BL.out.size)
          have hs3 : w0.heap.size ≤ w3.heap.size := lw3.size
          have hs4 : wl.heap.size ≤ w3.heap.size := li.size
          have HB3 := Lib.hid (HB.out.below B3); have HO3 := Lib.hid (HO.out.below B3)
          have HZL : Hid ((restOf f (xs.take k)).length ≤ 1000) := by
            show _ ≤ _
            have := filter_len_le (fun x => decide (f x < 0)) xs k
            unfold restOf
            omega
          by_cases hneg : f x < 0
          · have HS1 := Lib.hid (binsOf_skip (f := f) (n := N) hlt (by rw [HFXK.out]; exact hneg))
            have HS2 := Lib.hid (restOf_step (f := f) hlt (by rw [HFXK.out]; exact hneg))
            have hzl := HZL.out
            go_wp2_with (at_builtin; refine wpList_append1' (α := Ltr) rfl (.tmp 47) (.tmp 49) 29 rfl w0.heap.size 89 i1 _ 24 Tryz.underlying29 ji jz0 jz1 jz2 rfl (by decide) (.slice AO (restOf f (xs.take k)).length cO) (restOf f (xs.take k)) x rfl (HO3.out.alloc _) ⟨w3.heap.size, 0, none⟩ 1 (Ltr.cells x) rfl ⟨⟨hxi, hxc⟩, rfl⟩ (news_at w3 _ (Ltr.cells x)) (by unfold maxLen; omega) (by omega) (by simp; omega) ?_; intro g cap w4 ho4 hg4 ha4 hl4)
            have HB4 := Lib.hid (farLL_grown (HB3.out.below ((Below.refl _ _).alloc (Nat.le_refl _) _)) HFAR.out hg4)
            have b4 : Below w0.heap.size w0 w4 := by
              refine (later_alloc lw3 (Obj.cells #[Value.int IntKind.i64 x.id, Value.string x.code] 89)).grown hg4 (by simp; omega) fun j hj => ?_
              exact (HO3.out.blk j hj).1
            have HFAR4 : Hid (farLL (.slice (some ⟨g, 0, none⟩) ((restOf f (xs.take k)).length + 1) cap) (.slice (some ⟨G, 0, none⟩) N N) vs) := farLL_app HB3.out HFAR.out ha4 (by simp)
            go_wp2
            go_roundw
            case rel => exact ⟨k + 1, vs, by omega, by go_num, b4, by rw [HS1.out]; exact HB4.out, by rw [HS2.out, ← HX.out]; exact ho4, HFAR4⟩
            case measure => simp [intOf]; omega
          · obtain ⟨d, hd⟩ := Int.eq_ofNat_of_zero_le (show 0 ≤ f x by omega)
            have hdN : d < N := by omega
            have HD := Lib.hid hd
            have HS2 := Lib.hid (restOf_skip (f := f) hlt (by rw [HFXK.out]; omega))
            have hlb : d < (binsOf f N (xs.take k)).length := by rw [binsOf_len]; exact hdN
            have HS1 := Lib.hid (binsOf_step (f := f) (n := N) (d := d) hlt (by rw [HFXK.out]; exact HD.out) hlb)
            obtain ⟨hlv, hov, hgv⟩ : ∃ hlv : d < vs.length, own 89 w0.heap.size w3 vs[d] (binsOf f N (xs.take k))[d] ∧ apart vs[d] (.slice (some ⟨G, 0, none⟩) N N) := by
              obtain ⟨z1, z2, z3, z4, z5⟩ := HB3.out
              exact ⟨by omega, z3 d (by omega) hlb, z5 d (by omega)⟩
            have hcG : w3.cell? ⟨G, d, none⟩ = some vs[d] := own_cellv HB3.out.1 d hlv
            have hfG : w3.frozen? ⟨G, d, none⟩ = false := HB3.out.1.freeAt d
            have hzl : (binsOf f N (xs.take k))[d].length ≤ 1000 := by
              rw [binsOf_get]
              have := filter_len_le (fun x => f x == (d : Int)) xs k
              omega
            obtain ⟨zs, hzs⟩ : ∃ zs, zs = (binsOf f N (xs.take k))[d] := ⟨_, rfl⟩
            have HZS := Lib.hid hzs
            rw [← hzs] at hov hzl
            clear hzs
            obtain ⟨u, hu⟩ : ∃ u, u = vs[d] := ⟨_, rfl⟩
            have HU := Lib.hid hu
            rw [← hu] at hov hgv hcG
            clear hu
            obtain ⟨Au, mu, cu, rfl, hmu, _, _, _⟩ := hov.rd
            subst hmu
            have HOV := Lib.hid hov; clear hov
            have HGV := Lib.hid hgv; clear hgv
            rw [HD.out]
            have hdn : (d : Int) < (N : Int) := by omega
            have hd0 : ¬ ((d : Int) < 0) := by omega
            have x0 := y0 w3 li
            have x1 := y1 w3 li
            have hGs : some G ≠ (Value.slice Au zs.length cu).ownBlock := by
              have h := HGV.out
              unfold apart at h
              rcases h with h | h
              · rw [h]; simp
              · exact fun e => h e.symm
            have HGS := Lib.hid hGs; clear hGs
            have hGlt : G < w3.heap.size := (HB3.out.1.blk G rfl).2
            go_wp2
            go_region_law (go_loud ((refine step_append1 (α := Ltr) (by rfl) (.tmp 56) (.tmp 58) 29 (by rfl) w0.heap.size 89 i1 _ 24 Tryz.underlying29 ji jz0 jz1 jz2 rfl (by decide) (.slice Au zs.length cu) zs x (by rfl) ((HOV.out.alloc _).drew) ⟨w3.heap.size, 0, none⟩ 1 (Ltr.cells x) (by rfl) ⟨⟨hxi, hxc⟩, rfl⟩ (news_drew w3 _ (Ltr.cells x)) (by unfold maxLen; omega) (by omega) (by simp; omega) ?_; intro g cap w4 ho4 hg4 ha4 hl4; have hcG4 : w4.cell? ⟨G, d, none⟩ = some (.slice Au zs.length cu) := (hg4.cell_far ⟨G, d, none⟩ (by simp; omega) HGS.out).trans (by go_simp); have hfG4 : w4.frozen? ⟨G, d, none⟩ = false := (hg4.frozen_far ⟨G, d, none⟩ (by simp; omega) HGS.out).trans (by go_simp))))
            all_goals
              have hWD : Below w3.heap.size w3 (w3.alloc (Obj.cells #[Value.int IntKind.i64 x.id, Value.string x.code] 89)).drew := later_drew (later_alloc (Below.refl _ _) _)
              obtain ⟨p1, p2, p3⟩ := place_step HB3.out HO3.out HFAR.out hWD hlv hlb HU.out HZS.out ho4 hg4 ha4
              have p4 := place_later (G := G) (d := d) (g := g) (m := zs.length + 1) (cap := cap) (later_drew (later_alloc lw3 (Obj.cells #[Value.int IntKind.i64 x.id, Value.string x.code] 89))) hg4 (fun j hj => (HOV.out.blk j hj).1) hG0
              have P1 := Lib.hid p1; have P2 := Lib.hid p2; have P3 := Lib.hid p3
              clear p1 p2 p3 hWD
              go_wp2
              go_roundw
              case rel => exact ⟨k + 1, _, by omega, by go_num, p4, by rw [HS1.out, ← HX.out]; exact P1.out, by rw [HS2.out]; exact P2.out, P3.out⟩
              case measure => simp [intOf]; omega
    · have HE := Lib.hid (show k = xs.length by omega)
      go_wp2
      go_ret2
      have hB := HB.out
      have hO := HO.out
      have hF := HFAR.out
      rw [HE.out, List.take_length] at hB hO hF ⊢
      exact ⟨_, _, vs, rfl, hB.base_ (Nat.le_of_lt hwlt), hO.base_ (Nat.le_of_lt hwlt), hF, later_trans HT.out lr⟩

end Go.Proofs.YtpinkbodbedajaaGreatDoor
