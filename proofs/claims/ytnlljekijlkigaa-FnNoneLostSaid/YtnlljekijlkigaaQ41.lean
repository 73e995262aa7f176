/- SR MI M1 -/
import Derived.Shelf.SortG.Plain
import Derived.Shelf.SortG.SortNone
import Derived.Ground.SlgnProg
import Derived.Lib.SortBridge
import Derived.Test.YtnlljekijlkigaaProg
import Derived.Test.YtnlljekijlkigaaQ12
import Derived.Test.YtnlljekijlkigaaQ18
import Derived.Test.YtnlljekijlkigaaQ5
import Derived.Test.YtnlljekijlkigaaQ4
namespace Go.Proofs
open Go.Shelf
def Try.laysSort_ren : Go.Shelf.Ren := ⟨fun | 53 => 90 | 64 => 142 | 63 => 141 | 78 => 184 | 79 => 185 | 70 => 175 | 71 => 176 | 72 => 177 | 73 => 178 | 74 => 179 | 75 => 180 | 59 => 181 | 76 => 182 | 77 => 183 | 88 => 203 | 89 => 204 | 90 => 205 | 91 => 206 | 92 => 207 | 68 => 208 | 96 => 214 | n => n, fun | 22 => 58 | 23 => 3 | 3 => 3 | 51 => 162 | 0 => 0 | 67 => 194 | 69 => 196 | 4 => 4 | 61 => 187 | 60 => 186 | 44 => 191 | 5 => 5 | 9 => 9 | 75 => 208 | 79 => 212 | 83 => 216 | 84 => 217 | n => n, fun | n => n⟩
theorem Try.laysSort : Go.Proofs.SlLaysN.n53 Try.prog Try.laysSort_ren := {
  mixed := by kernel_rfl
  f53 := ⟨Try.f90.name, by decide, Try.func90.trans (congrArg some (by kernel_rfl))⟩
  f59 := ⟨Try.f181.name, by decide, Try.func181.trans (congrArg some (by kernel_rfl))⟩
  f63 := ⟨Try.f141.name, by decide, Try.func141.trans (congrArg some (by kernel_rfl))⟩
  f64 := Try.func142.trans (congrArg some (by kernel_rfl))
  f68 := ⟨Try.f208.name, by decide, Try.func208.trans (congrArg some (by kernel_rfl))⟩
  f70 := ⟨Try.f175.name, by decide, Try.func175.trans (congrArg some (by kernel_rfl))⟩
  f71 := ⟨Try.f176.name, by decide, Try.func176.trans (congrArg some (by kernel_rfl))⟩
  f72 := ⟨Try.f177.name, by decide, Try.func177.trans (congrArg some (by kernel_rfl))⟩
  f73 := ⟨Try.f178.name, by decide, Try.func178.trans (congrArg some (by kernel_rfl))⟩
  f74 := ⟨Try.f179.name, by decide, Try.func179.trans (congrArg some (by kernel_rfl))⟩
  f75 := ⟨Try.f180.name, by decide, Try.func180.trans (congrArg some (by kernel_rfl))⟩
  f76 := ⟨Try.f182.name, by decide, Try.func182.trans (congrArg some (by kernel_rfl))⟩
  f77 := ⟨Try.f183.name, by decide, Try.func183.trans (congrArg some (by kernel_rfl))⟩
  f78 := Try.func184.trans (congrArg some (by kernel_rfl))
  f79 := Try.func185.trans (congrArg some (by kernel_rfl))
  f88 := ⟨Try.f203.name, by decide, Try.func203.trans (congrArg some (by kernel_rfl))⟩
  f89 := Try.func204.trans (congrArg some (by kernel_rfl))
  f90 := Try.func205.trans (congrArg some (by kernel_rfl))
  f91 := ⟨Try.f206.name, by decide, Try.func206.trans (congrArg some (by kernel_rfl))⟩
  f92 := ⟨Try.f207.name, by decide, Try.func207.trans (congrArg some (by kernel_rfl))⟩
  f96 := ⟨Try.f214.name, by decide, Try.func214.trans (congrArg some (by kernel_rfl))⟩
  t0 := Try.underlying0
  a0 := Try.isAgg0
  z0 := Try.sizeOf0
  v0 := Try.zeroValue0
  t3 := Try.underlying3
  a3 := Try.isAgg3
  z3 := Try.sizeOf3
  v3 := Try.zeroValue3
  t4 := Try.underlying4
  a4 := Try.isAgg4
  z4 := Try.sizeOf4
  v4 := Try.zeroValue4
  t5 := Try.underlying5
  a5 := Try.isAgg5
  z5 := Try.sizeOf5
  v5 := Try.zeroValue5
  t9 := Try.underlying9
  a9 := Try.isAgg9
  z9 := Try.sizeOf9
  v9 := Try.zeroValue9
  t22 := Try.underlying58
  a22 := Try.isAgg58
  z22 := Try.sizeOf58
  v22 := Try.zeroValue58
  t23 := Try.underlying3
  a23 := Try.isAgg3
  z23 := Try.sizeOf3
  v23 := Try.zeroValue3
  t44 := Try.underlying191
  a44 := Try.isAgg191
  z44 := Try.sizeOf191
  v44 := Try.zeroValue191
  t51 := Try.underlying162
  a51 := Try.isAgg162
  z51 := Try.sizeOf162
  v51 := Try.zeroValue162
  t60 := Try.underlying186
  a60 := Try.isAgg186
  z60 := Try.sizeOf186
  v60 := Try.zeroValue186
  t61 := Try.underlying187
  a61 := Try.isAgg187
  z61 := Try.sizeOf187
  v61 := Try.zeroValue187
  t67 := Try.underlying194
  a67 := Try.isAgg194
  z67 := Try.sizeOf194
  v67 := Try.zeroValue194
  t69 := Try.underlying196
  a69 := Try.isAgg196
  z69 := Try.sizeOf196
  v69 := Try.zeroValue196
  t75 := Try.underlying208
  a75 := Try.isAgg208
  z75 := Try.sizeOf208
  v75 := Try.zeroValue208
  t79 := Try.underlying212
  a79 := Try.isAgg212
  z79 := Try.sizeOf212
  v79 := Try.zeroValue212
  t83 := Try.underlying216
  a83 := Try.isAgg216
  z83 := Try.sizeOf216
  v83 := Try.zeroValue216
  t84 := Try.underlying217
  a84 := Try.isAgg217
  z84 := Try.sizeOf217
  v84 := Try.zeroValue217 }
end Go.Proofs

namespace Go.Proofs.Ytnlljekijlkigaa
open Go.RowKit

theorem grown_trans'' {a b c : World} {row : Option Nat} (h : a.grownBy b row) (k : b.grownBy c row) : a.grownBy c row :=
  ⟨k.os.trans h.os, k.tape.trans h.tape, k.output.trans h.output, Nat.le_trans h.size k.size, fun i hi hne => (k.block i (Nat.lt_of_lt_of_le hi h.size) hne).trans (h.block i hi hne)⟩
theorem own_setCells {T base g n c : Nat} : ∀ (ys : List Int) (k : Nat) (w : World) (xs : List Int), (∀ y ∈ ys, isI64 y) → k + ys.length ≤ xs.length → own T base w (.slice (some ⟨g, 0, none⟩) n c) xs →
    own T base (w.setCells g k (ys.map (Value.int .i64))) (.slice (some ⟨g, 0, none⟩) n c) (xs.take k ++ ys ++ xs.drop (k + ys.length)) ∧ w.grownBy (w.setCells g k (ys.map (Value.int .i64))) (some g)
  | [], k, w, xs, _, _, h => by
    refine ⟨?_, World.grownBy.refl _ _⟩
    simpa [World.setCells] using h
  | y :: ys, k, w, xs, hy, hl, h => by
    simp only [List.length_cons] at hl
    have h1 := own_setInt h (k := k) (by omega) y (hy y (by simp))
    obtain ⟨h2, h3⟩ := own_setCells ys (k + 1) (w.setCell ⟨g, k, none⟩ (.int .i64 y)) (xs.set k y) (fun z hz => hy z (by simp [hz])) (by rw [List.length_set]; omega) h1
    refine ⟨?_, grown_trans'' (grown_setCell (World.grownBy.refl _ _) (.inl rfl) _) h3⟩
    have e : (xs.set k y).take (k + 1) ++ ys ++ (xs.set k y).drop (k + 1 + ys.length) = xs.take k ++ y :: ys ++ xs.drop (k + (ys.length + 1)) := by
      rw [List.take_succ_eq_append_getElem (by rw [List.length_set]; omega), List.getElem_set_self, List.take_set_of_le (Nat.le_refl _), List.drop_set_of_lt (by omega)]
      rw [show k + 1 + ys.length = k + (ys.length + 1) by omega]
      simp
    rw [e] at h2
    exact h2
theorem own_grow {T base : Nat} {w : World} {v : Value} {xs : List Int} (h : own T base w v xs) (os : Array Obj) : own T base (Go.Sort.grow w os) v xs :=
  h.keepBlk fun k hk => by
    have := (h.blk k hk).2
    show (w.heap ++ os)[k]? = w.heap[k]?
    rw [Array.getElem?_append_left this]
theorem sorted_i64 {xs : List Int} (h : ∀ x ∈ xs, isI64 x) : ∀ y ∈ xs.mergeSort (fun x y => decide (x ≤ y)), isI64 y := fun y hy => h y ((List.mergeSort_perm xs _).mem_iff.1 hy)
theorem own_i64 {T base : Nat} {w : World} {v : Value} {xs : List Int} (h : own T base w v xs) : ∀ x ∈ xs, isI64 x := by
  intro x hx
  obtain ⟨k, hk, rfl⟩ := List.getElem_of_mem hx
  obtain ⟨A, n, c, rfl, _, _, _, hr⟩ := h.rd
  obtain ⟨b, o, _, _, hi, _⟩ := hr.intU k hk
  exact hi
theorem own_intz {T base g n c : Nat} {w : World} {xs : List Int} (h : own T base w (.slice (some ⟨g, 0, none⟩) n c) xs) (k : Nat) (hk : k < xs.length) : w.cell? ⟨g, 0 + k, none⟩ = some (.int .i64 xs[k]) := by
  obtain ⟨A', n', c', hv, _, _, _, hr⟩ := h.rd
  injection hv with e1 _ _
  subst e1
  obtain ⟨b, o, hA, _, _, c1⟩ := hr.intU k hk
  injection hA with hA
  injection hA with hA1 hA2
  subst hA1 hA2
  exact c1 w (Below.refl _ _)
theorem slices_SortI (T base : Nat) (v : Value) (xs : List Int) (w : World) (hv : own T base w v xs) (hl : xs.length ≤ 1048576) :
    Calls Try.prog 90 #[v] w fun e w' => e = .returned (.tuple #[]) ∧ own T base w' v (xs.mergeSort fun x y => decide (x ≤ y)) ∧ w.grownBy w' v.ownBlock := by
  rcases hv.form with ⟨rfl, rfl⟩ | ⟨g, c, rfl, hg, hgl, hc, hm⟩
  · refine (AnyG.slices_Sort_int_none Try.laysSort none 0 w).mono ?_
    rintro e w' ⟨rfl, rfl⟩
    exact ⟨rfl, by simpa using own.nil_ (α := Int) _ _ _, World.grownBy.refl _ _⟩
  · have hH : Go.Sort.Holds (Value.int .i64) w g 0 xs.toArray := fun j hj => by
      have hj' : j < xs.length := by simpa using hj
      refine ⟨?_, hv.freeAt _⟩
      rw [own_intz hv j hj']
      simp [hj']
    refine (AnyG.slices_Sort_int Try.laysSort g 0 c xs w hH hgl (by omega)).mono ?_
    rintro e w' ⟨rfl, q, os, rfl⟩
    rw [Lib.sorted_world (Value.int .i64) w g 0 q xs.toArray (xs.mergeSort fun x y => decide (x ≤ y)) os hH (by simp)]
    have bq : Below w.heap.size w (w.drewN q) := later_drewN (Below.refl _ _) q
    obtain ⟨h2, h3⟩ := own_setCells (xs.mergeSort fun x y => decide (x ≤ y)) 0 (w.drewN q) xs (sorted_i64 (own_i64 hv)) (by simp) (hv.below bq)
    have e : xs.take 0 ++ (xs.mergeSort fun x y => decide (x ≤ y)) ++ xs.drop (0 + (xs.mergeSort fun x y => decide (x ≤ y)).length) = xs.mergeSort fun x y => decide (x ≤ y) := by simp
    rw [e] at h2
    refine ⟨rfl, own_grow h2 os, ?_⟩
    have h4 := grown_trans'' (grown_below (World.grownBy.refl w (some g)) bq) h3
    exact ⟨h4.os, h4.tape, h4.output, Nat.le_trans h4.size (by simp [Go.Sort.grow]), fun k hk hne => by
      show (_ ++ os)[k]? = _
      rw [Array.getElem?_append_left (Nat.lt_of_lt_of_le hk h4.size)]
      exact h4.block k hk hne⟩

end Go.Proofs.Ytnlljekijlkigaa

namespace Go.Proofs.Ytnlljekijlkigaa
open Go.RowKit

/-! ### Plain facts -/
def missT (b a : List Ltr) : List Int := (a.filter fun x => decide (findI b x.id < 0)).map Ltr.id
theorem missT_hit {b a : List Ltr} {k : Nat} (h : k < a.length) (hf : findI b a[k].id < 0) : missT b (a.take (k + 1)) = missT b (a.take k) ++ [a[k].id] := by
  unfold missT; rw [List.take_succ_eq_append_getElem h, List.filter_append, List.map_append]; simp [hf]
theorem missT_skip {b a : List Ltr} {k : Nat} (h : k < a.length) (hf : ¬ findI b a[k].id < 0) : missT b (a.take (k + 1)) = missT b (a.take k) := by
  unfold missT; rw [List.take_succ_eq_append_getElem h, List.filter_append, List.map_append]
  rw [List.filter_cons_of_neg (by simpa using hf)]; simp
theorem missT_len (b a : List Ltr) : (missT b a).length ≤ a.length := by
  unfold missT; rw [List.length_map]; exact List.length_filter_le _ _
/-- A number put into an ascending list. -/
def insI : List Int → Int → List Int
  | [], n => [n]
  | x :: l, n => if n < x then n :: x :: l else x :: insI l n
theorem insI_none {l : List Int} {n : Int} (h : l.any (fun x => decide (n < x)) = false) : insI l n = l ++ [n] := by
  induction l with
  | nil => rfl
  | cons x l ih =>
    simp only [List.any_cons, Bool.or_eq_false_iff, decide_eq_false_iff_not] at h
    show (if n < x then n :: x :: l else x :: insI l n) = _
    rw [if_neg h.1, ih h.2]; rfl
theorem insI_done {l : List Int} {n : Int} (y : Int) (h : l.any (fun x => decide (n < x)) = true) : insI (l ++ [y]) n = insI l n ++ [y] := by
  induction l with
  | nil => simp at h
  | cons x l ih =>
    show (if n < x then n :: x :: (l ++ [y]) else x :: insI (l ++ [y]) n) = (if n < x then n :: x :: l else x :: insI l n) ++ [y]
    by_cases hx : n < x
    · rw [if_pos hx, if_pos hx]; rfl
    · rw [if_neg hx, if_neg hx, ih (by simpa [hx] using h)]; rfl
theorem insI_hit {l : List Int} {n y : Int} (h : l.any (fun x => decide (n < x)) = false) (hy : n < y) : insI (l ++ [y]) n = l ++ [n] ++ [y] := by
  induction l with
  | nil => show (if n < y then [n, y] else _) = _; rw [if_pos hy]; rfl
  | cons x l ih =>
    simp only [List.any_cons, Bool.or_eq_false_iff, decide_eq_false_iff_not] at h
    show (if n < x then n :: x :: (l ++ [y]) else x :: insI (l ++ [y]) n) = _
    rw [if_neg h.1, ih h.2]; rfl
theorem insI_perm (l : List Int) (n : Int) : (insI l n).Perm (l ++ [n]) := by
  induction l with
  | nil => exact List.Perm.refl _
  | cons x l ih =>
    show (if n < x then n :: x :: l else x :: insI l n).Perm _
    split
    · exact (List.perm_append_comm (l₁ := [n]) (l₂ := x :: l))
    · exact ih.cons x
theorem insI_sorted {l : List Int} (n : Int) (h : l.Pairwise (· ≤ ·)) : (insI l n).Pairwise (· ≤ ·) := by
  induction l with
  | nil => exact List.pairwise_singleton _ _
  | cons x l ih =>
    rw [List.pairwise_cons] at h
    show (if n < x then n :: x :: l else x :: insI l n).Pairwise _
    split
    · rename_i hn
      rw [List.pairwise_cons, List.pairwise_cons]
      exact ⟨fun z hz => by
        rcases List.mem_cons.1 hz with h' | h'
        · omega
        · have := h.1 z h'; omega, h.1, h.2⟩
    · rename_i hn
      rw [List.pairwise_cons]
      exact ⟨fun z hz => by
        rcases List.mem_append.1 ((insI_perm l n).mem_iff.1 hz) with h' | h'
        · exact h.1 z h'
        · simp at h'; omega, ih h.2⟩
def sortI (xs : List Int) : List Int := xs.mergeSort fun x y => decide (x ≤ y)
theorem foldl_ins (xs : List Int) : ∀ acc : List Int, acc.Pairwise (· ≤ ·) → (xs.foldl insI acc).Pairwise (· ≤ ·) ∧ (xs.foldl insI acc).Perm (acc ++ xs) := by
  induction xs with
  | nil => intro acc h; exact ⟨h, by simp⟩
  | cons x xs ih =>
    intro acc h
    obtain ⟨h1, h2⟩ := ih (insI acc x) (insI_sorted x h)
    refine ⟨h1, h2.trans ?_⟩
    have := (insI_perm acc x).append_right xs
    simpa using this
theorem foldl_sort (xs : List Int) : xs.foldl insI [] = sortI xs := by
  obtain ⟨h1, h2⟩ := foldl_ins xs [] List.Pairwise.nil
  have h3 := List.pairwise_mergeSort (le := fun x y : Int => decide (x ≤ y)) (fun a b c => by simp only [decide_eq_true_iff]; omega) (fun a b => by simp only [Bool.or_eq_true, decide_eq_true_iff]; omega) xs
  refine List.Perm.eq_of_pairwise (le := (· ≤ ·)) (fun a b _ _ h h' => by omega) h1 (h3.imp fun h => by simpa using h) ?_
  exact (by simpa using h2 : (xs.foldl insI []).Perm xs).trans (List.mergeSort_perm xs _).symm
def missOk (a b : List Ltr) : Bool := okB a && okB b
def missR (a b : List Ltr) : List Int := if missOk a b then sortI (missT b a) else []
theorem missR_len (a b : List Ltr) : (missR a b).length ≤ 60 := by
  unfold missR
  split
  · rename_i h
    unfold missOk at h
    rw [Bool.and_eq_true] at h
    unfold sortI
    rw [List.length_mergeSort]
    exact Nat.le_trans (missT_len _ _) (okB_iff.1 h.1).1
  · simp

end Go.Proofs.Ytnlljekijlkigaa

namespace Go.Proofs.Ytnlljekijlkigaa
open Go.RowKit

def osStep (n : Int) (x : Ltr) : Int := (31 * n + x.id) % 9973
def sStep (n : Int) (x : Ltr) : Int := (n + x.id * x.id) % 9973
def osL (xs : List Ltr) : Int := xs.foldl osStep 0
def sL (xs : List Ltr) : Int := xs.foldl sStep 0
theorem fold_take {α β : Type} (f : β → α → β) (b : β) (xs : List α) (k : Nat) (h : k < xs.length) : (xs.take (k + 1)).foldl f b = f ((xs.take k).foldl f b) xs[k] := by
  rw [List.take_succ_eq_append_getElem h, List.foldl_append]; rfl
theorem okB_at {xs : List Ltr} (h : okB xs = true) (k : Nat) (hk : k < xs.length) : 1 ≤ xs[k].id ∧ xs[k].id ≤ 9999 := by
  have := (okB_iff.1 h).2 k hk
  exact ⟨this.1, this.2.1⟩
theorem sq_bound {a : Int} (h1 : 1 ≤ a) (h2 : a ≤ 9999) : 0 ≤ a * a ∧ a * a ≤ 99980001 :=
  ⟨Int.mul_nonneg (by omega) (by omega), by have := Int.mul_le_mul h2 h2 (by omega) (by omega); omega⟩

def orOf (b : Bool) (n : Int) : Int := if b then n else -1


set_option maxHeartbeats 400000 in
theorem impl_SealOf (v : Value) (xs : List Ltr) (w : World) (hv : rd w w.heap.size v xs) :
    Calls Try.prog 34 #[v] w fun e w' => e = .returned (.int .i64 (orOf (okB xs) (sL xs))) ∧ Below w.heap.size w w' := by
  have hv0 := hv
  obtain ⟨A, n, c, rfl, hn, hc, hm, hr⟩ := hv
  subst hn
  unfold maxLen at hm
  have HR := Lib.hid hr; clear hr
  go_enter Try.func34, Try.ntmps34
  go_wp2_with fail
  refine (impl_BatchValid _ _ _ hv0).mono ?_
  rintro e w0 ⟨rfl, hb0⟩
  clear hv0
  cases hok : okB xs
  · have HOK := Lib.hid hok; clear hok
    go_wp2
    go_ret
    exact ⟨ret_int (by rw [HOK.out]; rfl), hb0⟩
  · have HOK := Lib.hid hok; clear hok
    go_wp2
    go_loopw [3, 11] (fun t i wr => ∃ (k : Nat) (m : Int), k ≤ xs.length ∧ i = .int .i64 k ∧ t = .int .i64 m ∧ 0 ≤ m ∧ m < 9973 ∧ Hid (m = (xs.take k).foldl sStep 0) ∧ Below w.heap.size w wr) (fun _ i _ => xs.length - (intOf i).toNat)
    case atStart => exact ⟨0, 0, Nat.zero_le _, rfl, rfl, by omega, by omega, rfl, hb0⟩
    case round =>
      obtain ⟨k, m, hk, rfl, rfl, m0, m1, HM, hbl⟩ := hrel
      obtain ⟨w1, rfl⟩ : ∃ w1 : World, w1 = wr := ⟨_, rfl⟩
      have hbz := hbl.size
      clear hb0
      by_cases hlt : k < xs.length
      · obtain ⟨b, o, rfl, hb, _, c1, c2⟩ := HR.out.ltr k hlt
        obtain ⟨i1, i2⟩ := okB_at HOK.out k hlt
        obtain ⟨q1, q2⟩ := sq_bound i1 i2
        have HS := Lib.hid (fold_take sStep 0 xs k hlt)
        generalize xs[k] = x at *
        have c1' : w1.cell? ⟨b, o + k * 2, none⟩ = some (.int .i64 x.id) := (hbl.cell (p := ⟨b, o + k * 2, none⟩) hb).trans c1
        have c2' : w1.cell? ⟨b, o + k * 2 + 1, none⟩ = some (.string x.code) := (hbl.cell (p := ⟨b, o + k * 2 + 1, none⟩) hb).trans c2
        clear c1 c2
        go_wp2
        go_roundw
        case rel => exact ⟨k + 1, (m + x.id * x.id) % 9973, by omega, by go_num, rfl, by omega, by omega, by show _ = _; rw [HS.out, ← HM.out]; rfl, hbl.alloc hbz _⟩
        case measure => simp [intOf]; omega
      · have HE := Lib.hid (show k = xs.length by omega)
        go_wp2
        go_ret
        exact ⟨ret_int (by rw [HM.out, HE.out, List.take_length, HOK.out]; rfl), hbl⟩


set_option maxHeartbeats 400000 in
theorem spec_SealOf (v : Value) (xs : List Ltr) (w : World) (hv : rd w w.heap.size v xs) :
    Calls Try.prog 42 #[v] w fun e w' => e = .returned (.int .i64 (orOf (okB xs) (sL xs))) ∧ Below w.heap.size w w' := by
  have hv0 := hv
  obtain ⟨A, n, c, rfl, hn, hc, hm, hr⟩ := hv
  subst hn
  unfold maxLen at hm
  have HR := Lib.hid hr; clear hr
  go_enter Try.func42, Try.ntmps42
  go_wp2_with fail
  refine (spec_BatchValid _ _ _ hv0).mono ?_
  rintro e w0 ⟨rfl, hb0⟩
  clear hv0
  cases hok : okB xs
  · have HOK := Lib.hid hok; clear hok
    go_wp2
    go_ret
    exact ⟨ret_int (by rw [HOK.out]; rfl), hb0⟩
  · have HOK := Lib.hid hok; clear hok
    go_wp2
    go_loopw [3, 4] (fun t i wr => ∃ (k : Nat) (m : Int), k ≤ xs.length ∧ i = .int .i64 k ∧ t = .int .i64 m ∧ 0 ≤ m ∧ m < 9973 ∧ Hid (m = (xs.take k).foldl sStep 0) ∧ Below w.heap.size w wr) (fun _ i _ => xs.length - (intOf i).toNat)
    case atStart => exact ⟨0, 0, Nat.zero_le _, rfl, rfl, by omega, by omega, rfl, hb0⟩
    case round =>
      obtain ⟨k, m, hk, rfl, rfl, m0, m1, HM, hbl⟩ := hrel
      obtain ⟨w1, rfl⟩ : ∃ w1 : World, w1 = wr := ⟨_, rfl⟩
      have hbz := hbl.size
      clear hb0
      by_cases hlt : k < xs.length
      · obtain ⟨b, o, rfl, hb, _, c1, c2⟩ := HR.out.ltr k hlt
        obtain ⟨i1, i2⟩ := okB_at HOK.out k hlt
        obtain ⟨q1, q2⟩ := sq_bound i1 i2
        have HS := Lib.hid (fold_take sStep 0 xs k hlt)
        generalize xs[k] = x at *
        have c1' : w1.cell? ⟨b, o + k * 2, none⟩ = some (.int .i64 x.id) := (hbl.cell (p := ⟨b, o + k * 2, none⟩) hb).trans c1
        clear c1 c2
        have hkn : (k : Int) < (xs.length : Int) := by omega
        have hw1 : IntKind.i64.wrap (x.id * x.id) = x.id * x.id := IntWalk.i64_in _ (by omega)
        have hw2 : IntKind.i64.wrap (m + x.id * x.id) = m + x.id * x.id := IntWalk.i64_in _ (by omega)
        have hw3 : (m + x.id * x.id).tmod 9973 = (m + x.id * x.id) % 9973 := Int.tmod_eq_emod_of_nonneg (by omega)
        have hw4 : IntKind.i64.wrap ((m + x.id * x.id) % 9973) = (m + x.id * x.id) % 9973 := IntWalk.i64_in _ (by omega)
        go_wp2
        go_quiet (fail)
        clear hw1 hw2 hw3 hw4
        go_wp2
        go_roundw
        case rel => exact ⟨k + 1, (m + x.id * x.id) % 9973, by omega, by go_num, rfl, by omega, by omega, by show _ = _; rw [HS.out, ← HM.out]; rfl, below_drewN hbl _⟩
        case measure => simp [intOf]; omega
      · have HE := Lib.hid (show k = xs.length by omega)
        go_wp2
        go_ret
        exact ⟨ret_int (by rw [HM.out, HE.out, List.take_length, HOK.out]; rfl), hbl⟩

end Go.Proofs.Ytnlljekijlkigaa
