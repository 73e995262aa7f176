/- L2 BM K1 K2 F0 -/
import Derived.Test.YtmangjjaijhcnaaQ4
import Derived.Test.YtmangjjaijhcnaaQ1
import Derived.Test.YtmangjjaijhcnaaQ3
import Derived.Laws.MathBits
import Derived.Handy
import Derived.Deep.QuietTactic
import Derived.BigQuiet
namespace Go.Proofs.Ytmangjjaijhcnaa
open Go.RowKit

/-- The index of the first string that is c; the length if there is none. -/
def rk : List ByteArray → ByteArray → Nat
  | [], _ => 0
  | d :: ds, c => if sEq d c then 0 else rk ds c + 1
theorem rk_cons (d : ByteArray) (ds : List ByteArray) (c : ByteArray) : rk (d :: ds) c = if sEq d c then 0 else rk ds c + 1 := rfl
theorem rk_le : ∀ (cs : List ByteArray) (c : ByteArray), rk cs c ≤ cs.length
  | [], _ => Nat.le_refl _
  | d :: ds, c => by unfold rk; split; · exact Nat.zero_le _
                     · have := rk_le ds c; simp; omega
theorem rk_before : ∀ (cs : List ByteArray) (c : ByteArray) (k : Nat) (h : k < cs.length), k < rk cs c → sEq cs[k] c = false
  | [], _, k, h, _ => absurd h (Nat.not_lt_zero k)
  | d :: ds, c, 0, _, hk => by
    unfold rk at hk
    split at hk
    · omega
    · rename_i h
      simpa using h
  | d :: ds, c, k + 1, h, hk => by
    unfold rk at hk
    split at hk
    · omega
    · exact rk_before ds c k (by simpa using h) (by omega)
theorem rk_at : ∀ (cs : List ByteArray) (c : ByteArray) (h : rk cs c < cs.length), sEq cs[rk cs c] c = true
  | [], _, h => absurd h (Nat.not_lt_zero _)
  | d :: ds, c, h => by
    by_cases hd : sEq d c = true
    · have e : rk (d :: ds) c = 0 := by rw [rk_cons, if_pos hd]
      simp only [e]
      exact hd
    · have e : rk (d :: ds) c = rk ds c + 1 := by rw [rk_cons, if_neg hd]
      have h' : rk ds c < ds.length := by rw [e] at h; simpa using h
      simp only [e]
      exact rk_at ds c h'
theorem rk_eq {cs : List ByteArray} {c : ByteArray} {k : Nat} (h : k < cs.length) (h1 : ∀ j (hj : j < k), sEq cs[j] c = false) (h2 : sEq cs[k] c = true) : rk cs c = k := by
  rcases Nat.lt_trichotomy (rk cs c) k with hlt | heq | hgt
  · have := h1 _ hlt
    rw [rk_at cs c (by omega)] at this
    cases this
  · exact heq
  · have := rk_before cs c k h hgt
    rw [h2] at this
    cases this
theorem rk_none {cs : List ByteArray} {c : ByteArray} (h : ∀ j (hj : j < cs.length), sEq cs[j] c = false) : rk cs c = cs.length := by
  rcases Nat.lt_or_eq_of_le (rk_le cs c) with hlt | heq
  · have := h _ hlt
    rw [rk_at cs c hlt] at this
    cases this
  · exact heq
/-- Go's slices.Index: -1 if there is none. -/
def rkI (cs : List ByteArray) (c : ByteArray) : Int := if rk cs c < cs.length then (rk cs c : Int) else -1
theorem rkI_pos {cs : List ByteArray} {c : ByteArray} (h : rk cs c < cs.length) : rkI cs c = (rk cs c : Int) := by unfold rkI; rw [if_pos h]
theorem rkI_neg {cs : List ByteArray} {c : ByteArray} (h : ¬ rk cs c < cs.length) : rkI cs c = -1 := by unfold rkI; rw [if_neg h]
theorem rkI_range (cs : List ByteArray) (c : ByteArray) : -1 ≤ rkI cs c ∧ rkI cs c < cs.length := by
  unfold rkI
  split <;> omega
/-- The bin of a code in a pass; -1 if it has no rank. -/
def binI (p : Pln) (c : ByteArray) (pass : Nat) : Int := if rkI p.order c < 0 then -1 else rkI p.order c / powI p.bins pass % p.bins

/-! ### Missorts -/
def goodM (bins : Int) (ms : List Mis) (k : Nat) : Bool :=
  match ms[k]? with
  | none => false
  | some x => (decide (1 ≤ x.id) && decide (x.id ≤ 9999)) && (decide (0 ≤ x.bin) && decide (x.bin < bins)) && (ms.take k).all (fun y => y.id != x.id)
def misOk (p : Pln) (ms : List Mis) : Bool := planOk p && decide (ms.length ≤ 60) && (List.range ms.length).all (goodM p.bins ms)
theorem misOk_bad {p : Pln} {ms : List Mis} {k : Nat} (hk : k < ms.length) (h : goodM p.bins ms k = false) : misOk p ms = false := by
  unfold misOk
  rw [Bool.and_eq_false_iff]
  exact .inr (List.all_eq_false.2 ⟨k, by simpa using hk, by simp [h]⟩)
theorem misOk_good {p : Pln} {ms : List Mis} (hp : planOk p = true) (h60 : ms.length ≤ 60) (h : ∀ j, j < ms.length → goodM p.bins ms j = true) : misOk p ms = true := by
  unfold misOk
  rw [hp, decide_eq_true h60]
  exact List.all_eq_true.2 fun k hk => h k (by simpa using hk)
theorem misOk_plan {p : Pln} {ms : List Mis} (h : planOk p = false) : misOk p ms = false := by unfold misOk; rw [h]; rfl
theorem misOk_len {p : Pln} {ms : List Mis} (h : ¬ ms.length ≤ 60) : misOk p ms = false := by unfold misOk; rw [decide_eq_false h]; simp
theorem goodM_of {bins : Int} {ms : List Mis} {k : Nat} (hk : k < ms.length) : goodM bins ms k = ((decide (1 ≤ ms[k].id) && decide (ms[k].id ≤ 9999)) && (decide (0 ≤ ms[k].bin) && decide (ms[k].bin < bins)) && (ms.take k).all (fun y => y.id != ms[k].id)) := by
  unfold goodM
  rw [List.getElem?_eq_getElem hk]
theorem planOk_iff {p : Pln} : planOk p = true ↔ (2 ≤ p.bins ∧ p.bins ≤ 16 ∧ 1 ≤ p.passes ∧ p.passes ≤ 4) ∧ (1 ≤ p.order.length ∧ p.order.length ≤ 60) ∧ (p.order.length : Int) ≤ powI p.bins p.passes.toNat ∧ codesOk p.order = true := by
  unfold planOk
  simp only [Bool.and_eq_true, decide_eq_true_iff, shapeOk_iff]
  constructor
  · rintro ⟨⟨⟨h1, h2⟩, h3⟩, h4⟩; exact ⟨h1, h2, h3, h4⟩
  · rintro ⟨h1, h2, h3, h4⟩; exact ⟨⟨⟨h1, h2⟩, h3⟩, h4⟩

end Go.Proofs.Ytmangjjaijhcnaa

namespace Go.Proofs.Ytmangjjaijhcnaa
open Go.RowKit

/-- The bin of the last missort of a letter; b if there is none. -/
def misBin (ms : List Mis) (x : Ltr) (b : Int) : Int := ms.foldl (fun b m => if m.id = x.id then m.bin else b) b
def binsOf (f : Ltr → Int) (n : Nat) (xs : List Ltr) : List (List Ltr) := (List.range n).map fun (k : Nat) => xs.filter fun x => f x == (k : Int)
def restOf (f : Ltr → Int) (xs : List Ltr) : List Ltr := xs.filter fun x => decide (f x < 0)
theorem binsOf_len (f : Ltr → Int) (n : Nat) (xs : List Ltr) : (binsOf f n xs).length = n := by simp [binsOf]
theorem binsOf_get (f : Ltr → Int) (n : Nat) (xs : List Ltr) (k : Nat) (h : k < (binsOf f n xs).length) : (binsOf f n xs)[k] = xs.filter fun x => f x == (k : Int) := by simp [binsOf]
theorem binsOf_nil (f : Ltr → Int) (n : Nat) : binsOf f n [] = List.replicate n [] := by
  apply List.ext_getElem
  · simp [binsOf]
  · intro i h1 h2; simp [binsOf]
theorem binsOf_step {f : Ltr → Int} {n : Nat} {xs : List Ltr} {k d : Nat} (h : k < xs.length) (hf : f xs[k] = (d : Int)) (hd : d < (binsOf f n (xs.take k)).length) :
    binsOf f n (xs.take (k + 1)) = (binsOf f n (xs.take k)).set d ((binsOf f n (xs.take k))[d] ++ [xs[k]]) := by
  apply List.ext_getElem
  · simp [binsOf]
  · intro i h1 h2
    simp only [List.getElem_set, binsOf_get]
    rw [List.take_succ_eq_append_getElem h, List.filter_append]
    by_cases hi : d = i
    · subst hi
      rw [if_pos rfl]
      simp [hf]
    · rw [if_neg hi]
      have : (f xs[k] == (i : Int)) = false := beq_eq_false_iff_ne.2 (by omega)
      simp [this]
theorem binsOf_skip {f : Ltr → Int} {n : Nat} {xs : List Ltr} {k : Nat} (h : k < xs.length) (hf : f xs[k] < 0) : binsOf f n (xs.take (k + 1)) = binsOf f n (xs.take k) := by
  apply List.ext_getElem
  · simp [binsOf]
  · intro i h1 h2
    rw [binsOf_get, binsOf_get, List.take_succ_eq_append_getElem h, List.filter_append]
    have : (f xs[k] == (i : Int)) = false := beq_eq_false_iff_ne.2 (by omega)
    simp [this]
theorem restOf_step {f : Ltr → Int} {xs : List Ltr} {k : Nat} (h : k < xs.length) (hf : f xs[k] < 0) : restOf f (xs.take (k + 1)) = restOf f (xs.take k) ++ [xs[k]] := by
  unfold restOf
  rw [List.take_succ_eq_append_getElem h, List.filter_append]
  simp [hf]
theorem restOf_skip {f : Ltr → Int} {xs : List Ltr} {k : Nat} (h : k < xs.length) (hf : 0 ≤ f xs[k]) : restOf f (xs.take (k + 1)) = restOf f (xs.take k) := by
  unfold restOf
  rw [List.take_succ_eq_append_getElem h, List.filter_append]
  simp
  omega
theorem filter_len_le {α : Type} (p : α → Bool) (xs : List α) (k : Nat) : ((xs.take k).filter p).length ≤ k := by
  have h1 := List.length_filter_le p (xs.take k)
  have h2 := List.length_take_le k xs
  omega
theorem binI_neg {p : Pln} {c : ByteArray} {k : Nat} (h : rkI p.order c < 0) : binI p c k = -1 := by unfold binI; rw [if_pos h]
theorem binI_pos {p : Pln} {c : ByteArray} {k : Nat} (h : ¬ rkI p.order c < 0) : binI p c k = rkI p.order c / powI p.bins k % p.bins := by unfold binI; rw [if_neg h]
theorem binI_range (p : Pln) (c : ByteArray) (k : Nat) (hb : 2 ≤ p.bins) : -1 ≤ binI p c k ∧ binI p c k < p.bins := by
  unfold binI
  split
  · omega
  · have h1 := Int.emod_nonneg (rkI p.order c / powI p.bins k) (show p.bins ≠ 0 by omega)
    have h2 := Int.emod_lt_of_pos (rkI p.order c / powI p.bins k) (show 0 < p.bins by omega)
    omega
theorem misBin_range {ms : List Mis} {n : Int} (h : ∀ m ∈ ms, 0 ≤ m.bin ∧ m.bin < n) (x : Ltr) : ∀ b, -1 ≤ b ∧ b < n → -1 ≤ misBin ms x b ∧ misBin ms x b < n := by
  unfold misBin
  induction ms with
  | nil => intro b hb; exact hb
  | cons m ms ih =>
    intro b hb
    simp only [List.foldl_cons]
    refine ih (fun m' hm' => h m' (List.mem_cons_of_mem _ hm')) _ ?_
    split
    · have := h m (List.mem_cons_self ..); omega
    · exact hb
theorem misBin_take {ms : List Mis} {k : Nat} (h : k < ms.length) (x : Ltr) (b : Int) : misBin (ms.take (k + 1)) x b = if ms[k].id = x.id then ms[k].bin else misBin (ms.take k) x b := by
  unfold misBin
  rw [List.take_succ_eq_append_getElem h, List.foldl_append]; rfl
/-- One pass. -/
def pass1 (p : Pln) (k : Nat) (xs : List Ltr) : List Ltr := (binsOf (fun x => binI p x.code k) p.bins.toNat xs).flatten
/-- The passes from k on, n of them. -/
def passesN (p : Pln) : Nat → Nat → List Ltr → List Ltr
  | _, 0, xs => xs
  | k, n + 1, xs => passesN p (k + 1) n (pass1 p k xs)
theorem passesN_succ (p : Pln) : ∀ (n k : Nat) (xs : List Ltr), passesN p k (n + 1) xs = pass1 p (k + n) (passesN p k n xs)
  | 0, k, xs => rfl
  | n + 1, k, xs => by
    show passesN p (k + 1) (n + 1) (pass1 p k xs) = pass1 p (k + (n + 1)) (passesN p (k + 1) n (pass1 p k xs))
    rw [passesN_succ p n (k + 1), show k + 1 + n = k + (n + 1) by omega]
/-- What falls out. -/
def outN (p : Pln) : Nat → Nat → List Ltr → List Ltr
  | _, 0, _ => []
  | k, n + 1, xs => restOf (fun x => binI p x.code k) xs ++ outN p (k + 1) n (pass1 p k xs)
theorem outN_succ (p : Pln) : ∀ (n k : Nat) (xs : List Ltr), outN p k (n + 1) xs = outN p k n xs ++ restOf (fun x => binI p x.code (k + n)) (passesN p k n xs)
  | 0, k, xs => by show restOf _ xs ++ [] = [] ++ restOf _ xs; simp
  | n + 1, k, xs => by
    show restOf _ xs ++ outN p (k + 1) (n + 1) (pass1 p k xs) = (restOf _ xs ++ outN p (k + 1) n (pass1 p k xs)) ++ restOf (fun x => binI p x.code (k + (n + 1))) (passesN p (k + 1) n (pass1 p k xs))
    rw [outN_succ p n (k + 1), show k + 1 + n = k + (n + 1) by omega, List.append_assoc]
theorem binsOf_mem {f : Ltr → Int} {n : Nat} {xs : List Ltr} {x : Ltr} : x ∈ (binsOf f n xs).flatten ↔ x ∈ xs ∧ 0 ≤ f x ∧ f x < n := by
  simp only [binsOf, List.mem_flatten, List.mem_map, List.mem_range]
  constructor
  · rintro ⟨l, ⟨k, hk, rfl⟩, hx⟩
    simp only [List.mem_filter, beq_iff_eq] at hx
    exact ⟨hx.1, by omega, by omega⟩
  · rintro ⟨h1, h2, h3⟩
    obtain ⟨k, hk⟩ := Int.eq_ofNat_of_zero_le h2
    exact ⟨_, ⟨k, by omega, rfl⟩, by simp [h1, hk]⟩
theorem binI_rank {p : Pln} {c : ByteArray} {k : Nat} (hb : 2 ≤ p.bins) : binI p c k < 0 ↔ rkI p.order c < 0 := by
  unfold binI
  split
  · rename_i h; simp [h]
  · rename_i h
    have h1 := Int.emod_nonneg (rkI p.order c / powI p.bins k) (show p.bins ≠ 0 by omega)
    omega
theorem flatten_length_binsOf {f : Ltr → Int} {n : Nat} (xs : List Ltr) : (binsOf f n xs).flatten.length ≤ xs.length := by
  induction xs with
  | nil => rw [binsOf_nil]; simp
  | cons x xs ih =>
    have key : ∀ m, ((List.range m).map fun (k : Nat) => ((x :: xs).filter fun y => f y == (k : Int))).flatten.length = ((List.range m).map fun (k : Nat) => (xs.filter fun y => f y == (k : Int))).flatten.length + (if 0 ≤ f x ∧ f x < m then 1 else 0) := fun m => by
      induction m with
      | zero => simp
      | succ m ihm =>
        rw [List.range_succ, List.map_append, List.map_append, List.flatten_append, List.flatten_append, List.length_append, List.length_append, ihm]
        simp only [List.map_cons, List.map_nil, List.flatten_cons, List.flatten_nil, List.append_nil, List.filter_cons]
        by_cases h : f x = (m : Int)
        · simp only [h, beq_self_eq_true, if_true, List.length_cons]
          rw [if_neg (by omega), if_pos (by omega)]; omega
        · have hb : (f x == (m : Int)) = false := beq_eq_false_iff_ne.2 h
          simp only [hb, Bool.false_eq_true, if_false]
          by_cases h2 : 0 ≤ f x ∧ f x < m
          · rw [if_pos h2, if_pos (by omega)]; omega
          · rw [if_neg h2, if_neg (by omega)]; omega
    unfold binsOf at *
    rw [key n, List.length_cons]
    split <;> omega
theorem pass1_len (p : Pln) (k : Nat) (xs : List Ltr) : (pass1 p k xs).length ≤ xs.length := flatten_length_binsOf xs
theorem passesN_len (p : Pln) : ∀ (n k : Nat) (xs : List Ltr), (passesN p k n xs).length ≤ xs.length
  | 0, _, _ => Nat.le_refl _
  | n + 1, k, xs => Nat.le_trans (passesN_len p n (k + 1) _) (pass1_len p k xs)
/-- Behind a pass all letters have a rank: none falls out any more. -/
theorem rest_after {p : Pln} (hb : 2 ≤ p.bins) (j k : Nat) (xs : List Ltr) : restOf (fun x => binI p x.code j) (pass1 p k xs) = [] := by
  unfold restOf
  rw [List.filter_eq_nil_iff]
  intro x hx
  have h := (binsOf_mem.1 hx).2.1
  have h2 := (binI_rank (p := p) (c := x.code) (k := j) hb)
  have h3 := (binI_rank (p := p) (c := x.code) (k := k) hb)
  simp only [decide_eq_true_eq]
  intro h4
  have := h3.2 (h2.1 h4)
  omega
theorem outN_first {p : Pln} (hb : 2 ≤ p.bins) (k n : Nat) (xs : List Ltr) : outN p k (n + 1) xs = restOf (fun x => binI p x.code k) xs := by
  have h : ∀ (n j k : Nat) (ys : List Ltr), outN p j n (pass1 p k ys) = [] := by
    intro n
    induction n with
    | zero => intro j k ys; rfl
    | succ n ih =>
      intro j k ys
      show restOf _ (pass1 p k ys) ++ outN p (j + 1) n (pass1 p j (pass1 p k ys)) = []
      rw [rest_after hb, ih]; rfl
  show restOf _ xs ++ outN p (k + 1) n (pass1 p k xs) = _
  rw [h, List.append_nil]
def passOk (p : Pln) (k : Int) : Bool := planOk p && (decide (0 ≤ k) && decide (k < p.passes))
theorem passOk_iff {p : Pln} {k : Int} : passOk p k = true ↔ planOk p = true ∧ 0 ≤ k ∧ k < p.passes := by
  unfold passOk; simp only [Bool.and_eq_true, decide_eq_true_iff]
theorem planOk_bins {p : Pln} (h : planOk p = true) : 2 ≤ p.bins ∧ p.bins ≤ 16 ∧ 1 ≤ p.passes ∧ p.passes ≤ 4 ∧ p.order.length ≤ 60 := by
  unfold planOk shapeOk at h
  simp only [Bool.and_eq_true, decide_eq_true_iff] at h
  omega

end Go.Proofs.Ytmangjjaijhcnaa

namespace Go.Proofs.Ytmangjjaijhcnaa
open Go.RowKit

theorem sEq_comm (s t : ByteArray) : sEq s t = sEq t s := by
  rw [Bool.eq_iff_iff, sEq_iff, sEq_iff]; exact eq_comm

set_option maxHeartbeats 400000 in
theorem slices_IndexS (v : Value) (xs : List ByteArray) (c : ByteArray) (w : World) (hv : rd w w.heap.size v xs) :
    Calls Try.prog 142 #[v, .string c] w fun e w' => e = .returned (.int .i64 (rkI xs c)) ∧ w = w' := by
  obtain ⟨A, n, cp, rfl, hn, hc, hm, hr⟩ := hv
  subst hn
  unfold maxLen at hm
  have HR := Lib.hid hr; clear hr
  go_enter Try.func142, Try.ntmps142
  go_wp2
  go_loop [8] (fun i => ∃ k : Nat, k ≤ xs.length ∧ i = .int .i64 k ∧ Hid (∀ j (h : j < xs.length), j < k → sEq xs[j] c = false)) (fun i => xs.length - (intOf i).toNat)
  case atStart => exact ⟨0, Nat.zero_le _, rfl, fun j _ hj => absurd hj (Nat.not_lt_zero j)⟩
  case round =>
    obtain ⟨k, hk, rfl, HG⟩ := hrel
    by_cases hlt : k < xs.length
    · obtain ⟨b, o, rfl, hb, hok, c1⟩ := HR.out.str k hlt
      have HX : Hid (∀ h : sEq xs[k] c = false, ∀ j (h1 : j < xs.length), j < k + 1 → sEq xs[j] c = false) := fun h j h1 hj => by
        by_cases hjk : j < k
        · exact HG.out j h1 hjk
        · obtain rfl : j = k := by omega
          exact h
      have HY : Hid (∀ h : sEq xs[k] c = true, rkI xs c = k) := fun h => by
        have e := rk_eq hlt (fun j hj => HG.out j (by omega) hj) h
        rw [rkI_pos (by omega), e]
      generalize xs[k] = x at *
      cases he : sEq x c
      · have he' := Lib.hid he
        have hq : (c.toList == x.toList) = false := by rw [← he]; exact sEq_comm c x
        clear he
        go_wp2
        go_round
        case rel => exact ⟨k + 1, by omega, by go_num, HX.out he'.out⟩
        case measure => simp [intOf]; omega
      · have he' := Lib.hid he
        have hq : (c.toList == x.toList) = true := by rw [← he]; exact sEq_comm c x
        clear he
        go_wp2
        go_ret
        exact ⟨ret_int (HY.out he'.out).symm, rfl⟩
    · have HE : Hid (rkI xs c = -1) := by
        have e := rk_none (cs := xs) (c := c) (fun j hj => HG.out j hj (by omega))
        exact rkI_neg (by omega)
      go_wp2
      go_ret
      exact ⟨ret_int HE.out.symm, rfl⟩

theorem slices_ContainsS (v : Value) (xs : List ByteArray) (c : ByteArray) (w : World) (hv : rd w w.heap.size v xs) :
    Calls Try.prog 97 #[v, .string c] w fun e w' => e = .returned (.bool (decide (0 ≤ rkI xs c))) ∧ w = w' := by
  go_enter Try.func97, Try.ntmps97
  go_wp2_with fail
  refine (slices_IndexS v xs c w hv).mono ?_
  rintro e w1 ⟨rfl, rfl⟩
  obtain ⟨r, HR⟩ : ∃ r, Hid (rkI xs c = r) := ⟨_, rfl⟩
  rw [HR.out]
  go_wp2_with fail
  go_ret
  exact ⟨ret_bool (by rw [HR.out]), rfl⟩

theorem impl_binsValid (n : Int) (w : World) : Calls Try.prog 138 #[.int .i64 n] w fun e w' => e = .returned (.bool (decide (2 ≤ n) && decide (n ≤ 16))) ∧ w = w' := by
  go_enter Try.func138, Try.ntmps138
  by_cases h1 : 2 ≤ n
  · go_wp2
    go_ret
    exact ⟨ret_bool (by simp [h1]), rfl⟩
  · go_wp2
    go_ret
    exact ⟨ret_bool (by rw [decide_eq_false (p := 2 ≤ n) (by omega)]; rfl), rfl⟩
theorem impl_passesValid (n : Int) (w : World) : Calls Try.prog 139 #[.int .i64 n] w fun e w' => e = .returned (.bool (decide (1 ≤ n) && decide (n ≤ 4))) ∧ w = w' := by
  go_enter Try.func139, Try.ntmps139
  by_cases h1 : 1 ≤ n
  · go_wp2
    go_ret
    exact ⟨ret_bool (by simp [h1]), rfl⟩
  · go_wp2
    go_ret
    exact ⟨ret_bool (by rw [decide_eq_false (p := 1 ≤ n) (by omega)]; rfl), rfl⟩

set_option maxHeartbeats 400000 in
theorem impl_binPower (b : Int) (n : Nat) (w : World) (h1 : 2 ≤ b) (h2 : b ≤ 16) (hn : n ≤ 4) :
    Calls Try.prog 175 #[.int .i64 b, .int .i64 n] w fun e w' => e = .returned (.int .i64 (powI b n)) ∧ w = w' := by
  go_enter Try.func175, Try.ntmps175
  go_wp2
  go_loop [5, 7] (fun t i => ∃ (k : Nat) (m : Int), k ≤ n ∧ i = .int .i64 k ∧ t = .int .i64 m ∧ 1 ≤ m ∧ m ≤ 65536 ∧ Hid (m = powI b k)) (fun _ i => n - (intOf i).toNat)
  case atStart => exact ⟨0, 1, Nat.zero_le _, rfl, rfl, by omega, by omega, rfl⟩
  case round =>
    obtain ⟨k, m, hk, rfl, rfl, m0, m1, HM⟩ := hrel
    by_cases hlt : k < n
    · obtain ⟨p1, p2⟩ := powI_bounds h1 h2 (k + 1) (by omega)
      have hp : powI b (k + 1) = m * b := by rw [HM.out]; rfl
      have HP := Lib.hid hp
      rw [hp] at p1 p2
      clear hp
      go_wp2
      go_round
      case rel => exact ⟨k + 1, _, by omega, by go_num, rfl, p1, p2, HP.out.symm⟩
      case measure => simp [intOf]; omega
    · have HE := Lib.hid (show k = n by omega)
      go_wp2
      go_ret
      exact ⟨ret_int (by rw [HM.out, HE.out]), rfl⟩

theorem impl_CapacityOf (b p : Int) (w : World) (h : shapeOk b p = true) :
    Calls Try.prog 140 #[.int .i64 b, .int .i64 p] w fun e w' => e = .returned (.int .i64 (powI b p.toNat)) ∧ w = w' := by
  obtain ⟨h1, h2, h3, h4⟩ := shapeOk_iff.1 h
  clear h
  obtain ⟨n, rfl⟩ := Int.eq_ofNat_of_zero_le (show 0 ≤ p by omega)
  have e1 : (decide (2 ≤ b) && decide (b ≤ 16)) = true := by rw [decide_eq_true h1, decide_eq_true h2]; rfl
  have e2 : (decide ((1 : Int) ≤ (n : Int)) && decide ((n : Int) ≤ 4)) = true := by rw [decide_eq_true h3, decide_eq_true h4]; rfl
  have E1 := Lib.hid e1; clear e1
  have E2 := Lib.hid e2; clear e2
  go_enter Try.func140, Try.ntmps140
  go_wp2_with fail
  refine (impl_binsValid b w).mono ?_
  rw [E1.out]
  rintro e w1 ⟨rfl, rfl⟩
  go_wp2_with fail
  refine (impl_passesValid n w).mono ?_
  rw [E2.out]
  rintro e w1 ⟨rfl, rfl⟩
  go_wp2_with fail
  refine (impl_binPower b n w h1 h2 (by omega)).mono ?_
  rintro e w1 ⟨rfl, rfl⟩
  go_wp2_with fail
  go_ret
  exact ⟨ret_int (by rw [Int.toNat_natCast]), rfl⟩

end Go.Proofs.Ytmangjjaijhcnaa

namespace Go.Proofs.Ytmangjjaijhcnaa
open Go.RowKit

theorem all_rk (cs : List ByteArray) (c : ByteArray) : cs.all (fun d => !sEq d c) = !decide (0 ≤ rkI cs c) := by
  rw [Bool.eq_iff_iff, List.all_eq_true]
  constructor
  · intro h
    have : rk cs c = cs.length := rk_none fun j hj => by simpa using h _ (List.getElem_mem hj)
    rw [rkI_neg (by omega)]
    decide
  · intro h x hx
    obtain ⟨j, hj, rfl⟩ := List.getElem_of_mem hx
    have hn : ¬ 0 ≤ rkI cs c := by simpa using h
    have hk : ¬ rk cs c < cs.length := fun hlt => by rw [rkI_pos hlt] at hn; omega
    have := rk_before cs c j hj (by omega)
    simp [this]

set_option maxHeartbeats 400000 in
theorem impl_codesDiffer (v : Value) (cs : List ByteArray) (w : World) (hv : rd w w.heap.size v cs) :
    Calls Try.prog 141 #[v] w fun e w' => e = .returned (.bool (codesOk cs)) ∧ w = w' := by
  have hv0 := Lib.hid hv
  obtain ⟨A, n, cp, rfl, hn, hc, hm, hr⟩ := hv
  subst hn
  unfold maxLen at hm
  have HR := Lib.hid hr; clear hr
  go_enter Try.func141, Try.ntmps141
  go_wp2
  go_loop [7] (fun i => ∃ k : Nat, k ≤ cs.length ∧ i = .int .i64 k ∧ Hid (∀ j, j < k → goodC cs j = true)) (fun i => cs.length - (intOf i).toNat)
  case atStart => exact ⟨0, Nat.zero_le _, rfl, fun j hj => absurd hj (Nat.not_lt_zero j)⟩
  case round =>
    obtain ⟨k, hk, rfl, HG⟩ := hrel
    by_cases hlt : k < cs.length
    · obtain ⟨b, o, rfl, hb, hok, c1⟩ := HR.out.str k hlt
      have hG := Lib.hid (goodC_of hlt)
      have hbad := Lib.hid (fun h => codesOk_bad hlt h)
      have hA := Lib.hid (all_rk (cs.take k) cs[k])
      generalize cs[k] = c at *
      cases hcd : isCode c
      · have hcd' := Lib.hid hcd; clear hcd
        go_wp2_with (go_at_call 77; refine (impl_CodeValid _ _ hok).mono ?_; rw [hcd'.out]; rintro e w' ⟨rfl, rfl⟩)
        go_ret
        exact ⟨ret_bool (hbad.out (by rw [hG.out, hcd'.out]; rfl)).symm, rfl⟩
      have hcd' := Lib.hid hcd; clear hcd
      cases hd : decide (0 ≤ rkI (cs.take k) c)
      · have hd' := Lib.hid hd; clear hd
        go_wp2_with (first | (go_at_call 77; refine (impl_CodeValid _ _ hok).mono ?_; rw [hcd'.out]; rintro e w' ⟨rfl, rfl⟩) | (go_at_call 97; refine (slices_ContainsS _ (cs.take k) _ _ (hv0.out.take hk)).mono ?_; rw [hd'.out]; rintro e w' ⟨rfl, rfl⟩))
        go_round
        case rel =>
          refine ⟨k + 1, by omega, by go_num, fun j hj => ?_⟩
          by_cases hjk : j < k
          · exact HG.out j hjk
          · obtain rfl : j = k := by omega
            rw [hG.out, hcd'.out, hA.out, hd'.out]; rfl
        case measure => simp [intOf]; omega
      · have hd' := Lib.hid hd; clear hd
        go_wp2_with (first | (go_at_call 77; refine (impl_CodeValid _ _ hok).mono ?_; rw [hcd'.out]; rintro e w' ⟨rfl, rfl⟩) | (go_at_call 97; refine (slices_ContainsS _ (cs.take k) _ _ (hv0.out.take hk)).mono ?_; rw [hd'.out]; rintro e w' ⟨rfl, rfl⟩))
        go_ret
        exact ⟨ret_bool (hbad.out (by rw [hG.out, hcd'.out, hA.out, hd'.out]; rfl)).symm, rfl⟩
    · have HE := Lib.hid (show k = cs.length by omega)
      go_wp2
      go_ret
      exact ⟨ret_bool (codesOk_good (by rw [← HE.out]; exact HG.out)).symm, rfl⟩

set_option maxHeartbeats 800000 in
theorem impl_PlanValid (v : Value) (p : Pln) (w : World) (hv : rdP w w.heap.size v p) :
    Calls Try.prog 94 #[v] w fun e w' => e = .returned (.bool (planOk p)) ∧ Below w.heap.size w w' := by
  obtain ⟨vo, rfl, hi1, hi2, hr⟩ := hv
  have hr0 := hr
  obtain ⟨A, n, cp, rfl, hn, hc, hm, _⟩ := hr
  subst hn
  unfold maxLen at hm
  have hrb := Lib.hid (fun o => hr0.on ((Below.refl _ _).alloc (Nat.le_refl _) o))
  clear hr0
  have hB : Below w.heap.size w (w.alloc (Obj.cells #[Value.int IntKind.i64 p.bins, Value.int IntKind.i64 p.passes, Value.slice A p.order.length cp] 25)) := (Below.refl _ _).alloc (Nat.le_refl _) _
  have HB := Lib.hid hB; clear hB
  have e0 : planOk p = (((decide (2 ≤ p.bins) && decide (p.bins ≤ 16)) && (decide (1 ≤ p.passes) && decide (p.passes ≤ 4))) && (decide (1 ≤ p.order.length) && decide (p.order.length ≤ 60)) && decide ((p.order.length : Int) ≤ powI p.bins p.passes.toNat) && codesOk p.order) := rfl
  have E0 := Lib.hid e0; clear e0
  go_enter Try.func94, Try.ntmps94
  go_wp2_with fail
  refine (impl_binsValid _ _).mono ?_
  rintro e w1 ⟨rfl, rfl⟩
  cases h1 : (decide (2 ≤ p.bins) && decide (p.bins ≤ 16))
  · have H1 := Lib.hid h1; clear h1
    go_wp2_with fail
    go_ret
    exact ⟨ret_bool (by rw [E0.out, H1.out]; rfl), HB.out⟩
  have H1 := Lib.hid h1; clear h1
  go_wp2_with fail
  refine (impl_passesValid _ _).mono ?_
  rintro e w1 ⟨rfl, rfl⟩
  cases h2 : (decide (1 ≤ p.passes) && decide (p.passes ≤ 4))
  · have H2 := Lib.hid h2; clear h2
    go_wp2_with fail
    go_ret
    exact ⟨ret_bool (by rw [E0.out, H1.out, H2.out]; rfl), HB.out⟩
  have H2 := Lib.hid h2; clear h2
  have hsh : shapeOk p.bins p.passes = true := by unfold shapeOk; rw [H1.out, H2.out]; rfl
  have HSH := Lib.hid hsh; clear hsh
  by_cases h3 : 1 ≤ p.order.length
  case neg =>
    have H3 := Lib.hid h3; clear h3
    have h3i : ¬ (1 : Int) ≤ (p.order.length : Int) := by have := H3.out; omega
    go_wp2_with fail
    go_ret
    exact ⟨ret_bool (by rw [E0.out, decide_eq_false H3.out]; simp), HB.out⟩
  by_cases h4 : p.order.length ≤ 60
  case neg =>
    have H4 := Lib.hid h4; clear h4
    have h4i : ¬ (p.order.length : Int) ≤ 60 := by have := H4.out; omega
    go_wp2_with fail
    go_ret
    exact ⟨ret_bool (by rw [E0.out, decide_eq_false H4.out]; simp), HB.out⟩
  go_wp2_with fail
  refine (impl_CapacityOf _ _ _ HSH.out).mono ?_
  rintro e w1 ⟨rfl, rfl⟩
  obtain ⟨q, HQ⟩ : ∃ q, Hid (powI p.bins p.passes.toNat = q) := ⟨_, rfl⟩
  rw [HQ.out]
  by_cases h5 : (p.order.length : Int) ≤ q
  case neg =>
    have H5 := Lib.hid (decide_eq_false h5)
    go_wp2_with fail
    go_ret
    exact ⟨ret_bool (by rw [E0.out, HQ.out, H5.out]; simp), HB.out⟩
  have H5 := Lib.hid (decide_eq_true h5)
  go_wp2_with fail
  refine (impl_codesDiffer _ p.order _ (hrb.out _)).mono ?_
  rintro e w1 ⟨rfl, rfl⟩
  go_wp2_with fail
  go_ret
  exact ⟨ret_bool (by rw [E0.out, HQ.out, H1.out, H2.out, H5.out, decide_eq_true h3, decide_eq_true h4]; rfl), HB.out⟩

end Go.Proofs.Ytmangjjaijhcnaa

namespace Go.Proofs.Ytmangjjaijhcnaa
open Go.RowKit

/-- The index of the first element with p; -1 if there is none. -/
def fiI {α : Type} (p : α → Bool) (xs : List α) : Int := if xs.findIdx p < xs.length then (xs.findIdx p : Int) else -1
theorem fiI_at {α : Type} {p : α → Bool} {xs : List α} {k : Nat} (h : k < xs.length) (h1 : ∀ j (hj : j < xs.length), j < k → p xs[j] = false) (h2 : p xs[k] = true) : fiI p xs = k := by
  have e : xs.findIdx p = k := (List.findIdx_eq h).2 ⟨h2, fun j hj => by simpa using h1 j (by omega) hj⟩
  unfold fiI
  rw [e, if_pos h]
theorem fiI_none {α : Type} {p : α → Bool} {xs : List α} (h : ∀ j (hj : j < xs.length), p xs[j] = false) : fiI p xs = -1 := by
  have e : xs.findIdx p = xs.length := List.findIdx_eq_length.2 fun x hx => by
    obtain ⟨j, hj, rfl⟩ := List.getElem_of_mem hx
    exact h j hj
  unfold fiI
  rw [e, if_neg (by omega)]
theorem fiI_range {α : Type} (p : α → Bool) (xs : List α) : -1 ≤ fiI p xs ∧ fiI p xs < xs.length := by
  unfold fiI; split <;> omega
theorem fiI_spec {α : Type} {p : α → Bool} {xs : List α} {k : Nat} (h : fiI p xs = k) : ∃ hk : k < xs.length, p xs[k] = true ∧ ∀ j (hj : j < xs.length), j < k → p xs[j] = false := by
  unfold fiI at h
  split at h
  · rename_i hlt
    have e : xs.findIdx p = k := by omega
    subst e
    exact ⟨hlt, by simpa using List.findIdx_getElem (w := hlt), fun j hj hjk => by simpa using List.not_of_lt_findIdx hjk⟩
  · omega
theorem fiI_neg {α : Type} {p : α → Bool} {xs : List α} (h : fiI p xs < 0) : ∀ x ∈ xs, p x = false := by
  unfold fiI at h
  split at h
  · omega
  · rename_i hlt
    intro x hx
    cases hp : p x
    · rfl
    · exact absurd (List.findIdx_lt_length_of_exists ⟨x, hx, hp⟩) hlt
theorem fiI_ge {α : Type} (p : α → Bool) (xs : List α) : decide (0 ≤ fiI p xs) = !xs.all (fun y => !p y) := by
  by_cases h : fiI p xs < 0
  · rw [decide_eq_false (by omega), List.all_eq_true.2 (fun x hx => by rw [fiI_neg h x hx]; rfl)]; rfl
  · replace h : 0 ≤ fiI p xs := by omega
    obtain ⟨k, hk⟩ := Int.eq_ofNat_of_zero_le h
    obtain ⟨h1, h2, _⟩ := fiI_spec hk
    rw [decide_eq_true h, List.all_eq_false.2 ⟨xs[k], List.getElem_mem _, by simp [h2]⟩]; rfl
theorem fiI_self {α : Type} {p : α → Bool} {xs : List α} {k : Nat} (h : k < xs.length) (hp : p xs[k] = true) : (fiI p xs == (k : Int)) = (xs.take k).all (fun y => !p y) := by
  by_cases ha : (xs.take k).all (fun y => !p y) = true
  · rw [ha, beq_iff_eq]
    refine fiI_at h (fun j hj hjk => ?_) hp
    have := List.all_eq_true.1 ha xs[j] (by rw [List.mem_take_iff_getElem]; exact ⟨j, by omega, rfl⟩)
    simpa using this
  · rw [Bool.not_eq_true] at ha
    rw [ha, beq_eq_false_iff_ne]
    intro e
    obtain ⟨_, _, h3⟩ := fiI_spec e
    obtain ⟨x, hx, hpx⟩ := List.all_eq_false.1 ha
    rw [List.mem_take_iff_getElem] at hx
    obtain ⟨j, hj, rfl⟩ := hx
    rw [h3 j (by omega) (by omega)] at hpx
    simp at hpx

/-- The order for a code. -/
def fwdI (fs : List Fwd) (c : ByteArray) : Int := fiI (fun x => sEq x.src c) fs
def fwdTo (fs : List Fwd) (c : ByteArray) : ByteArray := ((fs[(fwdI fs c).toNat]?).map Fwd.dst).getD ⟨#[]⟩
/-- Orders followed: where letters arrive, behind how many orders, whether. -/
def followN (fs : List Fwd) : Nat → ByteArray → Nat → ByteArray × Nat × Bool
  | 0, _, _ => (⟨#[]⟩, 0, false)
  | f + 1, c, n => if fwdI fs c < 0 then (c, n, true) else followN fs f (fwdTo fs c) (n + 1)
def follow (fs : List Fwd) (c : ByteArray) : ByteArray × Nat × Bool := followN fs (fs.length + 1) c 0
theorem fwdTo_at {fs : List Fwd} {c : ByteArray} {k : Nat} (h : fwdI fs c = k) (hk : k < fs.length) : fwdTo fs c = fs[k].dst := by
  unfold fwdTo; rw [h, Int.toNat_natCast, List.getElem?_eq_getElem hk]; rfl
theorem followN_size {fs : List Fwd} (hf : ∀ x ∈ fs, x.dst.size ≤ maxLen) : ∀ (f : Nat) (c : ByteArray) (n : Nat), c.size ≤ maxLen → (followN fs f c n).1.size ≤ maxLen ∧ (followN fs f c n).2.1 ≤ n + f
  | 0, c, n, _ => ⟨Nat.zero_le _, Nat.zero_le _⟩
  | f + 1, c, n, hc => by
    unfold followN
    split
    · exact ⟨hc, by simp⟩
    · have h := followN_size hf f (fwdTo fs c) (n + 1) (by
        unfold fwdTo
        cases hx : fs[(fwdI fs c).toNat]? with
        | none => exact Nat.zero_le _
        | some x => exact hf x (List.mem_of_getElem? hx))
      exact ⟨h.1, by omega⟩

def goodF (fs : List Fwd) (k : Nat) : Bool :=
  match fs[k]? with
  | none => false
  | some x => isCode x.src && isCode x.dst && (fs.take k).all (fun y => !sEq y.src x.src)
def fwdsOk (fs : List Fwd) : Bool := decide (fs.length ≤ 30) && (List.range fs.length).all (goodF fs)
theorem goodF_of {fs : List Fwd} {k : Nat} (hk : k < fs.length) : goodF fs k = (isCode fs[k].src && isCode fs[k].dst && (fs.take k).all (fun y => !sEq y.src fs[k].src)) := by
  unfold goodF; rw [List.getElem?_eq_getElem hk]
theorem fwdsOk_bad {fs : List Fwd} {k : Nat} (hk : k < fs.length) (h : goodF fs k = false) : fwdsOk fs = false := by
  unfold fwdsOk
  rw [Bool.and_eq_false_iff]
  exact .inr (List.all_eq_false.2 ⟨k, by simpa using hk, by simp [h]⟩)
theorem fwdsOk_good {fs : List Fwd} (h30 : fs.length ≤ 30) (h : ∀ j, j < fs.length → goodF fs j = true) : fwdsOk fs = true := by
  unfold fwdsOk
  rw [decide_eq_true h30]
  exact List.all_eq_true.2 fun k hk => h k (by simpa using hk)
theorem fwdsOk_len {fs : List Fwd} (h : ¬ fs.length ≤ 30) : fwdsOk fs = false := by unfold fwdsOk; rw [decide_eq_false h]; rfl
theorem fwdsOk_iff {fs : List Fwd} : fwdsOk fs = true ↔ fs.length ≤ 30 ∧ ∀ k (h : k < fs.length), isCode fs[k].src = true ∧ isCode fs[k].dst = true ∧ ∀ j (hj : j < k), fs[j].src ≠ fs[k].src := by
  unfold fwdsOk
  rw [Bool.and_eq_true, decide_eq_true_iff, List.all_eq_true]
  refine and_congr Iff.rfl ⟨fun h k hk => ?_, fun h k hk => ?_⟩
  · have := h k (by simpa using hk)
    rw [goodF_of hk] at this
    simp only [Bool.and_eq_true] at this
    refine ⟨this.1.1, this.1.2, fun j hj => ?_⟩
    have hh := List.all_eq_true.1 this.2 fs[j] (by rw [List.mem_take_iff_getElem]; exact ⟨j, by omega, rfl⟩)
    simp only [Bool.not_eq_true'] at hh
    exact sEq_false.1 hh
  · have hk' : k < fs.length := by simpa using hk
    obtain ⟨h1, h2, h3⟩ := h k hk'
    rw [goodF_of hk']
    simp only [Bool.and_eq_true]
    refine ⟨⟨h1, h2⟩, List.all_eq_true.2 fun y hy => ?_⟩
    rw [List.mem_take_iff_getElem] at hy
    obtain ⟨j, hj, rfl⟩ := hy
    simp only [Bool.not_eq_true']
    exact sEq_false.2 (h3 j (by omega))
/-- Held codes. -/
def heldOk (hs : List ByteArray) : Bool := decide (hs.length ≤ 30) && hs.all isCode
def sizeOk (n : Int) : Bool := decide (1 ≤ n) && decide (n ≤ 20)
structure Dy where
  plan : Pln
  fwds : List Fwd
  held : List ByteArray
  size : Int
def dayOk (d : Dy) : Bool := planOk d.plan && fwdsOk d.fwds && heldOk d.held && sizeOk d.size
/-- What becomes of letters for a code. -/
def fateW (n : Nat) : ByteArray := match n with
  | 0 => ⟨#[]⟩
  | 1 => ⟨#[115, 116, 117, 99, 107]⟩
  | 2 => ⟨#[104, 101, 108, 100]⟩
  | 3 => ⟨#[114, 111, 117, 110, 100]⟩
  | _ => ⟨#[115, 116, 114, 97, 110, 103, 101]⟩
def fate (d : Dy) (c : ByteArray) : ByteArray × ByteArray :=
  if dayOk d && isCode c then
    if (follow d.fwds c).2.2 = true then
      if 0 ≤ rkI d.held (follow d.fwds c).1 then ((follow d.fwds c).1, fateW 2)
      else if 0 ≤ rkI d.plan.order (follow d.fwds c).1 then ((follow d.fwds c).1, fateW 3)
      else ((follow d.fwds c).1, fateW 4)
    else (c, fateW 1)
  else (⟨#[]⟩, ⟨#[]⟩)

def rdD (w : World) (B : Nat) (v : Value) (d : Dy) : Prop :=
  ∃ vo vf vh, v = .agg #[.int .i64 d.plan.bins, .int .i64 d.plan.passes, vo, vf, vh, .int .i64 d.size] ∧ isI64 d.plan.bins ∧ isI64 d.plan.passes ∧ isI64 d.size ∧ rd w B vo d.plan.order ∧ rd w B vf d.fwds ∧ rd w B vh d.held
theorem rdD.below {w w' : World} {B : Nat} {v : Value} {d : Dy} (h : rdD w B v d) (hb : Below B w w') : rdD w' B v d := by
  obtain ⟨vo, vf, vh, h1, h2, h3, h4, h5, h6, h7⟩ := h
  exact ⟨vo, vf, vh, h1, h2, h3, h4, h5.below hb, h6.below hb, h7.below hb⟩
theorem rdD.more {w : World} {B B' : Nat} {v : Value} {d : Dy} (h : rdD w B v d) (hB : B ≤ B') : rdD w B' v d := by
  obtain ⟨vo, vf, vh, h1, h2, h3, h4, h5, h6, h7⟩ := h
  exact ⟨vo, vf, vh, h1, h2, h3, h4, h5.more hB, h6.more hB, h7.more hB⟩
theorem rdD.on {w w' : World} {v : Value} {d : Dy} (h : rdD w w.heap.size v d) (hb : Below w.heap.size w w') : rdD w' w'.heap.size v d := (h.below hb).more hb.size
theorem openD {w : World} {B : Nat} {v : Value} {d : Dy} (h : rdD w B v d) : ∃ A0 c0 A1 c1 A2 c2, v = .agg #[.int .i64 d.plan.bins, .int .i64 d.plan.passes, .slice A0 d.plan.order.length c0, .slice A1 d.fwds.length c1, .slice A2 d.held.length c2, .int .i64 d.size] := by
  obtain ⟨vo, vf, vh, rfl, _, _, _, ⟨A, n, c, rfl, rfl, _⟩, ⟨A', n', c', rfl, rfl, _⟩, ⟨A'', n'', c'', rfl, rfl, _⟩⟩ := h
  exact ⟨A, c, A', c', A'', c'', rfl⟩
/-- The parts of a day whose value is written out. -/
theorem partsD {w : World} {B : Nat} {d : Dy} {A0 A1 A2 : Option Addr} {c0 c1 c2 : Nat} (h : rdD w B (.agg #[.int .i64 d.plan.bins, .int .i64 d.plan.passes, .slice A0 d.plan.order.length c0, .slice A1 d.fwds.length c1, .slice A2 d.held.length c2, .int .i64 d.size]) d) :
    rdP w B (.agg #[.int .i64 d.plan.bins, .int .i64 d.plan.passes, .slice A0 d.plan.order.length c0]) d.plan ∧ rd w B (.slice A0 d.plan.order.length c0) d.plan.order ∧ rd w B (.slice A1 d.fwds.length c1) d.fwds ∧ rd w B (.slice A2 d.held.length c2) d.held ∧ isI64 d.size := by
  obtain ⟨vo, vf, vh, h1, h2, h3, h4, h5, h6, h7⟩ := h
  injection h1 with h1
  injection h1 with h1
  simp only [List.cons.injEq, and_true, true_and] at h1
  obtain ⟨rfl, rfl, rfl⟩ := h1
  exact ⟨⟨_, rfl, h2, h3, h5⟩, h5, h6, h7, h4⟩
def ownD (T1 T2 base : Nat) (w : World) (v : Value) (d : Dy) : Prop :=
  ∃ vo vf vh, v = .agg #[.int .i64 d.plan.bins, .int .i64 d.plan.passes, vo, vf, vh, .int .i64 d.size] ∧ isI64 d.plan.bins ∧ isI64 d.plan.passes ∧ isI64 d.size ∧ own T1 base w vo d.plan.order ∧ own T2 base w vf d.fwds ∧ own T1 base w vh d.held ∧ (apart vo vf ∧ apart vo vh ∧ apart vf vh)
theorem ownD.rd {T1 T2 base : Nat} {w : World} {v : Value} {d : Dy} (h : ownD T1 T2 base w v d) : rdD w w.heap.size v d := by
  obtain ⟨vo, vf, vh, h1, h2, h3, h4, h5, h6, h7, _⟩ := h
  exact ⟨vo, vf, vh, h1, h2, h3, h4, h5.rd, h6.rd, h7.rd⟩
theorem ownD.below {T1 T2 base : Nat} {w w' : World} {v : Value} {d : Dy} (h : ownD T1 T2 base w v d) (hb : Below w.heap.size w w') : ownD T1 T2 base w' v d := by
  obtain ⟨vo, vf, vh, h1, h2, h3, h4, h5, h6, h7, h8⟩ := h
  exact ⟨vo, vf, vh, h1, h2, h3, h4, h5.below hb, h6.below hb, h7.below hb, h8⟩

end Go.Proofs.Ytmangjjaijhcnaa
