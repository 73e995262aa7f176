/- UD GR BM B1 -/
import Derived.Test.YtpinkbodbedajaaGreatDoorQ5
import Derived.Test.YtpinkbodbedajaaGreatDoorQ4
import Derived.Test.YtpinkbodbedajaaGreatDoorQ2
import Derived.Test.YtpinkbodbedajaaGreatDoorQ1
namespace Go.Proofs.YtpinkbodbedajaaGreatDoor
open Go.RowKit

def sumFw (fs : List Fwd) : Nat := (fs.map fun x => x.src.size + x.dst.size).sum
theorem sumFw_succ (xs : List Fwd) (k : Nat) (h : k < xs.length) : sumFw (xs.take (k + 1)) = sumFw (xs.take k) + (xs[k].src.size + xs[k].dst.size) := by
  unfold sumFw; rw [List.take_succ_eq_append_getElem h, List.map_append, List.sum_append]; simp
theorem sumFw_le (xs : List Fwd) (k : Nat) : sumFw (xs.take k) ≤ sumFw xs := by
  unfold sumFw
  conv => rhs; rw [← List.take_append_drop k xs, List.map_append, List.sum_append]
  omega


def szD (d : Dy) : Nat := szP d.plan + (d.fwds.length + sumFw d.fwds) + (d.held.length + sumStr d.held)




end Go.Proofs.YtpinkbodbedajaaGreatDoor

namespace Go.Proofs.YtpinkbodbedajaaGreatDoor
open Go.RowKit



theorem Tryz.infoRul : (Tryz.prog.info? 174).map (fun i => (i.zero, i.size, i.bytes)) = some (some (.agg #[.string ⟨#[]⟩, .string ⟨#[]⟩]), 2, 32) := by kernel_rfl







end Go.Proofs.YtpinkbodbedajaaGreatDoor

namespace Go.Proofs.YtpinkbodbedajaaGreatDoor
open Go.RowKit

/-- The bin of the last missort of a letter; b if there is none. -/
def misBin (ms : List Mis) (x : Ltr) (b : Int) : Int := ms.foldl (fun b m => if m.id = x.id then m.bin else b) b
def binsOf (f : Ltr → Int) (n : Nat) (xs : List Ltr) : List (List Ltr) := (List.range n).map fun (k : Nat) => xs.filter fun x => f x == (k : Int)
def restOf (f : Ltr → Int) (xs : List Ltr) : List Ltr := xs.filter fun x => decide (f x < 0)
theorem binsOf_len (f : Ltr → Int) (n : Nat) (xs : List Ltr) : (binsOf f n xs).length = n := by simp [binsOf]
theorem binsOf_get (f : Ltr → Int) (n : Nat) (xs : List Ltr) (k : Nat) (h : k < (binsOf f n xs).length) : (binsOf f n xs)[k] = xs.filter fun x => f x == (k : Int) := by simp [binsOf]
theorem binsOf_nil (f : Ltr → Int) (n : Nat) : binsOf f n [] = List.replicate n [] := by
  apply List.ext_getElem
  · simp [binsOf]
  · intro i h1 h2; simp [binsOf]
theorem binsOf_step {f : Ltr → Int} {n : Nat} {xs : List Ltr} {k d : Nat} (h : k < xs.length) (hf : f xs[k] = (d : Int)) (hd : d < (binsOf f n (xs.take k)).length) :
    binsOf f n (xs.take (k + 1)) = (binsOf f n (xs.take k)).set d ((binsOf f n (xs.take k))[d] ++ [xs[k]]) := by
  apply List.ext_getElem
  · simp [binsOf]
  · intro i h1 h2
    simp only [List.getElem_set, binsOf_get]
    rw [List.take_succ_eq_append_getElem h, List.filter_append]
    by_cases hi : d = i
    · subst hi
      rw [if_pos rfl]
      simp [hf]
    · rw [if_neg hi]
      have : (f xs[k] == (i : Int)) = false := beq_eq_false_iff_ne.2 (by omega)
      simp [this]
theorem binsOf_skip {f : Ltr → Int} {n : Nat} {xs : List Ltr} {k : Nat} (h : k < xs.length) (hf : f xs[k] < 0) : binsOf f n (xs.take (k + 1)) = binsOf f n (xs.take k) := by
  apply List.ext_getElem
  · simp [binsOf]
  · intro i h1 h2
    rw [binsOf_get, binsOf_get, List.take_succ_eq_append_getElem h, List.filter_append]
    have : (f xs[k] == (i : Int)) = false := beq_eq_false_iff_ne.2 (by omega)
    simp [this]
theorem restOf_step {f : Ltr → Int} {xs : List Ltr} {k : Nat} (h : k < xs.length) (hf : f xs[k] < 0) : restOf f (xs.take (k + 1)) = restOf f (xs.take k) ++ [xs[k]] := by
  unfold restOf
  rw [List.take_succ_eq_append_getElem h, List.filter_append]
  simp [hf]
theorem restOf_skip {f : Ltr → Int} {xs : List Ltr} {k : Nat} (h : k < xs.length) (hf : 0 ≤ f xs[k]) : restOf f (xs.take (k + 1)) = restOf f (xs.take k) := by
  unfold restOf
  rw [List.take_succ_eq_append_getElem h, List.filter_append]
  simp
  omega
theorem filter_len_le {α : Type} (p : α → Bool) (xs : List α) (k : Nat) : ((xs.take k).filter p).length ≤ k := by
  have h1 := List.length_filter_le p (xs.take k)
  have h2 := List.length_take_le k xs
  omega
theorem binI_neg {p : Pln} {c : ByteArray} {k : Nat} (h : rkI p.order c < 0) : binI p c k = -1 := by unfold binI; rw [if_pos h]
theorem binI_pos {p : Pln} {c : ByteArray} {k : Nat} (h : ¬ rkI p.order c < 0) : binI p c k = rkI p.order c / powI p.bins k % p.bins := by unfold binI; rw [if_neg h]
theorem binI_range (p : Pln) (c : ByteArray) (k : Nat) (hb : 2 ≤ p.bins) : -1 ≤ binI p c k ∧ binI p c k < p.bins := by
  unfold binI
  split
  · omega
  · have h1 := Int.emod_nonneg (rkI p.order c / powI p.bins k) (show p.bins ≠ 0 by omega)
    have h2 := Int.emod_lt_of_pos (rkI p.order c / powI p.bins k) (show 0 < p.bins by omega)
    omega
theorem misBin_range {ms : List Mis} {n : Int} (h : ∀ m ∈ ms, 0 ≤ m.bin ∧ m.bin < n) (x : Ltr) : ∀ b, -1 ≤ b ∧ b < n → -1 ≤ misBin ms x b ∧ misBin ms x b < n := by
  unfold misBin
  induction ms with
  | nil => intro b hb; exact hb
  | cons m ms ih =>
    intro b hb
    simp only [List.foldl_cons]
    refine ih (fun m' hm' => h m' (List.mem_cons_of_mem _ hm')) _ ?_
    split
    · have := h m (List.mem_cons_self ..); omega
    · exact hb
theorem misBin_take {ms : List Mis} {k : Nat} (h : k < ms.length) (x : Ltr) (b : Int) : misBin (ms.take (k + 1)) x b = if ms[k].id = x.id then ms[k].bin else misBin (ms.take k) x b := by
  unfold misBin
  rw [List.take_succ_eq_append_getElem h, List.foldl_append]; rfl
/-- One pass. -/
def pass1 (p : Pln) (k : Nat) (xs : List Ltr) : List Ltr := (binsOf (fun x => binI p x.code k) p.bins.toNat xs).flatten
/-- The passes from k on, n of them. -/
def passesN (p : Pln) : Nat → Nat → List Ltr → List Ltr
  | _, 0, xs => xs
  | k, n + 1, xs => passesN p (k + 1) n (pass1 p k xs)
theorem passesN_succ (p : Pln) : ∀ (n k : Nat) (xs : List Ltr), passesN p k (n + 1) xs = pass1 p (k + n) (passesN p k n xs)
  | 0, k, xs => rfl
  | n + 1, k, xs => by
    show passesN p (k + 1) (n + 1) (pass1 p k xs) = pass1 p (k + (n + 1)) (passesN p (k + 1) n (pass1 p k xs))
    rw [passesN_succ p n (k + 1), show k + 1 + n = k + (n + 1) by omega]
/-- What falls out. -/
def outN (p : Pln) : Nat → Nat → List Ltr → List Ltr
  | _, 0, _ => []
  | k, n + 1, xs => restOf (fun x => binI p x.code k) xs ++ outN p (k + 1) n (pass1 p k xs)
theorem outN_succ (p : Pln) : ∀ (n k : Nat) (xs : List Ltr), outN p k (n + 1) xs = outN p k n xs ++ restOf (fun x => binI p x.code (k + n)) (passesN p k n xs)
  | 0, k, xs => by show restOf _ xs ++ [] = [] ++ restOf _ xs; simp
  | n + 1, k, xs => by
    show restOf _ xs ++ outN p (k + 1) (n + 1) (pass1 p k xs) = (restOf _ xs ++ outN p (k + 1) n (pass1 p k xs)) ++ restOf (fun x => binI p x.code (k + (n + 1))) (passesN p (k + 1) n (pass1 p k xs))
    rw [outN_succ p n (k + 1), show k + 1 + n = k + (n + 1) by omega, List.append_assoc]
theorem binsOf_mem {f : Ltr → Int} {n : Nat} {xs : List Ltr} {x : Ltr} : x ∈ (binsOf f n xs).flatten ↔ x ∈ xs ∧ 0 ≤ f x ∧ f x < n := by
  simp only [binsOf, List.mem_flatten, List.mem_map, List.mem_range]
  constructor
  · rintro ⟨l, ⟨k, hk, rfl⟩, hx⟩
    simp only [List.mem_filter, beq_iff_eq] at hx
    exact ⟨hx.1, by omega, by omega⟩
  · rintro ⟨h1, h2, h3⟩
    obtain ⟨k, hk⟩ := Int.eq_ofNat_of_zero_le h2
    exact ⟨_, ⟨k, by omega, rfl⟩, by simp [h1, hk]⟩
theorem binI_rank {p : Pln} {c : ByteArray} {k : Nat} (hb : 2 ≤ p.bins) : binI p c k < 0 ↔ rkI p.order c < 0 := by
  unfold binI
  split
  · rename_i h; simp [h]
  · rename_i h
    have h1 := Int.emod_nonneg (rkI p.order c / powI p.bins k) (show p.bins ≠ 0 by omega)
    omega
theorem flatten_length_binsOf {f : Ltr → Int} {n : Nat} (xs : List Ltr) : (binsOf f n xs).flatten.length ≤ xs.length := by
  induction xs with
  | nil => rw [binsOf_nil]; simp
  | cons x xs ih =>
    have key : ∀ m, ((List.range m).map fun (k : Nat) => ((x :: xs).filter fun y => f y == (k : Int))).flatten.length = ((List.range m).map fun (k : Nat) => (xs.filter fun y => f y == (k : Int))).flatten.length + (if 0 ≤ f x ∧ f x < m then 1 else 0) := fun m => by
      induction m with
      | zero => simp
      | succ m ihm =>
        rw [List.range_succ, List.map_append, List.map_append, List.flatten_append, List.flatten_append, List.length_append, List.length_append, ihm]
        simp only [List.map_cons, List.map_nil, List.flatten_cons, List.flatten_nil, List.append_nil, List.filter_cons]
        by_cases h : f x = (m : Int)
        · simp only [h, beq_self_eq_true, if_true, List.length_cons]
          rw [if_neg (by omega), if_pos (by omega)]; omega
        · have hb : (f x == (m : Int)) = false := beq_eq_false_iff_ne.2 h
          simp only [hb, Bool.false_eq_true, if_false]
          by_cases h2 : 0 ≤ f x ∧ f x < m
          · rw [if_pos h2, if_pos (by omega)]; omega
          · rw [if_neg h2, if_neg (by omega)]; omega
    unfold binsOf at *
    rw [key n, List.length_cons]
    split <;> omega
theorem pass1_len (p : Pln) (k : Nat) (xs : List Ltr) : (pass1 p k xs).length ≤ xs.length := flatten_length_binsOf xs
theorem passesN_len (p : Pln) : ∀ (n k : Nat) (xs : List Ltr), (passesN p k n xs).length ≤ xs.length
  | 0, _, _ => Nat.le_refl _
  | n + 1, k, xs => Nat.le_trans (passesN_len p n (k + 1) _) (pass1_len p k xs)
/-- Behind a pass all letters have a rank: none falls out any more. -/
theorem rest_after {p : Pln} (hb : 2 ≤ p.bins) (j k : Nat) (xs : List Ltr) : restOf (fun x => binI p x.code j) (pass1 p k xs) = [] := by
  unfold restOf
  rw [List.filter_eq_nil_iff]
  intro x hx
  have h := (binsOf_mem.1 hx).2.1
  have h2 := (binI_rank (p := p) (c := x.code) (k := j) hb)
  have h3 := (binI_rank (p := p) (c := x.code) (k := k) hb)
  simp only [decide_eq_true_eq]
  intro h4
  have := h3.2 (h2.1 h4)
  omega
theorem outN_first {p : Pln} (hb : 2 ≤ p.bins) (k n : Nat) (xs : List Ltr) : outN p k (n + 1) xs = restOf (fun x => binI p x.code k) xs := by
  have h : ∀ (n j k : Nat) (ys : List Ltr), outN p j n (pass1 p k ys) = [] := by
    intro n
    induction n with
    | zero => intro j k ys; rfl
    | succ n ih =>
      intro j k ys
      show restOf _ (pass1 p k ys) ++ outN p (j + 1) n (pass1 p j (pass1 p k ys)) = []
      rw [rest_after hb, ih]; rfl
  show restOf _ xs ++ outN p (k + 1) n (pass1 p k xs) = _
  rw [h, List.append_nil]
def passOk (p : Pln) (k : Int) : Bool := planOk p && (decide (0 ≤ k) && decide (k < p.passes))
theorem passOk_iff {p : Pln} {k : Int} : passOk p k = true ↔ planOk p = true ∧ 0 ≤ k ∧ k < p.passes := by
  unfold passOk; simp only [Bool.and_eq_true, decide_eq_true_iff]
theorem planOk_bins {p : Pln} (h : planOk p = true) : 2 ≤ p.bins ∧ p.bins ≤ 16 ∧ 1 ≤ p.passes ∧ p.passes ≤ 4 ∧ p.order.length ≤ 60 := by
  unfold planOk shapeOk at h
  simp only [Bool.and_eq_true, decide_eq_true_iff] at h
  omega

end Go.Proofs.YtpinkbodbedajaaGreatDoor

namespace Go.Proofs.YtpinkbodbedajaaGreatDoor
open Go.RowKit

set_option maxHeartbeats 400000 in
theorem impl_BatchValid (v : Value) (xs : List Ltr) (w : World) (hv : rd w w.heap.size v xs) :
    Calls Tryz.prog 48 #[v] w fun e w' => e = .returned (.bool (okB xs)) ∧ Below w.heap.size w w' := by
  obtain ⟨A, n, c, rfl, hn, hc, hm, hr⟩ := hv
  subst hn
  unfold maxLen at hm
  have HR := Lib.hid hr; clear hr
  go_enter Tryz.func48, Tryz.ntmps48
  by_cases h60 : 60 < xs.length
  · go_wp2
    go_ret
    exact ⟨ret_bool (by unfold okB; simp; omega), Below.refl _ _⟩
  · go_wp2
    go_loopw [12] (fun i wr => ∃ k : Nat, k ≤ xs.length ∧ i = .int .i64 k ∧ Below w.heap.size w wr ∧ Hid (∀ j, j < k → goodL xs j = true)) (fun i _ => xs.length - (intOf i).toNat)
    case atStart => exact ⟨0, Nat.zero_le _, rfl, Below.refl _ _, fun j hj => absurd hj (Nat.not_lt_zero j)⟩
    case round =>
      obtain ⟨k, hk, rfl, hbl, HG⟩ := hrel
      obtain ⟨w1, rfl⟩ : ∃ w1 : World, w1 = wr := ⟨_, rfl⟩
      have hsz := hbl.size
      by_cases hlt : k < xs.length
      · obtain ⟨b, o, rfl, hb, ⟨⟨o1, o2⟩, o3⟩, c1, c2⟩ := HR.out.ltr k hlt
        have hG := Lib.hid (goodL_of hlt)
        have hbad := Lib.hid (fun h => okB_bad hlt h)
        have HX : Hid (∀ j (h : j < k), xs[j] = xs[j]'(by omega)) := fun _ _ => rfl
        have HT : Hid (xs.take k = xs.take k) := rfl
        generalize hx : xs[k] = x at *
        have HXK := Lib.hid hx; clear hx
        have c1' : w1.cell? ⟨b, o + k * 2, none⟩ = some (.int .i64 x.id) := (hbl.cell (p := ⟨b, o + k * 2, none⟩) hb).trans c1
        have c2' : w1.cell? ⟨b, o + k * 2 + 1, none⟩ = some (.string x.code) := (hbl.cell (p := ⟨b, o + k * 2 + 1, none⟩) hb).trans c2
        clear c1 c2
        by_cases h1 : x.id < 1
        · go_wp2
          go_ret
          exact ⟨ret_bool (hbad.out (by rw [hG.out]; simp; omega)).symm, hbl.alloc hsz _⟩
        by_cases h2 : 9999 < x.id
        · go_wp2
          go_ret
          exact ⟨ret_bool (hbad.out (by rw [hG.out]; simp; omega)).symm, hbl.alloc hsz _⟩
        cases hcd : isCode x.code
        · have hcd' := Lib.hid hcd; clear hcd
          go_wp2_with (go_at_call 75; refine (impl_CodeValid _ _ o3).mono ?_; rw [hcd'.out]; rintro e w' ⟨rfl, rfl⟩)
          go_ret
          exact ⟨ret_bool (hbad.out (by rw [hG.out, hcd'.out]; simp)).symm, hbl.alloc hsz _⟩
        · have hcd' := Lib.hid hcd; clear hcd
          go_wp2_with (go_at_call 75; refine (impl_CodeValid _ _ o3).mono ?_; rw [hcd'.out]; rintro e w' ⟨rfl, rfl⟩)
          obtain ⟨wo, hwo⟩ : ∃ wo : World, wo = w1.alloc (Obj.cells #[Value.int IntKind.i64 x.id, Value.string x.code] 89) := ⟨_, rfl⟩
          have g1 : wo.cell? ⟨w1.heap.size, 0, none⟩ = some (.int .i64 x.id) := by subst hwo; simp [go_sem]
          have hwz : wo.heap.size = w1.heap.size + 1 := by subst hwo; simp
          have hbo : Below w.heap.size w wo := by subst hwo; exact hbl.alloc hsz _
          rw [← hwo]
          have HZ := Lib.hid hwz
          have hwz2 : w1.heap.size < wo.heap.size := by omega
          clear hwo hwz
          go_loopw [35] (fun i wi => ∃ m : Nat, m ≤ k ∧ i = .int .i64 m ∧ Below wo.heap.size wo wi ∧ Hid ((xs.take m).all (fun y => y.id != x.id) = true)) (fun i _ => k - (intOf i).toNat)
          case atStart => exact ⟨0, Nat.zero_le _, rfl, Below.refl _ _, rfl⟩
          case round =>
            obtain ⟨m, hm, rfl, hbi, HA⟩ := hrel
            have hsi := hbi.size
            have hw2 := hbo.size
            have hw3 : w1.heap.size < wr.heap.size := by omega
            have hbw : Below w.heap.size w wr := hbo.trans (hbi.mono hw2)
            have g1' : wr.cell? ⟨w1.heap.size, 0, none⟩ = some (.int .i64 x.id) := (hbi.cell (p := ⟨w1.heap.size, 0, none⟩) hwz2).trans g1
            clear g1
            by_cases hmk : m < k
            · obtain ⟨b', o', hA, _, ⟨⟨p1, p2⟩, p3⟩, d1, d2⟩ := HR.out.ltr m (by omega)
              have hT := Lib.hid (take_all_succ (p := fun y : Ltr => y.id != x.id) xs m (by omega))
              have hI := Lib.hid (take_all_bad (p := fun y : Ltr => y.id != x.id) xs m k (by omega) hmk)
              generalize xs[m] = y at *
              injection hA with hA
              injection hA with hA1 hA2
              subst hA1 hA2
              have d1' : wr.cell? ⟨b, o + m * 2, none⟩ = some (.int .i64 y.id) := (hbw.cell (p := ⟨b, o + m * 2, none⟩) hb).trans d1
              have d2' : wr.cell? ⟨b, o + m * 2 + 1, none⟩ = some (.string y.code) := (hbw.cell (p := ⟨b, o + m * 2 + 1, none⟩) hb).trans d2
              clear d1 d2
              by_cases hyx : y.id = x.id
              · have hyx' : (y.id == x.id) = true := by simpa using hyx
                have HY := Lib.hid hyx; clear hyx
                go_wp2
                go_ret
                exact ⟨ret_bool (hbad.out (by rw [hG.out, hI.out (by simp [HY.out])]; simp)).symm, hbw.alloc (by omega) _⟩
              · have hyx' : (y.id == x.id) = false := by simpa using hyx
                have HY := Lib.hid hyx; clear hyx
                go_wp2
                go_roundw
                case rel => exact ⟨m + 1, by omega, by go_num, hbi.alloc hsi _, by show _ = true; rw [hT.out, HA.out]; simpa using HY.out⟩
                case measure => simp [intOf]; omega
            · have hme : m = k := by omega
              have HE := Lib.hid hme; clear hme
              go_wp2
              go_roundw
              case rel =>
                refine ⟨k + 1, by omega, by go_num, hbw, fun j hj => ?_⟩
                by_cases hjk : j < k
                · exact HG.out j hjk
                · obtain rfl : j = k := by omega
                  rw [hG.out, hcd'.out, ← HE.out, HA.out]; simp; omega
              case measure => simp [intOf]; omega
      · have hke : k = xs.length := by omega
        have HE := Lib.hid hke; clear hke
        go_wp2
        go_ret
        exact ⟨ret_bool (okB_good (by omega) (by rw [← HE.out]; exact HG.out)).symm, hbl⟩

set_option maxHeartbeats 400000 in
theorem spec_BatchValid (v : Value) (xs : List Ltr) (w : World) (hv : rd w w.heap.size v xs) :
    Calls Tryz.prog 52 #[v] w fun e w' => e = .returned (.bool (okB xs)) ∧ Below w.heap.size w w' := by
  obtain ⟨A, n, c, rfl, hn, hc, hm, hr⟩ := hv
  subst hn
  unfold maxLen at hm
  have HR := Lib.hid hr; clear hr
  go_enter Tryz.func52, Tryz.ntmps52
  go_wp2
  go_loopw [3] (fun i wr => ∃ k : Nat, k ≤ xs.length ∧ i = .int .i64 k ∧ Below w.heap.size w wr ∧ Hid (∀ j, j < k → goodL xs j = true)) (fun i _ => xs.length - (intOf i).toNat)
  case atStart => exact ⟨0, Nat.zero_le _, rfl, Below.refl _ _, fun j hj => absurd hj (Nat.not_lt_zero j)⟩
  case round =>
    obtain ⟨k, hk, rfl, hbl, HG⟩ := hrel
    obtain ⟨w1, rfl⟩ : ∃ w1 : World, w1 = wr := ⟨_, rfl⟩
    have hsz := hbl.size
    by_cases hlt : k < xs.length
    · obtain ⟨b, o, rfl, hb, ⟨⟨o1, o2⟩, o3⟩, c1, c2⟩ := HR.out.ltr k hlt
      have hG := Lib.hid (goodL_of hlt)
      have hbad := Lib.hid (fun h => okB_bad hlt h)
      generalize hx : xs[k] = x at *
      have HXK := Lib.hid hx; clear hx
      have c1' : w1.cell? ⟨b, o + k * 2, none⟩ = some (.int .i64 x.id) := (hbl.cell (p := ⟨b, o + k * 2, none⟩) hb).trans c1
      have c2' : w1.cell? ⟨b, o + k * 2 + 1, none⟩ = some (.string x.code) := (hbl.cell (p := ⟨b, o + k * 2 + 1, none⟩) hb).trans c2
      cases hcd : isCode x.code
      · have hcd' := Lib.hid hcd; clear hcd
        go_wp2_with (go_at_call 88; refine (spec_CodeValid _ _ o3).mono ?_; rw [hcd'.out]; rintro e w' ⟨rfl, rfl⟩)
        go_ret
        exact ⟨ret_bool (hbad.out (by rw [hG.out, hcd'.out]; simp)).symm, hbl⟩
      have hcd' := Lib.hid hcd; clear hcd
      cases hid : (decide (1 ≤ x.id) && decide (x.id ≤ 9999))
      · have hid' := Lib.hid hid; clear hid
        go_wp2_with (first | (go_at_call 88; refine (spec_CodeValid _ _ o3).mono ?_; rw [hcd'.out]; rintro e w' ⟨rfl, rfl⟩) | (go_at_call 115; refine (spec_l1In _ _ _ _).mono ?_; rw [hid'.out]; rintro e w' ⟨rfl, rfl⟩))
        go_ret
        exact ⟨ret_bool (hbad.out (by rw [hG.out, hid'.out]; simp)).symm, hbl⟩
      have hid' := Lib.hid hid; clear hid
      go_wp2_with (first | (go_at_call 88; refine (spec_CodeValid _ _ o3).mono ?_; rw [hcd'.out]; rintro e w' ⟨rfl, rfl⟩) | (go_at_call 115; refine (spec_l1In _ _ _ _).mono ?_; rw [hid'.out]; rintro e w' ⟨rfl, rfl⟩))
      go_loopw [4] (fun i wr => ∃ m : Nat, m ≤ k ∧ i = .int .i64 m ∧ Below w.heap.size w wr ∧ Hid ((xs.take m).all (fun y => y.id != x.id) = true)) (fun i _ => k - (intOf i).toNat)
      case atStart => exact ⟨0, Nat.zero_le _, rfl, hbl, rfl⟩
      case round =>
        obtain ⟨m, hm', rfl, hbw, HA⟩ := hrel
        have hsi := hbw.size
        clear c1' c2'
        have c1' : wr.cell? ⟨b, o + k * 2, none⟩ = some (.int .i64 x.id) := (hbw.cell (p := ⟨b, o + k * 2, none⟩) hb).trans c1
        by_cases hmk : m < k
        · obtain ⟨b', o', hA, _, _, d1, d2⟩ := HR.out.ltr m (by omega)
          have hT := Lib.hid (take_all_succ (p := fun y : Ltr => y.id != x.id) xs m (by omega))
          have hI := Lib.hid (take_all_bad (p := fun y : Ltr => y.id != x.id) xs m k (by omega) hmk)
          generalize xs[m] = y at *
          injection hA with hA
          injection hA with hA1 hA2
          subst hA1 hA2
          have d1' : wr.cell? ⟨b, o + m * 2, none⟩ = some (.int .i64 y.id) := (hbw.cell (p := ⟨b, o + m * 2, none⟩) hb).trans d1
          clear d1 d2 c1 c2
          have hml : (m : Int) < (xs.length : Int) := by omega
          have hkl : (k : Int) < (xs.length : Int) := by omega
          by_cases hyx : y.id = x.id
          · have hyx' : (y.id == x.id) = true := by simpa using hyx
            have HY := Lib.hid hyx; clear hyx
            go_wp2
            go_quiet (fail)
            go_wp2
            go_ret
            exact ⟨ret_bool (hbad.out (by rw [hG.out, hI.out (by simp [HY.out])]; simp)).symm, below_drewN hbw _⟩
          · have hyx' : (y.id == x.id) = false := by simpa using hyx
            have HY := Lib.hid hyx; clear hyx
            go_wp2
            go_quiet (fail)
            go_wp2
            go_roundw
            case rel => exact ⟨m + 1, by omega, by go_num, below_drewN hbw _, by show _ = true; rw [hT.out, HA.out]; simpa using HY.out⟩
            case measure => simp [intOf]; omega
        · have hme : m = k := by omega
          have HE := Lib.hid hme; clear hme
          go_wp2
          go_roundw
          case rel =>
            refine ⟨k + 1, by omega, by go_num, hbw, fun j hj => ?_⟩
            by_cases hjk : j < k
            · exact HG.out j hjk
            · obtain rfl : j = k := by omega
              rw [hG.out, hcd'.out, ← HE.out, HA.out, hid'.out]; rfl
          case measure => simp [intOf]; omega
    · have hke : k = xs.length := by omega
      have HE := Lib.hid hke; clear hke
      go_wp2
      go_ret
      exact ⟨ret_bool (by
        by_cases h60 : xs.length ≤ 60
        · rw [okB_good h60 (by rw [← HE.out]; exact HG.out), decide_eq_true (by omega)]
        · rw [decide_eq_false (by omega)]; unfold okB; rw [decide_eq_false h60]; rfl), hbl⟩

end Go.Proofs.YtpinkbodbedajaaGreatDoor
