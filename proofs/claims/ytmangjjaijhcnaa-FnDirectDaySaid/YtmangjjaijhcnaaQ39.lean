/- M1 M2 N1 ST PD1 -/
import Derived.Test.YtmangjjaijhcnaaQ2
import Derived.Test.YtmangjjaijhcnaaQ3
import Derived.Test.YtmangjjaijhcnaaQ37
import Derived.Test.YtmangjjaijhcnaaQ4
import Derived.StillTailTactics
import Derived.Deep.RegionHeld3
import Derived.Shelf.SlSortCmp.InsertionK
import Derived.Lib.SortBridge
import Derived.Lib.Bytealg
import Derived.Test.YtmangjjaijhcnaaQ11
import Derived.Test.YtmangjjaijhcnaaQ38
import Derived.Test.YtmangjjaijhcnaaQ5
namespace Go.Proofs.Ytmangjjaijhcnaa
open Go.RowKit

def osStep (n : Int) (x : Ltr) : Int := (31 * n + x.id) % 9973
def sStep (n : Int) (x : Ltr) : Int := (n + x.id * x.id) % 9973
def osL (xs : List Ltr) : Int := xs.foldl osStep 0
def sL (xs : List Ltr) : Int := xs.foldl sStep 0
theorem fold_take {α β : Type} (f : β → α → β) (b : β) (xs : List α) (k : Nat) (h : k < xs.length) : (xs.take (k + 1)).foldl f b = f ((xs.take k).foldl f b) xs[k] := by
  rw [List.take_succ_eq_append_getElem h, List.foldl_append]; rfl
theorem okB_at {xs : List Ltr} (h : okB xs = true) (k : Nat) (hk : k < xs.length) : 1 ≤ xs[k].id ∧ xs[k].id ≤ 9999 := by
  have := (okB_iff.1 h).2 k hk
  exact ⟨this.1, this.2.1⟩
theorem sq_bound {a : Int} (h1 : 1 ≤ a) (h2 : a ≤ 9999) : 0 ≤ a * a ∧ a * a ≤ 99980001 :=
  ⟨Int.mul_nonneg (by omega) (by omega), by have := Int.mul_le_mul h2 h2 (by omega) (by omega); omega⟩

def orOf (b : Bool) (n : Int) : Int := if b then n else -1


set_option maxHeartbeats 400000 in
theorem impl_SealOf (v : Value) (xs : List Ltr) (w : World) (hv : rd w w.heap.size v xs) :
    Calls Try.prog 38 #[v] w fun e w' => e = .returned (.int .i64 (orOf (okB xs) (sL xs))) ∧ Below w.heap.size w w' := by
  have hv0 := hv
  obtain ⟨A, n, c, rfl, hn, hc, hm, hr⟩ := hv
  subst hn
  unfold maxLen at hm
  have HR := Lib.hid hr; clear hr
  go_enter Try.func38, Try.ntmps38
  go_wp2_with fail
  refine (impl_BatchValid _ _ _ hv0).mono ?_
  rintro e w0 ⟨rfl, hb0⟩
  clear hv0
  cases hok : okB xs
  · have HOK := Lib.hid hok; clear hok
    go_wp2
    go_ret
    exact ⟨ret_int (by rw [HOK.out]; rfl), hb0⟩
  · have HOK := Lib.hid hok; clear hok
    go_wp2
    go_loopw [3, 11] (fun t i wr => ∃ (k : Nat) (m : Int), k ≤ xs.length ∧ i = .int .i64 k ∧ t = .int .i64 m ∧ 0 ≤ m ∧ m < 9973 ∧ Hid (m = (xs.take k).foldl sStep 0) ∧ Below w.heap.size w wr) (fun _ i _ => xs.length - (intOf i).toNat)
    case atStart => exact ⟨0, 0, Nat.zero_le _, rfl, rfl, by omega, by omega, rfl, hb0⟩
    case round =>
      obtain ⟨k, m, hk, rfl, rfl, m0, m1, HM, hbl⟩ := hrel
      obtain ⟨w1, rfl⟩ : ∃ w1 : World, w1 = wr := ⟨_, rfl⟩
      have hbz := hbl.size
      clear hb0
      by_cases hlt : k < xs.length
      · obtain ⟨b, o, rfl, hb, _, c1, c2⟩ := HR.out.ltr k hlt
        obtain ⟨i1, i2⟩ := okB_at HOK.out k hlt
        obtain ⟨q1, q2⟩ := sq_bound i1 i2
        have HS := Lib.hid (fold_take sStep 0 xs k hlt)
        generalize xs[k] = x at *
        have c1' : w1.cell? ⟨b, o + k * 2, none⟩ = some (.int .i64 x.id) := (hbl.cell (p := ⟨b, o + k * 2, none⟩) hb).trans c1
        have c2' : w1.cell? ⟨b, o + k * 2 + 1, none⟩ = some (.string x.code) := (hbl.cell (p := ⟨b, o + k * 2 + 1, none⟩) hb).trans c2
        clear c1 c2
        go_wp2
        go_roundw
        case rel => exact ⟨k + 1, (m + x.id * x.id) % 9973, by omega, by go_num, rfl, by omega, by omega, by show _ = _; rw [HS.out, ← HM.out]; rfl, hbl.alloc hbz _⟩
        case measure => simp [intOf]; omega
      · have HE := Lib.hid (show k = xs.length by omega)
        go_wp2
        go_ret
        exact ⟨ret_int (by rw [HM.out, HE.out, List.take_length, HOK.out]; rfl), hbl⟩


set_option maxHeartbeats 400000 in
theorem spec_SealOf (v : Value) (xs : List Ltr) (w : World) (hv : rd w w.heap.size v xs) :
    Calls Try.prog 39 #[v] w fun e w' => e = .returned (.int .i64 (orOf (okB xs) (sL xs))) ∧ Below w.heap.size w w' := by
  have hv0 := hv
  obtain ⟨A, n, c, rfl, hn, hc, hm, hr⟩ := hv
  subst hn
  unfold maxLen at hm
  have HR := Lib.hid hr; clear hr
  go_enter Try.func39, Try.ntmps39
  go_wp2_with fail
  refine (spec_BatchValid _ _ _ hv0).mono ?_
  rintro e w0 ⟨rfl, hb0⟩
  clear hv0
  cases hok : okB xs
  · have HOK := Lib.hid hok; clear hok
    go_wp2
    go_ret
    exact ⟨ret_int (by rw [HOK.out]; rfl), hb0⟩
  · have HOK := Lib.hid hok; clear hok
    go_wp2
    go_loopw [3, 4] (fun t i wr => ∃ (k : Nat) (m : Int), k ≤ xs.length ∧ i = .int .i64 k ∧ t = .int .i64 m ∧ 0 ≤ m ∧ m < 9973 ∧ Hid (m = (xs.take k).foldl sStep 0) ∧ Below w.heap.size w wr) (fun _ i _ => xs.length - (intOf i).toNat)
    case atStart => exact ⟨0, 0, Nat.zero_le _, rfl, rfl, by omega, by omega, rfl, hb0⟩
    case round =>
      obtain ⟨k, m, hk, rfl, rfl, m0, m1, HM, hbl⟩ := hrel
      obtain ⟨w1, rfl⟩ : ∃ w1 : World, w1 = wr := ⟨_, rfl⟩
      have hbz := hbl.size
      clear hb0
      by_cases hlt : k < xs.length
      · obtain ⟨b, o, rfl, hb, _, c1, c2⟩ := HR.out.ltr k hlt
        obtain ⟨i1, i2⟩ := okB_at HOK.out k hlt
        obtain ⟨q1, q2⟩ := sq_bound i1 i2
        have HS := Lib.hid (fold_take sStep 0 xs k hlt)
        generalize xs[k] = x at *
        have c1' : w1.cell? ⟨b, o + k * 2, none⟩ = some (.int .i64 x.id) := (hbl.cell (p := ⟨b, o + k * 2, none⟩) hb).trans c1
        clear c1 c2
        have hkn : (k : Int) < (xs.length : Int) := by omega
        have hw1 : IntKind.i64.wrap (x.id * x.id) = x.id * x.id := IntWalk.i64_in _ (by omega)
        have hw2 : IntKind.i64.wrap (m + x.id * x.id) = m + x.id * x.id := IntWalk.i64_in _ (by omega)
        have hw3 : (m + x.id * x.id).tmod 9973 = (m + x.id * x.id) % 9973 := Int.tmod_eq_emod_of_nonneg (by omega)
        have hw4 : IntKind.i64.wrap ((m + x.id * x.id) % 9973) = (m + x.id * x.id) % 9973 := IntWalk.i64_in _ (by omega)
        go_wp2
        go_quiet (fail)
        clear hw1 hw2 hw3 hw4
        go_wp2
        go_roundw
        case rel => exact ⟨k + 1, (m + x.id * x.id) % 9973, by omega, by go_num, rfl, by omega, by omega, by show _ = _; rw [HS.out, ← HM.out]; rfl, below_drewN hbl _⟩
        case measure => simp [intOf]; omega
      · have HE := Lib.hid (show k = xs.length by omega)
        go_wp2
        go_ret
        exact ⟨ret_int (by rw [HM.out, HE.out, List.take_length, HOK.out]; rfl), hbl⟩

end Go.Proofs.Ytmangjjaijhcnaa

namespace Go.Proofs.Ytmangjjaijhcnaa
open Go.RowKit

/-- Every element whose index is a multiple of k + 1, behind n that are passed over. -/
def every (k : Nat) : List Ltr → Nat → List Ltr
  | [], _ => []
  | x :: xs, 0 => x :: every k xs k
  | _ :: xs, n + 1 => every k xs n
theorem every_drop (k : Nat) : ∀ (xs : List Ltr) (n : Nat), every k xs n = every k (xs.drop n) 0
  | [], n => by simp [every]
  | x :: xs, 0 => rfl
  | x :: xs, n + 1 => by simp [every, every_drop k xs n]
theorem every_step (k : Nat) (xs : List Ltr) (i : Nat) (h : i < xs.length) : every k (xs.drop i) 0 = xs[i] :: every k (xs.drop (i + (k + 1))) 0 := by
  rw [List.drop_eq_getElem_cons h, every, every_drop, List.drop_drop]
  rw [show i + 1 + k = i + (k + 1) by omega]
/-- What SampleLetters gives. -/
def smp (xs : List Ltr) (k : Int) : List Ltr := if okB xs && (decide (1 ≤ k) && decide (k ≤ 60)) then every (k.toNat - 1) xs 0 else []
def smpOk (xs : List Ltr) (k : Int) : Bool := okB xs && (decide (1 ≤ k) && decide (k ≤ 60))
theorem smp_yes {xs : List Ltr} {k : Nat} (h : okB xs = true) (h1 : 1 ≤ k) (h2 : k ≤ 60) : smp xs k = every (k - 1) xs 0 ∧ smpOk xs k = true := by
  have e1 : decide ((1 : Int) ≤ (k : Int)) = true := by simp; omega
  have e2 : decide ((k : Int) ≤ 60) = true := by simp; omega
  unfold smp smpOk
  rw [h, e1, e2]
  exact ⟨rfl, rfl⟩
theorem smp_no {xs : List Ltr} {k : Int} (h : okB xs = false ∨ k < 1 ∨ 60 < k) : smp xs k = [] ∧ smpOk xs k = false := by
  have e : (okB xs && (decide (1 ≤ k) && decide (k ≤ 60))) = false := by
    rcases h with h | h | h
    · rw [h]; rfl
    · rw [decide_eq_false (p := 1 ≤ k) (by omega)]; simp
    · rw [decide_eq_false (p := k ≤ 60) (by omega)]; simp
  unfold smp smpOk
  rw [e]
  exact ⟨rfl, rfl⟩
theorem okB_len {xs : List Ltr} (h : okB xs = true) : xs.length ≤ 60 := (okB_iff.1 h).1

end Go.Proofs.Ytmangjjaijhcnaa

namespace Go.Proofs.Ytmangjjaijhcnaa
open Go.RowKit

theorem os_inj {n m x : Int} (h0 : 0 ≤ n) (h1 : n < 9973) (k0 : 0 ≤ m) (k1 : m < 9973) (h : (31 * n + x) % 9973 = (31 * m + x) % 9973) : n = m := by omega
theorem os_range (xs : List Ltr) : ∀ n, 0 ≤ n → n < 9973 → 0 ≤ xs.foldl osStep n ∧ xs.foldl osStep n < 9973 := by
  induction xs with
  | nil => intro n h0 h1; exact ⟨h0, h1⟩
  | cons x xs ih => intro n _ _; exact ih _ (by unfold osStep; omega) (by unfold osStep; omega)
theorem os_fold_inj (xs : List Ltr) : ∀ n m, 0 ≤ n → n < 9973 → 0 ≤ m → m < 9973 → xs.foldl osStep n = xs.foldl osStep m → n = m := by
  induction xs with
  | nil => intro n m _ _ _ _ h; exact h
  | cons x xs ih =>
    intro n m h0 h1 k0 k1 h
    have := ih (osStep n x) (osStep m x) (by unfold osStep; omega) (by unfold osStep; omega) (by unfold osStep; omega) (by unfold osStep; omega) h
    exact os_inj h0 h1 k0 k1 this
/-- Two neighbours exchanged. -/
def swapAt (xs : List Ltr) (i : Nat) (h : i + 1 < xs.length) : List Ltr := (xs.set (i + 1) xs[i]).set i xs[i + 1]
theorem split_at (xs : List Ltr) (i : Nat) (h : i + 1 < xs.length) : xs = xs.take i ++ xs[i] :: xs[i + 1] :: xs.drop (i + 2) := by
  conv => lhs; rw [← List.take_append_drop i xs, List.drop_eq_getElem_cons (by omega), List.drop_eq_getElem_cons h]
theorem swap_at (xs : List Ltr) (i : Nat) (h : i + 1 < xs.length) : swapAt xs i h = xs.take i ++ xs[i + 1] :: xs[i] :: xs.drop (i + 2) := by
  unfold swapAt
  apply List.ext_getElem
  · simp; omega
  · intro k h1 h2
    have hk : k < xs.length := by simpa using h1
    by_cases e1 : k < i
    · rw [List.getElem_set_ne (by omega), List.getElem_set_ne (by omega), List.getElem_append_left (by simp; omega)]
      simp
    · by_cases e2 : k = i
      · subst e2
        rw [List.getElem_set_self, List.getElem_append_right (by simp; omega)]
        simp [List.length_take, Nat.min_eq_left (show k ≤ xs.length by omega)]
      · by_cases e3 : k = i + 1
        · subst e3
          rw [List.getElem_set_ne (by omega), List.getElem_set_self, List.getElem_append_right (by simp; omega)]
          simp [List.length_take, Nat.min_eq_left (show i ≤ xs.length by omega)]
        · rw [List.getElem_set_ne (by omega), List.getElem_set_ne (by omega), List.getElem_append_right (by simp; omega)]
          have hm : (xs.take i).length = i := by simp; omega
          have e : k - (xs.take i).length = (k - i - 2) + 2 := by rw [hm]; omega
          simp only [e, List.getElem_cons_succ, List.getElem_drop]
          congr 1
          omega
theorem okB_swap {xs : List Ltr} (i : Nat) (h : i + 1 < xs.length) (hok : okB xs = true) : okB (swapAt xs i h) = true := by
  obtain ⟨h1, h2⟩ := okB_iff.1 hok
  have hl : (swapAt xs i h).length = xs.length := by simp [swapAt]
  have hg : ∀ k (hk : k < (swapAt xs i h).length), ∃ (k' : Nat) (hk' : k' < xs.length), (swapAt xs i h)[k] = xs[k'] ∧ (k = i ∧ k' = i + 1 ∨ k = i + 1 ∧ k' = i ∨ k ≠ i ∧ k ≠ i + 1 ∧ k' = k) := fun k hk => by
    have hk0 : k < ((xs.set (i + 1) xs[i]).set i xs[i + 1]).length := hk
    change ∃ (k' : Nat) (hk' : k' < xs.length), ((xs.set (i + 1) xs[i]).set i xs[i + 1])[k] = xs[k'] ∧ _
    clear hk
    by_cases e2 : k = i
    · subst e2
      exact ⟨k + 1, h, by rw [List.getElem_set_self], .inl ⟨rfl, rfl⟩⟩
    · by_cases e3 : k = i + 1
      · subst e3
        exact ⟨i, by omega, by rw [List.getElem_set_ne (by omega), List.getElem_set_self], .inr (.inl ⟨rfl, rfl⟩)⟩
      · exact ⟨k, by simpa using hk0, by rw [List.getElem_set_ne (by omega), List.getElem_set_ne (by omega)], .inr (.inr ⟨e2, e3, rfl⟩)⟩
  have hne : ∀ a b (ha : a < xs.length) (hb : b < xs.length), a ≠ b → xs[a].id ≠ xs[b].id := fun a b ha hb hab => by
    rcases Nat.lt_or_gt_of_ne hab with hlt | hlt
    · exact (h2 b hb).2.2.2 a hlt
    · exact fun e => (h2 a ha).2.2.2 b hlt e.symm
  refine okB_iff.2 ⟨by rw [hl]; exact h1, fun k hk => ?_⟩
  obtain ⟨k', hk', e, hc⟩ := hg k hk
  rw [e]
  obtain ⟨a1, a2, a3, _⟩ := h2 k' hk'
  refine ⟨a1, a2, a3, fun j hj => ?_⟩
  obtain ⟨j', hj', e', hc'⟩ := hg j (by omega)
  rw [e']
  exact hne _ _ _ _ (by omega)
/-- The point: exchanged neighbours change the order seal, unless their numbers differ by a multiple of the size. -/
theorem os_swap {xs : List Ltr} (i : Nat) (h : i + 1 < xs.length) (hd : (xs[i + 1].id - xs[i].id) % 9973 ≠ 0) : osL (swapAt xs i h) ≠ osL xs := by
  intro he
  unfold osL at he
  rw [swap_at xs i h] at he
  conv at he => rhs; rw [split_at xs i h]
  rw [List.foldl_append, List.foldl_append] at he
  obtain ⟨s0, s1⟩ := os_range (xs.take i) 0 (by omega) (by omega)
  generalize (xs.take i).foldl osStep 0 = s at *
  simp only [List.foldl_cons] at he
  have h2 := os_fold_inj (xs.drop (i + 2)) _ _ (by unfold osStep; omega) (by unfold osStep; omega) (by unfold osStep; omega) (by unfold osStep; omega) he
  unfold osStep at h2
  omega

theorem own_setLtr {T base g n c : Nat} {w : World} {xs : List Ltr} (h : own T base w (.slice (some ⟨g, 0, none⟩) n c) xs) {k : Nat} (hk : k < xs.length) (y : Ltr) (hy : y.ok) :
    own T base ((w.setCell ⟨g, k * 2, none⟩ (.int .i64 y.id)).setCell ⟨g, k * 2 + 1, none⟩ (.string y.code)) (.slice (some ⟨g, 0, none⟩) n c) (xs.set k y) := by
  have h1 := h.setCell (k := k) (j := 0) hk (by decide) (.int .i64 y.id) ⟨y.id, xs[k].code⟩ (fun ecs he => by
    obtain ⟨⟨_, q⟩, rfl⟩ := he
    exact ⟨⟨hy.1, q⟩, rfl⟩)
  have h2 := h1.setCell (k := k) (j := 1) (by simpa using hk) (by decide) (.string y.code) y (fun ecs he => by
    obtain ⟨_, rfl⟩ := he
    refine ⟨hy, ?_⟩
    simp [Ltr.cells])
  rw [List.set_set] at h2
  exact h2

end Go.Proofs.Ytmangjjaijhcnaa

namespace Go.Proofs.Ytmangjjaijhcnaa
open Go.RowKit

instance : Inhabited Ltr := ⟨⟨0, ⟨#[]⟩⟩⟩
instance : Inhabited Fwd := ⟨⟨⟨#[]⟩, ⟨#[]⟩⟩⟩

/-! ### The library's order of texts -/
theorem cmp_irrefl : ∀ a : List UInt8, Lib.compareBytes a a = 0
  | [] => rfl
  | a :: p => by
    unfold Lib.compareBytes
    have : ¬ a < a := by rw [UInt8.lt_iff_toNat_lt]; omega
    rw [if_neg this, if_neg this]
    exact cmp_irrefl p
theorem cmp_trans : ∀ a b c : List UInt8, Lib.compareBytes a b < 0 → Lib.compareBytes b c < 0 → Lib.compareBytes a c < 0
  | [], [], _, h, _ => by simp [Lib.compareBytes] at h
  | [], _ :: _, [], _, h => by simp [Lib.compareBytes] at h
  | [], _ :: _, _ :: _, _, _ => by simp [Lib.compareBytes]
  | _ :: _, [], _, h, _ => by simp [Lib.compareBytes] at h
  | _ :: _, _ :: _, [], _, h => by simp [Lib.compareBytes] at h
  | a :: p, b :: q, c :: r, h1, h2 => by
    unfold Lib.compareBytes at h1 h2 ⊢
    simp only [UInt8.lt_iff_toNat_lt] at h1 h2 ⊢
    split at h1
    · split at h2
      · rw [if_pos (by omega)]; omega
      · split at h2
        · omega
        · rw [if_pos (by omega)]; omega
    · split at h1
      · omega
      · split at h2
        · rw [if_pos (by omega)]; omega
        · split at h2
          · omega
          · rw [if_neg (by omega), if_neg (by omega)]
            exact cmp_trans p q r h1 h2
theorem cmp_ntrans : ∀ a b c : List UInt8, ¬ Lib.compareBytes a b < 0 → ¬ Lib.compareBytes b c < 0 → ¬ Lib.compareBytes a c < 0
  | [], [], c, _, h => h
  | [], _ :: _, _, h, _ => by simp [Lib.compareBytes] at h
  | _ :: _, [], [], _, _ => by simp [Lib.compareBytes]
  | _ :: _, [], _ :: _, _, h => by simp [Lib.compareBytes] at h
  | _ :: _, _ :: _, [], _, _ => by simp [Lib.compareBytes]
  | a :: p, b :: q, c :: r, h1, h2 => by
    unfold Lib.compareBytes at h1 h2 ⊢
    simp only [UInt8.lt_iff_toNat_lt] at h1 h2 ⊢
    split at h1
    · exact absurd (by omega) h1
    · split at h2
      · exact absurd (by omega) h2
      · rw [if_neg (by omega)]
        split
        · omega
        · rw [if_neg (by omega)] at h1
          rw [if_neg (by omega)] at h2
          exact cmp_ntrans p q r h1 h2
theorem swo_code {α : Type} (f : α → ByteArray) : Sort.SWO (ltOf fun x y : α => Lib.compareBytes (f x).data.toList (f y).data.toList) where
  irrefl x := by
    unfold ltOf
    show decide (Lib.compareBytes _ _ < 0) = false
    rw [cmp_irrefl]
    rfl
  trans x y z h1 h2 := by
    unfold ltOf at *
    exact decide_eq_true (cmp_trans _ _ _ (of_decide_eq_true h1) (of_decide_eq_true h2))
  ntrans x y z h1 h2 := by
    unfold ltOf at *
    exact decide_eq_false (cmp_ntrans _ _ _ (of_decide_eq_false h1) (of_decide_eq_false h2))
theorem perm_of_in {α : Type} [Inhabited α] {d d' : Array α} (h : Sort.PermIn 0 d.size d d') : d'.toList.Perm d.toList := by
  obtain ⟨h1, _, h3⟩ := h
  have e1 : d.extract 0 d.size = d := Array.extract_size
  have e2 : d'.extract 0 d.size = d' := by rw [← h1]; exact Array.extract_size
  rwa [e1, e2] at h3

/-! ### Rows of two cells, flat -/
theorem flat2_get {α : Type} [Inhabited α] (enc : α → List Value) (hk : ∀ x, (enc x).length = 2) : ∀ (xs : List α) (t : Nat), t < xs.length * 2 → (xs.flatMap enc)[t]? = (enc (xs.getD (t / 2) default))[t % 2]?
  | [], t, h => by simp at h
  | x :: xs, 0, _ => by
    have h := hk x
    rw [List.flatMap_cons, List.getElem?_append_left (by omega)]
    rfl
  | x :: xs, 1, _ => by
    have h := hk x
    rw [List.flatMap_cons, List.getElem?_append_left (by omega)]
    rfl
  | x :: xs, t + 2, h => by
    have hx := hk x
    rw [List.flatMap_cons, List.getElem?_append_right (by omega), hx, Nat.add_sub_cancel, flat2_get enc hk xs t (by simp at h; omega)]
    rw [show (t + 2) / 2 = t / 2 + 1 by omega, show (t + 2) % 2 = t % 2 by omega]
    rfl
theorem flat2_len {α : Type} (enc : α → List Value) (hk : ∀ x, (enc x).length = 2) : ∀ xs : List α, (xs.flatMap enc).length = xs.length * 2
  | [] => rfl
  | x :: xs => by
    rw [List.flatMap_cons, List.length_append, hk, flat2_len enc hk xs]
    simp
    omega
theorem flat2 {α : Type} [Inhabited α] (enc : α → List Value) (hk : ∀ x, (enc x).length = 2) (d : Array α) : Sort.flatK enc 2 d = (d.toList.flatMap enc).toArray := by
  apply Array.ext
  · rw [Sort.size_flatK]
    simp [flat2_len enc hk]
  · intro t h1 h2
    rw [Sort.size_flatK] at h1
    have h3 := Sort.get_flatK enc 2 d t h1
    rw [getElem!_pos _ t (by rw [Sort.size_flatK]; exact h1)] at h3
    rw [h3]
    have h4 := flat2_get enc hk d.toList t (by simpa using h1)
    have h5 : (d.toList.flatMap enc)[t]? = some (d.toList.flatMap enc)[t] := List.getElem?_eq_getElem (by rw [flat2_len enc hk]; simpa using h1)
    rw [h5] at h4
    have hlt : t / 2 < d.size := by omega
    have e : d.toList.getD (t / 2) default = d[t / 2]! := by
      rw [getElem!_pos d (t / 2) hlt]
      simp [hlt]
    rw [e] at h4
    have h6 : t % 2 < (enc d[t / 2]!).length := by rw [hk]; omega
    rw [List.getElem?_eq_getElem h6] at h4
    injection h4 with h4
    rw [getElem!_pos (enc d[t / 2]!) (t % 2) h6, ← h4]
    simp

theorem grown_trans3 {a b c : World} {row : Option Nat} (h : a.grownBy b row) (k : b.grownBy c row) : a.grownBy c row :=
  ⟨k.os.trans h.os, k.tape.trans h.tape, k.output.trans h.output, Nat.le_trans h.size k.size, fun i hi hne => (k.block i (Nat.lt_of_lt_of_le hi h.size) hne).trans (h.block i hi hne)⟩
theorem own_grow2 {α : Type} [Flat α] {T base : Nat} {w : World} {v : Value} {xs : List α} (h : own T base w v xs) (os : Array Obj) : own T base (Go.Sort.grow w os) v xs :=
  h.keepBlk fun k hk => by
    have := (h.blk k hk).2
    show (w.heap ++ os)[k]? = w.heap[k]?
    rw [Array.getElem?_append_left this]
theorem own_setFwd {T base g n c : Nat} {w : World} {xs : List Fwd} (h : own T base w (.slice (some ⟨g, 0, none⟩) n c) xs) {k : Nat} (hk : k < xs.length) (y : Fwd) (hy : y.ok) :
    own T base ((w.setCell ⟨g, k * 2, none⟩ (.string y.src)).setCell ⟨g, k * 2 + 1, none⟩ (.string y.dst)) (.slice (some ⟨g, 0, none⟩) n c) (xs.set k y) := by
  have h1 := h.setCell (k := k) (j := 0) hk (by decide) (.string y.src) ⟨y.src, xs[k].dst⟩ (fun ecs he => by
    obtain ⟨⟨_, q⟩, rfl⟩ := he
    exact ⟨⟨hy.1, q⟩, rfl⟩)
  have h2 := h1.setCell (k := k) (j := 1) (by simpa using hk) (by decide) (.string y.dst) y (fun ecs he => by
    obtain ⟨_, rfl⟩ := he
    refine ⟨hy, ?_⟩
    simp [Fwd.cells])
  rw [List.set_set] at h2
  exact h2
theorem set_run {α : Type} (xs : List α) (k : Nat) (y : α) (ys : List α) (hk : k + (ys.length + 1) ≤ xs.length) : (xs.set k y).take (k + 1) ++ ys ++ (xs.set k y).drop (k + 1 + ys.length) = xs.take k ++ y :: ys ++ xs.drop (k + (ys.length + 1)) := by
  rw [List.take_succ_eq_append_getElem (by rw [List.length_set]; omega), List.getElem_set_self, List.take_set_of_le (Nat.le_refl _), List.drop_set_of_lt (by omega)]
  rw [show k + 1 + ys.length = k + (ys.length + 1) by omega]
  simp
theorem own_runL {T base g n c : Nat} : ∀ (ys : List Ltr) (k : Nat) (w : World) (xs : List Ltr), (∀ y ∈ ys, y.ok) → k + ys.length ≤ xs.length → own T base w (.slice (some ⟨g, 0, none⟩) n c) xs →
    own T base (w.setCells g (k * 2) (ys.flatMap Ltr.cells)) (.slice (some ⟨g, 0, none⟩) n c) (xs.take k ++ ys ++ xs.drop (k + ys.length)) ∧ w.grownBy (w.setCells g (k * 2) (ys.flatMap Ltr.cells)) (some g)
  | [], k, w, xs, _, _, h => by
    refine ⟨?_, World.grownBy.refl _ _⟩
    simpa [World.setCells] using h
  | y :: ys, k, w, xs, hy, hl, h => by
    simp only [List.length_cons] at hl
    have h1 := own_setLtr h (k := k) (by omega) y (hy y (by simp))
    obtain ⟨h2, h3⟩ := own_runL ys (k + 1) _ (xs.set k y) (fun z hz => hy z (by simp [hz])) (by rw [List.length_set]; omega) h1
    rw [set_run xs k y ys hl] at h2
    have e : w.setCells g (k * 2) ((y :: ys).flatMap Ltr.cells) = ((w.setCell ⟨g, k * 2, none⟩ (.int .i64 y.id)).setCell ⟨g, k * 2 + 1, none⟩ (.string y.code)).setCells g ((k + 1) * 2) (ys.flatMap Ltr.cells) := by
      rw [show (k + 1) * 2 = k * 2 + 1 + 1 by omega]
      simp only [List.flatMap_cons, Ltr.cells, Fwd.cells, List.cons_append, List.nil_append, World.setCells]
    rw [e]
    exact ⟨h2, grown_trans3 (grown_setCell (p := ⟨g, k * 2 + 1, none⟩) (grown_setCell (p := ⟨g, k * 2, none⟩) (World.grownBy.refl w (some g)) (.inl rfl) _) (.inl rfl) _) h3⟩
theorem own_runF {T base g n c : Nat} : ∀ (ys : List Fwd) (k : Nat) (w : World) (xs : List Fwd), (∀ y ∈ ys, y.ok) → k + ys.length ≤ xs.length → own T base w (.slice (some ⟨g, 0, none⟩) n c) xs →
    own T base (w.setCells g (k * 2) (ys.flatMap Fwd.cells)) (.slice (some ⟨g, 0, none⟩) n c) (xs.take k ++ ys ++ xs.drop (k + ys.length)) ∧ w.grownBy (w.setCells g (k * 2) (ys.flatMap Fwd.cells)) (some g)
  | [], k, w, xs, _, _, h => by
    refine ⟨?_, World.grownBy.refl _ _⟩
    simpa [World.setCells] using h
  | y :: ys, k, w, xs, hy, hl, h => by
    simp only [List.length_cons] at hl
    have h1 := own_setFwd h (k := k) (by omega) y (hy y (by simp))
    obtain ⟨h2, h3⟩ := own_runF ys (k + 1) _ (xs.set k y) (fun z hz => hy z (by simp [hz])) (by rw [List.length_set]; omega) h1
    rw [set_run xs k y ys hl] at h2
    have e : w.setCells g (k * 2) ((y :: ys).flatMap Fwd.cells) = ((w.setCell ⟨g, k * 2, none⟩ (.string y.src)).setCell ⟨g, k * 2 + 1, none⟩ (.string y.dst)).setCells g ((k + 1) * 2) (ys.flatMap Fwd.cells) := by
      rw [show (k + 1) * 2 = k * 2 + 1 + 1 by omega]
      simp only [List.flatMap_cons, Ltr.cells, Fwd.cells, List.cons_append, List.nil_append, World.setCells]
    rw [e]
    exact ⟨h2, grown_trans3 (grown_setCell (p := ⟨g, k * 2 + 1, none⟩) (grown_setCell (p := ⟨g, k * 2, none⟩) (World.grownBy.refl w (some g)) (.inl rfl) _) (.inl rfl) _) h3⟩
/-- A row of the call's own holds its elements' cells, flat. -/
theorem own_flatAt {α : Type} [Flat α] {T base g n c : Nat} {w : World} {xs : List α} (h : own T base w (.slice (some ⟨g, 0, none⟩) n c) xs) (k j : Nat) (hk : k < xs.length) (hj : j < El.size α) :
    w.frozen? ⟨g, 0 + (k * El.size α + j), none⟩ = false := by
  rw [Nat.zero_add]
  exact h.freeAt _
theorem own_holdsL {T base g n c : Nat} {w : World} {xs : List Ltr} (h : own T base w (.slice (some ⟨g, 0, none⟩) n c) xs) : Sort.HoldsK Ltr.cells 2 w g 0 xs.toArray := by
  unfold Sort.HoldsK
  intro t ht
  rw [Sort.size_flatK] at ht
  have ht' : t < xs.length * 2 := by simpa using ht
  have hlt : t / 2 < xs.length := by omega
  refine ⟨?_, by rw [Nat.zero_add]; exact h.freeAt _⟩
  obtain ⟨_, c1, c2⟩ := own_ltr h (t / 2) hlt
  rw [Sort.get_flatK _ _ _ _ (by simpa using ht'), show (xs.toArray)[t / 2]! = xs[t / 2] by simp [hlt], Nat.zero_add]
  rcases (show t % 2 = 0 ∨ t % 2 = 1 by omega) with e | e
  · rw [e]
    conv => lhs; rw [show t = t / 2 * 2 by omega]
    exact c1
  · rw [e]
    conv => lhs; rw [show t = t / 2 * 2 + 1 by omega]
    exact c2
theorem own_fwd {T base g n c : Nat} {w : World} {xs : List Fwd} (h : own T base w (.slice (some ⟨g, 0, none⟩) n c) xs) (k : Nat) (hk : k < xs.length) : xs[k].ok ∧ w.cell? ⟨g, k * 2, none⟩ = some (.string xs[k].src) ∧ w.cell? ⟨g, k * 2 + 1, none⟩ = some (.string xs[k].dst) := by
  obtain ⟨A', n', c', hv, _, _, _, hr⟩ := h.rd
  injection hv with e1 _ _
  subst e1
  obtain ⟨b, o, hA, _, hok, c1, c2⟩ := hr.fwd k hk
  injection hA with hA
  injection hA with hA1 hA2
  subst hA1 hA2
  rw [Nat.zero_add] at c1 c2
  exact ⟨hok, c1, c2⟩
theorem own_holdsF {T base g n c : Nat} {w : World} {xs : List Fwd} (h : own T base w (.slice (some ⟨g, 0, none⟩) n c) xs) : Sort.HoldsK Fwd.cells 2 w g 0 xs.toArray := by
  unfold Sort.HoldsK
  intro t ht
  rw [Sort.size_flatK] at ht
  have ht' : t < xs.length * 2 := by simpa using ht
  have hlt : t / 2 < xs.length := by omega
  refine ⟨?_, by rw [Nat.zero_add]; exact h.freeAt _⟩
  obtain ⟨_, c1, c2⟩ := own_fwd h (t / 2) hlt
  rw [Sort.get_flatK _ _ _ _ (by simpa using ht'), show (xs.toArray)[t / 2]! = xs[t / 2] by simp [hlt], Nat.zero_add]
  rcases (show t % 2 = 0 ∨ t % 2 = 1 by omega) with e | e
  · rw [e]
    conv => lhs; rw [show t = t / 2 * 2 by omega]
    exact c1
  · rw [e]
    conv => lhs; rw [show t = t / 2 * 2 + 1 by omega]
    exact c2
/-- What lies behind a sort of a row of the call's own. -/
theorem sorted_ownL {T base g n c q : Nat} {w : World} {xs : List Ltr} {d' : Array Ltr} {os : Array Obj} (h : own T base w (.slice (some ⟨g, 0, none⟩) n c) xs) (hp : d'.toList.Perm xs) :
    own T base (sortWorldK Ltr.cells 2 w g 0 q d' os) (.slice (some ⟨g, 0, none⟩) n c) d'.toList ∧ w.grownBy (sortWorldK Ltr.cells 2 w g 0 q d' os) (some g) := by
  have hH := own_holdsL h
  have hl := hp.length_eq
  have e1 : sortWorldK Ltr.cells 2 w g 0 q d' os = Sort.grow ((w.drewN q).setCells g 0 (d'.toList.flatMap Ltr.cells)) os := by
    unfold sortWorldK Sort.putRowK
    rw [flat2 Ltr.cells (fun _ => rfl) d', Lib.sorted_world id w g 0 q (Sort.flatK Ltr.cells 2 xs.toArray) (d'.toList.flatMap Ltr.cells) os hH (by rw [flat2_len _ (fun _ => rfl), Sort.size_flatK, hl]; simp)]
    simp
  have bq : Below w.heap.size w (w.drewN q) := later_drewN (Below.refl _ _) q
  have hok : ∀ y ∈ d'.toList, y.ok := fun y hy => by
    obtain ⟨k, hk, rfl⟩ := List.getElem_of_mem (hp.mem_iff.1 hy)
    exact (own_ltr h k hk).1
  obtain ⟨h2, h3⟩ := own_runL d'.toList 0 (w.drewN q) xs hok (by omega) (h.below bq)
  have e : xs.take 0 ++ d'.toList ++ xs.drop (0 + d'.toList.length) = d'.toList := by simp [hl]
  rw [e, Nat.zero_mul] at h2
  rw [Nat.zero_mul] at h3
  rw [e1]
  refine ⟨own_grow2 h2 os, ?_⟩
  have h4 := grown_trans3 (grown_below (World.grownBy.refl w (some g)) bq) h3
  exact ⟨h4.os, h4.tape, h4.output, Nat.le_trans h4.size (by simp [Go.Sort.grow]), fun k hk hne => by
    show (_ ++ os)[k]? = _
    rw [Array.getElem?_append_left (Nat.lt_of_lt_of_le hk h4.size)]
    exact h4.block k hk hne⟩
theorem sorted_ownF {T base g n c q : Nat} {w : World} {xs : List Fwd} {d' : Array Fwd} {os : Array Obj} (h : own T base w (.slice (some ⟨g, 0, none⟩) n c) xs) (hp : d'.toList.Perm xs) :
    own T base (sortWorldK Fwd.cells 2 w g 0 q d' os) (.slice (some ⟨g, 0, none⟩) n c) d'.toList ∧ w.grownBy (sortWorldK Fwd.cells 2 w g 0 q d' os) (some g) := by
  have hH := own_holdsF h
  have hl := hp.length_eq
  have e1 : sortWorldK Fwd.cells 2 w g 0 q d' os = Sort.grow ((w.drewN q).setCells g 0 (d'.toList.flatMap Fwd.cells)) os := by
    unfold sortWorldK Sort.putRowK
    rw [flat2 Fwd.cells (fun _ => rfl) d', Lib.sorted_world id w g 0 q (Sort.flatK Fwd.cells 2 xs.toArray) (d'.toList.flatMap Fwd.cells) os hH (by rw [flat2_len _ (fun _ => rfl), Sort.size_flatK, hl]; simp)]
    simp
  have bq : Below w.heap.size w (w.drewN q) := later_drewN (Below.refl _ _) q
  have hok : ∀ y ∈ d'.toList, y.ok := fun y hy => by
    obtain ⟨k, hk, rfl⟩ := List.getElem_of_mem (hp.mem_iff.1 hy)
    exact (own_fwd h k hk).1
  obtain ⟨h2, h3⟩ := own_runF d'.toList 0 (w.drewN q) xs hok (by omega) (h.below bq)
  have e : xs.take 0 ++ d'.toList ++ xs.drop (0 + d'.toList.length) = d'.toList := by simp [hl]
  rw [e, Nat.zero_mul] at h2
  rw [Nat.zero_mul] at h3
  rw [e1]
  refine ⟨own_grow2 h2 os, ?_⟩
  have h4 := grown_trans3 (grown_below (World.grownBy.refl w (some g)) bq) h3
  exact ⟨h4.os, h4.tape, h4.output, Nat.le_trans h4.size (by simp [Go.Sort.grow]), fun k hk hne => by
    show (_ ++ os)[k]? = _
    rw [Array.getElem?_append_left (Nat.lt_of_lt_of_le hk h4.size)]
    exact h4.block k hk hne⟩

end Go.Proofs.Ytmangjjaijhcnaa

namespace Go.Proofs.Ytmangjjaijhcnaa
open Go.RowKit

/-- A seal knows only the numbers, in no order. -/
def idStep (n : Int) (i : Int) : Int := (n + i * i) % 9973
theorem sL_ids (xs : List Ltr) : sL xs = (xs.map Ltr.id).foldl idStep 0 := by
  unfold sL
  rw [List.foldl_map]
  rfl
theorem idStep_comm (n i j : Int) : idStep (idStep n i) j = idStep (idStep n j) i := by
  unfold idStep
  generalize i * i = a
  generalize j * j = b
  omega
theorem seal_perm {xs ys : List Ltr} (h : (xs.map Ltr.id).Perm (ys.map Ltr.id)) : sL xs = sL ys := by
  rw [sL_ids, sL_ids]
  exact h.foldl_eq' (fun x _ y _ z => idStep_comm z x y) 0


end Go.Proofs.Ytmangjjaijhcnaa
