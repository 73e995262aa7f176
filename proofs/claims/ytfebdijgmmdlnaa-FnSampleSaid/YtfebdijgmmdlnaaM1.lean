/- Seals and samples: both texts. -/
import Derived.Test.YtfebdijgmmdlnaaB1
import Derived.Test.YtfebdijgmmdlnaaE2
namespace Go.Proofs.Ytfebdijgmmdlnaa
open Go.RowKit

def osStep (n : Int) (x : Ltr) : Int := (31 * n + x.id) % 9973
def sStep (n : Int) (x : Ltr) : Int := (n + x.id * x.id) % 9973
def osL (xs : List Ltr) : Int := xs.foldl osStep 0
def sL (xs : List Ltr) : Int := xs.foldl sStep 0
theorem fold_take {α β : Type} (f : β → α → β) (b : β) (xs : List α) (k : Nat) (h : k < xs.length) : (xs.take (k + 1)).foldl f b = f ((xs.take k).foldl f b) xs[k] := by
  rw [List.take_succ_eq_append_getElem h, List.foldl_append]; rfl
theorem okB_at {xs : List Ltr} (h : okB xs = true) (k : Nat) (hk : k < xs.length) : 1 ≤ xs[k].id ∧ xs[k].id ≤ 9999 := by
  have := (okB_iff.1 h).2 k hk
  exact ⟨this.1, this.2.1⟩
theorem sq_bound {a : Int} (h1 : 1 ≤ a) (h2 : a ≤ 9999) : 0 ≤ a * a ∧ a * a ≤ 99980001 :=
  ⟨Int.mul_nonneg (by omega) (by omega), by have := Int.mul_le_mul h2 h2 (by omega) (by omega); omega⟩

def orOf (b : Bool) (n : Int) : Int := if b then n else -1

set_option maxHeartbeats 400000 in
theorem impl_OrderSeal (v : Value) (xs : List Ltr) (w : World) (hv : rd w w.heap.size v xs) :
    Calls Try.prog 11 #[v] w fun e w' => e = .returned (.int .i64 (orOf (okB xs) (osL xs))) ∧ Below w.heap.size w w' := by
  have hv0 := hv
  obtain ⟨A, n, c, rfl, hn, hc, hm, hr⟩ := hv
  subst hn
  unfold maxLen at hm
  have HR := Lib.hid hr; clear hr
  go_enter Try.func11, Try.ntmps11
  go_wp2_with fail
  refine (impl_BatchValid _ _ _ hv0).mono ?_
  rintro e w0 ⟨rfl, hb0⟩
  clear hv0
  cases hok : okB xs
  · have HOK := Lib.hid hok; clear hok
    go_wp2
    go_ret
    exact ⟨ret_int (by rw [HOK.out]; rfl), hb0⟩
  · have HOK := Lib.hid hok; clear hok
    go_wp2
    go_loopw [3, 11] (fun t i wr => ∃ (k : Nat) (m : Int), k ≤ xs.length ∧ i = .int .i64 k ∧ t = .int .i64 m ∧ 0 ≤ m ∧ m < 9973 ∧ Hid (m = (xs.take k).foldl osStep 0) ∧ Below w.heap.size w wr) (fun _ i _ => xs.length - (intOf i).toNat)
    case atStart => exact ⟨0, 0, Nat.zero_le _, rfl, rfl, by omega, by omega, rfl, hb0⟩
    case round =>
      obtain ⟨k, m, hk, rfl, rfl, m0, m1, HM, hbl⟩ := hrel
      obtain ⟨w1, rfl⟩ : ∃ w1 : World, w1 = wr := ⟨_, rfl⟩
      have hbz := hbl.size
      clear hb0
      by_cases hlt : k < xs.length
      · obtain ⟨b, o, rfl, hb, _, c1, c2⟩ := HR.out.ltr k hlt
        obtain ⟨i1, i2⟩ := okB_at HOK.out k hlt
        have HS := Lib.hid (fold_take osStep 0 xs k hlt)
        generalize xs[k] = x at *
        have c1' : w1.cell? ⟨b, o + k * 2, none⟩ = some (.int .i64 x.id) := (hbl.cell (p := ⟨b, o + k * 2, none⟩) hb).trans c1
        have c2' : w1.cell? ⟨b, o + k * 2 + 1, none⟩ = some (.string x.code) := (hbl.cell (p := ⟨b, o + k * 2 + 1, none⟩) hb).trans c2
        clear c1 c2
        go_wp2
        go_roundw
        case rel => exact ⟨k + 1, (31 * m + x.id) % 9973, by omega, by go_num, rfl, by omega, by omega, by show _ = _; rw [HS.out, ← HM.out]; rfl, hbl.alloc hbz _⟩
        case measure => simp [intOf]; omega
      · have HE := Lib.hid (show k = xs.length by omega)
        go_wp2
        go_ret
        exact ⟨ret_int (by rw [HM.out, HE.out, List.take_length, HOK.out]; rfl), hbl⟩

set_option maxHeartbeats 400000 in
theorem impl_SealOf (v : Value) (xs : List Ltr) (w : World) (hv : rd w w.heap.size v xs) :
    Calls Try.prog 14 #[v] w fun e w' => e = .returned (.int .i64 (orOf (okB xs) (sL xs))) ∧ Below w.heap.size w w' := by
  have hv0 := hv
  obtain ⟨A, n, c, rfl, hn, hc, hm, hr⟩ := hv
  subst hn
  unfold maxLen at hm
  have HR := Lib.hid hr; clear hr
  go_enter Try.func14, Try.ntmps14
  go_wp2_with fail
  refine (impl_BatchValid _ _ _ hv0).mono ?_
  rintro e w0 ⟨rfl, hb0⟩
  clear hv0
  cases hok : okB xs
  · have HOK := Lib.hid hok; clear hok
    go_wp2
    go_ret
    exact ⟨ret_int (by rw [HOK.out]; rfl), hb0⟩
  · have HOK := Lib.hid hok; clear hok
    go_wp2
    go_loopw [3, 11] (fun t i wr => ∃ (k : Nat) (m : Int), k ≤ xs.length ∧ i = .int .i64 k ∧ t = .int .i64 m ∧ 0 ≤ m ∧ m < 9973 ∧ Hid (m = (xs.take k).foldl sStep 0) ∧ Below w.heap.size w wr) (fun _ i _ => xs.length - (intOf i).toNat)
    case atStart => exact ⟨0, 0, Nat.zero_le _, rfl, rfl, by omega, by omega, rfl, hb0⟩
    case round =>
      obtain ⟨k, m, hk, rfl, rfl, m0, m1, HM, hbl⟩ := hrel
      obtain ⟨w1, rfl⟩ : ∃ w1 : World, w1 = wr := ⟨_, rfl⟩
      have hbz := hbl.size
      clear hb0
      by_cases hlt : k < xs.length
      · obtain ⟨b, o, rfl, hb, _, c1, c2⟩ := HR.out.ltr k hlt
        obtain ⟨i1, i2⟩ := okB_at HOK.out k hlt
        obtain ⟨q1, q2⟩ := sq_bound i1 i2
        have HS := Lib.hid (fold_take sStep 0 xs k hlt)
        generalize xs[k] = x at *
        have c1' : w1.cell? ⟨b, o + k * 2, none⟩ = some (.int .i64 x.id) := (hbl.cell (p := ⟨b, o + k * 2, none⟩) hb).trans c1
        have c2' : w1.cell? ⟨b, o + k * 2 + 1, none⟩ = some (.string x.code) := (hbl.cell (p := ⟨b, o + k * 2 + 1, none⟩) hb).trans c2
        clear c1 c2
        go_wp2
        go_roundw
        case rel => exact ⟨k + 1, (m + x.id * x.id) % 9973, by omega, by go_num, rfl, by omega, by omega, by show _ = _; rw [HS.out, ← HM.out]; rfl, hbl.alloc hbz _⟩
        case measure => simp [intOf]; omega
      · have HE := Lib.hid (show k = xs.length by omega)
        go_wp2
        go_ret
        exact ⟨ret_int (by rw [HM.out, HE.out, List.take_length, HOK.out]; rfl), hbl⟩

set_option maxHeartbeats 400000 in
theorem spec_OrderSeal (v : Value) (xs : List Ltr) (w : World) (hv : rd w w.heap.size v xs) :
    Calls Try.prog 9 #[v] w fun e w' => e = .returned (.int .i64 (orOf (okB xs) (osL xs))) ∧ Below w.heap.size w w' := by
  have hv0 := hv
  obtain ⟨A, n, c, rfl, hn, hc, hm, hr⟩ := hv
  subst hn
  unfold maxLen at hm
  have HR := Lib.hid hr; clear hr
  go_enter Try.func9, Try.ntmps9
  go_wp2_with fail
  refine (spec_BatchValid _ _ _ hv0).mono ?_
  rintro e w0 ⟨rfl, hb0⟩
  clear hv0
  cases hok : okB xs
  · have HOK := Lib.hid hok; clear hok
    go_wp2
    go_ret
    exact ⟨ret_int (by rw [HOK.out]; rfl), hb0⟩
  · have HOK := Lib.hid hok; clear hok
    go_wp2
    go_loopw [3, 4] (fun t i wr => ∃ (k : Nat) (m : Int), k ≤ xs.length ∧ i = .int .i64 k ∧ t = .int .i64 m ∧ 0 ≤ m ∧ m < 9973 ∧ Hid (m = (xs.take k).foldl osStep 0) ∧ Below w.heap.size w wr) (fun _ i _ => xs.length - (intOf i).toNat)
    case atStart => exact ⟨0, 0, Nat.zero_le _, rfl, rfl, by omega, by omega, rfl, hb0⟩
    case round =>
      obtain ⟨k, m, hk, rfl, rfl, m0, m1, HM, hbl⟩ := hrel
      obtain ⟨w1, rfl⟩ : ∃ w1 : World, w1 = wr := ⟨_, rfl⟩
      have hbz := hbl.size
      clear hb0
      by_cases hlt : k < xs.length
      · obtain ⟨b, o, rfl, hb, _, c1, c2⟩ := HR.out.ltr k hlt
        obtain ⟨i1, i2⟩ := okB_at HOK.out k hlt
        have HS := Lib.hid (fold_take osStep 0 xs k hlt)
        generalize xs[k] = x at *
        have c1' : w1.cell? ⟨b, o + k * 2, none⟩ = some (.int .i64 x.id) := (hbl.cell (p := ⟨b, o + k * 2, none⟩) hb).trans c1
        clear c1 c2
        go_wp2
        go_roundw
        case rel => exact ⟨k + 1, (m * 31 + x.id) % 9973, by omega, by go_num, rfl, by omega, by omega, by show _ = _; rw [HS.out, ← HM.out]; unfold osStep; omega, hbl⟩
        case measure => simp [intOf]; omega
      · have HE := Lib.hid (show k = xs.length by omega)
        go_wp2
        go_ret
        exact ⟨ret_int (by rw [HM.out, HE.out, List.take_length, HOK.out]; rfl), hbl⟩

set_option maxHeartbeats 400000 in
theorem spec_SealOf (v : Value) (xs : List Ltr) (w : World) (hv : rd w w.heap.size v xs) :
    Calls Try.prog 13 #[v] w fun e w' => e = .returned (.int .i64 (orOf (okB xs) (sL xs))) ∧ Below w.heap.size w w' := by
  have hv0 := hv
  obtain ⟨A, n, c, rfl, hn, hc, hm, hr⟩ := hv
  subst hn
  unfold maxLen at hm
  have HR := Lib.hid hr; clear hr
  go_enter Try.func13, Try.ntmps13
  go_wp2_with fail
  refine (spec_BatchValid _ _ _ hv0).mono ?_
  rintro e w0 ⟨rfl, hb0⟩
  clear hv0
  cases hok : okB xs
  · have HOK := Lib.hid hok; clear hok
    go_wp2
    go_ret
    exact ⟨ret_int (by rw [HOK.out]; rfl), hb0⟩
  · have HOK := Lib.hid hok; clear hok
    go_wp2
    go_loopw [3, 4] (fun t i wr => ∃ (k : Nat) (m : Int), k ≤ xs.length ∧ i = .int .i64 k ∧ t = .int .i64 m ∧ 0 ≤ m ∧ m < 9973 ∧ Hid (m = (xs.take k).foldl sStep 0) ∧ Below w.heap.size w wr) (fun _ i _ => xs.length - (intOf i).toNat)
    case atStart => exact ⟨0, 0, Nat.zero_le _, rfl, rfl, by omega, by omega, rfl, hb0⟩
    case round =>
      obtain ⟨k, m, hk, rfl, rfl, m0, m1, HM, hbl⟩ := hrel
      obtain ⟨w1, rfl⟩ : ∃ w1 : World, w1 = wr := ⟨_, rfl⟩
      have hbz := hbl.size
      clear hb0
      by_cases hlt : k < xs.length
      · obtain ⟨b, o, rfl, hb, _, c1, c2⟩ := HR.out.ltr k hlt
        obtain ⟨i1, i2⟩ := okB_at HOK.out k hlt
        obtain ⟨q1, q2⟩ := sq_bound i1 i2
        have HS := Lib.hid (fold_take sStep 0 xs k hlt)
        generalize xs[k] = x at *
        have c1' : w1.cell? ⟨b, o + k * 2, none⟩ = some (.int .i64 x.id) := (hbl.cell (p := ⟨b, o + k * 2, none⟩) hb).trans c1
        clear c1 c2
        have hkn : (k : Int) < (xs.length : Int) := by omega
        have hw1 : IntKind.i64.wrap (x.id * x.id) = x.id * x.id := IntWalk.i64_in _ (by omega)
        have hw2 : IntKind.i64.wrap (m + x.id * x.id) = m + x.id * x.id := IntWalk.i64_in _ (by omega)
        have hw3 : (m + x.id * x.id).tmod 9973 = (m + x.id * x.id) % 9973 := Int.tmod_eq_emod_of_nonneg (by omega)
        have hw4 : IntKind.i64.wrap ((m + x.id * x.id) % 9973) = (m + x.id * x.id) % 9973 := IntWalk.i64_in _ (by omega)
        go_wp2
        go_quiet (fail)
        clear hw1 hw2 hw3 hw4
        go_wp2
        go_roundw
        case rel => exact ⟨k + 1, (m + x.id * x.id) % 9973, by omega, by go_num, rfl, by omega, by omega, by show _ = _; rw [HS.out, ← HM.out]; rfl, below_drewN hbl _⟩
        case measure => simp [intOf]; omega
      · have HE := Lib.hid (show k = xs.length by omega)
        go_wp2
        go_ret
        exact ⟨ret_int (by rw [HM.out, HE.out, List.take_length, HOK.out]; rfl), hbl⟩

end Go.Proofs.Ytfebdijgmmdlnaa
