/- SampleLetters: both texts. -/
import Derived.Test.YtfebdijgmmdlnaaM1
import Derived.Test.YtfebdijgmmdlnaaW1
namespace Go.Proofs.Ytfebdijgmmdlnaa
open Go.RowKit

/-- Every element whose index is a multiple of k + 1, behind n that are passed over. -/
def every (k : Nat) : List Ltr → Nat → List Ltr
  | [], _ => []
  | x :: xs, 0 => x :: every k xs k
  | _ :: xs, n + 1 => every k xs n
theorem every_drop (k : Nat) : ∀ (xs : List Ltr) (n : Nat), every k xs n = every k (xs.drop n) 0
  | [], n => by simp [every]
  | x :: xs, 0 => rfl
  | x :: xs, n + 1 => by simp [every, every_drop k xs n]
theorem every_step (k : Nat) (xs : List Ltr) (i : Nat) (h : i < xs.length) : every k (xs.drop i) 0 = xs[i] :: every k (xs.drop (i + (k + 1))) 0 := by
  rw [List.drop_eq_getElem_cons h, every, every_drop, List.drop_drop]
  rw [show i + 1 + k = i + (k + 1) by omega]
/-- What SampleLetters gives. -/
def smp (xs : List Ltr) (k : Int) : List Ltr := if okB xs && (decide (1 ≤ k) && decide (k ≤ 60)) then every (k.toNat - 1) xs 0 else []
def smpOk (xs : List Ltr) (k : Int) : Bool := okB xs && (decide (1 ≤ k) && decide (k ≤ 60))
theorem smp_yes {xs : List Ltr} {k : Nat} (h : okB xs = true) (h1 : 1 ≤ k) (h2 : k ≤ 60) : smp xs k = every (k - 1) xs 0 ∧ smpOk xs k = true := by
  have e1 : decide ((1 : Int) ≤ (k : Int)) = true := by simp; omega
  have e2 : decide ((k : Int) ≤ 60) = true := by simp; omega
  unfold smp smpOk
  rw [h, e1, e2]
  exact ⟨rfl, rfl⟩
theorem smp_no {xs : List Ltr} {k : Int} (h : okB xs = false ∨ k < 1 ∨ 60 < k) : smp xs k = [] ∧ smpOk xs k = false := by
  have e : (okB xs && (decide (1 ≤ k) && decide (k ≤ 60))) = false := by
    rcases h with h | h | h
    · rw [h]; rfl
    · rw [decide_eq_false (p := 1 ≤ k) (by omega)]; simp
    · rw [decide_eq_false (p := k ≤ 60) (by omega)]; simp
  unfold smp smpOk
  rw [e]
  exact ⟨rfl, rfl⟩
theorem okB_len {xs : List Ltr} (h : okB xs = true) : xs.length ≤ 60 := (okB_iff.1 h).1

set_option maxHeartbeats 800000 in
theorem impl_SampleLetters (v : Value) (xs : List Ltr) (k : Int) (w : World) (hv : rd w w.heap.size v xs) :
    Calls Try.prog 16 #[v, .int .i64 k] w fun e w' => ∃ v', e = .returned (.tuple #[v', .bool (smpOk xs k)]) ∧ own 36 w.heap.size w' v' (smp xs k) ∧ Below w.heap.size w w' := by
  have hv0 := hv
  obtain ⟨A, n, c, rfl, hn, hc, hm, hr⟩ := hv
  subst hn
  unfold maxLen at hm
  have HR := Lib.hid hr; clear hr
  obtain ⟨i0, hi, hz0, hz1, hz2⟩ := info_parts Try.infoLtr
  go_enter Try.func16, Try.ntmps16
  go_wp2_with fail
  refine (impl_BatchValid _ _ _ hv0).mono ?_
  rintro e w0 ⟨rfl, hb0⟩
  clear hv0
  cases hok : okB xs
  · have HOK := Lib.hid hok; clear hok
    go_wp2
    go_ret2
    obtain ⟨e1, e2⟩ := smp_no (k := k) (.inl HOK.out)
    exact ⟨_, by rw [e2]; rfl, by rw [e1]; exact own.nil_ _ _ _, hb0⟩
  have HOK := Lib.hid hok; clear hok
  by_cases h1 : k < 1
  · go_wp2
    go_ret2
    obtain ⟨e1, e2⟩ := smp_no (xs := xs) (k := k) (.inr (.inl h1))
    exact ⟨_, by rw [e2]; rfl, by rw [e1]; exact own.nil_ _ _ _, hb0⟩
  by_cases h2 : 60 < k
  · go_wp2
    go_ret2
    obtain ⟨e1, e2⟩ := smp_no (xs := xs) (k := k) (.inr (.inr h2))
    exact ⟨_, by rw [e2]; rfl, by rw [e1]; exact own.nil_ _ _ _, hb0⟩
  obtain ⟨q, rfl⟩ := Int.eq_ofNat_of_zero_le (show 0 ≤ k by omega)
  have hq1 : 1 ≤ q := by omega
  have hq2 : q ≤ 60 := by omega
  have hl60 := okB_len HOK.out
  go_wp2
  go_loopw [6, 7] (fun t i wr => ∃ (j : Nat) (ys : List Ltr), j ≤ 120 ∧ i = .int .i64 j ∧ ys.length ≤ j ∧ own 36 w.heap.size wr t ys ∧ Hid (every (q - 1) xs 0 = ys ++ every (q - 1) (xs.drop j) 0) ∧ Below w.heap.size w wr) (fun _ i _ => xs.length - (intOf i).toNat)
  case atStart => exact ⟨0, [], by omega, rfl, Nat.le_refl _, own.nil_ _ _ _, by show _ = _; simp, hb0⟩
  case round =>
    obtain ⟨j, ys, hj, rfl, hyj, ho, HY, hbl⟩ := hrel
    obtain ⟨w1, rfl⟩ : ∃ w1 : World, w1 = wr := ⟨_, rfl⟩
    have hbz := hbl.size
    clear hb0
    by_cases hlt : j < xs.length
    · obtain ⟨b, o, rfl, hb, hx, c1, c2⟩ := HR.out.ltr j hlt
      have HS := Lib.hid (every_step (q - 1) xs j hlt)
      generalize xs[j] = x at *
      have c1' : w1.cell? ⟨b, o + j * 2, none⟩ = some (.int .i64 x.id) := (hbl.cell (p := ⟨b, o + j * 2, none⟩) hb).trans c1
      have c2' : w1.cell? ⟨b, o + j * 2 + 1, none⟩ = some (.string x.code) := (hbl.cell (p := ⟨b, o + j * 2 + 1, none⟩) hb).trans c2
      clear c1 c2
      go_wp2_with (at_builtin; refine wpList_append1 (α := Ltr) rfl (.tmp 26) (.tmp 31) _ rfl w.heap.size 36 i0 _ 24 Try.underlying25 hi hz0 hz1 hz2 rfl (by decide) _ ys x rfl (ho.alloc _) ⟨w1.heap.size, 0, none⟩ 1 x.cells rfl ⟨hx, rfl⟩ (news_at w1 _ x.cells) (by unfold maxLen; omega) (by omega) (by simp; omega) ?_; intro v' w2 ho2 hg2 _)
      have hb2 : Below w.heap.size w w2 := (hbl.alloc hbz _).trans (below_append (ho.alloc _) hg2 (by simp; omega))
      clear hg2
      go_wp2
      go_roundw
      case rel => 
        refine ⟨j + q, ys ++ [x], by omega, by go_num, by simp; omega, ho2, ?_, hb2⟩
        show _ = _
        rw [HY.out, HS.out, show j + (q - 1 + 1) = j + q by omega]
        simp
      case measure => simp [intOf]; omega
    · have hd := List.drop_eq_nil_of_le (Nat.le_of_not_lt hlt)
      have HD := Lib.hid hd; clear hd
      go_wp2
      go_ret2
      obtain ⟨e1, e2⟩ := smp_yes HOK.out hq1 hq2
      refine ⟨_, by rw [e2]; rfl, ?_, hbl⟩
      rw [e1, HY.out, HD.out, every, List.append_nil]
      exact ho

set_option maxHeartbeats 800000 in
theorem spec_SampleLetters (v : Value) (xs : List Ltr) (k : Int) (w : World) (hv : rd w w.heap.size v xs) :
    Calls Try.prog 15 #[v, .int .i64 k] w fun e w' => ∃ v', e = .returned (.tuple #[v', .bool (smpOk xs k)]) ∧ own 36 w.heap.size w' v' (smp xs k) ∧ Below w.heap.size w w' := by
  have hv0 := hv
  obtain ⟨A, n, c, rfl, hn, hc, hm, hr⟩ := hv
  subst hn
  unfold maxLen at hm
  have HR := Lib.hid hr; clear hr
  obtain ⟨i0, hi, hz0, hz1, hz2⟩ := info_parts Try.infoLtr
  go_enter Try.func15, Try.ntmps15
  go_wp2_with fail
  have hbA : Below w.heap.size w (w.alloc (Obj.cells #[] 36)) := (Below.refl _ _).alloc (Nat.le_refl _) _
  have hoA : own (α := Ltr) 36 w.heap.size (w.alloc (Obj.cells #[] 36)) (.slice (some ⟨w.heap.size, 0, none⟩) 0 0) [] := own.made0 w _ (Nat.le_refl _)
  generalize w.alloc (Obj.cells #[] 36) = wA at *
  refine (spec_BatchValid _ _ _ (hv0.on hbA)).mono ?_
  rintro e w0 ⟨rfl, hbB⟩
  have hb0 := hbA.trans (hbB.mono hbA.size)
  have ho0 := hoA.below hbB
  clear hv0 hoA
  cases hok : okB xs
  · have HOK := Lib.hid hok; clear hok
    go_wp2
    go_ret2
    obtain ⟨e1, e2⟩ := smp_no (k := k) (.inl HOK.out)
    exact ⟨_, by rw [e2]; rfl, by rw [e1]; exact ho0, hb0⟩
  have HOK := Lib.hid hok; clear hok
  cases hin : (decide (1 ≤ k) && decide (k ≤ 60))
  · have HIN := Lib.hid hin; clear hin
    go_wp2_with (go_at_call 27; refine (spec_l1In _ _ _ _).mono ?_; rw [HIN.out]; rintro e w' ⟨rfl, rfl⟩)
    go_ret2
    obtain ⟨e1, e2⟩ := smp_no (xs := xs) (k := k) (.inr (by have := HIN.out; simp at this; omega))
    exact ⟨_, by rw [e2]; rfl, by rw [e1]; exact ho0, hb0⟩
  have HIN := Lib.hid hin
  have h1 : ¬ k < 1 := by simp at hin; omega
  have h2 : ¬ 60 < k := by simp at hin; omega
  clear hin
  obtain ⟨q, rfl⟩ := Int.eq_ofNat_of_zero_le (show 0 ≤ k by omega)
  have hq1 : 1 ≤ q := by omega
  have hq2 : q ≤ 60 := by omega
  have hl60 := okB_len HOK.out
  go_wp2_with (go_at_call 27; refine (spec_l1In _ _ _ _).mono ?_; rw [HIN.out]; rintro e w' ⟨rfl, rfl⟩)
  go_loopw [6, 7] (fun t i wr => ∃ (j : Nat) (ys : List Ltr), j ≤ 120 ∧ i = .int .i64 j ∧ ys.length ≤ j ∧ own 36 w.heap.size wr t ys ∧ Hid (every (q - 1) xs 0 = ys ++ every (q - 1) (xs.drop j) 0) ∧ Below w.heap.size w wr) (fun _ i _ => xs.length - (intOf i).toNat)
  case atStart => exact ⟨0, [], by omega, rfl, Nat.le_refl _, ho0, by show _ = _; simp, hb0⟩
  case round =>
    obtain ⟨j, ys, hj, rfl, hyj, ho, HY, hbl⟩ := hrel
    obtain ⟨w1, rfl⟩ : ∃ w1 : World, w1 = wr := ⟨_, rfl⟩
    have hbz := hbl.size
    clear hb0 ho0 hbA hbB
    by_cases hlt : j < xs.length
    · obtain ⟨b, o, rfl, hb, hx, c1, c2⟩ := HR.out.ltr j hlt
      have HS := Lib.hid (every_step (q - 1) xs j hlt)
      generalize xs[j] = x at *
      have c1' : w1.cell? ⟨b, o + j * 2, none⟩ = some (.int .i64 x.id) := (hbl.cell (p := ⟨b, o + j * 2, none⟩) hb).trans c1
      have c2' : w1.cell? ⟨b, o + j * 2 + 1, none⟩ = some (.string x.code) := (hbl.cell (p := ⟨b, o + j * 2 + 1, none⟩) hb).trans c2
      clear c1 c2
      go_wp2_with (at_builtin; refine wpList_append1 (α := Ltr) rfl (.tmp 25) (.tmp 30) _ rfl w.heap.size 36 i0 _ 24 Try.underlying25 hi hz0 hz1 hz2 rfl (by decide) _ ys x rfl (ho.alloc _) ⟨w1.heap.size, 0, none⟩ 1 x.cells rfl ⟨hx, rfl⟩ (news_at w1 _ x.cells) (by unfold maxLen; omega) (by omega) (by simp; omega) ?_; intro v' w2 ho2 hg2 _)
      have hb2 : Below w.heap.size w w2 := (hbl.alloc hbz _).trans (below_append (ho.alloc _) hg2 (by simp; omega))
      clear hg2
      go_wp2
      go_roundw
      case rel => 
        refine ⟨j + q, ys ++ [x], by omega, by go_num, by simp; omega, ho2, ?_, hb2⟩
        show _ = _
        rw [HY.out, HS.out, show j + (q - 1 + 1) = j + q by omega]
        simp
      case measure => simp [intOf]; omega
    · have hd := List.drop_eq_nil_of_le (Nat.le_of_not_lt hlt)
      have HD := Lib.hid hd; clear hd
      go_wp2
      go_ret2
      obtain ⟨e1, e2⟩ := smp_yes HOK.out hq1 hq2
      refine ⟨_, by rw [e2]; rfl, ?_, hbl⟩
      rw [e1, HY.out, HD.out, every, List.append_nil]
      exact ho

end Go.Proofs.Ytfebdijgmmdlnaa
