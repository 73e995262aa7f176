/- FnKeptMany: the walk of the law. -/
import Derived.Test.YtekjjgnokjhleaaQ24
import Derived.Test.YtekjjgnokjhleaaQ38
import Derived.Test.YtekjjgnokjhleaaQ36
import Derived.Test.YtekjjgnokjhleaaQ37
import Derived.Deep.RegionHeld3
namespace Go.Proofs.Ytekjjgnokjhleaa
open Go.RowKit

set_option maxRecDepth 100000 in
set_option maxHeartbeats 6000000 in
theorem walk_FnKeptMany (w : World) (v : Value) (bs : List UInt8) (hv : rd w w.heap.size v bs) :
    Calls Try.prog 14 #[v] w fun e w' => e = .returned (.bool true) ∧ Below w.heap.size w w' := by
  have hv0 := hv
  obtain ⟨A, n, c, rfl, hn, hc, hm, _⟩ := hv
  subst hn
  unfold maxLen at hm
  go_enter Try.func14, Try.ntmps14
  by_cases hsz : 1048576 < bs.length
  · go_wp2_with fail
    go_ret
    exact ⟨rfl, Below.refl _ _⟩
  go_wp2_with fail
  refine (draw_DrawMovedLetters _ bs w hv0).mono ?_
  rintro e w1 ⟨vp, vb, p, xs, rfl, ov, ob, hxl, hol, b1⟩
  have hvp := ov.rdp
  obtain ⟨A0, c0, e0⟩ := openP hvp
  obtain ⟨w0, hw0⟩ : ∃ w0, w0 = w1.alloc (Obj.cells #[.int .i64 p.bins, .int .i64 p.passes, .slice A0 p.order.length c0] 25) := ⟨_, rfl⟩
  have q0 := box_cells hw0 0 (.int .i64 p.bins) rfl
  have q1 := box_cells hw0 1 (.int .i64 p.passes) rfl
  have q2 := box_cells hw0 2 (.slice A0 p.order.length c0) rfl
  have HT := Lib.hid (box_later hw0).1
  have HP := Lib.hid (hvp.on HT.out)
  subst e0
  have HB := Lib.hid (ob.rd.on HT.out)
  have HWB : Hid (Below w.heap.size w w0) := b1.trans (HT.out.mono b1.size)
  have HW0 := Lib.hid hw0
  have l0 := Below.refl w0.heap.size w0
  clear hw0 hvp ov ob b1 HT hv0
  go_wp2_with fail
  rw [← HW0.out]
  have hvb := HB.out
  obtain ⟨Ab, nb, cb, hvb, hnb, hcb, hmb, _⟩ := hvb
  subst hnb hvb
  unfold maxLen at hmb
  have hnn : ((-1 : Int) != -1) = false := rfl
  have hne : ((-1 : Int) == -1) = true := rfl
  cases hok : rpOk p xs
  · have HMI : Hid (movedI p xs = -1) := movedI_no hok
    clear hok
    refine (impl_MovedLetters _ _ p xs _ HP.out HB.out).mono ?_
    rw [HMI.out]
    rintro e w3 ⟨rfl, b3⟩
    have l3 := later_trans l0 b3
    go_wp2_with fail
    refine (spec_MovedLetters _ _ p xs _ (HP.out.on l3) (HB.out.on l3) (by omega)).mono ?_
    rw [HMI.out]
    rintro e w5 ⟨rfl, b5⟩
    have l5 := later_trans l3 b5
    go_wp2_with fail
    refine (spec_MovedLetters _ _ p xs _ (HP.out.on l5) (HB.out.on l5) (by omega)).mono ?_
    rw [HMI.out]
    rintro e w7 ⟨rfl, b7⟩
    have l7 := later_trans l5 b7
    go_wp2_with fail
    go_ret
    exact ⟨rfl, HWB.out.trans (l7.mono HWB.out.size)⟩
  have HOK := Lib.hid hok
  have hxl6 : xs.length ≤ 60 := by
    unfold rpOk at hok
    simp only [Bool.and_eq_true] at hok
    exact okB_len' hok.2
  clear hok
  obtain ⟨K, hK⟩ : ∃ K, K = keptN p xs := ⟨_, rfl⟩
  have hKl : K ≤ xs.length := by rw [hK]; exact keptN_le p xs
  obtain ⟨M, hM⟩ : ∃ M, M + K = xs.length := ⟨xs.length - K, by omega⟩
  have HMI : Hid (movedI p xs = (M : Int)) := by show _ = _; rw [movedI_ok HOK.out, ← hK]; omega
  have HKX : Hid (keptN p xs = K) := hK.symm
  clear hK
  have hMM : ((M : Int) != (M : Int)) = false := by simp
  have hM0 : decide ((M : Int) < 0) = false := decide_eq_false (by omega)
  have hMl : M ≤ 60 := by omega
  have HM := Lib.hid hM; clear hM
  refine (impl_MovedLetters _ _ p xs _ HP.out HB.out).mono ?_
  rw [HMI.out]
  rintro e w3 ⟨rfl, b3⟩
  have l3 := later_trans l0 b3
  clear b3 l0
  go_wp2_with fail
  refine (spec_MovedLetters _ _ p xs _ (HP.out.on l3) (HB.out.on l3) (by omega)).mono ?_
  rw [HMI.out]
  rintro e w5 ⟨rfl, b5⟩
  have l5 := later_trans l3 b5
  clear b5 l3
  obtain ⟨i0, hi, hz0, hz1, hz2⟩ := info_parts Try.infoLtr
  have oE := own.made0 (α := Ltr) w5 44 (Nat.le_refl _)
  have hB6 : Below w5.heap.size w5 (w5.alloc (Obj.cells #[] 44)) := (Below.refl _ _).alloc (Nat.le_refl _) _
  have hz6 : w5.heap.size ≤ (w5.alloc (Obj.cells #[] 44)).heap.size := by simp
  have HBE : Hid (rd (w5.alloc (Obj.cells #[] 44)) (w5.alloc (Obj.cells #[] 44)).heap.size (.slice Ab xs.length cb) xs) := (HB.out.on l5).on hB6
  go_wp2_with (at_builtin; refine wpList_appendAll (α := Ltr) rfl (.tmp 34) (.tmp 35) _ rfl w5.heap.size 44 i0 _ 24 Try.underlying34 hi hz0 hz1 hz2 rfl (by decide) (.slice (some ⟨w5.heap.size, 0, none⟩) 0 0) [] rfl oE _ xs rfl _ HBE.out (by unfold maxLen; simp only [List.length_nil]; omega) (by simp only [List.length_nil]; omega) hz6 ?_; intro v6 w6 o6 hg6 _)
  have l6 : Below w5.heap.size w5 w6 := hB6.trans (below_append oE hg6 hz6)
  rw [List.nil_append] at o6
  have HR6 : Hid (rd w6 w6.heap.size v6 xs) := o6.rd
  have l6' := later_trans l5 l6
  clear hg6 hB6 hz6 oE HBE o6 l5 l6 hi hz0 hz1 hz2 i0
  have bq0 : ∀ W, Below w6.heap.size w6 W → W.cell? ⟨w1.heap.size, 0, none⟩ = some (.int .i64 p.bins) := fun W h => q0 W (later_trans l6' h)
  have bq1 : ∀ W, Below w6.heap.size w6 W → W.cell? ⟨w1.heap.size, 1, none⟩ = some (.int .i64 p.passes) := fun W h => q1 W (later_trans l6' h)
  have bq2 : ∀ W, Below w6.heap.size w6 W → W.cell? ⟨w1.heap.size, 2, none⟩ = some (.slice A0 p.order.length c0) := fun W h => q2 W (later_trans l6' h)
  have L6 := Lib.hid l6'
  clear q0 q1 q2 l6'
  go_wp2_with fail
  go_loopw [6, 7] (fun t i wr => ∃ (k : Nat) (ys : List Ltr), k ≤ ys.length ∧ ys.length ≤ 60 ∧ i = .int .i64 k ∧ Hid (rd wr wr.heap.size t ys) ∧ Hid (rpOk p ys = true) ∧ Hid (tightTo p K ys k) ∧ Below w6.heap.size w6 wr) (fun t i _ => match t with | .slice _ n _ => n - (intOf i).toNat | _ => 0)
  case atStart => exact ⟨0, xs, Nat.zero_le _, hxl6, rfl, HR6.out, HOK.out, ⟨HKX.out, fun j hj => absurd hj (Nat.not_lt_zero j)⟩, Below.refl _ _⟩
  case round =>
    obtain ⟨k, ys, hk, hy60, rfl, HY, HRP, HTT, lr⟩ := hrel
    obtain ⟨W6, rfl⟩ : ∃ w6 : World, w6 = wr := ⟨_, rfl⟩
    have hv := HY.out
    obtain ⟨Ay, ny, cy, hvy, hny, hcy, hmy, hry⟩ := hv
    subst hny hvy
    unfold maxLen at hmy
    by_cases hlt : k < ys.length
    · obtain ⟨bx, o, rfl, _, _, _, _⟩ := hry.ltrU k hlt
      clear hry
      have hki : (k : Int) < (ys.length : Int) := by omega
      have hk1 : (k : Int) + 1 ≤ (ys.length : Int) := by omega
      have hkc : (k : Int) ≤ (cy : Int) := by omega
      have hkc3 : (k : Int) ≤ (k : Int) + 1 := by omega
      have hk3 : ((k : Int) + 1).toNat = k + 1 := by omega
      have hk4 : (0 : Int) ≤ (k : Int) + 1 := by omega
      have hws : IntKind.i64.wrap ((k : Int) + 1) = (k : Int) + 1 := IntWalk.i64_in _ (by omega)
      have HV1 : Hid (∀ W, Below W6.heap.size W6 W → rd W W.heap.size (.slice (some ⟨bx, o, none⟩) k cy) (ys.take k)) := fun W h => rd_takeL (HY.out.on h) hk
      have HER : Hid (ys.take k ++ ys.drop (k + 1) = ys.eraseIdx k) := erase_split ys k hlt
      have HEL : Hid ((ys.eraseIdx k).length + 1 = ys.length) := by show _ = _; rw [List.length_eraseIdx, if_pos hlt]; omega
      have HRE : Hid (rpOk p (ys.eraseIdx k) = true) := rpOk_erase HRP.out k
      have HKE : Hid (keptN p (ys.eraseIdx k) = K ∨ keptN p (ys.eraseIdx k) + 1 = K) := by have h := keptN_erase p ys k hlt; rw [HTT.out.1] at h; exact h
      obtain ⟨YS, rfl⟩ : ∃ Z : List Ltr, Z = ys := ⟨_, rfl⟩
      have hKy : K ≤ YS.length := by rw [← HTT.out.1]; exact keptN_le p YS
      have HMY : Hid (movedI p YS = (YS.length : Int) - K) := by show _ = _; rw [movedI_ok HRP.out, HTT.out.1]
      by_cases hck : cy = k + 1
      · subst hck
        have HV2 : Hid (∀ W, Below W6.heap.size W6 W → rd W W.heap.size (.slice (some ⟨bx, o, none⟩) 0 0) (YS.drop (k + 1))) := fun W h => by have h := rd_dropAll (HY.out.on h) (by omega) rfl; rwa [Nat.sub_self, show YS.length - (k + 1) = 0 by omega] at h
        have oE := own.made0 (α := Ltr) W6 44 (Nat.le_refl _)
        have oED : own (α := Ltr) 44 W6.heap.size (W6.drew.alloc (Obj.cells #[] 44)) (.slice (some ⟨W6.heap.size, 0, none⟩) 0 0) [] := own.made0 W6.drew _ (Nat.le_refl _)
        have lE : Below W6.heap.size W6 (W6.alloc (Obj.cells #[] 44)) := (Below.refl _ _).alloc (Nat.le_refl _) _
        have lE1 : Below W6.heap.size W6 (W6.alloc (Obj.cells #[] 44)).drew := lE.drew
        have lE2 : Below W6.heap.size W6 (W6.drew.alloc (Obj.cells #[] 44)) := ((Below.refl _ _).drew).alloc (Nat.le_refl _) _
        obtain ⟨i0, hi, hz0, hz1, hz2⟩ := info_parts Try.infoLtr
        go_wp2_with fail
        go_region_law (first | (refine step_appendAll (α := Ltr) (by rfl) (.tmp 41) (.tmp 44) 34 (by rfl) W6.heap.size 44 i0 _ 24 Try.underlying34 hi hz0 hz1 hz2 rfl (by decide) (.slice (some ⟨W6.heap.size, 0, none⟩) 0 0) [] (by rfl) (by first | exact oE | exact oE.drew | exact oED) _ (YS.take k) (by rfl) _ (HV1.out _ (by first | exact lE | exact lE1 | exact lE2)) (by unfold maxLen; simp only [List.length_nil, List.length_take]; omega) (by simp only [List.length_nil, List.length_take]; omega) (by simp) ?_; intro v7 w7 o7 hg7 _; have l7 : Below W6.heap.size W6 w7 := (by first | exact lE.trans (below_append oE hg7 (by simp)) | exact lE1.trans (below_append oE.drew hg7 (by simp)) | exact lE2.trans (below_append oED hg7 (by simp))); rw [List.nil_append] at o7; have hz7 := l7.size) | (refine step_appendAll (α := Ltr) (by rfl) (.tmp 45) (.tmp 49) 34 (by rfl) W6.heap.size 44 i0 _ 24 Try.underlying34 hi hz0 hz1 hz2 rfl (by decide) v7 (YS.take k) (by rfl) o7 _ (YS.drop (k + 1)) (by rfl) _ (HV2.out _ l7) (by unfold maxLen; simp only [List.length_take, List.length_drop]; omega) (by simp only [List.length_take, List.length_drop]; omega) hz7 ?_; intro v8 w8 o8 hg8 _; have l8 : Below W6.heap.size W6 w8 := l7.trans (below_append o7 hg8 hz7)))
        all_goals
          rw [HER.out] at o8
          have o8r := Lib.hid o8.rd
          have HC1 : Hid (∀ W, Below w8.heap.size w8 W → Calls Try.prog 44 #[.agg #[.int .i64 p.bins, .int .i64 p.passes, .slice A0 p.order.length c0], v8] W fun e W' => e = .returned (.int .i64 (((YS.eraseIdx k).length : Int) - keptN p (YS.eraseIdx k))) ∧ Below w8.heap.size w8 W') := fun W l => by
            refine (impl_MovedLetters _ _ p (YS.eraseIdx k) W (HP.out.on (later_trans (later_trans (later_trans L6.out lr) l8) l)) (o8r.out.on l)).mono ?_
            rw [movedI_ok HRE.out]
            rintro e W' ⟨rfl, b⟩
            exact ⟨rfl, later_trans l b⟩
          have HC2 : Hid (∀ W, Below w8.heap.size w8 W → Calls Try.prog 44 #[.agg #[.int .i64 p.bins, .int .i64 p.passes, .slice A0 p.order.length c0], .slice (some ⟨bx, o, none⟩) YS.length (k + 1)] W fun e W' => e = .returned (.int .i64 ((YS.length : Int) - K)) ∧ Below w8.heap.size w8 W') := fun W l => by
            refine (impl_MovedLetters _ _ p YS W (HP.out.on (later_trans (later_trans (later_trans L6.out lr) l8) l)) ((HY.out.on l8).on l)).mono ?_
            rw [HMY.out]
            rintro e W' ⟨rfl, b⟩
            exact ⟨rfl, later_trans l b⟩
          have lr8 := later_trans lr l8
          have y0 : ∀ W, Below w8.heap.size w8 W → W.cell? ⟨w1.heap.size, 0, none⟩ = some (.int .i64 p.bins) := fun W h => bq0 W (later_trans lr8 h)
          have y1 : ∀ W, Below w8.heap.size w8 W → W.cell? ⟨w1.heap.size, 1, none⟩ = some (.int .i64 p.passes) := fun W h => bq1 W (later_trans lr8 h)
          have y2 : ∀ W, Below w8.heap.size w8 W → W.cell? ⟨w1.heap.size, 2, none⟩ = some (.slice A0 p.order.length c0) := fun W h => bq2 W (later_trans lr8 h)
          have Q0 := Lib.hid bq0; have Q1 := Lib.hid bq1; have Q2 := Lib.hid bq2
          have LR8 := Lib.hid lr8
          clear oE oED lE lE1 lE2 o7 l7 hg7 hg8 bq0 bq1 bq2 lr8
          have ld : Below w8.heap.size w8 w8.drew := later_drew (Below.refl _ _)
          have hE := HKE.out
          have hEL := HEL.out
          obtain ⟨a1, ha1⟩ : ∃ a1, a1 = ((YS.eraseIdx k).length : Int) - keptN p (YS.eraseIdx k) := ⟨_, rfl⟩
          obtain ⟨a2, ha2⟩ : ∃ a2, a2 = (YS.length : Int) - K := ⟨_, rfl⟩
          rw [← ha1] at HC1
          rw [← ha2] at HC2
          by_cases hcut : keptN p (YS.eraseIdx k) < keptN p YS
          · have hdl : decide (a1 < a2) = false := decide_eq_false (by have := HTT.out.1; omega)
            have HTN := Lib.hid (tight_next HTT.out hlt hcut)
            clear hE hEL ha1 ha2 hcut
            go_wp2_with fail
            go_region_held3 (fun W => Below w8.heap.size w8 W) (first | exact ld | exact l10 | exact l9) (first | (go_at_call 44; (with_reducible refine (HC1.out _ l9).mono ?_); rintro e w10 ⟨rfl, l10⟩) | (go_at_call 44; (with_reducible refine (HC2.out _ l9).mono ?_); rintro e w10 ⟨rfl, l10⟩) | (go_at_call 44; (with_reducible refine (HC1.out _ ld).mono ?_); rintro e w9 ⟨rfl, l9⟩) | (go_at_call 44; (with_reducible refine (HC2.out _ ld).mono ?_); rintro e w9 ⟨rfl, l9⟩))
            all_goals
              go_wp2_with fail
              go_roundw
              case rel => exact ⟨k + 1, YS, by omega, hy60, by go_num, (HY.out.on l8).on l10, HRP.out, HTN.out, later_trans LR8.out l10⟩
              case measure => simp [intOf]; omega
          · have hdl : decide (a1 < a2) = true := decide_eq_true (by have := HTT.out.1; omega)
            have HTN := Lib.hid (tight_drop HTT.out hlt hcut)
            obtain ⟨A8, n8, c8, hv8, hn8, _, _, _⟩ := o8.rd
            subst hn8 hv8
            clear hE ha1 ha2 hcut
            go_wp2_with fail
            go_region_held3 (fun W => Below w8.heap.size w8 W) (first | exact ld | exact l10 | exact l9) (first | (go_at_call 44; (with_reducible refine (HC1.out _ l9).mono ?_); rintro e w10 ⟨rfl, l10⟩) | (go_at_call 44; (with_reducible refine (HC2.out _ l9).mono ?_); rintro e w10 ⟨rfl, l10⟩) | (go_at_call 44; (with_reducible refine (HC1.out _ ld).mono ?_); rintro e w9 ⟨rfl, l9⟩) | (go_at_call 44; (with_reducible refine (HC2.out _ ld).mono ?_); rintro e w9 ⟨rfl, l9⟩))
            all_goals
              go_wp2_with fail
              go_roundw
              case rel => exact ⟨k, YS.eraseIdx k, by omega, by omega, rfl, o8r.out.on l10, HRE.out, HTN.out, later_trans LR8.out l10⟩
              case measure => simp [intOf]; omega
      · have HV2 : Hid (∀ W, Below W6.heap.size W6 W → rd W W.heap.size (.slice (some ⟨bx, o + (k + 1) * 2, none⟩) (YS.length - (k + 1)) (cy - (k + 1))) (YS.drop (k + 1))) := fun W h => rd_dropL (HY.out.on h) (by omega)
        have oE := own.made0 (α := Ltr) W6 44 (Nat.le_refl _)
        have oED : own (α := Ltr) 44 W6.heap.size (W6.drew.alloc (Obj.cells #[] 44)) (.slice (some ⟨W6.heap.size, 0, none⟩) 0 0) [] := own.made0 W6.drew _ (Nat.le_refl _)
        have lE : Below W6.heap.size W6 (W6.alloc (Obj.cells #[] 44)) := (Below.refl _ _).alloc (Nat.le_refl _) _
        have lE1 : Below W6.heap.size W6 (W6.alloc (Obj.cells #[] 44)).drew := lE.drew
        have lE2 : Below W6.heap.size W6 (W6.drew.alloc (Obj.cells #[] 44)) := ((Below.refl _ _).drew).alloc (Nat.le_refl _) _
        obtain ⟨i0, hi, hz0, hz1, hz2⟩ := info_parts Try.infoLtr
        go_wp2_with fail
        go_region_law (first | (refine step_appendAll (α := Ltr) (by rfl) (.tmp 41) (.tmp 44) 34 (by rfl) W6.heap.size 44 i0 _ 24 Try.underlying34 hi hz0 hz1 hz2 rfl (by decide) (.slice (some ⟨W6.heap.size, 0, none⟩) 0 0) [] (by rfl) (by first | exact oE | exact oE.drew | exact oED) _ (YS.take k) (by rfl) _ (HV1.out _ (by first | exact lE | exact lE1 | exact lE2)) (by unfold maxLen; simp only [List.length_nil, List.length_take]; omega) (by simp only [List.length_nil, List.length_take]; omega) (by simp) ?_; intro v7 w7 o7 hg7 _; have l7 : Below W6.heap.size W6 w7 := (by first | exact lE.trans (below_append oE hg7 (by simp)) | exact lE1.trans (below_append oE.drew hg7 (by simp)) | exact lE2.trans (below_append oED hg7 (by simp))); rw [List.nil_append] at o7; have hz7 := l7.size) | (refine step_appendAll (α := Ltr) (by rfl) (.tmp 45) (.tmp 49) 34 (by rfl) W6.heap.size 44 i0 _ 24 Try.underlying34 hi hz0 hz1 hz2 rfl (by decide) v7 (YS.take k) (by rfl) o7 _ (YS.drop (k + 1)) (by rfl) _ (HV2.out _ l7) (by unfold maxLen; simp only [List.length_take, List.length_drop]; omega) (by simp only [List.length_take, List.length_drop]; omega) hz7 ?_; intro v8 w8 o8 hg8 _; have l8 : Below W6.heap.size W6 w8 := l7.trans (below_append o7 hg8 hz7)))
        all_goals
          rw [HER.out] at o8
          have o8r := Lib.hid o8.rd
          have HC1 : Hid (∀ W, Below w8.heap.size w8 W → Calls Try.prog 44 #[.agg #[.int .i64 p.bins, .int .i64 p.passes, .slice A0 p.order.length c0], v8] W fun e W' => e = .returned (.int .i64 (((YS.eraseIdx k).length : Int) - keptN p (YS.eraseIdx k))) ∧ Below w8.heap.size w8 W') := fun W l => by
            refine (impl_MovedLetters _ _ p (YS.eraseIdx k) W (HP.out.on (later_trans (later_trans (later_trans L6.out lr) l8) l)) (o8r.out.on l)).mono ?_
            rw [movedI_ok HRE.out]
            rintro e W' ⟨rfl, b⟩
            exact ⟨rfl, later_trans l b⟩
          have HC2 : Hid (∀ W, Below w8.heap.size w8 W → Calls Try.prog 44 #[.agg #[.int .i64 p.bins, .int .i64 p.passes, .slice A0 p.order.length c0], .slice (some ⟨bx, o, none⟩) YS.length cy] W fun e W' => e = .returned (.int .i64 ((YS.length : Int) - K)) ∧ Below w8.heap.size w8 W') := fun W l => by
            refine (impl_MovedLetters _ _ p YS W (HP.out.on (later_trans (later_trans (later_trans L6.out lr) l8) l)) ((HY.out.on l8).on l)).mono ?_
            rw [HMY.out]
            rintro e W' ⟨rfl, b⟩
            exact ⟨rfl, later_trans l b⟩
          have lr8 := later_trans lr l8
          have y0 : ∀ W, Below w8.heap.size w8 W → W.cell? ⟨w1.heap.size, 0, none⟩ = some (.int .i64 p.bins) := fun W h => bq0 W (later_trans lr8 h)
          have y1 : ∀ W, Below w8.heap.size w8 W → W.cell? ⟨w1.heap.size, 1, none⟩ = some (.int .i64 p.passes) := fun W h => bq1 W (later_trans lr8 h)
          have y2 : ∀ W, Below w8.heap.size w8 W → W.cell? ⟨w1.heap.size, 2, none⟩ = some (.slice A0 p.order.length c0) := fun W h => bq2 W (later_trans lr8 h)
          have Q0 := Lib.hid bq0; have Q1 := Lib.hid bq1; have Q2 := Lib.hid bq2
          have LR8 := Lib.hid lr8
          clear oE oED lE lE1 lE2 o7 l7 hg7 hg8 bq0 bq1 bq2 lr8
          have ld : Below w8.heap.size w8 w8.drew := later_drew (Below.refl _ _)
          have hE := HKE.out
          have hEL := HEL.out
          obtain ⟨a1, ha1⟩ : ∃ a1, a1 = ((YS.eraseIdx k).length : Int) - keptN p (YS.eraseIdx k) := ⟨_, rfl⟩
          obtain ⟨a2, ha2⟩ : ∃ a2, a2 = (YS.length : Int) - K := ⟨_, rfl⟩
          rw [← ha1] at HC1
          rw [← ha2] at HC2
          by_cases hcut : keptN p (YS.eraseIdx k) < keptN p YS
          · have hdl : decide (a1 < a2) = false := decide_eq_false (by have := HTT.out.1; omega)
            have HTN := Lib.hid (tight_next HTT.out hlt hcut)
            clear hE hEL ha1 ha2 hcut
            go_wp2_with fail
            go_region_held3 (fun W => Below w8.heap.size w8 W) (first | exact ld | exact l10 | exact l9) (first | (go_at_call 44; (with_reducible refine (HC1.out _ l9).mono ?_); rintro e w10 ⟨rfl, l10⟩) | (go_at_call 44; (with_reducible refine (HC2.out _ l9).mono ?_); rintro e w10 ⟨rfl, l10⟩) | (go_at_call 44; (with_reducible refine (HC1.out _ ld).mono ?_); rintro e w9 ⟨rfl, l9⟩) | (go_at_call 44; (with_reducible refine (HC2.out _ ld).mono ?_); rintro e w9 ⟨rfl, l9⟩))
            all_goals
              go_wp2_with fail
              go_roundw
              case rel => exact ⟨k + 1, YS, by omega, hy60, by go_num, (HY.out.on l8).on l10, HRP.out, HTN.out, later_trans LR8.out l10⟩
              case measure => simp [intOf]; omega
          · have hdl : decide (a1 < a2) = true := decide_eq_true (by have := HTT.out.1; omega)
            have HTN := Lib.hid (tight_drop HTT.out hlt hcut)
            obtain ⟨A8, n8, c8, hv8, hn8, _, _, _⟩ := o8.rd
            subst hn8 hv8
            clear hE ha1 ha2 hcut
            go_wp2_with fail
            go_region_held3 (fun W => Below w8.heap.size w8 W) (first | exact ld | exact l10 | exact l9) (first | (go_at_call 44; (with_reducible refine (HC1.out _ l9).mono ?_); rintro e w10 ⟨rfl, l10⟩) | (go_at_call 44; (with_reducible refine (HC2.out _ l9).mono ?_); rintro e w10 ⟨rfl, l10⟩) | (go_at_call 44; (with_reducible refine (HC1.out _ ld).mono ?_); rintro e w9 ⟨rfl, l9⟩) | (go_at_call 44; (with_reducible refine (HC2.out _ ld).mono ?_); rintro e w9 ⟨rfl, l9⟩))
            all_goals
              go_wp2_with fail
              go_roundw
              case rel => exact ⟨k, YS.eraseIdx k, by omega, by omega, rfl, o8r.out.on l10, HRE.out, HTN.out, later_trans LR8.out l10⟩
              case measure => simp [intOf]; omega
    · have e : k = ys.length := by omega
      subst e
      obtain ⟨hyl, hyo⟩ := tight_end HTT.out
      have HYO := Lib.hid hyo
      have hwr : IntKind.i64.wrap ((xs.length : Int) - (M : Int)) = (K : Int) := by have := HM.out; rw [IntWalk.i64_in _ (by omega)]; omega
      have hee : ((ys.length : Int) == (K : Int)) = true := by simp [hyl]
      have x0 := bq0 _ lr
      have x1 := bq1 _ lr
      have x2 := bq2 _ lr
      clear hyl hyo hry
      go_wp2_with fail
      refine (impl_InOrder _ _ p ys _ (HP.out.on (later_trans L6.out lr)) HY.out).mono ?_
      rintro e w7 ⟨b, rfl, hb, b7⟩
      obtain rfl : b = true := hb.2 ⟨HRP.out, HYO.out⟩
      have l7 := later_trans (later_trans L6.out lr) b7
      go_wp2_with fail
      go_ret
      exact ⟨rfl, HWB.out.trans (l7.mono HWB.out.size)⟩

end Go.Proofs.Ytekjjgnokjhleaa
