/- FB FC -/
import Derived.Test.YtffbcfaahegglaaGreatDoorQ23
import Derived.Test.YtffbcfaahegglaaGreatDoorQ42
import Derived.Test.YtffbcfaahegglaaGreatDoorQ5
namespace Go.Proofs.YtffbcfaahegglaaGreatDoor
open Go.RowKit

/-- The library's table of powers of ten lies where it lay. -/
def TabW (w : World) : Prop := Lib.TabIs Tryz.prog w "internal/strconv.uint64pow10" .u64 Lib.pow10Tab
theorem TabW.on {w w' : World} (h : TabW w) (hb : Below w.heap.size w w') : TabW w' :=
  Go.Joins.tab_stays (g := 1) (by kernel_rfl) h hb (Nat.le_refl _)
theorem below_grow (w : World) (k : Nat) (os : Array Obj) : Below w.heap.size w (Go.Sort.grow (w.drewN k) os) := by
  have h := below_drewN (Below.refl w.heap.size w) k
  refine ⟨h.os, h.tape, h.output, ?_, fun i hi => ?_⟩
  · show _ ≤ ((w.drewN k).heap ++ os).size
    rw [Array.size_append]
    have := h.size
    omega
  · show ((w.drewN k).heap ++ os)[i]? = _
    rw [Array.getElem?_append_left (by have := h.size; omega)]
    exact h.block i hi
theorem strconv_ItoaN (n : Nat) (w : World) (hn : n ≤ 9999) (ht : TabW w) :
    Calls Tryz.prog 86 #[.int .i64 (n : Int)] w fun e w' => e = .returned (.string (decB n)) ∧ Below w.heap.size w w' := by
  refine (Tryz.strconv_Itoa (n : Int) (by omega) (by omega) w ht).mono ?_
  rintro e w' ⟨rfl, k, os, rfl⟩
  exact ⟨by rw [itoa_dec], below_grow w k os⟩

theorem join_own {T base g n c : Nat} {w : World} {ps : List ByteArray} {sep : ByteArray} (h : own T base w (.slice (some ⟨g, 0, none⟩) n c) ps) (hn : n = ps.length) (hN : ps.length ≤ 1048576) (hs : (joinT ps sep).size ≤ 140737488355328) :
    Calls Tryz.prog 54 #[.slice (some ⟨g, 0, none⟩) n c, .string sep] w fun e w' => e = .returned (.string (joinT ps sep)) ∧ Below w.heap.size w w' := by
  obtain ⟨A', n', c', hv, hn', hc, hm, hr⟩ := h.rd
  injection hv with e1 e2 e3
  subst e1 e2 e3 hn
  have hg : g < w.heap.size := (h.blk g rfl).2
  refine Tryz.strings_Join g 0 c ps sep w (fun j x hx => ?_) hg (by omega) hc (by rw [joinT_len]; exact hs)
  · obtain ⟨hj, rfl⟩ := List.getElem?_eq_some_iff.1 hx
    obtain ⟨b, o, hA, _, _, c1⟩ := hr.str j hj
    injection hA with hA
    injection hA with hA1 hA2
    subst hA1 hA2
    exact c1

set_option maxRecDepth 100000 in
set_option maxHeartbeats 1600000 in
theorem impl_FormatBatch (v : Value) (xs : List Ltr) (w : World) (hv : rd w w.heap.size v xs) (ht : TabW w) :
    Calls Tryz.prog 53 #[v] w fun e w' => e = .returned (.string (fmtB xs)) ∧ Below w.heap.size w w' := by
  have HV := Lib.hid hv
  obtain ⟨A, n, c, rfl, hn, hc, hm, hr⟩ := hv
  subst hn
  have HR := Lib.hid hr; clear hr
  have HT := Lib.hid ht; clear ht
  obtain ⟨i0, hi, hz0, hz1, hz2⟩ := info_parts Tryz.infoStr
  have l0 := Below.refl w.heap.size w
  go_enter Tryz.func53, Tryz.ntmps53
  go_wp2_with fail
  refine (impl_BatchValid _ xs _ HV.out).mono ?_
  rintro e w1 ⟨rfl, b1⟩
  have l1 := b1
  clear b1 l0
  cases hok : okB xs
  · have HF := Lib.hid (fmtB_no hok)
    clear hok
    go_wp2_with fail
    go_ret
    exact ⟨ret_str HF.out.symm, l1⟩
  have HOK := Lib.hid hok
  have h60 := (okB_iff.1 hok).1
  by_cases h0 : xs.length = 0
  · have HF := Lib.hid (fmtB_empty hok h0)
    have hl0 : ((xs.length : Int) == 0) = true := by rw [h0]; rfl
    clear hok h0
    go_wp2_with fail
    go_ret
    exact ⟨ret_str HF.out.symm, l1⟩
  have HF := Lib.hid (fmtB_some hok h0)
  have hl0 : ((xs.length : Int) == 0) = false := beq_eq_false_iff_ne.2 (by omega)
  have hpos : 0 < xs.length := by omega
  clear hok h0
  have hmk := make_row (P := Tryz.prog) 23 9 i0 _ Tryz.underlying23 hi hz0 xs.length (by rw [hz2]; omega) (by omega)
  go_wp2_with fail
  have hf0 : filled 9 (w1.alloc (Obj.cells (madeCells #[.string ⟨#[]⟩] xs.length) 9)) w1.heap.size xs.length 0 (xs.map fmtL) := filled.made w1 _ _ _ (by rw [size_madeCells]; exact (Nat.mul_one _).symm) _
  have hb0 : Below w1.heap.size w1 (w1.alloc (Obj.cells (madeCells #[.string ⟨#[]⟩] xs.length) 9)) := (Below.refl _ _).alloc (Nat.le_refl _) _
  generalize w1.alloc (Obj.cells (madeCells #[.string ⟨#[]⟩] xs.length) 9) = w0 at *
  clear hmk
  have HLN : Hid ((xs.map fmtL).length = xs.length) := by show _ = _; rw [List.length_map]
  go_loopw [17] (fun i wr => ∃ k : Nat, k ≤ xs.length ∧ i = .int .i64 k ∧ Below w1.heap.size w1 wr ∧ filled 9 wr w1.heap.size xs.length k (xs.map fmtL)) (fun i _ => xs.length - (intOf i).toNat)
  case atStart => exact ⟨0, Nat.zero_le _, rfl, hb0, hf0⟩
  case round =>
    obtain ⟨k, hk, rfl, hbl, hf⟩ := hrel
    obtain ⟨w2, rfl⟩ : ∃ w2 : World, w2 = wr := ⟨_, rfl⟩
    clear hf0 hb0
    have hs1 := l1.size
    by_cases hlt : k < xs.length
    · obtain ⟨b, o, rfl, hb, ⟨⟨hi1, hi2⟩, hcz⟩, y1, y2⟩ := HR.out.ltrU k hlt
      have y1 := y1 w2 (later_trans l1 hbl)
      have y2 := y2 w2 (later_trans l1 hbl)
      obtain ⟨z1, z2, z4, _⟩ := (okB_iff.1 HOK.out).2 k hlt
      have hLk : (xs.map fmtL)[k]'(by rw [HLN.out]; exact hlt) = fmtL xs[k] := by simp
      have HSZ := Lib.hid (okB_fmt HOK.out (fmtL xs[k]) (List.mem_map.2 ⟨_, List.getElem_mem hlt, rfl⟩))
      have HST := Lib.hid (fun (W : World) (hF : filled 9 W w1.heap.size xs.length k (xs.map fmtL)) => hF.step (by rw [HLN.out]; exact hlt) (by rw [HLN.out]; exact Nat.le_refl _) (ecs := [.string (fmtL xs[k])]) (by rw [hLk]; exact ⟨by have := HSZ.out.1; unfold maxLen; omega, rfl⟩))
      clear hLk
      generalize xs[k] = x at *
      obtain ⟨id, code⟩ := x
      simp only at hi1 hi2 hcz y1 y2 z1 z2 z4
      obtain ⟨m, rfl⟩ := Int.eq_ofNat_of_zero_le (show 0 ≤ id by omega)
      have hm9 : m ≤ 9999 := by omega
      have HFX : Hid (fmtL ⟨(m : Int), code⟩ = decB m ++ ⟨#[58]⟩ ++ code) := by show _ = _; unfold fmtL; rw [Int.toNat_natCast]
      have hki : (k : Int) < (xs.length : Int) := by omega
      have hki0 : (0 : Int) ≤ (k : Int) := by omega
      have hs2 := hbl.size
      obtain ⟨wb, hwb⟩ : ∃ u, u = w2.alloc (Obj.cells #[.int .i64 (m : Int), .string code] 61) := ⟨_, rfl⟩
      have q0 := box_cells hwb 0 (.int .i64 (m : Int)) rfl
      have q1 := box_cells hwb 1 (.string code) rfl
      have lb := (box_later hwb).1
      have hne : w1.heap.size < w2.heap.size := by obtain ⟨cs, h1, _⟩ := hf; exact (Array.getElem?_eq_some_iff.1 h1).1
      have HFB := Lib.hid (hf.below lb)
      have HLB := Lib.hid (later_trans hbl lb)
      have HTB := Lib.hid (HT.out.on (later_trans (later_trans l1 hbl) lb))
      have HWB := Lib.hid hwb; clear hwb hf
      go_wp2_with fail
      rw [← HWB.out]
      have ld := later_drew (Below.refl wb.heap.size wb)
      have hwz : wb.heap.size = w2.heap.size + 1 := by rw [HWB.out]; simp
      have e0 := q0 _ ld
      have e1 := q1 _ ld
      obtain ⟨hd4, _⟩ := dec10_size hm9
      have HIT := Lib.hid (fun W (hW : Below wb.heap.size wb W) => strconv_ItoaN m W hm9 (HTB.out.on hW))
      generalize decB m = t at *
      have hc7 : code.size = 7 := by
        unfold isCode at z4
        rw [Bool.and_eq_true, beq_iff_eq] at z4
        exact z4.1
      have hs58 : t.size + (⟨#[58]⟩ : ByteArray).size ≤ 9223372036854775807 := by show _ + 1 ≤ _; omega
      have hs59 : (t ++ (⟨#[58]⟩ : ByteArray)).size + code.size ≤ 9223372036854775807 := by rw [ByteArray.size_append]; show _ + 1 + _ ≤ _; omega
      have hs60 : ¬ 9223372036854775807 < t.size + 1 + code.size := by omega
      have hs61 : ¬ 9223372036854775807 < t.size + 1 := by omega
      have HC7 := Lib.hid hc7; clear hc7
      go_region_held3 (fun W => W.cell? ⟨w2.heap.size, 0, none⟩ = some (.int .i64 (m : Int)) ∧ W.cell? ⟨w2.heap.size, 1, none⟩ = some (.string code)) (first | exact ⟨e0, e1⟩ | exact ⟨e03, e13⟩ | exact ⟨e04 _, e14 _⟩ | fail) (first | (go_at_call 86; (with_reducible refine (HIT.out _ ld).mono ?_); rintro e w3 ⟨rfl, b3⟩; have l3 := later_trans ld b3; have e03 := q0 w3 l3; have e13 := q1 w3 l3; have hf3 := HFB.out.below l3; obtain ⟨u0, g0⟩ := hf3.cell (j := k) (by show _ < _ * 1; omega); have f0 := hf3.free k; have e04 := (fun v : Value => (World.cell?_setCell_other w3 ⟨w1.heap.size, k, none⟩ ⟨w2.heap.size, 0, none⟩ v (fun e => by injection e; omega)).trans e03); have e14 := (fun v : Value => (World.cell?_setCell_other w3 ⟨w1.heap.size, k, none⟩ ⟨w2.heap.size, 1, none⟩ v (fun e => by injection e; omega)).trans e13)) | fail)
      all_goals
        have HF3 := Lib.hid hf3
        have HB3 := Lib.hid (later_trans HLB.out l3)
        clear hf3 g0 f0 e03 e13 e04 e14 b3 l3 e0 e1
        go_wp2_with fail
        go_roundw
        case rel =>
          have := HST.out w3 HF3.out
          rw [show k * El.size ByteArray = k from Nat.mul_one k, HFX.out] at this
          exact ⟨k + 1, by omega, by go_num, HB3.out.trans (setAll_below [.string _] w3 k _ (Nat.le_refl _)), this⟩
        case measure => simp [intOf]; omega
    · have HE := Lib.hid (show k = xs.length by omega)
      have HO := Lib.hid ((HE.out ▸ hf : filled _ _ _ _ xs.length _).own HLN.out.symm (Nat.le_refl _) (by unfold maxLen; omega))
      clear hf
      have l2 := later_trans l1 hbl
      have hjz := joinT_size (xs.map fmtL) spT 12 fun p hp => (okB_fmt HOK.out p hp).1
      rw [HLN.out] at hjz
      have hjz2 : xs.length * (12 + spT.size) ≤ 60 * 13 := Nat.mul_le_mul h60 (Nat.le_refl _)
      have HJ := Lib.hid (join_own (sep := spT) HO.out HLN.out.symm (by rw [HLN.out]; omega) (by omega))
      clear hjz hjz2
      go_wp2_with fail
      refine HJ.out.mono ?_
      rw [← HF.out]
      rintro e w3 ⟨rfl, b3⟩
      have l3 := later_trans l2 b3
      go_wp2_with fail
      go_ret
      exact ⟨rfl, l3⟩

end Go.Proofs.YtffbcfaahegglaaGreatDoor

namespace Go.Proofs.YtffbcfaahegglaaGreatDoor
open Go.RowKit

theorem spec_l2Dash (s : ByteArray) (w : World) :
    Calls Tryz.prog 91 #[.string s] w fun e w' => e = .returned (.string (if s.size = 0 then ⟨#[45]⟩ else s)) ∧ w = w' := by
  by_cases h : s.size = 0
  · have he : s.toList.isEmpty = true := by
      rw [ByteArray.toList_eq, List.isEmpty_iff_length_eq_zero]; simpa using h
    rw [if_pos h]
    clear h
    go_enter Tryz.func91, Tryz.ntmps91
    go_wp2
    go_ret
    exact ⟨rfl, rfl⟩
  · have he : s.toList.isEmpty = false := by
      rw [ByteArray.toList_eq, Bool.eq_false_iff, Ne, List.isEmpty_iff_length_eq_zero]; simpa using h
    rw [if_neg h]
    clear h
    go_enter Tryz.func91, Tryz.ntmps91
    go_wp2
    go_ret
    exact ⟨rfl, rfl⟩

set_option maxRecDepth 100000 in
set_option maxHeartbeats 1600000 in
theorem spec_FormatBatch (v : Value) (xs : List Ltr) (w : World) (hv : rd w w.heap.size v xs) :
    Calls Tryz.prog 55 #[v] w fun e w' => e = .returned (.string (fmtB xs)) ∧ Below w.heap.size w w' := by
  have HV := Lib.hid hv
  obtain ⟨A, n, c, rfl, hn, hc, hm, hr⟩ := hv
  subst hn
  have HR := Lib.hid hr; clear hr
  go_enter Tryz.func55, Tryz.ntmps55
  go_wp2_with fail
  refine (spec_BatchValid _ xs _ HV.out).mono ?_
  rintro e w1 ⟨rfl, b1⟩
  have l1 := b1
  clear b1
  cases hok : okB xs
  · have HF := Lib.hid (fmtB_no hok)
    clear hok
    go_wp2_with fail
    go_ret
    exact ⟨ret_str HF.out.symm, l1⟩
  have HOK := Lib.hid hok
  have h60 := (okB_iff.1 hok).1
  have HF : Hid (fmtB xs = if (preB xs xs.length).size = 0 then ⟨#[45]⟩ else preB xs xs.length) := by
    show _ = _
    by_cases h0 : xs.length = 0
    · rw [fmtB_empty hok h0, h0, preB_zero]; rfl
    · have := preB_pos hok (by omega)
      rw [fmtB_some hok h0, if_neg (by omega)]
      unfold preB
      rw [List.take_length]
  clear hok
  go_wp2_with fail
  go_loopw [3, 4] (fun t i wr => ∃ k : Nat, k ≤ xs.length ∧ i = .int .i64 k ∧ t = .string (preB xs k) ∧ Below w.heap.size w wr) (fun _ i _ => xs.length - (intOf i).toNat)
  case atStart => exact ⟨0, Nat.zero_le _, rfl, by rw [preB_zero], l1⟩
  case round =>
    obtain ⟨k, hk, rfl, rfl, lr⟩ := hrel
    obtain ⟨w2, rfl⟩ : ∃ w2 : World, w2 = wr := ⟨_, rfl⟩
    clear l1
    by_cases hlt : k < xs.length
    · obtain ⟨b, o, rfl, hb, ⟨⟨hi1, hi2⟩, hcz⟩, y1, y2⟩ := HR.out.ltrU k hlt
      obtain ⟨z1, z2, z4, _⟩ := (okB_iff.1 HOK.out).2 k hlt
      have HP0 : Hid (k = 0 → preB xs 1 = fmtL xs[k]) := fun h => by subst h; exact preB_one hlt
      have HP1 := Lib.hid (fun h => preB_succ hlt h)
      have hps := preB_size HOK.out k
      have hZ := Lib.hid (preB_zero xs)
      obtain ⟨PN, hPN⟩ : ∃ P, preB xs (k + 1) = P := ⟨_, rfl⟩
      obtain ⟨P, hP⟩ : ∃ P, preB xs k = P := ⟨_, rfl⟩
      rw [hPN] at HP1
      rw [hP] at HP1 hps ⊢
      have HPN := Lib.hid hPN
      have HPK := Lib.hid hP
      clear hPN hP
      generalize xs[k] = x at *
      obtain ⟨id, code⟩ := x
      simp only at hi1 hi2 hcz y1 y2 z1 z2 z4
      obtain ⟨m, rfl⟩ := Int.eq_ofNat_of_zero_le (show 0 ≤ id by omega)
      have hm9 : m ≤ 9999 := by omega
      have HFX : Hid (fmtL ⟨(m : Int), code⟩ = decB m ++ ⟨#[58]⟩ ++ code) := by show _ = _; unfold fmtL; rw [Int.toNat_natCast]
      have hki : (k : Int) < (xs.length : Int) := by omega
      have hki0 : (0 : Int) ≤ (k : Int) := by omega
      have y1' := fun W (h : Below w2.heap.size w2 W) => y1 W (later_trans lr h)
      have y2' := fun W (h : Below w2.heap.size w2 W) => y2 W (later_trans lr h)
      obtain ⟨hd4, _⟩ := dec10_size hm9
      have HDC := Lib.hid (fun W => spec_l9Dec m W (by omega))
      have hc7 : code.size = 7 := by
        unfold isCode at z4
        rw [Bool.and_eq_true, beq_iff_eq] at z4
        exact z4.1
      have hc7' : code.size ≤ 7 := by omega
      have ld := later_drew (Below.refl w2.heap.size w2)
      clear y1 y2 hc7 z4 hi1 hi2
      generalize decB m = t at *
      by_cases hk0 : k = 0
      · subst hk0
        simp only [Nat.zero_mul, Nat.zero_add, Nat.add_zero] at y1' y2'
        have HEQ : Hid (Value.string (P ++ t ++ ⟨#[58]⟩ ++ code) = .string (preB xs (0 + 1))) := by
          show _ = _
          have e1 : preB xs (0 + 1) = fmtL ⟨(m : Int), code⟩ := HP0.out rfl
          have e2 : P = ⟨#[]⟩ := by rw [← HPK.out, hZ.out]
          rw [e1, HFX.out, e2]
          all_goals congr 1
          all_goals refine ba_ext ?_
          all_goals simp
        clear hki hki0
        have hki : (0 : Int) < (xs.length : Int) := by omega
        go_wp2_with fail
        have ha1 : ¬ 9223372036854775807 < P.size + t.size := by omega
        have ha2 : ¬ 9223372036854775807 < P.size + t.size + 1 := by omega
        have ha3 : ¬ 9223372036854775807 < P.size + t.size + 1 + code.size := by omega
        go_region_held3 (fun W => Below w2.heap.size w2 W) (first | exact ld | exact l3 | fail) (first | (go_at_call 90; (with_reducible refine (HDC.out _).mono ?_); rintro e w3 ⟨rfl, b3⟩; have l3 := later_trans ld b3) | fail)
        all_goals
          go_wp2_with fail
          go_roundw
          case rel => exact ⟨0 + 1, by omega, by go_num, HEQ.out, later_trans lr l3⟩
          case measure => simp [intOf]; omega
      · have hki1 : (0 : Int) < (k : Int) := by omega
        have HEQ : Hid (Value.string (P ++ ⟨#[32]⟩ ++ t ++ ⟨#[58]⟩ ++ code) = .string (preB xs (k + 1))) := by
          show _ = _
          rw [HPN.out, HP1.out (by omega), HFX.out]
          congr 1
          refine ba_ext ?_
          simp [spT]
        have hQs : (P ++ (⟨#[32]⟩ : ByteArray)).size ≤ 781 := by rw [ByteArray.size_append]; show _ + 1 ≤ _; omega
        go_wp2_with fail
        generalize P ++ (⟨#[32]⟩ : ByteArray) = Q at *
        have ha1 : ¬ 9223372036854775807 < Q.size + t.size := by omega
        have ha2 : ¬ 9223372036854775807 < Q.size + t.size + 1 := by omega
        have ha3 : ¬ 9223372036854775807 < Q.size + t.size + 1 + code.size := by omega
        go_region_held3 (fun W => Below w2.heap.size w2 W) (first | exact ld | exact l3 | fail) (first | (go_at_call 90; (with_reducible refine (HDC.out _).mono ?_); rintro e w3 ⟨rfl, b3⟩; have l3 := later_trans ld b3) | fail)
        all_goals
          go_wp2_with fail
          go_roundw
          case rel => exact ⟨k + 1, by omega, by go_num, HEQ.out, later_trans lr l3⟩
          case measure => simp [intOf]; omega
    · have HE := Lib.hid (show k = xs.length by omega)
      have HPE : Hid (preB xs k = preB xs xs.length) := by show _ = _; rw [HE.out]
      generalize preB xs k = P at *
      by_cases hz : P.size = 0
      · have HZ2 : Hid (fmtB xs = ⟨#[45]⟩) := by show _ = _; rw [HF.out, ← HPE.out, if_pos hz]
        have HD := Lib.hid (fun W => spec_l2Dash P W)
        rw [if_pos hz] at HD
        clear hz
        go_wp2_with fail
        refine (HD.out _).mono ?_
        rintro e w3 ⟨rfl, rfl⟩
        go_wp2_with fail
        go_ret
        exact ⟨ret_str HZ2.out.symm, lr⟩
      · have HZ2 : Hid (fmtB xs = P) := by show _ = _; rw [HF.out, ← HPE.out, if_neg hz]
        have HD := Lib.hid (fun W => spec_l2Dash P W)
        rw [if_neg hz] at HD
        clear hz
        go_wp2_with fail
        refine (HD.out _).mono ?_
        rintro e w3 ⟨rfl, rfl⟩
        go_wp2_with fail
        go_ret
        exact ⟨ret_str HZ2.out.symm, lr⟩

end Go.Proofs.YtffbcfaahegglaaGreatDoor
