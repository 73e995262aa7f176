/- FC FR PS PT PU -/
import Derived.Test.YtffbcfaahegglaaDoorQ27
import Derived.Test.YtffbcfaahegglaaDoorQ4
import Derived.Test.YtffbcfaahegglaaDoorQ18
namespace Go.Proofs.YtffbcfaahegglaaDoor
open Go.RowKit

theorem spec_l2Dash (s : ByteArray) (w : World) :
    Calls Tryd.prog 44 #[.string s] w fun e w' => e = .returned (.string (if s.size = 0 then ⟨#[45]⟩ else s)) ∧ w = w' := by
  by_cases h : s.size = 0
  · have he : s.toList.isEmpty = true := by
      rw [ByteArray.toList_eq, List.isEmpty_iff_length_eq_zero]; simpa using h
    rw [if_pos h]
    clear h
    go_enter Tryd.func44, Tryd.ntmps44
    go_wp2
    go_ret
    exact ⟨rfl, rfl⟩
  · have he : s.toList.isEmpty = false := by
      rw [ByteArray.toList_eq, Bool.eq_false_iff, Ne, List.isEmpty_iff_length_eq_zero]; simpa using h
    rw [if_neg h]
    clear h
    go_enter Tryd.func44, Tryd.ntmps44
    go_wp2
    go_ret
    exact ⟨rfl, rfl⟩

set_option maxRecDepth 100000 in
set_option maxHeartbeats 1600000 in
theorem spec_FormatBatch (v : Value) (xs : List Ltr) (w : World) (hv : rd w w.heap.size v xs) :
    Calls Tryd.prog 37 #[v] w fun e w' => e = .returned (.string (fmtB xs)) ∧ Below w.heap.size w w' := by
  have HV := Lib.hid hv
  obtain ⟨A, n, c, rfl, hn, hc, hm, hr⟩ := hv
  subst hn
  have HR := Lib.hid hr; clear hr
  go_enter Tryd.func37, Tryd.ntmps37
  go_wp2_with fail
  refine (spec_BatchValid _ xs _ HV.out).mono ?_
  rintro e w1 ⟨rfl, b1⟩
  have l1 := b1
  clear b1
  cases hok : okB xs
  · have HF := Lib.hid (fmtB_no hok)
    clear hok
    go_wp2_with fail
    go_ret
    exact ⟨ret_str HF.out.symm, l1⟩
  have HOK := Lib.hid hok
  have h60 := (okB_iff.1 hok).1
  have HF : Hid (fmtB xs = if (preB xs xs.length).size = 0 then ⟨#[45]⟩ else preB xs xs.length) := by
    show _ = _
    by_cases h0 : xs.length = 0
    · rw [fmtB_empty hok h0, h0, preB_zero]; rfl
    · have := preB_pos hok (by omega)
      rw [fmtB_some hok h0, if_neg (by omega)]
      unfold preB
      rw [List.take_length]
  clear hok
  go_wp2_with fail
  go_loopw [3, 4] (fun t i wr => ∃ k : Nat, k ≤ xs.length ∧ i = .int .i64 k ∧ t = .string (preB xs k) ∧ Below w.heap.size w wr) (fun _ i _ => xs.length - (intOf i).toNat)
  case atStart => exact ⟨0, Nat.zero_le _, rfl, by rw [preB_zero], l1⟩
  case round =>
    obtain ⟨k, hk, rfl, rfl, lr⟩ := hrel
    obtain ⟨w2, rfl⟩ : ∃ w2 : World, w2 = wr := ⟨_, rfl⟩
    clear l1
    by_cases hlt : k < xs.length
    · obtain ⟨b, o, rfl, hb, ⟨⟨hi1, hi2⟩, hcz⟩, y1, y2⟩ := HR.out.ltrU k hlt
      obtain ⟨z1, z2, z4, _⟩ := (okB_iff.1 HOK.out).2 k hlt
      have HP0 : Hid (k = 0 → preB xs 1 = fmtL xs[k]) := fun h => by subst h; exact preB_one hlt
      have HP1 := Lib.hid (fun h => preB_succ hlt h)
      have hps := preB_size HOK.out k
      have hZ := Lib.hid (preB_zero xs)
      obtain ⟨PN, hPN⟩ : ∃ P, preB xs (k + 1) = P := ⟨_, rfl⟩
      obtain ⟨P, hP⟩ : ∃ P, preB xs k = P := ⟨_, rfl⟩
      rw [hPN] at HP1
      rw [hP] at HP1 hps ⊢
      have HPN := Lib.hid hPN
      have HPK := Lib.hid hP
      clear hPN hP
      generalize xs[k] = x at *
      obtain ⟨id, code⟩ := x
      simp only at hi1 hi2 hcz y1 y2 z1 z2 z4
      obtain ⟨m, rfl⟩ := Int.eq_ofNat_of_zero_le (show 0 ≤ id by omega)
      have hm9 : m ≤ 9999 := by omega
      have HFX : Hid (fmtL ⟨(m : Int), code⟩ = decB m ++ ⟨#[58]⟩ ++ code) := by show _ = _; unfold fmtL; rw [Int.toNat_natCast]
      have hki : (k : Int) < (xs.length : Int) := by omega
      have hki0 : (0 : Int) ≤ (k : Int) := by omega
      have y1' := fun W (h : Below w2.heap.size w2 W) => y1 W (later_trans lr h)
      have y2' := fun W (h : Below w2.heap.size w2 W) => y2 W (later_trans lr h)
      obtain ⟨hd4, _⟩ := dec10_size hm9
      have HDC := Lib.hid (fun W => spec_l9Dec m W (by omega))
      have hc7 : code.size = 7 := by
        unfold isCode at z4
        rw [Bool.and_eq_true, beq_iff_eq] at z4
        exact z4.1
      have hc7' : code.size ≤ 7 := by omega
      have ld := later_drew (Below.refl w2.heap.size w2)
      clear y1 y2 hc7 z4 hi1 hi2
      generalize decB m = t at *
      by_cases hk0 : k = 0
      · subst hk0
        simp only [Nat.zero_mul, Nat.zero_add, Nat.add_zero] at y1' y2'
        have HEQ : Hid (Value.string (P ++ t ++ ⟨#[58]⟩ ++ code) = .string (preB xs (0 + 1))) := by
          show _ = _
          have e1 : preB xs (0 + 1) = fmtL ⟨(m : Int), code⟩ := HP0.out rfl
          have e2 : P = ⟨#[]⟩ := by rw [← HPK.out, hZ.out]
          rw [e1, HFX.out, e2]
          all_goals congr 1
          all_goals refine ba_ext ?_
          all_goals simp
        clear hki hki0
        have hki : (0 : Int) < (xs.length : Int) := by omega
        go_wp2_with fail
        have ha1 : ¬ 9223372036854775807 < P.size + t.size := by omega
        have ha2 : ¬ 9223372036854775807 < P.size + t.size + 1 := by omega
        have ha3 : ¬ 9223372036854775807 < P.size + t.size + 1 + code.size := by omega
        go_region_held3 (fun W => Below w2.heap.size w2 W) (first | exact ld | exact l3 | fail) (first | (go_at_call 73; (with_reducible refine (HDC.out _).mono ?_); rintro e w3 ⟨rfl, b3⟩; have l3 := later_trans ld b3) | fail)
        all_goals
          go_wp2_with fail
          go_roundw
          case rel => exact ⟨0 + 1, by omega, by go_num, HEQ.out, later_trans lr l3⟩
          case measure => simp [intOf]; omega
      · have hki1 : (0 : Int) < (k : Int) := by omega
        have HEQ : Hid (Value.string (P ++ ⟨#[32]⟩ ++ t ++ ⟨#[58]⟩ ++ code) = .string (preB xs (k + 1))) := by
          show _ = _
          rw [HPN.out, HP1.out (by omega), HFX.out]
          congr 1
          refine ba_ext ?_
          simp [spT]
        have hQs : (P ++ (⟨#[32]⟩ : ByteArray)).size ≤ 781 := by rw [ByteArray.size_append]; show _ + 1 ≤ _; omega
        go_wp2_with fail
        generalize P ++ (⟨#[32]⟩ : ByteArray) = Q at *
        have ha1 : ¬ 9223372036854775807 < Q.size + t.size := by omega
        have ha2 : ¬ 9223372036854775807 < Q.size + t.size + 1 := by omega
        have ha3 : ¬ 9223372036854775807 < Q.size + t.size + 1 + code.size := by omega
        go_region_held3 (fun W => Below w2.heap.size w2 W) (first | exact ld | exact l3 | fail) (first | (go_at_call 73; (with_reducible refine (HDC.out _).mono ?_); rintro e w3 ⟨rfl, b3⟩; have l3 := later_trans ld b3) | fail)
        all_goals
          go_wp2_with fail
          go_roundw
          case rel => exact ⟨k + 1, by omega, by go_num, HEQ.out, later_trans lr l3⟩
          case measure => simp [intOf]; omega
    · have HE := Lib.hid (show k = xs.length by omega)
      have HPE : Hid (preB xs k = preB xs xs.length) := by show _ = _; rw [HE.out]
      generalize preB xs k = P at *
      by_cases hz : P.size = 0
      · have HZ2 : Hid (fmtB xs = ⟨#[45]⟩) := by show _ = _; rw [HF.out, ← HPE.out, if_pos hz]
        have HD := Lib.hid (fun W => spec_l2Dash P W)
        rw [if_pos hz] at HD
        clear hz
        go_wp2_with fail
        refine (HD.out _).mono ?_
        rintro e w3 ⟨rfl, rfl⟩
        go_wp2_with fail
        go_ret
        exact ⟨ret_str HZ2.out.symm, lr⟩
      · have HZ2 : Hid (fmtB xs = P) := by show _ = _; rw [HF.out, ← HPE.out, if_neg hz]
        have HD := Lib.hid (fun W => spec_l2Dash P W)
        rw [if_neg hz] at HD
        clear hz
        go_wp2_with fail
        refine (HD.out _).mono ?_
        rintro e w3 ⟨rfl, rfl⟩
        go_wp2_with fail
        go_ret
        exact ⟨ret_str HZ2.out.symm, lr⟩

end Go.Proofs.YtffbcfaahegglaaDoor

namespace Go.Proofs.YtffbcfaahegglaaDoor
open Go.RowKit

def fmtU (x : Fwd) : ByteArray := x.src ++ ⟨#[62]⟩ ++ x.dst
theorem pfx_size {s : ByteArray} (h : isPfx s = true) : s.size ≤ 7 := by
  unfold isPfx at h
  simp only [Bool.and_eq_true, decide_eq_true_iff] at h
  omega
theorem name_size {s : ByteArray} (h : isName s = true) : 1 ≤ s.size ∧ s.size ≤ 8 := by
  unfold isName at h
  simp only [Bool.and_eq_true, decide_eq_true_iff] at h
  omega
/-- Rules as a text; nothing if they are not valid. -/
def fmtRu (rs : List Fwd) : ByteArray := if rulesOk rs = true then (if rs.length = 0 then ⟨#[45]⟩ else joinT (rs.map fmtU) spT) else ⟨#[]⟩
theorem fmtRu_no {rs : List Fwd} (h : rulesOk rs = false) : fmtRu rs = ⟨#[]⟩ := by unfold fmtRu; rw [h]; rfl
theorem fmtRu_empty {rs : List Fwd} (h : rulesOk rs = true) (h0 : rs.length = 0) : fmtRu rs = ⟨#[45]⟩ := by unfold fmtRu; rw [if_pos h, if_pos h0]
theorem fmtRu_some {rs : List Fwd} (h : rulesOk rs = true) (h0 : rs.length ≠ 0) : fmtRu rs = joinT (rs.map fmtU) spT := by unfold fmtRu; rw [if_pos h, if_neg h0]
theorem rule_sizes {rs : List Fwd} (h : rulesOk rs = true) {k : Nat} (hk : k < rs.length) : rs[k].src.size ≤ 7 ∧ 1 ≤ rs[k].dst.size ∧ rs[k].dst.size ≤ 8 := by
  obtain ⟨h1, h2, _⟩ := (rulesOk_iff.1 h).2 k hk
  exact ⟨pfx_size h1, name_size h2⟩
theorem rule_fmt {rs : List Fwd} (h : rulesOk rs = true) : ∀ p ∈ rs.map fmtU, p.size ≤ 16 ∧ 1 ≤ p.size := fun p hp => by
  obtain ⟨x, hx, rfl⟩ := List.mem_map.1 hp
  obtain ⟨k, hk, rfl⟩ := List.getElem_of_mem hx
  have h1 := rule_sizes h hk
  unfold fmtU
  rw [ByteArray.size_append, ByteArray.size_append]
  show _ + 1 + _ ≤ 16 ∧ 1 ≤ _ + 1 + _
  omega
def preU (rs : List Fwd) (k : Nat) : ByteArray := joinT ((rs.take k).map fmtU) spT
theorem preU_zero (rs : List Fwd) : preU rs 0 = ⟨#[]⟩ := joinT_nil _
theorem preU_one {rs : List Fwd} (h : 0 < rs.length) : preU rs 1 = fmtU rs[0] := by
  unfold preU
  rw [List.take_succ_eq_append_getElem h, List.take_zero, List.nil_append, List.map_cons, List.map_nil, joinT_one]
theorem preU_succ {rs : List Fwd} {k : Nat} (h : k < rs.length) (h0 : 0 < k) : preU rs (k + 1) = preU rs k ++ spT ++ fmtU rs[k] := by
  unfold preU
  rw [List.take_succ_eq_append_getElem h, List.map_append, List.map_cons, List.map_nil, joinT_snoc]
  intro e
  have := congrArg List.length e
  rw [List.length_map, List.length_take, List.length_nil] at this
  omega
theorem preU_size {rs : List Fwd} (h : rulesOk rs = true) (k : Nat) : (preU rs k).size ≤ 340 := by
  have h1 := joinT_size ((rs.take k).map fmtU) spT 16 fun p hp => (rule_fmt h p (by
    obtain ⟨x, hx, rfl⟩ := List.mem_map.1 hp
    exact List.mem_map.2 ⟨x, List.mem_of_mem_take hx, rfl⟩)).1
  have h2 := (rulesOk_iff.1 h).1
  rw [List.length_map] at h1
  have h3 : (rs.take k).length * (16 + spT.size) ≤ 20 * 17 := Nat.mul_le_mul (by rw [List.length_take]; omega) (Nat.le_refl _)
  unfold preU
  omega
theorem preU_pos {rs : List Fwd} (h : rulesOk rs = true) (h0 : 0 < rs.length) : 1 ≤ (preU rs rs.length).size := by
  obtain ⟨k, hk⟩ : ∃ k, rs.length = k + 1 := ⟨rs.length - 1, by omega⟩
  rw [hk]
  have hp : ∀ (j : Nat) (hj : j < rs.length), 1 ≤ (fmtU rs[j]).size := fun j hj => (rule_fmt h _ (List.mem_map.2 ⟨_, List.getElem_mem hj, rfl⟩)).2
  by_cases hk0 : k = 0
  · subst hk0
    rw [preU_one h0]; exact hp 0 h0
  · rw [preU_succ (by omega) (by omega), ByteArray.size_append]
    have := hp k (by omega)
    omega
theorem fmtRu_size (rs : List Fwd) : (fmtRu rs).size ≤ 340 := by
  cases h : rulesOk rs
  · rw [fmtRu_no h]; exact Nat.zero_le _
  · by_cases h0 : rs.length = 0
    · rw [fmtRu_empty h h0]; exact (by decide : (1 : Nat) ≤ 340)
    · rw [fmtRu_some h h0]
      have := preU_size h rs.length
      unfold preU at this
      rwa [List.take_length] at this

set_option maxRecDepth 100000 in
set_option maxHeartbeats 1600000 in
theorem spec_FormatRules (v : Value) (rs : List Fwd) (w : World) (hv : rd w w.heap.size v rs) :
    Calls Tryd.prog 15 #[v] w fun e w' => e = .returned (.string (fmtRu rs)) ∧ Below w.heap.size w w' := by
  have HV := Lib.hid hv
  obtain ⟨A, n, c, rfl, hn, hc, hm, hr⟩ := hv
  subst hn
  have HR := Lib.hid hr; clear hr
  go_enter Tryd.func15, Tryd.ntmps15
  go_wp2_with fail
  refine (spec_RulesValid _ rs _ HV.out).mono ?_
  rintro e w1 ⟨rfl, rfl⟩
  have l1 := Below.refl w.heap.size w
  cases hok : rulesOk rs
  · have HF := Lib.hid (fmtRu_no hok)
    clear hok
    go_wp2_with fail
    go_ret
    exact ⟨ret_str HF.out.symm, l1⟩
  have HOK := Lib.hid hok
  have h60 := (rulesOk_iff.1 hok).1
  have HF : Hid (fmtRu rs = if (preU rs rs.length).size = 0 then ⟨#[45]⟩ else preU rs rs.length) := by
    show _ = _
    by_cases h0 : rs.length = 0
    · rw [fmtRu_empty hok h0, h0, preU_zero]; rfl
    · have := preU_pos hok (by omega)
      rw [fmtRu_some hok h0, if_neg (by omega)]
      unfold preU
      rw [List.take_length]
  clear hok
  go_wp2_with fail
  go_loopw [3, 4] (fun t i wr => ∃ k : Nat, k ≤ rs.length ∧ i = .int .i64 k ∧ t = .string (preU rs k) ∧ Below w.heap.size w wr) (fun _ i _ => rs.length - (intOf i).toNat)
  case atStart => exact ⟨0, Nat.zero_le _, rfl, by rw [preU_zero], l1⟩
  case round =>
    obtain ⟨k, hk, rfl, rfl, lr⟩ := hrel
    obtain ⟨w2, rfl⟩ : ∃ w2 : World, w2 = wr := ⟨_, rfl⟩
    clear l1
    by_cases hlt : k < rs.length
    · obtain ⟨b, o, rfl, hb, _, y1, y2⟩ := HR.out.fwdU k hlt
      have y1 := y1 w2 lr
      have y2 := y2 w2 lr
      have HSZ := Lib.hid (rule_sizes HOK.out hlt)
      have HP0 : Hid (k = 0 → preU rs 1 = fmtU rs[k]) := fun h => by subst h; exact preU_one hlt
      have HP1 := Lib.hid (fun h => preU_succ hlt h)
      have hps := preU_size HOK.out k
      have hZ := Lib.hid (preU_zero rs)
      obtain ⟨PN, hPN⟩ : ∃ P, preU rs (k + 1) = P := ⟨_, rfl⟩
      obtain ⟨P, hP⟩ : ∃ P, preU rs k = P := ⟨_, rfl⟩
      rw [hPN] at HP1
      rw [hP] at HP1 hps ⊢
      have HPN := Lib.hid hPN
      have HPK := Lib.hid hP
      clear hPN hP
      generalize rs[k] = x at *
      obtain ⟨p, q⟩ := x
      have hsz := HSZ.out
      simp only at hsz y1 y2
      obtain ⟨s1, _, s2⟩ := hsz
      have hki : (k : Int) < (rs.length : Int) := by omega
      have hki0 : (0 : Int) ≤ (k : Int) := by omega
      by_cases hk0 : k = 0
      · subst hk0
        simp only [Nat.zero_mul, Nat.zero_add, Nat.add_zero] at y1 y2
        have HEQ : Hid (Value.string (P ++ p ++ ⟨#[62]⟩ ++ q) = .string (preU rs (0 + 1))) := by
          show _ = _
          have e1 : preU rs (0 + 1) = fmtU ⟨p, q⟩ := HP0.out rfl
          have e2 : P = ⟨#[]⟩ := by rw [← HPK.out, hZ.out]
          rw [e1, e2]
          unfold fmtU
          all_goals congr 1
          all_goals refine ba_ext ?_
          all_goals simp
        clear hki hki0
        have hki : (0 : Int) < (rs.length : Int) := by omega
        have ha1 : ¬ 9223372036854775807 < P.size + p.size := by omega
        have ha2 : ¬ 9223372036854775807 < P.size + p.size + 1 := by omega
        have ha3 : ¬ 9223372036854775807 < P.size + p.size + 1 + q.size := by omega
        go_wp2_with fail
        go_quiet (fail)
        go_wp2_with fail
        go_roundw
        case rel => exact ⟨0 + 1, by omega, by go_num, HEQ.out, below_drewN lr _⟩
        case measure => simp [intOf]; omega
      · have hki1 : (0 : Int) < (k : Int) := by omega
        have HEQ : Hid (Value.string (P ++ ⟨#[32]⟩ ++ p ++ ⟨#[62]⟩ ++ q) = .string (preU rs (k + 1))) := by
          show _ = _
          rw [HPN.out, HP1.out (by omega)]
          unfold fmtU
          congr 1
          refine ba_ext ?_
          simp [spT]
        have hQs : (P ++ (⟨#[32]⟩ : ByteArray)).size ≤ 341 := by rw [ByteArray.size_append]; show _ + 1 ≤ _; omega
        go_wp2_with fail
        generalize P ++ (⟨#[32]⟩ : ByteArray) = Q at *
        have ha1 : ¬ 9223372036854775807 < Q.size + p.size := by omega
        have ha2 : ¬ 9223372036854775807 < Q.size + p.size + 1 := by omega
        have ha3 : ¬ 9223372036854775807 < Q.size + p.size + 1 + q.size := by omega
        go_quiet (fail)
        go_wp2_with fail
        go_roundw
        case rel => exact ⟨k + 1, by omega, by go_num, HEQ.out, below_drewN lr _⟩
        case measure => simp [intOf]; omega
    · have HE := Lib.hid (show k = rs.length by omega)
      have HPE : Hid (preU rs k = preU rs rs.length) := by show _ = _; rw [HE.out]
      generalize preU rs k = P at *
      by_cases hz : P.size = 0
      · have HZ2 : Hid (fmtRu rs = ⟨#[45]⟩) := by show _ = _; rw [HF.out, ← HPE.out, if_pos hz]
        have HD := Lib.hid (fun W => spec_l2Dash P W)
        rw [if_pos hz] at HD
        clear hz
        go_wp2_with fail
        refine (HD.out _).mono ?_
        rintro e w3 ⟨rfl, rfl⟩
        go_wp2_with fail
        go_ret
        exact ⟨ret_str HZ2.out.symm, lr⟩
      · have HZ2 : Hid (fmtRu rs = P) := by show _ = _; rw [HF.out, ← HPE.out, if_neg hz]
        have HD := Lib.hid (fun W => spec_l2Dash P W)
        rw [if_neg hz] at HD
        clear hz
        go_wp2_with fail
        refine (HD.out _).mono ?_
        rintro e w3 ⟨rfl, rfl⟩
        go_wp2_with fail
        go_ret
        exact ⟨ret_str HZ2.out.symm, lr⟩

set_option maxRecDepth 100000 in
set_option maxHeartbeats 1600000 in
theorem impl_FormatRules (v : Value) (rs : List Fwd) (w : World) (hv : rd w w.heap.size v rs) :
    Calls Tryd.prog 14 #[v] w fun e w' => e = .returned (.string (fmtRu rs)) ∧ Below w.heap.size w w' := by
  have HV := Lib.hid hv
  obtain ⟨A, n, c, rfl, hn, hc, hm, hr⟩ := hv
  subst hn
  have HR := Lib.hid hr; clear hr
  obtain ⟨i0, hi, hz0, hz1, hz2⟩ := info_parts Tryd.infoStr
  have l0 := Below.refl w.heap.size w
  go_enter Tryd.func14, Tryd.ntmps14
  go_wp2_with fail
  refine (impl_RulesValid _ rs _ HV.out).mono ?_
  rintro e w1 ⟨rfl, b1⟩
  have l1 := b1
  clear b1 l0
  cases hok : rulesOk rs
  · have HF := Lib.hid (fmtRu_no hok)
    clear hok
    go_wp2_with fail
    go_ret
    exact ⟨ret_str HF.out.symm, l1⟩
  have HOK := Lib.hid hok
  have h60 := (rulesOk_iff.1 hok).1
  by_cases h0 : rs.length = 0
  · have HF := Lib.hid (fmtRu_empty hok h0)
    have hl0 : ((rs.length : Int) == 0) = true := by rw [h0]; rfl
    clear hok h0
    go_wp2_with fail
    go_ret
    exact ⟨ret_str HF.out.symm, l1⟩
  have HF := Lib.hid (fmtRu_some hok h0)
  have hl0 : ((rs.length : Int) == 0) = false := beq_eq_false_iff_ne.2 (by omega)
  have hpos : 0 < rs.length := by omega
  clear hok h0
  have hmk := make_row (P := Tryd.prog) 61 9 i0 _ Tryd.underlying61 hi hz0 rs.length (by rw [hz2]; omega) (by omega)
  go_wp2_with fail
  have hf0 : filled 9 (w1.alloc (Obj.cells (madeCells #[.string ⟨#[]⟩] rs.length) 9)) w1.heap.size rs.length 0 (rs.map fmtU) := filled.made w1 _ _ _ (by rw [size_madeCells]; exact (Nat.mul_one _).symm) _
  have hb0 : Below w1.heap.size w1 (w1.alloc (Obj.cells (madeCells #[.string ⟨#[]⟩] rs.length) 9)) := (Below.refl _ _).alloc (Nat.le_refl _) _
  generalize w1.alloc (Obj.cells (madeCells #[.string ⟨#[]⟩] rs.length) 9) = w0 at *
  clear hmk
  have HLN : Hid ((rs.map fmtU).length = rs.length) := by show _ = _; rw [List.length_map]
  go_loopw [17] (fun i wr => ∃ k : Nat, k ≤ rs.length ∧ i = .int .i64 k ∧ Below w1.heap.size w1 wr ∧ filled 9 wr w1.heap.size rs.length k (rs.map fmtU)) (fun i _ => rs.length - (intOf i).toNat)
  case atStart => exact ⟨0, Nat.zero_le _, rfl, hb0, hf0⟩
  case round =>
    obtain ⟨k, hk, rfl, hbl, hf⟩ := hrel
    obtain ⟨w2, rfl⟩ : ∃ w2 : World, w2 = wr := ⟨_, rfl⟩
    clear hf0 hb0
    have hs1 := l1.size
    by_cases hlt : k < rs.length
    · obtain ⟨b, o, rfl, hb, _, y1, y2⟩ := HR.out.fwdU k hlt
      have y1 := y1 w2 (later_trans l1 hbl)
      have y2 := y2 w2 (later_trans l1 hbl)
      have HSZ0 := Lib.hid (rule_sizes HOK.out hlt)
      have hLk : (rs.map fmtU)[k]'(by rw [HLN.out]; exact hlt) = fmtU rs[k] := by simp
      have HSZ := Lib.hid (rule_fmt HOK.out (fmtU rs[k]) (List.mem_map.2 ⟨_, List.getElem_mem hlt, rfl⟩))
      have HST := Lib.hid (fun (W : World) (hF : filled 9 W w1.heap.size rs.length k (rs.map fmtU)) => hF.step (by rw [HLN.out]; exact hlt) (by rw [HLN.out]; exact Nat.le_refl _) (ecs := [.string (fmtU rs[k])]) (by rw [hLk]; exact ⟨by have := HSZ.out.1; unfold maxLen; omega, rfl⟩))
      clear hLk
      generalize rs[k] = x at *
      obtain ⟨p, q⟩ := x
      have hsz := HSZ0.out
      simp only at hsz y1 y2
      obtain ⟨s1, _, s2⟩ := hsz
      have HFX : Hid (fmtU ⟨p, q⟩ = p ++ ⟨#[62]⟩ ++ q) := rfl
      have hki : (k : Int) < (rs.length : Int) := by omega
      have hki0 : (0 : Int) ≤ (k : Int) := by omega
      have hs2 := hbl.size
      have hne : w1.heap.size < w2.heap.size := by obtain ⟨cs, h1, _⟩ := hf; exact (Array.getElem?_eq_some_iff.1 h1).1
      have hs60 : ¬ 9223372036854775807 < p.size + 1 + q.size := by omega
      have hs61 : ¬ 9223372036854775807 < p.size + 1 := by omega
      have lb : Below w2.heap.size w2 (w2.alloc (Obj.cells #[.string p, .string q] 65)) := (Below.refl _ _).alloc (Nat.le_refl _) _
      have hf3 := hf.below lb
      obtain ⟨u0, g0⟩ := hf3.cell (j := k) (by show _ < _ * 1; omega)
      have f0 := hf3.free k
      have HF3 := Lib.hid hf
      have HLB := Lib.hid hbl
      clear hf3 hf
      go_wp2_with fail
      go_roundw
      case rel =>
        have := HST.out _ HF3.out
        rw [show k * El.size ByteArray = k from Nat.mul_one k, HFX.out] at this
        have hbs := HLB.out.trans (setAll_below [.string (p ++ ⟨#[62]⟩ ++ q)] _ k _ (Nat.le_refl _))
        exact ⟨k + 1, by omega, by go_num, hbs.alloc hbs.size _, this.below ((Below.refl _ _).alloc (Nat.le_refl _) _)⟩
      case measure => simp [intOf]; omega
    · have HE := Lib.hid (show k = rs.length by omega)
      have HO := Lib.hid ((HE.out ▸ hf : filled _ _ _ _ rs.length _).own HLN.out.symm (Nat.le_refl _) (by unfold maxLen; omega))
      clear hf
      have l2 := later_trans l1 hbl
      have hjz := joinT_size (rs.map fmtU) spT 16 fun p hp => (rule_fmt HOK.out p hp).1
      rw [HLN.out] at hjz
      have hjz2 : rs.length * (16 + spT.size) ≤ 20 * 17 := Nat.mul_le_mul h60 (Nat.le_refl _)
      have HJ := Lib.hid (join_own (sep := spT) HO.out HLN.out.symm (by rw [HLN.out]; omega) (by omega))
      clear hjz hjz2
      go_wp2_with fail
      refine HJ.out.mono ?_
      rw [← HF.out]
      rintro e w3 ⟨rfl, b3⟩
      have l3 := later_trans l2 b3
      go_wp2_with fail
      go_ret
      exact ⟨rfl, l3⟩

end Go.Proofs.YtffbcfaahegglaaDoor

namespace Go.Proofs.YtffbcfaahegglaaDoor
open Go.RowKit

theorem spl_nosep {c : UInt8} : ∀ {p : List UInt8}, c ∉ p → spl c p = [p]
  | [], _ => rfl
  | b :: p, h => by
    have hb : b ≠ c := fun e => h (by rw [e]; simp)
    exact spl_cons hb (spl_nosep fun m => h (List.mem_cons_of_mem _ m))
theorem spl_app {c : UInt8} (s : List UInt8) : ∀ {p : List UInt8}, c ∉ p → spl c (p ++ c :: s) = p :: spl c s
  | [], _ => spl_eq c s
  | b :: p, h => by
    have hb : b ≠ c := fun e => h (by rw [e]; simp)
    exact spl_cons hb (spl_app s fun m => h (List.mem_cons_of_mem _ m))
theorem inter_cons {α : Type} (sep a b : List α) (l : List (List α)) : sep.intercalate (a :: b :: l) = a ++ sep ++ sep.intercalate (b :: l) := by
  simp [List.intercalate, List.intersperse]
theorem inter_one {α : Type} (sep a : List α) : sep.intercalate [a] = a := by simp [List.intercalate, List.intersperse]
theorem spl_join {c : UInt8} : ∀ (ps : List (List UInt8)), ps ≠ [] → (∀ p ∈ ps, c ∉ p) → spl c ([c].intercalate ps) = ps
  | [], h, _ => absurd rfl h
  | [p], _, h => by rw [inter_one]; exact spl_nosep (h p (by simp))
  | p :: q :: ps, _, h => by
    rw [inter_cons, List.append_assoc, List.singleton_append, spl_app _ (h p (by simp)), spl_join (q :: ps) (by simp) fun x hx => h x (List.mem_cons_of_mem _ hx)]
theorem join_spl (c : UInt8) : ∀ s : List UInt8, [c].intercalate (spl c s) = s
  | [] => by show [c].intercalate [[]] = []; rw [inter_one]
  | b :: s => by
    have ih := join_spl c s
    obtain ⟨p, ps, hp⟩ := List.exists_cons_of_ne_nil (spl_ne c s)
    by_cases hb : b = c
    · subst hb
      rw [spl_eq, hp, inter_cons, ← hp, ih]
      rfl
    · rw [spl_cons hb hp]
      rw [hp] at ih
      cases ps with
      | nil => rw [inter_one] at ih ⊢; rw [ih]
      | cons q ps => rw [inter_cons] at ih ⊢; rw [← ih]; simp
theorem idx_at {c : UInt8} : ∀ {s : List UInt8} {i : Nat}, Lib.indexByte s c = (i : Int) → s = s.take i ++ c :: s.drop (i + 1)
  | [], i, h => by
    have : (-1 : Int) = (i : Int) := h
    omega
  | b :: s, i, h => by
    rw [idx_cons] at h
    have hg := Lib.indexByte_ge s c
    split at h
    · rename_i hb
      have e : i = 0 := by omega
      subst e hb
      rfl
    · obtain ⟨j, h1, rfl⟩ : ∃ j : Nat, Lib.indexByte s c = (j : Int) ∧ i = j + 1 := by
        split at h
        · omega
        · exact ⟨i - 1, by omega, by omega⟩
      have := idx_at h1
      show b :: s = b :: (s.take j ++ c :: s.drop (j + 1))
      rw [← this]
theorem idx_of {c : UInt8} (s : List UInt8) : ∀ {p : List UInt8}, c ∉ p → Lib.indexByte (p ++ c :: s) c = (p.length : Int)
  | [], _ => by rw [List.nil_append, idx_cons, if_pos rfl]; rfl
  | b :: p, h => by
    have hb : b ≠ c := fun e => h (by rw [e]; simp)
    have ih := idx_of s (p := p) fun m => h (List.mem_cons_of_mem _ m)
    rw [List.cons_append, idx_cons, if_neg hb, if_neg (by omega), ih]
    simp
theorem ba_toList {l : List UInt8} : (⟨l.toArray⟩ : ByteArray).data.toList = l := by simp
theorem joinT_data (ps : List ByteArray) : (joinT ps spT).data.toList = [(32 : UInt8)].intercalate (ps.map (·.data.toList)) := by
  unfold joinT Lib.join
  simp [spT]
theorem parts_join {ps : List ByteArray} (hne : ps ≠ []) (h : ∀ p ∈ ps, (32 : UInt8) ∉ p.data.toList) : partsB 32 (joinT ps spT) = ps := by
  unfold partsB
  rw [joinT_data, spl_join _ (by simpa using hne) (by simpa using h), List.map_map]
  conv => rhs; rw [← List.map_id ps]
  refine List.map_congr_left fun p _ => ?_
  exact ba_ext (by simp)
theorem join_parts (t : ByteArray) : joinT (partsB 32 t) spT = t := by
  refine ba_ext ?_
  rw [joinT_data]
  unfold partsB
  rw [List.map_map, show (((fun x : ByteArray => x.data.toList) ∘ fun l : List UInt8 => (⟨l.toArray⟩ : ByteArray)) = id) from funext fun l => by simp, List.map_id]
  exact join_spl 32 _
theorem parts_ne (t : ByteArray) : partsB 32 t ≠ [] := by
  unfold partsB
  simp [spl_ne]
theorem ext_take (s : ByteArray) (i : Nat) : (s.extract 0 i).data.toList = s.data.toList.take i := by
  rw [ByteArray.data_extract]; simp
theorem ext_drop (s : ByteArray) (i : Nat) : (s.extract i s.size).data.toList = s.data.toList.drop i := by
  rw [ByteArray.data_extract]
  simp
  exact List.take_of_length_le (by rw [List.length_drop]; exact Nat.le_of_eq (congrArg (fun z => z - i) (by rw [Array.length_toList]; rfl)))
/-- A part that is cut is the text of the rule. -/
theorem part_fmt {x : ByteArray} {y : Fwd} (h : partR x = some y) : fmtU y = x := by
  unfold partR cutAt at h
  split at h
  · cases h
  · rename_i hn
    obtain ⟨i, hi⟩ : ∃ i : Nat, Lib.indexByte x.data.toList 62 = (i : Int) := ⟨(Lib.indexByte x.data.toList 62).toNat, by omega⟩
    rw [hi] at h
    simp only [Option.map_some, Option.some.injEq, Int.toNat_natCast] at h
    rw [← h]
    refine ba_ext ?_
    unfold fmtU
    rw [ba_append, ba_append, ext_take, ext_drop]
    conv => rhs; rw [idx_at hi]
    simp
theorem rule_part {p q : ByteArray} (h : (62 : UInt8) ∉ p.data.toList) : partR (fmtU ⟨p, q⟩) = some ⟨p, q⟩ := by
  have hd : (fmtU ⟨p, q⟩).data.toList = p.data.toList ++ 62 :: q.data.toList := by
    unfold fmtU
    rw [ba_append, ba_append]
    simp
  have hi : Lib.indexByte (fmtU ⟨p, q⟩).data.toList 62 = (p.data.toList.length : Int) := by rw [hd]; exact idx_of _ h
  unfold partR
  rw [cut_some hi]
  simp only [Option.map_some, Option.some.injEq]
  have e1 : (fmtU ⟨p, q⟩).extract 0 p.data.toList.length = p := ba_ext (by rw [ext_take, hd]; simp)
  have e2 : (fmtU ⟨p, q⟩).extract (p.data.toList.length + 1) (fmtU ⟨p, q⟩).size = q := ba_ext (by
    rw [ext_drop, hd, show p.data.toList ++ 62 :: q.data.toList = (p.data.toList ++ [62]) ++ q.data.toList by simp]
    exact List.drop_left' (by simp))
  rw [e1, e2]
theorem got_fmt : ∀ {ps : List ByteArray}, allR ps = true → (gotR ps).map fmtU = ps
  | [], _ => rfl
  | x :: ps, h => by
    unfold allR at h
    rw [List.all_cons, Bool.and_eq_true] at h
    obtain ⟨y, hy⟩ := Option.isSome_iff_exists.1 h.1
    unfold gotR
    rw [List.filterMap_cons, hy]
    show fmtU y :: (gotR ps).map fmtU = _
    rw [part_fmt hy, got_fmt h.2]
theorem got_rules : ∀ {rs : List Fwd}, (∀ r ∈ rs, (62 : UInt8) ∉ r.src.data.toList) → gotR (rs.map fmtU) = rs ∧ allR (rs.map fmtU) = true
  | [], _ => ⟨rfl, rfl⟩
  | r :: rs, h => by
    have h1 := rule_part (p := r.src) (q := r.dst) (h r (by simp))
    obtain ⟨i1, i2⟩ := got_rules (rs := rs) fun x hx => h x (List.mem_cons_of_mem _ hx)
    unfold gotR allR at *
    rw [List.map_cons, List.filterMap_cons, h1, List.all_cons, h1, i2]
    exact ⟨by rw [i1], rfl⟩

theorem digs_mem {l : List UInt8} (h : digs l = true) : ∀ b ∈ l, 48 ≤ b.toNat ∧ b.toNat ≤ 57 := by
  unfold digs at h
  intro b hb
  have := List.all_eq_true.1 h b hb
  simpa [dig] using this
theorem lows_mem {l : List UInt8} (h : lows l = true) : ∀ b ∈ l, 97 ≤ b.toNat ∧ b.toNat ≤ 122 := by
  unfold lows at h
  intro b hb
  have := List.all_eq_true.1 h b hb
  simpa [low] using this
theorem rule_bytes {rs : List Fwd} (h : rulesOk rs = true) : ∀ r ∈ rs, (62 : UInt8) ∉ r.src.data.toList ∧ (32 : UInt8) ∉ (fmtU r).data.toList ∧ 2 ≤ (fmtU r).size := fun r hr => by
  obtain ⟨k, hk, rfl⟩ := List.getElem_of_mem hr
  obtain ⟨h1, h2, _⟩ := (rulesOk_iff.1 h).2 k hk
  have a1 := digs_mem (isPfx_iff.1 h1).1
  have a2 := lows_mem (isName_iff.1 h2).1
  have a3 := (isName_iff.1 h2).2.1
  refine ⟨fun m => ?_, fun m => ?_, ?_⟩
  · have := a1 _ m
    simp at this
  · unfold fmtU at m
    rw [ba_append, ba_append, List.mem_append, List.mem_append] at m
    rcases m with (m | m) | m
    · have := a1 _ m
      simp at this
    · simp at m
    · have := a2 _ m
      simp at this
  · unfold fmtU
    rw [ByteArray.size_append, ByteArray.size_append]
    show 2 ≤ _ + 1 + _
    omega
theorem rules_nil : rulesOk [] = true := by decide
theorem parse_fmt {rs : List Fwd} (h : rulesOk rs = true) : prOk (fmtRu rs) = true ∧ prR (fmtRu rs) = rs := by
  by_cases h0 : rs.length = 0
  · have e : rs = [] := List.eq_nil_of_length_eq_zero h0
    subst e
    rw [fmtRu_empty h h0]
    have hs : sEq (⟨#[45]⟩ : ByteArray) ⟨#[45]⟩ = true := sEq_refl _
    unfold prOk prR
    rw [hs]
    exact ⟨rfl, rfl⟩
  · have hb := rule_bytes h
    have hne : rs.map fmtU ≠ [] := fun e => h0 (by rw [← List.length_map (f := fmtU), e]; rfl)
    rw [fmtRu_some h h0]
    have hp := parts_join hne (fun p hp => by
      obtain ⟨r, hr, rfl⟩ := List.mem_map.1 hp
      exact (hb r hr).2.1)
    obtain ⟨g1, g2⟩ := got_rules (rs := rs) fun r hr => (hb r hr).1
    have hs : sEq (joinT (rs.map fmtU) spT) ⟨#[45]⟩ = false := sEq_false.2 fun e => by
      rw [e] at hp
      have hd : partsB 32 (⟨#[45]⟩ : ByteArray) = [⟨#[45]⟩] := by decide +kernel
      rw [hd] at hp
      have hm : (⟨#[45]⟩ : ByteArray) ∈ rs.map fmtU := by rw [← hp]; simp
      obtain ⟨r, hr, e2⟩ := List.mem_map.1 hm
      have := (hb r hr).2.2
      rw [e2] at this
      exact absurd this (by decide)
    have hS : prSome (joinT (rs.map fmtU) spT) = true := by
      unfold prSome
      rw [hp, g1, g2, h, decide_eq_true (by rw [List.length_map]; exact (rulesOk_iff.1 h).1)]
      rfl
    unfold prOk prR
    rw [hs, hS, hp, g1]
    exact ⟨rfl, by simp⟩
theorem fmt_parse {t : ByteArray} (h : prOk t = true) : fmtRu (prR t) = t := by
  unfold prOk at h
  unfold prR
  cases hs : sEq t ⟨#[45]⟩
  · rw [hs, Bool.false_or] at h
    rw [if_neg (by simp), if_pos h]
    unfold prSome at h
    simp only [Bool.and_eq_true, decide_eq_true_iff] at h
    obtain ⟨⟨h1, h2⟩, h3⟩ := h
    have hl := gotR_len _ h1
    have hpos : (partsB 32 t).length ≠ 0 := fun e => parts_ne t (List.eq_nil_of_length_eq_zero e)
    rw [fmtRu_some h3 (by omega), got_fmt h1, join_parts]
  · rw [if_pos rfl, fmtRu_empty rules_nil rfl]
    exact (sEq_iff.1 hs).symm

/-! ### As the reference parses -/
def spSome (t : ByteArray) : Bool := allR ((partsB 32 t).take 21) && sEq (fmtRu (gotR ((partsB 32 t).take 21))) t
theorem sp_eq {t : ByteArray} (h45 : sEq t ⟨#[45]⟩ = false) : spSome t = prSome t ∧ (prSome t = true → gotR ((partsB 32 t).take 21) = gotR (partsB 32 t)) := by
  have h1 : prSome t = true → (partsB 32 t).take 21 = partsB 32 t := fun h => by
    unfold prSome at h
    simp only [Bool.and_eq_true, decide_eq_true_iff] at h
    exact List.take_of_length_le (by omega)
  refine ⟨?_, fun h => by rw [h1 h]⟩
  rw [Bool.eq_iff_iff]
  constructor
  · intro h
    unfold spSome at h
    rw [Bool.and_eq_true] at h
    obtain ⟨ha, he⟩ := h
    rw [sEq_iff] at he
    have hg := gotR_len _ ha
    cases hr : rulesOk (gotR ((partsB 32 t).take 21))
    · rw [fmtRu_no hr] at he
      subst he
      have hd : partsB 32 (⟨#[]⟩ : ByteArray) = [⟨#[]⟩] := by decide +kernel
      rw [hd] at ha
      exact absurd ha (by decide +kernel)
    · have hl := (rulesOk_iff.1 hr).1
      have hle : (partsB 32 t).length ≤ 20 := by
        rw [hg, List.length_take] at hl
        omega
      have ht : (partsB 32 t).take 21 = partsB 32 t := List.take_of_length_le (by omega)
      rw [ht] at ha hr
      unfold prSome
      rw [ha, hr, decide_eq_true hle]
      rfl
  · intro h
    have ht := h1 h
    have hf := fmt_parse (t := t) (by unfold prOk; rw [h]; simp)
    unfold prR at hf
    rw [if_neg (by rw [h45]; simp), if_pos h] at hf
    unfold spSome
    rw [ht, hf, sEq_refl]
    unfold prSome at h
    simp only [Bool.and_eq_true] at h
    rw [h.1.1]
    rfl

end Go.Proofs.YtffbcfaahegglaaDoor

namespace Go.Proofs.YtffbcfaahegglaaDoor
open Go.RowKit
attribute [local go_sem] Oper.semAt_some

theorem idx_none {c : UInt8} : ∀ {s : List UInt8}, c ∉ s → Lib.indexByte s c = -1
  | [], _ => rfl
  | b :: s, h => by
    have hb : b ≠ c := fun e => h (by rw [e]; simp)
    rw [idx_cons, if_neg hb, idx_none (fun m => h (List.mem_cons_of_mem _ m))]
    rfl
theorem u8_eq {a b : UInt8} : ((a.toNat : Int) = (b.toNat : Int)) ↔ a = b := by
  constructor
  · intro h
    exact UInt8.toNat_inj.1 (by omega)
  · intro h; rw [h]
theorem take_notin {c : UInt8} {s : List UInt8} {k : Nat} (hk : k < s.length) (h : c ∉ s.take k) (hne : s[k] ≠ c) : c ∉ s.take (k + 1) := by
  rw [List.take_succ_eq_append_getElem hk, List.mem_append]
  rintro (m | m)
  · exact h m
  · simp at m; exact hne m.symm
theorem idx_here {c : UInt8} {s : List UInt8} {k : Nat} (hk : k < s.length) (h : c ∉ s.take k) (he : s[k] = c) : Lib.indexByte s c = (k : Int) := by
  have h1 : s = s.take k ++ c :: s.drop (k + 1) := by
    conv => lhs; rw [← List.take_append_drop k s]
    rw [List.drop_eq_getElem_cons hk, he]
  have h2 := idx_of (s.drop (k + 1)) h
  rw [← h1, List.length_take] at h2
  rw [h2]; congr 1; omega
set_option maxHeartbeats 800000 in
theorem spec_l9Find (s : ByteArray) (c : UInt8) (w : World) (hs : s.size ≤ maxLen) :
    Calls Tryd.prog 55 #[.string s, .int .u8 c.toNat] w fun e w' => e = .returned (.int .i64 (Lib.indexByte s.data.toList c)) ∧ w = w' := by
  unfold maxLen at hs
  go_enter Tryd.func55, Tryd.ntmps55
  go_wp2
  go_loop [5] (fun i => ∃ k : Nat, k ≤ s.size ∧ i = .int .i64 k ∧ c ∉ s.data.toList.take k) (fun i => s.size - (intOf i).toNat)
  case atStart => exact ⟨0, Nat.zero_le _, rfl, by simp⟩
  case round =>
    obtain ⟨k, hk, rfl, hd⟩ := hrel
    by_cases hlt : k < s.size
    · have hlt' : k < s.data.toList.length := by simpa using hlt
      have HN := Lib.hid (take_notin hlt' hd)
      have HH := Lib.hid (idx_here hlt' hd)
      clear hd
      go_wp2
      · rename_i h1 _
        have he := Lib.hid (HH.out (u8_eq.1 (beq_iff_eq.1 h1)))
        clear h1
        go_ret
        exact ⟨ret_int he.out.symm, rfl⟩
      · rename_i h1
        have hN := Lib.hid (HN.out (fun e => by
          have h2 : s[k] = c := e
          rw [h2] at h1
          simp at h1))
        clear h1
        go_round
        case rel => exact ⟨k + 1, by omega, by go_num, hN.out⟩
        case measure => simp [intOf]; omega
    · rw [List.take_of_length_le (by simp; omega)] at hd
      have HD := Lib.hid (idx_none hd); clear hd
      go_wp2
      go_ret
      exact ⟨ret_int HD.out.symm, rfl⟩

/-! ### A text cut -/
def tl (c : UInt8) (s : ByteArray) (f k : Nat) : List ByteArray := if k ≤ s.size then partsB c (s.extract f s.size) else []
theorem ext_toList (s : ByteArray) (f k : Nat) : (s.extract f k).data.toList = (s.data.toList.drop f).take (k - f) := by
  rw [ByteArray.data_extract]; simp [List.extract]
theorem tl_cut {c : UInt8} {s : ByteArray} {f k : Nat} (hf : f ≤ k) (hk : k < s.size) (hn : c ∉ (s.data.toList.drop f).take (k - f)) (he : s[k] = c) : tl c s f k = s.extract f k :: tl c s (k + 1) (k + 1) := by
  have hk' : k < s.data.toList.length := by simpa using hk
  unfold tl
  rw [if_pos (by omega), if_pos (by omega)]
  unfold partsB
  have h1 : s.data.toList.drop f = (s.data.toList.drop f).take (k - f) ++ c :: s.data.toList.drop (k + 1) := by
    conv => lhs; rw [← List.take_append_drop (k - f) (s.data.toList.drop f)]
    rw [List.drop_drop, show f + (k - f) = k by omega, List.drop_eq_getElem_cons hk', show s.data.toList[k] = c from he]
  rw [ext_drop, ext_drop, h1, spl_app _ hn, List.map_cons]
  congr 1
  refine ba_ext ?_
  rw [ext_toList]
theorem tl_end {c : UInt8} {s : ByteArray} {f : Nat} (hn : c ∉ (s.data.toList.drop f).take (s.size - f)) : tl c s f s.size = s.extract f s.size :: tl c s (s.size + 1) (s.size + 1) := by
  have h0 : (s.data.toList.drop f).take (s.size - f) = s.data.toList.drop f := List.take_of_length_le (by simp)
  rw [h0] at hn
  unfold tl
  rw [if_pos (Nat.le_refl _), if_neg (by omega)]
  unfold partsB
  rw [ext_drop, spl_nosep hn, List.map_cons, List.map_nil]
  congr 1
  refine ba_ext ?_
  rw [ext_drop]
theorem tl_zero (c : UInt8) (s : ByteArray) : tl c s 0 0 = partsB c s := by
  unfold tl
  rw [if_pos (Nat.zero_le _)]
  congr 1
  exact ba_ext (by rw [ext_drop]; rfl)
theorem tl_step {c : UInt8} {s : ByteArray} {f k : Nat} (hk : k < s.size) : tl c s f k = tl c s f (k + 1) := by
  unfold tl
  rw [if_pos (by omega), if_pos (by omega)]
theorem ntake_step {c : UInt8} {s : ByteArray} {f k : Nat} (hf : f ≤ k) (hk : k < s.size) (hn : c ∉ (s.data.toList.drop f).take (k - f)) (he : s[k] ≠ c) : c ∉ (s.data.toList.drop f).take (k + 1 - f) := by
  have hk' : k < s.data.toList.length := by simpa using hk
  rw [show k + 1 - f = k - f + 1 by omega]
  refine take_notin (by rw [List.length_drop]; omega) hn ?_
  rw [List.getElem_drop]
  simp only [show f + (k - f) = k by omega]
  exact he
theorem parts_len (c : UInt8) (s : ByteArray) : (partsB c s).length ≤ s.size + 1 := by
  have h : ∀ l : List UInt8, (spl c l).length ≤ l.length + 1 := by
    intro l
    induction l with
    | nil => exact Nat.le_refl _
    | cons b l ih =>
      by_cases hb : b = c
      · subst hb
        rw [spl_eq, List.length_cons, List.length_cons]; omega
      · obtain ⟨p, ps, hp⟩ := List.exists_cons_of_ne_nil (spl_ne c l)
        rw [spl_cons hb hp]
        rw [hp] at ih
        simp only [List.length_cons] at ih ⊢
        omega
  unfold partsB
  rw [List.length_map]
  exact h _

set_option maxRecDepth 100000 in
set_option maxHeartbeats 1600000 in
theorem spec_l9Cut (s : ByteArray) (c : UInt8) (w : World) (hs : s.size ≤ 1000000000000) :
    Calls Tryd.prog 54 #[.string s, .int .u8 c.toNat] w fun e w' => ∃ v, e = .returned v ∧ own (α := ByteArray) 9 w.heap.size w' v (partsB c s) ∧ Below w.heap.size w w' := by
  obtain ⟨i0, hi, hz0, hz1, hz2⟩ := info_parts Tryd.infoStr
  have HPL := Lib.hid (parts_len c s)
  go_enter Tryd.func54, Tryd.ntmps54
  go_wp2
  have hoA : own (α := ByteArray) 9 w.heap.size (w.alloc (Obj.cells #[] 9)) (.slice (some ⟨w.heap.size, 0, none⟩) 0 0) [] := own.made0 w _ (Nat.le_refl _)
  have lA : Below w.heap.size w (w.alloc (Obj.cells #[] 9)) := (Below.refl _ _).alloc (Nat.le_refl _) _
  generalize w.alloc (Obj.cells #[] 9) = wA at *
  go_loopw [5, 6, 7] (fun v f i wr => ∃ (k fr : Nat) (xs : List ByteArray), k ≤ s.size + 1 ∧ fr ≤ k ∧ i = .int .i64 k ∧ f = .int .i64 fr ∧ own 9 w.heap.size wr v xs ∧ xs ++ tl c s fr k = partsB c s ∧ (k ≤ s.size → c ∉ (s.data.toList.drop fr).take (k - fr)) ∧ Below w.heap.size w wr) (fun _ _ i _ => s.size + 1 - (intOf i).toNat)
  case atStart => exact ⟨0, 0, [], Nat.zero_le _, Nat.le_refl _, rfl, rfl, hoA, by rw [tl_zero]; rfl, fun _ => by simp, lA⟩
  case round =>
    obtain ⟨k, fr, xs, hk, hfr, rfl, rfl, ho, hcat, hnot, lr⟩ := hrel
    obtain ⟨w2, rfl⟩ : ∃ w2 : World, w2 = wr := ⟨_, rfl⟩
    clear hoA lA
    have hxl : xs.length ≤ s.size + 1 := by
      have := congrArg List.length hcat
      rw [List.length_append] at this
      have := HPL.out
      omega
    have HO := Lib.hid ho
    have HC := Lib.hid hcat
    have hz := lr.size
    obtain ⟨A, m, cp, rfl, hm, _, _, _⟩ := ho.rd
    subst hm
    have hsx : (s.extract fr k).size ≤ maxLen := by rw [ByteArray.size_extract]; unfold maxLen; omega
    by_cases hke : k = s.size + 1
    · have HE : Hid (xs = partsB c s) := by
        show _ = _
        rw [← hcat, hke]; unfold tl; rw [if_neg (by omega)]; simp
      clear hnot hcat ho
      have hle : ¬ ((k : Int) ≤ (s.size : Int)) := by omega
      go_wp2
      go_ret
      exact ⟨_, rfl, HE.out ▸ HO.out, lr⟩
    · have hks : k ≤ s.size := by omega
      have hle : (k : Int) ≤ (s.size : Int) := by omega
      have HN := Lib.hid (hnot hks)
      clear hke hnot hcat ho
      have hfi : (fr : Int) ≤ (k : Int) := by omega
      have hf0 : (0 : Int) ≤ (fr : Int) := by omega
      by_cases hkl : k = s.size
      · have HT : Hid ((xs ++ [s.extract fr k]) ++ tl c s (k + 1) (k + 1) = partsB c s) := by
          show _ = _
          have hN := HN.out
          rw [hkl] at hN
          have := tl_end hN
          rw [List.append_assoc, ← HC.out, hkl, this]
          rfl
        have hkb : ((k : Int) == (s.size : Int)) = true := beq_iff_eq.2 (by omega)
        have HKL := Lib.hid hkl
        clear hkl
        go_wp2_with (at_builtin; refine wpList_append1 (α := ByteArray) rfl (.tmp 26) (.tmp 31) _ rfl w.heap.size 9 i0 _ 16 Tryd.underlying61 hi hz0 hz1 hz2 rfl (by decide) (.slice A xs.length cp) xs (s.extract fr k) rfl (HO.out.alloc _) ⟨w2.heap.size, 0, none⟩ 1 [.string (s.extract fr k)] rfl ⟨hsx, rfl⟩ (news_at w2 _ [.string (s.extract fr k)]) (by unfold maxLen; omega) (by omega) (by simp; omega) ?_; intro v' w4 ho4 hg4 _)
        have hb4 : Below w.heap.size w2 w4 := ((Below.refl _ _).alloc hz _).trans (below_append (HO.out.alloc _) hg4 (by simp; omega))
        have HO4 := Lib.hid ho4
        clear hg4 ho4
        go_wp2
        go_roundw
        case rel => exact ⟨k + 1, k + 1, _, by omega, Nat.le_refl _, by go_num, by go_num, HO4.out, HT.out, fun h => by have := HKL.out; omega, lr.trans hb4⟩
        case measure => simp [intOf]; omega
      · have hkb : ((k : Int) == (s.size : Int)) = false := beq_eq_false_iff_ne.2 (by omega)
        have hlt : k < s.size := by omega
        by_cases hc : s[k] = c
        · have hcb : ((s[k].toNat : Int) == (c.toNat : Int)) = true := by rw [hc]; simp
          have HT : Hid ((xs ++ [s.extract fr k]) ++ tl c s (k + 1) (k + 1) = partsB c s) := by
            show _ = _
            rw [List.append_assoc, ← HC.out, tl_cut hfr hlt HN.out hc]
            rfl
          have HD := Lib.hid hc
          clear hc
          go_wp2_with (at_builtin; refine wpList_append1 (α := ByteArray) rfl (.tmp 26) (.tmp 31) _ rfl w.heap.size 9 i0 _ 16 Tryd.underlying61 hi hz0 hz1 hz2 rfl (by decide) (.slice A xs.length cp) xs (s.extract fr k) rfl (HO.out.alloc _) ⟨w2.heap.size, 0, none⟩ 1 [.string (s.extract fr k)] rfl ⟨hsx, rfl⟩ (news_at w2 _ [.string (s.extract fr k)]) (by unfold maxLen; omega) (by omega) (by simp; omega) ?_; intro v' w4 ho4 hg4 _)
          have hb4 : Below w.heap.size w2 w4 := ((Below.refl _ _).alloc hz _).trans (below_append (HO.out.alloc _) hg4 (by simp; omega))
          have HO4 := Lib.hid ho4
          clear hg4 ho4
          go_wp2
          go_roundw
          case rel => exact ⟨k + 1, k + 1, _, by omega, Nat.le_refl _, by go_num, by go_num, HO4.out, HT.out, fun _ => by simp, lr.trans hb4⟩
          case measure => simp [intOf]; omega
        · have hcb : ((s[k].toNat : Int) == (c.toNat : Int)) = false := beq_eq_false_iff_ne.2 fun e => hc (u8_eq.1 e)
          have HD := Lib.hid (ntake_step hfr hlt HN.out hc)
          have HT : Hid (xs ++ tl c s fr (k + 1) = partsB c s) := by
            show _ = _
            rw [← tl_step hlt]; exact HC.out
          clear hc
          go_wp2
          go_roundw
          case rel => exact ⟨k + 1, fr, xs, by omega, by omega, by go_num, rfl, HO.out, HT.out, fun _ => HD.out, lr⟩
          case measure => simp [intOf]; omega

end Go.Proofs.YtffbcfaahegglaaDoor

namespace Go.Proofs.YtffbcfaahegglaaDoor
open Go.RowKit
attribute [local go_sem] Oper.semAt_some

theorem allR_take {ps : List ByteArray} {k : Nat} (hk : k < ps.length) (h : allR (ps.take k) = true) : allR (ps.take (k + 1)) = (partR ps[k]).isSome := by
  rw [List.take_succ_eq_append_getElem hk, allR_snoc, h, Bool.true_and]
theorem take21 {ps : List ByteArray} {k : Nat} (hk : k ≤ ps.length) (hk2 : k ≤ 21) (hend : k = ps.length ∨ 20 < k) : ps.take 21 = ps.take k := by
  rcases hend with h | h
  · rw [List.take_of_length_le (by omega), List.take_of_length_le (by omega)]
  · rw [show k = 21 by omega]
theorem allR_bad {ps : List ByteArray} {k : Nat} (hk : k < ps.length) (hk2 : k ≤ 20) (h : allR (ps.take (k + 1)) = false) : allR (ps.take 21) = false :=
  allR_prefix (List.take_prefix_take_left (by omega)) h

theorem ret_vb {v : Value} {b b' : Bool} (h : b' = b) : Ending.returned (.tuple #[v, .bool b]) = .returned (.tuple #[v, .bool b']) := by rw [h]

set_option maxRecDepth 100000 in
set_option maxHeartbeats 3200000 in
theorem spec_ParseRules (t : ByteArray) (w : World) (ht : t.size ≤ 1000000000000) :
    Calls Tryd.prog 20 #[.string t] w fun e w' => ∃ v', e = .returned (.tuple #[v', .bool (prOk t)]) ∧ own 65 w.heap.size w' v' (prR t) ∧ Below w.heap.size w w' := by
  obtain ⟨i0, ji, jz0, jz1, jz2⟩ := info_parts Tryd.infoRul
  have lA : Below w.heap.size w (w.alloc (Obj.cells #[] 65)) := (Below.refl _ _).alloc (Nat.le_refl _) _
  have hoA : own (α := Fwd) 65 w.heap.size (w.alloc (Obj.cells #[] 65)) (.slice (some ⟨w.heap.size, 0, none⟩) 0 0) [] := own.made0 w _ (Nat.le_refl _)
  have LA := Lib.hid lA; have HOA := Lib.hid hoA
  clear lA hoA
  go_enter Tryd.func20, Tryd.ntmps20
  by_cases h45 : sEq t ⟨#[45]⟩ = true
  · have hO : prOk t = true := by unfold prOk; rw [h45]; rfl
    have hR : prR t = [] := by unfold prR; rw [if_pos h45]
    have HO := Lib.hid hO; have HR := Lib.hid hR
    clear hO hR
    have h46 : (t.toList == [45]) = true := by unfold sEq at h45; rw [ByteArray.toList_eq ⟨#[45]⟩] at h45; exact h45
    clear h45
    go_wp2
    go_ret2
    exact ⟨_, ret_vb HO.out, by rw [HR.out]; exact HOA.out, LA.out⟩
  · have h46 : (t.toList == [45]) = false := by rw [Bool.not_eq_true] at h45; unfold sEq at h45; rw [ByteArray.toList_eq ⟨#[45]⟩] at h45; exact h45
    have h45' : sEq t ⟨#[45]⟩ = false := by rw [Bool.not_eq_true] at h45; exact h45
    have HSP := Lib.hid (sp_eq h45')
    have HO : Hid (prOk t = spSome t) := by show _ = _; rw [HSP.out.1]; unfold prOk; rw [h45']; rfl
    have HR : Hid (prR t = if spSome t then gotR ((partsB 32 t).take 21) else []) := by
      show _ = _
      rw [HSP.out.1]; unfold prR; rw [if_neg h45]
      split
      · rename_i h; rw [HSP.out.2 h]
      · rfl
    clear h45 h45' HSP
    have HPL := Lib.hid (parts_len 32 t)
    have HC := fun W => spec_l9Cut t 32 W ht
    go_wp2_with fail
    obtain ⟨wA, hWA⟩ : ∃ W, w.alloc (Obj.cells #[] 65) = W := ⟨_, rfl⟩
    rw [hWA] at LA HOA ⊢
    clear hWA
    refine (HC wA).mono ?_
    rintro e w1 ⟨v, rfl, hp, b1⟩
    clear HC
    have hap := apart_lt HOA.out hp (Nat.le_refl _)
    obtain ⟨A, n, c, rfl, hn, hnc, hcm, _⟩ := hp.rd
    have ho1 := HOA.out.below b1
    have lw1 : Below w.heap.size w w1 := LA.out.trans (b1.mono LA.out.size)
    have hPS := HPL.out
    clear HPL b1
    obtain ⟨ps, hps⟩ : ∃ ps, partsB 32 t = ps := ⟨_, rfl⟩
    rw [hps] at hn hPS hp HR
    have HSS : Hid (spSome t = (allR (ps.take 21) && sEq (fmtRu (gotR (ps.take 21))) t)) := by show _ = _; unfold spSome; rw [hps]
    clear hps
    subst hn
    go_wp2_with fail
    go_loopw [4, 6, 7] (fun v i _ wr => ∃ k : Nat, k ≤ ps.length ∧ k ≤ 21 ∧ i = .int .i64 k ∧ allR (ps.take k) = true ∧ own 65 w.heap.size wr v (gotR (ps.take k)) ∧ own 9 wA.heap.size wr (.slice A ps.length c) ps ∧ apart v (.slice A ps.length c) ∧ Below w.heap.size w wr) (fun _ i _ _ => 21 - (intOf i).toNat)
    case atStart => exact ⟨0, Nat.zero_le _, by omega, rfl, rfl, ho1, hp, hap, lw1⟩
    case round =>
      obtain ⟨k, hk, hk21, rfl, hall, ho, hop, hap2, lw⟩ := hrel
      obtain ⟨w2, rfl⟩ : ∃ w2 : World, w2 = wr := ⟨_, rfl⟩
      clear ho1 lw1 hp hap
      have HOP := Lib.hid hop; have HAP := Lib.hid hap2
      have HALL := Lib.hid hall; have HOW := Lib.hid ho
      clear hall
      by_cases hend : k = ps.length ∨ 20 < k
      · have HT := Lib.hid (take21 hk hk21 hend)
        have hcond : ((decide ((k : Int) < (ps.length : Int))) && decide ((k : Int) ≤ 20)) = false := by
          rw [Bool.and_eq_false_iff, decide_eq_false_iff_not, decide_eq_false_iff_not]; omega
        rw [HT.out, HALL.out, Bool.true_and] at HSS
        rw [HT.out] at HR
        obtain ⟨Av, m, cp, rfl, hm, _, _, _⟩ := ho.rd
        have HF := spec_FormatRules _ _ w2 HOW.out.rd
        clear ho hm
        by_cases hkl : k = ps.length
        · have hki : ¬ ((k : Int) < (ps.length : Int)) := by omega
          have HKL := Lib.hid hkl
          clear hkl hend hcond
          go_wp2_with fail
          refine HF.mono ?_
          rintro e w3 ⟨rfl, l3⟩
          clear HF
          have o3 := Lib.hid (HOW.out.below l3)
          have lw3 := lw.trans (l3.mono lw.size)
          have hz3 := Lib.hid lw3
          obtain ⟨F, hF⟩ : ∃ F, fmtRu (gotR (ps.take k)) = F := ⟨_, rfl⟩
          rw [hF] at HSS ⊢
          clear hF lw3 l3
          cases hq : sEq F t
          · rw [hq] at HSS
            have h47 : (F.toList == t.toList) = false := hq
            clear hq
            go_wp2_with fail
            go_ret2
            exact ⟨_, ret_vb (HO.out.trans HSS.out), by rw [HR.out, HSS.out]; exact own.made0 _ _ hz3.out.size, hz3.out.alloc hz3.out.size _⟩
          · rw [hq] at HSS
            have h47 : (F.toList == t.toList) = true := hq
            clear hq
            go_wp2_with fail
            go_ret2
            exact ⟨_, ret_vb (HO.out.trans HSS.out), by rw [HR.out, HSS.out, if_pos rfl]; exact o3.out, hz3.out⟩
        · have hki : (k : Int) < (ps.length : Int) := by omega
          have hki2 : ¬ ((k : Int) ≤ 20) := by omega
          clear hkl hend hcond
          go_wp2_with fail
          refine HF.mono ?_
          rintro e w3 ⟨rfl, l3⟩
          clear HF
          have o3 := Lib.hid (HOW.out.below l3)
          have lw3 := lw.trans (l3.mono lw.size)
          have hz3 := Lib.hid lw3
          obtain ⟨F, hF⟩ : ∃ F, fmtRu (gotR (ps.take k)) = F := ⟨_, rfl⟩
          rw [hF] at HSS ⊢
          clear hF lw3 l3
          cases hq : sEq F t
          · rw [hq] at HSS
            have h47 : (F.toList == t.toList) = false := hq
            clear hq
            go_wp2_with fail
            go_ret2
            exact ⟨_, ret_vb (HO.out.trans HSS.out), by rw [HR.out, HSS.out]; exact own.made0 _ _ hz3.out.size, hz3.out.alloc hz3.out.size _⟩
          · rw [hq] at HSS
            have h47 : (F.toList == t.toList) = true := hq
            clear hq
            go_wp2_with fail
            go_ret2
            exact ⟨_, ret_vb (HO.out.trans HSS.out), by rw [HR.out, HSS.out, if_pos rfl]; exact o3.out, hz3.out⟩
      · have hkl : k < ps.length := by omega
        have hk20 : k ≤ 20 := by omega
        have hki : (k : Int) < (ps.length : Int) := by omega
        have hki2 : (k : Int) ≤ 20 := by omega
        have hki0 : (0 : Int) ≤ (k : Int) := by omega
        obtain ⟨A', n', c', heq, _, _, _, hrs⟩ := hop.rd
        obtain ⟨b, o, hA', hb, hpk, y1⟩ := rdA.strU hrs k hkl
        have y1 := y1 w2 (Below.refl _ _)
        cases heq
        subst hA'
        clear hrs hop hap2
        have HPA := Lib.hid (allR_take hkl HALL.out)
        have HBAD := Lib.hid (allR_bad hkl hk20)
        have HTK : Hid (ps.take (k + 1) = ps.take k ++ [ps[k]]) := List.take_succ_eq_append_getElem hkl
        clear hend
        generalize ps[k] = x at *
        have HFD := fun W => spec_l9Find x 62 W hpk
        have hge := Lib.indexByte_ge x.data.toList 62
        by_cases hneg : Lib.indexByte x.data.toList 62 < 0
        · have HCN := Lib.hid (cut_none hneg)
          have HB : Hid (spSome t = false) := by
            show _ = _
            rw [HSS.out, HBAD.out (by rw [HPA.out]; unfold partR; rw [HCN.out]; rfl)]
            rfl
          clear ho
          go_wp2_with fail
          refine (HFD _).mono ?_
          rintro e _ ⟨rfl, rfl⟩
          clear HFD
          generalize Lib.indexByte x.data.toList 62 = j at *
          go_wp2_with fail
          go_ret2
          exact ⟨_, ret_vb (HO.out.trans HB.out), by rw [HR.out, HB.out]; exact own.made0 _ _ lw.size, lw.alloc lw.size _⟩
        · obtain ⟨i, hix⟩ : ∃ i : Nat, Lib.indexByte x.data.toList 62 = (i : Int) := ⟨(Lib.indexByte x.data.toList 62).toNat, by omega⟩
          obtain ⟨_, hs2⟩ := spl_some hix
          have hil : i < x.size := by simpa using hs2
          have hcs := cut_some hix
          have hcz := cut_sizes hcs
          rw [hix] at HFD
          have HPR : Hid (partR x = some ⟨x.extract 0 i, x.extract (i + 1) x.size⟩) := by show _ = _; unfold partR; rw [hcs]; rfl
          have HY : Hid (Fwd.ok ⟨x.extract 0 i, x.extract (i + 1) x.size⟩) := ⟨Nat.le_trans hcz.1 hpk, Nat.le_trans hcz.2 hpk⟩
          have HAL : Hid (allR (ps.take (k + 1)) = true) := by show _ = _; rw [HPA.out, HPR.out]; rfl
          have HGS : Hid (gotR (ps.take (k + 1)) = gotR (ps.take k) ++ [⟨x.extract 0 i, x.extract (i + 1) x.size⟩]) := by show _ = _; rw [HTK.out]; exact gotR_snoc HPR.out
          have hgl : (gotR (ps.take k)).length = k := by
            rw [gotR_len _ HALL.out, List.length_take]; omega
          clear hix hneg hge hs2 hcs hcz
          unfold maxLen at hpk
          have hz2 := lw.size
          have w2' : IntKind.i64.wrap ((i : Int) + 1) = (i : Int) + 1 := IntWalk.i64_in _ (by omega)
          have hii : (i : Int) ≤ (x.size : Int) := by omega
          have hi1 : (i : Int) + 1 ≤ (x.size : Int) := by omega
          have hiN : ((i : Int) + 1).toNat = i + 1 := by omega
          have hiz : (0 : Int) ≤ (i : Int) := by omega
          have hiz1 : (0 : Int) ≤ (i : Int) + 1 := by omega
          have hin : ¬ ((i : Int) < 0) := by omega
          obtain ⟨Av, m, cp, rfl, hm, _, _, _⟩ := ho.rd
          rw [hgl] at hm
          subst hm
          clear ho
          generalize gotR (ps.take m) = gs at *
          go_wp2_with fail
          refine (HFD _).mono ?_
          rintro e _ ⟨rfl, rfl⟩
          clear HFD
          go_wp2
          go_region_law (go_loud (refine step_append1 (α := Fwd) (by rfl) (.tmp 32) (.tmp 47) 34 (by rfl) w.heap.size 65 i0 _ 32 Tryd.underlying34 ji jz0 jz1 jz2 rfl (by decide) (.slice Av m cp) gs ⟨x.extract 0 i, x.extract (i + 1) x.size⟩ (by rfl) ((HOW.out.alloc _).drew) ⟨w2.heap.size, 0, none⟩ 1 (Fwd.cells ⟨x.extract 0 i, x.extract (i + 1) x.size⟩) (by rfl) ⟨HY.out, rfl⟩ (news_drew w2 _ (Fwd.cells ⟨x.extract 0 i, x.extract (i + 1) x.size⟩)) (by unfold maxLen; omega) (by omega) (by simp; omega) ?_; intro g cap w4 ho4 hg4 ha4 hl4))
          all_goals
            have hWD : Below w2.heap.size w2 (w2.alloc (Obj.cells #[Value.string (x.extract 0 i), Value.string (x.extract (i + 1) x.size)] 65)).drew := later_drew (later_alloc (Below.refl _ _) _)
            have hb4 : Below w.heap.size w2 w4 := (hWD.mono hz2).trans (below_append ((HOW.out.alloc _).drew) hg4 (by simp; omega))
            have hp5 := ((HOP.out.alloc (Obj.cells #[Value.string (x.extract 0 i), Value.string (x.extract (i + 1) x.size)] 65)).drew).grown hg4 (apart_symm HAP.out)
            have ha5 := apart_app (n := m + 1) (c := cap) HAP.out ha4 (fun j hj => ((HOP.out.alloc (Obj.cells #[Value.string (x.extract 0 i), Value.string (x.extract (i + 1) x.size)] 65)).drew.blk j hj).2)
            have HO4 := Lib.hid ho4; have HB4 := Lib.hid hb4; have HP5 := Lib.hid hp5; have HA5 := Lib.hid ha5
            rw [hgl] at HO4
            clear hWD hg4 ho4 hb4 hp5 ha5
            go_wp2
            go_roundw
            case rel => exact ⟨m + 1, by omega, by omega, by go_num, HAL.out, by rw [HGS.out]; exact HO4.out, HP5.out, HA5.out, lw.trans HB4.out⟩
            case measure => simp [intOf]; omega

end Go.Proofs.YtffbcfaahegglaaDoor
