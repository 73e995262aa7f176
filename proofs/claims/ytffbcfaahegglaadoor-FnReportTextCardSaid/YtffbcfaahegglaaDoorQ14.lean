/- F1 B6 -/
import Derived.Test.YtffbcfaahegglaaDoorQ9
import Derived.Test.YtffbcfaahegglaaDoorQ13
import Derived.Test.YtffbcfaahegglaaDoorQ6
import Derived.Test.YtffbcfaahegglaaDoorQ12
namespace Go.Proofs.YtffbcfaahegglaaDoor
open Go.RowKit

theorem ret_tup {a b : Value} (h : a = b) : Ending.returned a = .returned b := by rw [h]


set_option maxHeartbeats 400000 in
theorem spec_l4Index (v : Value) (fs : List Fwd) (c : ByteArray) (w : World) (hv : rd w w.heap.size v fs) :
    Calls Tryd.prog 135 #[v, .string c] w fun e w' => e = .returned (.int .i64 (fwdI fs c)) ∧ w = w' := by
  obtain ⟨A, n, cp, rfl, hn, hc, hm, hr⟩ := hv
  subst hn
  unfold maxLen at hm
  have HR := Lib.hid hr; clear hr
  have l0 := Below.refl w.heap.size w
  go_enter Tryd.func135, Tryd.ntmps135
  go_wp2
  go_loop [5] (fun i => ∃ k : Nat, k ≤ fs.length ∧ i = .int .i64 k ∧ Hid (∀ j (h : j < fs.length), j < k → sEq fs[j].src c = false)) (fun i => fs.length - (intOf i).toNat)
  case atStart => exact ⟨0, Nat.zero_le _, rfl, fun j _ hj => absurd hj (Nat.not_lt_zero j)⟩
  case round =>
    obtain ⟨k, hk, rfl, HG⟩ := hrel
    by_cases hlt : k < fs.length
    · obtain ⟨b, o, rfl, hb, hok, c1, c2⟩ := HR.out.fwdU k hlt
      have HX : Hid (∀ h : sEq fs[k].src c = false, ∀ j (h1 : j < fs.length), j < k + 1 → sEq fs[j].src c = false) := fun h j h1 hj => by
        by_cases hjk : j < k
        · exact HG.out j h1 hjk
        · obtain rfl : j = k := by omega
          exact h
      have HY : Hid (∀ h : sEq fs[k].src c = true, fwdI fs c = k) := fun h => fiI_at hlt (fun j hj hjk => HG.out j hj hjk) h
      generalize fs[k] = x at *
      cases he : sEq x.src c
      · have he' := Lib.hid he
        have hq : (x.src.toList == c.toList) = false := he
        clear he
        go_wp2
        go_round
        case rel => exact ⟨k + 1, by omega, by go_num, HX.out he'.out⟩
        case measure => simp [intOf]; omega
      · have he' := Lib.hid he
        have hq : (x.src.toList == c.toList) = true := he
        clear he
        go_wp2
        go_ret
        exact ⟨ret_int (HY.out he'.out).symm, rfl⟩
    · have HE : Hid (fwdI fs c = -1) := fiI_none fun j hj => HG.out j hj (by omega)
      go_wp2
      go_ret
      exact ⟨ret_int HE.out.symm, rfl⟩


set_option maxHeartbeats 400000 in
theorem spec_l4Resolve (v : Value) (fs : List Fwd) (c : ByteArray) (w : World) (hv : rd w w.heap.size v fs) (hcs : c.size ≤ maxLen) (hl : fs.length ≤ 1048576) :
    Calls Tryd.prog 121 #[v, .string c] w fun e w' => e = .returned (.tuple #[.string (follow fs c).1, .int .i64 ((follow fs c).2.1 : Nat), .bool (follow fs c).2.2]) ∧ Below w.heap.size w w' := by
  obtain ⟨A, n, cp, rfl, hn, hc, hm, hr⟩ := hv
  have hv0 := Lib.hid (show rd w w.heap.size (.slice A n cp) fs from ⟨A, n, cp, rfl, hn, hc, hm, hr⟩)
  subst hn
  unfold maxLen at hm hcs
  have HR := Lib.hid hr; clear hr
  have l0 := Below.refl w.heap.size w
  have HF : Hid (follow fs c = followN fs (fs.length + 1) c 0) := rfl
  go_enter Tryd.func121, Tryd.ntmps121
  go_wp2
  go_loopw [1, 7] (fun t i wr => ∃ (k : Nat) (d : ByteArray), k ≤ fs.length + 1 ∧ i = .int .i64 k ∧ t = .string d ∧ d.size ≤ 2 ^ 63 - 1 ∧ Below w.heap.size w wr ∧ Hid (follow fs c = followN fs (fs.length + 1 - k) d k)) (fun _ i _ => fs.length + 1 - (intOf i).toNat)
  case atStart => exact ⟨0, c, Nat.zero_le _, rfl, rfl, hcs, l0, HF.out⟩
  case round =>
    obtain ⟨k, d, hk, rfl, rfl, hds, lr, HG⟩ := hrel
    obtain ⟨w1, rfl⟩ : ∃ w1 : World, w1 = wr := ⟨_, rfl⟩
    clear l0
    by_cases hlt : k < fs.length + 1
    · have hlt' : (k : Int) ≤ (fs.length : Int) := by omega
      have HS : Hid (follow fs c = if fwdI fs d < 0 then (d, k, true) else followN fs (fs.length + 1 - (k + 1)) (fwdTo fs d) (k + 1)) := by
        show _ = _
        rw [HG.out, show fs.length + 1 - k = (fs.length + 1 - (k + 1)) + 1 by omega]; rfl
      obtain ⟨r, HRR⟩ : ∃ r, Hid (fwdI fs d = r) := ⟨_, rfl⟩
      have hrr := fiI_range (fun x : Fwd => sEq x.src d) fs
      rw [show fiI (fun x : Fwd => sEq x.src d) fs = r from HRR.out] at hrr
      go_wp2_with fail
      refine (spec_l4Index _ fs d _ (hv0.out.on lr)).mono ?_
      rw [HRR.out]
      rintro e w2 ⟨rfl, rfl⟩
      have l2 := lr
      by_cases hneg : r < 0
      · go_wp2_with fail
        go_ret3
        exact ⟨ret_tup (by rw [HS.out, HRR.out, if_pos hneg] <;> rfl), l2⟩
      · obtain ⟨q, rfl⟩ := Int.eq_ofNat_of_zero_le (show 0 ≤ r by omega)
        have hq : q < fs.length := by omega
        obtain ⟨b, o, rfl, hb, ⟨hok1, hok2⟩, c1, c2⟩ := HR.out.fwdU q hq
        have HT := Lib.hid (fwdTo_at HRR.out hq)
        generalize fs[q] = x at *
        unfold maxLen at hok2
        have hqi : (q : Int) < (fs.length : Int) := by omega
        go_wp2_with fail
        go_roundw
        case rel => exact ⟨k + 1, x.dst, by omega, by go_num, rfl, hok2, l2, by show _ = _; rw [HS.out, HRR.out, if_neg (by omega), HT.out]⟩
        case measure => simp [intOf]; omega
    · have hlt' : ¬ (k : Int) ≤ (fs.length : Int) := by omega
      have HE : Hid (follow fs c = (⟨#[]⟩, 0, false)) := by show _ = _; rw [HG.out, show fs.length + 1 - k = 0 by omega]; rfl
      go_wp2_with fail
      go_ret3
      exact ⟨ret_tup (by rw [HE.out] <;> rfl), lr⟩

theorem spec_l5Size (n : Int) (w : World) : Calls Tryd.prog 120 #[.int .i64 n] w fun e w' => e = .returned (.bool (sizeOk n)) ∧ w = w' := by
  go_enter Tryd.func120, Tryd.ntmps120
  go_wp2_with fail
  refine (spec_l1In n 1 20 w).mono ?_
  rintro e w1 ⟨rfl, rfl⟩
  obtain ⟨r, HR⟩ : ∃ r, Hid ((decide (1 ≤ n) && decide (n ≤ 20)) = r) := ⟨_, rfl⟩
  rw [HR.out]
  go_wp2_with fail
  go_ret
  exact ⟨ret_bool HR.out.symm, rfl⟩


end Go.Proofs.YtffbcfaahegglaaDoor

namespace Go.Proofs.YtffbcfaahegglaaDoor
open Go.RowKit

theorem outN_len (p : Pln) : ∀ (n k : Nat) (xs : List Ltr), (outN p k n xs).length ≤ n * xs.length
  | 0, _, _ => by simp [outN]
  | n + 1, k, xs => by
    show (restOf _ xs ++ outN p (k + 1) n (pass1 p k xs)).length ≤ _
    have h1 := outN_len p n (k + 1) (pass1 p k xs)
    have h2 := pass1_len p k xs
    have h3 : n * (pass1 p k xs).length ≤ n * xs.length := Nat.mul_le_mul_left _ h2
    have h4 : (restOf (fun x => binI p x.code k) xs).length ≤ xs.length := List.length_filter_le _ _
    rw [List.length_append, Nat.add_mul, Nat.one_mul]
    omega

/-- Whether bins are those of a batch. -/
def collectOk (xss : List (List Ltr)) : Bool := decide (xss.length ≤ 60) && okB xss.flatten
def collected (xss : List (List Ltr)) : List Ltr := if collectOk xss then xss.flatten else []
theorem collected_no {xss : List (List Ltr)} (h : collectOk xss = false) : collected xss = [] := by unfold collected; rw [h]; rfl
theorem collected_yes {xss : List (List Ltr)} (h : collectOk xss = true) : collected xss = xss.flatten := by unfold collected; rw [if_pos h]
theorem flatten_take_len {α : Type} (xss : List (List α)) (k : Nat) : (xss.take k).flatten.length ≤ xss.flatten.length := by
  conv => rhs; rw [← List.take_append_drop k xss, List.flatten_append, List.length_append]
  omega
theorem okB_long {xs : List Ltr} (h : 60 < xs.length) : okB xs = false := by unfold okB; rw [decide_eq_false (by omega)]; rfl

set_option maxRecDepth 100000 in
set_option maxHeartbeats 1600000 in
theorem impl_CollectBins (v : Value) (xss : List (List Ltr)) (w : World) (hv : rd w w.heap.size v xss) :
    Calls Tryd.prog 39 #[v] w fun e w' => ∃ vL, e = .returned (.tuple #[vL, .bool (collectOk xss)]) ∧ own 98 w.heap.size w' vL (collected xss) ∧ Below w.heap.size w w' := by
  obtain ⟨A, n, c, rfl, hn, hc, hm, hr⟩ := hv
  subst hn
  unfold maxLen at hm
  have HR := Lib.hid hr; clear hr
  have l0 := Below.refl w.heap.size w
  obtain ⟨i0, hi, hz0, hz1, hz2⟩ := info_parts Tryd.infoLtr
  have HQ : Hid (collectOk xss = (decide (xss.length ≤ 60) && okB xss.flatten)) := rfl
  have HNO : Hid (∀ h : collectOk xss = false, ∀ W : World, own 98 w.heap.size W (.slice none 0 0) (collected xss)) := fun h W => by rw [collected_no h]; exact own.nil_ _ _ _
  go_enter Tryd.func39, Tryd.ntmps39
  by_cases h60 : (60 : Int) < (xss.length : Int)
  · have HF : Hid (collectOk xss = false) := by show _ = _; rw [HQ.out, decide_eq_false (by omega)]; rfl
    go_wp2
    go_ret2
    exact ⟨_, ret_tup (by rw [HF.out] <;> rfl), HNO.out HF.out _, l0⟩
  have H60 := Lib.hid (show xss.length ≤ 60 by omega)
  go_wp2
  go_loopw [4, 12] (fun t i wr => ∃ k : Nat, k ≤ xss.length ∧ i = .int .i64 k ∧ Below w.heap.size w wr ∧ own 98 w.heap.size wr t (xss.take k).flatten ∧ (xss.take k).flatten.length ≤ 60) (fun _ i _ => xss.length - (intOf i).toNat)
  case atStart => exact ⟨0, Nat.zero_le _, rfl, l0, own.nil_ _ _ _, by simp⟩
  case round =>
    obtain ⟨k, hk, rfl, lr, ho, hf60⟩ := hrel
    obtain ⟨w1, rfl⟩ : ∃ w1 : World, w1 = wr := ⟨_, rfl⟩
    clear l0
    by_cases hlt : k < xss.length
    · obtain ⟨b, o, u, rfl, hb, hu, c1⟩ := HR.out.rowU k hlt
      have HS : Hid ((xss.take (k + 1)).flatten = (xss.take k).flatten ++ xss[k]) := by show _ = _; rw [List.take_succ_eq_append_getElem hlt, List.flatten_append]; simp
      have HTL := Lib.hid (flatten_take_len xss (k + 1))
      generalize xss[k] = ys at *
      obtain ⟨A2, m2, c2, rfl, hm2, hc2, hmm2, hr2⟩ := hu
      have hu : rd w w.heap.size (.slice A2 m2 c2) ys := ⟨A2, m2, c2, rfl, hm2, hc2, hmm2, hr2⟩
      subst hm2
      clear hr2
      unfold maxLen at hmm2
      have HU := Lib.hid hu; clear hu
      generalize hys : (xss.take k).flatten = zs at *
      have HYS := Lib.hid hys; clear hys
      have ho' := Lib.hid ho
      obtain ⟨A3, m3, c3, rfl, hm3, _, _, _⟩ := ho.rd
      subst hm3
      clear ho
      by_cases hbig : (60 : Int) - (zs.length : Int) < (ys.length : Int)
      · have HF : Hid (collectOk xss = false) := by
          show _ = _
          rw [HQ.out, okB_long (by have h1 := HTL.out; have h2 := congrArg List.length HS.out; rw [List.length_append] at h2; omega)]
          simp
        go_wp2
        go_ret2
        exact ⟨_, ret_tup (by rw [HF.out] <;> rfl), HNO.out HF.out _, lr⟩
      · go_wp2_with (at_builtin; refine wpList_appendAll (α := Ltr) rfl (.tmp 22) (.tmp 23) 27 rfl w.heap.size 98 i0 _ 24 Tryd.underlying27 hi hz0 hz1 hz2 rfl (by decide) (.slice A3 zs.length c3) zs rfl ho'.out (.slice A2 ys.length c2) ys rfl w1.heap.size (HU.out.on lr) (by unfold maxLen; omega) (by omega) lr.size ?_; intro v' w2 ho2 hg2 _)
        have l2 : Below w.heap.size w w2 := lr.trans (below_append ho'.out hg2 lr.size)
        have HLE : Hid ((zs ++ ys).length ≤ 60) := by show _ ≤ _; rw [List.length_append]; omega
        go_wp2
        go_roundw
        case rel => exact ⟨k + 1, by omega, by go_num, l2, by rw [HS.out]; exact ho2, by rw [HS.out]; exact HLE.out⟩
        case measure => simp [intOf]; omega
    · have HE := Lib.hid (show k = xss.length by omega)
      rw [HE.out, List.take_length] at ho
      clear hf60
      obtain ⟨fl, hfl⟩ : ∃ fl, xss.flatten = fl := ⟨_, rfl⟩
      rw [hfl] at ho
      have HFL := Lib.hid hfl; clear hfl
      have HO := Lib.hid ho
      obtain ⟨A3, m3, c3, rfl, hm3, _, _, _⟩ := ho.rd
      subst hm3
      clear ho
      go_wp2_with fail
      refine (impl_BatchValid _ fl _ HO.out.rd).mono ?_
      rintro e w2 ⟨rfl, b2⟩
      have l2 := later_trans lr b2
      have HO2 := Lib.hid (HO.out.below b2)
      cases hx : okB fl
      · have HF : Hid (collectOk xss = false) := by show _ = _; rw [HQ.out, HFL.out, hx]; simp
        clear hx
        go_wp2_with fail
        go_ret2
        exact ⟨_, ret_tup (by rw [HF.out] <;> rfl), HNO.out HF.out _, l2⟩
      · have HF : Hid (collectOk xss = true) := by show _ = _; rw [HQ.out, HFL.out, hx, decide_eq_true H60.out]; rfl
        clear hx
        go_wp2_with fail
        go_ret2
        exact ⟨_, ret_tup (by rw [HF.out] <;> rfl), by rw [collected_yes HF.out, HFL.out]; exact HO2.out, l2⟩

end Go.Proofs.YtffbcfaahegglaaDoor
