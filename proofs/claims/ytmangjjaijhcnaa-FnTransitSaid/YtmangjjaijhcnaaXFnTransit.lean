/- FnTransit: the walk of the law. Written by gen_lnet.py. -/
import Derived.Test.YtmangjjaijhcnaaQ54
import Derived.Test.YtmangjjaijhcnaaQ53
import Derived.Test.YtmangjjaijhcnaaQ37
import Derived.Test.YtmangjjaijhcnaaQ14
import Derived.Test.YtmangjjaijhcnaaQ31
import Derived.Deep.RegionHeld3
namespace Go.Proofs.Ytmangjjaijhcnaa
open Go.RowKit

theorem okB_subT {xs ys : List Ltr} (h : okB xs = true) (hs : ys.Sublist xs) : okB ys = true := by
  rw [okB_pw] at *
  exact ⟨Nat.le_trans hs.length_le h.1, fun x hx => h.2.1 x (hs.subset hx), h.2.2.sublist hs⟩
theorem rd_dropT {w : World} {B b o c k : Nat} {xs : List Ltr} (h : rd w B (.slice (some ⟨b, o, none⟩) xs.length c) xs) (hk : k ≤ xs.length) : rd w B (.slice (some ⟨b, o + k * 2, none⟩) (xs.length - k) (c - k)) (xs.drop k) := by
  obtain ⟨A, n, c', hv, hn, hc, hm, hr⟩ := h
  injection hv with e1 e2 e3
  subst e1 e3
  refine ⟨_, _, _, rfl, by rw [List.length_drop], by omega, by omega, fun j hj => ?_⟩
  have hj' : k + j < xs.length := by rw [List.length_drop] at hj; omega
  obtain ⟨b', o', cs, hA, hb, hel, hcs⟩ := hr (k + j) hj'
  injection hA with hA
  injection hA with e1 e2
  subst e1 e2
  rw [List.getElem_drop]
  refine ⟨b, o + k * 2, cs, rfl, hb, hel, fun i u hu => ?_⟩
  have := hcs i u hu
  simp only [El.size] at this ⊢
  rw [show o + k * 2 + (j * 2 + i) = o + ((k + j) * 2 + i) by omega]
  exact this
theorem tc_parts {net : List Ofc} {q : Nat} (xs : List Ltr) (k : Nat) : hops net q (xs.take k) + hops net q (xs.drop k) = hops net q xs := by
  have := congrArg (hops net q) (List.take_append_drop k xs)
  rw [← this]
  unfold hops
  rw [List.map_append, List.sum_append]
theorem tcOk_part {net : List Ofc} {s : ByteArray} {xs ys : List Ltr} (h : tcOk net s xs = true) (hs : ys.Sublist xs) : tcOk net s ys = true := by
  unfold tcOk at *
  rw [Bool.and_eq_true] at *
  exact ⟨h.1, okB_subT h.2 hs⟩
theorem tcI_yes {net : List Ofc} {s : ByteArray} {xs : List Ltr} {q : Nat} (h : tcOk net s xs = true) (hq : offI net s = q) : tcI net s xs = hops net q xs := by
  unfold tcI; rw [if_pos h, hq, Int.toNat_natCast]

set_option maxRecDepth 100000 in
set_option maxHeartbeats 3000000 in
theorem walk_FnTransit (w : World) (v : Value) (bs : List UInt8) (hv : rd w w.heap.size v bs) (v' : Value) (ms : List UInt8) (hv' : rd w w.heap.size v' ms) :
    Calls Try.prog 5 #[v, v'] w fun e w' => e = .returned (.bool true) ∧ Below w.heap.size w w' := by
  have hv0 := hv
  obtain ⟨A, n, c, rfl, hn, hc, hm, _⟩ := hv
  subst hn
  unfold maxLen at hm
  obtain ⟨A1, n1, c1, rfl, hn1, hc1, hm1, _⟩ := hv'
  unfold maxLen at hm1
  clear hn1
  go_enter Try.func5, Try.ntmps5
  by_cases hsz : 1048576 < bs.length
  · go_wp2_with fail
    go_ret
    exact ⟨rfl, Below.refl _ _⟩
  by_cases hsz1 : 1048576 < n1
  · go_wp2_with fail
    go_ret
    exact ⟨rfl, Below.refl _ _⟩
  go_wp2_with fail
  refine (draw_DrawTransitCount _ bs w hv0).mono ?_
  rintro e w1 ⟨vn, vb, net, s, xs, rfl, hdn, hl4, hss, hob, hxl, b1⟩
  have HN := Lib.hid hdn.rd
  have HB := Lib.hid hob.rd
  have HFM := Lib.hid hob.form
  have HWB := Lib.hid b1
  obtain ⟨An, nn, cn, rfl, hnn, _, _, _⟩ := hdn.rd
  subst hnn
  obtain ⟨Ab, nb, cb, rfl, hnb, hcb, hmb, hrb⟩ := hob.rd
  subst hnb
  have HRB := Lib.hid hrb
  unfold maxLen at hmb
  have l1 := Below.refl w1.heap.size w1
  clear hdn hob hv0 b1 hss hrb hsz hsz1
  obtain ⟨z, hz⟩ : ∃ z, tcI net s xs = z := ⟨_, rfl⟩
  have HZ := Lib.hid hz; clear hz
  go_wp2_with fail
  refine (impl_TransitCount _ _ net s xs _ HN.out HB.out).mono ?_
  rw [HZ.out]
  rintro e w2 ⟨rfl, b2⟩
  have l2 := b2
  clear b2 l1
  have hzz : (z != z) = false := by simp
  have hzt : (z == z) = true := by simp
  go_wp2_with fail
  refine (spec_TransitCount _ _ net s xs _ (HN.out.on l2) (HB.out.on l2)).mono ?_
  rw [HZ.out]
  rintro e w3 ⟨rfl, b3⟩
  have l3 := later_trans l2 b3
  clear b3 l2
  by_cases hz0 : z < 0
  · go_wp2_with fail
    refine (spec_TransitCount _ _ net s xs _ (HN.out.on l3) (HB.out.on l3)).mono ?_
    rw [HZ.out]
    rintro e w4 ⟨rfl, b4⟩
    have l4 := later_trans l3 b4
    go_wp2_with fail
    go_ret
    exact ⟨rfl, HWB.out.trans (l4.mono HWB.out.size)⟩
  have hok : tcOk net s xs = true := by
    cases h : tcOk net s xs
    · have := HZ.out
      rw [tcI_no h] at this
      omega
    · rfl
  have HOK := Lib.hid hok
  have hok' := hok
  unfold tcOk at hok'
  rw [Bool.and_eq_true, Bool.and_eq_true, decide_eq_true_iff] at hok'
  obtain ⟨⟨hk, hq0⟩, hxo⟩ := hok'
  obtain ⟨q, hq⟩ := Int.eq_ofNat_of_zero_le hq0
  obtain ⟨hql, _⟩ := offI_at hq
  have HK := Lib.hid hk
  have HQ := Lib.hid hq
  have HXO := Lib.hid hxo
  have HQL := Lib.hid hql
  have HZH : Hid (hops net q xs = z) := by show _ = _; rw [← HZ.out, tcI_yes hok hq]
  have HCODE : Hid (∀ k (h : k < xs.length), isCode xs[k].code = true) := fun k h => okB_code hxo h
  clear hok hk hq0 hxo hq
  go_wp2_with fail
  go_loopw [9, 10] (fun t i wr => ∃ k : Nat, k ≤ xs.length ∧ i = .int .i64 k ∧ t = .int .i64 (hops net q (xs.take k)) ∧ Below w1.heap.size w1 wr) (fun _ i _ => xs.length - (intOf i).toNat)
  case atStart => exact ⟨0, Nat.zero_le _, rfl, rfl, l3⟩
  case round =>
    obtain ⟨k, hk, rfl, rfl, lr⟩ := hrel
    obtain ⟨w4, rfl⟩ : ∃ w4 : World, w4 = wr := ⟨_, rfl⟩
    clear l3
    obtain ⟨hb1, hb2⟩ := hops_take HK.out HQL.out xs k (okB_len' HXO.out)
    by_cases hlt : k < xs.length
    · obtain ⟨b, o, rfl, hb, ⟨⟨hi1, hi2⟩, hcz⟩, y1, y2⟩ := HRB.out.ltrU k hlt
      have c2 := y2 w4 lr
      have HS := Lib.hid (hops_succ net q xs hlt)
      have HP := Lib.hid (pathR_yes HK.out HQ.out (HCODE.out k hlt))
      generalize xs[k] = x at *
      obtain ⟨m, hm'⟩ : ∃ m, hops net q (xs.take k) = m := ⟨_, rfl⟩
      rw [hm'] at hb1 hb2 HS ⊢
      clear hm' y1 y2
      have hki : (k : Int) < (xs.length : Int) := by omega
      have hki0 : (0 : Int) ≤ (k : Int) := by omega
      have hl9 := (pathR_len net s x.code).1
      go_wp2_with fail
      refine (impl_RoutePath _ net s x.code _ (HN.out.on lr) hcz).mono ?_
      rintro e w5 ⟨v5, rfl, o5, b5⟩
      have l5 := later_trans lr b5
      obtain ⟨A5, n5, c5, rfl, hn5, _, _, _⟩ := o5.rd
      rw [List.length_map] at hn5
      subst hn5
      rw [HP.out] at hl9 ⊢
      obtain ⟨y, hy⟩ : ∃ y, (route net x.code q).1.length = y := ⟨_, rfl⟩
      rw [hy] at hl9 HS ⊢
      clear o5 b5 hy c2
      go_wp2_with fail
      go_roundw
      case rel => exact ⟨k + 1, by omega, by go_num, by rw [HS.out] <;> go_num, l5⟩
      case measure => simp [intOf]; omega
    · have hhe : hops net q (xs.take k) = z := by rw [List.take_of_length_le (by omega)]; exact HZH.out
      rw [hhe] at hb1 hb2 ⊢
      clear hhe
      obtain ⟨K, hK⟩ : ∃ K : Nat, K = n1 % (xs.length + 1) := ⟨_, rfl⟩
      have hKl : K ≤ xs.length := by have := Nat.mod_lt n1 (show 0 < xs.length + 1 by omega); omega
      have hKm : (n1 : Int).tmod ((xs.length : Int) + 1) = (K : Int) := by rw [Int.tmod_eq_emod_of_nonneg (by omega), hK]; rfl
      have hKm' : (n1 : Int) % ((xs.length : Int) + 1) = (K : Int) := by rw [hK]; rfl
      have hKi : (K : Int) ≤ (xs.length : Int) := by omega
      have hKi0 : (0 : Int) ≤ (K : Int) := by omega
      obtain ⟨h1, hh1⟩ : ∃ h1, hops net q (xs.take K) = h1 := ⟨_, rfl⟩
      obtain ⟨h2, hh2⟩ : ∃ h2, hops net q (xs.drop K) = h2 := ⟨_, rfl⟩
      have hsum : h1 + h2 = z := by rw [← hh1, ← hh2, tc_parts, HZH.out]
      have hb3 := hops_le HK.out HQL.out xs
      rw [HZH.out] at hb3
      have hwr : IntKind.i64.wrap (h1 + h2) = z := by rw [hsum]; exact IntWalk.i64_in _ (by omega)
      have hzt2 : (z == z) = true := hzt
      have HT1 : Hid (tcI net s (xs.take K) = h1) := by show _ = _; rw [tcI_yes (tcOk_part HOK.out (List.take_sublist _ _)) HQ.out, hh1]
      have HT2 : Hid (tcI net s (xs.drop K) = h2) := by show _ = _; rw [tcI_yes (tcOk_part HOK.out (List.drop_sublist _ _)) HQ.out, hh2]
      obtain ⟨P, hP⟩ : ∃ P : Nat, P = xs.length * net.length := ⟨_, rfl⟩
      have hPi : (xs.length : Int) * (net.length : Int) = (P : Int) := by rw [hP]; rfl
      have hPb : P ≤ 244 := by rw [hP]; exact Nat.mul_le_mul hxl hl4
      have hwp : IntKind.i64.wrap (P : Int) = (P : Int) := IntWalk.i64_in _ (by omega)
      have hzP : z ≤ (P : Int) := by rw [← hPi]; exact hb3.2
      have HNN : Hid (∀ W, Below w1.heap.size w1 W → rd W W.heap.size (.slice An net.length cn) net) := fun W hW => HN.out.on hW
      have HEND : Hid (∀ W, Below w1.heap.size w1 W → Below w.heap.size w W) := fun W hW => HWB.out.trans (hW.mono HWB.out.size)
      clear hb3 hP hK hh1 hh2 hsum
      rcases HFM.out with ⟨e0, hx0⟩ | ⟨gb, cb', e0, hgb, hgl, hcb', hmb'⟩
      · injection e0 with e1 e2 e3
        subst e1 e3
        have hK0 : K = 0 := by rw [e2] at hKl; omega
        have HX0 := Lib.hid hx0
        have HS1 : Hid (rd w1 w1.heap.size (.slice none 0 0) (xs.take K)) := by show rd _ _ _ _; rw [HX0.out, List.take_nil]; exact rd.nil_
        have HS2 : Hid (rd w1 w1.heap.size (.slice none 0 0) (xs.drop K)) := by show rd _ _ _ _; rw [HX0.out, List.drop_nil]; exact rd.nil_
        rw [e2] at *
        subst hK0
        clear hx0
        have hz00 : z = 0 := by rw [← HZH.out, HX0.out]; rfl
        have hz01 : z ≤ 0 := by omega
        have hw0 : IntKind.i64.wrap 0 = 0 := rfl
        clear hz00
        have HC1 : Hid (∀ W, Below w1.heap.size w1 W → Calls Try.prog 21 #[.slice An net.length cn, .string s, .slice none 0 0] W fun e W' => e = .returned (.int .i64 h1) ∧ Below w1.heap.size w1 W') := fun W hW => by
          refine (impl_TransitCount _ _ net s _ W (HNN.out W hW) (HS1.out.on hW)).mono ?_
          rw [HT1.out]
          rintro e W' ⟨rfl, b⟩
          exact ⟨rfl, later_trans hW b⟩
        have HC2 : Hid (∀ W, Below w1.heap.size w1 W → Calls Try.prog 21 #[.slice An net.length cn, .string s, .slice none 0 0] W fun e W' => e = .returned (.int .i64 h2) ∧ Below w1.heap.size w1 W') := fun W hW => by
          refine (impl_TransitCount _ _ net s _ W (HNN.out W hW) (HS2.out.on hW)).mono ?_
          rw [HT2.out]
          rintro e W' ⟨rfl, b⟩
          exact ⟨rfl, later_trans hW b⟩
        go_wp2_with fail
        have ld := later_drew lr
        go_region_held3 (fun W => Below w1.heap.size w1 W) (first | exact ld | exact l8 | exact l9 | fail) (first | (go_at_call 21; (with_reducible refine (HC1.out _ ld).mono ?_); rintro e w8 ⟨rfl, l8⟩) | (go_at_call 21; (with_reducible refine (HC2.out _ l8).mono ?_); rintro e w9 ⟨rfl, l9⟩) | fail)
        all_goals
          go_wp2_with fail
          go_ret
          exact ⟨rfl, HEND.out _ l9⟩
      · injection e0 with e1 e2 e3
        subst e1 e3
        clear e2
        have HS1 : Hid (rd w1 w1.heap.size (.slice (some ⟨gb, 0, none⟩) K cb) (xs.take K)) := rd_take HB.out hKl
        by_cases hck : cb = K
        · have hKx : K = xs.length := by omega
          have hcx : cb = xs.length := by omega
          clear hck
          subst hcx
          subst hKx
          have HS2 : Hid (rd w1 w1.heap.size (.slice (some ⟨gb, 0, none⟩) 0 0) (xs.drop xs.length)) := by
            show rd _ _ _ _
            rw [List.drop_of_length_le (by omega)]
            exact ⟨_, 0, 0, rfl, rfl, Nat.le_refl _, Nat.zero_le _, fun k h => absurd h (Nat.not_lt_zero k)⟩
          have HC1 : Hid (∀ W, Below w1.heap.size w1 W → Calls Try.prog 21 #[.slice An net.length cn, .string s, .slice (some ⟨gb, 0, none⟩) xs.length xs.length] W fun e W' => e = .returned (.int .i64 h1) ∧ Below w1.heap.size w1 W') := fun W hW => by
            refine (impl_TransitCount _ _ net s _ W (HNN.out W hW) (HS1.out.on hW)).mono ?_
            rw [HT1.out]
            rintro e W' ⟨rfl, b⟩
            exact ⟨rfl, later_trans hW b⟩
          have HC2 : Hid (∀ W, Below w1.heap.size w1 W → Calls Try.prog 21 #[.slice An net.length cn, .string s, .slice (some ⟨gb, 0, none⟩) 0 0] W fun e W' => e = .returned (.int .i64 h2) ∧ Below w1.heap.size w1 W') := fun W hW => by
            refine (impl_TransitCount _ _ net s _ W (HNN.out W hW) (HS2.out.on hW)).mono ?_
            rw [HT2.out]
            rintro e W' ⟨rfl, b⟩
            exact ⟨rfl, later_trans hW b⟩
          go_wp2_with fail
          have ld := later_drew lr
          go_region_held3 (fun W => Below w1.heap.size w1 W) (first | exact ld | exact l8 | exact l9 | fail) (first | (go_at_call 21; (with_reducible refine (HC1.out _ ld).mono ?_); rintro e w8 ⟨rfl, l8⟩) | (go_at_call 21; (with_reducible refine (HC2.out _ l8).mono ?_); rintro e w9 ⟨rfl, l9⟩) | fail)
          all_goals
            go_wp2_with fail
            go_ret
            exact ⟨rfl, HEND.out _ l9⟩
        · have HS2 : Hid (rd w1 w1.heap.size (.slice (some ⟨gb, K * 2, none⟩) (xs.length - K) (cb - K)) (xs.drop K)) := by show rd _ _ _ _; simpa using rd_dropT HB.out hKl
          have hck2 : K < cb := by omega
          have hck3 : (K : Int) < (cb : Int) := by omega
          have hck4 : (K : Int) ≤ (cb : Int) := by omega
          have hck5 : K ≤ cb := by omega
          have HC1 : Hid (∀ W, Below w1.heap.size w1 W → Calls Try.prog 21 #[.slice An net.length cn, .string s, .slice (some ⟨gb, 0, none⟩) K cb] W fun e W' => e = .returned (.int .i64 h1) ∧ Below w1.heap.size w1 W') := fun W hW => by
            refine (impl_TransitCount _ _ net s _ W (HNN.out W hW) (HS1.out.on hW)).mono ?_
            rw [HT1.out]
            rintro e W' ⟨rfl, b⟩
            exact ⟨rfl, later_trans hW b⟩
          have HC2 : Hid (∀ W, Below w1.heap.size w1 W → Calls Try.prog 21 #[.slice An net.length cn, .string s, .slice (some ⟨gb, K * 2, none⟩) (xs.length - K) (cb - K)] W fun e W' => e = .returned (.int .i64 h2) ∧ Below w1.heap.size w1 W') := fun W hW => by
            refine (impl_TransitCount _ _ net s _ W (HNN.out W hW) (HS2.out.on hW)).mono ?_
            rw [HT2.out]
            rintro e W' ⟨rfl, b⟩
            exact ⟨rfl, later_trans hW b⟩
          go_wp2_with fail
          have ld := later_drew lr
          go_region_held3 (fun W => Below w1.heap.size w1 W) (first | exact ld | exact l8 | exact l9 | fail) (first | (go_at_call 21; (with_reducible refine (HC1.out _ ld).mono ?_); rintro e w8 ⟨rfl, l8⟩) | (go_at_call 21; (with_reducible refine (HC2.out _ l8).mono ?_); rintro e w9 ⟨rfl, l9⟩) | fail)
          all_goals
            go_wp2_with fail
            go_ret
            exact ⟨rfl, HEND.out _ l9⟩

end Go.Proofs.Ytmangjjaijhcnaa
