/- NI -/
import Derived.Test.YtmangjjaijhcnaaQ41
namespace Go.Proofs.Ytmangjjaijhcnaa
open Go.RowKit

set_option maxHeartbeats 800000 in
theorem spec_l6Open (v : Value) (net : List Ofc) (p : ByteArray) (w : World) (hv : rd w w.heap.size v net) (hp : p.size ≤ maxLen) :
    Calls Try.prog 130 #[v, .string p] w fun e w' => e = .returned (.bool (longN net p)) ∧ Below w.heap.size w w' := by
  obtain ⟨A, n, cp, rfl, hn, hc, hm, hr⟩ := hv
  subst hn
  unfold maxLen at hm
  have HR := Lib.hid hr; clear hr
  have l0 := Below.refl w.heap.size w
  have HNL : Hid (longN net p = net.any (longO p)) := rfl
  go_enter Try.func130, Try.ntmps130
  go_wp2
  go_loopw [5] (fun i wr => ∃ k : Nat, k ≤ net.length ∧ i = .int .i64 k ∧ Below w.heap.size w wr ∧ Hid ((net.take k).any (longO p) = false)) (fun i _ => net.length - (intOf i).toNat)
  case atStart => exact ⟨0, Nat.zero_le _, rfl, l0, rfl⟩
  case round =>
    obtain ⟨k, hk, rfl, lr, HG⟩ := hrel
    obtain ⟨w1, rfl⟩ : ∃ w1 : World, w1 = wr := ⟨_, rfl⟩
    clear l0
    by_cases hlt : k < net.length
    · obtain ⟨b, o, A2, k2, rfl, hb, hok, hu, c1, c2⟩ := HR.out.ofcU k hlt
      have HS := Lib.hid (take_any_succ (p := longO p) net k hlt)
      have HA := Lib.hid (any_at (p := longO p) net k hlt)
      generalize net[k] = x at *
      have HU := Lib.hid hu; clear hu
      have hki : (k : Int) < (net.length : Int) := by omega
      have HLO : Hid (longO p x = x.rules.any (longR p)) := rfl
      go_wp2_with fail
      refine (spec_l6Deeper _ x.rules p _ (HU.out.on lr) hp).mono ?_
      rw [← HLO.out]
      rintro e w2 ⟨rfl, b2⟩
      have l2 := later_trans lr b2
      cases hq : longO p x
      · have HQ := Lib.hid hq; clear hq
        go_wp2_with fail
        go_roundw
        case rel => exact ⟨k + 1, by omega, by go_num, l2, by show _ = _; rw [HS.out, HG.out, HQ.out]; rfl⟩
        case measure => simp [intOf]; omega
      · have HQ := Lib.hid hq; clear hq
        go_wp2_with fail
        go_ret
        exact ⟨ret_bool (by rw [HNL.out, HA.out HQ.out]), l2⟩
    · have HE : Hid (longN net p = false) := by have := HG.out; rw [List.take_of_length_le (by omega)] at this; exact this
      go_wp2
      go_ret
      exact ⟨ret_bool HE.out.symm, lr⟩

theorem dec_is {d : Nat} (h : d < 10) {w : World} : Calls Try.prog 125 #[.int .i64 d] w fun e w' => e = .returned (.string (dgB d)) ∧ Below w.heap.size w w' := by
  rw [← dgB_dec d h]; exact spec_l9Dec d w (by omega)
set_option maxRecDepth 100000 in
set_option maxHeartbeats 3200000 in
theorem spec_l6Faults (net : List Ofc) (s : Nat) (nm : ByteArray) (hk : netOk net = true) (hs : s < net.length) (hnm : nameAt net s = nm) : ∀ (f : Nat) (p : ByteArray) (v : Value) (w : World), p.size + f = 8 → 1 ≤ f → rd w w.heap.size v net →
    Calls Try.prog 79 #[v, .string nm, .string p] w (fbPost 9 (faultsN net s f p) w) := by
  intro f
  induction f with
  | zero => intro p v w _ h; omega
  | succ f ih =>
  intro p v w hpf _ hv
  have HIH := Lib.hid ih; clear ih
  have HNM := Lib.hid hnm; clear hnm
  obtain ⟨A, n, cp, rfl, hn, hc, hm, hr⟩ := hv
  have hv0 := Lib.hid (show rd w w.heap.size (.slice A n cp) net from ⟨A, n, cp, rfl, hn, hc, hm, hr⟩)
  subst hn
  clear hr
  unfold maxLen at hm
  have HK := Lib.hid hk; clear hk
  have hp7 : p.size ≤ 7 := by omega
  have hpm : p.size ≤ maxLen := by unfold maxLen; omega
  obtain ⟨i0, hi, hz0, hz1, hz2⟩ := info_parts Try.infoStr
  have hoz : own (α := ByteArray) 9 w.heap.size (w.alloc (Obj.cells #[] 9)) (.slice (some ⟨w.heap.size, 0, none⟩) 0 0) [] := own.made0 w _ (Nat.le_refl _)
  obtain ⟨w0, hw0⟩ : ∃ u, u = w.alloc (Obj.cells #[] 9) := ⟨_, rfl⟩
  have l0 : Below w.heap.size w w0 := (box_later hw0).1
  rw [← hw0] at hoz
  have HOZ := Lib.hid hoz
  have HW0 := Lib.hid hw0
  clear hoz hw0
  go_enter Try.func79, Try.ntmps79
  go_wp2_with fail
  rw [← HW0.out]
  refine (spec_l6Open _ net p _ (hv0.out.on l0) hpm).mono ?_
  rintro e w1 ⟨rfl, b1⟩
  have l1 := later_trans l0 b1
  have HO1 := Lib.hid (HOZ.out.below b1)
  clear b1
  cases hln : longN net p
  · have HLN := Lib.hid hln; clear hln
    go_wp2_with fail
    refine (spec_l6Path _ net s nm p _ (hv0.out.on l1) HK.out hs HNM.out hpm).mono ?_
    obtain ⟨r, hr⟩ : ∃ r, (route net p s).2 = r := ⟨_, rfl⟩
    rw [hr]
    have HRR : Hid ((route net (firstW p) s).2 = r) := by show _ = _; rw [route_first HLN.out, hr]
    clear hr
    rintro e w3 ⟨v3, rfl, o3, b3⟩
    have l3 := later_trans l1 b3
    have HO3 := Lib.hid (HO1.out.below b3)
    clear o3 b3
    have hs3 := l3.size
    by_cases hr0 : r = 0
    · have HF : Hid (faultsN net s (f + 1) p = []) := faults_home HLN.out (by rw [HRR.out]; exact hr0)
      have hrb : (r != 0) = false := by simp [hr0]
      clear hr0
      go_wp2_with fail
      go_ret
      exact ⟨_, rfl, by rw [HF.out]; exact HO3.out, l3⟩
    · have HF : Hid (faultsN net s (f + 1) p = [p]) := faults_bad HLN.out (by rw [HRR.out]; exact hr0)
      have hrb : (r != 0) = true := by simp [hr0]
      clear hr0
      go_wp2_with (at_builtin; refine wpList_append1' (α := ByteArray) rfl (.tmp 27) (.tmp 29) 23 rfl w.heap.size 9 i0 _ 16 Try.underlying23 hi hz0 hz1 hz2 rfl (by decide) (.slice (some ⟨w.heap.size, 0, none⟩) 0 0) [] p rfl (HO3.out.alloc _) ⟨w3.heap.size, 0, none⟩ 1 [.string p] rfl ⟨hpm, rfl⟩ (news_at w3 _ [.string p]) (by unfold maxLen; simp) (by simp) (by simp; omega) ?_; intro g5 cap5 w5 ho5 hg5 ha5 hl5)
      have l5 : Below w.heap.size w w5 := (later_alloc l3 (Obj.cells #[Value.string p] 9)).grown hg5 (by simp; omega) fun q hq => (HO3.out.blk q hq).1
      have HO5 := Lib.hid ho5; clear ho5
      go_wp2
      go_ret
      exact ⟨_, rfl, by rw [HF.out]; exact HO5.out, l5⟩
  · have hp6 := long_size HK.out hln
    have HLN := Lib.hid hln; clear hln
    obtain ⟨g, rfl⟩ : ∃ g, f = g + 1 := ⟨f - 1, by omega⟩
    have hg7 : g + 1 ≤ 7 := by omega
    have HTP := Lib.hid (ten_pow hg7)
    go_wp2_with fail
    go_loopw [7, 10, 11] (fun t u i wr => ∃ k : Nat, k ≤ 10 ∧ i = .int .i64 k ∧ u = .bool (allN net s (g + 1) p k) ∧ Below w.heap.size w wr ∧ own 9 w.heap.size wr t (catN net s (g + 1) p k)) (fun _ _ i _ => 10 - (intOf i).toNat)
    case atStart => exact ⟨0, Nat.zero_le _, rfl, rfl, l1, HO1.out⟩
    case round =>
      obtain ⟨k, hk, rfl, rfl, lq, ho⟩ := hrel
      obtain ⟨w4, rfl⟩ : ∃ w4 : World, w4 = wr := ⟨_, rfl⟩
      clear l1
      have HCL := Lib.hid (catN_len net s (g + 1) p k)
      obtain ⟨zs, hzs⟩ : ∃ zs, catN net s (g + 1) p k = zs := ⟨_, rfl⟩
      rw [hzs] at ho HCL
      have HZ := Lib.hid hzs; clear hzs
      have HO := Lib.hid ho
      by_cases hlt : k < 10
      · have HST := Lib.hid (catN_succ net s (g + 1) p k)
        have HCN := Lib.hid (allN_succ net s (g + 1) p k)
        have hki : (k : Int) ≤ 9 := by omega
        have hdsz : (dgB k).size = 1 := rfl
        have HFL := Lib.hid (faults_len net s (g + 1) (dgt p k))
        have HDZ : Hid ((dgt p k).size + (g + 1) = 8) := by show _ = _; rw [dgt_size]; omega
        obtain ⟨d, hd⟩ : ∃ d, dgt p k = d := ⟨_, rfl⟩
        have HDP : Hid (p ++ dgB k = d) := hd
        rw [hd] at HST HCN HFL HDZ
        clear hd
        obtain ⟨ys, hys⟩ : ∃ ys, faultsN net s (g + 1) d = ys := ⟨_, rfl⟩
        rw [hys] at HST HCN HFL
        have HYS := Lib.hid hys; clear hys
        rw [HZ.out] at HST
        obtain ⟨A3, n3, c3, rfl, hn3, _, _, _⟩ := ho.rd
        subst hn3
        clear ho
        go_wp2_with fail
        refine (dec_is hlt).mono ?_
        rintro e w5 ⟨rfl, b5⟩
        have l5 := later_trans lq b5
        have HO5 := Lib.hid (HO.out.below b5)
        clear b5 lq
        go_wp2_with fail
        rw [HDP.out]
        refine (HIH.out d _ _ HDZ.out (by omega) (hv0.out.on l5)).mono ?_
        rw [HYS.out]
        rintro e w6 ⟨v6, rfl, o6, b6⟩
        have l6 := later_trans l5 b6
        have HO6 := Lib.hid (HO5.out.below b6)
        obtain ⟨A6, n6, c6, rfl, hn6, _, _, hra⟩ := o6.rd
        subst hn6
        have HY6 := Lib.hid o6.rd
        clear o6 b6 l5
        have hs6 := l6.size
        have hzl : zs.length + ys.length ≤ 200000000 := by
          have h1 := HCL.out; have h2 := HFL.out; have h3 := HTP.out
          have h4 : k * 10 ^ (g + 1) ≤ 10 * 10000000 := Nat.mul_le_mul (by omega) h3
          omega
        obtain ⟨al, hal⟩ : ∃ al, allN net s (g + 1) p k = al := ⟨_, rfl⟩
        rw [hal] at HCN
        have HAL := Lib.hid hal
        rw [HAL.out]
        clear hal
        cases al
        · clear hra
          have HNX : Hid (allN net s (g + 1) p (k + 1) = false) := by show _ = _; rw [HCN.out]; rfl
          go_wp2
          go_quiet (fail)
          go_wp2_with (at_builtin; refine wpList_appendAll (α := ByteArray) rfl (.tmp 59) (.tmp 60) 23 rfl w.heap.size 9 i0 _ 16 Try.underlying23 hi hz0 hz1 hz2 rfl (by decide) (.slice A3 zs.length c3) zs rfl (HO6.out.below (below_drewN (Below.refl w6.heap.size w6) nq)) (.slice A6 ys.length c6) ys rfl (w6.drewN nq).heap.size (HY6.out.on (below_drewN (Below.refl w6.heap.size w6) nq)) (by unfold maxLen; omega) (by omega) hs6 ?_; intro v7 w7 ho7 hg7 _)
          have l7 : Below w.heap.size w w7 := (below_drewN l6 nq).grown hg7 hs6 fun q hq => ((HO6.out.below (below_drewN (Below.refl w6.heap.size w6) nq)).blk q hq).1
          have HO7 := Lib.hid ho7; clear ho7
          go_wp2
          go_roundw
          case rel => exact ⟨k + 1, by omega, by go_num, by rw [HNX.out], l7, by rw [HST.out]; exact HO7.out⟩
          case measure => simp [intOf]; omega
        · by_cases hy1 : ys.length = 1
          · obtain ⟨y, rfl⟩ := List.length_eq_one_iff.1 hy1
            have HON : Hid (oneIs d [y] = sEq y d) := rfl
            obtain ⟨b', o', rfl, hb', hyz, d1⟩ := hra.strU 0 (by simp)
            simp only [Nat.add_zero, List.getElem_cons_zero] at d1
            clear hra hyz hy1
            have ld := (Below.refl w6.heap.size w6).drew
            have HCD : Hid (∀ W, Below w6.heap.size w6 W → Calls Try.prog 125 #[.int .i64 k] W fun e w' => e = .returned (.string (dgB k)) ∧ Below W.heap.size W w') := fun W _ => dec_is hlt
            have hsa : ∀ W, (Op.stringOp .add p (dgB k)).run Try.prog W = .ok (.string (p ++ dgB k)) W := fun W => run_string_add (w := W) p (dgB k) (by omega) (by omega)
            have hcat3 : ¬ ((9223372036854775807 : Int) < (p.size : Int) + 1) := by omega
            clear hdsz
            have hd1 : ((dgB k).size : Int) = 1 := rfl
            cases hse : sEq y d
            · have HNX : Hid (allN net s (g + 1) p (k + 1) = false) := by show _ = _; rw [HCN.out, HON.out, hse]; rfl
              have hse' : (y.toList == (p ++ dgB k).toList) = false := by rw [HDP.out]; exact hse
              clear hse
              go_wp2
              go_region_held3 (fun W => Below w6.heap.size w6 W) (first | exact ld | exact later_trans ld b8) (first | (go_at_call 125; refine (HCD.out _ ld).mono ?_; rintro e w8 ⟨rfl, b8⟩))
              have m8 := later_trans ld b8
              have l8 := later_trans l6 m8
              have HO8 := Lib.hid (HO6.out.below m8)
              have hs8 := l8.size
              have HY8 := Lib.hid (HY6.out.on m8)
              go_wp2_with (at_builtin; refine wpList_appendAll (α := ByteArray) rfl (.tmp 59) (.tmp 60) 23 rfl w.heap.size 9 i0 _ 16 Try.underlying23 hi hz0 hz1 hz2 rfl (by decide) (.slice A3 zs.length c3) zs rfl HO8.out (.slice (some ⟨b', o', none⟩) 1 c6) [y] rfl w8.heap.size (HY8.out) (by unfold maxLen; omega) (by omega) hs8 ?_; intro v7 w7 ho7 hg7 _)
              have l7 : Below w.heap.size w w7 := (l8).grown hg7 hs8 fun q hq => (HO8.out.blk q hq).1
              have HO7 := Lib.hid ho7; clear ho7
              go_wp2
              go_roundw
              case rel => exact ⟨k + 1, by omega, by go_num, by rw [HNX.out], l7, by rw [HST.out]; exact HO7.out⟩
              case measure => simp [intOf]; omega
            · have HNX : Hid (allN net s (g + 1) p (k + 1) = true) := by show _ = _; rw [HCN.out, HON.out, hse]; rfl
              have hse' : (y.toList == (p ++ dgB k).toList) = true := by rw [HDP.out]; exact hse
              clear hse
              go_wp2
              go_region_held3 (fun W => Below w6.heap.size w6 W) (first | exact ld | exact later_trans ld b8) (first | (go_at_call 125; refine (HCD.out _ ld).mono ?_; rintro e w8 ⟨rfl, b8⟩))
              have m8 := later_trans ld b8
              have l8 := later_trans l6 m8
              have HO8 := Lib.hid (HO6.out.below m8)
              have hs8 := l8.size
              have HY8 := Lib.hid (HY6.out.on m8)
              go_wp2_with (at_builtin; refine wpList_appendAll (α := ByteArray) rfl (.tmp 59) (.tmp 60) 23 rfl w.heap.size 9 i0 _ 16 Try.underlying23 hi hz0 hz1 hz2 rfl (by decide) (.slice A3 zs.length c3) zs rfl HO8.out (.slice (some ⟨b', o', none⟩) 1 c6) [y] rfl w8.heap.size (HY8.out) (by unfold maxLen; omega) (by omega) hs8 ?_; intro v7 w7 ho7 hg7 _)
              have l7 : Below w.heap.size w w7 := (l8).grown hg7 hs8 fun q hq => (HO8.out.blk q hq).1
              have HO7 := Lib.hid ho7; clear ho7
              go_wp2
              go_roundw
              case rel => exact ⟨k + 1, by omega, by go_num, by rw [HNX.out], l7, by rw [HST.out]; exact HO7.out⟩
              case measure => simp [intOf]; omega
          · have hy1b : ((ys.length : Int) == 1) = false := by simp; omega
            have HNX : Hid (allN net s (g + 1) p (k + 1) = false) := by show _ = _; rw [HCN.out, oneIs_len hy1]; rfl
            clear hra hy1
            go_wp2
            go_quiet (fail)
            go_wp2_with (at_builtin; refine wpList_appendAll (α := ByteArray) rfl (.tmp 59) (.tmp 60) 23 rfl w.heap.size 9 i0 _ 16 Try.underlying23 hi hz0 hz1 hz2 rfl (by decide) (.slice A3 zs.length c3) zs rfl (HO6.out.below (below_drewN (Below.refl w6.heap.size w6) nq)) (.slice A6 ys.length c6) ys rfl (w6.drewN nq).heap.size (HY6.out.on (below_drewN (Below.refl w6.heap.size w6) nq)) (by unfold maxLen; omega) (by omega) hs6 ?_; intro v7 w7 ho7 hg7 _)
            have l7 : Below w.heap.size w w7 := (below_drewN l6 nq).grown hg7 hs6 fun q hq => ((HO6.out.below (below_drewN (Below.refl w6.heap.size w6) nq)).blk q hq).1
            have HO7 := Lib.hid ho7; clear ho7
            go_wp2
            go_roundw
            case rel => exact ⟨k + 1, by omega, by go_num, by rw [HNX.out], l7, by rw [HST.out]; exact HO7.out⟩
            case measure => simp [intOf]; omega
      · obtain rfl : k = 10 := by omega
        have HFF := Lib.hid (faults_long (net := net) (i := s) (f := g + 1) HLN.out)
        rw [HZ.out] at HFF
        obtain ⟨A3, n3, c3, rfl, hn3, _, _, _⟩ := ho.rd
        subst hn3
        cases hal : allN net s (g + 1) p 10
        · have HF : Hid (faultsN net s (g + 1 + 1) p = zs) := by show _ = _; rw [HFF.out, hal]; rfl
          clear hal ho
          go_wp2_with fail
          go_ret
          exact ⟨_, rfl, by rw [HF.out]; exact HO.out, lq⟩
        · have HF : Hid (faultsN net s (g + 1 + 1) p = [p]) := by show _ = _; rw [HFF.out, if_pos hal]
          have HO : Hid (own (α := ByteArray) 9 w.heap.size (w4.alloc (Obj.cells #[.string p] 9)) (.slice (some ⟨w4.heap.size, 0, none⟩) 1 1) [p]) := own.made1 (α := ByteArray) w4 9 [.string p] p ⟨hpm, rfl⟩ lq.size
          clear hal ho
          go_wp2_with fail
          go_ret
          exact ⟨_, rfl, by rw [HF.out]; exact HO.out, later_alloc lq _⟩

theorem fpS_yes {net : List Ofc} {s : ByteArray} {q : Nat} (h : netOk net = true) (hq : offI net s = q) : fpS net s = faultsN net q 8 ⟨#[]⟩ := by
  unfold fpS
  rw [h, hq, decide_eq_true (by omega), Int.toNat_natCast]
  rfl
theorem fpS_no {net : List Ofc} {s : ByteArray} (h : (netOk net && decide (0 ≤ offI net s)) = false) : fpS net s = [] := by
  unfold fpS; rw [h]; rfl

set_option maxHeartbeats 800000 in
theorem impl_FaultyPrefixes (v : Value) (net : List Ofc) (s : ByteArray) (w : World) (hv : rd w w.heap.size v net) :
    Calls Try.prog 27 #[v, .string s] w fun e w' => ∃ v', e = .returned v' ∧ own 9 w.heap.size w' v' (fpS net s) ∧ Below w.heap.size w w' := by
  have HV := Lib.hid hv; clear hv
  have l0 := Below.refl w.heap.size w
  obtain ⟨r, hr⟩ : ∃ r, offI net s = r := ⟨_, rfl⟩
  have HNO := Lib.hid (fun h => fpS_no (net := net) (s := s) h)
  rw [hr] at HNO
  have HRR := Lib.hid hr; clear hr
  go_enter Try.func27, Try.ntmps27
  go_wp2_with fail
  refine (impl_officeOf _ net s _ HV.out).mono ?_
  rw [HRR.out]
  rintro e w1 ⟨rfl, b1⟩
  go_wp2_with fail
  refine (impl_NetworkValid _ net _ (HV.out.on b1)).mono ?_
  rintro e w2 ⟨rfl, b2⟩
  have l2 := later_trans b1 b2
  cases h1 : netOk net
  · have HF : Hid (fpS net s = []) := HNO.out (by rw [h1]; rfl)
    clear h1
    go_wp2_with fail
    go_ret
    exact ⟨_, rfl, by rw [HF.out]; exact own.nil_ _ _ _, l2⟩
  have H1 := Lib.hid h1; clear h1
  by_cases hr0 : r < 0
  · have HF : Hid (fpS net s = []) := HNO.out (by rw [decide_eq_false (by omega)]; simp)
    go_wp2_with fail
    go_ret
    exact ⟨_, rfl, by rw [HF.out]; exact own.nil_ _ _ _, l2⟩
  obtain ⟨q, hq⟩ := Int.eq_ofNat_of_zero_le (show 0 ≤ r by omega)
  subst hq
  obtain ⟨hql, hqn⟩ := offI_at HRR.out
  have HF := Lib.hid (fpS_yes H1.out HRR.out)
  clear hqn hr0
  go_wp2_with fail
  refine (impl_faultyBelow net q H1.out hql 8 ⟨#[]⟩ _ _ rfl (by omega) (HV.out.on l2)).mono ?_
  rw [← HF.out]
  rintro e w3 ⟨v3, rfl, o3, b3⟩
  have HO3 := Lib.hid (o3.base_ l2.size); clear o3
  have l3 := later_trans l2 b3
  obtain ⟨A3, n3, c3, rfl, hn3, _, _, _⟩ := HO3.out.rd
  subst hn3
  go_wp2_with fail
  go_ret
  exact ⟨_, rfl, HO3.out, l3⟩
set_option maxHeartbeats 800000 in
theorem spec_FaultyPrefixes (v : Value) (net : List Ofc) (s : ByteArray) (w : World) (hv : rd w w.heap.size v net) :
    Calls Try.prog 29 #[v, .string s] w fun e w' => ∃ v', e = .returned v' ∧ own 9 w.heap.size w' v' (fpS net s) ∧ Below w.heap.size w w' := by
  have HV := Lib.hid hv; clear hv
  have l0 := Below.refl w.heap.size w
  obtain ⟨r, hr⟩ : ∃ r, offI net s = r := ⟨_, rfl⟩
  have HNO := Lib.hid (fun h => fpS_no (net := net) (s := s) h)
  rw [hr] at HNO
  have HRR := Lib.hid hr; clear hr
  have hoz : own (α := ByteArray) 9 w.heap.size (w.alloc (Obj.cells #[] 9)) (.slice (some ⟨w.heap.size, 0, none⟩) 0 0) [] := own.made0 w _ (Nat.le_refl _)
  have HOZ := Lib.hid hoz; clear hoz
  go_enter Try.func29, Try.ntmps29
  go_wp2_with fail
  refine (spec_NetworkValid _ net _ HV.out).mono ?_
  rintro e w2 ⟨rfl, rfl⟩
  cases h1 : netOk net
  · have HF : Hid (fpS net s = []) := HNO.out (by rw [h1]; rfl)
    clear h1
    go_wp2_with fail
    go_ret
    exact ⟨_, rfl, by rw [HF.out]; exact HOZ.out, later_alloc l0 _⟩
  have H1 := Lib.hid h1; clear h1
  go_wp2_with fail
  refine (spec_l6Office _ net s _ HV.out).mono ?_
  rw [HRR.out]
  rintro e w1 ⟨rfl, rfl⟩
  by_cases hr0 : r < 0
  · have HF : Hid (fpS net s = []) := HNO.out (by rw [decide_eq_false (by omega)]; simp)
    go_wp2_with fail
    go_ret
    exact ⟨_, rfl, by rw [HF.out]; exact HOZ.out, later_alloc l0 _⟩
  obtain ⟨q, hq⟩ := Int.eq_ofNat_of_zero_le (show 0 ≤ r by omega)
  subst hq
  obtain ⟨hql, hqn⟩ := offI_at HRR.out
  have HQN : Hid (nameAt net q = s) := by show _ = _; rw [nameAt_of hql, hqn]
  have HF := Lib.hid (fpS_yes H1.out HRR.out)
  clear hqn hr0
  go_wp2_with fail
  refine (spec_l6Faults net q s H1.out hql HQN.out 8 ⟨#[]⟩ _ _ rfl (by omega) HV.out).mono ?_
  rw [← HF.out]
  rintro e w3 ⟨v3, rfl, o3, b3⟩
  have HO3 := Lib.hid o3; clear o3
  obtain ⟨A3, n3, c3, rfl, hn3, _, _, _⟩ := HO3.out.rd
  subst hn3
  go_wp2_with fail
  go_ret
  exact ⟨_, rfl, HO3.out, b3⟩

end Go.Proofs.Ytmangjjaijhcnaa
