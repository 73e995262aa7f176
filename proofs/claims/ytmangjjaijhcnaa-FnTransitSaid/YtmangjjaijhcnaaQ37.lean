/- NT NU -/
import Derived.Test.YtmangjjaijhcnaaQ18
import Derived.Test.YtmangjjaijhcnaaQ19
import Derived.Test.YtmangjjaijhcnaaQ12
import Derived.Test.YtmangjjaijhcnaaQ36
import Derived.Test.YtmangjjaijhcnaaQ24
namespace Go.Proofs.Ytmangjjaijhcnaa
open Go.RowKit

set_option maxHeartbeats 400000 in
theorem slices_IndexI (v : Value) (xs : List Int) (c : Int) (w : World) (hv : rd w w.heap.size v xs) :
    Calls Try.prog 168 #[v, .int .i64 c] w fun e w' => e = .returned (.int .i64 (fiI (fun y : Int => y == c) xs)) ∧ w = w' := by
  obtain ⟨A, n, cp, rfl, hn, hc, hm, hr⟩ := hv
  subst hn
  unfold maxLen at hm
  have HR := Lib.hid hr; clear hr
  have l0 := Below.refl w.heap.size w
  go_enter Try.func168, Try.ntmps168
  go_wp2
  go_loop [8] (fun i => ∃ k : Nat, k ≤ xs.length ∧ i = .int .i64 k ∧ Hid (∀ j (h : j < xs.length), j < k → (xs[j] == c) = false)) (fun i => xs.length - (intOf i).toNat)
  case atStart => exact ⟨0, Nat.zero_le _, rfl, fun j _ hj => absurd hj (Nat.not_lt_zero j)⟩
  case round =>
    obtain ⟨k, hk, rfl, HG⟩ := hrel
    by_cases hlt : k < xs.length
    · obtain ⟨b, o, rfl, hb, hok, c1⟩ := HR.out.intU k hlt
      have HX : Hid (∀ h : (xs[k] == c) = false, ∀ j (h1 : j < xs.length), j < k + 1 → (xs[j] == c) = false) := fun h j h1 hj => by
        by_cases hjk : j < k
        · exact HG.out j h1 hjk
        · obtain rfl : j = k := by omega
          exact h
      have HY : Hid (∀ h : (xs[k] == c) = true, fiI (fun y : Int => y == c) xs = k) := fun h => fiI_at hlt (fun j hj hjk => HG.out j hj hjk) h
      generalize xs[k] = x at *
      cases he : (x == c)
      · have he' := Lib.hid he
        have he2 : (c == x) = false := by rw [beq_eq_false_iff_ne] at he ⊢; exact fun e => he e.symm
        go_wp2
        go_round
        case rel => exact ⟨k + 1, by omega, by go_num, HX.out he'.out⟩
        case measure => simp [intOf]; omega
      · have he' := Lib.hid he
        have he2 : (c == x) = true := by rw [beq_iff_eq] at he ⊢; exact he.symm
        go_wp2
        go_ret
        exact ⟨ret_int (HY.out he'.out).symm, rfl⟩
    · have HE : Hid (fiI (fun y : Int => y == c) xs = -1) := fiI_none fun j hj => HG.out j hj (by omega)
      go_wp2
      go_ret
      exact ⟨ret_int HE.out.symm, rfl⟩
theorem slices_ContainsI (v : Value) (xs : List Int) (c : Int) (w : World) (hv : rd w w.heap.size v xs) :
    Calls Try.prog 120 #[v, .int .i64 c] w fun e w' => e = .returned (.bool (decide (0 ≤ fiI (fun y : Int => y == c) xs))) ∧ w = w' := by
  go_enter Try.func120, Try.ntmps120
  go_wp2_with fail
  refine (slices_IndexI v xs c w hv).mono ?_
  rintro e w1 ⟨rfl, rfl⟩
  obtain ⟨r, HR⟩ : ∃ r, Hid (fiI (fun y : Int => y == c) xs = r) := ⟨_, rfl⟩
  rw [HR.out]
  go_wp2_with fail
  go_ret
  exact ⟨ret_bool (by rw [HR.out]), rfl⟩

theorem own_int1 {T base g n c : Nat} {w : World} {xs : List Int} (h : own T base w (.slice (some ⟨g, 0, none⟩) n c) xs) (k : Nat) (hk : k < xs.length) : ∀ W, Below w.heap.size w W → W.cell? ⟨g, k, none⟩ = some (.int .i64 xs[k]) := by
  obtain ⟨A, n', c', hv, _, _, _, hrd⟩ := h.rd
  obtain ⟨b, o, hA, _, _, c1⟩ := hrd.intU k hk
  injection hv with e1 _ _
  subst e1
  injection hA with hA
  injection hA with hA1 hA2
  subst hA1 hA2
  intro W hW
  have := c1 W hW
  rwa [Nat.zero_add] at this

set_option maxRecDepth 100000 in
set_option maxHeartbeats 1600000 in
theorem impl_routeOf (v : Value) (net : List Ofc) (s : Nat) (c : ByteArray) (w : World) (hv : rd w w.heap.size v net) (hk : netOk net = true) (hs : s < net.length) (hcz : c.size ≤ maxLen) :
    Calls Try.prog 71 #[v, .int .i64 s, .string c] w fun e w' => ∃ v', e = .returned (.tuple #[v', .int .i64 (route net c s).2]) ∧ own 3 w.heap.size w' v' (ints (route net c s).1) ∧ Below w.heap.size w w' := by
  obtain ⟨A, n, cp, rfl, hn, hc, hm, hr⟩ := hv
  have hv0 := Lib.hid (show rd w w.heap.size (.slice A n cp) net from ⟨A, n, cp, rfl, hn, hc, hm, hr⟩)
  subst hn
  unfold maxLen at hm
  have HR := Lib.hid hr; clear hr
  have l0 := Below.refl w.heap.size w
  have hn8 := (netOk_iff.1 hk).1
  have HK := Lib.hid hk; clear hk
  obtain ⟨i0, hi, hz0, hz1, hz2⟩ := info_parts Try.infoInt
  go_enter Try.func71, Try.ntmps71
  go_wp2
  have ho1 : own (α := Int) 3 w.heap.size (w.alloc (Obj.cells #[.int .i64 s] 3)) (.slice (some ⟨w.heap.size, 0, none⟩) 1 1) (ints ([] ++ [s])) := own.made1 (α := Int) w 3 [.int .i64 s] (s : Int) ⟨⟨by omega, by omega⟩, rfl⟩ (Nat.le_refl _)
  have HO1 := Lib.hid ho1
  have l1 : Below w.heap.size w (w.alloc (Obj.cells #[.int .i64 s] 3)) := later_alloc l0 _
  clear ho1
  go_loopw [8] (fun t wr => ∃ (p : List Nat) (i f g cap n : Nat), t = .slice (some ⟨g, 0, none⟩) n cap ∧ n = p.length + 1 ∧ own 3 w.heap.size wr t (ints (p ++ [i])) ∧ Hid (onPath net (f + 1) p i) ∧ Hid (¬ i ∈ p) ∧ Below w.heap.size w wr ∧ Hid (route net c s = routeN net c (f + 1) p i)) (fun t _ => net.length + 2 - lenV t)
  case atStart => exact ⟨[], s, net.length, w.heap.size, 1, 1, rfl, rfl, HO1.out, onPath_start hs, by simp [Hid], l1, rfl⟩
  case round =>
    obtain ⟨p, i, f, g, cap, n, rfl, rfl, ho, HON, HNI, lr, HG⟩ := hrel
    obtain ⟨w1, rfl⟩ : ∃ w1 : World, w1 = wr := ⟨_, rfl⟩
    clear l1 l0
    have hil := HON.out.2.2.1
    have hpl : p.length ≤ net.length := nodup_len _ _ HON.out.1 HON.out.2.1
    have hfl := HON.out.2.2.2
    obtain ⟨b, o, A2, k2, rfl, hb, hok, hu, y1, y2⟩ := HR.out.ofcU i hil
    have x1 := own_int1 ho p.length (by rw [ints_len]; simp)
    have hx1 : (ints (p ++ [i]))[p.length]'(by rw [ints_len]; simp) = (i : Int) := by simp [ints]
    rw [hx1] at x1
    clear hx1
    have HO := Lib.hid ho; clear ho
    have hii : (i : Int) < (net.length : Int) := by omega
    have HRO := Lib.hid ((netOk_iff.1 HK.out).2 i hil).2.2.2.1
    have HL := Lib.hid (fun h => hop_lost (net := net) (c := c) hil h)
    have HH := Lib.hid (fun h h' => hop_home (net := net) (c := c) hil h h')
    have HTO := Lib.hid (fun h h' => hop_to HK.out (c := c) hil h h')
    have hnz := nextS_ok HRO.out c
    generalize net[i] = x at *
    have HU := Lib.hid hu; clear hu
    obtain ⟨N, hN⟩ : ∃ N, bestI x.rules c = N := ⟨_, rfl⟩
    obtain ⟨S, hS⟩ : ∃ S, nextS x.rules c = S := ⟨_, rfl⟩
    rw [hN] at HL HH HTO
    rw [hS] at HH HTO hnz
    have HNN := Lib.hid hN; have HSS := Lib.hid hS; clear hN hS
    have lw := Below.refl w1.heap.size w1
    go_wp2_with fail
    refine (impl_nextOf _ x.rules c _ (HU.out.on lr) hcz).mono ?_
    rw [HNN.out, HSS.out]
    rintro e w2 ⟨rfl, b2⟩
    have l2 := later_trans lr b2
    have HO2 := Lib.hid (HO.out.below b2)
    by_cases hneg : N < 0
    · have HD : Hid (decide (0 ≤ N) = false) := decide_eq_false (by omega)
      have HE : Hid (route net c s = (p ++ [i], 1)) := by show _ = _; rw [HG.out, route_lost HNI.out (HL.out hneg)]
      rw [HD.out]
      go_wp2_with fail
      go_ret2
      exact ⟨_, ret_tup (by rw [HE.out] <;> rfl), by rw [HE.out]; exact HO2.out, l2⟩
    have HD : Hid (decide (0 ≤ N) = true) := decide_eq_true (by omega)
    rw [HD.out]
    cases hhere : sEq S hereW
    case true =>
      have HE : Hid (route net c s = (p ++ [i], 0)) := by show _ = _; rw [HG.out, route_home HNI.out (HH.out (by omega) hhere)]
      have HHH := Lib.hid hhere
      rw [sHere] at hhere
      go_wp2_with fail
      go_ret2
      exact ⟨_, ret_tup (by rw [HE.out] <;> rfl), by rw [HE.out]; exact HO2.out, l2⟩
    obtain ⟨j, hj, e1, e2, _⟩ := HTO.out (by omega) hhere
    rw [sHere] at hhere
    have HE : Hid (route net c s = routeN net c f (p ++ [i]) j) := by show _ = _; rw [HG.out, route_on HNI.out e1]
    have HON2 := Lib.hid (onPath_step HON.out HNI.out hj)
    have HE2 := Lib.hid e2
    clear e1 e2 HL HH HTO
    go_wp2_with fail
    refine (impl_officeOf _ net S _ (hv0.out.on l2)).mono ?_
    rw [HE2.out]
    rintro e w3 ⟨rfl, b3⟩
    have l3 := later_trans l2 b3
    have HO3 := Lib.hid (HO2.out.below b3)
    go_wp2_with fail
    refine (slices_ContainsI _ (ints (p ++ [i])) j _ HO3.out.rd).mono ?_
    rw [ints_mem]
    rintro e w4 ⟨rfl, rfl⟩
    have hs3 := l3.size
    obtain ⟨f', hf'⟩ := onPath_fuel HON2.out
    subst hf'
    cases hq : decide (j ∈ p ++ [i])
    · have HQ' := Lib.hid (of_decide_eq_false hq)
      clear hq
      go_wp2_with (at_builtin; refine wpList_append1' (α := Int) rfl (.tmp 42) (.tmp 44) 106 rfl w.heap.size 3 i0 _ 8 Try.underlying106 hi hz0 hz1 hz2 rfl (by decide) (.slice (some ⟨g, 0, none⟩) (p.length + 1) cap) (ints (p ++ [i])) (j : Int) rfl (HO3.out.alloc _) ⟨w3.heap.size, 0, none⟩ 1 [.int .i64 j] rfl ⟨⟨by omega, by omega⟩, rfl⟩ (news_at w3 _ [.int .i64 j]) (by rw [ints_len, List.length_append]; unfold maxLen; simp only [List.length_singleton]; omega) (by rw [ints_len, List.length_append]; simp only [List.length_singleton]; omega) (by simp; omega) ?_; intro g5 cap5 w5 ho5 hg5 ha5 hl5)
      have l5 : Below w.heap.size w w5 := (later_alloc l3 (Obj.cells #[Value.int IntKind.i64 j] 3)).grown hg5 (by simp; omega) fun q hq => (HO3.out.blk q hq).1
      rw [← ints_snoc] at ho5
      have hPL : (ints (p ++ [i])).length = p.length + 1 := by rw [ints_len]; simp
      have HO5 := Lib.hid ho5; clear ho5
      go_wp2
      go_roundw
      case rel => exact ⟨p ++ [i], j, f', g5, cap5, (ints (p ++ [i])).length + 1, rfl, by rw [hPL]; simp, HO5.out, HON2.out, HQ'.out, l5, HE.out⟩
      case measure => simp [lenV, hPL]; omega
    · have HE5 : Hid (route net c s = (p ++ [i] ++ [j], 2)) := by show _ = _; rw [HE.out, route_again (of_decide_eq_true hq)]
      clear hq
      go_wp2_with (at_builtin; refine wpList_append1' (α := Int) rfl (.tmp 42) (.tmp 44) 106 rfl w.heap.size 3 i0 _ 8 Try.underlying106 hi hz0 hz1 hz2 rfl (by decide) (.slice (some ⟨g, 0, none⟩) (p.length + 1) cap) (ints (p ++ [i])) (j : Int) rfl (HO3.out.alloc _) ⟨w3.heap.size, 0, none⟩ 1 [.int .i64 j] rfl ⟨⟨by omega, by omega⟩, rfl⟩ (news_at w3 _ [.int .i64 j]) (by rw [ints_len, List.length_append]; unfold maxLen; simp only [List.length_singleton]; omega) (by rw [ints_len, List.length_append]; simp only [List.length_singleton]; omega) (by simp; omega) ?_; intro g5 cap5 w5 ho5 hg5 ha5 hl5)
      have l5 : Below w.heap.size w w5 := (later_alloc l3 (Obj.cells #[Value.int IntKind.i64 j] 3)).grown hg5 (by simp; omega) fun q hq => (HO3.out.blk q hq).1
      rw [← ints_snoc] at ho5
      have hPL : (ints (p ++ [i])).length = p.length + 1 := by rw [ints_len]; simp
      have HO5 := Lib.hid ho5; clear ho5
      go_wp2
      go_ret2
      exact ⟨_, ret_tup (by rw [HE5.out] <;> rfl), by rw [HE5.out]; first | exact HO5.out | (have h := HO5.out; rw [hPL] at h; exact h), l5⟩

theorem sEmpty (s : ByteArray) : sEq s ⟨#[]⟩ = s.toList.isEmpty := by
  unfold sEq
  rw [ByteArray.toList_eq ⟨#[]⟩]
  generalize s.toList = l
  cases l <;> rfl
theorem own_names {T base : Nat} {w : World} {v : Value} {xs : List ByteArray} (h : own T base w v xs) : rd w w.heap.size v xs := h.rd

set_option maxRecDepth 100000 in
set_option maxHeartbeats 1600000 in
theorem spec_l6Path (v : Value) (net : List Ofc) (s : Nat) (nm : ByteArray) (c : ByteArray) (w : World) (hv : rd w w.heap.size v net) (hk : netOk net = true) (hs : s < net.length) (hnm : nameAt net s = nm) (hcz : c.size ≤ maxLen) :
    Calls Try.prog 66 #[v, .string nm, .string c] w fun e w' => ∃ v', e = .returned (.tuple #[v', .int .i64 (route net c s).2]) ∧ own 9 w.heap.size w' v' ((route net c s).1.map (nameAt net)) ∧ Below w.heap.size w w' := by
  obtain ⟨A, n, cp, rfl, hn, hc, hm, hr⟩ := hv
  have hv0 := Lib.hid (show rd w w.heap.size (.slice A n cp) net from ⟨A, n, cp, rfl, hn, hc, hm, hr⟩)
  subst hn
  unfold maxLen at hm
  have HR := Lib.hid hr; clear hr
  have l0 := Below.refl w.heap.size w
  have hn8 := (netOk_iff.1 hk).1
  have HK := Lib.hid hk; clear hk
  obtain ⟨i0, hi, hz0, hz1, hz2⟩ := info_parts Try.infoStr
  go_enter Try.func66, Try.ntmps66
  go_wp2
  have ho1 : own (α := ByteArray) 9 w.heap.size (w.alloc (Obj.cells #[] 9)) (.slice (some ⟨w.heap.size, 0, none⟩) 0 0) (([] : List Nat).map (nameAt net)) := own.made0 w _ (Nat.le_refl _)
  have HO1 := Lib.hid ho1
  have l1 : Below w.heap.size w (w.alloc (Obj.cells #[] 9)) := later_alloc l0 _
  clear ho1
  go_loopw [8, 9] (fun t u wr => ∃ (p : List Nat) (i f g cap n : Nat) (d : ByteArray), t = .slice (some ⟨g, 0, none⟩) n cap ∧ n = p.length ∧ u = .string d ∧ Hid (nameAt net i = d) ∧ own 9 w.heap.size wr t (p.map (nameAt net)) ∧ Hid (onPath net (f + 1) p i) ∧ Below w.heap.size w wr ∧ Hid (route net c s = routeN net c (f + 1) p i)) (fun t _ _ => net.length + 2 - lenV t)
  case atStart => exact ⟨[], s, net.length, w.heap.size, 0, 0, nm, rfl, rfl, rfl, hnm, HO1.out, onPath_start hs, l1, rfl⟩
  case round =>
    obtain ⟨p, i, f, g, cap, n, d, rfl, rfl, rfl, HD, ho, HON, lr, HG⟩ := hrel
    obtain ⟨w1, rfl⟩ : ∃ w1 : World, w1 = wr := ⟨_, rfl⟩
    clear l1 l0
    have hil := HON.out.2.2.1
    have hpl : p.length ≤ net.length := nodup_len _ _ HON.out.1 HON.out.2.1
    have hfl := HON.out.2.2.2
    have HMEM := Lib.hid (names_mem HK.out HON.out.2.1 hil)
    rw [HD.out] at HMEM
    have HOF := Lib.hid (offI_self HK.out hil)
    rw [← nameAt_of hil, HD.out] at HOF
    obtain ⟨b, o, A2, k2, rfl, hb, hok, hu, y1, y2⟩ := HR.out.ofcU i hil
    have hdz : d.size ≤ maxLen := by rw [← HD.out, nameAt_of hil]; exact hok
    have HO := Lib.hid ho; clear ho
    have hii : (i : Int) < (net.length : Int) := by omega
    have HRO := Lib.hid ((netOk_iff.1 HK.out).2 i hil).2.2.2.1
    have HL := Lib.hid (fun h => hop_lost (net := net) (c := c) hil h)
    have HH := Lib.hid (fun h h' => hop_home (net := net) (c := c) hil h h')
    have HTO := Lib.hid (fun h h' => hop_to HK.out (c := c) hil h h')
    have hnz := nextS_ok HRO.out c
    have HEMP := Lib.hid (nextS_empty HRO.out c)
    generalize net[i] = x at *
    have HU := Lib.hid hu; clear hu
    obtain ⟨N, hN⟩ : ∃ N, bestI x.rules c = N := ⟨_, rfl⟩
    obtain ⟨S, hS⟩ : ∃ S, nextS x.rules c = S := ⟨_, rfl⟩
    rw [hN] at HL HH HTO HEMP
    rw [hS] at HH HTO hnz HEMP
    have HNN := Lib.hid hN; have HSS := Lib.hid hS; clear hN hS
    obtain ⟨r, hr⟩ : ∃ r, rkI (p.map (nameAt net)) d = r := ⟨_, rfl⟩
    rw [hr] at HMEM
    have HRR := Lib.hid hr; clear hr
    have hs1 := lr.size
    go_wp2_with fail
    refine (spec_l3Rank _ (p.map (nameAt net)) d _ HO.out.rd).mono ?_
    rw [HRR.out]
    rintro e w2 ⟨rfl, rfl⟩
    by_cases hr0 : 0 ≤ r
    · have hin : decide (i ∈ p) = true := by rw [← HMEM.out]; exact decide_eq_true hr0
      have HIN := Lib.hid (of_decide_eq_true hin)
      have HE : Hid (route net c s = (p ++ [i], 2)) := by show _ = _; rw [HG.out, route_again HIN.out]
      go_wp2_with (at_builtin; refine wpList_append1' (α := ByteArray) rfl (.tmp 17) (.tmp 19) 23 rfl w.heap.size 9 i0 _ 16 Try.underlying23 hi hz0 hz1 hz2 rfl (by decide) (.slice (some ⟨g, 0, none⟩) p.length cap) (p.map (nameAt net)) d rfl (HO.out.alloc _) ⟨w1.heap.size, 0, none⟩ 1 [.string d] rfl ⟨hdz, rfl⟩ (news_at w1 _ [.string d]) (by rw [List.length_map]; unfold maxLen; omega) (by rw [List.length_map]; omega) (by simp; omega) ?_; intro g5 cap5 w5 ho5 hg5 ha5 hl5)
      have l5 : Below w.heap.size w w5 := (later_alloc lr (Obj.cells #[Value.string d] 9)).grown hg5 (by simp; omega) fun q hq => (HO.out.blk q hq).1
      have HO5 := Lib.hid ho5; clear ho5
      go_wp2
      go_ret2
      refine ⟨_, ret_tup (by rw [HE.out] <;> rfl), ?_, l5⟩
      rw [HE.out]
      have h := HO5.out
      rw [← HD.out] at h
      simpa using h
    have hin : decide (i ∈ p) = false := by rw [← HMEM.out]; exact decide_eq_false hr0
    have HNI := Lib.hid (of_decide_eq_false hin)
    go_wp2_with (at_builtin; refine wpList_append1' (α := ByteArray) rfl (.tmp 21) (.tmp 23) 23 rfl w.heap.size 9 i0 _ 16 Try.underlying23 hi hz0 hz1 hz2 rfl (by decide) (.slice (some ⟨g, 0, none⟩) p.length cap) (p.map (nameAt net)) d rfl (HO.out.alloc _) ⟨w1.heap.size, 0, none⟩ 1 [.string d] rfl ⟨hdz, rfl⟩ (news_at w1 _ [.string d]) (by rw [List.length_map]; unfold maxLen; omega) (by rw [List.length_map]; omega) (by simp; omega) ?_; intro g5 cap5 w5 ho5 hg5 ha5 hl5)
    have l5 : Below w.heap.size w w5 := (later_alloc lr (Obj.cells #[Value.string d] 9)).grown hg5 (by simp; omega) fun q hq => (HO.out.blk q hq).1
    have hPL : (p.map (nameAt net)).length = p.length := by rw [List.length_map]
    have hsn : (p ++ [i]).map (nameAt net) = p.map (nameAt net) ++ [d] := by rw [List.map_append, List.map_singleton, HD.out]
    rw [← hsn] at ho5
    clear hsn
    have HO5 := Lib.hid ho5; clear ho5
    go_wp2_with fail
    refine (spec_l6Office _ net d _ (hv0.out.on l5)).mono ?_
    rw [HOF.out]
    rintro e w6 ⟨rfl, rfl⟩
    go_wp2_with fail
    refine (spec_l6Next _ x.rules c _ (HU.out.on l5) hcz).mono ?_
    rw [HSS.out]
    rintro e w6 ⟨rfl, b6⟩
    replace HO5 := Lib.hid (HO5.out.below b6)
    replace l5 := later_trans l5 b6
    clear b6
    by_cases hneg : N < 0
    · have HE : Hid (route net c s = (p ++ [i], 1)) := by show _ = _; rw [HG.out, route_lost HNI.out (HL.out hneg)]
      have he : sEq S ⟨#[]⟩ = true := by rw [HEMP.out]; exact decide_eq_true hneg
      rw [sEmpty] at he
      go_wp2
      go_ret2
      exact ⟨_, ret_tup (by rw [HE.out] <;> rfl), by rw [HE.out]; first | exact HO5.out | (have h := HO5.out; rw [hPL] at h; exact h), l5⟩
    have he : sEq S ⟨#[]⟩ = false := by rw [HEMP.out]; exact decide_eq_false hneg
    rw [sEmpty] at he
    cases hhere : sEq S hereW
    case true =>
      have HE : Hid (route net c s = (p ++ [i], 0)) := by show _ = _; rw [HG.out, route_home HNI.out (HH.out (by omega) hhere)]
      rw [sHere] at hhere
      go_wp2
      go_ret2
      exact ⟨_, ret_tup (by rw [HE.out] <;> rfl), by rw [HE.out]; first | exact HO5.out | (have h := HO5.out; rw [hPL] at h; exact h), l5⟩
    obtain ⟨j, hj, e1, e2, e3⟩ := HTO.out (by omega) hhere
    rw [sHere] at hhere
    have HE : Hid (route net c s = routeN net c f (p ++ [i]) j) := by show _ = _; rw [HG.out, route_on HNI.out e1]
    have HON2 := Lib.hid (onPath_step HON.out HNI.out hj)
    have HE3 := Lib.hid e3
    clear e1 e2 e3 HL HH HTO
    obtain ⟨f', hf'⟩ := onPath_fuel HON2.out
    subst hf'
    go_wp2
    go_roundw
    case rel => exact ⟨p ++ [i], j, f', g5, cap5, p.length + 1, S, rfl, by simp, rfl, HE3.out, by first | exact HO5.out | (have h := HO5.out; rw [hPL] at h; exact h), HON2.out, l5, HE.out⟩
    case measure => simp [lenV, hPL]; omega

end Go.Proofs.Ytmangjjaijhcnaa

namespace Go.Proofs.Ytmangjjaijhcnaa
open Go.RowKit

theorem hops_take {net : List Ofc} (h : netOk net = true) {i : Nat} (hi : i < net.length) (xs : List Ltr) (k : Nat) (hx : xs.length ≤ 60) : 0 ≤ hops net i (xs.take k) ∧ hops net i (xs.take k) ≤ 480 := by
  have h1 := hops_le h hi (xs.take k)
  have h2 := (netOk_iff.1 h).1.2
  have h3 : ((xs.take k).length : Int) ≤ 60 := by rw [List.length_take]; omega
  refine ⟨h1.1, Int.le_trans h1.2 ?_⟩
  have h4 : ((xs.take k).length : Int) * net.length ≤ 60 * 8 := Int.mul_le_mul h3 (by omega) (by omega) (by omega)
  omega
theorem tcI_no {net : List Ofc} {s : ByteArray} {xs : List Ltr} (h : tcOk net s xs = false) : tcI net s xs = -1 := by unfold tcI; rw [h]; rfl

set_option maxRecDepth 100000 in
set_option maxHeartbeats 1600000 in
theorem impl_TransitCount (v vb : Value) (net : List Ofc) (s : ByteArray) (xs : List Ltr) (w : World) (hv : rd w w.heap.size v net) (hb : rd w w.heap.size vb xs) :
    Calls Try.prog 21 #[v, .string s, vb] w fun e w' => e = .returned (.int .i64 (tcI net s xs)) ∧ Below w.heap.size w w' := by
  have HV := Lib.hid hv; clear hv
  have HB := Lib.hid hb
  obtain ⟨A, n, cp, rfl, hn, hc, hm, hr⟩ := hb
  subst hn
  unfold maxLen at hm
  have HR := Lib.hid hr; clear hr
  have l0 := Below.refl w.heap.size w
  have HQ : Hid (tcOk net s xs = (netOk net && decide (0 ≤ offI net s) && okB xs)) := rfl
  obtain ⟨r, hr⟩ : ∃ r, offI net s = r := ⟨_, rfl⟩
  rw [hr] at HQ
  have HRR := Lib.hid hr; clear hr
  go_enter Try.func21, Try.ntmps21
  go_wp2_with fail
  refine (impl_officeOf _ net s _ (HV.out.on l0)).mono ?_
  rw [HRR.out]
  rintro e w1 ⟨rfl, b⟩
  have l1 := later_trans l0 b
  clear b
  go_wp2_with fail
  refine (impl_NetworkValid _ net _ (HV.out.on l1)).mono ?_
  rintro e w2 ⟨rfl, b⟩
  have l2 := later_trans l1 b
  clear b
  cases h1 : netOk net
  · have HF : Hid (tcOk net s xs = false) := by show _ = _; rw [HQ.out, h1]; rfl
    clear h1
    go_wp2_with fail
    go_ret
    exact ⟨ret_int (tcI_no HF.out).symm, l2⟩
  have H1 := Lib.hid h1; clear h1
  by_cases hr0 : r < 0
  · have HF : Hid (tcOk net s xs = false) := by show _ = _; rw [HQ.out, decide_eq_false (by omega)]; simp
    go_wp2_with fail
    go_ret
    exact ⟨ret_int (tcI_no HF.out).symm, l2⟩
  obtain ⟨q, hq⟩ := Int.eq_ofNat_of_zero_le (show 0 ≤ r by omega)
  subst hq
  obtain ⟨hql, hqn⟩ := offI_at HRR.out
  have HQN : Hid (nameAt net q = s) := by show _ = _; rw [nameAt_of hql, hqn]
  clear hqn hr0
  go_wp2_with fail
  refine (impl_BatchValid _ xs _ (HB.out.on l2)).mono ?_
  rintro e w3 ⟨rfl, b3⟩
  have l3 := later_trans l2 b3
  clear b3
  cases h2 : okB xs
  · have HF : Hid (tcOk net s xs = false) := by show _ = _; rw [HQ.out, h2]; simp
    clear h2
    go_wp2_with fail
    go_ret
    exact ⟨ret_int (tcI_no HF.out).symm, l3⟩
  have hxl := okB_len' h2
  have H2 := Lib.hid h2; clear h2
  have HF : Hid (tcI net s xs = hops net q xs) := by
    have h : tcOk net s xs = true := by rw [HQ.out, H1.out, H2.out, decide_eq_true (by omega)]; rfl
    show _ = _
    unfold tcI
    rw [if_pos h, HRR.out, Int.toNat_natCast]
  go_wp2_with fail
  go_loopw [8, 30] (fun t i wr => ∃ k : Nat, k ≤ xs.length ∧ i = .int .i64 k ∧ t = .int .i64 (hops net q (xs.take k)) ∧ Below w.heap.size w wr) (fun _ i _ => xs.length - (intOf i).toNat)
  case atStart => exact ⟨0, Nat.zero_le _, rfl, rfl, l3⟩
  case round =>
    obtain ⟨k, hk, rfl, rfl, lr⟩ := hrel
    obtain ⟨w4, rfl⟩ : ∃ w4 : World, w4 = wr := ⟨_, rfl⟩
    clear l3 l0
    obtain ⟨hb1, hb2⟩ := hops_take H1.out hql xs k hxl
    by_cases hlt : k < xs.length
    · obtain ⟨b, o, rfl, hb, ⟨⟨hi1, hi2⟩, hcz⟩, y1, y2⟩ := HR.out.ltrU k hlt
      have HS := Lib.hid (hops_succ net q xs hlt)
      have hlen := route_len H1.out (c := xs[k].code) (net.length + 1) [] q (onPath_start hql)
      have hn8 := (netOk_iff.1 H1.out).1
      have hrr : route net xs[k].code q = routeN net xs[k].code (net.length + 1) [] q := rfl
      rw [← hrr] at hlen
      clear hrr
      generalize xs[k] = x at *
      generalize hops net q (xs.take k) = m at *
      have hki : (k : Int) < (xs.length : Int) := by omega
      have lx := later_alloc lr (Obj.cells #[.int .i64 x.id, .string x.code] 55)
      go_wp2_with fail
      refine (impl_routeOf _ net q x.code _ (HV.out.on lx) H1.out hql hcz).mono ?_
      generalize route net x.code q = R at *
      rintro e w5 ⟨v5, rfl, o5, b5⟩
      have l5 := later_trans lx b5
      obtain ⟨A5, n5, c5, rfl, hn5, _, _, _⟩ := o5.rd
      rw [ints_len] at hn5
      subst hn5
      generalize R.1.length = z at *
      simp only [List.length_nil] at hlen
      clear o5 b5
      go_wp2_with fail
      go_roundw
      case rel => exact ⟨k + 1, by omega, by go_num, by rw [HS.out] <;> go_num, l5⟩
      case measure => simp [intOf]; omega
    · have HE : Hid (hops net q (xs.take k) = hops net q xs) := by show _ = _; rw [List.take_of_length_le (by omega)]
      go_wp2_with fail
      go_ret
      exact ⟨ret_int (HE.out.trans HF.out.symm), lr⟩

set_option maxRecDepth 100000 in
set_option maxHeartbeats 1600000 in
theorem spec_TransitCount (v vb : Value) (net : List Ofc) (s : ByteArray) (xs : List Ltr) (w : World) (hv : rd w w.heap.size v net) (hb : rd w w.heap.size vb xs) :
    Calls Try.prog 18 #[v, .string s, vb] w fun e w' => e = .returned (.int .i64 (tcI net s xs)) ∧ Below w.heap.size w w' := by
  have HV := Lib.hid hv; clear hv
  have HB := Lib.hid hb
  obtain ⟨A, n, cp, rfl, hn, hc, hm, hr⟩ := hb
  subst hn
  unfold maxLen at hm
  have HR := Lib.hid hr; clear hr
  have l0 := Below.refl w.heap.size w
  have HQ : Hid (tcOk net s xs = (netOk net && decide (0 ≤ offI net s) && okB xs)) := rfl
  obtain ⟨r, hr⟩ : ∃ r, offI net s = r := ⟨_, rfl⟩
  rw [hr] at HQ
  have HRR := Lib.hid hr; clear hr
  go_enter Try.func18, Try.ntmps18
  go_wp2_with fail
  refine (spec_NetworkValid _ net _ (HV.out.on l0)).mono ?_
  rintro e w1 ⟨rfl, rfl⟩
  cases h1 : netOk net
  · have HF : Hid (tcOk net s xs = false) := by show _ = _; rw [HQ.out, h1]; rfl
    clear h1
    go_wp2_with fail
    go_ret
    exact ⟨ret_int (tcI_no HF.out).symm, l0⟩
  have H1 := Lib.hid h1; clear h1
  go_wp2_with fail
  refine (spec_l6Office _ net s _ (HV.out.on l0)).mono ?_
  rw [HRR.out]
  rintro e w1 ⟨rfl, rfl⟩
  by_cases hr0 : r < 0
  · have HF : Hid (tcOk net s xs = false) := by show _ = _; rw [HQ.out, decide_eq_false (by omega)]; simp
    go_wp2_with fail
    go_ret
    exact ⟨ret_int (tcI_no HF.out).symm, l0⟩
  obtain ⟨q, hq⟩ := Int.eq_ofNat_of_zero_le (show 0 ≤ r by omega)
  subst hq
  obtain ⟨hql, hqn⟩ := offI_at HRR.out
  have HQN : Hid (nameAt net q = s) := by show _ = _; rw [nameAt_of hql, hqn]
  clear hqn hr0
  go_wp2_with fail
  refine (spec_BatchValid _ xs _ (HB.out.on l0)).mono ?_
  rintro e w3 ⟨rfl, b3⟩
  have l3 := later_trans l0 b3
  clear b3
  cases h2 : okB xs
  · have HF : Hid (tcOk net s xs = false) := by show _ = _; rw [HQ.out, h2]; simp
    clear h2
    go_wp2_with fail
    go_ret
    exact ⟨ret_int (tcI_no HF.out).symm, l3⟩
  have hxl := okB_len' h2
  have H2 := Lib.hid h2; clear h2
  have HF : Hid (tcI net s xs = hops net q xs) := by
    have h : tcOk net s xs = true := by rw [HQ.out, H1.out, H2.out, decide_eq_true (by omega)]; rfl
    show _ = _
    unfold tcI
    rw [if_pos h, HRR.out, Int.toNat_natCast]
  go_wp2_with fail
  go_loopw [7, 8] (fun t i wr => ∃ k : Nat, k ≤ xs.length ∧ i = .int .i64 k ∧ t = .int .i64 (hops net q (xs.take k)) ∧ Below w.heap.size w wr) (fun _ i _ => xs.length - (intOf i).toNat)
  case atStart => exact ⟨0, Nat.zero_le _, rfl, rfl, l3⟩
  case round =>
    obtain ⟨k, hk, rfl, rfl, lr⟩ := hrel
    obtain ⟨w4, rfl⟩ : ∃ w4 : World, w4 = wr := ⟨_, rfl⟩
    clear l3 l0
    obtain ⟨hb1, hb2⟩ := hops_take H1.out hql xs k hxl
    by_cases hlt : k < xs.length
    · obtain ⟨b, o, rfl, hb, ⟨⟨hi1, hi2⟩, hcz⟩, y1, y2⟩ := HR.out.ltrU k hlt
      have HS := Lib.hid (hops_succ net q xs hlt)
      have hlen := route_len H1.out (c := xs[k].code) (net.length + 1) [] q (onPath_start hql)
      have hn8 := (netOk_iff.1 H1.out).1
      have hrr : route net xs[k].code q = routeN net xs[k].code (net.length + 1) [] q := rfl
      rw [← hrr] at hlen
      clear hrr
      generalize xs[k] = x at *
      generalize hops net q (xs.take k) = m at *
      have hki : (k : Int) < (xs.length : Int) := by omega
      go_wp2_with fail
      refine (spec_l6Path _ net q s x.code _ (HV.out.on lr) H1.out hql HQN.out hcz).mono ?_
      generalize route net x.code q = R at *
      rintro e w5 ⟨v5, rfl, o5, b5⟩
      have l5 := later_trans lr b5
      obtain ⟨A5, n5, c5, rfl, hn5, _, _, _⟩ := o5.rd
      rw [List.length_map] at hn5
      subst hn5
      generalize R.1.length = z at *
      simp only [List.length_nil] at hlen
      clear o5 b5
      go_wp2_with fail
      go_roundw
      case rel => exact ⟨k + 1, by omega, by go_num, by rw [HS.out] <;> go_num, l5⟩
      case measure => simp [intOf]; omega
    · have HE : Hid (hops net q (xs.take k) = hops net q xs) := by show _ = _; rw [List.take_of_length_le (by omega)]
      go_wp2_with fail
      go_ret
      exact ⟨ret_int (HE.out.trans HF.out.symm), lr⟩

end Go.Proofs.Ytmangjjaijhcnaa
