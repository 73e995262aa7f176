/- NO NP -/
import Derived.Test.YtffbcfaahegglaaDoorQ6
import Derived.Test.YtffbcfaahegglaaDoorQ17
namespace Go.Proofs.YtffbcfaahegglaaDoor
open Go.RowKit

theorem sHere (s : ByteArray) : sEq s hereW = (s.toList == [104, 101, 114, 101]) := by
  unfold sEq
  rw [ByteArray.toList_eq hereW]
  rfl
theorem offI_ge (net : List Ofc) (k : Nat) (c : ByteArray) {r : Int} (h : offI (net.take k) c = r) : (net.take k).all (fun y => !sEq y.name c) = !decide (0 ≤ r) := by
  have := fiI_ge (fun y : Ofc => sEq y.name c) (net.take k)
  rw [← h]
  unfold offI
  rw [this, Bool.not_not]
theorem offI_is {net : List Ofc} {k : Nat} (h : k < net.length) : (offI net net[k].name == (k : Int)) = (net.take k).all (fun y => !sEq y.name net[k].name) :=
  fiI_self (p := fun y : Ofc => sEq y.name net[k].name) h (sEq_refl _)

set_option maxHeartbeats 400000 in
theorem impl_officeOf (v : Value) (fs : List Ofc) (c : ByteArray) (w : World) (hv : rd w w.heap.size v fs) :
    Calls Tryd.prog 64 #[v, .string c] w fun e w' => e = .returned (.int .i64 (offI fs c)) ∧ Below w.heap.size w w' := by
  obtain ⟨A, n, cp, rfl, hn, hc, hm, hr⟩ := hv
  subst hn
  unfold maxLen at hm
  have HR := Lib.hid hr; clear hr
  have l0 := Below.refl w.heap.size w
  go_enter Tryd.func64, Tryd.ntmps64
  go_wp2
  go_loopw [9] (fun i wr => ∃ k : Nat, k ≤ fs.length ∧ i = .int .i64 k ∧ Below w.heap.size w wr ∧ Hid (∀ j (h : j < fs.length), j < k → sEq fs[j].name c = false)) (fun i _ => fs.length - (intOf i).toNat)
  case atStart => exact ⟨0, Nat.zero_le _, rfl, l0, fun j _ hj => absurd hj (Nat.not_lt_zero j)⟩
  case round =>
    obtain ⟨k, hk, rfl, lr, HG⟩ := hrel
    obtain ⟨w1, rfl⟩ : ∃ w1 : World, w1 = wr := ⟨_, rfl⟩
    by_cases hlt : k < fs.length
    · obtain ⟨b, o, A2, k2, rfl, hb, hok, hu, c1, c2⟩ := HR.out.ofcU k hlt
      have HX : Hid (∀ h : sEq fs[k].name c = false, ∀ j (h1 : j < fs.length), j < k + 1 → sEq fs[j].name c = false) := fun h j h1 hj => by
        by_cases hjk : j < k
        · exact HG.out j h1 hjk
        · obtain rfl : j = k := by omega
          exact h
      have HY : Hid (∀ h : sEq fs[k].name c = true, offI fs c = k) := fun h => fiI_at hlt (fun j hj hjk => HG.out j hj hjk) h
      clear hu
      generalize fs[k] = x at *
      cases he : sEq x.name c
      · have he' := Lib.hid he
        have hq : (x.name.toList == c.toList) = false := he
        clear he
        go_wp2
        go_roundw
        case rel => exact ⟨k + 1, by omega, by go_num, later_alloc lr _, HX.out he'.out⟩
        case measure => simp [intOf]; omega
      · have he' := Lib.hid he
        have hq : (x.name.toList == c.toList) = true := he
        clear he
        go_wp2
        go_ret
        exact ⟨ret_int (HY.out he'.out).symm, later_alloc lr _⟩
    · have HE : Hid (offI fs c = -1) := fiI_none fun j hj => HG.out j hj (by omega)
      go_wp2
      go_ret
      exact ⟨ret_int HE.out.symm, lr⟩

set_option maxHeartbeats 400000 in
theorem spec_l6Office (v : Value) (fs : List Ofc) (c : ByteArray) (w : World) (hv : rd w w.heap.size v fs) :
    Calls Tryd.prog 91 #[v, .string c] w fun e w' => e = .returned (.int .i64 (offI fs c)) ∧ w = w' := by
  obtain ⟨A, n, cp, rfl, hn, hc, hm, hr⟩ := hv
  subst hn
  unfold maxLen at hm
  have HR := Lib.hid hr; clear hr
  have l0 := Below.refl w.heap.size w
  go_enter Tryd.func91, Tryd.ntmps91
  go_wp2
  go_loop [5] (fun i => ∃ k : Nat, k ≤ fs.length ∧ i = .int .i64 k ∧ Hid (∀ j (h : j < fs.length), j < k → sEq fs[j].name c = false)) (fun i => fs.length - (intOf i).toNat)
  case atStart => exact ⟨0, Nat.zero_le _, rfl, fun j _ hj => absurd hj (Nat.not_lt_zero j)⟩
  case round =>
    obtain ⟨k, hk, rfl, HG⟩ := hrel
    by_cases hlt : k < fs.length
    · obtain ⟨b, o, A2, k2, rfl, hb, hok, hu, c1, c2⟩ := HR.out.ofcU k hlt
      have HX : Hid (∀ h : sEq fs[k].name c = false, ∀ j (h1 : j < fs.length), j < k + 1 → sEq fs[j].name c = false) := fun h j h1 hj => by
        by_cases hjk : j < k
        · exact HG.out j h1 hjk
        · obtain rfl : j = k := by omega
          exact h
      have HY : Hid (∀ h : sEq fs[k].name c = true, offI fs c = k) := fun h => fiI_at hlt (fun j hj hjk => HG.out j hj hjk) h
      clear hu
      generalize fs[k] = x at *
      cases he : sEq x.name c
      · have he' := Lib.hid he
        have hq : (x.name.toList == c.toList) = false := he
        clear he
        go_wp2
        go_round
        case rel => exact ⟨k + 1, by omega, by go_num, HX.out he'.out⟩
        case measure => simp [intOf]; omega
      · have he' := Lib.hid he
        have hq : (x.name.toList == c.toList) = true := he
        clear he
        go_wp2
        go_ret
        exact ⟨ret_int (HY.out he'.out).symm, rfl⟩
    · have HE : Hid (offI fs c = -1) := fiI_none fun j hj => HG.out j hj (by omega)
      go_wp2
      go_ret
      exact ⟨ret_int HE.out.symm, rfl⟩

set_option maxRecDepth 100000 in
set_option maxHeartbeats 1600000 in
theorem spec_NetworkValid (v : Value) (net : List Ofc) (w : World) (hv : rd w w.heap.size v net) :
    Calls Tryd.prog 63 #[v] w fun e w' => e = .returned (.bool (netOk net)) ∧ w = w' := by
  obtain ⟨A, n, cp, rfl, hn, hc, hm, hr⟩ := hv
  have hv0 := Lib.hid (show rd w w.heap.size (.slice A n cp) net from ⟨A, n, cp, rfl, hn, hc, hm, hr⟩)
  subst hn
  unfold maxLen at hm
  have HR := Lib.hid hr; clear hr
  have l0 := Below.refl w.heap.size w
  go_enter Tryd.func63, Tryd.ntmps63
  go_wp2
  go_loop [3] (fun i => ∃ k : Nat, k ≤ net.length ∧ i = .int .i64 k ∧ Hid (∀ j, j < k → goodO net j = true)) (fun i => net.length - (intOf i).toNat)
  case atStart => exact ⟨0, Nat.zero_le _, rfl, fun j hj => absurd hj (Nat.not_lt_zero j)⟩
  case round =>
    obtain ⟨k, hk, rfl, HG⟩ := hrel
    by_cases hlt : k < net.length
    · obtain ⟨b, o, A2, k2, rfl, hb, hok, hu, c1, c2⟩ := HR.out.ofcU k hlt
      have hG := Lib.hid (goodO_of hlt)
      have hS := Lib.hid (offI_is hlt)
      have hbad := Lib.hid (fun h => netOk_bad hlt h)
      generalize net[k] = x at *
      have HU := Lib.hid hu; clear hu
      have hki : (k : Int) < (net.length : Int) := by omega
      go_wp2_with fail
      refine (spec_l6Name x.name _ hok).mono ?_
      rintro e w1 ⟨rfl, rfl⟩
      cases h1 : isName x.name
      · have H1 := Lib.hid h1; clear h1
        go_wp2_with fail
        go_ret
        exact ⟨ret_bool (hbad.out (by rw [hG.out, H1.out]; rfl)).symm, rfl⟩
      have H1 := Lib.hid h1; clear h1
      cases h2 : sEq x.name hereW
      case true =>
        have H2 := Lib.hid h2
        rw [sHere] at h2
        go_wp2_with fail
        go_ret
        exact ⟨ret_bool (hbad.out (by rw [hG.out, H1.out, H2.out]; rfl)).symm, rfl⟩
      have H2 := Lib.hid h2
      rw [sHere] at h2
      obtain ⟨r, HRR⟩ : ∃ r, Hid (offI net x.name = r) := ⟨_, rfl⟩
      go_wp2_with fail
      refine (spec_l6Office _ net x.name _ hv0.out).mono ?_
      rw [HRR.out]
      rintro e w1 ⟨rfl, rfl⟩
      cases h3 : (r == (k : Int))
      · have H3 := Lib.hid h3
        have h3' : (r != (k : Int)) = true := by rw [bne, h3]; rfl
        clear h3
        go_wp2_with fail
        go_ret
        exact ⟨ret_bool (hbad.out (by rw [hG.out, ← hS.out, HRR.out, H3.out]; simp)).symm, rfl⟩
      have H3 := Lib.hid h3
      have h3' : (r != (k : Int)) = false := by rw [bne, h3]; rfl
      clear h3
      go_wp2_with fail
      refine (spec_RulesValid _ x.rules _ HU.out).mono ?_
      rintro e w1 ⟨rfl, rfl⟩
      cases h4 : rulesOk x.rules
      · have H4 := Lib.hid h4; clear h4
        go_wp2_with fail
        go_ret
        exact ⟨ret_bool (hbad.out (by rw [hG.out, H4.out]; simp)).symm, rfl⟩
      have H4 := Lib.hid h4; clear h4
      have hrl := (rulesOk_iff.1 H4.out).1
      have HGD : Hid (∀ b, x.rules.all (goodN net) = b → goodO net k = b) := fun b hb => by rw [hG.out, H1.out, H2.out, ← hS.out, HRR.out, H3.out, H4.out, hb]; rfl
      obtain ⟨A2', n2', c2', e2, _, _, hmm2, hr2⟩ := HU.out
      injection e2 with e21 e22 e23
      subst e21 e22 e23
      have HUR := Lib.hid hr2; clear hr2
      go_wp2_with fail
      go_loop [4] (fun i => ∃ m : Nat, m ≤ x.rules.length ∧ i = .int .i64 m ∧ Hid ((x.rules.take m).all (goodN net) = true)) (fun i => x.rules.length - (intOf i).toNat)
      case atStart => exact ⟨0, Nat.zero_le _, rfl, rfl⟩
      case round =>
        obtain ⟨m, hm', rfl, HA⟩ := hrel
        by_cases hmt : m < x.rules.length
        · obtain ⟨b', o', rfl, hb', ⟨ok1, ok2⟩, d1, d2⟩ := HUR.out.fwdU m hmt
          have hT := Lib.hid (take_all_succ (p := goodN net) x.rules m hmt)
          have hI : Hid (goodN net x.rules[m] = false → x.rules.all (goodN net) = false) := fun h => List.all_eq_false.2 ⟨_, List.getElem_mem hmt, by simp [h]⟩
          generalize x.rules[m] = y at *
          have hmi : (m : Int) < (x.rules.length : Int) := by omega
          cases h5 : sEq y.dst hereW
          case true =>
            have H5 := Lib.hid h5
            rw [sHere] at h5
            go_wp2_with fail
            go_round
            case rel => exact ⟨m + 1, by omega, by go_num, by show _ = true; rw [hT.out, HA.out]; unfold goodN; rw [H5.out]; rfl⟩
            case measure => simp [intOf]; omega
          have H5 := Lib.hid h5
          rw [sHere] at h5
          obtain ⟨q, HQQ⟩ : ∃ q, Hid (offI net y.dst = q) := ⟨_, rfl⟩
          go_wp2_with fail
          refine (spec_l6Office _ net y.dst _ hv0.out).mono ?_
          rw [HQQ.out]
          rintro e w1 ⟨rfl, rfl⟩
          by_cases hq : q < 0
          · have H6 : Hid (goodN net y = false) := by show _ = _; unfold goodN; rw [H5.out, HQQ.out, decide_eq_false (by omega)]; rfl
            go_wp2_with fail
            go_ret
            exact ⟨ret_bool (hbad.out (HGD.out _ (hI.out H6.out))).symm, rfl⟩
          · have H6 : Hid (goodN net y = true) := by show _ = _; unfold goodN; rw [H5.out, HQQ.out, decide_eq_true (by omega)]; rfl
            go_wp2_with fail
            go_round
            case rel => exact ⟨m + 1, by omega, by go_num, by show _ = true; rw [hT.out, HA.out, H6.out]; rfl⟩
            case measure => simp [intOf]; omega
        · have HE := Lib.hid (show m = x.rules.length by omega)
          have HA2 : Hid (x.rules.all (goodN net) = true) := by have := HA.out; rw [HE.out, List.take_length] at this; exact this
          go_wp2_with fail
          go_round
          case rel =>
            refine ⟨k + 1, by omega, by go_num, fun j hj => ?_⟩
            by_cases hjk : j < k
            · exact HG.out j hjk
            · obtain rfl : j = k := by omega
              exact HGD.out _ HA2.out
          case measure => simp [intOf]; omega
    · have HE := Lib.hid (show k = net.length by omega)
      have HN : Hid (netOk net = (decide (1 ≤ (net.length : Int)) && decide ((net.length : Int) ≤ 8))) := netOk_good (by rw [← HE.out]; exact HG.out)
      go_wp2_with fail
      refine (spec_l1In net.length 1 8 _).mono ?_
      rintro e w1 ⟨rfl, rfl⟩
      obtain ⟨r, hr⟩ : ∃ r, (decide (1 ≤ (net.length : Int)) && decide ((net.length : Int) ≤ 8)) = r := ⟨_, rfl⟩
      rw [hr] at HN ⊢
      clear hr
      go_wp2_with fail
      go_ret
      exact ⟨ret_bool HN.out.symm, rfl⟩

set_option maxRecDepth 100000 in
set_option maxHeartbeats 1600000 in
theorem impl_NetworkValid (v : Value) (net : List Ofc) (w : World) (hv : rd w w.heap.size v net) :
    Calls Tryd.prog 29 #[v] w fun e w' => e = .returned (.bool (netOk net)) ∧ Below w.heap.size w w' := by
  obtain ⟨A, n, cp, rfl, hn, hc, hm, hr⟩ := hv
  have hv0 := Lib.hid (show rd w w.heap.size (.slice A n cp) net from ⟨A, n, cp, rfl, hn, hc, hm, hr⟩)
  subst hn
  unfold maxLen at hm
  have HR := Lib.hid hr; clear hr
  have l0 := Below.refl w.heap.size w
  go_enter Tryd.func29, Tryd.ntmps29
  by_cases h1 : (net.length : Int) < 1
  · have HF := Lib.hid (netOk_len (net := net) (by omega))
    go_wp2
    go_ret
    exact ⟨ret_bool HF.out.symm, l0⟩
  by_cases h8 : (8 : Int) < (net.length : Int)
  · have HF := Lib.hid (netOk_len (net := net) (by omega))
    go_wp2
    go_ret
    exact ⟨ret_bool HF.out.symm, l0⟩
  have HL : Hid ((decide (1 ≤ (net.length : Int)) && decide ((net.length : Int) ≤ 8)) = true) := by show _ = _; rw [decide_eq_true (by omega), decide_eq_true (by omega)]; rfl
  have hl8 : net.length ≤ 8 := by omega
  go_wp2
  go_loopw [17] (fun i wr => ∃ k : Nat, k ≤ net.length ∧ i = .int .i64 k ∧ Below w.heap.size w wr ∧ Hid (∀ j, j < k → goodO net j = true)) (fun i _ => net.length - (intOf i).toNat)
  case atStart => exact ⟨0, Nat.zero_le _, rfl, l0, fun j hj => absurd hj (Nat.not_lt_zero j)⟩
  case round =>
    obtain ⟨k, hk, rfl, lr, HG⟩ := hrel
    obtain ⟨w1, rfl⟩ : ∃ w1 : World, w1 = wr := ⟨_, rfl⟩
    clear l0
    by_cases hlt : k < net.length
    · obtain ⟨b, o, A2, k2, rfl, hb, hok, hu, c1, c2⟩ := HR.out.ofcU k hlt
      have hG := Lib.hid (goodO_of hlt)
      have hbad := Lib.hid (fun h => netOk_bad hlt h)
      generalize net[k] = x at *
      have hki : (k : Int) < (net.length : Int) := by omega
      obtain ⟨wo, hwo⟩ : ∃ wo : World, wo = w1.alloc (Obj.cells #[.string x.name, .slice A2 x.rules.length k2] 82) := ⟨_, rfl⟩
      have lo : Below w.heap.size w wo := later_trans lr (box_later hwo).1
      have y0 := box_cells hwo 0 (.string x.name) rfl
      have y1 := box_cells hwo 1 (.slice A2 x.rules.length k2) rfl
      have lb := Below.refl wo.heap.size wo
      have hv1 := Lib.hid (hv0.out.on lo)
      have HU := Lib.hid (hu.on lo)
      have hbo : b < wo.heap.size := Nat.lt_of_lt_of_le hb lo.size
      have HWO := Lib.hid hwo; clear hwo hu
      cases h1 : isName x.name
      · have H1 := Lib.hid h1; clear h1
        have C1 := Lib.hid (fun w => nameI_is (w := w) hok H1.out)
        go_wp2
        rw [← HWO.out]
        go_quiet (first | (go_at_call 46; refine quiet_c (C1.out _)))
        go_wp2
        go_ret
        exact ⟨ret_bool (hbad.out (by rw [hG.out, H1.out]; rfl)).symm, below_drewN lo _⟩
      have H1 := Lib.hid h1; clear h1
      have C1 := Lib.hid (fun w => nameI_is (w := w) hok H1.out)
      cases h2 : sEq x.name hereW
      case true =>
        have H2 := Lib.hid h2
        rw [sHere] at h2
        go_wp2
        rw [← HWO.out]
        go_quiet (first | (go_at_call 46; refine quiet_c (C1.out _)))
        go_wp2
        go_ret
        exact ⟨ret_bool (hbad.out (by rw [hG.out, H1.out, H2.out]; rfl)).symm, below_drewN lo _⟩
      have H2 := Lib.hid h2
      rw [sHere] at h2
      obtain ⟨r, HRR⟩ : ∃ r, Hid (offI (net.take k) x.name = r) := ⟨_, rfl⟩
      have HGE := Lib.hid (offI_ge net k x.name HRR.out)
      have C3 : Hid (∀ W, Below wo.heap.size wo W → Calls Tryd.prog 64 #[.slice (some ⟨b, o, none⟩) k cp, .string x.name] W fun e w' => e = .returned (.int .i64 r) ∧ Below W.heap.size W w') := fun W hW => by
        have h := impl_officeOf (.slice (some ⟨b, o, none⟩) k cp) (net.take k) x.name W ((hv1.out.on hW).take hk)
        rw [HRR.out] at h
        exact h
      have ld := later_drew lb
      have hkc : k ≤ cp := by omega
      have hkci : (k : Int) ≤ (cp : Int) := by omega
      by_cases hr0 : 0 ≤ r
      · have HD := Lib.hid (decide_eq_true hr0)
        go_wp2
        rw [← HWO.out]
        go_region_held3 (fun W => Below wo.heap.size wo W) (first | exact ld | exact later_trans ld b3) (first | (go_at_call 46; refine (C1.out _).mono ?_; rintro e w' ⟨rfl, rfl⟩) | (go_at_call 64; refine (C3.out _ ld).mono ?_; rintro e w3 ⟨rfl, b3⟩))
        have l3 := later_trans lo (later_trans ld b3)
        go_wp2
        go_ret
        exact ⟨ret_bool (hbad.out (by rw [hG.out, HGE.out, HD.out]; simp)).symm, l3⟩
      · have HD := Lib.hid (decide_eq_false hr0)
        go_wp2
        rw [← HWO.out]
        go_region_held3 (fun W => Below wo.heap.size wo W) (first | exact ld | exact later_trans ld b3) (first | (go_at_call 46; refine (C1.out _).mono ?_; rintro e w' ⟨rfl, rfl⟩) | (go_at_call 64; refine (C3.out _ ld).mono ?_; rintro e w3 ⟨rfl, b3⟩))
        have l3 := later_trans ld b3
        clear C1 C3 ld b3
        go_wp2_with fail
        refine (impl_RulesValid _ x.rules _ (HU.out.on l3)).mono ?_
        rintro e w4 ⟨rfl, b4⟩
        have l4 := later_trans l3 b4
        clear b4 l3
        cases h4 : rulesOk x.rules
        · have H4 := Lib.hid h4; clear h4
          go_wp2_with fail
          go_ret
          exact ⟨ret_bool (hbad.out (by rw [hG.out, H4.out]; simp)).symm, later_trans lo l4⟩
        have H4 := Lib.hid h4; clear h4
        have hrl := (rulesOk_iff.1 H4.out).1
        have HGD : Hid (∀ b, x.rules.all (goodN net) = b → goodO net k = b) := fun b hb => by rw [hG.out, H1.out, H2.out, HGE.out, HD.out, H4.out, hb]; rfl
        obtain ⟨A2', n2', c2', e2, _, _, hmm2, hr2⟩ := HU.out
        injection e2 with e21 e22 e23
        subst e21 e22 e23
        have HUR := Lib.hid hr2; clear hr2
        go_wp2_with fail
        go_loopw [47] (fun i wi => ∃ m : Nat, m ≤ x.rules.length ∧ i = .int .i64 m ∧ Below wo.heap.size wo wi ∧ Hid ((x.rules.take m).all (goodN net) = true)) (fun i _ => x.rules.length - (intOf i).toNat)
        case atStart => exact ⟨0, Nat.zero_le _, rfl, l4, rfl⟩
        case round =>
          obtain ⟨m, hm', rfl, li, HA⟩ := hrel
          obtain ⟨w5, rfl⟩ : ∃ w5 : World, w5 = wr := ⟨_, rfl⟩
          clear l4
          by_cases hmt : m < x.rules.length
          · obtain ⟨b', o', rfl, hb', ⟨ok1, ok2⟩, d1, d2⟩ := HUR.out.fwdU m hmt
            have hT := Lib.hid (take_all_succ (p := goodN net) x.rules m hmt)
            have hI : Hid (goodN net x.rules[m] = false → x.rules.all (goodN net) = false) := fun h => List.all_eq_false.2 ⟨_, List.getElem_mem hmt, by simp [h]⟩
            generalize x.rules[m] = y at *
            have hmi : (m : Int) < (x.rules.length : Int) := by omega
            cases h5 : sEq y.dst hereW
            case true =>
              have H5 := Lib.hid h5
              rw [sHere] at h5
              go_wp2_with fail
              go_roundw
              case rel => exact ⟨m + 1, by omega, by go_num, later_alloc li _, by show _ = true; rw [hT.out, HA.out]; unfold goodN; rw [H5.out]; rfl⟩
              case measure => simp [intOf]; omega
            have H5 := Lib.hid h5
            rw [sHere] at h5
            obtain ⟨q, HQQ⟩ : ∃ q, Hid (offI net y.dst = q) := ⟨_, rfl⟩
            have lj := later_alloc li (Obj.cells #[.string y.src, .string y.dst] 65)
            go_wp2_with fail
            refine (impl_officeOf _ net y.dst _ (hv1.out.on lj)).mono ?_
            rw [HQQ.out]
            rintro e w6 ⟨rfl, b6⟩
            have l6 := later_trans lj b6
            by_cases hq : q < 0
            · have H6 : Hid (goodN net y = false) := by show _ = _; unfold goodN; rw [H5.out, HQQ.out, decide_eq_false (by omega)]; rfl
              go_wp2_with fail
              go_ret
              exact ⟨ret_bool (hbad.out (HGD.out _ (hI.out H6.out))).symm, later_trans lo l6⟩
            · have H6 : Hid (goodN net y = true) := by show _ = _; unfold goodN; rw [H5.out, HQQ.out, decide_eq_true (by omega)]; rfl
              go_wp2_with fail
              go_roundw
              case rel => exact ⟨m + 1, by omega, by go_num, l6, by show _ = true; rw [hT.out, HA.out, H6.out]; rfl⟩
              case measure => simp [intOf]; omega
          · have HE := Lib.hid (show m = x.rules.length by omega)
            have HA2 : Hid (x.rules.all (goodN net) = true) := by have := HA.out; rw [HE.out, List.take_length] at this; exact this
            go_wp2_with fail
            go_roundw
            case rel =>
              refine ⟨k + 1, by omega, by go_num, later_trans lo li, fun j hj => ?_⟩
              by_cases hjk : j < k
              · exact HG.out j hjk
              · obtain rfl : j = k := by omega
                exact HGD.out _ HA2.out
            case measure => simp [intOf]; omega
    · have HE := Lib.hid (show k = net.length by omega)
      have HN : Hid (netOk net = true) := by show _ = _; rw [netOk_good (by rw [← HE.out]; exact HG.out), HL.out]
      go_wp2_with fail
      go_ret
      exact ⟨ret_bool HN.out.symm, lr⟩

end Go.Proofs.YtffbcfaahegglaaDoor

namespace Go.Proofs.YtffbcfaahegglaaDoor
open Go.RowKit

theorem pre_short {c p : ByteArray} (h : ¬ p.size ≤ c.size) : pre c p = false := by unfold pre; rw [decide_eq_false h]; rfl
theorem pre_long {c p : ByteArray} (h : p.size ≤ c.size) {b : Bool} (hb : sEq (c.extract 0 p.size) p = b) : pre c p = b := by unfold pre; rw [decide_eq_true h, hb]; rfl





end Go.Proofs.YtffbcfaahegglaaDoor
