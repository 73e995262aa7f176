/- FnFaults: the walk of the law. Written by gen_lnet.py. -/
import Derived.Test.YtmangjjaijhcnaaQ52
import Derived.Test.YtmangjjaijhcnaaQ53
import Derived.Test.YtmangjjaijhcnaaQ14
namespace Go.Proofs.Ytmangjjaijhcnaa
open Go.RowKit

set_option maxRecDepth 100000 in
set_option maxHeartbeats 4000000 in
theorem walk_FnFaults (w : World) (v : Value) (bs : List UInt8) (hv : rd w w.heap.size v bs) :
    Calls Try.prog 7 #[v] w fun e w' => e = .returned (.bool true) ∧ Below w.heap.size w w' := by
  have hv0 := hv
  obtain ⟨A, n, c, rfl, hn, hc, hm, _⟩ := hv
  subst hn
  unfold maxLen at hm
  go_enter Try.func7, Try.ntmps7
  by_cases hsz : 1048576 < bs.length
  · go_wp2_with fail
    go_ret
    exact ⟨rfl, Below.refl _ _⟩
  go_wp2_with fail
  refine (draw_DrawFaultyPrefixes _ bs w hv0).mono ?_
  rintro e w1 ⟨vn, net, s, rfl, hdn, hl4, hr40, hss, b1⟩
  have HN := Lib.hid hdn.rd
  have HWB := Lib.hid b1
  have HR40 := Lib.hid hr40
  obtain ⟨An, nn, cn, rfl, hnn, _, _, _⟩ := hdn.rd
  subst hnn
  have l1 := Below.refl w1.heap.size w1
  clear hdn hr40 hv0 b1 hss
  go_wp2_with fail
  refine (impl_FaultyPrefixes _ net s _ HN.out).mono ?_
  rintro e w2 ⟨vl, rfl, o2, b2⟩
  have l2 := b2
  have HO2 := Lib.hid o2
  clear b2 o2 l1
  go_wp2_with fail
  refine (spec_FaultyPrefixes _ net s _ (HN.out.on l2)).mono ?_
  rintro e w3 ⟨vs, rfl, o3, b3⟩
  have l3 := later_trans l2 b3
  replace HO2 := Lib.hid (HO2.out.below b3)
  have HO3 := Lib.hid o3
  clear b3 o3 l2
  go_wp2_with fail
  refine (so_texts _ _ _ _ _ HO2.out.rd HO3.out.rd).mono ?_
  rw [show eqBy sEq (fpS net s) (fpS net s) = true from (eqBy_iff fun x y => sEq_iff).2 rfl]
  rintro e w4 ⟨rfl, b4⟩
  have l4 := later_trans l3 b4
  replace HO2 := Lib.hid (HO2.out.below b4)
  clear b4 l3 HO3
  have HLEN := Lib.hid (fpS_len net s)
  obtain ⟨i0, hi0, hz0, hz1, hz2⟩ := info_parts Try.infoStr
  have HPX := Lib.hid (fp_pfx net s)
  have HPOK : Hid (pathOk net s code0 = (netOk net && decide (0 ≤ offI net s))) := by show _ = _; unfold pathOk; rw [show isCode code0 = true from rfl, Bool.and_true]
  have HNIL : Hid ((netOk net && decide (0 ≤ offI net s)) = false → fpS net s = []) := fun h => by unfold fpS; rw [h]; rfl
  have HPB := Lib.hid (@pathR_broken net s code0)
  have HCODE : Hid (∀ q : Nat, netOk net = true → offI net s = q → ∀ c, isCode c = true → (fpS net s).any (fun x => pre c x) = !decide ((pathR net s c).2 = 0)) := fun q hk hq c hc => by rw [fp_code hk hq hc, pathR_yes hk hq hc]
  obtain ⟨L, hL⟩ : ∃ L, fpS net s = L := ⟨_, rfl⟩
  rw [hL] at HO2 HLEN HPX HNIL HCODE
  clear hL
  obtain ⟨Al, nl, cl, hvl, hnl, hcl, hml, hrl⟩ := HO2.out.rd
  subst hnl hvl
  have HRL := Lib.hid hrl
  unfold maxLen at hml
  have hlen := HLEN.out
  clear hrl HO2
  have HWB4 := Lib.hid (HWB.out.trans (l4.mono HWB.out.size))
  have HN4 := Lib.hid (HN.out.on l4)
  clear l4
  have HCELL : Hid (∀ W, Below w4.heap.size w4 W → ∀ i (hi : i < L.length), ∃ b o, Al = some ⟨b, o, none⟩ ∧ W.cell? ⟨b, o + i, none⟩ = some (.string L[i]) ∧ L[i].size ≤ maxLen) := fun W hW i hi => by
    obtain ⟨b, o, hA, hb, h, c1⟩ := HRL.out.str i hi
    exact ⟨b, o, hA, (hW.cell (p := ⟨b, o + i, none⟩) hb).trans c1, h⟩
  have l4 := Below.refl w4.heap.size w4
  go_wp2_with fail
  refine (impl_RoutePath _ net s code0 _ (HN4.out.on l4) (by decide)).mono ?_
  rintro e w5 ⟨vp, rfl, o5, b5⟩
  have l5 := later_trans l4 b5
  clear o5 b5 l4
  by_cases hbr : (pathR net s code0).2 = 3
  · have hn3 : ((pathR net s code0).2 == 3) = true := by simp [hbr]
    have HL0 : Hid (L.length = 0) := by show _ = _; rw [HNIL.out (by rw [← HPOK.out]; exact HPB.out.1 hbr)]; rfl
    clear hbr
    have hl0 : ((L.length : Int) == 0) = true := by rw [HL0.out]; rfl
    go_wp2_with fail
    go_ret
    exact ⟨rfl, HWB4.out.trans (l5.mono HWB4.out.size)⟩
  have hn3 : ((pathR net s code0).2 == 3) = false := beq_eq_false_iff_ne.2 hbr
  have hok : (netOk net && decide (0 ≤ offI net s)) = true := by
    rw [← HPOK.out]
    cases h : pathOk net s code0
    · exact absurd (HPB.out.2 h) hbr
    · rfl
  rw [Bool.and_eq_true, decide_eq_true_iff] at hok
  obtain ⟨q, hq⟩ := Int.eq_ofNat_of_zero_le hok.2
  have HK := Lib.hid hok.1
  have HC := Lib.hid (HCODE.out q hok.1 hq)
  clear hok hbr hq q HCODE
  have hnl : net.length ≤ 4 := hl4
  have HRN : Hid (∀ k (h : k < net.length), ∀ x ∈ net[k].rules, isPfx x.src = true) := fun k h x hx => by
    obtain ⟨m, hm', rfl⟩ := List.getElem_of_mem hx
    exact ((rulesOk_iff.1 ((netOk_iff.1 HK.out).2 k h).2.2.2.1).2 m hm').1
  obtain ⟨An', nn', cn', e1, hnn', hcn', hmn', hrn⟩ := HN4.out
  injection e1 with e1 e2 e3
  subst e1 e3
  rw [hnn'] at hcn'
  clear e2 hnn'
  have HRW := Lib.hid hrn; clear hrn
  have o6 : own (α := ByteArray) 9 w5.heap.size (w5.alloc (Obj.cells #[] 9)) (.slice (some ⟨w5.heap.size, 0, none⟩) 0 0) [] := own.made0 w5 _ (Nat.le_refl _)
  have HO6 := Lib.hid o6; clear o6
  have l6 : Below w4.heap.size w4 (w5.alloc (Obj.cells #[] 9)) := l5.alloc l5.size _
  have hs5 := l5.size
  generalize hw5s : w5.heap.size = B5 at *
  go_wp2_with fail
  go_loopw [8, 9] (fun t i wr => ∃ (k : Nat) (P : List ByteArray), k ≤ net.length ∧ i = .int .i64 k ∧ Hid (own 9 B5 wr t P) ∧ Hid (∀ x ∈ P, isCode x = true) ∧ P.length ≤ 163 * k ∧ B5 ≤ wr.heap.size ∧ Below w4.heap.size w4 wr) (fun _ i _ => net.length - (intOf i).toNat)
  case atStart => exact ⟨0, [], Nat.zero_le _, rfl, HO6.out, fun x hx => by simp at hx, by simp, by simp; omega, l6⟩
  case round =>
    obtain ⟨k, P, hk, rfl, HO, HP, hPl, hB, lr⟩ := hrel
    obtain ⟨w7, rfl⟩ : ∃ w7 : World, w7 = wr := ⟨_, rfl⟩
    clear l6 l5
    by_cases hlt : k < net.length
    · obtain ⟨bo, oo, A', c', rfl, hbo, hnm, hrr, c0, c1⟩ := HRW.out.ofcU k hlt
      have c1 := c1 w7 lr
      have HRR := Lib.hid (hrr.on lr)
      have HPK := Lib.hid (HRN.out k hlt)
      have hr40 := HR40.out k hlt
      generalize net[k].rules = rs at *
      clear hrr c0 hnm
      have hki : (k : Int) < (net.length : Int) := by omega
      have hki0 : (0 : Int) ≤ (k : Int) := by omega
      go_wp2_with fail
      refine (so_probes _ rs _ HRR.out (by omega) HPK.out).mono ?_
      rintro e w8 ⟨v8, P8, rfl, o8, hP8, hl8, b8⟩
      have l8 := later_trans lr b8
      have HO8 := Lib.hid (HO.out.below b8)
      have HQ8 := Lib.hid o8
      have hB8 := b8.size
      have HP8 := Lib.hid hP8
      obtain ⟨A7, n7, c7, hv7, hn7, _, _, _⟩ := HO.out.rd
      subst hn7 hv7
      clear o8 b8 hP8
      go_wp2_with (at_builtin; refine wpList_appendAll (α := ByteArray) rfl (.tmp 51) (.tmp 57) _ rfl B5 9 i0 _ 16 Try.underlying23 hi0 hz0 hz1 hz2 rfl (by decide) (.slice A7 P.length c7) P rfl HO8.out v8 P8 rfl _ HQ8.out.rd (by unfold maxLen; omega) (by omega) (by omega) ?_; intro v9 w9 o9 g9 _)
      have l9 : Below w4.heap.size w4 w9 := l8.trans ((below_append HO8.out g9 (by omega)).mono (by omega))
      have HO9 := Lib.hid o9
      have hB9 := g9.size
      clear o9 g9
      go_wp2_with fail
      go_roundw
      case rel =>
        refine ⟨k + 1, _, by omega, by go_num, HO9.out, fun x hx => ?_, by rw [List.length_append]; omega, by omega, l9⟩
        rcases List.mem_append.1 hx with h | h
        · exact HP.out x h
        · exact HP8.out x h
      case measure => simp [intOf]; omega
    · have hPl2 : P.length ≤ 652 := by omega
      go_wp2_with fail
      clear hPl hlt hk
      go_loopw [8, 10] (fun t i wr => ∃ (k : Nat) (P : List ByteArray), k ≤ L.length ∧ i = .int .i64 k ∧ Hid (own 9 B5 wr t P) ∧ Hid (∀ x ∈ P, isCode x = true) ∧ P.length ≤ 652 + 7 * k ∧ B5 ≤ wr.heap.size ∧ Below w4.heap.size w4 wr) (fun _ i _ => L.length - (intOf i).toNat)
      case atStart => exact ⟨0, P, Nat.zero_le _, rfl, HO.out, HP.out, by omega, hB, lr⟩
      case round =>
        obtain ⟨k, P2, hk, rfl, HO2, HP2, hPl3, hB2, lr2⟩ := hrel
        obtain ⟨w8, rfl⟩ : ∃ w8 : World, w8 = wr := ⟨_, rfl⟩
        clear lr hB HO HP hPl2 P
        by_cases hlt : k < L.length
        · obtain ⟨b, o, rfl, c1, z1⟩ := HCELL.out w8 lr2 k hlt
          have HPK : Hid (isPfx L[k] = true) := HPX.out _ (List.getElem_mem hlt)
          generalize L[k] = x at *
          have hki : (k : Int) < (L.length : Int) := by omega
          have hki0 : (0 : Int) ≤ (k : Int) := by omega
          have HR1 : Hid (own 67 w8.heap.size (w8.alloc (Obj.cells #[.string x, .string ⟨#[97]⟩] 67)) (.slice (some ⟨w8.heap.size, 0, none⟩) 1 1) [(⟨x, ⟨#[97]⟩⟩ : Fwd)]) := own.made1 w8 67 [.string x, .string ⟨#[97]⟩] (⟨x, ⟨#[97]⟩⟩ : Fwd) ⟨⟨z1, by show 1 ≤ maxLen; decide⟩, rfl⟩ (Nat.le_refl _)
          have lA : Below w4.heap.size w4 (w8.alloc (Obj.cells #[.string x, .string ⟨#[97]⟩] 67)) := lr2.alloc lr2.size _
          have HOA := Lib.hid (HO2.out.alloc (Obj.cells #[.string x, .string ⟨#[97]⟩] 67))
          go_wp2_with fail
          refine (so_probes _ _ _ HR1.out.rd (by show 1 ≤ 1000; omega) (by intro r hr; rw [List.mem_singleton.1 hr]; exact HPK.out)).mono ?_
          rintro e w9 ⟨v9, P9, rfl, o9, hP9, hl9, b9⟩
          have hl9' : P9.length = 7 := hl9
          have l9 := later_trans lA b9
          have HO9 := Lib.hid (HOA.out.below b9)
          have HQ9 := Lib.hid o9
          have hB9 := b9.size
          have hBA : (w8.alloc (Obj.cells #[.string x, .string ⟨#[97]⟩] 67)).heap.size = w8.heap.size + 1 := by simp
          have HP9 := Lib.hid hP9
          obtain ⟨A7, n7, c7, hv7, hn7, _, _, _⟩ := HO2.out.rd
          subst hn7 hv7
          clear o9 b9 hP9 hl9 lA HOA
          go_wp2_with (at_builtin; refine wpList_appendAll (α := ByteArray) rfl (.tmp 65) (.tmp 72) _ rfl B5 9 i0 _ 16 Try.underlying23 hi0 hz0 hz1 hz2 rfl (by decide) (.slice A7 P2.length c7) P2 rfl HO9.out v9 P9 rfl _ HQ9.out.rd (by unfold maxLen; omega) (by omega) (by omega) ?_; intro v10 w10 o10 g10 _)
          have l10 : Below w4.heap.size w4 w10 := l9.trans ((below_append HO9.out g10 (by omega)).mono (by omega))
          have HO10 := Lib.hid o10
          have hB10 := g10.size
          clear o10 g10
          go_wp2_with fail
          go_roundw
          case rel =>
            refine ⟨k + 1, _, by omega, by go_num, HO10.out, fun x hx => ?_, by rw [List.length_append]; omega, by omega, l10⟩
            rcases List.mem_append.1 hx with h | h
            · exact HP2.out x h
            · exact HP9.out x h
          case measure => simp [intOf]; omega
        · have hPl4 : P2.length ≤ 700000652 := by omega
          obtain ⟨Ap, np, cp, hvp, hnp, _, hmp, hrp⟩ := HO2.out.rd
          subst hnp hvp
          have HRP := Lib.hid hrp
          unfold maxLen at hmp
          have HWB8 := Lib.hid (HWB4.out.trans (lr2.mono HWB4.out.size))
          have HN8 : Hid (rd w8 w8.heap.size (.slice An net.length cn) net) := (show rd w4 w4.heap.size (.slice An net.length cn) net from ⟨_, _, _, rfl, rfl, hcn', hmn', HRW.out⟩).on lr2
          have HCL8 : Hid (∀ W, Below w8.heap.size w8 W → ∀ i (hi : i < L.length), ∃ b o, Al = some ⟨b, o, none⟩ ∧ W.cell? ⟨b, o + i, none⟩ = some (.string L[i]) ∧ L[i].size ≤ maxLen) := fun W hW => HCELL.out W (later_trans lr2 hW)
          clear hrp lr2 HO2 hB2 HCELL
          have l8 := Below.refl w8.heap.size w8
          go_wp2_with fail
          clear hPl3 hlt hk
          go_loopw [11] (fun i wr => ∃ k : Nat, k ≤ P2.length ∧ i = .int .i64 k ∧ Below w8.heap.size w8 wr) (fun i _ => P2.length - (intOf i).toNat)
          case atStart => exact ⟨0, Nat.zero_le _, rfl, l8⟩
          case round =>
            obtain ⟨k, hk, rfl, lr⟩ := hrel
            obtain ⟨w9, rfl⟩ : ∃ w9 : World, w9 = wr := ⟨_, rfl⟩
            clear l8
            by_cases hlt : k < P2.length
            · obtain ⟨b, o, rfl, hb, z1, y1⟩ := HRP.out.str k hlt
              have HCP : Hid (∀ W, Below w8.heap.size w8 W → W.cell? ⟨b, o + k, none⟩ = some (.string P2[k])) := fun W hW => (hW.cell (p := ⟨b, o + k, none⟩) hb).trans y1
              have HCX : Hid (isCode P2[k] = true) := HP2.out _ (List.getElem_mem hlt)
              generalize P2[k] = x at *
              clear y1
              have hki : (k : Int) < (P2.length : Int) := by omega
              have hki0 : (0 : Int) ≤ (k : Int) := by omega
              go_wp2_with fail
              go_loopw [12, 13] (fun t i wr => ∃ (j : Nat) (fb : Bool), j ≤ L.length ∧ i = .int .i64 j ∧ t = .bool fb ∧ Hid (fb = (L.take j).any (fun y => pre x y)) ∧ Below w8.heap.size w8 wr) (fun _ i _ => L.length - (intOf i).toNat)
              case atStart => exact ⟨0, false, Nat.zero_le _, rfl, rfl, by show _ = _; simp, lr⟩
              case round =>
                obtain ⟨j, fb, hj, rfl, rfl, HF, lj⟩ := hrel
                obtain ⟨w10, rfl⟩ : ∃ w10 : World, w10 = wr := ⟨_, rfl⟩
                by_cases hjl : j < L.length
                · have hji : (j : Int) < (L.length : Int) := by omega
                  have hji0 : (0 : Int) ≤ (j : Int) := by omega
                  have HAS := Lib.hid (take_any_succ (p := fun y => pre x y) L j hjl)
                  cases fb
                  · have cx := HCP.out w10 lj
                    obtain ⟨bl_, ol, rfl, cy, zy⟩ := HCL8.out w10 lj j hjl
                    have HCC := Lib.hid (fun W => so_begins x L[j] W z1 zy)
                    have HAS' : Hid ((L.take (j + 1)).any (fun y => pre x y) = pre x L[j]) := by show _ = _; rw [HAS.out, ← HF.out]; rfl
                    clear HAS
                    generalize L[j] = y at *
                    generalize pre x y = pb at *
                    go_wp2_with fail
                    go_quiet (first | (go_at_call 30; refine quiet_c (HCC.out _)))
                    have lq := below_drewN lj nq
                    go_wp2_with fail
                    go_roundw
                    case rel => exact ⟨j + 1, pb, by omega, by go_num, rfl, HAS'.out.symm, lq⟩
                    case measure => simp [intOf]; omega
                  · have HAS' : Hid (true = (L.take (j + 1)).any (fun y => pre x y)) := by show _ = _; rw [HAS.out, ← HF.out]; rfl
                    clear HAS
                    go_wp2_with fail
                    go_quiet (fail)
                    have lq := below_drewN lj nq
                    go_wp2_with fail
                    go_roundw
                    case rel => exact ⟨j + 1, true, by omega, by go_num, rfl, HAS'.out, lq⟩
                    case measure => simp [intOf]; omega
                · have HFF : Hid (fb = !decide ((pathR net s x).2 = 0)) := by show _ = _; rw [← HC.out x HCX.out, HF.out, List.take_of_length_le (by omega)]
                  have cx := HCP.out w10 lj
                  go_wp2_with fail
                  clear hjl hj HF
                  refine (impl_HomeOf _ net s x _ (HN8.out.on lj) z1).mono ?_
                  rintro e w11 ⟨hh, hb', rfl, hbi, b11⟩
                  have l11 := later_trans lj b11
                  have hfe : (fb == hb') = false := by
                    rw [HFF.out]
                    cases hb'
                    · have : ¬ (pathR net s x).2 = 0 := fun h => by cases hbi.2 h
                      rw [decide_eq_false this]; rfl
                    · rw [decide_eq_true (hbi.1 rfl)]; rfl
                  clear b11 hbi cx
                  go_wp2_with fail
                  go_roundw
                  case rel => exact ⟨k + 1, by omega, by go_num, l11⟩
                  case measure => simp [intOf]; omega
            · go_wp2_with fail
              go_ret
              exact ⟨rfl, HWB8.out.trans (lr.mono HWB8.out.size)⟩

end Go.Proofs.Ytmangjjaijhcnaa
