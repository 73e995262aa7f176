/- FnFaultsShort: the walk of the law. Written by gen_lnet.py. -/
import Derived.Test.YtmangjjaijhcnaaQ52
import Derived.Test.YtmangjjaijhcnaaQ53
import Derived.Test.YtmangjjaijhcnaaQ14
namespace Go.Proofs.Ytmangjjaijhcnaa
open Go.RowKit

set_option maxRecDepth 100000 in
set_option maxHeartbeats 2000000 in
theorem walk_FnFaultsShort (w : World) (v : Value) (bs : List UInt8) (hv : rd w w.heap.size v bs) :
    Calls Try.prog 6 #[v] w fun e w' => e = .returned (.bool true) ∧ Below w.heap.size w w' := by
  have hv0 := hv
  obtain ⟨A, n, c, rfl, hn, hc, hm, _⟩ := hv
  subst hn
  unfold maxLen at hm
  go_enter Try.func6, Try.ntmps6
  by_cases hsz : 1048576 < bs.length
  · go_wp2_with fail
    go_ret
    exact ⟨rfl, Below.refl _ _⟩
  go_wp2_with fail
  refine (draw_DrawFaultyPrefixes _ bs w hv0).mono ?_
  rintro e w1 ⟨vn, net, s, rfl, hdn, hl4, hr40, hss, b1⟩
  have HN := Lib.hid hdn.rd
  have HWB := Lib.hid b1
  have HR40 := Lib.hid hr40
  obtain ⟨An, nn, cn, rfl, hnn, _, _, _⟩ := hdn.rd
  subst hnn
  have l1 := Below.refl w1.heap.size w1
  clear hdn hr40 hv0 b1 hss
  go_wp2_with fail
  refine (impl_FaultyPrefixes _ net s _ HN.out).mono ?_
  rintro e w2 ⟨vl, rfl, o2, b2⟩
  have l2 := b2
  have HO2 := Lib.hid o2
  clear b2 o2 l1
  go_wp2_with fail
  refine (spec_FaultyPrefixes _ net s _ (HN.out.on l2)).mono ?_
  rintro e w3 ⟨vs, rfl, o3, b3⟩
  have l3 := later_trans l2 b3
  replace HO2 := Lib.hid (HO2.out.below b3)
  have HO3 := Lib.hid o3
  clear b3 o3 l2
  go_wp2_with fail
  refine (so_texts _ _ _ _ _ HO2.out.rd HO3.out.rd).mono ?_
  rw [show eqBy sEq (fpS net s) (fpS net s) = true from (eqBy_iff fun x y => sEq_iff).2 rfl]
  rintro e w4 ⟨rfl, b4⟩
  have l4 := later_trans l3 b4
  replace HO2 := Lib.hid (HO2.out.below b4)
  clear b4 l3 HO3
  have HLEN := Lib.hid (fpS_len net s)
  obtain ⟨L, hL⟩ : ∃ L, fpS net s = L := ⟨_, rfl⟩
  have HAP : Hid (∀ (i k : Nat) (hi : i < L.length) (hk : k < L.length), i ≠ k → pre L[i] L[k] = false) := by subst hL; exact fp_apart net s
  have HLS : Hid (∀ (i : Nat) (hi : i + 1 < L.length), (Op.bytesLess L[i + 1].toList L[i].toList || L[i + 1].toList == L[i].toList) = false) := by subst hL; exact fp_less net s
  have HSB : Hid (∀ q, L.countP (sibB q) ≠ 10) := by subst hL; exact fp_sibs net s
  rw [hL] at HO2 HLEN
  clear hL
  obtain ⟨Al, nl, cl, hvl, hnl, hcl, hml, hrl⟩ := HO2.out.rd
  subst hnl hvl
  have HRL := Lib.hid hrl
  have HMU := Lib.hid hml
  unfold maxLen at hml
  have hlen := HLEN.out
  clear hrl HO2
  have HWB4 := Lib.hid (HWB.out.trans (l4.mono HWB.out.size))
  clear l4
  have HC1 : Hid (∀ i k (hi : i < L.length) (hk : k < L.length), i ≠ k → ∀ W, Calls Try.prog 30 #[.string L[i], .string L[k]] W fun e w' => e = .returned (.bool false) ∧ W = w') := fun i k hi hk h W => by
    rw [← HAP.out i k hi hk h]
    refine so_begins _ _ W ?_ ?_
    · obtain ⟨_, _, _, _, h, _⟩ := HRL.out.str i hi; exact h
    · obtain ⟨_, _, _, _, h, _⟩ := HRL.out.str k hk; exact h
  have HCELL : Hid (∀ W, Below w4.heap.size w4 W → ∀ i (hi : i < L.length), ∃ b o, Al = some ⟨b, o, none⟩ ∧ W.cell? ⟨b, o + i, none⟩ = some (.string L[i]) ∧ L[i].size ≤ maxLen) := fun W hW i hi => by
    obtain ⟨b, o, hA, hb, h, c1⟩ := HRL.out.str i hi
    exact ⟨b, o, hA, (hW.cell (p := ⟨b, o + i, none⟩) hb).trans c1, h⟩
  have l4 := Below.refl w4.heap.size w4
  go_wp2_with fail
  go_loopw [6] (fun i wr => ∃ k : Nat, k ≤ L.length ∧ i = .int .i64 k ∧ Below w4.heap.size w4 wr) (fun i _ => L.length - (intOf i).toNat)
  case atStart => exact ⟨0, Nat.zero_le _, rfl, l4⟩
  case round =>
    obtain ⟨i, hi, rfl, lr⟩ := hrel
    obtain ⟨w5, rfl⟩ : ∃ w5 : World, w5 = wr := ⟨_, rfl⟩
    clear l4
    by_cases hlt : i < L.length
    · have hii : (i : Int) < (L.length : Int) := by omega
      have hii0 : (0 : Int) ≤ (i : Int) := by omega
      go_wp2_with fail
      go_loopw [7] (fun t wr => ∃ k : Nat, k ≤ L.length ∧ t = .int .i64 k ∧ Below w4.heap.size w4 wr) (fun t _ => L.length - (intOf t).toNat)
      case atStart => exact ⟨0, Nat.zero_le _, rfl, lr⟩
      case round =>
        obtain ⟨k, hk, rfl, lk⟩ := hrel
        obtain ⟨w6, rfl⟩ : ∃ w6 : World, w6 = wr := ⟨_, rfl⟩
        by_cases hkl : k < L.length
        · have hki : (k : Int) < (L.length : Int) := by omega
          have hki0 : (0 : Int) ≤ (k : Int) := by omega
          by_cases hik : i = k
          · have hne : ((i : Int) != (k : Int)) = false := by simp [hik]
            have HIK := Lib.hid hik; clear hik
            go_wp2_with fail
            go_quiet (fail)
            have lq := below_drewN lk nq
            go_wp2_with fail
            go_roundw
            case rel => exact ⟨k + 1, by omega, by go_num, lq⟩
            case measure => simp [intOf]; omega
          · have hne : ((i : Int) != (k : Int)) = true := by simp; omega
            obtain ⟨b, o, rfl, c1, z1⟩ := HCELL.out w6 lk i hlt
            obtain ⟨b', o', hA, c2, z2⟩ := HCELL.out w6 lk k hkl
            injection hA with hA
            injection hA with hA1 hA2
            subst hA1 hA2
            have HCC := Lib.hid (HC1.out i k hlt hkl hik)
            generalize L[i] = x at *
            generalize L[k] = y at *
            clear hik
            go_wp2_with fail
            go_quiet (first | (go_at_call 30; refine quiet_c (HCC.out _)))
            have lq := below_drewN lk nq
            go_wp2_with fail
            go_roundw
            case rel => exact ⟨k + 1, by omega, by go_num, lq⟩
            case measure => simp [intOf]; omega
        · have HKL := Lib.hid hkl; clear hkl
          by_cases hi0 : 0 < i
          · have hi0i : (0 : Int) < (i : Int) := by omega
            obtain ⟨j, rfl⟩ : ∃ j, i = j + 1 := ⟨i - 1, by omega⟩
            have hjl : j < L.length := by omega
            have hji : ((j + 1 : Nat) : Int) - 1 = (j : Int) := by omega
            have hji2 : (j : Int) < (L.length : Int) := by omega
            have hji0 : (0 : Int) ≤ (j : Int) := by omega
            obtain ⟨b, o, rfl, c1, z1⟩ := HCELL.out w6 lk (j + 1) hlt
            obtain ⟨b', o', hA, c2, z2⟩ := HCELL.out w6 lk j hjl
            injection hA with hA
            injection hA with hA1 hA2
            subst hA1 hA2
            have hls := HLS.out j hlt
            generalize L[j + 1] = x at *
            generalize L[j] = y at *
            go_wp2_with fail
            go_quiet (fail)
            have l7 := below_drewN lk nq
            obtain ⟨w7, hw7⟩ : ∃ u, u = w6.drewN nq := ⟨_, rfl⟩
            rw [← hw7] at l7 ⊢
            clear hw7 c1 c2 z1 z2 hls
            go_wp2_with fail
            obtain ⟨b0, o0, hA0, c1, z1⟩ := HCELL.out w7 l7 (j + 1) hlt
            obtain ⟨x, hx⟩ : ∃ x, x = L[j + 1] := ⟨_, rfl⟩
            have HX := Lib.hid hx
            rw [← hx] at c1 z1
            clear hx
            injection hA0 with hA0
            injection hA0 with e1 e2
            subst e1 e2
            obtain ⟨xm, hxm⟩ : ∃ xm : Nat, xm = x.size - 1 := ⟨_, rfl⟩
            have hz0 : 0 ≤ L.length := Nat.zero_le _
            have HXM := Lib.hid hxm; clear hxm
            go_loopw [8, 9] (fun t u wr => ∃ k m : Nat, k ≤ L.length ∧ u = .int .i64 k ∧ t = .int .i64 m ∧ m ≤ k ∧ Hid (x.size ≠ 0 → m = (L.take k).countP (sibB (x.extract 0 xm))) ∧ Hid (x.size = 0 → m = 0) ∧ Below w4.heap.size w4 wr) (fun _ u _ => L.length - (intOf u).toNat)
            case atStart => exact ⟨0, 0, Nat.zero_le _, rfl, rfl, Nat.le_refl _, fun _ => by simp, fun _ => rfl, l7⟩
            case round =>
              obtain ⟨k, m, hk, rfl, rfl, hmk, HM, HM0, lk⟩ := hrel
              obtain ⟨w8, rfl⟩ : ∃ w8 : World, w8 = wr := ⟨_, rfl⟩
              clear c1
              by_cases hkl : k < L.length
              · have hki : (k : Int) < (L.length : Int) := by omega
                have hki0 : (0 : Int) ≤ (k : Int) := by omega
                obtain ⟨b1, o1, hA1, c1, _⟩ := HCELL.out w8 lk (j + 1) hlt
                injection hA1 with hA1
                injection hA1 with e1 e2
                subst e1 e2
                rw [← HX.out] at c1
                obtain ⟨b2, o2, hA2, c2, z2⟩ := HCELL.out w8 lk k hkl
                injection hA2 with hA2
                injection hA2 with e1 e2
                subst e1 e2
                obtain ⟨y, hy⟩ : ∃ y, y = L[k] := ⟨_, rfl⟩
                rw [← hy] at c2 z2
                have HCT : Hid ((L.take (k + 1)).countP (sibB (x.extract 0 xm)) = (L.take k).countP (sibB (x.extract 0 xm)) + if sibB (x.extract 0 xm) y = true then 1 else 0) := by show _ = _; rw [hy]; exact countP_take_succ _ _ hkl
                clear hy
                by_cases hx0 : x.size = 0
                · have hxe : x.toList.isEmpty = true := by
                    rw [ByteArray.toList_eq, List.isEmpty_iff_length_eq_zero]
                    simpa using hx0
                  have HX0 := Lib.hid hx0; clear hx0
                  go_wp2_with fail
                  go_quiet (fail)
                  have lq := below_drewN lk nq
                  go_wp2_with fail
                  go_roundw
                  case rel => exact ⟨k + 1, m, by omega, by go_num, rfl, by omega, fun h => absurd HX0.out h, HM0.out, lq⟩
                  case measure => simp [intOf]; omega
                · have hxe : x.toList.isEmpty = false := by
                    rw [ByteArray.toList_eq, Bool.eq_false_iff, Ne, List.isEmpty_iff_length_eq_zero]
                    simpa using hx0
                  have HX0 := Lib.hid hx0
                  have hxs : (x.extract 0 xm).size = xm := by have := HXM.out; rw [ByteArray.size_extract]; omega
                  by_cases hyz : y.size = x.size
                  · have hyx : ((y.size : Int) == (x.size : Int)) = true := by simp [hyz]
                    have HS := Lib.hid (sib_pre (q := x.extract 0 xm) (y := y) (by rw [hxs]; have := HXM.out; omega))
                    have HYZ := Lib.hid hyz; clear hyz
                    have hxz : (x.extract 0 xm).size ≤ maxLen := by rw [hxs]; have := HXM.out; omega
                    have HCC := Lib.hid (fun W => so_begins y (x.extract 0 xm) W z2 hxz)
                    have hxm1 : (x.size : Int) - 1 = (xm : Int) := by have := HXM.out; omega
                    have hxm2 : (xm : Int) ≤ (x.size : Int) := by have := HXM.out; omega
                    have hxm0 : (0 : Int) ≤ (xm : Int) := by omega
                    have z1i : (x.size : Int) ≤ 9223372036854775807 := by have := z1; unfold maxLen at this; omega
                    clear hxs hxz hx0
                    cases hp : pre y (x.extract 0 xm)
                    · rw [hp] at HS HCC
                      have HM1 : Hid (m = (L.take (k + 1)).countP (sibB (x.extract 0 xm))) := by show _ = _; rw [HCT.out, HS.out, HM.out HX0.out]; simp
                      clear hp
                      go_wp2_with fail
                      go_quiet (first | (go_at_call 30; refine quiet_c (HCC.out _)))
                      have lq := below_drewN lk nq
                      go_wp2_with fail
                      go_roundw
                      case rel => exact ⟨k + 1, m, by omega, by go_num, rfl, by omega, fun _ => HM1.out, fun h => absurd h HX0.out, lq⟩
                      case measure => simp [intOf]; omega
                    · rw [hp] at HS HCC
                      have HM1 : Hid (m + 1 = (L.take (k + 1)).countP (sibB (x.extract 0 xm))) := by show _ = _; rw [HCT.out, HS.out, HM.out HX0.out]; simp
                      clear hp
                      go_wp2_with fail
                      go_quiet (first | (go_at_call 30; refine quiet_c (HCC.out _)))
                      have lq := below_drewN lk nq
                      go_wp2_with fail
                      go_roundw
                      case rel => exact ⟨k + 1, m + 1, by omega, by go_num, by go_num, by omega, fun _ => HM1.out, fun h => absurd h HX0.out, lq⟩
                      case measure => simp [intOf]; omega
                  · have hyx : ((y.size : Int) == (x.size : Int)) = false := by simp; omega
                    have HS := Lib.hid (sib_no (q := x.extract 0 xm) (y := y) (by rw [hxs]; have := HXM.out; omega))
                    have HM1 : Hid (m = (L.take (k + 1)).countP (sibB (x.extract 0 xm))) := by show _ = _; rw [HCT.out, HS.out, HM.out HX0.out]; simp
                    clear hyz hx0
                    go_wp2_with fail
                    go_quiet (fail)
                    have lq := below_drewN lk nq
                    go_wp2_with fail
                    go_roundw
                    case rel => exact ⟨k + 1, m, by omega, by go_num, rfl, by omega, fun _ => HM1.out, fun h => absurd h HX0.out, lq⟩
                    case measure => simp [intOf]; omega
              · have h10 : m ≠ 10 := by
                  by_cases hx0 : x.size = 0
                  · rw [HM0.out hx0]; omega
                  · rw [HM.out hx0, List.take_of_length_le (by omega)]; exact HSB.out _
                have h10b : ((m : Int) == 10) = false := by simp; omega
                have HKL2 := Lib.hid hkl; clear hkl h10
                go_wp2_with fail
                go_roundw
                case rel => exact ⟨j + 1 + 1, by omega, by go_num, lk⟩
                case measure => simp [intOf]; omega
          · have hi0i : ¬ (0 : Int) < (i : Int) := by omega
            go_wp2_with fail
            go_quiet (fail)
            have l7 := below_drewN lk nq
            obtain ⟨w7, hw7⟩ : ∃ u, u = w6.drewN nq := ⟨_, rfl⟩
            rw [← hw7] at l7 ⊢
            clear hw7
            go_wp2_with fail
            obtain ⟨b, o, rfl, c1, z1⟩ := HCELL.out w7 l7 i hlt
            obtain ⟨x, hx⟩ : ∃ x, x = L[i] := ⟨_, rfl⟩
            have HX := Lib.hid hx
            rw [← hx] at c1 z1
            clear hx
            obtain ⟨xm, hxm⟩ : ∃ xm : Nat, xm = x.size - 1 := ⟨_, rfl⟩
            have hz0 : 0 ≤ L.length := Nat.zero_le _
            have HXM := Lib.hid hxm; clear hxm
            go_loopw [8, 9] (fun t u wr => ∃ k m : Nat, k ≤ L.length ∧ u = .int .i64 k ∧ t = .int .i64 m ∧ m ≤ k ∧ Hid (x.size ≠ 0 → m = (L.take k).countP (sibB (x.extract 0 xm))) ∧ Hid (x.size = 0 → m = 0) ∧ Below w4.heap.size w4 wr) (fun _ u _ => L.length - (intOf u).toNat)
            case atStart => exact ⟨0, 0, Nat.zero_le _, rfl, rfl, Nat.le_refl _, fun _ => by simp, fun _ => rfl, l7⟩
            case round =>
              obtain ⟨k, m, hk, rfl, rfl, hmk, HM, HM0, lk⟩ := hrel
              obtain ⟨w8, rfl⟩ : ∃ w8 : World, w8 = wr := ⟨_, rfl⟩
              clear c1
              by_cases hkl : k < L.length
              · have hki : (k : Int) < (L.length : Int) := by omega
                have hki0 : (0 : Int) ≤ (k : Int) := by omega
                obtain ⟨b1, o1, hA1, c1, _⟩ := HCELL.out w8 lk i hlt
                injection hA1 with hA1
                injection hA1 with e1 e2
                subst e1 e2
                rw [← HX.out] at c1
                obtain ⟨b2, o2, hA2, c2, z2⟩ := HCELL.out w8 lk k hkl
                injection hA2 with hA2
                injection hA2 with e1 e2
                subst e1 e2
                obtain ⟨y, hy⟩ : ∃ y, y = L[k] := ⟨_, rfl⟩
                rw [← hy] at c2 z2
                have HCT : Hid ((L.take (k + 1)).countP (sibB (x.extract 0 xm)) = (L.take k).countP (sibB (x.extract 0 xm)) + if sibB (x.extract 0 xm) y = true then 1 else 0) := by show _ = _; rw [hy]; exact countP_take_succ _ _ hkl
                clear hy
                by_cases hx0 : x.size = 0
                · have hxe : x.toList.isEmpty = true := by
                    rw [ByteArray.toList_eq, List.isEmpty_iff_length_eq_zero]
                    simpa using hx0
                  have HX0 := Lib.hid hx0; clear hx0
                  go_wp2_with fail
                  go_quiet (fail)
                  have lq := below_drewN lk nq
                  go_wp2_with fail
                  go_roundw
                  case rel => exact ⟨k + 1, m, by omega, by go_num, rfl, by omega, fun h => absurd HX0.out h, HM0.out, lq⟩
                  case measure => simp [intOf]; omega
                · have hxe : x.toList.isEmpty = false := by
                    rw [ByteArray.toList_eq, Bool.eq_false_iff, Ne, List.isEmpty_iff_length_eq_zero]
                    simpa using hx0
                  have HX0 := Lib.hid hx0
                  have hxs : (x.extract 0 xm).size = xm := by have := HXM.out; rw [ByteArray.size_extract]; omega
                  by_cases hyz : y.size = x.size
                  · have hyx : ((y.size : Int) == (x.size : Int)) = true := by simp [hyz]
                    have HS := Lib.hid (sib_pre (q := x.extract 0 xm) (y := y) (by rw [hxs]; have := HXM.out; omega))
                    have HYZ := Lib.hid hyz; clear hyz
                    have hxz : (x.extract 0 xm).size ≤ maxLen := by rw [hxs]; have := HXM.out; omega
                    have HCC := Lib.hid (fun W => so_begins y (x.extract 0 xm) W z2 hxz)
                    have hxm1 : (x.size : Int) - 1 = (xm : Int) := by have := HXM.out; omega
                    have hxm2 : (xm : Int) ≤ (x.size : Int) := by have := HXM.out; omega
                    have hxm0 : (0 : Int) ≤ (xm : Int) := by omega
                    have z1i : (x.size : Int) ≤ 9223372036854775807 := by have := z1; unfold maxLen at this; omega
                    clear hxs hxz hx0
                    cases hp : pre y (x.extract 0 xm)
                    · rw [hp] at HS HCC
                      have HM1 : Hid (m = (L.take (k + 1)).countP (sibB (x.extract 0 xm))) := by show _ = _; rw [HCT.out, HS.out, HM.out HX0.out]; simp
                      clear hp
                      go_wp2_with fail
                      go_quiet (first | (go_at_call 30; refine quiet_c (HCC.out _)))
                      have lq := below_drewN lk nq
                      go_wp2_with fail
                      go_roundw
                      case rel => exact ⟨k + 1, m, by omega, by go_num, rfl, by omega, fun _ => HM1.out, fun h => absurd h HX0.out, lq⟩
                      case measure => simp [intOf]; omega
                    · rw [hp] at HS HCC
                      have HM1 : Hid (m + 1 = (L.take (k + 1)).countP (sibB (x.extract 0 xm))) := by show _ = _; rw [HCT.out, HS.out, HM.out HX0.out]; simp
                      clear hp
                      go_wp2_with fail
                      go_quiet (first | (go_at_call 30; refine quiet_c (HCC.out _)))
                      have lq := below_drewN lk nq
                      go_wp2_with fail
                      go_roundw
                      case rel => exact ⟨k + 1, m + 1, by omega, by go_num, by go_num, by omega, fun _ => HM1.out, fun h => absurd h HX0.out, lq⟩
                      case measure => simp [intOf]; omega
                  · have hyx : ((y.size : Int) == (x.size : Int)) = false := by simp; omega
                    have HS := Lib.hid (sib_no (q := x.extract 0 xm) (y := y) (by rw [hxs]; have := HXM.out; omega))
                    have HM1 : Hid (m = (L.take (k + 1)).countP (sibB (x.extract 0 xm))) := by show _ = _; rw [HCT.out, HS.out, HM.out HX0.out]; simp
                    clear hyz hx0
                    go_wp2_with fail
                    go_quiet (fail)
                    have lq := below_drewN lk nq
                    go_wp2_with fail
                    go_roundw
                    case rel => exact ⟨k + 1, m, by omega, by go_num, rfl, by omega, fun _ => HM1.out, fun h => absurd h HX0.out, lq⟩
                    case measure => simp [intOf]; omega
              · have h10 : m ≠ 10 := by
                  by_cases hx0 : x.size = 0
                  · rw [HM0.out hx0]; omega
                  · rw [HM.out hx0, List.take_of_length_le (by omega)]; exact HSB.out _
                have h10b : ((m : Int) == 10) = false := by simp; omega
                have HKL2 := Lib.hid hkl; clear hkl h10
                go_wp2_with fail
                go_roundw
                case rel => exact ⟨i + 1, by omega, by go_num, lk⟩
                case measure => simp [intOf]; omega
    · go_wp2_with fail
      go_ret
      exact ⟨rfl, HWB4.out.trans (lr.mono HWB4.out.size)⟩

end Go.Proofs.Ytmangjjaijhcnaa
