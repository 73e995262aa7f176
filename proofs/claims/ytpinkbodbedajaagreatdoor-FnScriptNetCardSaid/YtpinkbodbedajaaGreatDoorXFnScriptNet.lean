/- FnScriptNet: the walk of the law. Written by gen_zx.py. -/
import Derived.Test.YtpinkbodbedajaaGreatDoorQ30
import Derived.Test.YtpinkbodbedajaaGreatDoorQ31
import Derived.Test.YtpinkbodbedajaaGreatDoorQ24
import Derived.Deep.RegionHeld3
namespace Go.Proofs.YtpinkbodbedajaaGreatDoor
open Go.RowKit

set_option maxRecDepth 100000 in
set_option maxHeartbeats 6400000 in
theorem walk_FnScriptNet (w : World) (v : Value) (bs : List UInt8) (hv : rd w w.heap.size v bs) :
    Calls Tryz.prog 5 #[v] w fun e w' => e = .returned (.bool true) ∧ Below w.heap.size w w' := by
  have hv0 := hv
  obtain ⟨A, n0, c0, rfl, hn0, hc0, hm0, _⟩ := hv
  subst hn0
  unfold maxLen at hm0
  obtain ⟨i0, hi, hz0, hz1, hz2⟩ := info_parts Tryz.infoStr
  go_enter Tryz.func5, Tryz.ntmps5
  by_cases hsz : 1048576 < bs.length
  · go_wp2_with fail
    go_ret
    exact ⟨rfl, Below.refl _ _⟩
  go_wp2_with fail
  refine (draw_DrawRoutePath _ bs w hv0).mono ?_
  rintro e w1 ⟨vn, net, s, c, rfl, hdn, _, _, hss, hcs, b1⟩
  have HN := Lib.hid hdn.rd
  have HWB := Lib.hid b1
  obtain ⟨An, nn, cn, rfl, hnn, _, _, _⟩ := hdn.rd
  subst hnn
  have HCS := Lib.hid hcs
  clear hdn hv0 b1 hss hcs hsz
  obtain ⟨n, hnn⟩ : ∃ n, (pathR net s c).2 = n := ⟨_, rfl⟩
  obtain ⟨ps, hps⟩ : ∃ ps, namesOf net s c = ps := ⟨_, rfl⟩
  have HI := Lib.hid (impl_RoutePath _ net s c _ HN.out HCS.out)
  have HSP := Lib.hid (fun W h => spec_RoutePath _ net s c W (HN.out.on h) HCS.out)
  rw [show (pathR net s c).1.map (nameAt net) = ps from hps, hnn] at HI HSP
  have HNN := Lib.hid hnn; have HPS := Lib.hid hps
  clear hnn hps
  go_wp2_with fail
  refine HI.out.mono ?_
  rintro e w2 ⟨v2, rfl, o2, b2⟩
  have HO2 := Lib.hid o2
  obtain ⟨A2, n2, c2, rfl, -, -, -, -⟩ := o2.rd
  have HL2 := Lib.hid b2
  clear o2 b2 HI
  go_wp2_with fail
  refine (HSP.out _ HL2.out).mono ?_
  rintro e w3 ⟨v3, rfl, o3, b3⟩
  have HO3 := Lib.hid o3
  obtain ⟨A3, n3, c3, rfl, -, -, -, -⟩ := o3.rd
  replace HO2 := Lib.hid (HO2.out.below b3)
  have HL3 := Lib.hid (later_trans HL2.out b3)
  clear o3 b3 HSP HL2
  have HEQ : Hid (eqBy sEq ps ps = true) := (eqBy_iff fun x y => sEq_iff).2 rfl
  have ne1 : (n != n) = false := by simp
  have ne2 : (n == n) = true := by simp
  go_wp2_with fail
  refine (so_texts _ _ ps ps _ HO2.out.rd HO3.out.rd).mono ?_
  rw [HEQ.out]
  rintro e w4 ⟨rfl, b4⟩
  replace HO2 := Lib.hid (HO2.out.below b4)
  replace HO3 := Lib.hid (HO3.out.below b4)
  have HL4 := Lib.hid (later_trans HL3.out b4)
  clear b4 HL3
  cases hk : pathOk net s c
  · have hn3 : n = 3 := by rw [← HNN.out]; exact pathR_broken.2 hk
    clear hk
    subst hn3
    go_wp2_with fail
    refine (so_texts _ _ ps ps _ HO2.out.rd HO3.out.rd).mono ?_
    rw [HEQ.out]
    rintro e w5 ⟨rfl, b5⟩
    have HL5 := Lib.hid (later_trans HL4.out b5)
    clear b5
    go_wp2_with fail
    go_ret
    exact ⟨rfl, HWB.out.trans (HL5.out.mono HWB.out.size)⟩
  obtain ⟨p1, p3, q, hq, hql, hqn⟩ := pathOk_parts hk
  obtain ⟨f1, f2, f3⟩ := path_facts hk
  have hnm := ((netOk_iff.1 p1).2 q hql).1
  rw [hqn] at hnm
  have hs8 := (name_size hnm).2
  have hc7 := Nat.le_of_eq (code_mem p3).1
  rw [HPS.out] at f2 f3
  rw [HNN.out] at f1
  have HRUN := Lib.hid (run_net hk)
  have h3n : (n == 3) = false := by rcases f1 with f | f | f <;> subst f <;> rfl
  have HF1 := Lib.hid f1
  have HF3 := Lib.hid f3
  have hls := listT_size (n := 9) f2 fun p hp => (f3 p hp).2
  have HSL1 : Hid (∀ W, Below w1.heap.size w1 W → rd W W.heap.size (.slice A2 n2 c2) ps → Calls Tryz.prog 16 #[.slice A2 n2 c2] W fun e w' => e = .returned (.string (listT ps)) ∧ W = w') := fun W _ h => so_list _ ps W h (by omega) fun p hp => ⟨(HF3.out p hp).1, by have := (HF3.out p hp).2; omega⟩
  clear hk p1 p3 hq hql hqn hnm f1 f3
  obtain ⟨g1, g2, g3⟩ := stars_facts net s
  have HFP := Lib.hid (fun W h => impl_FaultyPrefixes _ net s W (HN.out.on h))
  obtain ⟨F, hF⟩ : ∃ F, fpS net s = F := ⟨_, rfl⟩
  have HST : Hid (starsOf net s = F.map (· ++ (⟨#[42]⟩ : ByteArray))) := by show _ = _; unfold starsOf; rw [hF]
  rw [HST.out] at g1 g3
  rw [hF] at HFP g2
  rw [List.length_map] at g1
  have HG2 := Lib.hid g2; have HG3 := Lib.hid g3
  clear hF g2 g3
  go_wp2_with fail
  refine (HFP.out _ HL4.out).mono ?_
  rintro e w5 ⟨v5, rfl, o5, b5⟩
  obtain ⟨A5, n5, c5, rfl, hn5, hc5, hm5, hr5⟩ := o5.rd
  subst hn5
  unfold maxLen at hm5
  have HRF := Lib.hid hr5
  have HL5 := Lib.hid (later_trans HL4.out b5)
  replace HO2 := Lib.hid (HO2.out.below b5)
  clear o5 b5 hr5 HL4 HO3 HFP
  have HA5 : Hid (own (α := ByteArray) 9 w5.heap.size (w5.alloc (Obj.cells #[] 9)) (.slice (some ⟨w5.heap.size, 0, none⟩) 0 0) ((F.take 0).map (· ++ (⟨#[42]⟩ : ByteArray)))) := own.made0 w5 _ (Nat.le_refl _)
  have HLA : Hid (Below w5.heap.size w5 (w5.alloc (Obj.cells #[] 9))) := later_alloc (Below.refl _ _) _
  go_wp2_with fail
  generalize (w5.alloc (Obj.cells #[] 9)) = wA at *
  have lA := HLA.out
  go_loopw [11, 12] (fun v i wr => ∃ k : Nat, k ≤ F.length ∧ i = .int .i64 k ∧ Below w5.heap.size w5 wr ∧ own 9 w5.heap.size wr v ((F.take k).map (· ++ (⟨#[42]⟩ : ByteArray)))) (fun _ i _ => F.length - (intOf i).toNat)
  case atStart => exact ⟨0, Nat.zero_le _, rfl, lA, HA5.out⟩
  case round =>
    obtain ⟨k, hk, rfl, lr, ho⟩ := hrel
    obtain ⟨w6, rfl⟩ : ∃ w6 : World, w6 = wr := ⟨_, rfl⟩
    clear lA
    have HOW := Lib.hid ho
    obtain ⟨Av, m, cp, rfl, hm, _, _, _⟩ := ho.rd
    have hml : m = k := by rw [hm, List.length_map, List.length_take]; omega
    by_cases hlt : k < F.length
    · obtain ⟨b, o, rfl, hb, hx, y1⟩ := rdA.strU HRF.out k hlt
      have y1 := y1 w6 lr
      have HTK : Hid ((F.take (k + 1)).map (· ++ (⟨#[42]⟩ : ByteArray)) = (F.take k).map (· ++ (⟨#[42]⟩ : ByteArray)) ++ [F[k] ++ ⟨#[42]⟩]) := by show _ = _; rw [List.take_succ_eq_append_getElem hlt, List.map_append]; rfl
      have hxz := HG2.out _ (List.getElem_mem hlt)
      have HLG : Hid (((F.take k).map (· ++ (⟨#[42]⟩ : ByteArray))).length = m) := hm.symm
      generalize F[k] = x at *
      generalize (F.take k).map (· ++ (⟨#[42]⟩ : ByteArray)) = gs at *
      have hki : (k : Int) < (F.length : Int) := by omega
      have hki0 : (0 : Int) ≤ (k : Int) := by omega
      have hz6 := lr.size
      have hgs : gs.length ≤ 100000000 := by have := HLG.out; omega
      have hx42 : ¬ 9223372036854775807 < x.size + 1 := by omega
      have HXS : Hid ((x ++ (⟨#[42]⟩ : ByteArray)).size ≤ maxLen) := by show _ ≤ _; rw [ByteArray.size_append]; unfold maxLen; show _ + 1 ≤ _; omega
      have HML := Lib.hid hml
      clear ho hm hml
      go_wp2_with (at_builtin; refine wpList_append1' (α := ByteArray) rfl (.tmp 69) (.tmp 75) 23 rfl w5.heap.size 9 i0 _ 16 Tryz.underlying23 hi hz0 hz1 hz2 rfl (by decide) (.slice Av m cp) gs (x ++ ⟨#[42]⟩) rfl (HOW.out.alloc _) ⟨w6.heap.size, 0, none⟩ 1 [.string (x ++ ⟨#[42]⟩)] rfl ⟨HXS.out, rfl⟩ (news_at w6 _ [.string (x ++ ⟨#[42]⟩)]) (by unfold maxLen; omega) (by omega) (by simp; omega) ?_; intro g cap w7 ho7 hg7 ha7 hl7)
      have hb7 : Below w5.heap.size w5 w7 := lr.trans ((((Below.refl w6.heap.size w6).alloc (Nat.le_refl _) _).mono hz6).trans (below_append (HOW.out.alloc _) hg7 (by simp; omega)))
      have HO7 := Lib.hid ho7
      clear ho7 hg7
      go_wp2
      go_roundw
      case rel => exact ⟨k + 1, by omega, by go_num, hb7, by rw [HTK.out]; exact HO7.out⟩
      case measure => simp [intOf]; omega
    · have HE := Lib.hid (show k = F.length by omega)
      have HOE : Hid (own 9 w5.heap.size w6 (.slice Av m cp) (F.map (· ++ (⟨#[42]⟩ : ByteArray)))) := by
        show own _ _ _ _ _
        have := HOW.out
        rwa [HE.out, List.take_length] at this
      have hz6 := lr.size
      have HL6 := Lib.hid (later_trans HL5.out lr)
      have HO2' := Lib.hid (HO2.out.below lr)
      clear ho hm hml
      have HFN := Lib.hid (fun W h => impl_FormatNetwork _ net W (HN.out.on h))
      have hT2 := fmtN_size net
      have HTI := Lib.hid (netText_is net s c)
      have HNO : Hid (netOut net s c = (((⟨#[]⟩ ++ (okW ++ ⟨#[10]⟩)) ++ (fmtN net ++ ⟨#[10]⟩)) ++ ((listT ps ++ tailW n) ++ ⟨#[10]⟩)) ++ (listT (F.map (· ++ (⟨#[42]⟩ : ByteArray))) ++ ⟨#[10]⟩)) := by
        show _ = _
        unfold netOut
        rw [HPS.out, HNN.out, HST.out]
      have hms := listT_size (n := 100000000) (by rw [List.length_map]; exact g1) fun p hp => (HG3.out p hp).2
      have HSL2 : Hid (∀ W, Below w1.heap.size w1 W → rd W W.heap.size (.slice Av m cp) (F.map (· ++ (⟨#[42]⟩ : ByteArray))) → Calls Tryz.prog 16 #[.slice Av m cp] W fun e w' => e = .returned (.string (listT (F.map (· ++ (⟨#[42]⟩ : ByteArray))))) ∧ W = w') := fun W _ h => so_list _ _ W h (by rw [List.length_map]; omega) fun p hp => ⟨(HG3.out p hp).1, by have := (HG3.out p hp).2; omega⟩
      rw [HTI.out, HNO.out] at HRUN
      generalize fmtN net = T at *
      generalize listT ps = L at *
      generalize listT (F.map (· ++ (⟨#[42]⟩ : ByteArray))) = M at *
      have a1 : ¬ 9223372036854775807 < 4 + T.size := by omega
      have a2 : ¬ 9223372036854775807 < 4 + T.size + 10 := by omega
      have a3 : ¬ 9223372036854775807 < 4 + T.size + 10 + s.size := by omega
      have a4 : ¬ 9223372036854775807 < 4 + T.size + 10 + s.size + 1 := by omega
      have a5 : ¬ 9223372036854775807 < 4 + T.size + 10 + s.size + 1 + c.size := by omega
      have a6 : ¬ 9223372036854775807 < 4 + T.size + 10 + s.size + 1 + c.size + 8 := by omega
      have a7 : ¬ 9223372036854775807 < 4 + T.size + 10 + s.size + 1 + c.size + 8 + s.size := by omega
      have a8 : ¬ 9223372036854775807 < 4 + T.size + 10 + s.size + 1 + c.size + 8 + s.size + 1 := by omega
      go_wp2_with fail
      refine (HFN.out _ HL6.out).mono ?_
      rintro e w8 ⟨rfl, b8⟩
      have HL8 := Lib.hid (later_trans HL6.out b8)
      have HO8 := Lib.hid (HO2'.out.below b8)
      have HS8 := Lib.hid (HOE.out.below b8)
      clear b8 lr
      have b1 : ¬ 9223372036854775807 < 3 + T.size := by omega
      have b2 : ¬ 9223372036854775807 < 3 + T.size + 1 := by omega
      have b3 : ¬ 9223372036854775807 < 3 + T.size + 1 + L.size := by omega
      have b4 : ¬ 9223372036854775807 < 3 + T.size + 1 + L.size + 1 := by omega
      have b5 : ¬ 9223372036854775807 < 3 + T.size + 1 + L.size + 1 + 4 := by omega
      have b6 : ¬ 9223372036854775807 < 3 + T.size + 1 + L.size + 1 + 4 + 1 := by omega
      have b7 : ¬ 9223372036854775807 < 3 + T.size + 1 + L.size + 1 + 4 + 1 + M.size := by omega
      have b8 : ¬ 9223372036854775807 < 3 + T.size + 1 + L.size + 1 + 4 + 1 + M.size + 1 := by omega
      have HQ : Hid (∀ W, Below w8.heap.size w8 W → Below w1.heap.size w1 W ∧ rd W W.heap.size (.slice A2 n2 c2) ps ∧ rd W W.heap.size (.slice Av m cp) (F.map (· ++ (⟨#[42]⟩ : ByteArray)))) := fun W h => ⟨later_trans HL8.out h, (HO8.out.below h).rd, (HS8.out.below h).rd⟩
      have C0 : Hid (∀ W, Below w8.heap.size w8 W → Calls Tryz.prog 32 #[.slice An net.length cn] W fun e w' => e = .returned (.string T) ∧ Below W.heap.size W w') := fun W h => HFN.out W (HQ.out W h).1
      have C1 : Hid (∀ W, Below w8.heap.size w8 W → Calls Tryz.prog 16 #[.slice A2 n2 c2] W fun e w' => e = .returned (.string L) ∧ W = w') := fun W h => HSL1.out W (HQ.out W h).1 (HQ.out W h).2.1
      have C2 : Hid (∀ W, Below w8.heap.size w8 W → Calls Tryz.prog 16 #[.slice Av m cp] W fun e w' => e = .returned (.string M) ∧ W = w') := fun W h => HSL2.out W (HQ.out W h).1 (HQ.out W h).2.2
      have ld : Below w8.heap.size w8 w8.drew := (Below.refl _ _).drew
      have la : Below w8.heap.size w8 (w8.drew.alloc (Obj.cells #[.string ⟨#[104, 111, 109, 101]⟩, .string ⟨#[108, 111, 115, 116]⟩, .string ⟨#[108, 111, 111, 112]⟩] 9)) := ld.alloc (by simp) _
      have lb : Below w8.heap.size w8 (w8.alloc (Obj.cells #[.string ⟨#[104, 111, 109, 101]⟩, .string ⟨#[108, 111, 115, 116]⟩, .string ⟨#[108, 111, 111, 112]⟩] 9)).drew := (later_alloc (Below.refl _ _) _).drew
      clear HSL1 HSL2 HFN
      have hn := HF1.out
      rcases hn with hn | hn | hn
      · subst hn
        have ca : (w8.drew.alloc (Obj.cells #[.string ⟨#[104, 111, 109, 101]⟩, .string ⟨#[108, 111, 115, 116]⟩, .string ⟨#[108, 111, 111, 112]⟩] 9)).cell? ⟨w8.heap.size, 0, none⟩ = some (.string ⟨#[104, 111, 109, 101]⟩) := by go_simp
        have cb : (w8.alloc (Obj.cells #[.string ⟨#[104, 111, 109, 101]⟩, .string ⟨#[108, 111, 115, 116]⟩, .string ⟨#[108, 111, 111, 112]⟩] 9)).drew.cell? ⟨w8.heap.size, 0, none⟩ = some (.string ⟨#[104, 111, 109, 101]⟩) := by go_simp
        have HEQO : Hid ((((⟨#[]⟩ ++ (okW ++ ⟨#[10]⟩)) ++ (T ++ ⟨#[10]⟩)) ++ ((L ++ tailW 0) ++ ⟨#[10]⟩)) ++ (M ++ ⟨#[10]⟩) = ((((((((⟨#[111, 107, 10]⟩ : ByteArray) ++ T) ++ ⟨#[10]⟩) ++ L) ++ ⟨#[32]⟩) ++ ⟨#[104, 111, 109, 101]⟩) ++ ⟨#[10]⟩) ++ M) ++ ⟨#[10]⟩) := by
          show _ = _
          refine ba_ext ?_
          simp only [ba_append, tailW, endW, okW]
          simp
        rw [HEQO.out] at HRUN
        go_wp2_with fail
        go_region_law (first | (go_simp; go_at_call 32; (with_reducible refine (C0.out _ ld).mono ?_); rintro e u1 ⟨rfl, z1⟩; have k1 := later_trans ld z1) | (go_simp; go_at_call 32; (with_reducible refine (C0.out _ la).mono ?_); rintro e u1 ⟨rfl, z1⟩; have k1 := later_trans la z1; have c1 := (z1.cell (p := ⟨w8.heap.size, 0, none⟩) (by simp)).trans ca) | (go_simp; go_at_call 32; (with_reducible refine (C0.out _ lb).mono ?_); rintro e u1 ⟨rfl, z1⟩; have k1 := later_trans lb z1; have c1 := (z1.cell (p := ⟨w8.heap.size, 0, none⟩) (by simp)).trans cb) | (go_simp; go_at_call 16; first | ((with_reducible refine (C1.out _ (by first | exact ld | exact la | exact lb | exact k1 | exact later_alloc k1 _)).mono ?_); rintro e _ ⟨rfl, rfl⟩) | ((with_reducible refine (C2.out _ (by first | exact ld | exact la | exact lb | exact k1 | exact later_alloc k1 _)).mono ?_); rintro e _ ⟨rfl, rfl⟩)))
        all_goals
          go_wp2_with fail
          refine (HRUN.out _).mono ?_
          rintro e w9 ⟨rfl, b9⟩
          have k9 : Below w8.heap.size w8 w9 := later_trans (by first | exact k1 | exact later_alloc k1 _ | exact (later_alloc k1 _).drew | exact k1.drew) b9
          have K9 := Lib.hid k9
          clear k9 b9 k1
          go_wp2_with fail
          go_ret
          exact ⟨rfl, HWB.out.trans ((later_trans HL8.out K9.out).mono HWB.out.size)⟩
      · subst hn
        have ca : (w8.drew.alloc (Obj.cells #[.string ⟨#[104, 111, 109, 101]⟩, .string ⟨#[108, 111, 115, 116]⟩, .string ⟨#[108, 111, 111, 112]⟩] 9)).cell? ⟨w8.heap.size, 1, none⟩ = some (.string ⟨#[108, 111, 115, 116]⟩) := by go_simp
        have cb : (w8.alloc (Obj.cells #[.string ⟨#[104, 111, 109, 101]⟩, .string ⟨#[108, 111, 115, 116]⟩, .string ⟨#[108, 111, 111, 112]⟩] 9)).drew.cell? ⟨w8.heap.size, 1, none⟩ = some (.string ⟨#[108, 111, 115, 116]⟩) := by go_simp
        have HEQO : Hid ((((⟨#[]⟩ ++ (okW ++ ⟨#[10]⟩)) ++ (T ++ ⟨#[10]⟩)) ++ ((L ++ tailW 1) ++ ⟨#[10]⟩)) ++ (M ++ ⟨#[10]⟩) = ((((((((⟨#[111, 107, 10]⟩ : ByteArray) ++ T) ++ ⟨#[10]⟩) ++ L) ++ ⟨#[32]⟩) ++ ⟨#[108, 111, 115, 116]⟩) ++ ⟨#[10]⟩) ++ M) ++ ⟨#[10]⟩) := by
          show _ = _
          refine ba_ext ?_
          simp only [ba_append, tailW, endW, okW]
          simp
        rw [HEQO.out] at HRUN
        go_wp2_with fail
        go_region_law (first | (go_simp; go_at_call 32; (with_reducible refine (C0.out _ ld).mono ?_); rintro e u1 ⟨rfl, z1⟩; have k1 := later_trans ld z1) | (go_simp; go_at_call 32; (with_reducible refine (C0.out _ la).mono ?_); rintro e u1 ⟨rfl, z1⟩; have k1 := later_trans la z1; have c1 := (z1.cell (p := ⟨w8.heap.size, 1, none⟩) (by simp)).trans ca) | (go_simp; go_at_call 32; (with_reducible refine (C0.out _ lb).mono ?_); rintro e u1 ⟨rfl, z1⟩; have k1 := later_trans lb z1; have c1 := (z1.cell (p := ⟨w8.heap.size, 1, none⟩) (by simp)).trans cb) | (go_simp; go_at_call 16; first | ((with_reducible refine (C1.out _ (by first | exact ld | exact la | exact lb | exact k1 | exact later_alloc k1 _)).mono ?_); rintro e _ ⟨rfl, rfl⟩) | ((with_reducible refine (C2.out _ (by first | exact ld | exact la | exact lb | exact k1 | exact later_alloc k1 _)).mono ?_); rintro e _ ⟨rfl, rfl⟩)))
        all_goals
          go_wp2_with fail
          refine (HRUN.out _).mono ?_
          rintro e w9 ⟨rfl, b9⟩
          have k9 : Below w8.heap.size w8 w9 := later_trans (by first | exact k1 | exact later_alloc k1 _ | exact (later_alloc k1 _).drew | exact k1.drew) b9
          have K9 := Lib.hid k9
          clear k9 b9 k1
          go_wp2_with fail
          go_ret
          exact ⟨rfl, HWB.out.trans ((later_trans HL8.out K9.out).mono HWB.out.size)⟩
      · subst hn
        have ca : (w8.drew.alloc (Obj.cells #[.string ⟨#[104, 111, 109, 101]⟩, .string ⟨#[108, 111, 115, 116]⟩, .string ⟨#[108, 111, 111, 112]⟩] 9)).cell? ⟨w8.heap.size, 2, none⟩ = some (.string ⟨#[108, 111, 111, 112]⟩) := by go_simp
        have cb : (w8.alloc (Obj.cells #[.string ⟨#[104, 111, 109, 101]⟩, .string ⟨#[108, 111, 115, 116]⟩, .string ⟨#[108, 111, 111, 112]⟩] 9)).drew.cell? ⟨w8.heap.size, 2, none⟩ = some (.string ⟨#[108, 111, 111, 112]⟩) := by go_simp
        have HEQO : Hid ((((⟨#[]⟩ ++ (okW ++ ⟨#[10]⟩)) ++ (T ++ ⟨#[10]⟩)) ++ ((L ++ tailW 2) ++ ⟨#[10]⟩)) ++ (M ++ ⟨#[10]⟩) = ((((((((⟨#[111, 107, 10]⟩ : ByteArray) ++ T) ++ ⟨#[10]⟩) ++ L) ++ ⟨#[32]⟩) ++ ⟨#[108, 111, 111, 112]⟩) ++ ⟨#[10]⟩) ++ M) ++ ⟨#[10]⟩) := by
          show _ = _
          refine ba_ext ?_
          simp only [ba_append, tailW, endW, okW]
          simp
        rw [HEQO.out] at HRUN
        go_wp2_with fail
        go_region_law (first | (go_simp; go_at_call 32; (with_reducible refine (C0.out _ ld).mono ?_); rintro e u1 ⟨rfl, z1⟩; have k1 := later_trans ld z1) | (go_simp; go_at_call 32; (with_reducible refine (C0.out _ la).mono ?_); rintro e u1 ⟨rfl, z1⟩; have k1 := later_trans la z1; have c1 := (z1.cell (p := ⟨w8.heap.size, 2, none⟩) (by simp)).trans ca) | (go_simp; go_at_call 32; (with_reducible refine (C0.out _ lb).mono ?_); rintro e u1 ⟨rfl, z1⟩; have k1 := later_trans lb z1; have c1 := (z1.cell (p := ⟨w8.heap.size, 2, none⟩) (by simp)).trans cb) | (go_simp; go_at_call 16; first | ((with_reducible refine (C1.out _ (by first | exact ld | exact la | exact lb | exact k1 | exact later_alloc k1 _)).mono ?_); rintro e _ ⟨rfl, rfl⟩) | ((with_reducible refine (C2.out _ (by first | exact ld | exact la | exact lb | exact k1 | exact later_alloc k1 _)).mono ?_); rintro e _ ⟨rfl, rfl⟩)))
        all_goals
          go_wp2_with fail
          refine (HRUN.out _).mono ?_
          rintro e w9 ⟨rfl, b9⟩
          have k9 : Below w8.heap.size w8 w9 := later_trans (by first | exact k1 | exact later_alloc k1 _ | exact (later_alloc k1 _).drew | exact k1.drew) b9
          have K9 := Lib.hid k9
          clear k9 b9 k1
          go_wp2_with fail
          go_ret
          exact ⟨rfl, HWB.out.trans ((later_trans HL8.out K9.out).mono HWB.out.size)⟩

end Go.Proofs.YtpinkbodbedajaaGreatDoor
