/- FnNetworkText: the walk of the law. Written by gen_rt.py. -/
import Derived.Test.YtffbcfaahegglaaDoorQ30
namespace Go.Proofs.YtffbcfaahegglaaDoor
open Go.RowKit

set_option maxRecDepth 100000 in
set_option maxHeartbeats 3200000 in
theorem walk_FnNetworkText (w : World) (v : Value) (bs : List UInt8) (hv : rd w w.heap.size v bs) (v' : Value) (cs : List UInt8) (hv' : rd w w.heap.size v' cs) :
    Calls Tryd.prog 6 #[v, v'] w fun e w' => e = .returned (.bool true) ∧ Below w.heap.size w w' := by
  have hv0 := hv
  have HV2 := Lib.hid hv'
  obtain ⟨A, n, c, rfl, hn, hc, hm, _⟩ := hv
  subst hn
  obtain ⟨A', n', c', rfl, hn', hc', hm', _⟩ := hv'
  subst hn'
  unfold maxLen at hm hm'
  have l0 := Below.refl w.heap.size w
  go_enter Tryd.func6, Tryd.ntmps6
  by_cases hsz : 1048576 < bs.length
  · go_wp2_with fail
    go_ret
    exact ⟨rfl, Below.refl _ _⟩
  by_cases hsz2 : 1048576 < cs.length
  · go_wp2_with fail
    go_ret
    exact ⟨rfl, Below.refl _ _⟩
  go_wp2_with fail
  refine (draw_DrawFormatNetwork _ bs w hv0).mono ?_
  rintro e w1 ⟨v1, rs, rfl, o1, b1⟩
  have o1r := o1.rd
  clear hv0 l0
  obtain ⟨A1, n1, k1, rfl, -, -, -, -⟩ := o1.rd
  clear o1
  go_wp2_with fail
  refine (impl_FormatNetwork _ rs _ o1r).mono ?_
  rintro e w2 ⟨rfl, c2⟩
  have l2 := later_trans b1 c2
  have HV3 := Lib.hid (o1r.on c2)
  clear c2
  go_wp2_with fail
  refine (spec_FormatNetwork _ rs _ HV3.out).mono ?_
  rintro e w3 ⟨rfl, c3⟩
  have l3 := later_trans l2 c3
  have HV4 := Lib.hid (HV3.out.on c3)
  clear c3 l2 b1
  have HNF := Lib.hid (@fmtN_no rs)
  have HPF := Lib.hid (@fmtN_pos rs)
  have HPP := Lib.hid (@pn_fmt rs)
  have HSZ := fmtN_size rs
  have HVD := Lib.hid (impl_NetworkValid _ rs _ HV4.out)
  obtain ⟨F, hF⟩ : ∃ F, fmtN rs = F := ⟨_, rfl⟩
  rw [hF] at HNF HPF HPP HSZ ⊢
  clear hF
  have ne : (F.toList != F.toList) = false := by simp
  cases hok : netOk rs
  · have hF0 := HNF.out hok
    subst hF0
    rw [hok] at HVD
    clear hok HNF HPF HPP
    go_wp2_with fail
    refine HVD.out.mono ?_
    rintro e w4 ⟨rfl, c4⟩
    have l4 := later_trans l3 c4
    clear c4 l3
    go_wp2_with fail
    refine (draw_DrawParseNetwork _ cs _ (HV2.out.on l4)).mono ?_
    rintro e u1 ⟨t, rfl, ht, c1⟩
    have m1 := later_trans l4 c1
    clear c1
    go_wp2_with fail
    refine (impl_ParseNetwork t _ (by unfold maxLen; omega)).mono ?_
    rintro e u2 ⟨v2, rfl, o2, c2⟩
    have m2 := later_trans m1 c2
    clear c2 m1
    obtain ⟨A2, n2, k2, rfl, -, -, -, -⟩ := o2.rd
    go_wp2_with fail
    refine (spec_ParseNetwork t _ (by omega)).mono ?_
    rintro e u3 ⟨v3, rfl, o3, c3⟩
    have O2 := Lib.hid (o2.below c3)
    have m3 := later_trans m2 c3
    clear c3 m2 o2
    obtain ⟨A3, n3, k3, rfl, -, -, -, -⟩ := o3.rd; have O3 := Lib.hid o3
    have HFP := Lib.hid (@fmt_pn t)
    cases hpo : pnOk t
    · have hb2 : (false == false) = true := rfl
      go_wp2_with fail
      refine (so_nets _ _ _ _ O2.out.rd O3.out.rd).mono ?_
      rintro e u4 ⟨rfl, c4⟩
      have m4 := later_trans m3 c4
      clear c4 m3
      go_wp2_with fail
      go_ret
      exact ⟨rfl, m4⟩
    · have HFT := Lib.hid (HFP.out hpo)
      have hb2 : (true == true) = true := rfl
      go_wp2_with fail
      refine (so_nets _ _ _ _ O2.out.rd O3.out.rd).mono ?_
      rintro e u4 ⟨rfl, c4⟩
      have m4 := later_trans m3 c4
      have HIF := Lib.hid (impl_FormatNetwork _ _ _ (O2.out.rd.on c4))
      rw [HFT.out] at HIF
      clear c4 m3
      go_wp2_with fail
      refine HIF.out.mono ?_
      rintro e u5 ⟨rfl, c5⟩
      have m5 := later_trans m4 c5
      have heq : (t.toList == t.toList) = true := by simp
      go_wp2_with fail
      go_ret
      exact ⟨rfl, m5⟩
  · have hF1 := HPF.out hok
    have hPP := HPP.out hok
    rw [hok] at HVD
    have hne : (F.toList == []) = false := by
      have h1 : sEq F ⟨#[]⟩ = false := sEq_false.2 fun e => by rw [e] at hF1; exact absurd hF1 (by decide)
      unfold sEq at h1
      rw [ByteArray.toList_eq ⟨#[]⟩] at h1
      exact h1
    have hne2 : (F.toList != []) = true := by unfold bne; rw [hne]; rfl
    have hne3 : ¬ F.toList = [] := by simpa using hne
    clear HNF HPF HPP
    go_wp2_with fail
    refine HVD.out.mono ?_
    rintro e w4 ⟨rfl, c4⟩
    have l4 := later_trans l3 c4
    have HV5 := Lib.hid (HV4.out.on c4)
    have HPI := Lib.hid (impl_ParseNetwork F w4 (by unfold maxLen; omega))
    rw [hPP.1, hPP.2] at HPI
    clear c4 l3 hPP
    go_wp2_with fail
    refine HPI.out.mono ?_
    rintro e w5 ⟨v5, rfl, o5, c5⟩
    have l5 := later_trans l4 c5
    have HV6 := Lib.hid (HV5.out.on c5)
    clear c5 l4 HPI
    obtain ⟨A5, n5, k5, rfl, -, -, -, -⟩ := o5.rd; have O5 := Lib.hid o5
    go_wp2_with fail
    refine (so_nets _ _ _ _ O5.out.rd HV6.out).mono ?_
    rintro e w6 ⟨rfl, c6⟩
    have l6 := later_trans l5 c6
    clear c6 l5
    go_wp2_with fail
    refine (draw_DrawParseNetwork _ cs _ (HV2.out.on l6)).mono ?_
    rintro e u1 ⟨t, rfl, ht, c1⟩
    have m1 := later_trans l6 c1
    clear c1
    go_wp2_with fail
    refine (impl_ParseNetwork t _ (by unfold maxLen; omega)).mono ?_
    rintro e u2 ⟨v2, rfl, o2, c2⟩
    have m2 := later_trans m1 c2
    clear c2 m1
    obtain ⟨A2, n2, k2, rfl, -, -, -, -⟩ := o2.rd
    go_wp2_with fail
    refine (spec_ParseNetwork t _ (by omega)).mono ?_
    rintro e u3 ⟨v3, rfl, o3, c3⟩
    have O2 := Lib.hid (o2.below c3)
    have m3 := later_trans m2 c3
    clear c3 m2 o2
    obtain ⟨A3, n3, k3, rfl, -, -, -, -⟩ := o3.rd; have O3 := Lib.hid o3
    have HFP := Lib.hid (@fmt_pn t)
    cases hpo : pnOk t
    · have hb2 : (false == false) = true := rfl
      go_wp2_with fail
      refine (so_nets _ _ _ _ O2.out.rd O3.out.rd).mono ?_
      rintro e u4 ⟨rfl, c4⟩
      have m4 := later_trans m3 c4
      clear c4 m3
      go_wp2_with fail
      go_ret
      exact ⟨rfl, m4⟩
    · have HFT := Lib.hid (HFP.out hpo)
      have hb2 : (true == true) = true := rfl
      go_wp2_with fail
      refine (so_nets _ _ _ _ O2.out.rd O3.out.rd).mono ?_
      rintro e u4 ⟨rfl, c4⟩
      have m4 := later_trans m3 c4
      have HIF := Lib.hid (impl_FormatNetwork _ _ _ (O2.out.rd.on c4))
      rw [HFT.out] at HIF
      clear c4 m3
      go_wp2_with fail
      refine HIF.out.mono ?_
      rintro e u5 ⟨rfl, c5⟩
      have m5 := later_trans m4 c5
      have heq : (t.toList == t.toList) = true := by simp
      go_wp2_with fail
      go_ret
      exact ⟨rfl, m5⟩

end Go.Proofs.YtffbcfaahegglaaDoor
