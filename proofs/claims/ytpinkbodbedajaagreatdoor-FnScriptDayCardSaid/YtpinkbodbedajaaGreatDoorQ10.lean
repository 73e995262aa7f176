/- F3 DA DB -/
import Derived.Test.YtpinkbodbedajaaGreatDoorQ9
import Derived.Test.YtpinkbodbedajaaGreatDoorQ5
import Derived.Test.YtpinkbodbedajaaGreatDoorQ8
namespace Go.Proofs.YtpinkbodbedajaaGreatDoor
open Go.RowKit

set_option maxHeartbeats 800000 in
theorem impl_DayValid (v : Value) (d : Dy) (w : World) (hv : rdD w w.heap.size v d) :
    Calls Tryz.prog 47 #[v] w fun e w' => e = .returned (.bool (dayOk d)) ∧ Below w.heap.size w w' := by
  obtain ⟨A0, c0, A1, c1, A2, c2, e0⟩ := openD hv
  obtain ⟨w0, hw0⟩ : ∃ w0, w0 = w.alloc (Obj.cells #[.int .i64 d.plan.bins, .int .i64 d.plan.passes, .slice A0 d.plan.order.length c0, .slice A1 d.fwds.length c1, .slice A2 d.held.length c2, .int .i64 d.size] 28) := ⟨_, rfl⟩
  have q0 := box_cells hw0 0 (.int .i64 d.plan.bins) rfl
  have q1 := box_cells hw0 1 (.int .i64 d.plan.passes) rfl
  have q2 := box_cells hw0 2 (.slice A0 d.plan.order.length c0) rfl
  have q3 := box_cells hw0 3 (.slice A1 d.fwds.length c1) rfl
  have q4 := box_cells hw0 4 (.slice A2 d.held.length c2) rfl
  have q5 := box_cells hw0 5 (.int .i64 d.size) rfl
  have HT := Lib.hid (box_later hw0).1
  have hv1 := hv.on HT.out
  subst e0
  obtain ⟨hp, ho, hf, hh, _⟩ := partsD hv1
  have HP := Lib.hid hp; have HF := Lib.hid hf; have HH := Lib.hid hh
  clear hp ho hf hh hv hv1
  have HW0 := Lib.hid hw0; clear hw0
  have l0 := Below.refl w0.heap.size w0
  have HQ : Hid (dayOk d = (planOk d.plan && fwdsOk d.fwds && heldOk d.held && sizeOk d.size)) := rfl
  go_enter Tryz.func47, Tryz.ntmps47
  go_wp2_with fail
  rw [← HW0.out]
  refine (impl_PlanValid _ d.plan _ HP.out).mono ?_
  rintro e w1 ⟨rfl, b1⟩
  have l1 := later_trans l0 b1
  cases h1 : planOk d.plan
  · have H1 := Lib.hid h1; clear h1
    go_wp2_with fail
    go_ret
    exact ⟨ret_bool (by rw [HQ.out, H1.out]; rfl), later_trans HT.out l1⟩
  have H1 := Lib.hid h1; clear h1
  go_wp2_with fail
  refine (impl_ForwardsValid _ d.fwds _ (HF.out.on l1)).mono ?_
  rintro e w2 ⟨rfl, b2⟩
  have l2 := later_trans l1 b2
  cases h2 : fwdsOk d.fwds
  · have H2 := Lib.hid h2; clear h2
    go_wp2_with fail
    go_ret
    exact ⟨ret_bool (by rw [HQ.out, H1.out, H2.out]; rfl), later_trans HT.out l2⟩
  have H2 := Lib.hid h2; clear h2
  go_wp2_with fail
  refine (impl_heldValid _ d.held _ (HH.out.on l2)).mono ?_
  rintro e w3 ⟨rfl, rfl⟩
  cases h3 : heldOk d.held
  · have H3 := Lib.hid h3; clear h3
    go_wp2_with fail
    go_ret
    exact ⟨ret_bool (by rw [HQ.out, H1.out, H2.out, H3.out]; rfl), later_trans HT.out l2⟩
  have H3 := Lib.hid h3; clear h3
  go_wp2_with fail
  refine (impl_sizeValid d.size _).mono ?_
  rintro e w3 ⟨rfl, rfl⟩
  obtain ⟨r, HRR⟩ : ∃ r, Hid (sizeOk d.size = r) := ⟨_, rfl⟩
  rw [HRR.out]
  go_wp2_with fail
  go_ret
  exact ⟨ret_bool (by rw [HQ.out, H1.out, H2.out, H3.out, HRR.out]; rfl), later_trans HT.out l2⟩

theorem heldOk_bad {xs : List ByteArray} {k : Nat} (hk : k < xs.length) (h : isCode xs[k] = false) : heldOk xs = false := by
  unfold heldOk
  rw [Bool.and_eq_false_iff]
  exact .inr (List.all_eq_false.2 ⟨xs[k], List.getElem_mem _, by simp [h]⟩)
theorem heldOk_all {xs : List ByteArray} (h : ∀ j (hj : j < xs.length), isCode xs[j] = true) : heldOk xs = decide (xs.length ≤ 30) := by
  unfold heldOk
  rw [List.all_eq_true.2 fun x hx => by
    obtain ⟨j, hj, rfl⟩ := List.getElem_of_mem hx
    exact h j hj, Bool.and_true]

set_option maxHeartbeats 800000 in
theorem spec_DayValid (v : Value) (d : Dy) (w : World) (hv : rdD w w.heap.size v d) :
    Calls Tryz.prog 51 #[v] w fun e w' => e = .returned (.bool (dayOk d)) ∧ Below w.heap.size w w' := by
  obtain ⟨A0, c0, A1, c1, A2, c2, e0⟩ := openD hv
  obtain ⟨w0, hw0⟩ : ∃ w0, w0 = w.alloc (Obj.cells #[.int .i64 d.plan.bins, .int .i64 d.plan.passes, .slice A0 d.plan.order.length c0, .slice A1 d.fwds.length c1, .slice A2 d.held.length c2, .int .i64 d.size] 28) := ⟨_, rfl⟩
  have q0 := box_cells hw0 0 (.int .i64 d.plan.bins) rfl
  have q1 := box_cells hw0 1 (.int .i64 d.plan.passes) rfl
  have q2 := box_cells hw0 2 (.slice A0 d.plan.order.length c0) rfl
  have q3 := box_cells hw0 3 (.slice A1 d.fwds.length c1) rfl
  have q4 := box_cells hw0 4 (.slice A2 d.held.length c2) rfl
  have q5 := box_cells hw0 5 (.int .i64 d.size) rfl
  have HT := Lib.hid (box_later hw0).1
  have hv1 := hv.on HT.out
  subst e0
  obtain ⟨hp, ho, hf, hh, _⟩ := partsD hv1
  have HP := Lib.hid hp; have HF := Lib.hid hf; have HH := Lib.hid hh
  have hm : d.held.length ≤ 9223372036854775807 := by
    obtain ⟨A, n, c, e1, e2, e3, e4, e5⟩ := hh
    unfold maxLen at e4
    omega
  obtain ⟨A, n, c, e1, e2, e3, e4, hrr⟩ := hh
  injection e1 with e1 e1' e1''
  subst e1 e1' e1''
  have HR := Lib.hid hrr
  clear hp ho hf hv hv1 hrr e2
  have HW0 := Lib.hid hw0; clear hw0
  have l0 := Below.refl w0.heap.size w0
  have HQ : Hid (dayOk d = (planOk d.plan && fwdsOk d.fwds && heldOk d.held && sizeOk d.size)) := rfl
  go_enter Tryz.func51, Tryz.ntmps51
  go_wp2
  rw [← HW0.out]
  go_loop [3] (fun i => ∃ k : Nat, k ≤ d.held.length ∧ i = .int .i64 k ∧ Hid (∀ j (h : j < d.held.length), j < k → isCode d.held[j] = true)) (fun i => d.held.length - (intOf i).toNat)
  case atStart => exact ⟨0, Nat.zero_le _, rfl, fun j _ hj => absurd hj (Nat.not_lt_zero j)⟩
  case round =>
    obtain ⟨k, hk, rfl, HG⟩ := hrel
    by_cases hlt : k < d.held.length
    · obtain ⟨b, o, rfl, hb, hok, x1⟩ := HR.out.strU k hlt
      have HX : Hid (∀ h : isCode d.held[k] = true, ∀ j (h1 : j < d.held.length), j < k + 1 → isCode d.held[j] = true) := fun h j h1 hj => by
        by_cases hjk : j < k
        · exact HG.out j h1 hjk
        · obtain rfl : j = k := by omega
          exact h
      have HY := Lib.hid (heldOk_bad hlt)
      generalize d.held[k] = x at *
      obtain ⟨r, HRR⟩ : ∃ r, Hid (isCode x = r) := ⟨_, rfl⟩
      go_wp2_with fail
      refine (spec_CodeValid x _ hok).mono ?_
      rw [HRR.out]
      rintro e w1 ⟨rfl, rfl⟩
      cases r
      · go_wp2_with fail
        go_ret
        exact ⟨ret_bool (by rw [HQ.out, HY.out HRR.out]; simp), HT.out⟩
      · go_wp2_with fail
        go_round
        case rel => exact ⟨k + 1, by omega, by go_num, HX.out HRR.out⟩
        case measure => simp [intOf]; omega
    · have HE := Lib.hid (heldOk_all fun j hj => HG.out j hj (by omega))
      go_wp2_with fail
      refine (spec_PlanValid _ d.plan _ HP.out).mono ?_
      rintro e w1 ⟨rfl, b1⟩
      have l1 := later_trans l0 b1
      cases h1 : planOk d.plan
      · have H1 := Lib.hid h1; clear h1
        go_wp2_with fail
        go_ret
        exact ⟨ret_bool (by rw [HQ.out, H1.out]; rfl), later_trans HT.out l1⟩
      have H1 := Lib.hid h1; clear h1
      go_wp2_with fail
      refine (spec_ForwardsValid _ d.fwds _ (HF.out.on l1)).mono ?_
      rintro e w2 ⟨rfl, rfl⟩
      cases h2 : fwdsOk d.fwds
      · have H2 := Lib.hid h2; clear h2
        go_wp2_with fail
        go_ret
        exact ⟨ret_bool (by rw [HQ.out, H1.out, H2.out]; rfl), later_trans HT.out l1⟩
      have H2 := Lib.hid h2; clear h2
      by_cases h30 : (d.held.length : Int) ≤ 30
      · have HE2 : Hid (heldOk d.held = true) := by show _ = _; rw [HE.out, decide_eq_true (by omega)]
        go_wp2_with fail
        refine (spec_l5Size d.size _).mono ?_
        rintro e w3 ⟨rfl, rfl⟩
        obtain ⟨r, HRR⟩ : ∃ r, Hid (sizeOk d.size = r) := ⟨_, rfl⟩
        rw [HRR.out]
        go_wp2_with fail
        go_ret
        exact ⟨ret_bool (by rw [HQ.out, H1.out, H2.out, HE2.out, HRR.out]; rfl), later_trans HT.out l1⟩
      · have HE2 : Hid (heldOk d.held = false) := by show _ = _; rw [HE.out, decide_eq_false (by omega)]
        have hd := decide_eq_false h30
        go_wp2_with fail
        go_ret
        exact ⟨ret_bool (by rw [HQ.out, H1.out, H2.out, HE2.out]; rfl), later_trans HT.out l1⟩


end Go.Proofs.YtpinkbodbedajaaGreatDoor

namespace Go.Proofs.YtpinkbodbedajaaGreatDoor
open Go.RowKit

theorem isCode_len {c : ByteArray} (h : isCode c = true) : c.size ≤ maxLen := by
  unfold isCode at h
  simp only [Bool.and_eq_true, beq_iff_eq] at h
  unfold maxLen; omega
theorem follow_len {fs : List Fwd} {c : ByteArray} (h : fwdsOk fs = true) (hc : c.size ≤ maxLen) : (follow fs c).1.size ≤ maxLen := by
  refine (followN_size (fun x hx => ?_) _ _ _ hc).1
  obtain ⟨k, hk, rfl⟩ := List.getElem_of_mem hx
  exact isCode_len ((fwdsOk_iff.1 h).2 k hk).2.1
set_option maxRecDepth 100000 in
set_option maxHeartbeats 1600000 in
theorem impl_ForwardBatch (v vb : Value) (fs : List Fwd) (xs : List Ltr) (w : World) (hv : rd w w.heap.size v fs) (hb : rd w w.heap.size vb xs) :
    Calls Tryz.prog 49 #[v, vb] w fun e w' => ∃ vA vB, e = .returned (.tuple #[vA, vB, .bool (fwOk fs xs)]) ∧ own 89 w.heap.size w' vA (fwSent fs xs) ∧ own 89 w.heap.size w' vB (fwStuck fs xs) ∧ apart vA vB ∧ Below w.heap.size w w' := by
  have HV := Lib.hid hv; clear hv
  have HB := Lib.hid hb
  obtain ⟨A, n, c, rfl, hn, hc, hm, hr⟩ := hb
  subst hn
  unfold maxLen at hm
  have HR := Lib.hid hr; clear hr
  have l0 := Below.refl w.heap.size w
  have HNO : Hid (∀ h : fwOk fs xs = false, fwSent fs xs = [] ∧ fwStuck fs xs = []) := fun h => by
    unfold fwSent fwStuck; rw [h]; exact ⟨rfl, rfl⟩
  have HQ : Hid (fwOk fs xs = (fwdsOk fs && okB xs)) := rfl
  obtain ⟨i1, ji, jz0, jz1, jz2⟩ := info_parts Tryz.infoLtr
  go_enter Tryz.func49, Tryz.ntmps49
  go_wp2_with fail
  refine (impl_ForwardsValid _ fs _ HV.out).mono ?_
  rintro e w1 ⟨rfl, b1⟩
  have l1 := later_trans l0 b1
  cases h1 : fwdsOk fs
  · have HF : Hid (fwOk fs xs = false) := by show _ = _; rw [HQ.out, h1]; rfl
    clear h1
    go_wp2_with fail
    go_ret3
    exact ⟨_, _, ret_tup (by rw [HF.out] <;> rfl), by rw [(HNO.out HF.out).1]; exact own.nil_ _ _ _, by rw [(HNO.out HF.out).2]; exact own.nil_ _ _ _, .inl rfl, l1⟩
  have H1 := Lib.hid h1; clear h1
  go_wp2_with fail
  refine (impl_BatchValid _ xs _ (HB.out.on l1)).mono ?_
  rintro e w2 ⟨rfl, b2⟩
  have l2 := later_trans l1 b2
  clear b1 b2
  cases h2 : okB xs
  · have HF : Hid (fwOk fs xs = false) := by show _ = _; rw [HQ.out, h2]; simp
    clear h2
    go_wp2_with fail
    go_ret3
    exact ⟨_, _, ret_tup (by rw [HF.out] <;> rfl), by rw [(HNO.out HF.out).1]; exact own.nil_ _ _ _, by rw [(HNO.out HF.out).2]; exact own.nil_ _ _ _, .inl rfl, l2⟩
  have hxl := okB_len' h2
  have hfl := (fwdsOk_iff.1 H1.out).1
  have H2 := Lib.hid h2; clear h2
  have HF : Hid (fwOk fs xs = true) := by show _ = _; rw [HQ.out, H1.out, H2.out]; rfl
  have HY : Hid (fwSent fs xs = sentL fs xs ∧ fwStuck fs xs = stuckL fs xs) := by unfold fwSent fwStuck; rw [HF.out]; exact ⟨rfl, rfl⟩
  clear HB
  go_wp2_with fail
  go_loopw [7, 8, 24] (fun a b i wr => ∃ k : Nat, k ≤ xs.length ∧ i = .int .i64 k ∧ Below w.heap.size w wr ∧ own 89 w.heap.size wr a (sentL fs (xs.take k)) ∧ own 89 w.heap.size wr b (stuckL fs (xs.take k)) ∧ Hid (apart a b)) (fun _ _ i _ => xs.length - (intOf i).toNat)
  case atStart => exact ⟨0, Nat.zero_le _, rfl, l2, own.nil_ _ _ _, own.nil_ _ _ _, .inl rfl⟩
  case round =>
    obtain ⟨k, hk, rfl, lr, hA, hB, HAP⟩ := hrel
    obtain ⟨w3, rfl⟩ : ∃ w3 : World, w3 = wr := ⟨_, rfl⟩
    clear l0 l1 l2
    by_cases hlt : k < xs.length
    · obtain ⟨b, o, rfl, hb, ⟨hxi, hxc⟩, c1, c2⟩ := HR.out.ltrU k hlt
      have HHIT := Lib.hid (sentL_hit (fs := fs) hlt); have HMISS := Lib.hid (sentL_miss (fs := fs) hlt)
      have HHIT2 := Lib.hid (stuckL_hit (fs := fs) hlt); have HMISS2 := Lib.hid (stuckL_miss (fs := fs) hlt)
      have HL1 := Lib.hid (Nat.le_trans (sentL_len fs (xs.take k)) (take_len_le xs k))
      have HL2 := Lib.hid (Nat.le_trans (stuckL_len fs (xs.take k)) (take_len_le xs k))
      have hto : (follow fs xs[k].code).1.size ≤ maxLen := follow_len H1.out hxc
      generalize xs[k] = x at *
      generalize sentL fs (xs.take k) = sa at *
      generalize stuckL fs (xs.take k) = bs at *
      obtain ⟨AA, mA, cA, rfl, hmA, _, _, _⟩ := hA.rd
      subst hmA
      obtain ⟨AB, mB, cB, rfl, hmB, _, _, _⟩ := hB.rd
      subst hmB
      have HA := Lib.hid hA; have HB := Lib.hid hB
      clear hA hB
      have hl1 := HL1.out; have hl2 := HL2.out
      obtain ⟨to, HTO⟩ : ∃ z, Hid ((follow fs x.code).1 = z) := ⟨_, rfl⟩
      obtain ⟨nn, HNN⟩ : ∃ z, Hid ((follow fs x.code).2.1 = z) := ⟨_, rfl⟩
      rw [HTO.out] at hto HHIT
      have hki : (k : Int) < (xs.length : Int) := by omega
      obtain ⟨wl, hwl⟩ : ∃ wl : World, wl = w3.alloc (Obj.cells #[.int .i64 x.id, .string x.code] 89) := ⟨_, rfl⟩
      have y0 := box_cells hwl 0 (.int .i64 x.id) rfl
      have y1 := box_cells hwl 1 (.string x.code) rfl
      have ll := later_trans lr (box_later hwl).1
      have BL := Lib.hid (box_later hwl).1
      have HWL2 := Lib.hid hwl; clear hwl
      go_wp2_with fail
      rw [← HWL2.out]
      refine (impl_followOrders _ fs x.code _ (HV.out.on ll) hxc (by omega)).mono ?_
      rw [HTO.out, HNN.out]
      cases hf : (follow fs x.code).2.2
      · rintro e w4 ⟨rfl, b4⟩
        have l4 := later_trans ll b4
        have m4 := later_trans (Below.refl wl.heap.size wl) b4
        have B4 := BL.out.trans (m4.mono BL.out.size)
        have HA4 := Lib.hid (HA.out.below B4); have HB4 := Lib.hid (HB.out.below B4)
        have HS1 := Lib.hid (HMISS.out hf); have HS2 := Lib.hid (HMISS2.out hf)
        have hs4 : w.heap.size ≤ w4.heap.size := l4.size
        clear b4 B4 hf
        go_wp2_with (at_builtin; refine wpList_append1' (α := Ltr) rfl (.tmp 44) (.tmp 46) 29 rfl w.heap.size 89 i1 _ 24 Tryz.underlying29 ji jz0 jz1 jz2 rfl (by decide) (.slice AB bs.length cB) bs x rfl (HB4.out.alloc _) ⟨w4.heap.size, 0, none⟩ 1 (Ltr.cells x) rfl ⟨⟨hxi, hxc⟩, rfl⟩ (news_at w4 _ (Ltr.cells x)) (by unfold maxLen; omega) (by omega) (by simp; omega) ?_; intro g cap w5 ho5 hg5 ha5 hl5)
        have HA5 := Lib.hid ((HA4.out.below ((Below.refl _ _).alloc (Nat.le_refl _) (Obj.cells #[Value.int IntKind.i64 x.id, Value.string x.code] 89))).grown hg5 HAP.out)
        have l5 : Below w.heap.size w w5 := (later_alloc l4 (Obj.cells #[Value.int IntKind.i64 x.id, Value.string x.code] 89)).grown hg5 (by simp; omega) fun q hq => (HB4.out.blk q hq).1
        have HAP5 : Hid (apart (.slice (some ⟨g, 0, none⟩) (bs.length + 1) cap) (.slice AA sa.length cA)) := apart_app (apart_symm HAP.out) ha5 fun j hj => by have := (HA4.out.blk j hj).2; simp; omega
        go_wp2
        go_roundw
        case rel => exact ⟨k + 1, by omega, by go_num, l5, by rw [HS1.out]; exact HA5.out, by rw [HS2.out]; exact ho5, apart_symm HAP5.out⟩
        case measure => simp [intOf]; omega
      · rintro e w4 ⟨rfl, b4⟩
        have l4 := later_trans ll b4
        have m4 := later_trans (Below.refl wl.heap.size wl) b4
        have B4 := BL.out.trans (m4.mono BL.out.size)
        have HA4 := Lib.hid (HA.out.below B4); have HB4 := Lib.hid (HB.out.below B4)
        have HS1 := Lib.hid (HHIT.out hf); have HS2 := Lib.hid (HHIT2.out hf)
        have hs4 : w.heap.size ≤ w4.heap.size := l4.size
        clear b4 B4 hf
        obtain ⟨y, hy⟩ : ∃ y : Ltr, y = ⟨x.id, to⟩ := ⟨_, rfl⟩
        have hy1 : x.id = y.id := by rw [hy]
        have hy2 : to = y.code := by rw [hy]
        rw [← hy] at HS1
        rw [hy1] at y0 hxi
        rw [hy2] at hto
        rw [hy2]
        clear hy hy1 hy2
        go_wp2_with (at_builtin; refine wpList_append1' (α := Ltr) rfl (.tmp 37) (.tmp 42) 29 rfl w.heap.size 89 i1 _ 24 Tryz.underlying29 ji jz0 jz1 jz2 rfl (by decide) (.slice AA sa.length cA) sa y rfl (HA4.out.alloc _) ⟨w4.heap.size, 0, none⟩ 1 (Ltr.cells y) rfl ⟨⟨hxi, hto⟩, rfl⟩ (news_at w4 _ (Ltr.cells y)) (by unfold maxLen; omega) (by omega) (by simp; omega) ?_; intro g cap w5 ho5 hg5 ha5 hl5)
        have HB5 := Lib.hid ((HB4.out.below ((Below.refl _ _).alloc (Nat.le_refl _) (Obj.cells #[Value.int IntKind.i64 y.id, Value.string y.code] 89))).grown hg5 (apart_symm HAP.out))
        have l5 : Below w.heap.size w w5 := (later_alloc l4 (Obj.cells #[Value.int IntKind.i64 y.id, Value.string y.code] 89)).grown hg5 (by simp; omega) fun q hq => (HA4.out.blk q hq).1
        have HAP5 : Hid (apart (.slice (some ⟨g, 0, none⟩) (sa.length + 1) cap) (.slice AB bs.length cB)) := apart_app HAP.out ha5 fun j hj => by have := (HB4.out.blk j hj).2; simp; omega
        go_wp2
        go_roundw
        case rel => exact ⟨k + 1, by omega, by go_num, l5, by rw [HS1.out]; exact ho5, by rw [HS2.out]; exact HB5.out, HAP5⟩
        case measure => simp [intOf]; omega
    · have HE := Lib.hid (show k = xs.length by omega)
      go_wp2_with fail
      go_ret3
      rw [HE.out, List.take_length] at hA hB
      exact ⟨_, _, ret_tup (by rw [HF.out] <;> rfl), by rw [HY.out.1]; exact hA, by rw [HY.out.2]; exact hB, HAP.out, lr⟩

set_option maxRecDepth 100000 in
set_option maxHeartbeats 1600000 in
theorem impl_HoldBatch (vb v : Value) (xs : List Ltr) (hs : List ByteArray) (w : World) (hb : rd w w.heap.size vb xs) (hv : rd w w.heap.size v hs) :
    Calls Tryz.prog 50 #[vb, v] w fun e w' => ∃ vA vB, e = .returned (.tuple #[vA, vB, .bool (hbOk hs xs)]) ∧ own 89 w.heap.size w' vA (hbFree hs xs) ∧ own 89 w.heap.size w' vB (hbHeld hs xs) ∧ apart vA vB ∧ Below w.heap.size w w' := by
  have HV := Lib.hid hv; clear hv
  have HB := Lib.hid hb
  obtain ⟨A, n, c, rfl, hn, hc, hm, hr⟩ := hb
  subst hn
  unfold maxLen at hm
  have HR := Lib.hid hr; clear hr
  have l0 := Below.refl w.heap.size w
  have HNO : Hid (∀ h : hbOk hs xs = false, hbFree hs xs = [] ∧ hbHeld hs xs = []) := fun h => by
    unfold hbFree hbHeld; rw [h]; exact ⟨rfl, rfl⟩
  have HQ : Hid (hbOk hs xs = (okB xs && heldOk hs)) := rfl
  obtain ⟨i1, ji, jz0, jz1, jz2⟩ := info_parts Tryz.infoLtr
  go_enter Tryz.func50, Tryz.ntmps50
  go_wp2_with fail
  refine (impl_BatchValid _ xs _ HB.out).mono ?_
  rintro e w1 ⟨rfl, b1⟩
  have l1 := later_trans l0 b1
  cases h1 : okB xs
  · have HF : Hid (hbOk hs xs = false) := by show _ = _; rw [HQ.out, h1]; rfl
    clear h1
    go_wp2_with fail
    go_ret3
    exact ⟨_, _, ret_tup (by rw [HF.out] <;> rfl), by rw [(HNO.out HF.out).1]; exact own.nil_ _ _ _, by rw [(HNO.out HF.out).2]; exact own.nil_ _ _ _, .inl rfl, l1⟩
  have hxl := okB_len' h1
  have H1 := Lib.hid h1; clear h1
  go_wp2_with fail
  refine (impl_heldValid _ hs _ (HV.out.on l1)).mono ?_
  rintro e w2 ⟨rfl, rfl⟩
  clear b1
  cases h2 : heldOk hs
  · have HF : Hid (hbOk hs xs = false) := by show _ = _; rw [HQ.out, h2]; simp
    clear h2
    go_wp2_with fail
    go_ret3
    exact ⟨_, _, ret_tup (by rw [HF.out] <;> rfl), by rw [(HNO.out HF.out).1]; exact own.nil_ _ _ _, by rw [(HNO.out HF.out).2]; exact own.nil_ _ _ _, .inl rfl, l1⟩
  have H2 := Lib.hid h2; clear h2
  have HF : Hid (hbOk hs xs = true) := by show _ = _; rw [HQ.out, H1.out, H2.out]; rfl
  have HY : Hid (hbFree hs xs = freeL hs xs ∧ hbHeld hs xs = heldL hs xs) := by unfold hbFree hbHeld; rw [HF.out]; exact ⟨rfl, rfl⟩
  clear HB
  go_wp2_with fail
  go_loopw [7, 8, 21] (fun a b i wr => ∃ k : Nat, k ≤ xs.length ∧ i = .int .i64 k ∧ Below w.heap.size w wr ∧ own 89 w.heap.size wr a (freeL hs (xs.take k)) ∧ own 89 w.heap.size wr b (heldL hs (xs.take k)) ∧ Hid (apart a b)) (fun _ _ i _ => xs.length - (intOf i).toNat)
  case atStart => exact ⟨0, Nat.zero_le _, rfl, l1, own.nil_ _ _ _, own.nil_ _ _ _, .inl rfl⟩
  case round =>
    obtain ⟨k, hk, rfl, lr, hA, hB, HAP⟩ := hrel
    obtain ⟨w3, rfl⟩ : ∃ w3 : World, w3 = wr := ⟨_, rfl⟩
    clear l0 l1
    by_cases hlt : k < xs.length
    · obtain ⟨b, o, rfl, hb, ⟨hxi, hxc⟩, c1, c2⟩ := HR.out.ltrU k hlt
      have HHIT := Lib.hid (freeL_hit (hs := hs) hlt); have HMISS := Lib.hid (freeL_miss (hs := hs) hlt)
      have HHIT2 := Lib.hid (heldL_hit (hs := hs) hlt); have HMISS2 := Lib.hid (heldL_miss (hs := hs) hlt)
      have HL1 := Lib.hid (Nat.le_trans (freeL_len hs (xs.take k)) (take_len_le xs k))
      have HL2 := Lib.hid (Nat.le_trans (heldL_len hs (xs.take k)) (take_len_le xs k))
      generalize xs[k] = x at *
      generalize freeL hs (xs.take k) = sa at *
      generalize heldL hs (xs.take k) = bs at *
      obtain ⟨AA, mA, cA, rfl, hmA, _, _, _⟩ := hA.rd
      subst hmA
      obtain ⟨AB, mB, cB, rfl, hmB, _, _, _⟩ := hB.rd
      subst hmB
      have HA := Lib.hid hA; have HB := Lib.hid hB
      clear hA hB
      have hl1 := HL1.out; have hl2 := HL2.out
      have hki : (k : Int) < (xs.length : Int) := by omega
      obtain ⟨wl, hwl⟩ : ∃ wl : World, wl = w3.alloc (Obj.cells #[.int .i64 x.id, .string x.code] 89) := ⟨_, rfl⟩
      have y0 := box_cells hwl 0 (.int .i64 x.id) rfl
      have y1 := box_cells hwl 1 (.string x.code) rfl
      have l4 := later_trans lr (box_later hwl).1
      have BL := Lib.hid (box_later hwl).1
      have HWL2 := Lib.hid hwl; clear hwl
      have m4 := Below.refl wl.heap.size wl
      have HA4 := Lib.hid (HA.out.below BL.out); have HB4 := Lib.hid (HB.out.below BL.out)
      have hs4 : w.heap.size ≤ wl.heap.size := l4.size
      go_wp2_with fail
      rw [← HWL2.out]
      refine (slices_ContainsS _ hs x.code _ (HV.out.on l4)).mono ?_
      by_cases hf : rkI hs x.code < 0
      · have hd : decide (0 ≤ rkI hs x.code) = false := by simp; omega
        rw [hd]
        rintro e w4 ⟨rfl, rfl⟩
        have HS1 := Lib.hid (HHIT.out hf); have HS2 := Lib.hid (HHIT2.out hf)
        clear hf hd
        go_wp2_with (at_builtin; refine wpList_append1' (α := Ltr) rfl (.tmp 33) (.tmp 35) 29 rfl w.heap.size 89 i1 _ 24 Tryz.underlying29 ji jz0 jz1 jz2 rfl (by decide) (.slice AA sa.length cA) sa x rfl (HA4.out.alloc _) ⟨wl.heap.size, 0, none⟩ 1 (Ltr.cells x) rfl ⟨⟨hxi, hxc⟩, rfl⟩ (news_at wl _ (Ltr.cells x)) (by unfold maxLen; omega) (by omega) (by simp; omega) ?_; intro g cap w5 ho5 hg5 ha5 hl5)
        have HB5 := Lib.hid ((HB4.out.below ((Below.refl _ _).alloc (Nat.le_refl _) (Obj.cells #[Value.int IntKind.i64 x.id, Value.string x.code] 89))).grown hg5 (apart_symm HAP.out))
        have l5 : Below w.heap.size w w5 := (later_alloc l4 (Obj.cells #[Value.int IntKind.i64 x.id, Value.string x.code] 89)).grown hg5 (by simp; omega) fun q hq => (HA4.out.blk q hq).1
        have HAP5 : Hid (apart (.slice (some ⟨g, 0, none⟩) (sa.length + 1) cap) (.slice AB bs.length cB)) := apart_app HAP.out ha5 fun j hj => by have := (HB4.out.blk j hj).2; simp; omega
        go_wp2
        go_roundw
        case rel => exact ⟨k + 1, by omega, by go_num, l5, by rw [HS1.out]; exact ho5, by rw [HS2.out]; exact HB5.out, HAP5⟩
        case measure => simp [intOf]; omega
      · have hd : decide (0 ≤ rkI hs x.code) = true := by simp; omega
        rw [hd]
        rintro e w4 ⟨rfl, rfl⟩
        have HS1 := Lib.hid (HMISS.out (by omega)); have HS2 := Lib.hid (HMISS2.out (by omega))
        clear hf hd
        go_wp2_with (at_builtin; refine wpList_append1' (α := Ltr) rfl (.tmp 29) (.tmp 31) 29 rfl w.heap.size 89 i1 _ 24 Tryz.underlying29 ji jz0 jz1 jz2 rfl (by decide) (.slice AB bs.length cB) bs x rfl (HB4.out.alloc _) ⟨wl.heap.size, 0, none⟩ 1 (Ltr.cells x) rfl ⟨⟨hxi, hxc⟩, rfl⟩ (news_at wl _ (Ltr.cells x)) (by unfold maxLen; omega) (by omega) (by simp; omega) ?_; intro g cap w5 ho5 hg5 ha5 hl5)
        have HA5 := Lib.hid ((HA4.out.below ((Below.refl _ _).alloc (Nat.le_refl _) (Obj.cells #[Value.int IntKind.i64 x.id, Value.string x.code] 89))).grown hg5 HAP.out)
        have l5 : Below w.heap.size w w5 := (later_alloc l4 (Obj.cells #[Value.int IntKind.i64 x.id, Value.string x.code] 89)).grown hg5 (by simp; omega) fun q hq => (HB4.out.blk q hq).1
        have HAP5 : Hid (apart (.slice (some ⟨g, 0, none⟩) (bs.length + 1) cap) (.slice AA sa.length cA)) := apart_app (apart_symm HAP.out) ha5 fun j hj => by have := (HA4.out.blk j hj).2; simp; omega
        go_wp2
        go_roundw
        case rel => exact ⟨k + 1, by omega, by go_num, l5, by rw [HS1.out]; exact HA5.out, by rw [HS2.out]; exact ho5, apart_symm HAP5.out⟩
        case measure => simp [intOf]; omega
    · have HE := Lib.hid (show k = xs.length by omega)
      go_wp2_with fail
      go_ret3
      rw [HE.out, List.take_length] at hA hB
      exact ⟨_, _, ret_tup (by rw [HF.out] <;> rfl), by rw [HY.out.1]; exact hA, by rw [HY.out.2]; exact hB, HAP.out, lr⟩

end Go.Proofs.YtpinkbodbedajaaGreatDoor

namespace Go.Proofs.YtpinkbodbedajaaGreatDoor
open Go.RowKit

set_option maxRecDepth 100000 in
set_option maxHeartbeats 1600000 in
theorem spec_ForwardBatch (v vb : Value) (fs : List Fwd) (xs : List Ltr) (w : World) (hv : rd w w.heap.size v fs) (hb : rd w w.heap.size vb xs) :
    Calls Tryz.prog 53 #[v, vb] w fun e w' => ∃ vA vB, e = .returned (.tuple #[vA, vB, .bool (fwOk fs xs)]) ∧ own 89 w.heap.size w' vA (fwSent fs xs) ∧ own 89 w.heap.size w' vB (fwStuck fs xs) ∧ apart vA vB ∧ Below w.heap.size w w' := by
  have HV := Lib.hid hv; clear hv
  have HB := Lib.hid hb
  obtain ⟨A, n, c, rfl, hn, hc, hm, hr⟩ := hb
  subst hn
  unfold maxLen at hm
  have HR := Lib.hid hr; clear hr
  have HNO : Hid (∀ h : fwOk fs xs = false, fwSent fs xs = [] ∧ fwStuck fs xs = []) := fun h => by
    unfold fwSent fwStuck; rw [h]; exact ⟨rfl, rfl⟩
  obtain ⟨i1, ji, jz0, jz1, jz2⟩ := info_parts Tryz.infoLtr
  have hz : (w.alloc (Obj.cells #[] 89)).heap.size = w.heap.size + 1 := by simp
  have oA := (own.made0 (α := Ltr) w 89 (Nat.le_refl w.heap.size)).alloc (Obj.cells #[] 89)
  have oB := own.made0 (α := Ltr) (w.alloc (Obj.cells #[] 89)) 89 (base := w.heap.size) (by simp)
  rw [hz] at oB
  have lz : Below w.heap.size w ((w.alloc (Obj.cells #[] 89)).alloc (Obj.cells #[] 89)) := later_alloc (later_alloc (Below.refl _ _) _) _
  have HAP0 : Hid (apart (.slice (some ⟨w.heap.size, 0, none⟩) 0 0) (.slice (some ⟨w.heap.size + 1, 0, none⟩) 0 0)) := .inr (by show some _ ≠ some _; simp)
  have OA := Lib.hid oA; have OB := Lib.hid oB
  clear oA oB hz
  have HQ : Hid (fwOk fs xs = (fwdsOk fs && okB xs)) := rfl
  go_enter Tryz.func53, Tryz.ntmps53
  go_wp2_with fail
  generalize ((w.alloc (Obj.cells #[] 89)).alloc (Obj.cells #[] 89)) = wz at *
  refine (spec_ForwardsValid _ fs _ (HV.out.on lz)).mono ?_
  rintro e w1 ⟨rfl, rfl⟩
  cases h1 : fwdsOk fs
  · have HF : Hid (fwOk fs xs = false) := by show _ = _; rw [HQ.out, h1]; rfl
    clear h1
    go_wp2_with fail
    go_ret3
    exact ⟨_, _, ret_tup (by rw [HF.out] <;> rfl), by rw [(HNO.out HF.out).1]; exact OA.out, by rw [(HNO.out HF.out).2]; exact OB.out, HAP0.out, lz⟩
  have H1 := Lib.hid h1; clear h1
  go_wp2_with fail
  refine (spec_BatchValid _ xs _ (HB.out.on lz)).mono ?_
  rintro e w2 ⟨rfl, b2⟩
  have l2 := later_trans lz b2
  replace OA := Lib.hid (OA.out.below b2); replace OB := Lib.hid (OB.out.below b2)
  clear b2
  cases h2 : okB xs
  · have HF : Hid (fwOk fs xs = false) := by show _ = _; rw [HQ.out, h2]; simp
    clear h2
    go_wp2_with fail
    go_ret3
    exact ⟨_, _, ret_tup (by rw [HF.out] <;> rfl), by rw [(HNO.out HF.out).1]; exact OA.out, by rw [(HNO.out HF.out).2]; exact OB.out, HAP0.out, l2⟩
  have hxl := okB_len' h2
  have hfl := (fwdsOk_iff.1 H1.out).1
  have H2 := Lib.hid h2; clear h2
  have HF : Hid (fwOk fs xs = true) := by show _ = _; rw [HQ.out, H1.out, H2.out]; rfl
  have HY : Hid (fwSent fs xs = sentL fs xs ∧ fwStuck fs xs = stuckL fs xs) := by unfold fwSent fwStuck; rw [HF.out]; exact ⟨rfl, rfl⟩
  clear HB
  go_wp2_with fail
  go_loopw [7, 8, 9] (fun a b i wr => ∃ k : Nat, k ≤ xs.length ∧ i = .int .i64 k ∧ Below w.heap.size w wr ∧ own 89 w.heap.size wr a (sentL fs (xs.take k)) ∧ own 89 w.heap.size wr b (stuckL fs (xs.take k)) ∧ Hid (apart a b)) (fun _ _ i _ => xs.length - (intOf i).toNat)
  case atStart => exact ⟨0, Nat.zero_le _, rfl, l2, OA.out, OB.out, HAP0.out⟩
  case round =>
    obtain ⟨k, hk, rfl, lr, hA, hB, HAP⟩ := hrel
    obtain ⟨w3, rfl⟩ : ∃ w3 : World, w3 = wr := ⟨_, rfl⟩
    clear lz l2 OA OB HAP0
    by_cases hlt : k < xs.length
    · obtain ⟨b, o, rfl, hb, ⟨hxi, hxc⟩, c1, c2⟩ := HR.out.ltrU k hlt
      have HHIT := Lib.hid (sentL_hit (fs := fs) hlt); have HMISS := Lib.hid (sentL_miss (fs := fs) hlt)
      have HHIT2 := Lib.hid (stuckL_hit (fs := fs) hlt); have HMISS2 := Lib.hid (stuckL_miss (fs := fs) hlt)
      have HL1 := Lib.hid (Nat.le_trans (sentL_len fs (xs.take k)) (take_len_le xs k))
      have HL2 := Lib.hid (Nat.le_trans (stuckL_len fs (xs.take k)) (take_len_le xs k))
      have hto : (follow fs xs[k].code).1.size ≤ maxLen := follow_len H1.out hxc
      generalize xs[k] = x at *
      generalize sentL fs (xs.take k) = sa at *
      generalize stuckL fs (xs.take k) = bs at *
      obtain ⟨AA, mA, cA, rfl, hmA, _, _, _⟩ := hA.rd
      subst hmA
      obtain ⟨AB, mB, cB, rfl, hmB, _, _, _⟩ := hB.rd
      subst hmB
      have HA := Lib.hid hA; have HB := Lib.hid hB
      clear hA hB
      have hl1 := HL1.out; have hl2 := HL2.out
      obtain ⟨to, HTO⟩ : ∃ z, Hid ((follow fs x.code).1 = z) := ⟨_, rfl⟩
      obtain ⟨nn, HNN⟩ : ∃ z, Hid ((follow fs x.code).2.1 = z) := ⟨_, rfl⟩
      rw [HTO.out] at hto HHIT
      have hki : (k : Int) < (xs.length : Int) := by omega
      go_wp2_with fail
      refine (spec_l4Resolve _ fs x.code _ (HV.out.on lr) hxc (by omega)).mono ?_
      rw [HTO.out, HNN.out]
      cases hf : (follow fs x.code).2.2
      · rintro e w4 ⟨rfl, b4⟩
        have l4 := later_trans lr b4
        have HA4 := Lib.hid (HA.out.below b4); have HB4 := Lib.hid (HB.out.below b4)
        have HS1 := Lib.hid (HMISS.out hf); have HS2 := Lib.hid (HMISS2.out hf)
        have hs4 : w.heap.size ≤ w4.heap.size := l4.size
        clear b4 hf
        go_wp2_with (at_builtin; refine wpList_append1' (α := Ltr) rfl (.tmp 53) (.tmp 58) 29 rfl w.heap.size 89 i1 _ 24 Tryz.underlying29 ji jz0 jz1 jz2 rfl (by decide) (.slice AB bs.length cB) bs x rfl (HB4.out.alloc _) ⟨w4.heap.size, 0, none⟩ 1 (Ltr.cells x) rfl ⟨⟨hxi, hxc⟩, rfl⟩ (news_at w4 _ (Ltr.cells x)) (by unfold maxLen; omega) (by omega) (by simp; omega) ?_; intro g cap w5 ho5 hg5 ha5 hl5)
        have HA5 := Lib.hid ((HA4.out.below ((Below.refl _ _).alloc (Nat.le_refl _) (Obj.cells #[Value.int IntKind.i64 x.id, Value.string x.code] 89))).grown hg5 HAP.out)
        have l5 : Below w.heap.size w w5 := (later_alloc l4 (Obj.cells #[Value.int IntKind.i64 x.id, Value.string x.code] 89)).grown hg5 (by simp; omega) fun q hq => (HB4.out.blk q hq).1
        have HAP5 : Hid (apart (.slice (some ⟨g, 0, none⟩) (bs.length + 1) cap) (.slice AA sa.length cA)) := apart_app (apart_symm HAP.out) ha5 fun j hj => by have := (HA4.out.blk j hj).2; simp; omega
        go_wp2
        go_roundw
        case rel => exact ⟨k + 1, by omega, by go_num, l5, by rw [HS1.out]; exact HA5.out, by rw [HS2.out]; exact ho5, apart_symm HAP5.out⟩
        case measure => simp [intOf]; omega
      · rintro e w4 ⟨rfl, b4⟩
        have l4 := later_trans lr b4
        have HA4 := Lib.hid (HA.out.below b4); have HB4 := Lib.hid (HB.out.below b4)
        have HS1 := Lib.hid (HHIT.out hf); have HS2 := Lib.hid (HHIT2.out hf)
        have hs4 : w.heap.size ≤ w4.heap.size := l4.size
        clear b4 hf
        obtain ⟨y, hy⟩ : ∃ y : Ltr, y = ⟨x.id, to⟩ := ⟨_, rfl⟩
        have hy1 : x.id = y.id := by rw [hy]
        have hy2 : to = y.code := by rw [hy]
        rw [← hy] at HS1
        rw [hy1] at c1 hxi
        rw [hy2] at hto
        rw [hy2]
        clear hy hy1 hy2
        go_wp2_with (at_builtin; refine wpList_append1' (α := Ltr) rfl (.tmp 43) (.tmp 51) 29 rfl w.heap.size 89 i1 _ 24 Tryz.underlying29 ji jz0 jz1 jz2 rfl (by decide) (.slice AA sa.length cA) sa y rfl (HA4.out.alloc _) ⟨w4.heap.size, 0, none⟩ 1 (Ltr.cells y) rfl ⟨⟨hxi, hto⟩, rfl⟩ (news_at w4 _ (Ltr.cells y)) (by unfold maxLen; omega) (by omega) (by simp; omega) ?_; intro g cap w5 ho5 hg5 ha5 hl5)
        have HB5 := Lib.hid ((HB4.out.below ((Below.refl _ _).alloc (Nat.le_refl _) (Obj.cells #[Value.int IntKind.i64 y.id, Value.string y.code] 89))).grown hg5 (apart_symm HAP.out))
        have l5 : Below w.heap.size w w5 := (later_alloc l4 (Obj.cells #[Value.int IntKind.i64 y.id, Value.string y.code] 89)).grown hg5 (by simp; omega) fun q hq => (HA4.out.blk q hq).1
        have HAP5 : Hid (apart (.slice (some ⟨g, 0, none⟩) (sa.length + 1) cap) (.slice AB bs.length cB)) := apart_app HAP.out ha5 fun j hj => by have := (HB4.out.blk j hj).2; simp; omega
        go_wp2
        go_roundw
        case rel => exact ⟨k + 1, by omega, by go_num, l5, by rw [HS1.out]; exact ho5, by rw [HS2.out]; exact HB5.out, HAP5⟩
        case measure => simp [intOf]; omega
    · have HE := Lib.hid (show k = xs.length by omega)
      go_wp2_with fail
      go_ret3
      rw [HE.out, List.take_length] at hA hB
      exact ⟨_, _, ret_tup (by rw [HF.out] <;> rfl), by rw [HY.out.1]; exact hA, by rw [HY.out.2]; exact hB, HAP.out, lr⟩

set_option maxRecDepth 100000 in
set_option maxHeartbeats 3200000 in
theorem spec_HoldBatch (vb v : Value) (xs : List Ltr) (hs : List ByteArray) (w : World) (hb : rd w w.heap.size vb xs) (hv : rd w w.heap.size v hs) :
    Calls Tryz.prog 54 #[vb, v] w fun e w' => ∃ vA vB, e = .returned (.tuple #[vA, vB, .bool (hbOk hs xs)]) ∧ own 89 w.heap.size w' vA (hbFree hs xs) ∧ own 89 w.heap.size w' vB (hbHeld hs xs) ∧ apart vA vB ∧ Below w.heap.size w w' := by
  have HV := Lib.hid hv; clear hv
  have HB := Lib.hid hb
  obtain ⟨A', n', c', rfl, hn', hc', hm', hr'⟩ := HV.out
  subst hn'
  unfold maxLen at hm'
  have HRS := Lib.hid hr'; clear hr'
  obtain ⟨A, n, c, rfl, hn, hc, hm, hr⟩ := hb
  subst hn
  unfold maxLen at hm
  have HR := Lib.hid hr; clear hr
  have HNO : Hid (∀ h : hbOk hs xs = false, hbFree hs xs = [] ∧ hbHeld hs xs = []) := fun h => by
    unfold hbFree hbHeld; rw [h]; exact ⟨rfl, rfl⟩
  obtain ⟨i1, ji, jz0, jz1, jz2⟩ := info_parts Tryz.infoLtr
  have hz : (w.alloc (Obj.cells #[] 89)).heap.size = w.heap.size + 1 := by simp
  have oA := (own.made0 (α := Ltr) w 89 (Nat.le_refl w.heap.size)).alloc (Obj.cells #[] 89)
  have oB := own.made0 (α := Ltr) (w.alloc (Obj.cells #[] 89)) 89 (base := w.heap.size) (by simp)
  rw [hz] at oB
  have lz : Below w.heap.size w ((w.alloc (Obj.cells #[] 89)).alloc (Obj.cells #[] 89)) := later_alloc (later_alloc (Below.refl _ _) _) _
  have HAP0 : Hid (apart (.slice (some ⟨w.heap.size, 0, none⟩) 0 0) (.slice (some ⟨w.heap.size + 1, 0, none⟩) 0 0)) := .inr (by show some _ ≠ some _; simp)
  have OA := Lib.hid oA; have OB := Lib.hid oB
  clear oA oB hz
  have HQ : Hid (hbOk hs xs = (okB xs && (decide (hs.length ≤ 30) && hs.all isCode))) := rfl
  go_enter Tryz.func54, Tryz.ntmps54
  go_wp2_with fail
  generalize ((w.alloc (Obj.cells #[] 89)).alloc (Obj.cells #[] 89)) = wz at *
  refine (spec_BatchValid _ xs _ (HB.out.on lz)).mono ?_
  rintro e w2 ⟨rfl, b2⟩
  have l2 := later_trans lz b2
  replace OA := Lib.hid (OA.out.below b2); replace OB := Lib.hid (OB.out.below b2)
  clear b2 lz
  cases h2 : okB xs
  · have HF : Hid (hbOk hs xs = false) := by show _ = _; rw [HQ.out, h2]; rfl
    clear h2
    go_wp2_with fail
    go_loopw [9, 10] (fun g i wr => ∃ j : Nat, j ≤ hs.length ∧ i = .int .i64 j ∧ g = .bool false ∧ wr = w2) (fun _ i _ => hs.length - (intOf i).toNat)
    case atStart => exact ⟨0, Nat.zero_le _, rfl, by first | rfl | (simp [h30']; done) | (simp; omega), rfl⟩
    case round =>
      obtain ⟨j, hj, rfl, rfl, rfl⟩ := hrel
      by_cases hlt : j < hs.length
      · have hji : (j : Int) < (hs.length : Int) := by omega
        go_wp2_with fail
        go_roundw
        case rel => exact ⟨j + 1, by omega, by go_num, by first | rfl | trivial, by first | rfl | trivial⟩
        case measure => simp [intOf]; omega
      · have hji : ¬ ((j : Int) < (hs.length : Int)) := by omega
        go_wp2_with fail
        go_loopw [7, 8, 11] (fun a b i wu => a = .slice (some ⟨w.heap.size, 0, none⟩) 0 0 ∧ b = .slice (some ⟨w.heap.size + 1, 0, none⟩) 0 0 ∧ i = .int .i64 0 ∧ wu = wr) (fun _ _ _ _ => 0)
        case atStart => exact ⟨rfl, rfl, rfl, rfl⟩
        case round =>
          obtain ⟨rfl, rfl, rfl, rfl⟩ := hrel
          by_cases hx0 : (0 : Int) < (xs.length : Int)
          all_goals
            go_wp2_with fail
            go_ret3
            exact ⟨_, _, ret_tup (by rw [HF.out] <;> rfl), by rw [(HNO.out HF.out).1]; exact OA.out, by rw [(HNO.out HF.out).2]; exact OB.out, HAP0.out, l2⟩
  have hxl := okB_len' h2
  have H2 := Lib.hid h2; clear h2
  by_cases h30 : hs.length ≤ 30
  rotate_left
  · have HF : Hid (hbOk hs xs = false) := by show _ = _; rw [HQ.out, decide_eq_false h30]; simp
    have h30' : ¬ ((hs.length : Int) ≤ 30) := by omega
    go_wp2_with fail
    go_loopw [9, 10] (fun g i wr => ∃ j : Nat, j ≤ hs.length ∧ i = .int .i64 j ∧ g = .bool false ∧ wr = w2) (fun _ i _ => hs.length - (intOf i).toNat)
    case atStart => exact ⟨0, Nat.zero_le _, rfl, by first | rfl | (simp [h30']; done) | (simp; omega), rfl⟩
    case round =>
      obtain ⟨j, hj, rfl, rfl, rfl⟩ := hrel
      by_cases hlt : j < hs.length
      · have hji : (j : Int) < (hs.length : Int) := by omega
        go_wp2_with fail
        go_roundw
        case rel => exact ⟨j + 1, by omega, by go_num, by first | rfl | trivial, by first | rfl | trivial⟩
        case measure => simp [intOf]; omega
      · have hji : ¬ ((j : Int) < (hs.length : Int)) := by omega
        go_wp2_with fail
        go_loopw [7, 8, 11] (fun a b i wu => a = .slice (some ⟨w.heap.size, 0, none⟩) 0 0 ∧ b = .slice (some ⟨w.heap.size + 1, 0, none⟩) 0 0 ∧ i = .int .i64 0 ∧ wu = wr) (fun _ _ _ _ => 0)
        case atStart => exact ⟨rfl, rfl, rfl, rfl⟩
        case round =>
          obtain ⟨rfl, rfl, rfl, rfl⟩ := hrel
          by_cases hx0 : (0 : Int) < (xs.length : Int)
          all_goals
            go_wp2_with fail
            go_ret3
            exact ⟨_, _, ret_tup (by rw [HF.out] <;> rfl), by rw [(HNO.out HF.out).1]; exact OA.out, by rw [(HNO.out HF.out).2]; exact OB.out, HAP0.out, l2⟩
  have h30' : (hs.length : Int) ≤ 30 := by omega
  have HQ2 : Hid (hbOk hs xs = hs.all isCode) := by show _ = _; rw [HQ.out, H2.out, decide_eq_true h30]; simp
  clear HQ
  go_wp2_with fail
  go_loopw [9, 10] (fun g i wr => ∃ j : Nat, j ≤ hs.length ∧ i = .int .i64 j ∧ g = .bool ((hs.take j).all isCode) ∧ wr = w2) (fun _ i _ => hs.length - (intOf i).toNat)
  case atStart => exact ⟨0, Nat.zero_le _, rfl, by first | rfl | (simp [h30']; done) | (simp; omega), rfl⟩
  case round =>
    obtain ⟨j, hj, rfl, rfl, rfl⟩ := hrel
    by_cases hlt : j < hs.length
    · have hji : (j : Int) < (hs.length : Int) := by omega
      obtain ⟨b', o', rfl, hb', hsz, d1⟩ := HRS.out.strU j hlt
      have HST : Hid ((hs.take (j + 1)).all isCode = ((hs.take j).all isCode && isCode hs[j])) := take_all_succ hs j hlt
      generalize hs[j] = s at *
      cases ha : (hs.take j).all isCode
      · have HG : Hid ((hs.take (j + 1)).all isCode = false) := by show _ = _; rw [HST.out, ha]; rfl
        clear ha
        go_wp2_with fail
        go_roundw
        case rel => exact ⟨j + 1, by omega, by go_num, by first | (rw [HG.out]) | trivial, by first | rfl | trivial⟩
        case measure => simp [intOf]; omega
      · obtain ⟨r, hr⟩ : ∃ r, isCode s = r := ⟨_, rfl⟩
        have HG : Hid ((hs.take (j + 1)).all isCode = r) := by show _ = _; rw [HST.out, ha, hr]; simp
        clear ha
        go_wp2_with fail
        refine (codeS_is hsz hr).mono ?_
        clear hr
        rintro e w5 ⟨rfl, rfl⟩
        go_wp2_with fail
        go_roundw
        case rel => exact ⟨j + 1, by omega, by go_num, by first | (rw [HG.out]) | trivial, by first | rfl | trivial⟩
        case measure => simp [intOf]; omega
    · have hji : ¬ ((j : Int) < (hs.length : Int)) := by omega
      have HJE := Lib.hid (show j = hs.length by omega)
      have HTA : Hid ((hs.take j).all isCode = hbOk hs xs) := by show _ = _; rw [HQ2.out, HJE.out, List.take_length]
      rw [HTA.out]
      cases hg : hbOk hs xs
      · have HF := Lib.hid hg; clear hg
        go_wp2_with fail
        go_loopw [7, 8, 11] (fun a b i wu => a = .slice (some ⟨w.heap.size, 0, none⟩) 0 0 ∧ b = .slice (some ⟨w.heap.size + 1, 0, none⟩) 0 0 ∧ i = .int .i64 0 ∧ wu = wr) (fun _ _ _ _ => 0)
        case atStart => exact ⟨rfl, rfl, rfl, rfl⟩
        case round =>
          obtain ⟨rfl, rfl, rfl, rfl⟩ := hrel
          by_cases hx0 : (0 : Int) < (xs.length : Int)
          all_goals
            go_wp2_with fail
            go_ret3
            exact ⟨_, _, ret_tup (by rw [HF.out] <;> rfl), by rw [(HNO.out HF.out).1]; exact OA.out, by rw [(HNO.out HF.out).2]; exact OB.out, HAP0.out, l2⟩
      · have HF := Lib.hid hg; clear hg
        have HY : Hid (hbFree hs xs = freeL hs xs ∧ hbHeld hs xs = heldL hs xs) := by unfold hbFree hbHeld; rw [HF.out]; exact ⟨rfl, rfl⟩
        clear HB
        go_wp2_with fail
        go_loopw [7, 8, 11] (fun a b i wr => ∃ k : Nat, k ≤ xs.length ∧ i = .int .i64 k ∧ Below w.heap.size w wr ∧ own 89 w.heap.size wr a (freeL hs (xs.take k)) ∧ own 89 w.heap.size wr b (heldL hs (xs.take k)) ∧ Hid (apart a b)) (fun _ _ i _ => xs.length - (intOf i).toNat)
        case atStart => exact ⟨0, Nat.zero_le _, rfl, l2, OA.out, OB.out, HAP0.out⟩
        case round =>
          obtain ⟨k, hk, rfl, lr, hA, hB, HAP⟩ := hrel
          obtain ⟨w3, rfl⟩ : ∃ w3 : World, w3 = wr := ⟨_, rfl⟩
          clear l2 OA OB HAP0
          by_cases hlt : k < xs.length
          · obtain ⟨b, o, rfl, hb, ⟨hxi, hxc⟩, c1, c2⟩ := HR.out.ltrU k hlt
            have HHIT := Lib.hid (freeL_hit (hs := hs) hlt); have HMISS := Lib.hid (freeL_miss (hs := hs) hlt)
            have HHIT2 := Lib.hid (heldL_hit (hs := hs) hlt); have HMISS2 := Lib.hid (heldL_miss (hs := hs) hlt)
            have HL1 := Lib.hid (Nat.le_trans (freeL_len hs (xs.take k)) (take_len_le xs k))
            have HL2 := Lib.hid (Nat.le_trans (heldL_len hs (xs.take k)) (take_len_le xs k))
            generalize xs[k] = x at *
            generalize freeL hs (xs.take k) = sa at *
            generalize heldL hs (xs.take k) = bs at *
            obtain ⟨AA, mA, cA, rfl, hmA, _, _, _⟩ := hA.rd
            subst hmA
            obtain ⟨AB, mB, cB, rfl, hmB, _, _, _⟩ := hB.rd
            subst hmB
            have HA := Lib.hid hA; have HB := Lib.hid hB
            clear hA hB
            have hl1 := HL1.out; have hl2 := HL2.out
            have hki : (k : Int) < (xs.length : Int) := by omega
            have HA4 := HA; have HB4 := HB
            have hs4 : w.heap.size ≤ w3.heap.size := lr.size
            obtain ⟨r, hr⟩ : ∃ r, rkI hs x.code = r := ⟨_, rfl⟩
            rw [hr] at HHIT HMISS HHIT2 HMISS2
            go_wp2_with fail
            refine (l3RankI_is (HV.out.on lr) hr).mono ?_
            clear hr
            rintro e w4 ⟨rfl, rfl⟩
            by_cases hf : r < 0
            · have hf' : ¬ (0 ≤ r) := by omega
              have HS1 := Lib.hid (HHIT.out hf); have HS2 := Lib.hid (HHIT2.out hf)
              go_wp2_with (at_builtin; refine wpList_append1' (α := Ltr) rfl (.tmp 59) (.tmp 64) 29 rfl w.heap.size 89 i1 _ 24 Tryz.underlying29 ji jz0 jz1 jz2 rfl (by decide) (.slice AA sa.length cA) sa x rfl (HA4.out.alloc _) ⟨w3.heap.size, 0, none⟩ 1 (Ltr.cells x) rfl ⟨⟨hxi, hxc⟩, rfl⟩ (news_at w3 _ (Ltr.cells x)) (by unfold maxLen; omega) (by omega) (by simp; omega) ?_; intro g cap w5 ho5 hg5 ha5 hl5)
              have HB5 := Lib.hid ((HB4.out.below ((Below.refl _ _).alloc (Nat.le_refl _) (Obj.cells #[Value.int IntKind.i64 x.id, Value.string x.code] 89))).grown hg5 (apart_symm HAP.out))
              have l5 : Below w.heap.size w w5 := (later_alloc lr (Obj.cells #[Value.int IntKind.i64 x.id, Value.string x.code] 89)).grown hg5 (by simp; omega) fun q hq => (HA4.out.blk q hq).1
              have HAP5 : Hid (apart (.slice (some ⟨g, 0, none⟩) (sa.length + 1) cap) (.slice AB bs.length cB)) := apart_app HAP.out ha5 fun j hj => by have := (HB4.out.blk j hj).2; simp; omega
              go_wp2
              go_roundw
              case rel => exact ⟨k + 1, by omega, by go_num, l5, by rw [HS1.out]; exact ho5, by rw [HS2.out]; exact HB5.out, HAP5⟩
              case measure => simp [intOf]; omega
            · have hf' : 0 ≤ r := by omega
              have HS1 := Lib.hid (HMISS.out (by omega)); have HS2 := Lib.hid (HMISS2.out (by omega))
              go_wp2_with (at_builtin; refine wpList_append1' (α := Ltr) rfl (.tmp 52) (.tmp 57) 29 rfl w.heap.size 89 i1 _ 24 Tryz.underlying29 ji jz0 jz1 jz2 rfl (by decide) (.slice AB bs.length cB) bs x rfl (HB4.out.alloc _) ⟨w3.heap.size, 0, none⟩ 1 (Ltr.cells x) rfl ⟨⟨hxi, hxc⟩, rfl⟩ (news_at w3 _ (Ltr.cells x)) (by unfold maxLen; omega) (by omega) (by simp; omega) ?_; intro g cap w5 ho5 hg5 ha5 hl5)
              have HA5 := Lib.hid ((HA4.out.below ((Below.refl _ _).alloc (Nat.le_refl _) (Obj.cells #[Value.int IntKind.i64 x.id, Value.string x.code] 89))).grown hg5 HAP.out)
              have l5 : Below w.heap.size w w5 := (later_alloc lr (Obj.cells #[Value.int IntKind.i64 x.id, Value.string x.code] 89)).grown hg5 (by simp; omega) fun q hq => (HB4.out.blk q hq).1
              have HAP5 : Hid (apart (.slice (some ⟨g, 0, none⟩) (bs.length + 1) cap) (.slice AA sa.length cA)) := apart_app (apart_symm HAP.out) ha5 fun j hj => by have := (HA4.out.blk j hj).2; simp; omega
              go_wp2
              go_roundw
              case rel => exact ⟨k + 1, by omega, by go_num, l5, by rw [HS1.out]; exact HA5.out, by rw [HS2.out]; exact ho5, apart_symm HAP5.out⟩
              case measure => simp [intOf]; omega
          · have HE := Lib.hid (show k = xs.length by omega)
            have hki : ¬ ((k : Int) < (xs.length : Int)) := by omega
            go_wp2_with fail
            go_ret3
            rw [HE.out, List.take_length] at hA hB
            exact ⟨_, _, ret_tup (by rw [HF.out] <;> rfl), by rw [HY.out.1]; exact hA, by rw [HY.out.2]; exact hB, HAP.out, lr⟩

end Go.Proofs.YtpinkbodbedajaaGreatDoor
