/- DA DB W4 B5 -/
import Derived.Test.YtpinkbodbedajaaGreatDoorQ12
import Derived.Test.YtpinkbodbedajaaGreatDoorQ8
import Derived.Test.YtpinkbodbedajaaGreatDoorQ3
namespace Go.Proofs.YtpinkbodbedajaaGreatDoor
open Go.RowKit

theorem isCode_len {c : ByteArray} (h : isCode c = true) : c.size ≤ maxLen := by
  unfold isCode at h
  simp only [Bool.and_eq_true, beq_iff_eq] at h
  unfold maxLen; omega
theorem okB_code {xs : List Ltr} (h : okB xs = true) {k : Nat} (hk : k < xs.length) : isCode xs[k].code = true := ((okB_iff.1 h).2 k hk).2.2.1
theorem follow_len {fs : List Fwd} {c : ByteArray} (h : fwdsOk fs = true) (hc : c.size ≤ maxLen) : (follow fs c).1.size ≤ maxLen := by
  refine (followN_size (fun x hx => ?_) _ _ _ hc).1
  obtain ⟨k, hk, rfl⟩ := List.getElem_of_mem hx
  exact isCode_len ((fwdsOk_iff.1 h).2 k hk).2.1
theorem fwOk_iff {fs : List Fwd} {xs : List Ltr} : fwOk fs xs = true ↔ fwdsOk fs = true ∧ okB xs = true := by unfold fwOk; rw [Bool.and_eq_true]
theorem hbOk_iff {hs : List ByteArray} {xs : List Ltr} : hbOk hs xs = true ↔ okB xs = true ∧ heldOk hs = true := by unfold hbOk; rw [Bool.and_eq_true]

set_option maxRecDepth 100000 in
set_option maxHeartbeats 1600000 in
theorem impl_ForwardBatch (v vb : Value) (fs : List Fwd) (xs : List Ltr) (w : World) (hv : rd w w.heap.size v fs) (hb : rd w w.heap.size vb xs) :
    Calls Tryz.prog 49 #[v, vb] w fun e w' => ∃ vA vB, e = .returned (.tuple #[vA, vB, .bool (fwOk fs xs)]) ∧ own 89 w.heap.size w' vA (fwSent fs xs) ∧ own 89 w.heap.size w' vB (fwStuck fs xs) ∧ apart vA vB ∧ Below w.heap.size w w' := by
  have HV := Lib.hid hv; clear hv
  have HB := Lib.hid hb
  obtain ⟨A, n, c, rfl, hn, hc, hm, hr⟩ := hb
  subst hn
  unfold maxLen at hm
  have HR := Lib.hid hr; clear hr
  have l0 := Below.refl w.heap.size w
  have HNO : Hid (∀ h : fwOk fs xs = false, fwSent fs xs = [] ∧ fwStuck fs xs = []) := fun h => by
    unfold fwSent fwStuck; rw [h]; exact ⟨rfl, rfl⟩
  have HQ : Hid (fwOk fs xs = (fwdsOk fs && okB xs)) := rfl
  obtain ⟨i1, ji, jz0, jz1, jz2⟩ := info_parts Tryz.infoLtr
  go_enter Tryz.func49, Tryz.ntmps49
  go_wp2_with fail
  refine (impl_ForwardsValid _ fs _ HV.out).mono ?_
  rintro e w1 ⟨rfl, b1⟩
  have l1 := later_trans l0 b1
  cases h1 : fwdsOk fs
  · have HF : Hid (fwOk fs xs = false) := by show _ = _; rw [HQ.out, h1]; rfl
    clear h1
    go_wp2_with fail
    go_ret3
    exact ⟨_, _, ret_tup (by rw [HF.out] <;> rfl), by rw [(HNO.out HF.out).1]; exact own.nil_ _ _ _, by rw [(HNO.out HF.out).2]; exact own.nil_ _ _ _, .inl rfl, l1⟩
  have H1 := Lib.hid h1; clear h1
  go_wp2_with fail
  refine (impl_BatchValid _ xs _ (HB.out.on l1)).mono ?_
  rintro e w2 ⟨rfl, b2⟩
  have l2 := later_trans l1 b2
  clear b1 b2
  cases h2 : okB xs
  · have HF : Hid (fwOk fs xs = false) := by show _ = _; rw [HQ.out, h2]; simp
    clear h2
    go_wp2_with fail
    go_ret3
    exact ⟨_, _, ret_tup (by rw [HF.out] <;> rfl), by rw [(HNO.out HF.out).1]; exact own.nil_ _ _ _, by rw [(HNO.out HF.out).2]; exact own.nil_ _ _ _, .inl rfl, l2⟩
  have hxl := okB_len' h2
  have hfl := (fwdsOk_iff.1 H1.out).1
  have H2 := Lib.hid h2; clear h2
  have HF : Hid (fwOk fs xs = true) := by show _ = _; rw [HQ.out, H1.out, H2.out]; rfl
  have HY : Hid (fwSent fs xs = sentL fs xs ∧ fwStuck fs xs = stuckL fs xs) := by unfold fwSent fwStuck; rw [HF.out]; exact ⟨rfl, rfl⟩
  clear HB
  go_wp2_with fail
  go_loopw [7, 8, 24] (fun a b i wr => ∃ k : Nat, k ≤ xs.length ∧ i = .int .i64 k ∧ Below w.heap.size w wr ∧ own 89 w.heap.size wr a (sentL fs (xs.take k)) ∧ own 89 w.heap.size wr b (stuckL fs (xs.take k)) ∧ Hid (apart a b)) (fun _ _ i _ => xs.length - (intOf i).toNat)
  case atStart => exact ⟨0, Nat.zero_le _, rfl, l2, own.nil_ _ _ _, own.nil_ _ _ _, .inl rfl⟩
  case round =>
    obtain ⟨k, hk, rfl, lr, hA, hB, HAP⟩ := hrel
    obtain ⟨w3, rfl⟩ : ∃ w3 : World, w3 = wr := ⟨_, rfl⟩
    clear l0 l1 l2
    by_cases hlt : k < xs.length
    · obtain ⟨b, o, rfl, hb, ⟨hxi, hxc⟩, c1, c2⟩ := HR.out.ltrU k hlt
      have HHIT := Lib.hid (sentL_hit (fs := fs) hlt); have HMISS := Lib.hid (sentL_miss (fs := fs) hlt)
      have HHIT2 := Lib.hid (stuckL_hit (fs := fs) hlt); have HMISS2 := Lib.hid (stuckL_miss (fs := fs) hlt)
      have HL1 := Lib.hid (Nat.le_trans (sentL_len fs (xs.take k)) (take_len_le xs k))
      have HL2 := Lib.hid (Nat.le_trans (stuckL_len fs (xs.take k)) (take_len_le xs k))
      have hto : (follow fs xs[k].code).1.size ≤ maxLen := follow_len H1.out hxc
      generalize xs[k] = x at *
      generalize sentL fs (xs.take k) = sa at *
      generalize stuckL fs (xs.take k) = bs at *
      obtain ⟨AA, mA, cA, rfl, hmA, _, _, _⟩ := hA.rd
      subst hmA
      obtain ⟨AB, mB, cB, rfl, hmB, _, _, _⟩ := hB.rd
      subst hmB
      have HA := Lib.hid hA; have HB := Lib.hid hB
      clear hA hB
      have hl1 := HL1.out; have hl2 := HL2.out
      obtain ⟨to, HTO⟩ : ∃ z, Hid ((follow fs x.code).1 = z) := ⟨_, rfl⟩
      obtain ⟨nn, HNN⟩ : ∃ z, Hid ((follow fs x.code).2.1 = z) := ⟨_, rfl⟩
      rw [HTO.out] at hto HHIT
      have hki : (k : Int) < (xs.length : Int) := by omega
      obtain ⟨wl, hwl⟩ : ∃ wl : World, wl = w3.alloc (Obj.cells #[.int .i64 x.id, .string x.code] 89) := ⟨_, rfl⟩
      have y0 := box_cells hwl 0 (.int .i64 x.id) rfl
      have y1 := box_cells hwl 1 (.string x.code) rfl
      have ll := later_trans lr (box_later hwl).1
      have BL := Lib.hid (box_later hwl).1
      have HWL2 := Lib.hid hwl; clear hwl
      go_wp2_with fail
      rw [← HWL2.out]
      refine (impl_followOrders _ fs x.code _ (HV.out.on ll) hxc (by omega)).mono ?_
      rw [HTO.out, HNN.out]
      cases hf : (follow fs x.code).2.2
      · rintro e w4 ⟨rfl, b4⟩
        have l4 := later_trans ll b4
        have m4 := later_trans (Below.refl wl.heap.size wl) b4
        have B4 := BL.out.trans (m4.mono BL.out.size)
        have HA4 := Lib.hid (HA.out.below B4); have HB4 := Lib.hid (HB.out.below B4)
        have HS1 := Lib.hid (HMISS.out hf); have HS2 := Lib.hid (HMISS2.out hf)
        have hs4 : w.heap.size ≤ w4.heap.size := l4.size
        clear b4 B4 hf
        go_wp2_with (at_builtin; refine wpList_append1' (α := Ltr) rfl (.tmp 44) (.tmp 46) 29 rfl w.heap.size 89 i1 _ 24 Tryz.underlying29 ji jz0 jz1 jz2 rfl (by decide) (.slice AB bs.length cB) bs x rfl (HB4.out.alloc _) ⟨w4.heap.size, 0, none⟩ 1 (Ltr.cells x) rfl ⟨⟨hxi, hxc⟩, rfl⟩ (news_at w4 _ (Ltr.cells x)) (by unfold maxLen; omega) (by omega) (by simp; omega) ?_; intro g cap w5 ho5 hg5 ha5 hl5)
        have HA5 := Lib.hid ((HA4.out.below ((Below.refl _ _).alloc (Nat.le_refl _) (Obj.cells #[Value.int IntKind.i64 x.id, Value.string x.code] 89))).grown hg5 HAP.out)
        have l5 : Below w.heap.size w w5 := (later_alloc l4 (Obj.cells #[Value.int IntKind.i64 x.id, Value.string x.code] 89)).grown hg5 (by simp; omega) fun q hq => (HB4.out.blk q hq).1
        have HAP5 : Hid (apart (.slice (some ⟨g, 0, none⟩) (bs.length + 1) cap) (.slice AA sa.length cA)) := apart_app (apart_symm HAP.out) ha5 fun j hj => by have := (HA4.out.blk j hj).2; simp; omega
        go_wp2
        go_roundw
        case rel => exact ⟨k + 1, by omega, by go_num, l5, by rw [HS1.out]; exact HA5.out, by rw [HS2.out]; exact ho5, apart_symm HAP5.out⟩
        case measure => simp [intOf]; omega
      · rintro e w4 ⟨rfl, b4⟩
        have l4 := later_trans ll b4
        have m4 := later_trans (Below.refl wl.heap.size wl) b4
        have B4 := BL.out.trans (m4.mono BL.out.size)
        have HA4 := Lib.hid (HA.out.below B4); have HB4 := Lib.hid (HB.out.below B4)
        have HS1 := Lib.hid (HHIT.out hf); have HS2 := Lib.hid (HHIT2.out hf)
        have hs4 : w.heap.size ≤ w4.heap.size := l4.size
        clear b4 B4 hf
        obtain ⟨y, hy⟩ : ∃ y : Ltr, y = ⟨x.id, to⟩ := ⟨_, rfl⟩
        have hy1 : x.id = y.id := by rw [hy]
        have hy2 : to = y.code := by rw [hy]
        rw [← hy] at HS1
        rw [hy1] at y0 hxi
        rw [hy2] at hto
        rw [hy2]
        clear hy hy1 hy2
        go_wp2_with (at_builtin; refine wpList_append1' (α := Ltr) rfl (.tmp 37) (.tmp 42) 29 rfl w.heap.size 89 i1 _ 24 Tryz.underlying29 ji jz0 jz1 jz2 rfl (by decide) (.slice AA sa.length cA) sa y rfl (HA4.out.alloc _) ⟨w4.heap.size, 0, none⟩ 1 (Ltr.cells y) rfl ⟨⟨hxi, hto⟩, rfl⟩ (news_at w4 _ (Ltr.cells y)) (by unfold maxLen; omega) (by omega) (by simp; omega) ?_; intro g cap w5 ho5 hg5 ha5 hl5)
        have HB5 := Lib.hid ((HB4.out.below ((Below.refl _ _).alloc (Nat.le_refl _) (Obj.cells #[Value.int IntKind.i64 y.id, Value.string y.code] 89))).grown hg5 (apart_symm HAP.out))
        have l5 : Below w.heap.size w w5 := (later_alloc l4 (Obj.cells #[Value.int IntKind.i64 y.id, Value.string y.code] 89)).grown hg5 (by simp; omega) fun q hq => (HA4.out.blk q hq).1
        have HAP5 : Hid (apart (.slice (some ⟨g, 0, none⟩) (sa.length + 1) cap) (.slice AB bs.length cB)) := apart_app HAP.out ha5 fun j hj => by have := (HB4.out.blk j hj).2; simp; omega
        go_wp2
        go_roundw
        case rel => exact ⟨k + 1, by omega, by go_num, l5, by rw [HS1.out]; exact ho5, by rw [HS2.out]; exact HB5.out, HAP5⟩
        case measure => simp [intOf]; omega
    · have HE := Lib.hid (show k = xs.length by omega)
      go_wp2_with fail
      go_ret3
      rw [HE.out, List.take_length] at hA hB
      exact ⟨_, _, ret_tup (by rw [HF.out] <;> rfl), by rw [HY.out.1]; exact hA, by rw [HY.out.2]; exact hB, HAP.out, lr⟩

set_option maxRecDepth 100000 in
set_option maxHeartbeats 1600000 in
theorem impl_HoldBatch (vb v : Value) (xs : List Ltr) (hs : List ByteArray) (w : World) (hb : rd w w.heap.size vb xs) (hv : rd w w.heap.size v hs) :
    Calls Tryz.prog 50 #[vb, v] w fun e w' => ∃ vA vB, e = .returned (.tuple #[vA, vB, .bool (hbOk hs xs)]) ∧ own 89 w.heap.size w' vA (hbFree hs xs) ∧ own 89 w.heap.size w' vB (hbHeld hs xs) ∧ apart vA vB ∧ Below w.heap.size w w' := by
  have HV := Lib.hid hv; clear hv
  have HB := Lib.hid hb
  obtain ⟨A, n, c, rfl, hn, hc, hm, hr⟩ := hb
  subst hn
  unfold maxLen at hm
  have HR := Lib.hid hr; clear hr
  have l0 := Below.refl w.heap.size w
  have HNO : Hid (∀ h : hbOk hs xs = false, hbFree hs xs = [] ∧ hbHeld hs xs = []) := fun h => by
    unfold hbFree hbHeld; rw [h]; exact ⟨rfl, rfl⟩
  have HQ : Hid (hbOk hs xs = (okB xs && heldOk hs)) := rfl
  obtain ⟨i1, ji, jz0, jz1, jz2⟩ := info_parts Tryz.infoLtr
  go_enter Tryz.func50, Tryz.ntmps50
  go_wp2_with fail
  refine (impl_BatchValid _ xs _ HB.out).mono ?_
  rintro e w1 ⟨rfl, b1⟩
  have l1 := later_trans l0 b1
  cases h1 : okB xs
  · have HF : Hid (hbOk hs xs = false) := by show _ = _; rw [HQ.out, h1]; rfl
    clear h1
    go_wp2_with fail
    go_ret3
    exact ⟨_, _, ret_tup (by rw [HF.out] <;> rfl), by rw [(HNO.out HF.out).1]; exact own.nil_ _ _ _, by rw [(HNO.out HF.out).2]; exact own.nil_ _ _ _, .inl rfl, l1⟩
  have hxl := okB_len' h1
  have H1 := Lib.hid h1; clear h1
  go_wp2_with fail
  refine (impl_heldValid _ hs _ (HV.out.on l1)).mono ?_
  rintro e w2 ⟨rfl, rfl⟩
  clear b1
  cases h2 : heldOk hs
  · have HF : Hid (hbOk hs xs = false) := by show _ = _; rw [HQ.out, h2]; simp
    clear h2
    go_wp2_with fail
    go_ret3
    exact ⟨_, _, ret_tup (by rw [HF.out] <;> rfl), by rw [(HNO.out HF.out).1]; exact own.nil_ _ _ _, by rw [(HNO.out HF.out).2]; exact own.nil_ _ _ _, .inl rfl, l1⟩
  have H2 := Lib.hid h2; clear h2
  have HF : Hid (hbOk hs xs = true) := by show _ = _; rw [HQ.out, H1.out, H2.out]; rfl
  have HY : Hid (hbFree hs xs = freeL hs xs ∧ hbHeld hs xs = heldL hs xs) := by unfold hbFree hbHeld; rw [HF.out]; exact ⟨rfl, rfl⟩
  clear HB
  go_wp2_with fail
  go_loopw [7, 8, 21] (fun a b i wr => ∃ k : Nat, k ≤ xs.length ∧ i = .int .i64 k ∧ Below w.heap.size w wr ∧ own 89 w.heap.size wr a (freeL hs (xs.take k)) ∧ own 89 w.heap.size wr b (heldL hs (xs.take k)) ∧ Hid (apart a b)) (fun _ _ i _ => xs.length - (intOf i).toNat)
  case atStart => exact ⟨0, Nat.zero_le _, rfl, l1, own.nil_ _ _ _, own.nil_ _ _ _, .inl rfl⟩
  case round =>
    obtain ⟨k, hk, rfl, lr, hA, hB, HAP⟩ := hrel
    obtain ⟨w3, rfl⟩ : ∃ w3 : World, w3 = wr := ⟨_, rfl⟩
    clear l0 l1
    by_cases hlt : k < xs.length
    · obtain ⟨b, o, rfl, hb, ⟨hxi, hxc⟩, c1, c2⟩ := HR.out.ltrU k hlt
      have HHIT := Lib.hid (freeL_hit (hs := hs) hlt); have HMISS := Lib.hid (freeL_miss (hs := hs) hlt)
      have HHIT2 := Lib.hid (heldL_hit (hs := hs) hlt); have HMISS2 := Lib.hid (heldL_miss (hs := hs) hlt)
      have HL1 := Lib.hid (Nat.le_trans (freeL_len hs (xs.take k)) (take_len_le xs k))
      have HL2 := Lib.hid (Nat.le_trans (heldL_len hs (xs.take k)) (take_len_le xs k))
      generalize xs[k] = x at *
      generalize freeL hs (xs.take k) = sa at *
      generalize heldL hs (xs.take k) = bs at *
      obtain ⟨AA, mA, cA, rfl, hmA, _, _, _⟩ := hA.rd
      subst hmA
      obtain ⟨AB, mB, cB, rfl, hmB, _, _, _⟩ := hB.rd
      subst hmB
      have HA := Lib.hid hA; have HB := Lib.hid hB
      clear hA hB
      have hl1 := HL1.out; have hl2 := HL2.out
      have hki : (k : Int) < (xs.length : Int) := by omega
      obtain ⟨wl, hwl⟩ : ∃ wl : World, wl = w3.alloc (Obj.cells #[.int .i64 x.id, .string x.code] 89) := ⟨_, rfl⟩
      have y0 := box_cells hwl 0 (.int .i64 x.id) rfl
      have y1 := box_cells hwl 1 (.string x.code) rfl
      have l4 := later_trans lr (box_later hwl).1
      have BL := Lib.hid (box_later hwl).1
      have HWL2 := Lib.hid hwl; clear hwl
      have m4 := Below.refl wl.heap.size wl
      have HA4 := Lib.hid (HA.out.below BL.out); have HB4 := Lib.hid (HB.out.below BL.out)
      have hs4 : w.heap.size ≤ wl.heap.size := l4.size
      go_wp2_with fail
      rw [← HWL2.out]
      refine (slices_ContainsS _ hs x.code _ (HV.out.on l4)).mono ?_
      by_cases hf : rkI hs x.code < 0
      · have hd : decide (0 ≤ rkI hs x.code) = false := by simp; omega
        rw [hd]
        rintro e w4 ⟨rfl, rfl⟩
        have HS1 := Lib.hid (HHIT.out hf); have HS2 := Lib.hid (HHIT2.out hf)
        clear hf hd
        go_wp2_with (at_builtin; refine wpList_append1' (α := Ltr) rfl (.tmp 33) (.tmp 35) 29 rfl w.heap.size 89 i1 _ 24 Tryz.underlying29 ji jz0 jz1 jz2 rfl (by decide) (.slice AA sa.length cA) sa x rfl (HA4.out.alloc _) ⟨wl.heap.size, 0, none⟩ 1 (Ltr.cells x) rfl ⟨⟨hxi, hxc⟩, rfl⟩ (news_at wl _ (Ltr.cells x)) (by unfold maxLen; omega) (by omega) (by simp; omega) ?_; intro g cap w5 ho5 hg5 ha5 hl5)
        have HB5 := Lib.hid ((HB4.out.below ((Below.refl _ _).alloc (Nat.le_refl _) (Obj.cells #[Value.int IntKind.i64 x.id, Value.string x.code] 89))).grown hg5 (apart_symm HAP.out))
        have l5 : Below w.heap.size w w5 := (later_alloc l4 (Obj.cells #[Value.int IntKind.i64 x.id, Value.string x.code] 89)).grown hg5 (by simp; omega) fun q hq => (HA4.out.blk q hq).1
        have HAP5 : Hid (apart (.slice (some ⟨g, 0, none⟩) (sa.length + 1) cap) (.slice AB bs.length cB)) := apart_app HAP.out ha5 fun j hj => by have := (HB4.out.blk j hj).2; simp; omega
        go_wp2
        go_roundw
        case rel => exact ⟨k + 1, by omega, by go_num, l5, by rw [HS1.out]; exact ho5, by rw [HS2.out]; exact HB5.out, HAP5⟩
        case measure => simp [intOf]; omega
      · have hd : decide (0 ≤ rkI hs x.code) = true := by simp; omega
        rw [hd]
        rintro e w4 ⟨rfl, rfl⟩
        have HS1 := Lib.hid (HMISS.out (by omega)); have HS2 := Lib.hid (HMISS2.out (by omega))
        clear hf hd
        go_wp2_with (at_builtin; refine wpList_append1' (α := Ltr) rfl (.tmp 29) (.tmp 31) 29 rfl w.heap.size 89 i1 _ 24 Tryz.underlying29 ji jz0 jz1 jz2 rfl (by decide) (.slice AB bs.length cB) bs x rfl (HB4.out.alloc _) ⟨wl.heap.size, 0, none⟩ 1 (Ltr.cells x) rfl ⟨⟨hxi, hxc⟩, rfl⟩ (news_at wl _ (Ltr.cells x)) (by unfold maxLen; omega) (by omega) (by simp; omega) ?_; intro g cap w5 ho5 hg5 ha5 hl5)
        have HA5 := Lib.hid ((HA4.out.below ((Below.refl _ _).alloc (Nat.le_refl _) (Obj.cells #[Value.int IntKind.i64 x.id, Value.string x.code] 89))).grown hg5 HAP.out)
        have l5 : Below w.heap.size w w5 := (later_alloc l4 (Obj.cells #[Value.int IntKind.i64 x.id, Value.string x.code] 89)).grown hg5 (by simp; omega) fun q hq => (HB4.out.blk q hq).1
        have HAP5 : Hid (apart (.slice (some ⟨g, 0, none⟩) (bs.length + 1) cap) (.slice AA sa.length cA)) := apart_app (apart_symm HAP.out) ha5 fun j hj => by have := (HA4.out.blk j hj).2; simp; omega
        go_wp2
        go_roundw
        case rel => exact ⟨k + 1, by omega, by go_num, l5, by rw [HS1.out]; exact HA5.out, by rw [HS2.out]; exact ho5, apart_symm HAP5.out⟩
        case measure => simp [intOf]; omega
    · have HE := Lib.hid (show k = xs.length by omega)
      go_wp2_with fail
      go_ret3
      rw [HE.out, List.take_length] at hA hB
      exact ⟨_, _, ret_tup (by rw [HF.out] <;> rfl), by rw [HY.out.1]; exact hA, by rw [HY.out.2]; exact hB, HAP.out, lr⟩

end Go.Proofs.YtpinkbodbedajaaGreatDoor

namespace Go.Proofs.YtpinkbodbedajaaGreatDoor
open Go.RowKit

set_option maxRecDepth 100000 in
set_option maxHeartbeats 1600000 in
theorem spec_ForwardBatch (v vb : Value) (fs : List Fwd) (xs : List Ltr) (w : World) (hv : rd w w.heap.size v fs) (hb : rd w w.heap.size vb xs) :
    Calls Tryz.prog 53 #[v, vb] w fun e w' => ∃ vA vB, e = .returned (.tuple #[vA, vB, .bool (fwOk fs xs)]) ∧ own 89 w.heap.size w' vA (fwSent fs xs) ∧ own 89 w.heap.size w' vB (fwStuck fs xs) ∧ apart vA vB ∧ Below w.heap.size w w' := by
  have HV := Lib.hid hv; clear hv
  have HB := Lib.hid hb
  obtain ⟨A, n, c, rfl, hn, hc, hm, hr⟩ := hb
  subst hn
  unfold maxLen at hm
  have HR := Lib.hid hr; clear hr
  have HNO : Hid (∀ h : fwOk fs xs = false, fwSent fs xs = [] ∧ fwStuck fs xs = []) := fun h => by
    unfold fwSent fwStuck; rw [h]; exact ⟨rfl, rfl⟩
  obtain ⟨i1, ji, jz0, jz1, jz2⟩ := info_parts Tryz.infoLtr
  have hz : (w.alloc (Obj.cells #[] 89)).heap.size = w.heap.size + 1 := by simp
  have oA := (own.made0 (α := Ltr) w 89 (Nat.le_refl w.heap.size)).alloc (Obj.cells #[] 89)
  have oB := own.made0 (α := Ltr) (w.alloc (Obj.cells #[] 89)) 89 (base := w.heap.size) (by simp)
  rw [hz] at oB
  have lz : Below w.heap.size w ((w.alloc (Obj.cells #[] 89)).alloc (Obj.cells #[] 89)) := later_alloc (later_alloc (Below.refl _ _) _) _
  have HAP0 : Hid (apart (.slice (some ⟨w.heap.size, 0, none⟩) 0 0) (.slice (some ⟨w.heap.size + 1, 0, none⟩) 0 0)) := .inr (by show some _ ≠ some _; simp)
  have OA := Lib.hid oA; have OB := Lib.hid oB
  clear oA oB hz
  have HQ : Hid (fwOk fs xs = (fwdsOk fs && okB xs)) := rfl
  go_enter Tryz.func53, Tryz.ntmps53
  go_wp2_with fail
  generalize ((w.alloc (Obj.cells #[] 89)).alloc (Obj.cells #[] 89)) = wz at *
  refine (spec_ForwardsValid _ fs _ (HV.out.on lz)).mono ?_
  rintro e w1 ⟨rfl, rfl⟩
  cases h1 : fwdsOk fs
  · have HF : Hid (fwOk fs xs = false) := by show _ = _; rw [HQ.out, h1]; rfl
    clear h1
    go_wp2_with fail
    go_ret3
    exact ⟨_, _, ret_tup (by rw [HF.out] <;> rfl), by rw [(HNO.out HF.out).1]; exact OA.out, by rw [(HNO.out HF.out).2]; exact OB.out, HAP0.out, lz⟩
  have H1 := Lib.hid h1; clear h1
  go_wp2_with fail
  refine (spec_BatchValid _ xs _ (HB.out.on lz)).mono ?_
  rintro e w2 ⟨rfl, b2⟩
  have l2 := later_trans lz b2
  replace OA := Lib.hid (OA.out.below b2); replace OB := Lib.hid (OB.out.below b2)
  clear b2
  cases h2 : okB xs
  · have HF : Hid (fwOk fs xs = false) := by show _ = _; rw [HQ.out, h2]; simp
    clear h2
    go_wp2_with fail
    go_ret3
    exact ⟨_, _, ret_tup (by rw [HF.out] <;> rfl), by rw [(HNO.out HF.out).1]; exact OA.out, by rw [(HNO.out HF.out).2]; exact OB.out, HAP0.out, l2⟩
  have hxl := okB_len' h2
  have hfl := (fwdsOk_iff.1 H1.out).1
  have H2 := Lib.hid h2; clear h2
  have HF : Hid (fwOk fs xs = true) := by show _ = _; rw [HQ.out, H1.out, H2.out]; rfl
  have HY : Hid (fwSent fs xs = sentL fs xs ∧ fwStuck fs xs = stuckL fs xs) := by unfold fwSent fwStuck; rw [HF.out]; exact ⟨rfl, rfl⟩
  clear HB
  go_wp2_with fail
  go_loopw [7, 8, 9] (fun a b i wr => ∃ k : Nat, k ≤ xs.length ∧ i = .int .i64 k ∧ Below w.heap.size w wr ∧ own 89 w.heap.size wr a (sentL fs (xs.take k)) ∧ own 89 w.heap.size wr b (stuckL fs (xs.take k)) ∧ Hid (apart a b)) (fun _ _ i _ => xs.length - (intOf i).toNat)
  case atStart => exact ⟨0, Nat.zero_le _, rfl, l2, OA.out, OB.out, HAP0.out⟩
  case round =>
    obtain ⟨k, hk, rfl, lr, hA, hB, HAP⟩ := hrel
    obtain ⟨w3, rfl⟩ : ∃ w3 : World, w3 = wr := ⟨_, rfl⟩
    clear lz l2 OA OB HAP0
    by_cases hlt : k < xs.length
    · obtain ⟨b, o, rfl, hb, ⟨hxi, hxc⟩, c1, c2⟩ := HR.out.ltrU k hlt
      have HHIT := Lib.hid (sentL_hit (fs := fs) hlt); have HMISS := Lib.hid (sentL_miss (fs := fs) hlt)
      have HHIT2 := Lib.hid (stuckL_hit (fs := fs) hlt); have HMISS2 := Lib.hid (stuckL_miss (fs := fs) hlt)
      have HL1 := Lib.hid (Nat.le_trans (sentL_len fs (xs.take k)) (take_len_le xs k))
      have HL2 := Lib.hid (Nat.le_trans (stuckL_len fs (xs.take k)) (take_len_le xs k))
      have hto : (follow fs xs[k].code).1.size ≤ maxLen := follow_len H1.out hxc
      generalize xs[k] = x at *
      generalize sentL fs (xs.take k) = sa at *
      generalize stuckL fs (xs.take k) = bs at *
      obtain ⟨AA, mA, cA, rfl, hmA, _, _, _⟩ := hA.rd
      subst hmA
      obtain ⟨AB, mB, cB, rfl, hmB, _, _, _⟩ := hB.rd
      subst hmB
      have HA := Lib.hid hA; have HB := Lib.hid hB
      clear hA hB
      have hl1 := HL1.out; have hl2 := HL2.out
      obtain ⟨to, HTO⟩ : ∃ z, Hid ((follow fs x.code).1 = z) := ⟨_, rfl⟩
      obtain ⟨nn, HNN⟩ : ∃ z, Hid ((follow fs x.code).2.1 = z) := ⟨_, rfl⟩
      rw [HTO.out] at hto HHIT
      have hki : (k : Int) < (xs.length : Int) := by omega
      go_wp2_with fail
      refine (spec_l4Resolve _ fs x.code _ (HV.out.on lr) hxc (by omega)).mono ?_
      rw [HTO.out, HNN.out]
      cases hf : (follow fs x.code).2.2
      · rintro e w4 ⟨rfl, b4⟩
        have l4 := later_trans lr b4
        have HA4 := Lib.hid (HA.out.below b4); have HB4 := Lib.hid (HB.out.below b4)
        have HS1 := Lib.hid (HMISS.out hf); have HS2 := Lib.hid (HMISS2.out hf)
        have hs4 : w.heap.size ≤ w4.heap.size := l4.size
        clear b4 hf
        go_wp2_with (at_builtin; refine wpList_append1' (α := Ltr) rfl (.tmp 53) (.tmp 58) 29 rfl w.heap.size 89 i1 _ 24 Tryz.underlying29 ji jz0 jz1 jz2 rfl (by decide) (.slice AB bs.length cB) bs x rfl (HB4.out.alloc _) ⟨w4.heap.size, 0, none⟩ 1 (Ltr.cells x) rfl ⟨⟨hxi, hxc⟩, rfl⟩ (news_at w4 _ (Ltr.cells x)) (by unfold maxLen; omega) (by omega) (by simp; omega) ?_; intro g cap w5 ho5 hg5 ha5 hl5)
        have HA5 := Lib.hid ((HA4.out.below ((Below.refl _ _).alloc (Nat.le_refl _) (Obj.cells #[Value.int IntKind.i64 x.id, Value.string x.code] 89))).grown hg5 HAP.out)
        have l5 : Below w.heap.size w w5 := (later_alloc l4 (Obj.cells #[Value.int IntKind.i64 x.id, Value.string x.code] 89)).grown hg5 (by simp; omega) fun q hq => (HB4.out.blk q hq).1
        have HAP5 : Hid (apart (.slice (some ⟨g, 0, none⟩) (bs.length + 1) cap) (.slice AA sa.length cA)) := apart_app (apart_symm HAP.out) ha5 fun j hj => by have := (HA4.out.blk j hj).2; simp; omega
        go_wp2
        go_roundw
        case rel => exact ⟨k + 1, by omega, by go_num, l5, by rw [HS1.out]; exact HA5.out, by rw [HS2.out]; exact ho5, apart_symm HAP5.out⟩
        case measure => simp [intOf]; omega
      · rintro e w4 ⟨rfl, b4⟩
        have l4 := later_trans lr b4
        have HA4 := Lib.hid (HA.out.below b4); have HB4 := Lib.hid (HB.out.below b4)
        have HS1 := Lib.hid (HHIT.out hf); have HS2 := Lib.hid (HHIT2.out hf)
        have hs4 : w.heap.size ≤ w4.heap.size := l4.size
        clear b4 hf
        obtain ⟨y, hy⟩ : ∃ y : Ltr, y = ⟨x.id, to⟩ := ⟨_, rfl⟩
        have hy1 : x.id = y.id := by rw [hy]
        have hy2 : to = y.code := by rw [hy]
        rw [← hy] at HS1
        rw [hy1] at c1 hxi
        rw [hy2] at hto
        rw [hy2]
        clear hy hy1 hy2
        go_wp2_with (at_builtin; refine wpList_append1' (α := Ltr) rfl (.tmp 43) (.tmp 51) 29 rfl w.heap.size 89 i1 _ 24 Tryz.underlying29 ji jz0 jz1 jz2 rfl (by decide) (.slice AA sa.length cA) sa y rfl (HA4.out.alloc _) ⟨w4.heap.size, 0, none⟩ 1 (Ltr.cells y) rfl ⟨⟨hxi, hto⟩, rfl⟩ (news_at w4 _ (Ltr.cells y)) (by unfold maxLen; omega) (by omega) (by simp; omega) ?_; intro g cap w5 ho5 hg5 ha5 hl5)
        have HB5 := Lib.hid ((HB4.out.below ((Below.refl _ _).alloc (Nat.le_refl _) (Obj.cells #[Value.int IntKind.i64 y.id, Value.string y.code] 89))).grown hg5 (apart_symm HAP.out))
        have l5 : Below w.heap.size w w5 := (later_alloc l4 (Obj.cells #[Value.int IntKind.i64 y.id, Value.string y.code] 89)).grown hg5 (by simp; omega) fun q hq => (HA4.out.blk q hq).1
        have HAP5 : Hid (apart (.slice (some ⟨g, 0, none⟩) (sa.length + 1) cap) (.slice AB bs.length cB)) := apart_app HAP.out ha5 fun j hj => by have := (HB4.out.blk j hj).2; simp; omega
        go_wp2
        go_roundw
        case rel => exact ⟨k + 1, by omega, by go_num, l5, by rw [HS1.out]; exact ho5, by rw [HS2.out]; exact HB5.out, HAP5⟩
        case measure => simp [intOf]; omega
    · have HE := Lib.hid (show k = xs.length by omega)
      go_wp2_with fail
      go_ret3
      rw [HE.out, List.take_length] at hA hB
      exact ⟨_, _, ret_tup (by rw [HF.out] <;> rfl), by rw [HY.out.1]; exact hA, by rw [HY.out.2]; exact hB, HAP.out, lr⟩

set_option maxRecDepth 100000 in
set_option maxHeartbeats 3200000 in
theorem spec_HoldBatch (vb v : Value) (xs : List Ltr) (hs : List ByteArray) (w : World) (hb : rd w w.heap.size vb xs) (hv : rd w w.heap.size v hs) :
    Calls Tryz.prog 54 #[vb, v] w fun e w' => ∃ vA vB, e = .returned (.tuple #[vA, vB, .bool (hbOk hs xs)]) ∧ own 89 w.heap.size w' vA (hbFree hs xs) ∧ own 89 w.heap.size w' vB (hbHeld hs xs) ∧ apart vA vB ∧ Below w.heap.size w w' := by
  have HV := Lib.hid hv; clear hv
  have HB := Lib.hid hb
  obtain ⟨A', n', c', rfl, hn', hc', hm', hr'⟩ := HV.out
  subst hn'
  unfold maxLen at hm'
  have HRS := Lib.hid hr'; clear hr'
  obtain ⟨A, n, c, rfl, hn, hc, hm, hr⟩ := hb
  subst hn
  unfold maxLen at hm
  have HR := Lib.hid hr; clear hr
  have HNO : Hid (∀ h : hbOk hs xs = false, hbFree hs xs = [] ∧ hbHeld hs xs = []) := fun h => by
    unfold hbFree hbHeld; rw [h]; exact ⟨rfl, rfl⟩
  obtain ⟨i1, ji, jz0, jz1, jz2⟩ := info_parts Tryz.infoLtr
  have hz : (w.alloc (Obj.cells #[] 89)).heap.size = w.heap.size + 1 := by simp
  have oA := (own.made0 (α := Ltr) w 89 (Nat.le_refl w.heap.size)).alloc (Obj.cells #[] 89)
  have oB := own.made0 (α := Ltr) (w.alloc (Obj.cells #[] 89)) 89 (base := w.heap.size) (by simp)
  rw [hz] at oB
  have lz : Below w.heap.size w ((w.alloc (Obj.cells #[] 89)).alloc (Obj.cells #[] 89)) := later_alloc (later_alloc (Below.refl _ _) _) _
  have HAP0 : Hid (apart (.slice (some ⟨w.heap.size, 0, none⟩) 0 0) (.slice (some ⟨w.heap.size + 1, 0, none⟩) 0 0)) := .inr (by show some _ ≠ some _; simp)
  have OA := Lib.hid oA; have OB := Lib.hid oB
  clear oA oB hz
  have HQ : Hid (hbOk hs xs = (okB xs && (decide (hs.length ≤ 30) && hs.all isCode))) := rfl
  go_enter Tryz.func54, Tryz.ntmps54
  go_wp2_with fail
  generalize ((w.alloc (Obj.cells #[] 89)).alloc (Obj.cells #[] 89)) = wz at *
  refine (spec_BatchValid _ xs _ (HB.out.on lz)).mono ?_
  rintro e w2 ⟨rfl, b2⟩
  have l2 := later_trans lz b2
  replace OA := Lib.hid (OA.out.below b2); replace OB := Lib.hid (OB.out.below b2)
  clear b2 lz
  cases h2 : okB xs
  · have HF : Hid (hbOk hs xs = false) := by show _ = _; rw [HQ.out, h2]; rfl
    clear h2
    go_wp2_with fail
    go_loopw [9, 10] (fun g i wr => ∃ j : Nat, j ≤ hs.length ∧ i = .int .i64 j ∧ g = .bool false ∧ wr = w2) (fun _ i _ => hs.length - (intOf i).toNat)
    case atStart => exact ⟨0, Nat.zero_le _, rfl, by first | rfl | (simp [h30']; done) | (simp; omega), rfl⟩
    case round =>
      obtain ⟨j, hj, rfl, rfl, rfl⟩ := hrel
      by_cases hlt : j < hs.length
      · have hji : (j : Int) < (hs.length : Int) := by omega
        go_wp2_with fail
        go_roundw
        case rel => exact ⟨j + 1, by omega, by go_num, by first | rfl | trivial, by first | rfl | trivial⟩
        case measure => simp [intOf]; omega
      · have hji : ¬ ((j : Int) < (hs.length : Int)) := by omega
        go_wp2_with fail
        go_loopw [7, 8, 11] (fun a b i wu => a = .slice (some ⟨w.heap.size, 0, none⟩) 0 0 ∧ b = .slice (some ⟨w.heap.size + 1, 0, none⟩) 0 0 ∧ i = .int .i64 0 ∧ wu = wr) (fun _ _ _ _ => 0)
        case atStart => exact ⟨rfl, rfl, rfl, rfl⟩
        case round =>
          obtain ⟨rfl, rfl, rfl, rfl⟩ := hrel
          by_cases hx0 : (0 : Int) < (xs.length : Int)
          all_goals
            go_wp2_with fail
            go_ret3
            exact ⟨_, _, ret_tup (by rw [HF.out] <;> rfl), by rw [(HNO.out HF.out).1]; exact OA.out, by rw [(HNO.out HF.out).2]; exact OB.out, HAP0.out, l2⟩
  have hxl := okB_len' h2
  have H2 := Lib.hid h2; clear h2
  by_cases h30 : hs.length ≤ 30
  rotate_left
  · have HF : Hid (hbOk hs xs = false) := by show _ = _; rw [HQ.out, decide_eq_false h30]; simp
    have h30' : ¬ ((hs.length : Int) ≤ 30) := by omega
    go_wp2_with fail
    go_loopw [9, 10] (fun g i wr => ∃ j : Nat, j ≤ hs.length ∧ i = .int .i64 j ∧ g = .bool false ∧ wr = w2) (fun _ i _ => hs.length - (intOf i).toNat)
    case atStart => exact ⟨0, Nat.zero_le _, rfl, by first | rfl | (simp [h30']; done) | (simp; omega), rfl⟩
    case round =>
      obtain ⟨j, hj, rfl, rfl, rfl⟩ := hrel
      by_cases hlt : j < hs.length
      · have hji : (j : Int) < (hs.length : Int) := by omega
        go_wp2_with fail
        go_roundw
        case rel => exact ⟨j + 1, by omega, by go_num, by first | rfl | trivial, by first | rfl | trivial⟩
        case measure => simp [intOf]; omega
      · have hji : ¬ ((j : Int) < (hs.length : Int)) := by omega
        go_wp2_with fail
        go_loopw [7, 8, 11] (fun a b i wu => a = .slice (some ⟨w.heap.size, 0, none⟩) 0 0 ∧ b = .slice (some ⟨w.heap.size + 1, 0, none⟩) 0 0 ∧ i = .int .i64 0 ∧ wu = wr) (fun _ _ _ _ => 0)
        case atStart => exact ⟨rfl, rfl, rfl, rfl⟩
        case round =>
          obtain ⟨rfl, rfl, rfl, rfl⟩ := hrel
          by_cases hx0 : (0 : Int) < (xs.length : Int)
          all_goals
            go_wp2_with fail
            go_ret3
            exact ⟨_, _, ret_tup (by rw [HF.out] <;> rfl), by rw [(HNO.out HF.out).1]; exact OA.out, by rw [(HNO.out HF.out).2]; exact OB.out, HAP0.out, l2⟩
  have h30' : (hs.length : Int) ≤ 30 := by omega
  have HQ2 : Hid (hbOk hs xs = hs.all isCode) := by show _ = _; rw [HQ.out, H2.out, decide_eq_true h30]; simp
  clear HQ
  go_wp2_with fail
  go_loopw [9, 10] (fun g i wr => ∃ j : Nat, j ≤ hs.length ∧ i = .int .i64 j ∧ g = .bool ((hs.take j).all isCode) ∧ wr = w2) (fun _ i _ => hs.length - (intOf i).toNat)
  case atStart => exact ⟨0, Nat.zero_le _, rfl, by first | rfl | (simp [h30']; done) | (simp; omega), rfl⟩
  case round =>
    obtain ⟨j, hj, rfl, rfl, rfl⟩ := hrel
    by_cases hlt : j < hs.length
    · have hji : (j : Int) < (hs.length : Int) := by omega
      obtain ⟨b', o', rfl, hb', hsz, d1⟩ := HRS.out.strU j hlt
      have HST : Hid ((hs.take (j + 1)).all isCode = ((hs.take j).all isCode && isCode hs[j])) := take_all_succ hs j hlt
      generalize hs[j] = s at *
      cases ha : (hs.take j).all isCode
      · have HG : Hid ((hs.take (j + 1)).all isCode = false) := by show _ = _; rw [HST.out, ha]; rfl
        clear ha
        go_wp2_with fail
        go_roundw
        case rel => exact ⟨j + 1, by omega, by go_num, by first | (rw [HG.out]) | trivial, by first | rfl | trivial⟩
        case measure => simp [intOf]; omega
      · obtain ⟨r, hr⟩ : ∃ r, isCode s = r := ⟨_, rfl⟩
        have HG : Hid ((hs.take (j + 1)).all isCode = r) := by show _ = _; rw [HST.out, ha, hr]; simp
        clear ha
        go_wp2_with fail
        refine (codeS_is hsz hr).mono ?_
        clear hr
        rintro e w5 ⟨rfl, rfl⟩
        go_wp2_with fail
        go_roundw
        case rel => exact ⟨j + 1, by omega, by go_num, by first | (rw [HG.out]) | trivial, by first | rfl | trivial⟩
        case measure => simp [intOf]; omega
    · have hji : ¬ ((j : Int) < (hs.length : Int)) := by omega
      have HJE := Lib.hid (show j = hs.length by omega)
      have HTA : Hid ((hs.take j).all isCode = hbOk hs xs) := by show _ = _; rw [HQ2.out, HJE.out, List.take_length]
      rw [HTA.out]
      cases hg : hbOk hs xs
      · have HF := Lib.hid hg; clear hg
        go_wp2_with fail
        go_loopw [7, 8, 11] (fun a b i wu => a = .slice (some ⟨w.heap.size, 0, none⟩) 0 0 ∧ b = .slice (some ⟨w.heap.size + 1, 0, none⟩) 0 0 ∧ i = .int .i64 0 ∧ wu = wr) (fun _ _ _ _ => 0)
        case atStart => exact ⟨rfl, rfl, rfl, rfl⟩
        case round =>
          obtain ⟨rfl, rfl, rfl, rfl⟩ := hrel
          by_cases hx0 : (0 : Int) < (xs.length : Int)
          all_goals
            go_wp2_with fail
            go_ret3
            exact ⟨_, _, ret_tup (by rw [HF.out] <;> rfl), by rw [(HNO.out HF.out).1]; exact OA.out, by rw [(HNO.out HF.out).2]; exact OB.out, HAP0.out, l2⟩
      · have HF := Lib.hid hg; clear hg
        have HY : Hid (hbFree hs xs = freeL hs xs ∧ hbHeld hs xs = heldL hs xs) := by unfold hbFree hbHeld; rw [HF.out]; exact ⟨rfl, rfl⟩
        clear HB
        go_wp2_with fail
        go_loopw [7, 8, 11] (fun a b i wr => ∃ k : Nat, k ≤ xs.length ∧ i = .int .i64 k ∧ Below w.heap.size w wr ∧ own 89 w.heap.size wr a (freeL hs (xs.take k)) ∧ own 89 w.heap.size wr b (heldL hs (xs.take k)) ∧ Hid (apart a b)) (fun _ _ i _ => xs.length - (intOf i).toNat)
        case atStart => exact ⟨0, Nat.zero_le _, rfl, l2, OA.out, OB.out, HAP0.out⟩
        case round =>
          obtain ⟨k, hk, rfl, lr, hA, hB, HAP⟩ := hrel
          obtain ⟨w3, rfl⟩ : ∃ w3 : World, w3 = wr := ⟨_, rfl⟩
          clear l2 OA OB HAP0
          by_cases hlt : k < xs.length
          · obtain ⟨b, o, rfl, hb, ⟨hxi, hxc⟩, c1, c2⟩ := HR.out.ltrU k hlt
            have HHIT := Lib.hid (freeL_hit (hs := hs) hlt); have HMISS := Lib.hid (freeL_miss (hs := hs) hlt)
            have HHIT2 := Lib.hid (heldL_hit (hs := hs) hlt); have HMISS2 := Lib.hid (heldL_miss (hs := hs) hlt)
            have HL1 := Lib.hid (Nat.le_trans (freeL_len hs (xs.take k)) (take_len_le xs k))
            have HL2 := Lib.hid (Nat.le_trans (heldL_len hs (xs.take k)) (take_len_le xs k))
            generalize xs[k] = x at *
            generalize freeL hs (xs.take k) = sa at *
            generalize heldL hs (xs.take k) = bs at *
            obtain ⟨AA, mA, cA, rfl, hmA, _, _, _⟩ := hA.rd
            subst hmA
            obtain ⟨AB, mB, cB, rfl, hmB, _, _, _⟩ := hB.rd
            subst hmB
            have HA := Lib.hid hA; have HB := Lib.hid hB
            clear hA hB
            have hl1 := HL1.out; have hl2 := HL2.out
            have hki : (k : Int) < (xs.length : Int) := by omega
            have HA4 := HA; have HB4 := HB
            have hs4 : w.heap.size ≤ w3.heap.size := lr.size
            obtain ⟨r, hr⟩ : ∃ r, rkI hs x.code = r := ⟨_, rfl⟩
            rw [hr] at HHIT HMISS HHIT2 HMISS2
            go_wp2_with fail
            refine (l3RankI_is (HV.out.on lr) hr).mono ?_
            clear hr
            rintro e w4 ⟨rfl, rfl⟩
            by_cases hf : r < 0
            · have hf' : ¬ (0 ≤ r) := by omega
              have HS1 := Lib.hid (HHIT.out hf); have HS2 := Lib.hid (HHIT2.out hf)
              go_wp2_with (at_builtin; refine wpList_append1' (α := Ltr) rfl (.tmp 59) (.tmp 64) 29 rfl w.heap.size 89 i1 _ 24 Tryz.underlying29 ji jz0 jz1 jz2 rfl (by decide) (.slice AA sa.length cA) sa x rfl (HA4.out.alloc _) ⟨w3.heap.size, 0, none⟩ 1 (Ltr.cells x) rfl ⟨⟨hxi, hxc⟩, rfl⟩ (news_at w3 _ (Ltr.cells x)) (by unfold maxLen; omega) (by omega) (by simp; omega) ?_; intro g cap w5 ho5 hg5 ha5 hl5)
              have HB5 := Lib.hid ((HB4.out.below ((Below.refl _ _).alloc (Nat.le_refl _) (Obj.cells #[Value.int IntKind.i64 x.id, Value.string x.code] 89))).grown hg5 (apart_symm HAP.out))
              have l5 : Below w.heap.size w w5 := (later_alloc lr (Obj.cells #[Value.int IntKind.i64 x.id, Value.string x.code] 89)).grown hg5 (by simp; omega) fun q hq => (HA4.out.blk q hq).1
              have HAP5 : Hid (apart (.slice (some ⟨g, 0, none⟩) (sa.length + 1) cap) (.slice AB bs.length cB)) := apart_app HAP.out ha5 fun j hj => by have := (HB4.out.blk j hj).2; simp; omega
              go_wp2
              go_roundw
              case rel => exact ⟨k + 1, by omega, by go_num, l5, by rw [HS1.out]; exact ho5, by rw [HS2.out]; exact HB5.out, HAP5⟩
              case measure => simp [intOf]; omega
            · have hf' : 0 ≤ r := by omega
              have HS1 := Lib.hid (HMISS.out (by omega)); have HS2 := Lib.hid (HMISS2.out (by omega))
              go_wp2_with (at_builtin; refine wpList_append1' (α := Ltr) rfl (.tmp 52) (.tmp 57) 29 rfl w.heap.size 89 i1 _ 24 Tryz.underlying29 ji jz0 jz1 jz2 rfl (by decide) (.slice AB bs.length cB) bs x rfl (HB4.out.alloc _) ⟨w3.heap.size, 0, none⟩ 1 (Ltr.cells x) rfl ⟨⟨hxi, hxc⟩, rfl⟩ (news_at w3 _ (Ltr.cells x)) (by unfold maxLen; omega) (by omega) (by simp; omega) ?_; intro g cap w5 ho5 hg5 ha5 hl5)
              have HA5 := Lib.hid ((HA4.out.below ((Below.refl _ _).alloc (Nat.le_refl _) (Obj.cells #[Value.int IntKind.i64 x.id, Value.string x.code] 89))).grown hg5 HAP.out)
              have l5 : Below w.heap.size w w5 := (later_alloc lr (Obj.cells #[Value.int IntKind.i64 x.id, Value.string x.code] 89)).grown hg5 (by simp; omega) fun q hq => (HB4.out.blk q hq).1
              have HAP5 : Hid (apart (.slice (some ⟨g, 0, none⟩) (bs.length + 1) cap) (.slice AA sa.length cA)) := apart_app (apart_symm HAP.out) ha5 fun j hj => by have := (HA4.out.blk j hj).2; simp; omega
              go_wp2
              go_roundw
              case rel => exact ⟨k + 1, by omega, by go_num, l5, by rw [HS1.out]; exact HA5.out, by rw [HS2.out]; exact ho5, apart_symm HAP5.out⟩
              case measure => simp [intOf]; omega
          · have HE := Lib.hid (show k = xs.length by omega)
            have hki : ¬ ((k : Int) < (xs.length : Int)) := by omega
            go_wp2_with fail
            go_ret3
            rw [HE.out, List.take_length] at hA hB
            exact ⟨_, _, ret_tup (by rw [HF.out] <;> rfl), by rw [HY.out.1]; exact hA, by rw [HY.out.2]; exact hB, HAP.out, lr⟩

end Go.Proofs.YtpinkbodbedajaaGreatDoor

namespace Go.Proofs.YtpinkbodbedajaaGreatDoor
open Go.RowKit

section
variable {P : Program} {fn : Func} {R : Ending → World → Prop} {a : Act} {w : World} {p u v r : Tmp} {ty : TypeId} {g : Nat} {t : TypeId} {cs : Array Value} {d : TypeDesc}
theorem load_box (hg : w.heap[g]? = some (.cells cs t (0, 0))) (hu : P.underlying ty = some d) (hd : (match d with | .struct _ | .array _ _ => true | _ => false) = true) (hi : (P.info? ty).map (·.size) = some cs.size) :
    (loadVar ty ⟨g, 0, none⟩).run P w = .ok (.agg cs) w := run_loadVar_row w g t ty cs (0, 0) d hg hu hd hi
theorem out_box (h : fn.results = #[.cell p ty]) (hp : a.tmps.getD p undef = .pointer (some ⟨g, 0, none⟩)) (hg : w.heap[g]? = some (.cells cs t (0, 0)))
    (hu : P.underlying ty = some d) (hd : (match d with | .struct _ | .array _ _ => true | _ => false) = true) (hi : (P.info? ty).map (·.size) = some cs.size) (hf : a.defers = [])
    (hR : R (.returned (.agg cs)) w) : bodyPost P fn R .ret a w :=
  bodyPost_ret (results_cell_row h a.tmps w g t cs (0, 0) d hp hg hu hd hi) hf hR
theorem out_box1 (h : fn.results = #[.cell p ty, .tmp u]) (hp : a.tmps.getD p undef = .pointer (some ⟨g, 0, none⟩)) (hg : w.heap[g]? = some (.cells cs t (0, 0)))
    (hu : P.underlying ty = some d) (hd : (match d with | .struct _ | .array _ _ => true | _ => false) = true) (hi : (P.info? ty).map (·.size) = some cs.size) (hf : a.defers = [])
    (hR : R (.returned (.tuple #[.agg cs, a.tmps.getD u undef])) w) : bodyPost P fn R .ret a w := by
  refine bodyPost_ret ?_ hf hR
  have hp' : a.tmps[p]?.getD undef = .pointer (some ⟨g, 0, none⟩) := by simpa using hp
  simp [results, h, hp', asAddr, load_box hg hu hd hi, Sem.run_bind, Result.andThen]
theorem out_box2 (h : fn.results = #[.cell p ty, .tmp u, .tmp v]) (hp : a.tmps.getD p undef = .pointer (some ⟨g, 0, none⟩)) (hg : w.heap[g]? = some (.cells cs t (0, 0)))
    (hu : P.underlying ty = some d) (hd : (match d with | .struct _ | .array _ _ => true | _ => false) = true) (hi : (P.info? ty).map (·.size) = some cs.size) (hf : a.defers = [])
    (hR : R (.returned (.tuple #[.agg cs, a.tmps.getD u undef, a.tmps.getD v undef])) w) : bodyPost P fn R .ret a w := by
  refine bodyPost_ret ?_ hf hR
  have hp' : a.tmps[p]?.getD undef = .pointer (some ⟨g, 0, none⟩) := by simpa using hp
  simp [results, h, hp', asAddr, load_box hg hu hd hi, Sem.run_bind, Result.andThen]
theorem out_box3 (h : fn.results = #[.cell p ty, .tmp u, .tmp v, .tmp r]) (hp : a.tmps.getD p undef = .pointer (some ⟨g, 0, none⟩)) (hg : w.heap[g]? = some (.cells cs t (0, 0)))
    (hu : P.underlying ty = some d) (hd : (match d with | .struct _ | .array _ _ => true | _ => false) = true) (hi : (P.info? ty).map (·.size) = some cs.size) (hf : a.defers = [])
    (hR : R (.returned (.tuple #[.agg cs, a.tmps.getD u undef, a.tmps.getD v undef, a.tmps.getD r undef])) w) : bodyPost P fn R .ret a w := by
  refine bodyPost_ret ?_ hf hR
  have hp' : a.tmps[p]?.getD undef = .pointer (some ⟨g, 0, none⟩) := by simpa using hp
  simp [results, h, hp', asAddr, load_box hg hu hd hi, Sem.run_bind, Result.andThen]
end

theorem four_set {w : World} {g : Nat} {T : TypeId} {u0 u1 u2 u3 a b c d : Value} (h : w.heap[g]? = some (.cells #[u0, u1, u2, u3] T (0, 0))) :
    ((((w.setCell ⟨g, 0, none⟩ a).setCell ⟨g, 1, none⟩ b).setCell ⟨g, 2, none⟩ c).setCell ⟨g, 3, none⟩ d).heap[g]? = some (.cells #[a, b, c, d] T (0, 0)) :=
  heap_setCell_same _ _ _ _ _ _ (heap_setCell_same _ _ _ _ _ _ (heap_setCell_same _ _ _ _ _ _ (heap_setCell_same _ _ _ _ _ _ h)))
/-- A box of four cells. -/
structure box4 (g : Nat) (a b c d : Value) (w : World) : Prop where
  lt : g < w.heap.size
  c0 : w.cell? ⟨g, 0, none⟩ = some a
  c1 : w.cell? ⟨g, 1, none⟩ = some b
  c2 : w.cell? ⟨g, 2, none⟩ = some c
  c3 : w.cell? ⟨g, 3, none⟩ = some d
theorem box4.of {w u : World} {a b c d : Value} {T : TypeId} (h : u = w.alloc (Obj.cells #[a, b, c, d] T)) : box4 w.heap.size a b c d u :=
  ⟨(box_later h).2, box_cells h 0 a rfl u (Below.refl _ _), box_cells h 1 b rfl u (Below.refl _ _), box_cells h 2 c rfl u (Below.refl _ _), box_cells h 3 d rfl u (Below.refl _ _)⟩
theorem box4.below {g : Nat} {a b c d : Value} {w w' : World} (h : box4 g a b c d w) (hb : Below w.heap.size w w') : box4 g a b c d w' :=
  ⟨Nat.lt_of_lt_of_le h.lt hb.size, (hb.cell (p := ⟨g, 0, none⟩) h.lt).trans h.c0, (hb.cell (p := ⟨g, 1, none⟩) h.lt).trans h.c1, (hb.cell (p := ⟨g, 2, none⟩) h.lt).trans h.c2, (hb.cell (p := ⟨g, 3, none⟩) h.lt).trans h.c3⟩
theorem OutI.cell {lo hi g i : Nat} {w w' : World} (h : OutI lo hi w w') (hg : g < w.heap.size) (hd : g < lo ∨ hi ≤ g) : w'.cell? ⟨g, i, none⟩ = w.cell? ⟨g, i, none⟩ := by
  unfold World.cell?
  simp only [h.block g hg hd]
theorem box4.out {g lo hi : Nat} {a b c d : Value} {w w' : World} (h : box4 g a b c d w) (ho : OutI lo hi w w') (hd : g < lo ∨ hi ≤ g) : box4 g a b c d w' :=
  ⟨Nat.lt_of_lt_of_le h.lt ho.size, (ho.cell h.lt hd).trans h.c0, (ho.cell h.lt hd).trans h.c1, (ho.cell h.lt hd).trans h.c2, (ho.cell h.lt hd).trans h.c3⟩
theorem box4.grown {g : Nat} {a b c d : Value} {w w' : World} {row : Option Nat} (h : box4 g a b c d w) (hg : w.grownBy w' row) (hne : some g ≠ row) : box4 g a b c d w' :=
  ⟨Nat.lt_of_lt_of_le h.lt hg.size, (hg.cell_far ⟨g, 0, none⟩ h.lt hne).trans h.c0, (hg.cell_far ⟨g, 1, none⟩ h.lt hne).trans h.c1, (hg.cell_far ⟨g, 2, none⟩ h.lt hne).trans h.c2, (hg.cell_far ⟨g, 3, none⟩ h.lt hne).trans h.c3⟩

end Go.Proofs.YtpinkbodbedajaaGreatDoor

namespace Go.Proofs.YtpinkbodbedajaaGreatDoor
open Go.RowKit

set_option maxHeartbeats 800000 in
theorem spec_l2Collect (v : Value) (xss : List (List Ltr)) (w : World) (hv : rd w w.heap.size v xss) (hl : xss.flatten.length ≤ 1048576) :
    Calls Tryz.prog 96 #[v] w fun e w' => ∃ v', e = .returned v' ∧ own 89 w.heap.size w' v' xss.flatten ∧ Below w.heap.size w w' := by
  obtain ⟨A, n, c, rfl, hn, hc, hm, hr⟩ := hv
  subst hn
  unfold maxLen at hm
  have HR := Lib.hid hr; clear hr
  have HL := Lib.hid hl; clear hl
  obtain ⟨i0, hi, hz0, hz1, hz2⟩ := info_parts Tryz.infoLtr
  go_enter Tryz.func96, Tryz.ntmps96
  go_wp2
  have ho0 : own (α := Ltr) 89 w.heap.size (w.alloc (Obj.cells #[] 89)) (.slice (some ⟨w.heap.size, 0, none⟩) 0 0) [] := own.made0 w _ (Nat.le_refl _)
  have l0 : Below w.heap.size w (w.alloc (Obj.cells #[] 89)) := (Below.refl _ _).alloc (Nat.le_refl _) _
  generalize (w.alloc (Obj.cells #[] 89)) = w0 at *
  go_loopw [3, 4] (fun t i wr => ∃ k : Nat, k ≤ xss.length ∧ i = .int .i64 k ∧ Below w.heap.size w wr ∧ own 89 w.heap.size wr t (xss.take k).flatten) (fun _ i _ => xss.length - (intOf i).toNat)
  case atStart => exact ⟨0, Nat.zero_le _, rfl, l0, ho0⟩
  case round =>
    obtain ⟨k, hk, rfl, lr, ho⟩ := hrel
    obtain ⟨w1, rfl⟩ : ∃ w1 : World, w1 = wr := ⟨_, rfl⟩
    clear l0 ho0
    by_cases hlt : k < xss.length
    · obtain ⟨b, o, u, rfl, hb, hu, c1⟩ := HR.out.rowU k hlt
      have HS : Hid ((xss.take (k + 1)).flatten = (xss.take k).flatten ++ xss[k]) := by show _ = _; rw [List.take_succ_eq_append_getElem hlt, List.flatten_append]; simp
      have HLB : Hid ((xss.take k).flatten.length + xss[k].length ≤ 1048576) := by
        show _ ≤ _
        rw [← List.length_append, ← HS.out]
        have : (xss.take (k + 1)).flatten.length ≤ xss.flatten.length := by
          conv => rhs; rw [← List.take_append_drop (k + 1) xss, List.flatten_append, List.length_append]
          omega
        have := HL.out
        omega
      generalize xss[k] = ys at *
      obtain ⟨A2, m2, c2, rfl, hm2, hc2, hmm2, hr2⟩ := hu
      have hu : rd w w.heap.size (.slice A2 m2 c2) ys := ⟨A2, m2, c2, rfl, hm2, hc2, hmm2, hr2⟩
      clear hm2 hc2 hmm2 hr2
      have HU := Lib.hid hu; clear hu
      generalize hys : (xss.take k).flatten = zs at *
      have HYS := Lib.hid hys; clear hys
      have ho' := Lib.hid ho
      obtain ⟨A3, m3, c3, rfl, hm3, _, _, _⟩ := ho.rd
      subst hm3
      clear ho
      have hbd := HLB.out
      go_wp2_with (at_builtin; refine wpList_appendAll (α := Ltr) rfl (.tmp 12) (.tmp 16) 29 rfl w.heap.size 89 i0 _ 24 Tryz.underlying29 hi hz0 hz1 hz2 rfl (by decide) (.slice A3 zs.length c3) zs rfl ho'.out (.slice A2 m2 c2) ys rfl w1.heap.size (HU.out.on lr) (by have := HLB.out; unfold maxLen; omega) (by have := HLB.out; omega) lr.size ?_; intro v' w2 ho2 hg2 _)
      have l2 : Below w.heap.size w w2 := lr.trans (below_append ho'.out hg2 lr.size)
      go_wp2
      go_roundw
      case rel => exact ⟨k + 1, by omega, by go_num, l2, by rw [HS.out]; exact ho2⟩
      case measure => simp [intOf]; omega
    · have HE := Lib.hid (show k = xss.length by omega)
      go_wp2
      go_ret
      exact ⟨_, rfl, by rw [HE.out, List.take_length] at ho; exact ho, lr⟩

set_option maxRecDepth 100000 in
set_option maxHeartbeats 3200000 in
theorem spec_l3Pass (v vb : Value) (p : Pln) (xs : List Ltr) (k0 : Nat) (w : World) (hv : rdP w w.heap.size v p) (hb : rd w w.heap.size vb xs)
    (h1 : 2 ≤ p.bins) (h2 : p.bins ≤ 16) (hk0 : k0 ≤ 4) (hord : p.order.length ≤ 1000) (hl : xs.length ≤ 1000) :
    Calls Tryz.prog 95 #[v, vb, .int .i64 k0] w fun e w' => ∃ vB vO vs, e = .returned (.tuple #[vB, vO]) ∧ isLL 29 89 w.heap.size w' vB (binsOf (fun x => binI p x.code k0) p.bins.toNat xs) vs ∧ own 89 w.heap.size w' vO (restOf (fun x => binI p x.code k0) xs) ∧ farLL vO vB vs ∧ Below w.heap.size w w' := by
  obtain ⟨A0, c0, e0⟩ := openP hv
  obtain ⟨w0, hw0⟩ : ∃ w0, w0 = w.alloc (Obj.cells #[.int .i64 p.bins, .int .i64 p.passes, .slice A0 p.order.length c0] 25) := ⟨_, rfl⟩
  have q0 := box_cells hw0 0 (.int .i64 p.bins) rfl
  have q1 := box_cells hw0 1 (.int .i64 p.passes) rfl
  have q2 := box_cells hw0 2 (.slice A0 p.order.length c0) rfl
  have HT := Lib.hid (box_later hw0).1
  have HP := Lib.hid (hv.on HT.out)
  have hb' := hb.on HT.out
  subst e0
  obtain ⟨A, n, cp, rfl, hn, hc, hmx, hr⟩ := hb'
  subst hn
  unfold maxLen at hmx
  have HR := Lib.hid hr
  have hz0 : w0.heap.size = w.heap.size + 1 := by subst hw0; simp
  have hwlt : w.heap.size < w0.heap.size := by omega
  have HZ0 := Lib.hid hz0
  have HW0 := Lib.hid hw0; clear hw0 hv hb hr hz0
  have l0 := Below.refl w0.heap.size w0
  obtain ⟨N, hN⟩ := Int.eq_ofNat_of_zero_le (show 0 ≤ p.bins by omega)
  have hNN : p.bins.toNat = N := by omega
  have HNN := Lib.hid hNN; clear hNN
  have hN16 : N ≤ 16 := by omega
  obtain ⟨i0, hi, hzz, hz1, hz2⟩ := info_parts Tryz.infoRow
  have hmk := make_row (P := Tryz.prog) 37 29 i0 _ Tryz.underlying37 hi hzz N (by rw [hz2]; omega) (by omega)
  rw [← hN] at hmk
  have HN := Lib.hid hN; clear hN
  obtain ⟨i1, ji, jz0, jz1, jz2⟩ := info_parts Tryz.infoLtr
  have HF : Hid (∀ x : Ltr, -1 ≤ binI p x.code k0 ∧ binI p x.code k0 < N) := fun x => by
    have := binI_range p x.code k0 h1
    have := HN.out
    omega
  obtain ⟨f, HFF⟩ : ∃ f : Ltr → Int, Hid (f = fun x => binI p x.code k0) := ⟨_, rfl⟩
  rw [← HFF.out]
  have HFX : Hid (∀ x, f x = binI p x.code k0) := fun x => by rw [HFF.out]
  rw [HNN.out]
  go_enter Tryz.func95, Tryz.ntmps95
  go_wp2
  rw [← HW0.out]
  obtain ⟨vs0, hoz⟩ := made_nil_row (α := Ltr) w0 29 89 N w0.heap.size (Nat.le_refl _) (by unfold maxLen; omega)
  have lz : Below w0.heap.size w0 (w0.alloc (Obj.cells (madeCells #[.slice none 0 0] N) 29)) := later_alloc l0 _
  have hzz2 : (w0.alloc (Obj.cells (madeCells #[.slice none 0 0] N) 29)).heap.size = w.heap.size + 1 + 1 := by simp [HZ0.out]
  generalize (w0.alloc (Obj.cells (madeCells #[.slice none 0 0] N) 29)) = wz at *
  have hG0 : w0.heap.size ≤ w.heap.size + 1 := Nat.le_of_eq HZ0.out
  have hoz2 := hoz
  rw [show (Value.slice (some ⟨w0.heap.size, 0, none⟩) N N) = (Value.slice (some ⟨w.heap.size + 1, 0, none⟩) N N) by rw [HZ0.out]] at hoz2
  clear hoz
  have hoe : own (α := Ltr) 89 w0.heap.size (wz.alloc (Obj.cells #[] 89)) (.slice (some ⟨wz.heap.size, 0, none⟩) 0 0) [] := own.made0 wz _ lz.size
  rw [hzz2] at hoe
  have hfe : farLL (.slice (some ⟨w.heap.size + 1 + 1, 0, none⟩) 0 0) (.slice (some ⟨w.heap.size + 1, 0, none⟩) N N) vs0 := by
    refine ⟨.inr (by show some _ ≠ some _; simp), fun k hk => .inr fun e => ?_⟩
    obtain ⟨z1, z2, z3, _⟩ := hoz2
    have hh : w.heap.size + 1 + 1 < wz.heap.size := ((z3 k hk (by omega)).blk _ e.symm).2
    omega
  have HFE := Lib.hid hfe
  have HOE := Lib.hid hoe
  have HOZ := Lib.hid (hoz2.below ((Below.refl _ _).alloc (Nat.le_refl _) (Obj.cells #[] 89)))
  have lz2 := later_alloc lz (Obj.cells #[] 89)
  clear hoz2 hoe hzz2 lz hfe
  generalize hgw : wz.alloc (Obj.cells #[] 89) = wy at *
  clear hgw
  generalize hG2 : w.heap.size + 1 + 1 = G2 at *
  generalize hG : w.heap.size + 1 = G at *
  have HGG := Lib.hid hG; have HGG2 := Lib.hid hG2; clear hG hG2 hmk
  go_loopw [9, 10] (fun t i wr => ∃ (k : Nat) (vs : List Value), k ≤ xs.length ∧ i = .int .i64 k ∧ Below w0.heap.size w0 wr ∧ isLL 29 89 w0.heap.size wr (.slice (some ⟨G, 0, none⟩) N N) (binsOf f N (xs.take k)) vs ∧ own 89 w0.heap.size wr t (restOf f (xs.take k)) ∧ Hid (farLL t (.slice (some ⟨G, 0, none⟩) N N) vs)) (fun _ i _ => xs.length - (intOf i).toNat)
  case atStart =>
    refine ⟨0, vs0, Nat.zero_le _, rfl, lz2, ?_, HOE.out, HFE.out⟩
    rw [List.take_zero, binsOf_nil]
    exact HOZ.out
  case round =>
    obtain ⟨k, vs, hk, rfl, lr, hB, hO, HFAR⟩ := hrel
    obtain ⟨w1, rfl⟩ : ∃ w1 : World, w1 = wr := ⟨_, rfl⟩
    have HB := Lib.hid hB; have HO := Lib.hid hO
    clear l0 lz2 HOZ hB HOE HFE
    obtain ⟨AO, mO, cO, rfl, hmO, _, _, _⟩ := hO.rd
    subst hmO
    clear hO
    by_cases hlt : k < xs.length
    · obtain ⟨b, o, rfl, hb, ⟨hxi, hxc⟩, c1, c2⟩ := HR.out.ltrU k hlt
      obtain ⟨x, hx⟩ : ∃ x, x = xs[k] := ⟨_, rfl⟩
      have HX := Lib.hid hx
      rw [← hx] at c1 c2 hxi hxc
      clear hx
      have hki : (k : Int) < (xs.length : Int) := by omega
      have ld := later_drew lr
      have HC : Hid (∀ W, Below w0.heap.size w0 W → Calls Tryz.prog 162 #[.agg #[.int .i64 p.bins, .int .i64 p.passes, .slice A0 p.order.length c0], .string x.code, .int .i64 k0] W fun e w' => e = .returned (.int .i64 (f x)) ∧ Below W.heap.size W w') := fun W hW => by
        rw [HFX.out]
        exact spec_l3Bin _ p x.code k0 W (HP.out.on hW) h1 h2 hk0 hord
      go_wp2
      go_region_held3 (fun W => Below w0.heap.size w0 W) (first | exact ld | exact later_trans ld b3) (first | (go_at_call 162; refine (HC.out _ ld).mono ?_; rintro e w3 ⟨rfl, b3⟩))
      have lw3 := later_trans ld b3
      have B3 : Below w1.heap.size w1 w3 := later_trans ((Below.refl _ _).drew) b3
      obtain ⟨fx1, fx2⟩ := HF.out x
      rw [← HFX.out] at fx1 fx2
      have HFXK : Hid (f xs[k] = f x) := by show _ = _; rw [← HX.out]
      have hs3 : w0.heap.size ≤ w3.heap.size := lw3.size
      have HB3 := Lib.hid (HB.out.below B3); have HO3 := Lib.hid (HO.out.below B3)
      clear b3 ld B3
      have HZL : Hid ((restOf f (xs.take k)).length ≤ 1000) := by
        show _ ≤ _
        have := filter_len_le (fun x => decide (f x < 0)) xs k
        unfold restOf
        omega
      by_cases hneg : f x < 0
      · have HS1 := Lib.hid (binsOf_skip (f := f) (n := N) hlt (by rw [HFXK.out]; exact hneg))
        have HS2 := Lib.hid (restOf_step (f := f) hlt (by rw [HFXK.out]; exact hneg))
        have hzl := HZL.out
        go_wp2_with (at_builtin; refine wpList_append1' (α := Ltr) rfl (.tmp 32) (.tmp 37) 29 rfl w0.heap.size 89 i1 _ 24 Tryz.underlying29 ji jz0 jz1 jz2 rfl (by decide) (.slice AO (restOf f (xs.take k)).length cO) (restOf f (xs.take k)) x rfl (HO3.out.alloc _) ⟨w3.heap.size, 0, none⟩ 1 (Ltr.cells x) rfl ⟨⟨hxi, hxc⟩, rfl⟩ (news_at w3 _ (Ltr.cells x)) (by unfold maxLen; omega) (by omega) (by simp; omega) ?_; intro g cap w4 ho4 hg4 ha4 hl4)
        have HB4 := Lib.hid (farLL_grown (HB3.out.below ((Below.refl _ _).alloc (Nat.le_refl _) _)) HFAR.out hg4)
        have b4 : Below w0.heap.size w0 w4 := by
          refine (later_alloc lw3 (Obj.cells #[Value.int IntKind.i64 x.id, Value.string x.code] 89)).grown hg4 (by simp; omega) fun j hj => ?_
          exact (HO3.out.blk j hj).1
        have HFAR4 : Hid (farLL (.slice (some ⟨g, 0, none⟩) ((restOf f (xs.take k)).length + 1) cap) (.slice (some ⟨G, 0, none⟩) N N) vs) := farLL_app HB3.out HFAR.out ha4 (by simp)
        go_wp2
        go_roundw
        case rel => exact ⟨k + 1, vs, by omega, by go_num, b4, by rw [HS1.out]; exact HB4.out, by rw [HS2.out, ← HX.out]; exact ho4, HFAR4⟩
        case measure => simp [intOf]; omega
      · obtain ⟨d, hd⟩ := Int.eq_ofNat_of_zero_le (show 0 ≤ f x by omega)
        have hdN : d < N := by omega
        have HD := Lib.hid hd
        have HS2 := Lib.hid (restOf_skip (f := f) hlt (by rw [HFXK.out]; omega))
        have hlb : d < (binsOf f N (xs.take k)).length := by rw [binsOf_len]; exact hdN
        have HS1 := Lib.hid (binsOf_step (f := f) (n := N) (d := d) hlt (by rw [HFXK.out]; exact HD.out) hlb)
        obtain ⟨hlv, hov, hgv⟩ : ∃ hlv : d < vs.length, own 89 w0.heap.size w3 vs[d] (binsOf f N (xs.take k))[d] ∧ apart vs[d] (.slice (some ⟨G, 0, none⟩) N N) := by
          obtain ⟨z1, z2, z3, z4, z5⟩ := HB3.out
          exact ⟨by omega, z3 d (by omega) hlb, z5 d (by omega)⟩
        have hcG : w3.cell? ⟨G, d, none⟩ = some vs[d] := own_cellv HB3.out.1 d hlv
        have hfG : w3.frozen? ⟨G, d, none⟩ = false := HB3.out.1.freeAt d
        have hzl : (binsOf f N (xs.take k))[d].length ≤ 1000 := by
          rw [binsOf_get]
          have := filter_len_le (fun x => f x == (d : Int)) xs k
          omega
        obtain ⟨zs, hzs⟩ : ∃ zs, zs = (binsOf f N (xs.take k))[d] := ⟨_, rfl⟩
        have HZS := Lib.hid hzs
        rw [← hzs] at hov hzl
        clear hzs
        obtain ⟨u, hu⟩ : ∃ u, u = vs[d] := ⟨_, rfl⟩
        have HU := Lib.hid hu
        rw [← hu] at hov hgv hcG
        clear hu
        obtain ⟨Au, mu, cu, rfl, hmu, _, _, _⟩ := hov.rd
        subst hmu
        have HOV := Lib.hid hov; clear hov
        have HGV := Lib.hid hgv; clear hgv
        rw [HD.out]
        have hdn : (d : Int) < (N : Int) := by omega
        have hd0 : ¬ ((d : Int) < 0) := by omega
        have hGs : some G ≠ (Value.slice Au zs.length cu).ownBlock := by
          have h := HGV.out
          unfold apart at h
          rcases h with h | h
          · rw [h]; simp
          · exact fun e => h e.symm
        have HGS := Lib.hid hGs; clear hGs
        have hGlt : G < w3.heap.size := (HB3.out.1.blk G rfl).2
        go_wp2
        go_region_law (first | ((refine step_append1 (α := Ltr) (by rfl) (.tmp 44) (.tmp 49) 29 (by rfl) w0.heap.size 89 i1 _ 24 Tryz.underlying29 ji jz0 jz1 jz2 rfl (by decide) (.slice Au zs.length cu) zs x (by rfl) ((HOV.out.alloc _).drew) ⟨w3.heap.size, 0, none⟩ 1 (Ltr.cells x) (by rfl) ⟨⟨hxi, hxc⟩, rfl⟩ (news_drew w3 _ (Ltr.cells x)) (by unfold maxLen; omega) (by omega) (by simp; omega) ?_; intro g cap w4 ho4 hg4 ha4 hl4; have hcG4 : w4.cell? ⟨G, d, none⟩ = some (.slice Au zs.length cu) := (hg4.cell_far ⟨G, d, none⟩ (by simp; omega) HGS.out).trans (by go_simp); have hfG4 : w4.frozen? ⟨G, d, none⟩ = false := (hg4.frozen_far ⟨G, d, none⟩ (by simp; omega) HGS.out).trans (by go_simp))))
        all_goals
          have hWD : Below w3.heap.size w3 (w3.alloc (Obj.cells #[Value.int IntKind.i64 x.id, Value.string x.code] 89)).drew := later_drew (later_alloc (Below.refl _ _) _)
          obtain ⟨p1, p2, p3⟩ := place_step HB3.out HO3.out HFAR.out hWD hlv hlb HU.out HZS.out ho4 hg4 ha4
          have p4 := place_later (G := G) (d := d) (g := g) (m := zs.length + 1) (cap := cap) (later_drew (later_alloc lw3 (Obj.cells #[Value.int IntKind.i64 x.id, Value.string x.code] 89))) hg4 (fun j hj => (HOV.out.blk j hj).1) hG0
          have P1 := Lib.hid p1; have P2 := Lib.hid p2; have P3 := Lib.hid p3
          clear p1 p2 p3 hWD
          go_wp2
          go_roundw
          case rel => exact ⟨k + 1, _, by omega, by go_num, p4, by rw [HS1.out, ← HX.out]; exact P1.out, by rw [HS2.out]; exact P2.out, P3.out⟩
          case measure => simp [intOf]; omega
    · have HE := Lib.hid (show k = xs.length by omega)
      go_wp2
      go_ret2
      have hB := HB.out
      have hO := HO.out
      have hF := HFAR.out
      rw [HE.out, List.take_length] at hB hO hF ⊢
      exact ⟨_, _, vs, rfl, hB.base_ (Nat.le_of_lt hwlt), hO.base_ (Nat.le_of_lt hwlt), hF, later_trans HT.out lr⟩

end Go.Proofs.YtpinkbodbedajaaGreatDoor
