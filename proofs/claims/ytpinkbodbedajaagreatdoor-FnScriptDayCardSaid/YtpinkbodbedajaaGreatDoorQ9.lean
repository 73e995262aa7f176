/- F2 -/
import Derived.Test.YtpinkbodbedajaaGreatDoorQ8
namespace Go.Proofs.YtpinkbodbedajaaGreatDoor
open Go.RowKit

theorem codeI_is {s : ByteArray} {r : Bool} {w : World} (hs : s.size ≤ maxLen) (h : isCode s = r) : Calls Tryz.prog 75 #[.string s] w fun e w' => e = .returned (.bool r) ∧ w = w' := by
  rw [← h]; exact impl_CodeValid s w hs
theorem codeS_is {s : ByteArray} {r : Bool} {w : World} (hs : s.size ≤ maxLen) (h : isCode s = r) : Calls Tryz.prog 88 #[.string s] w fun e w' => e = .returned (.bool r) ∧ w = w' := by
  rw [← h]; exact spec_CodeValid s w hs
theorem fwdI_ge (fs : List Fwd) (k : Nat) (c : ByteArray) {r : Int} (h : fwdI (fs.take k) c = r) : (fs.take k).all (fun y => !sEq y.src c) = !decide (0 ≤ r) := by
  have := fiI_ge (fun y : Fwd => sEq y.src c) (fs.take k)
  rw [← h]
  unfold fwdI
  rw [this, Bool.not_not]
theorem fwdI_self {fs : List Fwd} {k : Nat} (h : k < fs.length) : (fwdI fs fs[k].src == (k : Int)) = (fs.take k).all (fun y => !sEq y.src fs[k].src) :=
  fiI_self (p := fun y : Fwd => sEq y.src fs[k].src) h (sEq_refl _)

set_option maxRecDepth 100000 in
set_option maxHeartbeats 1600000 in
theorem spec_ForwardsValid (v : Value) (fs : List Fwd) (w : World) (hv : rd w w.heap.size v fs) :
    Calls Tryz.prog 113 #[v] w fun e w' => e = .returned (.bool (fwdsOk fs)) ∧ w = w' := by
  obtain ⟨A, n, cp, rfl, hn, hc, hm, hr⟩ := hv
  have hv0 := Lib.hid (show rd w w.heap.size (.slice A n cp) fs from ⟨A, n, cp, rfl, hn, hc, hm, hr⟩)
  subst hn
  unfold maxLen at hm
  have HR := Lib.hid hr; clear hr
  have l0 := Below.refl w.heap.size w
  go_enter Tryz.func113, Tryz.ntmps113
  go_wp2
  go_loop [3] (fun i => ∃ k : Nat, k ≤ fs.length ∧ i = .int .i64 k ∧ Hid (∀ j, j < k → goodF fs j = true)) (fun i => fs.length - (intOf i).toNat)
  case atStart => exact ⟨0, Nat.zero_le _, rfl, fun j hj => absurd hj (Nat.not_lt_zero j)⟩
  case round =>
    obtain ⟨k, hk, rfl, HG⟩ := hrel
    by_cases hlt : k < fs.length
    · obtain ⟨b, o, rfl, hb, ⟨ok1, ok2⟩, c1, c2⟩ := HR.out.fwdU k hlt
      have hG := Lib.hid (goodF_of hlt)
      have hS := Lib.hid (fwdI_self hlt)
      have hbad := Lib.hid (fun h => fwdsOk_bad hlt h)
      generalize fs[k] = x at *
      have hki : (k : Int) < (fs.length : Int) := by omega
      go_wp2_with fail
      refine (spec_CodeValid x.src _ ok1).mono ?_
      rintro e w1 ⟨rfl, rfl⟩
      cases h1 : isCode x.src
      · have H1 := Lib.hid h1; clear h1
        go_wp2_with fail
        go_ret
        exact ⟨ret_bool (hbad.out (by rw [hG.out, H1.out]; rfl)).symm, rfl⟩
      have H1 := Lib.hid h1; clear h1
      go_wp2_with fail
      refine (spec_CodeValid x.dst _ ok2).mono ?_
      rintro e w1 ⟨rfl, rfl⟩
      cases h2 : isCode x.dst
      · have H2 := Lib.hid h2; clear h2
        go_wp2_with fail
        go_ret
        exact ⟨ret_bool (hbad.out (by rw [hG.out, H1.out, H2.out]; rfl)).symm, rfl⟩
      have H2 := Lib.hid h2; clear h2
      obtain ⟨r, HRR⟩ : ∃ r, Hid (fwdI fs x.src = r) := ⟨_, rfl⟩
      go_wp2_with fail
      refine (spec_l4Index _ fs x.src _ hv0.out).mono ?_
      rw [HRR.out]
      rintro e w1 ⟨rfl, rfl⟩
      cases h3 : (r == (k : Int))
      · have H3 := Lib.hid h3
        have h3' : (r != (k : Int)) = true := by rw [bne, h3]; rfl
        clear h3
        go_wp2_with fail
        go_ret
        exact ⟨ret_bool (hbad.out (by rw [hG.out, ← hS.out, HRR.out, H3.out]; simp)).symm, rfl⟩
      · have H3 := Lib.hid h3
        have h3' : (r != (k : Int)) = false := by rw [bne, h3]; rfl
        clear h3
        go_wp2_with fail
        go_round
        case rel =>
          refine ⟨k + 1, by omega, by go_num, fun j hj => ?_⟩
          by_cases hjk : j < k
          · exact HG.out j hjk
          · obtain rfl : j = k := by omega
            rw [hG.out, H1.out, H2.out, ← hS.out, HRR.out, H3.out]; rfl
        case measure => simp [intOf]; omega
    · have HE := Lib.hid (show k = fs.length by omega)
      by_cases h30 : fs.length ≤ 30
      · have H30 := Lib.hid h30
        have h30' : (fs.length : Int) ≤ 30 := by omega
        go_wp2_with fail
        go_ret
        exact ⟨ret_bool (fwdsOk_good H30.out (by rw [← HE.out]; exact HG.out)).symm, rfl⟩
      · have H30 := Lib.hid h30
        have h30' : ¬ (fs.length : Int) ≤ 30 := by omega
        go_wp2_with fail
        go_ret
        exact ⟨ret_bool (fwdsOk_len H30.out).symm, rfl⟩

set_option maxRecDepth 100000 in
set_option maxHeartbeats 1600000 in
theorem impl_ForwardsValid (v : Value) (fs : List Fwd) (w : World) (hv : rd w w.heap.size v fs) :
    Calls Tryz.prog 59 #[v] w fun e w' => e = .returned (.bool (fwdsOk fs)) ∧ Below w.heap.size w w' := by
  obtain ⟨A, n, cp, rfl, hn, hc, hm, hr⟩ := hv
  have hv0 := Lib.hid (show rd w w.heap.size (.slice A n cp) fs from ⟨A, n, cp, rfl, hn, hc, hm, hr⟩)
  subst hn
  unfold maxLen at hm
  have HR := Lib.hid hr; clear hr
  have l0 := Below.refl w.heap.size w
  go_enter Tryz.func59, Tryz.ntmps59
  by_cases h30 : (30 : Int) < (fs.length : Int)
  · have HF := Lib.hid (show ¬ fs.length ≤ 30 by omega)
    go_wp2
    go_ret
    exact ⟨ret_bool (fwdsOk_len HF.out).symm, l0⟩
  have H30 := Lib.hid (show fs.length ≤ 30 by omega)
  go_wp2
  go_loopw [10] (fun i wr => ∃ k : Nat, k ≤ fs.length ∧ i = .int .i64 k ∧ Below w.heap.size w wr ∧ Hid (∀ j, j < k → goodF fs j = true)) (fun i _ => fs.length - (intOf i).toNat)
  case atStart => exact ⟨0, Nat.zero_le _, rfl, l0, fun j hj => absurd hj (Nat.not_lt_zero j)⟩
  case round =>
    obtain ⟨k, hk, rfl, lr, HG⟩ := hrel
    obtain ⟨w1, rfl⟩ : ∃ w1 : World, w1 = wr := ⟨_, rfl⟩
    clear l0
    by_cases hlt : k < fs.length
    · obtain ⟨b, o, rfl, hb, ⟨ok1, ok2⟩, c1, c2⟩ := HR.out.fwdU k hlt
      have hG := Lib.hid (goodF_of hlt)
      have hbad := Lib.hid (fun h => fwdsOk_bad hlt h)
      generalize fs[k] = x at *
      have hki : (k : Int) < (fs.length : Int) := by omega
      obtain ⟨wo, hwo⟩ : ∃ wo : World, wo = w1.alloc (Obj.cells #[.string x.src, .string x.dst] 94) := ⟨_, rfl⟩
      have lo : Below w.heap.size w wo := later_trans lr (box_later hwo).1
      have y0 := box_cells hwo 0 (.string x.src) rfl
      have y1 := box_cells hwo 1 (.string x.dst) rfl
      have lb := Below.refl wo.heap.size wo
      have hv1 := Lib.hid (hv0.out.on lo)
      have HWO := Lib.hid hwo; clear hwo
      cases h1 : isCode x.src
      · have H1 := Lib.hid h1; clear h1
        have C1 := Lib.hid (fun w => codeI_is (w := w) ok1 H1.out)
        go_wp2
        rw [← HWO.out]
        go_quiet (first | (go_at_call 75; refine quiet_c (C1.out _)))
        go_wp2
        go_ret
        exact ⟨ret_bool (hbad.out (by rw [hG.out, H1.out]; rfl)).symm, below_drewN lo _⟩
      have H1 := Lib.hid h1; clear h1
      have C1 := Lib.hid (fun w => codeI_is (w := w) ok1 H1.out)
      cases h2 : isCode x.dst
      · have H2 := Lib.hid h2; clear h2
        have C2 := Lib.hid (fun w => codeI_is (w := w) ok2 H2.out)
        go_wp2
        rw [← HWO.out]
        go_quiet (first | (go_at_call 75; first | with_reducible refine quiet_c (C1.out _) | with_reducible refine quiet_c (C2.out _)))
        go_wp2
        go_ret
        exact ⟨ret_bool (hbad.out (by rw [hG.out, H1.out, H2.out]; rfl)).symm, below_drewN lo _⟩
      have H2 := Lib.hid h2; clear h2
      have C2 := Lib.hid (fun w => codeI_is (w := w) ok2 H2.out)
      obtain ⟨r, HRR⟩ : ∃ r, Hid (fwdI (fs.take k) x.src = r) := ⟨_, rfl⟩
      have HGE := Lib.hid (fwdI_ge fs k x.src HRR.out)
      have C3 : Hid (∀ W, Below wo.heap.size wo W → Calls Tryz.prog 124 #[.slice (some ⟨b, o, none⟩) k cp, .string x.src] W fun e w' => e = .returned (.int .i64 r) ∧ Below W.heap.size W w') := fun W hW => by
        have h := impl_forwardOf (.slice (some ⟨b, o, none⟩) k cp) (fs.take k) x.src W ((hv1.out.on hW).take hk)
        rw [HRR.out] at h
        exact h
      have ld := later_drew lb
      have hkc : k ≤ cp := by omega
      have hkci : (k : Int) ≤ (cp : Int) := by omega
      by_cases hr0 : 0 ≤ r
      · have HD := Lib.hid (decide_eq_true hr0)
        go_wp2
        rw [← HWO.out]
        go_region_held3 (fun W => Below wo.heap.size wo W) (first | exact ld | exact later_trans ld b3) (first | (go_at_call 75; first | ((with_reducible refine (C1.out _).mono ?_); rintro e w' ⟨rfl, rfl⟩) | ((with_reducible refine (C2.out _).mono ?_); rintro e w' ⟨rfl, rfl⟩)) | (go_at_call 124; refine (C3.out _ ld).mono ?_; rintro e w3 ⟨rfl, b3⟩))
        have l3 := later_trans lo (later_trans ld b3)
        go_wp2
        go_ret
        exact ⟨ret_bool (hbad.out (by rw [hG.out, HGE.out, HD.out]; simp)).symm, l3⟩
      · have HD := Lib.hid (decide_eq_false hr0)
        go_wp2
        rw [← HWO.out]
        go_region_held3 (fun W => Below wo.heap.size wo W) (first | exact ld | exact later_trans ld b3) (first | (go_at_call 75; first | ((with_reducible refine (C1.out _).mono ?_); rintro e w' ⟨rfl, rfl⟩) | ((with_reducible refine (C2.out _).mono ?_); rintro e w' ⟨rfl, rfl⟩)) | (go_at_call 124; refine (C3.out _ ld).mono ?_; rintro e w3 ⟨rfl, b3⟩))
        have l3 := later_trans lo (later_trans ld b3)
        go_wp2
        go_roundw
        case rel =>
          refine ⟨k + 1, by omega, by go_num, l3, fun j hj => ?_⟩
          by_cases hjk : j < k
          · exact HG.out j hjk
          · obtain rfl : j = k := by omega
            rw [hG.out, H1.out, H2.out, HGE.out, HD.out]; rfl
        case measure => simp [intOf]; omega
    · have HE := Lib.hid (show k = fs.length by omega)
      go_wp2
      go_ret
      exact ⟨ret_bool (fwdsOk_good H30.out (by rw [← HE.out]; exact HG.out)).symm, lr⟩

/-- Where letters for a code arrive, if all is valid. -/
def resolve (fs : List Fwd) (c : ByteArray) : ByteArray × Nat × Bool := if isCode c && fwdsOk fs then follow fs c else (⟨#[]⟩, 0, false)


end Go.Proofs.YtpinkbodbedajaaGreatDoor
