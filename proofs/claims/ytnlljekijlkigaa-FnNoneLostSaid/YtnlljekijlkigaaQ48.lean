/- MI2 -/
import Derived.Test.YtnlljekijlkigaaQ41
namespace Go.Proofs.Ytnlljekijlkigaa
open Go.RowKit

set_option maxRecDepth 100000 in
set_option maxHeartbeats 1600000 in
theorem impl_MissingIds (va vb : Value) (a b : List Ltr) (w : World) (ha : rd w w.heap.size va a) (hb : rd w w.heap.size vb b) :
    Calls Try.prog 33 #[va, vb] w fun e w' => ∃ v', e = .returned v' ∧ own 3 w.heap.size w' v' (missR a b) ∧ Below w.heap.size w w' := by
  have HA := Lib.hid ha; have HB := Lib.hid hb; clear hb
  obtain ⟨A, m, c, rfl, hm, hc, hmx, hr⟩ := ha
  subst hm
  unfold maxLen at hmx
  have HR := Lib.hid hr; clear hr
  have HNO : Hid (∀ h : missOk a b = false, missR a b = []) := fun h => by unfold missR; rw [h]; rfl
  obtain ⟨i0, hi, hz0, hz1, hz2⟩ := info_parts Try.infoInt
  go_enter Try.func33, Try.ntmps33
  go_wp2_with fail
  refine (impl_BatchValid _ a _ HA.out).mono ?_
  rintro e w1 ⟨rfl, b1⟩
  have l1 := later_trans (Below.refl w.heap.size w) b1
  clear b1
  cases h1 : okB a
  · have HF : Hid (missOk a b = false) := by show _ = _; unfold missOk; rw [h1]; rfl
    clear h1
    go_wp2_with fail
    go_ret
    exact ⟨_, rfl, by rw [HNO.out HF.out]; exact own.nil_ _ _ _, l1⟩
  have hxl : a.length ≤ 60 := (okB_iff.1 h1).1
  have H1 := Lib.hid h1; clear h1
  go_wp2_with fail
  refine (impl_BatchValid _ b _ (HB.out.on l1)).mono ?_
  rintro e w2 ⟨rfl, b2⟩
  have l2 := later_trans l1 b2
  clear b2
  cases h2 : okB b
  · have HF : Hid (missOk a b = false) := by show _ = _; unfold missOk; rw [h2, Bool.and_false]
    clear h2
    go_wp2_with fail
    go_ret
    exact ⟨_, rfl, by rw [HNO.out HF.out]; exact own.nil_ _ _ _, l2⟩
  have HF : Hid (missOk a b = true) := by show _ = _; unfold missOk; rw [h2, H1.out]; rfl
  have HY : Hid (missR a b = sortI (missT b a)) := by show _ = _; unfold missR; rw [if_pos HF.out]
  clear h2 HA
  go_wp2_with fail
  go_loopw [5, 18] (fun t i wr => ∃ k : Nat, k ≤ a.length ∧ i = .int .i64 k ∧ Below w.heap.size w wr ∧ own 3 w.heap.size wr t (missT b (a.take k))) (fun _ i _ => a.length - (intOf i).toNat)
  case atStart => exact ⟨0, Nat.zero_le _, rfl, l2, own.nil_ _ _ _⟩
  case round =>
    obtain ⟨k, hk, rfl, lr, ho⟩ := hrel
    obtain ⟨w3, rfl⟩ : ∃ w3 : World, w3 = wr := ⟨_, rfl⟩
    clear l1 l2
    have HO := Lib.hid ho
    obtain ⟨A5, n5, c5, rfl, hn5, _, _, _⟩ := ho.rd
    subst hn5
    clear ho
    by_cases hlt : k < a.length
    · obtain ⟨bb, o, rfl, hbb, ⟨⟨hxi1, hxi2⟩, hxc⟩, d1, d2⟩ := HR.out.ltrU k hlt
      have HHIT := Lib.hid (missT_hit (b := b) hlt); have HSKIP := Lib.hid (missT_skip (b := b) hlt)
      have HML := Lib.hid (Nat.le_trans (missT_len b (a.take k)) (List.length_take_le k a))
      generalize a[k] = x at *
      generalize missT b (a.take k) = zr at *
      have hzl := HML.out
      have hki : (k : Int) < (a.length : Int) := by omega
      obtain ⟨wl, hwl⟩ : ∃ wl : World, wl = w3.alloc (Obj.cells #[.int .i64 x.id, .string x.code] 49) := ⟨_, rfl⟩
      have y0 := box_cells hwl 0 (.int .i64 x.id) rfl
      have y1 := box_cells hwl 1 (.string x.code) rfl
      have ll := later_trans lr (box_later hwl).1
      have BL := Lib.hid (box_later hwl).1
      have HWL2 := Lib.hid hwl; clear hwl
      obtain ⟨r, hr⟩ : ∃ r, findI b x.id = r := ⟨_, rfl⟩
      rw [hr] at HHIT HSKIP
      go_wp2_with fail
      rw [← HWL2.out]
      refine (impl_FindLetter _ b x.id _ (HB.out.on ll)).mono ?_
      rw [hr]
      clear hr
      rintro e w4 ⟨rfl, b4⟩
      have l4 := later_trans ll b4
      have m4 := later_trans (Below.refl wl.heap.size wl) b4
      have HO4 := Lib.hid ((HO.out.below BL.out).below b4)
      have hs4 : w.heap.size ≤ w4.heap.size := l4.size
      clear b4
      by_cases hr : r < 0
      · have HS := Lib.hid (HHIT.out hr)
        go_wp2_with (at_builtin; refine wpList_append1' (α := Int) rfl (.tmp 27) (.tmp 30) 58 rfl w.heap.size 3 i0 _ 8 Try.underlying58 hi hz0 hz1 hz2 rfl (by decide) (.slice A5 zr.length c5) zr x.id rfl (HO4.out.alloc _) ⟨w4.heap.size, 0, none⟩ 1 [.int .i64 x.id] rfl ⟨⟨hxi1, hxi2⟩, rfl⟩ (news_at w4 _ [.int .i64 x.id]) (by unfold maxLen; omega) (by omega) (by simp; omega) ?_; intro g cap w5 ho5 hg5 ha5 hl5)
        have l5 : Below w.heap.size w w5 := (later_alloc l4 (Obj.cells #[Value.int IntKind.i64 x.id] 3)).grown hg5 (by simp; omega) fun q hq => (HO4.out.blk q hq).1
        go_wp2
        go_roundw
        case rel => exact ⟨k + 1, by omega, by go_num, l5, by rw [HS.out]; exact ho5⟩
        case measure => simp [intOf]; omega
      · have HS := Lib.hid (HSKIP.out (by omega))
        go_wp2_with fail
        go_roundw
        case rel => exact ⟨k + 1, by omega, by go_num, l4, by rw [HS.out]; exact HO4.out⟩
        case measure => simp [intOf]; omega
    · have HE := Lib.hid (show k = a.length by omega)
      rw [HE.out, List.take_length] at HO
      have HML := Lib.hid (missT_len b a)
      rw [HE.out, List.take_length]
      generalize missT b a = zr at *
      have hzl : zr.length ≤ 1048576 := by have := HML.out; omega
      go_wp2_with fail
      refine (slices_SortI _ w.heap.size _ zr _ HO.out hzl).mono ?_
      rintro e w4 ⟨rfl, o4, g4⟩
      have l4 : Below w.heap.size w w4 := lr.grown g4 lr.size fun q hq => (HO.out.blk q hq).1
      have O4 := Lib.hid o4; clear o4 g4
      go_wp2_with fail
      go_ret
      exact ⟨_, rfl, by rw [HY.out]; exact O4.out, l4⟩



end Go.Proofs.Ytnlljekijlkigaa
