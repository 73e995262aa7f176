/- MI2 R0 R1 -/
import Derived.Test.YtiaepapdofcnjaaQ16
import Derived.Test.YtiaepapdofcnjaaQ1
import Derived.ProofKit
import Derived.OpenShut
import Derived.ShutString
import Derived.ChangeOld
import Derived.Deep.Slices
import Derived.Deep.Fields
import Derived.ChangeSame
import Derived.Test.YtiaepapdofcnjaaQ2
namespace Go.Proofs.Ytiaepapdofcnjaa
open Go.RowKit

set_option maxRecDepth 100000 in
set_option maxHeartbeats 1600000 in
theorem impl_MissingIds (va vb : Value) (a b : List Ltr) (w : World) (ha : rd w w.heap.size va a) (hb : rd w w.heap.size vb b) :
    Calls Try.prog 62 #[va, vb] w fun e w' => ∃ v', e = .returned v' ∧ own 3 w.heap.size w' v' (missR a b) ∧ Below w.heap.size w w' := by
  have HA := Lib.hid ha; have HB := Lib.hid hb; clear hb
  obtain ⟨A, m, c, rfl, hm, hc, hmx, hr⟩ := ha
  subst hm
  unfold maxLen at hmx
  have HR := Lib.hid hr; clear hr
  have HNO : Hid (∀ h : missOk a b = false, missR a b = []) := fun h => by unfold missR; rw [h]; rfl
  obtain ⟨i0, hi, hz0, hz1, hz2⟩ := info_parts Try.infoInt
  go_enter Try.func62, Try.ntmps62
  go_wp2_with fail
  refine (impl_BatchValid _ a _ HA.out).mono ?_
  rintro e w1 ⟨rfl, b1⟩
  have l1 := later_trans (Below.refl w.heap.size w) b1
  clear b1
  cases h1 : okB a
  · have HF : Hid (missOk a b = false) := by show _ = _; unfold missOk; rw [h1]; rfl
    clear h1
    go_wp2_with fail
    go_ret
    exact ⟨_, rfl, by rw [HNO.out HF.out]; exact own.nil_ _ _ _, l1⟩
  have hxl : a.length ≤ 60 := (okB_iff.1 h1).1
  have H1 := Lib.hid h1; clear h1
  go_wp2_with fail
  refine (impl_BatchValid _ b _ (HB.out.on l1)).mono ?_
  rintro e w2 ⟨rfl, b2⟩
  have l2 := later_trans l1 b2
  clear b2
  cases h2 : okB b
  · have HF : Hid (missOk a b = false) := by show _ = _; unfold missOk; rw [h2, Bool.and_false]
    clear h2
    go_wp2_with fail
    go_ret
    exact ⟨_, rfl, by rw [HNO.out HF.out]; exact own.nil_ _ _ _, l2⟩
  have HF : Hid (missOk a b = true) := by show _ = _; unfold missOk; rw [h2, H1.out]; rfl
  have HY : Hid (missR a b = sortI (missT b a)) := by show _ = _; unfold missR; rw [if_pos HF.out]
  clear h2 HA
  go_wp2_with fail
  go_loopw [5, 18] (fun t i wr => ∃ k : Nat, k ≤ a.length ∧ i = .int .i64 k ∧ Below w.heap.size w wr ∧ own 3 w.heap.size wr t (missT b (a.take k))) (fun _ i _ => a.length - (intOf i).toNat)
  case atStart => exact ⟨0, Nat.zero_le _, rfl, l2, own.nil_ _ _ _⟩
  case round =>
    obtain ⟨k, hk, rfl, lr, ho⟩ := hrel
    obtain ⟨w3, rfl⟩ : ∃ w3 : World, w3 = wr := ⟨_, rfl⟩
    clear l1 l2
    have HO := Lib.hid ho
    obtain ⟨A5, n5, c5, rfl, hn5, _, _, _⟩ := ho.rd
    subst hn5
    clear ho
    by_cases hlt : k < a.length
    · obtain ⟨bb, o, rfl, hbb, ⟨⟨hxi1, hxi2⟩, hxc⟩, d1, d2⟩ := HR.out.ltrU k hlt
      have HHIT := Lib.hid (missT_hit (b := b) hlt); have HSKIP := Lib.hid (missT_skip (b := b) hlt)
      have HML := Lib.hid (Nat.le_trans (missT_len b (a.take k)) (List.length_take_le k a))
      generalize a[k] = x at *
      generalize missT b (a.take k) = zr at *
      have hzl := HML.out
      have hki : (k : Int) < (a.length : Int) := by omega
      obtain ⟨wl, hwl⟩ : ∃ wl : World, wl = w3.alloc (Obj.cells #[.int .i64 x.id, .string x.code] 103) := ⟨_, rfl⟩
      have y0 := box_cells hwl 0 (.int .i64 x.id) rfl
      have y1 := box_cells hwl 1 (.string x.code) rfl
      have ll := later_trans lr (box_later hwl).1
      have BL := Lib.hid (box_later hwl).1
      have HWL2 := Lib.hid hwl; clear hwl
      obtain ⟨r, hr⟩ : ∃ r, findI b x.id = r := ⟨_, rfl⟩
      rw [hr] at HHIT HSKIP
      go_wp2_with fail
      rw [← HWL2.out]
      refine (impl_FindLetter _ b x.id _ (HB.out.on ll)).mono ?_
      rw [hr]
      clear hr
      rintro e w4 ⟨rfl, b4⟩
      have l4 := later_trans ll b4
      have m4 := later_trans (Below.refl wl.heap.size wl) b4
      have HO4 := Lib.hid ((HO.out.below BL.out).below b4)
      have hs4 : w.heap.size ≤ w4.heap.size := l4.size
      clear b4
      by_cases hr : r < 0
      · have HS := Lib.hid (HHIT.out hr)
        go_wp2_with (at_builtin; refine wpList_append1' (α := Int) rfl (.tmp 27) (.tmp 30) 86 rfl w.heap.size 3 i0 _ 8 Try.underlying86 hi hz0 hz1 hz2 rfl (by decide) (.slice A5 zr.length c5) zr x.id rfl (HO4.out.alloc _) ⟨w4.heap.size, 0, none⟩ 1 [.int .i64 x.id] rfl ⟨⟨hxi1, hxi2⟩, rfl⟩ (news_at w4 _ [.int .i64 x.id]) (by unfold maxLen; omega) (by omega) (by simp; omega) ?_; intro g cap w5 ho5 hg5 ha5 hl5)
        have l5 : Below w.heap.size w w5 := (later_alloc l4 (Obj.cells #[Value.int IntKind.i64 x.id] 3)).grown hg5 (by simp; omega) fun q hq => (HO4.out.blk q hq).1
        go_wp2
        go_roundw
        case rel => exact ⟨k + 1, by omega, by go_num, l5, by rw [HS.out]; exact ho5⟩
        case measure => simp [intOf]; omega
      · have HS := Lib.hid (HSKIP.out (by omega))
        go_wp2_with fail
        go_roundw
        case rel => exact ⟨k + 1, by omega, by go_num, l4, by rw [HS.out]; exact HO4.out⟩
        case measure => simp [intOf]; omega
    · have HE := Lib.hid (show k = a.length by omega)
      rw [HE.out, List.take_length] at HO
      have HML := Lib.hid (missT_len b a)
      rw [HE.out, List.take_length]
      generalize missT b a = zr at *
      have hzl : zr.length ≤ 1048576 := by have := HML.out; omega
      go_wp2_with fail
      refine (slices_SortI _ w.heap.size _ zr _ HO.out hzl).mono ?_
      rintro e w4 ⟨rfl, o4, g4⟩
      have l4 : Below w.heap.size w w4 := lr.grown g4 lr.size fun q hq => (HO.out.blk q hq).1
      have O4 := Lib.hid o4; clear o4 g4
      go_wp2_with fail
      go_ret
      exact ⟨_, rfl, by rw [HY.out]; exact O4.out, l4⟩

set_option maxRecDepth 100000 in
set_option maxHeartbeats 1600000 in
theorem spec_l7Insert (v : Value) (xs : List Int) (n : Int) (w : World) (hv : rd w w.heap.size v xs) (hn : isI64 n) (hl : xs.length ≤ 1000) :
    Calls Try.prog 122 #[v, .int .i64 n] w fun e w' => ∃ v', e = .returned v' ∧ own 3 w.heap.size w' v' (insI xs n) ∧ Below w.heap.size w w' := by
  obtain ⟨hn1, hn2⟩ := hn
  obtain ⟨A, m, c, rfl, hm, hc, hmx, hr⟩ := hv
  subst hm
  unfold maxLen at hmx
  have HR := Lib.hid hr; clear hr
  obtain ⟨i0, hi, hz0, hz1, hz2⟩ := info_parts Try.infoInt
  have oA := own.made0 (α := Int) w 3 (Nat.le_refl w.heap.size)
  have lz : Below w.heap.size w (w.alloc (Obj.cells #[] 3)) := later_alloc (Below.refl _ _) _
  have OA := Lib.hid oA; clear oA
  go_enter Try.func122, Try.ntmps122
  go_wp2
  generalize (w.alloc (Obj.cells #[] 3)) = wz at *
  go_loopw [5, 6, 7] (fun t d i wr => ∃ k : Nat, k ≤ xs.length ∧ i = .int .i64 k ∧ d = .bool ((xs.take k).any fun x => decide (n < x)) ∧ Below w.heap.size w wr ∧ own 3 w.heap.size wr t (if (xs.take k).any (fun x => decide (n < x)) then insI (xs.take k) n else xs.take k)) (fun _ _ i _ => xs.length - (intOf i).toNat)
  case atStart => exact ⟨0, Nat.zero_le _, rfl, rfl, lz, by simpa using OA.out⟩
  case round =>
    obtain ⟨k, hk, rfl, rfl, lr, ho⟩ := hrel
    obtain ⟨w3, rfl⟩ : ∃ w3 : World, w3 = wr := ⟨_, rfl⟩
    clear lz OA
    have hs3 : w.heap.size ≤ w3.heap.size := lr.size
    by_cases hlt : k < xs.length
    · obtain ⟨bb, o, rfl, hbb, ⟨hy1, hy2⟩, d1⟩ := HR.out.intU k hlt
      have hki : (k : Int) < (xs.length : Int) := by omega
      have HT : Hid (xs.take (k + 1) = xs.take k ++ [xs[k]]) := List.take_succ_eq_append_getElem hlt
      generalize xs[k] = y at *
      have HTL := Lib.hid (List.length_take_le k xs)
      generalize xs.take k = L at *
      cases hd : (L.any fun x => decide (n < x))
      · have HD := Lib.hid hd
        rw [hd] at ho
        simp only [Bool.false_eq_true, if_false] at ho
        have HO := Lib.hid ho
        obtain ⟨A5, n5, c5, rfl, hn5, _, _, _⟩ := ho.rd
        subst hn5
        clear ho hd
        have hL := HTL.out
        by_cases hny : n < y
        · have HS : Hid (insI (L ++ [y]) n = L ++ [n] ++ [y]) := insI_hit HD.out hny
          have HAN : Hid (((L ++ [y]).any fun x => decide (n < x)) = true) := by show _ = _; rw [List.any_append]; simp [hny]
          have hny' : decide (n < y) = true := decide_eq_true hny
          go_wp2_with (first | (at_builtin; refine wpList_append1' (α := Int) rfl (.tmp 25) (.tmp 27) 86 rfl w.heap.size 3 i0 _ 8 Try.underlying86 hi hz0 hz1 hz2 rfl (by decide) (.slice A5 L.length c5) L n rfl (HO.out.alloc _) ⟨w3.heap.size, 0, none⟩ 1 [.int .i64 n] rfl ⟨⟨hn1, hn2⟩, rfl⟩ (news_at w3 _ [.int .i64 n]) (by unfold maxLen; omega) (by omega) (by simp; omega) ?_; intro g cap w5 ho5 hg5 ha5 hl5; have l5 : Below w.heap.size w w5 := (later_alloc lr (Obj.cells #[Value.int IntKind.i64 n] 3)).grown hg5 (by simp; omega) (fun q hq => (HO.out.blk q hq).1); have HO5 := Lib.hid ho5; have hs5 : w.heap.size ≤ w5.heap.size := l5.size; have hLn : (L ++ [n]).length = L.length + 1 := by simp) | (at_builtin; refine wpList_append1' (α := Int) rfl (.tmp 29) (.tmp 34) 86 rfl w.heap.size 3 i0 _ 8 Try.underlying86 hi hz0 hz1 hz2 rfl (by decide) (.slice (some ⟨g, 0, none⟩) (L.length + 1) cap) (L ++ [n]) y rfl (HO5.out.alloc _) ⟨w5.heap.size, 0, none⟩ 1 [.int .i64 y] rfl ⟨⟨hy1, hy2⟩, rfl⟩ (news_at w5 _ [.int .i64 y]) (by unfold maxLen; rw [hLn]; omega) (by rw [hLn]; omega) (by simp; omega) ?_; intro g2 cap2 w6 ho6 hg6 ha6 hl6))
          have l6 : Below w.heap.size w w6 := (later_alloc l5 (Obj.cells #[Value.int IntKind.i64 y] 3)).grown hg6 (by simp; omega) fun q hq => (HO5.out.blk q hq).1
          go_wp2
          go_roundw
          case rel => exact ⟨k + 1, by omega, by go_num, by rw [HT.out, HAN.out], l6, by rw [HT.out, HAN.out, if_pos rfl, HS.out]; rw [hLn] at ho6; exact ho6⟩
          case measure => simp [intOf]; omega
        · have HAN : Hid (((L ++ [y]).any fun x => decide (n < x)) = false) := by show _ = _; rw [List.any_append, HD.out]; simp; omega
          have hny' : decide (n < y) = false := decide_eq_false hny
          go_wp2_with (at_builtin; refine wpList_append1' (α := Int) rfl (.tmp 29) (.tmp 34) 86 rfl w.heap.size 3 i0 _ 8 Try.underlying86 hi hz0 hz1 hz2 rfl (by decide) (.slice A5 L.length c5) L y rfl (HO.out.alloc _) ⟨w3.heap.size, 0, none⟩ 1 [.int .i64 y] rfl ⟨⟨hy1, hy2⟩, rfl⟩ (news_at w3 _ [.int .i64 y]) (by unfold maxLen; omega) (by omega) (by simp; omega) ?_; intro g cap w5 ho5 hg5 ha5 hl5)
          have l5 : Below w.heap.size w w5 := (later_alloc lr (Obj.cells #[Value.int IntKind.i64 y] 3)).grown hg5 (by simp; omega) fun q hq => (HO.out.blk q hq).1
          go_wp2
          go_roundw
          case rel => exact ⟨k + 1, by omega, by go_num, by rw [HT.out, HAN.out], l5, by rw [HT.out, HAN.out]; exact ho5⟩
          case measure => simp [intOf]; omega
      · have HD := Lib.hid hd
        rw [hd] at ho
        simp only [if_true] at ho
        have HIL : Hid ((insI L n).length = L.length + 1) := by show _ = _; rw [(insI_perm L n).length_eq]; simp
        have HS : Hid (insI (L ++ [y]) n = insI L n ++ [y]) := insI_done y HD.out
        have HAN : Hid (((L ++ [y]).any fun x => decide (n < x)) = true) := by show _ = _; rw [List.any_append, HD.out]; rfl
        generalize insI L n = zr at *
        have HO := Lib.hid ho
        obtain ⟨A5, n5, c5, rfl, hn5, _, _, _⟩ := ho.rd
        subst hn5
        clear ho hd
        have hzl : zr.length ≤ 1001 := by have := HIL.out; have := HTL.out; omega
        go_wp2_with (at_builtin; refine wpList_append1' (α := Int) rfl (.tmp 29) (.tmp 34) 86 rfl w.heap.size 3 i0 _ 8 Try.underlying86 hi hz0 hz1 hz2 rfl (by decide) (.slice A5 zr.length c5) zr y rfl (HO.out.alloc _) ⟨w3.heap.size, 0, none⟩ 1 [.int .i64 y] rfl ⟨⟨hy1, hy2⟩, rfl⟩ (news_at w3 _ [.int .i64 y]) (by unfold maxLen; omega) (by omega) (by simp; omega) ?_; intro g cap w5 ho5 hg5 ha5 hl5)
        have l5 : Below w.heap.size w w5 := (later_alloc lr (Obj.cells #[Value.int IntKind.i64 y] 3)).grown hg5 (by simp; omega) fun q hq => (HO.out.blk q hq).1
        go_wp2
        go_roundw
        case rel => exact ⟨k + 1, by omega, by go_num, by rw [HT.out, HAN.out], l5, by rw [HT.out, HAN.out, if_pos rfl, HS.out]; exact ho5⟩
        case measure => simp [intOf]; omega
    · have HE := Lib.hid (show k = xs.length by omega)
      have hki : ¬ ((k : Int) < (xs.length : Int)) := by omega
      rw [HE.out, List.take_length] at ho
      rw [HE.out, List.take_length]
      cases hd : (xs.any fun x => decide (n < x))
      · have HS : Hid (insI xs n = xs ++ [n]) := insI_none hd
        rw [hd] at ho
        simp only [Bool.false_eq_true, if_false] at ho
        have HO := Lib.hid ho
        obtain ⟨A5, n5, c5, rfl, hn5, _, _, _⟩ := ho.rd
        subst hn5
        clear ho hd
        go_wp2_with (at_builtin; refine wpList_append1' (α := Int) rfl (.tmp 38) (.tmp 40) 86 rfl w.heap.size 3 i0 _ 8 Try.underlying86 hi hz0 hz1 hz2 rfl (by decide) (.slice A5 xs.length c5) xs n rfl (HO.out.alloc _) ⟨w3.heap.size, 0, none⟩ 1 [.int .i64 n] rfl ⟨⟨hn1, hn2⟩, rfl⟩ (news_at w3 _ [.int .i64 n]) (by unfold maxLen; omega) (by omega) (by simp; omega) ?_; intro g cap w5 ho5 hg5 ha5 hl5)
        have l5 : Below w.heap.size w w5 := (later_alloc lr (Obj.cells #[Value.int IntKind.i64 n] 3)).grown hg5 (by simp; omega) fun q hq => (HO.out.blk q hq).1
        go_wp2
        go_ret
        exact ⟨_, rfl, by rw [HS.out]; exact ho5, l5⟩
      · rw [hd] at ho
        simp only [if_true] at ho
        have HO := Lib.hid ho
        clear ho hd
        go_wp2_with fail
        go_ret
        exact ⟨_, rfl, HO.out, lr⟩

set_option maxRecDepth 100000 in
set_option maxHeartbeats 1600000 in
theorem spec_MissingIds (va vb : Value) (a b : List Ltr) (w : World) (ha : rd w w.heap.size va a) (hb : rd w w.heap.size vb b) :
    Calls Try.prog 61 #[va, vb] w fun e w' => ∃ v', e = .returned v' ∧ own 3 w.heap.size w' v' (missR a b) ∧ Below w.heap.size w w' := by
  have HA := Lib.hid ha; have HB := Lib.hid hb; clear hb
  obtain ⟨A, m, c, rfl, hm, hc, hmx, hr⟩ := ha
  subst hm
  unfold maxLen at hmx
  have HR := Lib.hid hr; clear hr
  have HNO : Hid (∀ h : missOk a b = false, missR a b = []) := fun h => by unfold missR; rw [h]; rfl
  have HYES : Hid (∀ h : missOk a b = true, a.length ≤ 60 ∧ missR a b = (missT b a).foldl insI []) := fun h => by
    have h1 := h
    unfold missOk at h1
    rw [Bool.and_eq_true] at h1
    exact ⟨(okB_iff.1 h1.1).1, by unfold missR; rw [if_pos h, foldl_sort]⟩
  have oA := own.made0 (α := Int) w 3 (Nat.le_refl w.heap.size)
  have lz : Below w.heap.size w (w.alloc (Obj.cells #[] 3)) := later_alloc (Below.refl _ _) _
  have OA := Lib.hid oA; clear oA
  go_enter Try.func61, Try.ntmps61
  go_wp2
  generalize (w.alloc (Obj.cells #[] 3)) = wz at *
  go_loopw [5, 6] (fun t i wr => ∃ k : Nat, k ≤ a.length ∧ i = .int .i64 k ∧ Below w.heap.size w wr ∧ Hid (k = 0 ∨ missOk a b = true) ∧ own 3 w.heap.size wr t ((missT b (a.take k)).foldl insI [])) (fun _ i _ => a.length - (intOf i).toNat)
  case atStart => exact ⟨0, Nat.zero_le _, rfl, lz, .inl rfl, by simpa [missT] using OA.out⟩
  case round =>
    obtain ⟨k, hk, rfl, lr, HK, ho⟩ := hrel
    obtain ⟨w3, rfl⟩ : ∃ w3 : World, w3 = wr := ⟨_, rfl⟩
    clear lz OA
    have HO := Lib.hid ho; clear ho
    by_cases hlt : k < a.length
    · obtain ⟨bb, o, rfl, hbb, ⟨⟨hxi1, hxi2⟩, hxc⟩, d1, d2⟩ := HR.out.ltrU k hlt
      have HHIT := Lib.hid (missT_hit (b := b) hlt); have HSKIP := Lib.hid (missT_skip (b := b) hlt)
      have HML := Lib.hid (Nat.le_trans (missT_len b (a.take k)) (List.length_take_le k a))
      generalize a[k] = x at *
      have HEND : Hid (missOk a b = false → (missT b (a.take k)).foldl insI [] = missR a b) := fun h => by
        rcases HK.out with h' | h'
        · subst h'; rw [HNO.out h]; simp [missT]
        · rw [h] at h'; cases h'
      generalize missT b (a.take k) = zr at *
      have hki : (k : Int) < (a.length : Int) := by omega
      go_wp2_with fail
      refine (spec_BatchValid _ a _ (HA.out.on lr)).mono ?_
      rintro e w4 ⟨rfl, b4⟩
      have l4 := later_trans lr b4
      replace HO := Lib.hid (HO.out.below b4)
      clear b4
      cases h1 : okB a
      · have HF : Hid (missOk a b = false) := by show _ = _; unfold missOk; rw [h1]; rfl
        clear h1
        go_wp2_with fail
        go_ret
        exact ⟨_, rfl, by rw [← HEND.out HF.out]; exact HO.out, l4⟩
      have H1 := Lib.hid h1; clear h1
      go_wp2_with fail
      refine (spec_BatchValid _ b _ (HB.out.on l4)).mono ?_
      rintro e w5 ⟨rfl, b5⟩
      have l5 := later_trans l4 b5
      replace HO := Lib.hid (HO.out.below b5)
      clear b5
      cases h2 : okB b
      · have HF : Hid (missOk a b = false) := by show _ = _; unfold missOk; rw [h2, Bool.and_false]
        clear h2
        go_wp2_with fail
        go_ret
        exact ⟨_, rfl, by rw [← HEND.out HF.out]; exact HO.out, l5⟩
      have HF : Hid (missOk a b = true) := by show _ = _; unfold missOk; rw [h2, H1.out]; rfl
      have hal := (HYES.out HF.out).1
      clear h2 HEND
      obtain ⟨r, hr⟩ : ∃ r, findI b x.id = r := ⟨_, rfl⟩
      rw [hr] at HHIT HSKIP
      go_wp2_with fail
      refine (spec_FindLetter _ b x.id _ (HB.out.on l5)).mono ?_
      rw [hr]
      clear hr
      rintro e w6 ⟨rfl, b6⟩
      have l6 := later_trans l5 b6
      replace HO := Lib.hid (HO.out.below b6)
      clear b6
      by_cases hr : r < 0
      · have HS := Lib.hid (HHIT.out hr)
        have HFL : Hid ((zr.foldl insI []).length ≤ 60) := by
          show _ ≤ _
          rw [(foldl_ins zr [] List.Pairwise.nil).2.length_eq]
          have := HML.out
          simp; omega
        go_wp2_with fail
        refine (spec_l7Insert _ (zr.foldl insI []) x.id _ HO.out.rd ⟨hxi1, hxi2⟩ (by have := HFL.out; omega)).mono ?_
        rintro e w7 ⟨v7, rfl, o7, b7⟩
        have l7 := later_trans l6 b7
        have O7 := Lib.hid (o7.base_ l6.size); clear o7 b7
        go_wp2_with fail
        go_roundw
        case rel => exact ⟨k + 1, by omega, by go_num, l7, .inr HF.out, by rw [HS.out, List.foldl_append]; exact O7.out⟩
        case measure => simp [intOf]; omega
      · have HS := Lib.hid (HSKIP.out (by omega))
        go_wp2_with fail
        go_roundw
        case rel => exact ⟨k + 1, by omega, by go_num, l6, .inr HF.out, by rw [HS.out]; exact HO.out⟩
        case measure => simp [intOf]; omega
    · have HE := Lib.hid (show k = a.length by omega)
      have hki : ¬ ((k : Int) < (a.length : Int)) := by omega
      have HEND : Hid ((missT b (a.take k)).foldl insI [] = missR a b) := by
        show _ = _
        cases h : missOk a b
        · rcases HK.out with h' | h'
          · subst h'; rw [HNO.out h]; simp [missT]
          · rw [h] at h'; cases h'
        · rw [HE.out, List.take_length, (HYES.out h).2]
      go_wp2_with fail
      go_ret
      exact ⟨_, rfl, by rw [← HEND.out]; exact HO.out, lr⟩

end Go.Proofs.Ytiaepapdofcnjaa

namespace Go.Proofs.Ytiaepapdofcnjaa
open Go.RowKit Go.ChangeShapes Go.WideShapes Go.Deep

/-- Whatever reads at type t reads as some x of α. -/
def Opens (P : Program) (t : TypeId) (α : Type) [El α] : Prop :=
  ∀ {H : Type} (enc : TypeId × Value → H) (w : World) (spare : Nat → Bool) (held : Bool) (fuel : Nat) (cs : List Value) (x : DataW H × List MemPlace),
    DataW.trod enc P w 0 spare held fuel t cs = some x → ∃ y : α, El.el w w.heap.size y cs

theorem list_of {α : Type} {p : Nat → α → Prop} : ∀ {n : Nat}, (∀ i, i < n → ∃ y, p i y) → ∃ xs : List α, xs.length = n ∧ ∀ i (h : i < xs.length), p i xs[i]
  | 0, _ => ⟨[], rfl, fun i h => absurd h (Nat.not_lt_zero i)⟩
  | n + 1, h => by
    obtain ⟨xs, hl, hp⟩ := list_of (n := n) (fun i hi => h i (by omega))
    obtain ⟨y, hy⟩ := h n (by omega)
    refine ⟨xs ++ [y], by simp [hl], fun i hi => ?_⟩
    by_cases hin : i < xs.length
    · rw [List.getElem_append_left hin]
      exact hp i hin
    · have : i = n := by simp at hi; omega
      subst this
      rw [List.getElem_append_right (by omega)]
      simpa [hl] using hy

theorem opens_row {α : Type} [El α] {P : Program} {t e : TypeId} (ht : P.underlying t = some (.slice e)) (hc : P.cellsOf e = El.size α) (hs : 0 < El.size α) (ho : Opens P e α)
    {H : Type} {enc : TypeId × Value → H} {w : World} {spare : Nat → Bool} {held : Bool} {fuel : Nat} {v : Value} {x : DataW H × List MemPlace}
    (h : DataW.trod enc P w 0 spare held fuel t [v] = some x) : ∃ xs : List α, rd w w.heap.size v xs := by
  rcases open_slice ht h with ⟨h0, _⟩ | ⟨a, len, cap, m, n, D, Pl, hcs, hb, hl, hm, hmm, hx, hi⟩
  · injection h0 with h0
    subst h0
    exact ⟨[], rd.nil_⟩
  · injection hcs with hv
    subst hv
    obtain ⟨xs, hxl, hxp⟩ := list_of (n := len) (p := fun i (y : α) => ∃ cs : List Value, El.el w w.heap.size y cs ∧ ∀ j u, cs[j]? = some u → w.cell? (a.add (i * El.size α + j)) = some u) (fun i hil => by
      obtain ⟨cs', hcc, hd⟩ := hi i (by rw [hmm]; split <;> omega)
      obtain ⟨y, hy⟩ := ho enc w spare held n cs' _ hd
      obtain ⟨_, hcl, hat⟩ := World.cells?_some hcc
      refine ⟨y, cs', hy, fun j u hu => ?_⟩
      have hj : j < P.cellsOf e := by
        rw [← hcl]
        exact (List.getElem?_eq_some_iff.1 hu).1
      have := hat j hj
      rw [← add_add, ← hc, this, hu])
    refine ⟨xs, some a, len, cap, rfl, hxl.symm, hl, hm, fun k hk => ?_⟩
    obtain ⟨cs, hel, hcell⟩ := hxp k hk
    have h0 : cs[0]? = some (cs[0]'(by rw [El.len hel]; exact hs)) := List.getElem?_eq_getElem _
    obtain ⟨b, o, spot⟩ := a
    have hc0 := hcell 0 _ h0
    have hspot : spot = none := by
      have h1 := hxp 0 (by omega)
      obtain ⟨cs1, hel1, hcell1⟩ := h1
      have h01 : cs1[0]? = some (cs1[0]'(by rw [El.len hel1]; exact hs)) := List.getElem?_eq_getElem _
      have := World.cell?_spot (hcell1 0 _ h01)
      simpa [Addr.add] using this
    subst hspot
    have hlt := World.block_lt_of_cell? _ _ hc0
    rw [block_of_add] at hlt
    exact ⟨b, o, cs, rfl, hlt, hel, fun j u hu => by have := hcell j u hu; rwa [add_lit] at this⟩

/-- The cells of a struct, field by field. -/
theorem trod_fields {H : Type} {enc : TypeId × Value → H} {P : Program} {w : World} {base : Nat} {spare : Nat → Bool} {held : Bool} {t : TypeId} {fs : Array Field} {fuel : Nat} {cs : List Value} {x : DataW H × List MemPlace}
    (ht : P.underlying t = some (.struct fs)) (h : DataW.trod enc P w base spare held fuel t cs = some x) :
    cs.length = P.cellsOf t ∧ ∀ (i : Nat) (f : Field), fs[i]? = some f → ∃ n y, DataW.trod enc P w base spare held n f.type ((cs.drop f.offset).take (P.cellsOf f.type)) = some y := by
  obtain ⟨xs, n, _, _, hlen, hl, hf⟩ := DataW.trod_struct ht h
  refine ⟨hlen, fun i f hi => ?_⟩
  have hil : i < xs.length := by rw [hl]; exact (Array.getElem?_eq_some_iff.1 hi).1
  exact ⟨n, xs[i], by rw [hf i f hi]; exact List.getElem?_eq_getElem hil⟩
theorem list2 {α : Type} {l : List α} (h : l.length = 2) : ∃ a b, l = [a, b] := by
  match l, h with
  | [a, b], _ => exact ⟨a, b, rfl⟩
theorem list3 {α : Type} {l : List α} (h : l.length = 3) : ∃ a b c, l = [a, b, c] := by
  match l, h with
  | [a, b, c], _ => exact ⟨a, b, c, rfl⟩
theorem list4 {α : Type} {l : List α} (h : l.length = 4) : ∃ a b c d, l = [a, b, c, d] := by
  match l, h with
  | [a, b, c, d], _ => exact ⟨a, b, c, d, rfl⟩
theorem list6 {α : Type} {l : List α} (h : l.length = 6) : ∃ a b c d e f, l = [a, b, c, d, e, f] := by
  match l, h with
  | [a, b, c, d, e, f], _ => exact ⟨a, b, c, d, e, f, rfl⟩

end Go.Proofs.Ytiaepapdofcnjaa

namespace Go.Proofs.Ytiaepapdofcnjaa
open Go.ChangeShapes Go.WideShapes Go.ChangeAt Go.RowKit

set_option maxRecDepth 100000 in
theorem opensLtr : Opens Try.prog 108 Ltr := by
  intro H enc w spare held fuel cs x h
  obtain ⟨hl, hf⟩ := trod_fields Try.underlying108 h
  obtain ⟨c0, c1, rfl⟩ := list2 (hl.trans (by kernel_rfl))
  obtain ⟨n0, y0, h0⟩ := hf 0 _ rfl
  obtain ⟨n1, y1, h1⟩ := hf 1 _ rfl
  obtain ⟨i, e0, _, wi⟩ := DataW.trod_int Try.underlying3 (h0 : DataW.trod enc Try.prog w 0 spare held n0 3 [c0] = some y0)
  obtain ⟨s, e1, _, ws⟩ := DataW.trod_string Try.underlying9 (h1 : DataW.trod enc Try.prog w 0 spare held n1 9 [c1] = some y1)
  injection e0 with e0
  injection e1 with e1
  subst e0 e1
  exact ⟨⟨i, s⟩, ⟨wf_range wi, ws⟩, rfl⟩

end Go.Proofs.Ytiaepapdofcnjaa
