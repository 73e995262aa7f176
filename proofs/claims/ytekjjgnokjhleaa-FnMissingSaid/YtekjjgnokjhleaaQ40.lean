/- MI2 DN -/
import Derived.Test.YtekjjgnokjhleaaQ39
import Derived.Test.YtekjjgnokjhleaaQ16
import Derived.Test.YtekjjgnokjhleaaQ21
namespace Go.Proofs.Ytekjjgnokjhleaa
open Go.RowKit

set_option maxRecDepth 100000 in
set_option maxHeartbeats 1600000 in
theorem impl_MissingIds (va vb : Value) (a b : List Ltr) (w : World) (ha : rd w w.heap.size va a) (hb : rd w w.heap.size vb b) :
    Calls Try.prog 50 #[va, vb] w fun e w' => ∃ v', e = .returned v' ∧ own 3 w.heap.size w' v' (missR a b) ∧ Below w.heap.size w w' := by
  have HA := Lib.hid ha; have HB := Lib.hid hb; clear hb
  obtain ⟨A, m, c, rfl, hm, hc, hmx, hr⟩ := ha
  subst hm
  unfold maxLen at hmx
  have HR := Lib.hid hr; clear hr
  have HNO : Hid (∀ h : missOk a b = false, missR a b = []) := fun h => by unfold missR; rw [h]; rfl
  obtain ⟨i0, hi, hz0, hz1, hz2⟩ := info_parts Try.infoInt
  go_enter Try.func50, Try.ntmps50
  go_wp2_with fail
  refine (impl_BatchValid _ a _ HA.out).mono ?_
  rintro e w1 ⟨rfl, b1⟩
  have l1 := later_trans (Below.refl w.heap.size w) b1
  clear b1
  cases h1 : okB a
  · have HF : Hid (missOk a b = false) := by show _ = _; unfold missOk; rw [h1]; rfl
    clear h1
    go_wp2_with fail
    go_ret
    exact ⟨_, rfl, by rw [HNO.out HF.out]; exact own.nil_ _ _ _, l1⟩
  have hxl : a.length ≤ 60 := (okB_iff.1 h1).1
  have H1 := Lib.hid h1; clear h1
  go_wp2_with fail
  refine (impl_BatchValid _ b _ (HB.out.on l1)).mono ?_
  rintro e w2 ⟨rfl, b2⟩
  have l2 := later_trans l1 b2
  clear b2
  cases h2 : okB b
  · have HF : Hid (missOk a b = false) := by show _ = _; unfold missOk; rw [h2, Bool.and_false]
    clear h2
    go_wp2_with fail
    go_ret
    exact ⟨_, rfl, by rw [HNO.out HF.out]; exact own.nil_ _ _ _, l2⟩
  have HF : Hid (missOk a b = true) := by show _ = _; unfold missOk; rw [h2, H1.out]; rfl
  have HY : Hid (missR a b = sortI (missT b a)) := by show _ = _; unfold missR; rw [if_pos HF.out]
  clear h2 HA
  go_wp2_with fail
  go_loopw [5, 18] (fun t i wr => ∃ k : Nat, k ≤ a.length ∧ i = .int .i64 k ∧ Below w.heap.size w wr ∧ own 3 w.heap.size wr t (missT b (a.take k))) (fun _ i _ => a.length - (intOf i).toNat)
  case atStart => exact ⟨0, Nat.zero_le _, rfl, l2, own.nil_ _ _ _⟩
  case round =>
    obtain ⟨k, hk, rfl, lr, ho⟩ := hrel
    obtain ⟨w3, rfl⟩ : ∃ w3 : World, w3 = wr := ⟨_, rfl⟩
    clear l1 l2
    have HO := Lib.hid ho
    obtain ⟨A5, n5, c5, rfl, hn5, _, _, _⟩ := ho.rd
    subst hn5
    clear ho
    by_cases hlt : k < a.length
    · obtain ⟨bb, o, rfl, hbb, ⟨⟨hxi1, hxi2⟩, hxc⟩, d1, d2⟩ := HR.out.ltrU k hlt
      have HHIT := Lib.hid (missT_hit (b := b) hlt); have HSKIP := Lib.hid (missT_skip (b := b) hlt)
      have HML := Lib.hid (Nat.le_trans (missT_len b (a.take k)) (List.length_take_le k a))
      generalize a[k] = x at *
      generalize missT b (a.take k) = zr at *
      have hzl := HML.out
      have hki : (k : Int) < (a.length : Int) := by omega
      obtain ⟨wl, hwl⟩ : ∃ wl : World, wl = w3.alloc (Obj.cells #[.int .i64 x.id, .string x.code] 44) := ⟨_, rfl⟩
      have y0 := box_cells hwl 0 (.int .i64 x.id) rfl
      have y1 := box_cells hwl 1 (.string x.code) rfl
      have ll := later_trans lr (box_later hwl).1
      have BL := Lib.hid (box_later hwl).1
      have HWL2 := Lib.hid hwl; clear hwl
      obtain ⟨r, hr⟩ : ∃ r, findI b x.id = r := ⟨_, rfl⟩
      rw [hr] at HHIT HSKIP
      go_wp2_with fail
      rw [← HWL2.out]
      refine (impl_FindLetter _ b x.id _ (HB.out.on ll)).mono ?_
      rw [hr]
      clear hr
      rintro e w4 ⟨rfl, b4⟩
      have l4 := later_trans ll b4
      have m4 := later_trans (Below.refl wl.heap.size wl) b4
      have HO4 := Lib.hid ((HO.out.below BL.out).below b4)
      have hs4 : w.heap.size ≤ w4.heap.size := l4.size
      clear b4
      by_cases hr : r < 0
      · have HS := Lib.hid (HHIT.out hr)
        go_wp2_with (at_builtin; refine wpList_append1' (α := Int) rfl (.tmp 27) (.tmp 30) 46 rfl w.heap.size 3 i0 _ 8 Try.underlying46 hi hz0 hz1 hz2 rfl (by decide) (.slice A5 zr.length c5) zr x.id rfl (HO4.out.alloc _) ⟨w4.heap.size, 0, none⟩ 1 [.int .i64 x.id] rfl ⟨⟨hxi1, hxi2⟩, rfl⟩ (news_at w4 _ [.int .i64 x.id]) (by unfold maxLen; omega) (by omega) (by simp; omega) ?_; intro g cap w5 ho5 hg5 ha5 hl5)
        have l5 : Below w.heap.size w w5 := (later_alloc l4 (Obj.cells #[Value.int IntKind.i64 x.id] 3)).grown hg5 (by simp; omega) fun q hq => (HO4.out.blk q hq).1
        go_wp2
        go_roundw
        case rel => exact ⟨k + 1, by omega, by go_num, l5, by rw [HS.out]; exact ho5⟩
        case measure => simp [intOf]; omega
      · have HS := Lib.hid (HSKIP.out (by omega))
        go_wp2_with fail
        go_roundw
        case rel => exact ⟨k + 1, by omega, by go_num, l4, by rw [HS.out]; exact HO4.out⟩
        case measure => simp [intOf]; omega
    · have HE := Lib.hid (show k = a.length by omega)
      rw [HE.out, List.take_length] at HO
      have HML := Lib.hid (missT_len b a)
      rw [HE.out, List.take_length]
      generalize missT b a = zr at *
      have hzl : zr.length ≤ 1048576 := by have := HML.out; omega
      go_wp2_with fail
      refine (slices_SortI _ w.heap.size _ zr _ HO.out hzl).mono ?_
      rintro e w4 ⟨rfl, o4, g4⟩
      have l4 : Below w.heap.size w w4 := lr.grown g4 lr.size fun q hq => (HO.out.blk q hq).1
      have O4 := Lib.hid o4; clear o4 g4
      go_wp2_with fail
      go_ret
      exact ⟨_, rfl, by rw [HY.out]; exact O4.out, l4⟩

set_option maxRecDepth 100000 in
set_option maxHeartbeats 1600000 in
theorem spec_l7Insert (v : Value) (xs : List Int) (n : Int) (w : World) (hv : rd w w.heap.size v xs) (hn : isI64 n) (hl : xs.length ≤ 1000) :
    Calls Try.prog 96 #[v, .int .i64 n] w fun e w' => ∃ v', e = .returned v' ∧ own 3 w.heap.size w' v' (insI xs n) ∧ Below w.heap.size w w' := by
  obtain ⟨hn1, hn2⟩ := hn
  obtain ⟨A, m, c, rfl, hm, hc, hmx, hr⟩ := hv
  subst hm
  unfold maxLen at hmx
  have HR := Lib.hid hr; clear hr
  obtain ⟨i0, hi, hz0, hz1, hz2⟩ := info_parts Try.infoInt
  have oA := own.made0 (α := Int) w 3 (Nat.le_refl w.heap.size)
  have lz : Below w.heap.size w (w.alloc (Obj.cells #[] 3)) := later_alloc (Below.refl _ _) _
  have OA := Lib.hid oA; clear oA
  go_enter Try.func96, Try.ntmps96
  go_wp2
  generalize (w.alloc (Obj.cells #[] 3)) = wz at *
  go_loopw [5, 6, 7] (fun t d i wr => ∃ k : Nat, k ≤ xs.length ∧ i = .int .i64 k ∧ d = .bool ((xs.take k).any fun x => decide (n < x)) ∧ Below w.heap.size w wr ∧ own 3 w.heap.size wr t (if (xs.take k).any (fun x => decide (n < x)) then insI (xs.take k) n else xs.take k)) (fun _ _ i _ => xs.length - (intOf i).toNat)
  case atStart => exact ⟨0, Nat.zero_le _, rfl, rfl, lz, by simpa using OA.out⟩
  case round =>
    obtain ⟨k, hk, rfl, rfl, lr, ho⟩ := hrel
    obtain ⟨w3, rfl⟩ : ∃ w3 : World, w3 = wr := ⟨_, rfl⟩
    clear lz OA
    have hs3 : w.heap.size ≤ w3.heap.size := lr.size
    by_cases hlt : k < xs.length
    · obtain ⟨bb, o, rfl, hbb, ⟨hy1, hy2⟩, d1⟩ := HR.out.intU k hlt
      have hki : (k : Int) < (xs.length : Int) := by omega
      have HT : Hid (xs.take (k + 1) = xs.take k ++ [xs[k]]) := List.take_succ_eq_append_getElem hlt
      generalize xs[k] = y at *
      have HTL := Lib.hid (List.length_take_le k xs)
      generalize xs.take k = L at *
      cases hd : (L.any fun x => decide (n < x))
      · have HD := Lib.hid hd
        rw [hd] at ho
        simp only [Bool.false_eq_true, if_false] at ho
        have HO := Lib.hid ho
        obtain ⟨A5, n5, c5, rfl, hn5, _, _, _⟩ := ho.rd
        subst hn5
        clear ho hd
        have hL := HTL.out
        by_cases hny : n < y
        · have HS : Hid (insI (L ++ [y]) n = L ++ [n] ++ [y]) := insI_hit HD.out hny
          have HAN : Hid (((L ++ [y]).any fun x => decide (n < x)) = true) := by show _ = _; rw [List.any_append]; simp [hny]
          have hny' : decide (n < y) = true := decide_eq_true hny
          go_wp2_with (first | (at_builtin; refine wpList_append1' (α := Int) rfl (.tmp 25) (.tmp 27) 46 rfl w.heap.size 3 i0 _ 8 Try.underlying46 hi hz0 hz1 hz2 rfl (by decide) (.slice A5 L.length c5) L n rfl (HO.out.alloc _) ⟨w3.heap.size, 0, none⟩ 1 [.int .i64 n] rfl ⟨⟨hn1, hn2⟩, rfl⟩ (news_at w3 _ [.int .i64 n]) (by unfold maxLen; omega) (by omega) (by simp; omega) ?_; intro g cap w5 ho5 hg5 ha5 hl5; have l5 : Below w.heap.size w w5 := (later_alloc lr (Obj.cells #[Value.int IntKind.i64 n] 3)).grown hg5 (by simp; omega) (fun q hq => (HO.out.blk q hq).1); have HO5 := Lib.hid ho5; have hs5 : w.heap.size ≤ w5.heap.size := l5.size; have hLn : (L ++ [n]).length = L.length + 1 := by simp) | (at_builtin; refine wpList_append1' (α := Int) rfl (.tmp 29) (.tmp 34) 46 rfl w.heap.size 3 i0 _ 8 Try.underlying46 hi hz0 hz1 hz2 rfl (by decide) (.slice (some ⟨g, 0, none⟩) (L.length + 1) cap) (L ++ [n]) y rfl (HO5.out.alloc _) ⟨w5.heap.size, 0, none⟩ 1 [.int .i64 y] rfl ⟨⟨hy1, hy2⟩, rfl⟩ (news_at w5 _ [.int .i64 y]) (by unfold maxLen; rw [hLn]; omega) (by rw [hLn]; omega) (by simp; omega) ?_; intro g2 cap2 w6 ho6 hg6 ha6 hl6))
          have l6 : Below w.heap.size w w6 := (later_alloc l5 (Obj.cells #[Value.int IntKind.i64 y] 3)).grown hg6 (by simp; omega) fun q hq => (HO5.out.blk q hq).1
          go_wp2
          go_roundw
          case rel => exact ⟨k + 1, by omega, by go_num, by rw [HT.out, HAN.out], l6, by rw [HT.out, HAN.out, if_pos rfl, HS.out]; rw [hLn] at ho6; exact ho6⟩
          case measure => simp [intOf]; omega
        · have HAN : Hid (((L ++ [y]).any fun x => decide (n < x)) = false) := by show _ = _; rw [List.any_append, HD.out]; simp; omega
          have hny' : decide (n < y) = false := decide_eq_false hny
          go_wp2_with (at_builtin; refine wpList_append1' (α := Int) rfl (.tmp 29) (.tmp 34) 46 rfl w.heap.size 3 i0 _ 8 Try.underlying46 hi hz0 hz1 hz2 rfl (by decide) (.slice A5 L.length c5) L y rfl (HO.out.alloc _) ⟨w3.heap.size, 0, none⟩ 1 [.int .i64 y] rfl ⟨⟨hy1, hy2⟩, rfl⟩ (news_at w3 _ [.int .i64 y]) (by unfold maxLen; omega) (by omega) (by simp; omega) ?_; intro g cap w5 ho5 hg5 ha5 hl5)
          have l5 : Below w.heap.size w w5 := (later_alloc lr (Obj.cells #[Value.int IntKind.i64 y] 3)).grown hg5 (by simp; omega) fun q hq => (HO.out.blk q hq).1
          go_wp2
          go_roundw
          case rel => exact ⟨k + 1, by omega, by go_num, by rw [HT.out, HAN.out], l5, by rw [HT.out, HAN.out]; exact ho5⟩
          case measure => simp [intOf]; omega
      · have HD := Lib.hid hd
        rw [hd] at ho
        simp only [if_true] at ho
        have HIL : Hid ((insI L n).length = L.length + 1) := by show _ = _; rw [(insI_perm L n).length_eq]; simp
        have HS : Hid (insI (L ++ [y]) n = insI L n ++ [y]) := insI_done y HD.out
        have HAN : Hid (((L ++ [y]).any fun x => decide (n < x)) = true) := by show _ = _; rw [List.any_append, HD.out]; rfl
        generalize insI L n = zr at *
        have HO := Lib.hid ho
        obtain ⟨A5, n5, c5, rfl, hn5, _, _, _⟩ := ho.rd
        subst hn5
        clear ho hd
        have hzl : zr.length ≤ 1001 := by have := HIL.out; have := HTL.out; omega
        go_wp2_with (at_builtin; refine wpList_append1' (α := Int) rfl (.tmp 29) (.tmp 34) 46 rfl w.heap.size 3 i0 _ 8 Try.underlying46 hi hz0 hz1 hz2 rfl (by decide) (.slice A5 zr.length c5) zr y rfl (HO.out.alloc _) ⟨w3.heap.size, 0, none⟩ 1 [.int .i64 y] rfl ⟨⟨hy1, hy2⟩, rfl⟩ (news_at w3 _ [.int .i64 y]) (by unfold maxLen; omega) (by omega) (by simp; omega) ?_; intro g cap w5 ho5 hg5 ha5 hl5)
        have l5 : Below w.heap.size w w5 := (later_alloc lr (Obj.cells #[Value.int IntKind.i64 y] 3)).grown hg5 (by simp; omega) fun q hq => (HO.out.blk q hq).1
        go_wp2
        go_roundw
        case rel => exact ⟨k + 1, by omega, by go_num, by rw [HT.out, HAN.out], l5, by rw [HT.out, HAN.out, if_pos rfl, HS.out]; exact ho5⟩
        case measure => simp [intOf]; omega
    · have HE := Lib.hid (show k = xs.length by omega)
      have hki : ¬ ((k : Int) < (xs.length : Int)) := by omega
      rw [HE.out, List.take_length] at ho
      rw [HE.out, List.take_length]
      cases hd : (xs.any fun x => decide (n < x))
      · have HS : Hid (insI xs n = xs ++ [n]) := insI_none hd
        rw [hd] at ho
        simp only [Bool.false_eq_true, if_false] at ho
        have HO := Lib.hid ho
        obtain ⟨A5, n5, c5, rfl, hn5, _, _, _⟩ := ho.rd
        subst hn5
        clear ho hd
        go_wp2_with (at_builtin; refine wpList_append1' (α := Int) rfl (.tmp 38) (.tmp 40) 46 rfl w.heap.size 3 i0 _ 8 Try.underlying46 hi hz0 hz1 hz2 rfl (by decide) (.slice A5 xs.length c5) xs n rfl (HO.out.alloc _) ⟨w3.heap.size, 0, none⟩ 1 [.int .i64 n] rfl ⟨⟨hn1, hn2⟩, rfl⟩ (news_at w3 _ [.int .i64 n]) (by unfold maxLen; omega) (by omega) (by simp; omega) ?_; intro g cap w5 ho5 hg5 ha5 hl5)
        have l5 : Below w.heap.size w w5 := (later_alloc lr (Obj.cells #[Value.int IntKind.i64 n] 3)).grown hg5 (by simp; omega) fun q hq => (HO.out.blk q hq).1
        go_wp2
        go_ret
        exact ⟨_, rfl, by rw [HS.out]; exact ho5, l5⟩
      · rw [hd] at ho
        simp only [if_true] at ho
        have HO := Lib.hid ho
        clear ho hd
        go_wp2_with fail
        go_ret
        exact ⟨_, rfl, HO.out, lr⟩

set_option maxRecDepth 100000 in
set_option maxHeartbeats 1600000 in
theorem spec_MissingIds (va vb : Value) (a b : List Ltr) (w : World) (ha : rd w w.heap.size va a) (hb : rd w w.heap.size vb b) :
    Calls Try.prog 51 #[va, vb] w fun e w' => ∃ v', e = .returned v' ∧ own 3 w.heap.size w' v' (missR a b) ∧ Below w.heap.size w w' := by
  have HA := Lib.hid ha; have HB := Lib.hid hb; clear hb
  obtain ⟨A, m, c, rfl, hm, hc, hmx, hr⟩ := ha
  subst hm
  unfold maxLen at hmx
  have HR := Lib.hid hr; clear hr
  have HNO : Hid (∀ h : missOk a b = false, missR a b = []) := fun h => by unfold missR; rw [h]; rfl
  have HYES : Hid (∀ h : missOk a b = true, a.length ≤ 60 ∧ missR a b = (missT b a).foldl insI []) := fun h => by
    have h1 := h
    unfold missOk at h1
    rw [Bool.and_eq_true] at h1
    exact ⟨(okB_iff.1 h1.1).1, by unfold missR; rw [if_pos h, foldl_sort]⟩
  have oA := own.made0 (α := Int) w 3 (Nat.le_refl w.heap.size)
  have lz : Below w.heap.size w (w.alloc (Obj.cells #[] 3)) := later_alloc (Below.refl _ _) _
  have OA := Lib.hid oA; clear oA
  go_enter Try.func51, Try.ntmps51
  go_wp2
  generalize (w.alloc (Obj.cells #[] 3)) = wz at *
  go_loopw [5, 6] (fun t i wr => ∃ k : Nat, k ≤ a.length ∧ i = .int .i64 k ∧ Below w.heap.size w wr ∧ Hid (k = 0 ∨ missOk a b = true) ∧ own 3 w.heap.size wr t ((missT b (a.take k)).foldl insI [])) (fun _ i _ => a.length - (intOf i).toNat)
  case atStart => exact ⟨0, Nat.zero_le _, rfl, lz, .inl rfl, by simpa [missT] using OA.out⟩
  case round =>
    obtain ⟨k, hk, rfl, lr, HK, ho⟩ := hrel
    obtain ⟨w3, rfl⟩ : ∃ w3 : World, w3 = wr := ⟨_, rfl⟩
    clear lz OA
    have HO := Lib.hid ho; clear ho
    by_cases hlt : k < a.length
    · obtain ⟨bb, o, rfl, hbb, ⟨⟨hxi1, hxi2⟩, hxc⟩, d1, d2⟩ := HR.out.ltrU k hlt
      have HHIT := Lib.hid (missT_hit (b := b) hlt); have HSKIP := Lib.hid (missT_skip (b := b) hlt)
      have HML := Lib.hid (Nat.le_trans (missT_len b (a.take k)) (List.length_take_le k a))
      generalize a[k] = x at *
      have HEND : Hid (missOk a b = false → (missT b (a.take k)).foldl insI [] = missR a b) := fun h => by
        rcases HK.out with h' | h'
        · subst h'; rw [HNO.out h]; simp [missT]
        · rw [h] at h'; cases h'
      generalize missT b (a.take k) = zr at *
      have hki : (k : Int) < (a.length : Int) := by omega
      go_wp2_with fail
      refine (spec_BatchValid _ a _ (HA.out.on lr)).mono ?_
      rintro e w4 ⟨rfl, b4⟩
      have l4 := later_trans lr b4
      replace HO := Lib.hid (HO.out.below b4)
      clear b4
      cases h1 : okB a
      · have HF : Hid (missOk a b = false) := by show _ = _; unfold missOk; rw [h1]; rfl
        clear h1
        go_wp2_with fail
        go_ret
        exact ⟨_, rfl, by rw [← HEND.out HF.out]; exact HO.out, l4⟩
      have H1 := Lib.hid h1; clear h1
      go_wp2_with fail
      refine (spec_BatchValid _ b _ (HB.out.on l4)).mono ?_
      rintro e w5 ⟨rfl, b5⟩
      have l5 := later_trans l4 b5
      replace HO := Lib.hid (HO.out.below b5)
      clear b5
      cases h2 : okB b
      · have HF : Hid (missOk a b = false) := by show _ = _; unfold missOk; rw [h2, Bool.and_false]
        clear h2
        go_wp2_with fail
        go_ret
        exact ⟨_, rfl, by rw [← HEND.out HF.out]; exact HO.out, l5⟩
      have HF : Hid (missOk a b = true) := by show _ = _; unfold missOk; rw [h2, H1.out]; rfl
      have hal := (HYES.out HF.out).1
      clear h2 HEND
      obtain ⟨r, hr⟩ : ∃ r, findI b x.id = r := ⟨_, rfl⟩
      rw [hr] at HHIT HSKIP
      go_wp2_with fail
      refine (spec_FindLetter _ b x.id _ (HB.out.on l5)).mono ?_
      rw [hr]
      clear hr
      rintro e w6 ⟨rfl, b6⟩
      have l6 := later_trans l5 b6
      replace HO := Lib.hid (HO.out.below b6)
      clear b6
      by_cases hr : r < 0
      · have HS := Lib.hid (HHIT.out hr)
        have HFL : Hid ((zr.foldl insI []).length ≤ 60) := by
          show _ ≤ _
          rw [(foldl_ins zr [] List.Pairwise.nil).2.length_eq]
          have := HML.out
          simp; omega
        go_wp2_with fail
        refine (spec_l7Insert _ (zr.foldl insI []) x.id _ HO.out.rd ⟨hxi1, hxi2⟩ (by have := HFL.out; omega)).mono ?_
        rintro e w7 ⟨v7, rfl, o7, b7⟩
        have l7 := later_trans l6 b7
        have O7 := Lib.hid (o7.base_ l6.size); clear o7 b7
        go_wp2_with fail
        go_roundw
        case rel => exact ⟨k + 1, by omega, by go_num, l7, .inr HF.out, by rw [HS.out, List.foldl_append]; exact O7.out⟩
        case measure => simp [intOf]; omega
      · have HS := Lib.hid (HSKIP.out (by omega))
        go_wp2_with fail
        go_roundw
        case rel => exact ⟨k + 1, by omega, by go_num, l6, .inr HF.out, by rw [HS.out]; exact HO.out⟩
        case measure => simp [intOf]; omega
    · have HE := Lib.hid (show k = a.length by omega)
      have hki : ¬ ((k : Int) < (a.length : Int)) := by omega
      have HEND : Hid ((missT b (a.take k)).foldl insI [] = missR a b) := by
        show _ = _
        cases h : missOk a b
        · rcases HK.out with h' | h'
          · subst h'; rw [HNO.out h]; simp [missT]
          · rw [h] at h'; cases h'
        · rw [HE.out, List.take_length, (HYES.out h).2]
      go_wp2_with fail
      go_ret
      exact ⟨_, rfl, by rw [← HEND.out]; exact HO.out, lr⟩

end Go.Proofs.Ytekjjgnokjhleaa

namespace Go.Proofs.Ytekjjgnokjhleaa
open Go.RowKit

/-- Drawn: two batches. -/
def drawABPost (T : Nat) (w : World) (e : Ending) (w' : World) : Prop :=
  ∃ (va vb : Value) (xs ys : List Ltr), e = .returned (.tuple #[va, vb]) ∧ own T w.heap.size w' va xs ∧ own T w.heap.size w' vb ys ∧ xs.length ≤ 61 ∧ ys.length ≤ 61 ∧ Below w.heap.size w w'

set_option maxRecDepth 100000 in
set_option maxHeartbeats 1000000 in
theorem draw_DrawMissingIds (v : Value) (bs : List UInt8) (w : World) (hv : rd w w.heap.size v bs) :
    Calls Try.prog 49 #[v] w (drawABPost 44 w) := by
  obtain ⟨i0, hi, hz0, hzz1, hzz2⟩ := info_parts Try.infoLtr
  go_enter Try.func49, Try.ntmps49
  go_wp2_with fail
  refine (rd_open _ bs _ hv).mono ?_
  rintro e w1 ⟨g, rfl, hg, hr1, b1⟩
  have hlt := hr1.lt
  go_wp2_with fail
  refine (rd_l2Some g 0 1 _ hr1 (by omega) (by omega) (by omega)).mono ?_
  rintro e w2 ⟨va, xs, q0, rfl, oa, hxl, hx7, hr2, hq0, hg2⟩
  have B2 : Below w.heap.size w w2 := b1.trans (below_of_grown hg2 b1.size (fun k hk => by injection hk; omega))
  have hz1 := b1.size
  have hz2 := hg2.size
  have OA2 := Lib.hid oa
  have HX7 := Lib.hid hx7
  obtain ⟨Aa, na, ca, hva, hna, _, hma, _⟩ := oa.rd
  subst hna hva
  unfold maxLen at hma
  clear oa hx7 hr1 hg2 b1 hv
  have oE := own.made0 (α := Ltr) w2 44 (Nat.le_refl _)
  have hrE := hr2.alloc (Obj.cells #[] 44)
  have kE : kept2 g w2.heap.size w2 (w2.alloc (Obj.cells #[] 44)) := kept2.below ((Below.refl _ _).alloc (Nat.le_refl _) _)
  have hglt : g < w2.heap.size := by omega
  go_wp2_with fail
  go_loopw [6, 7] (fun t i wr => ∃ (k : Nat) (ys : List Ltr) (q : Nat), k ≤ xs.length ∧ i = .int .i64 k ∧ ys.length ≤ k ∧ Hid (own 44 w2.heap.size wr t ys) ∧ Hid (∀ y ∈ ys, y.code.size = 7) ∧ rdr wr g q ∧ q ≤ q0 + k ∧ kept2 g w2.heap.size w2 wr) (fun _ i _ => xs.length - (intOf i).toNat)
  case atStart => exact ⟨0, [], q0, Nat.zero_le _, rfl, Nat.le_refl _, oE, fun y hy => by simp at hy, hrE, by omega, kE⟩
  case round =>
    obtain ⟨k, ys, q, hk, rfl, hyk, HO, HY7, hrq, hqb, kr⟩ := hrel
    obtain ⟨w3, rfl⟩ : ∃ w3 : World, w3 = wr := ⟨_, rfl⟩
    clear oE hrE kE
    have hz3 := kr.size
    have OA3 : Hid (own 44 w1.heap.size w3 (.slice Aa xs.length ca) xs) := OA2.out.keepBlk fun j hj => kr.block j (OA2.out.blk j hj).2 (by have := (OA2.out.blk j hj).1; omega)
    obtain ⟨Ay, ny, cy, hvy, hny, _, hmy, _⟩ := HO.out.rd
    subst hny hvy
    unfold maxLen at hmy
    by_cases hlt3 : k < xs.length
    · obtain ⟨gx, rfl, _, _, _, _⟩ := own_some OA3.out (by omega)
      have hki : (k : Int) < (xs.length : Int) := by omega
      go_wp2_with fail
      refine (rd_pick g q 4 _ hrq (by omega) (by unfold isI64; omega)).mono ?_
      rintro e w4 ⟨y, rfl, hy, hr4, hg4⟩
      have k4 := kr.step hg4 (Nat.le_refl _)
      have HO4 := Lib.hid (HO.out.grown hg4 (own_ne HO.out (by omega)))
      have OA4 := Lib.hid (OA3.out.grown hg4 (own_ne OA3.out (by omega)))
      clear hy hg4 HO OA3 hrq kr
      by_cases hy0 : 0 < y
      · obtain ⟨hxok, c1, c2⟩ := own_ltr OA4.out k hlt3
        have hx7 := HX7.out xs[k] (List.getElem_mem hlt3)
        have HX7' := Lib.hid hx7; clear hx7
        have HXOK := Lib.hid hxok; clear hxok
        generalize xs[k] = x at *
        have hz4 := k4.size
        go_wp2_with (at_builtin; refine wpList_append1 (α := Ltr) rfl (.tmp 22) (.tmp 27) _ rfl w2.heap.size 44 i0 _ 24 Try.underlying34 hi hz0 hzz1 hzz2 rfl (by decide) (.slice Ay ys.length cy) ys x rfl (HO4.out.alloc _) ⟨w4.heap.size, 0, none⟩ 1 (Ltr.cells x) rfl ⟨HXOK.out, rfl⟩ (news_at w4 _ (Ltr.cells x)) (by unfold maxLen; omega) (by omega) (by simp; omega) ?_; intro v' w5 ho5 hg5 _)
        have hr5 := (hr4.alloc (Obj.cells (Ltr.cells x).toArray 44)).append (HO4.out.alloc _) hg5 hglt
        have k5 : kept2 g w2.heap.size w2 w5 := k4.trans (kept2.below (((Below.refl _ _).alloc hz4 _).trans (below_append (HO4.out.alloc _) hg5 (by simp; omega))))
        clear hg5
        go_wp2_with fail
        go_roundw
        case rel =>
          refine ⟨k + 1, _, q + 1, by omega, by go_num, by simp; omega, ho5, fun z hz => ?_, hr5, by omega, k5⟩
          rcases List.mem_append.1 hz with h | h
          · exact HY7.out z h
          · simp at h
            subst h
            exact HX7'.out
        case measure => simp [intOf]; omega
      · go_wp2_with fail
        go_roundw
        case rel => exact ⟨k + 1, ys, q + 1, by omega, by go_num, by omega, HO4.out, HY7.out, hr4, by omega, k4⟩
        case measure => simp [intOf]; omega
    · have e : k = xs.length := by omega
      go_wp2_with fail
      refine (rd_pick g q 4 _ hrq (by omega) (by unfold isI64; omega)).mono ?_
      rintro e w4 ⟨y, rfl, hy, hr4, hg4⟩
      have k4 := kr.step hg4 (Nat.le_refl _)
      have HO4 := Lib.hid (HO.out.grown hg4 (own_ne HO.out (by omega)))
      have hz4 := k4.size
      clear hy hg4 HO hrq OA3 kr hlt3
      by_cases hy0 : y = 0
      rotate_left
      have d0 : (y == 0) = false := by simp [hy0]
      clear hy0
      obtain ⟨W, rfl⟩ : ∃ W : World, W = w4 := ⟨_, rfl⟩
      obtain ⟨YS, rfl⟩ : ∃ Z : List Ltr, Z = ys := ⟨_, rfl⟩
      obtain ⟨AY, rfl⟩ : ∃ Z, Z = Ay := ⟨_, rfl⟩
      obtain ⟨CY, rfl⟩ : ∃ Z, Z = cy := ⟨_, rfl⟩
      have hYl : YS.length ≤ 20 := by omega
      have HYS7 := HY7
      have kW := k4
      have HOW := HO4
      have hrW := hr4
      clear k4 HO4 hr4 HY7
      rotate_left
      have d0 : (y == 0) = true := by simp [hy0]
      clear hy0
      have HOK3 : Hid ((⟨3, ⟨#[49, 50, 48, 48, 49, 48, 49]⟩⟩ : Ltr).ok) := ⟨⟨by show (-9223372036854775808 : Int) ≤ 3; omega, by show (3 : Int) ≤ 9223372036854775807; omega⟩, by show 7 ≤ maxLen; decide⟩
      go_wp2_with (at_builtin; refine wpList_append1 (α := Ltr) rfl (.tmp 32) (.tmp 34) _ rfl w2.heap.size 44 i0 _ 24 Try.underlying34 hi hz0 hzz1 hzz2 rfl (by decide) (.slice Ay ys.length cy) ys ⟨3, ⟨#[49, 50, 48, 48, 49, 48, 49]⟩⟩ rfl (HO4.out.alloc _) ⟨w4.heap.size, 0, none⟩ 1 (Ltr.cells ⟨3, ⟨#[49, 50, 48, 48, 49, 48, 49]⟩⟩) rfl ⟨HOK3.out, rfl⟩ (news_at w4 _ (Ltr.cells ⟨3, ⟨#[49, 50, 48, 48, 49, 48, 49]⟩⟩)) (by unfold maxLen; omega) (by omega) (by simp; omega) ?_; intro v' W ho5 hg5 _)
      have hrW := (hr4.alloc (Obj.cells (Ltr.cells ⟨3, ⟨#[49, 50, 48, 48, 49, 48, 49]⟩⟩).toArray 44)).append (HO4.out.alloc _) hg5 hglt
      have kW : kept2 g w2.heap.size w2 W := k4.trans (kept2.below (((Below.refl _ _).alloc hz4 _).trans (below_append (HO4.out.alloc _) hg5 (by simp; omega))))
      obtain ⟨YS, hYS⟩ : ∃ Z : List Ltr, Z = ys ++ [(⟨3, ⟨#[49, 50, 48, 48, 49, 48, 49]⟩⟩ : Ltr)] := ⟨_, rfl⟩
      have hYl : YS.length ≤ 20 := by rw [hYS]; simp; omega
      have HYS7 : Hid (∀ y ∈ YS, y.code.size = 7) := fun z hz => by
        rw [hYS] at hz
        rcases List.mem_append.1 hz with h | h
        · exact HY7.out z h
        · simp at h
          subst h
          rfl
      rw [← hYS] at ho5
      clear hYS hg5 k4 HO4 hr4 HY7
      obtain ⟨AY, NY, CY, hvY, hnY, _, _, _⟩ := ho5.rd
      subst hnY hvY
      have HOW := Lib.hid ho5
      clear ho5
      all_goals
        have hzW := kW.size
        have OAW : Hid (own 44 w1.heap.size W (.slice Aa xs.length ca) xs) := OA2.out.keepBlk fun j hj => kW.block j (OA2.out.blk j hj).2 (by have := (OA2.out.blk j hj).1; omega)
        go_wp2_with fail
        refine (rd_l2BadB g (q + 1) w1.heap.size _ xs _ hrW (by omega) OAW.out (by omega) (by omega) HX7.out).mono ?_
        rintro e w5 ⟨va5, xs5, q5, rfl, oa5, hl5, hr5, hq5, hk5, hs5, hb5⟩
        have OB5 := Lib.hid (HOW.out.keepBlk (w' := w5) fun j hj => by
          have h1 := HOW.out.blk j hj
          refine hs5.block j h1.2 fun h => ?_
          rcases h with h | h
          · omega
          · have := (OA2.out.blk j h).2; omega)
        have hz5 := hs5.size
        have hb5' : ∀ j, va5.ownBlock = some j → j ≠ g ∧ (j < w2.heap.size ∨ W.heap.size ≤ j) := fun j hj => by
          have h1 := oa5.blk j hj
          refine ⟨by omega, ?_⟩
          rcases hb5 j hj with h | h
          · exact .inl (OA2.out.blk j h).2
          · exact .inr h
        have OA5 := Lib.hid oa5
        have HB5 := Lib.hid hb5'
        have hbW := fun j hj => (HOW.out.blk j hj).2
        have HBW := Lib.hid hbW
        have kW5 : Below w.heap.size w w5 := B2.trans ⟨(hk5.os.trans kW.os), hk5.tape.trans kW.tape, hk5.output.trans kW.output, Nat.le_trans kW.size hk5.size, fun j hj => (hk5.block j (by omega) (by omega)).trans (kW.block j (by omega) (by omega))⟩
        clear oa5 hb5 hb5' hs5 hk5 HOW hrW OAW hbW
        go_wp2_with fail
        refine (rd_l2BadB g q5 w2.heap.size _ YS _ hr5 (by omega) OB5.out (by omega) (by omega) HYS7.out).mono ?_
        rintro e w6 ⟨vb6, ys6, q6, rfl, ob6, hl6, _, _, hk6, hs6, _⟩
        have OA6 := Lib.hid (OA5.out.keepBlk (w' := w6) fun j hj => by
          have h1 := OA5.out.blk j hj
          have h2 := HB5.out j hj
          refine hs6.block j h1.2 fun h => ?_
          rcases h with h | h
          · omega
          · have h3 := OB5.out.blk j h
            have h4 := HBW.out j h
            omega)
        have kW6 : Below w.heap.size w w6 := kW5.trans ⟨hk6.os, hk6.tape, hk6.output, hk6.size, fun j hj => hk6.block j (by omega) (by omega)⟩
        clear hk6 hs6
        go_wp2_with fail
        go_ret2
        exact ⟨_, _, xs5, ys6, rfl, OA6.out.base_ (by omega), ob6.base_ (by omega), hl5, hl6, kW6⟩

end Go.Proofs.Ytekjjgnokjhleaa
