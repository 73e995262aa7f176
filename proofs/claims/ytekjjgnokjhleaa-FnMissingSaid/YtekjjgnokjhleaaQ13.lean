/- B9 -/
import Derived.Test.YtekjjgnokjhleaaQ12
namespace Go.Proofs.Ytekjjgnokjhleaa
open Go.RowKit

/-- The numbers of the letters in wrong bins, of the first n bins. -/
def wrongRow (f : Ltr → Int) (i : Nat) (ys : List Ltr) : List Int := (ys.filter fun x => f x != (i : Int)).map Ltr.id
def wrongTo (f : Ltr → Int) (xss : List (List Ltr)) (n : Nat) : List Int := (List.range n).flatMap fun i => wrongRow f i (xss.getD i [])
theorem wrongTo_succ {f : Ltr → Int} {xss : List (List Ltr)} {n : Nat} (h : n < xss.length) : wrongTo f xss (n + 1) = wrongTo f xss n ++ wrongRow f n xss[n] := by
  unfold wrongTo
  rw [List.range_succ, List.flatMap_append]
  simp [h]
theorem wrongRow_len (f : Ltr → Int) (i : Nat) (ys : List Ltr) : (wrongRow f i ys).length ≤ ys.length := by
  unfold wrongRow; rw [List.length_map]; exact List.length_filter_le _ _
theorem wrongTo_len (f : Ltr → Int) (xss : List (List Ltr)) : ∀ n, n ≤ xss.length → (wrongTo f xss n).length ≤ (xss.take n).flatten.length
  | 0, _ => by simp [wrongTo]
  | n + 1, h => by
    rw [wrongTo_succ (by omega), List.length_append, List.take_succ_eq_append_getElem (by omega), List.flatten_append, List.length_append]
    have h1 := wrongTo_len f xss n (by omega)
    have h2 := wrongRow_len f n xss[n]
    simp only [List.flatten_cons, List.flatten_nil, List.append_nil]
    omega
theorem wrongRow_step {f : Ltr → Int} {i : Nat} {ys : List Ltr} {m : Nat} (h : m < ys.length) : wrongRow f i (ys.take (m + 1)) = if f ys[m] = (i : Int) then wrongRow f i (ys.take m) else wrongRow f i (ys.take m) ++ [ys[m].id] := by
  unfold wrongRow
  rw [List.take_succ_eq_append_getElem h, List.filter_append, List.map_append]
  by_cases hf : f ys[m] = (i : Int)
  · simp [hf]
  · simp [hf]
def wrongL (p : Pln) (xss : List (List Ltr)) (k : Int) : List Int := if binsOk p xss k then wrongTo (fun x => binI p x.code k.toNat) xss xss.length else []
theorem wrongL_no {p : Pln} {xss : List (List Ltr)} {k : Int} (h : binsOk p xss k = false) : wrongL p xss k = [] := by unfold wrongL; rw [h]; rfl
theorem wrongL_yes {p : Pln} {xss : List (List Ltr)} {k : Int} (h : binsOk p xss k = true) : wrongL p xss k = wrongTo (fun x => binI p x.code k.toNat) xss xss.length := by unfold wrongL; rw [if_pos h]

set_option maxRecDepth 100000 in
set_option maxHeartbeats 1600000 in
theorem impl_WrongLetters (v vb : Value) (p : Pln) (xss : List (List Ltr)) (k : Int) (w : World) (hv : rdP w w.heap.size v p) (hb : rd w w.heap.size vb xss) :
    Calls Try.prog 27 #[v, vb, .int .i64 k] w fun e w' => ∃ vI, e = .returned vI ∧ own 3 w.heap.size w' vI (wrongL p xss k) ∧ Below w.heap.size w w' := by
  obtain ⟨A0, c0, e0⟩ := openP hv
  obtain ⟨w0, hw0⟩ : ∃ w0, w0 = w.alloc (Obj.cells #[.int .i64 p.bins, .int .i64 p.passes, .slice A0 p.order.length c0] 25) := ⟨_, rfl⟩
  have q0 := box_cells hw0 0 (.int .i64 p.bins) rfl
  have q1 := box_cells hw0 1 (.int .i64 p.passes) rfl
  have q2 := box_cells hw0 2 (.slice A0 p.order.length c0) rfl
  have HT := Lib.hid (box_later hw0).1
  have HP := Lib.hid (hv.on HT.out)
  have HB := Lib.hid (hb.on HT.out)
  obtain ⟨A, n, c, rfl, hn, hc, hm, hr⟩ := hb.on HT.out
  subst hn
  unfold maxLen at hm
  have HR := Lib.hid hr; clear hr
  subst e0
  have HW0 := Lib.hid hw0; clear hw0 hv hb
  have l0 := Below.refl w0.heap.size w0
  have hwlt : w.heap.size ≤ w0.heap.size := HT.out.size
  have HNO : Hid (∀ h : binsOk p xss k = false, ∀ W : World, own 3 w.heap.size W (.slice none 0 0) (wrongL p xss k)) := fun h W => by
    rw [wrongL_no h]; exact own.nil_ _ _ _
  obtain ⟨i0, hi, hz0, hz1, hz2⟩ := info_parts Try.infoInt
  go_enter Try.func27, Try.ntmps27
  go_wp2_with fail
  rw [← HW0.out]
  refine (impl_binsOfPass _ _ p xss k _ HP.out HB.out).mono ?_
  rintro e w1 ⟨rfl, b1⟩
  have l1 := later_trans l0 b1
  cases h1 : binsOk p xss k
  · have HF := Lib.hid h1; clear h1
    go_wp2_with fail
    go_ret
    exact ⟨_, rfl, HNO.out HF.out _, later_trans HT.out l1⟩
  obtain ⟨hk1, hk2, hk3⟩ := binsOk_iff.1 h1
  obtain ⟨hp1, hp2, hp3⟩ := passOk_iff.1 hk1
  obtain ⟨g1, g2, g3, g4, g5⟩ := planOk_bins hp1
  have HF := Lib.hid h1; clear h1 hk1 hp1
  have HFL := Lib.hid (okB_len' hk3)
  have hx16 : xss.length ≤ 16 := by omega
  clear hk3 hk2
  obtain ⟨k, rfl⟩ := Int.eq_ofNat_of_zero_le hp2
  have hk4 : k ≤ 4 := by omega
  have HY : Hid (wrongL p xss (k : Int) = wrongTo (fun x => binI p x.code k) xss xss.length) := by
    show _ = _
    rw [wrongL_yes HF.out, Int.toNat_natCast]
  obtain ⟨f, HFF⟩ : ∃ f : Ltr → Int, Hid (f = fun x => binI p x.code k) := ⟨_, rfl⟩
  have HFX : Hid (∀ x, f x = binI p x.code k) := fun x => by rw [HFF.out]
  have HY2 : Hid (wrongL p xss (k : Int) = wrongTo f xss xss.length) := by show _ = _; rw [HY.out, HFF.out]
  clear hp2 hp3 HY
  go_wp2_with fail
  go_loopw [7, 19] (fun t i wr => ∃ j : Nat, j ≤ xss.length ∧ i = .int .i64 j ∧ Below w0.heap.size w0 wr ∧ own 3 w0.heap.size wr t (wrongTo f xss j)) (fun _ i _ => xss.length - (intOf i).toNat)
  case atStart => exact ⟨0, Nat.zero_le _, rfl, l1, own.nil_ _ _ _⟩
  case round =>
    obtain ⟨j, hj, rfl, lr, ho⟩ := hrel
    obtain ⟨w2, rfl⟩ : ∃ w2 : World, w2 = wr := ⟨_, rfl⟩
    clear l1 l0
    by_cases hlt : j < xss.length
    · obtain ⟨b, o, u, rfl, hb, hu, c1⟩ := HR.out.rowU j hlt
      have HS := Lib.hid (wrongTo_succ (f := f) hlt)
      have HL : Hid ((wrongTo f xss j).length + xss[j].length ≤ 60) := by
        show _ ≤ _
        have h1 := wrongTo_len f xss j (by omega)
        have h2 := flatten_take_len xss (j + 1)
        rw [List.take_succ_eq_append_getElem hlt, List.flatten_append, List.length_append] at h2
        simp only [List.flatten_cons, List.flatten_nil, List.append_nil] at h2
        have := HFL.out
        omega
      generalize xss[j] = ys at *
      generalize wrongTo f xss j = zs at *
      obtain ⟨A2, m2, c2, rfl, hm2, hc2, hmm2, hr2⟩ := hu
      subst hm2
      unfold maxLen at hmm2
      have HU := Lib.hid hr2; clear hr2
      have HO := Lib.hid ho; clear ho
      go_wp2_with fail
      go_loopw [7, 26] (fun t i wi => ∃ m : Nat, m ≤ ys.length ∧ i = .int .i64 m ∧ Below w0.heap.size w0 wi ∧ own 3 w0.heap.size wi t (zs ++ wrongRow f j (ys.take m))) (fun _ i _ => ys.length - (intOf i).toNat)
      case atStart => exact ⟨0, Nat.zero_le _, rfl, lr, by simpa [wrongRow] using HO.out⟩
      case round =>
        obtain ⟨m, hm', rfl, li, ho⟩ := hrel
        obtain ⟨w3, rfl⟩ : ∃ w3 : World, w3 = wr := ⟨_, rfl⟩
        by_cases hmt : m < ys.length
        · obtain ⟨b', o', rfl, hb', ⟨⟨hxi1, hxi2⟩, hxc⟩, d1, d2⟩ := HU.out.ltrU m hmt
          have HST := Lib.hid (wrongRow_step (f := f) (i := j) hmt)
          have HWL := Lib.hid (wrongRow_len f j (ys.take m))
          generalize ys[m] = x at *
          generalize wrongRow f j (ys.take m) = rs at *
          have hrl : rs.length ≤ m := by have := HWL.out; rw [List.length_take] at this; omega
          have HOI := Lib.hid ho; clear ho
          obtain ⟨wl, hwl⟩ : ∃ wl : World, wl = w3.alloc (Obj.cells #[.int .i64 x.id, .string x.code] 44) := ⟨_, rfl⟩
          have y0 := box_cells hwl 0 (.int .i64 x.id) rfl
          have y1 := box_cells hwl 1 (.string x.code) rfl
          have ll := later_trans li (box_later hwl).1
          have BL := Lib.hid (box_later hwl).1
          have HWL2 := Lib.hid hwl; clear hwl
          have hmi : (m : Int) < (ys.length : Int) := by omega
          obtain ⟨r, HRR⟩ : ∃ r, Hid (f x = r) := ⟨_, rfl⟩
          go_wp2_with fail
          rw [← HWL2.out]
          refine (impl_binOf _ p x.code k _ (HP.out.on ll) g1 g2 hk4 (by omega)).mono ?_
          rw [← HFX.out, HRR.out]
          rintro e w4 ⟨rfl, b4⟩
          have l4 := later_trans ll b4
          have m4 := later_trans (Below.refl wl.heap.size wl) b4
          have HO4 := Lib.hid ((HOI.out.below BL.out).below b4)
          by_cases hrj : r = (j : Int)
          · have hrj' : (r != (j : Int)) = false := by simp [hrj]
            have HE := Lib.hid hrj; clear hrj
            go_wp2_with fail
            go_roundw
            case rel => exact ⟨m + 1, by omega, by go_num, l4, by rw [HST.out, HRR.out, if_pos HE.out]; exact HO4.out⟩
            case measure => simp [intOf]; omega
          · have hrj' : (r != (j : Int)) = true := by simp [hrj]
            have HE := Lib.hid hrj; clear hrj
            have hzl : (zs ++ rs).length ≤ 60 := by rw [List.length_append]; have := HL.out; omega
            have hs4 : w0.heap.size ≤ w4.heap.size := l4.size
            generalize hzr : zs ++ rs = zr at *
            have HZR := Lib.hid hzr; clear hzr
            obtain ⟨A5, n5, c5, hv5, hn5, _, _, _⟩ := HO4.out.rd
            subst hv5 hn5
            go_wp2_with (at_builtin; refine wpList_append1' (α := Int) rfl (.tmp 37) (.tmp 40) 46 rfl w0.heap.size 3 i0 _ 8 Try.underlying46 hi hz0 hz1 hz2 rfl (by decide) (.slice A5 zr.length c5) zr x.id rfl (HO4.out.alloc _) ⟨w4.heap.size, 0, none⟩ 1 [.int .i64 x.id] rfl ⟨⟨hxi1, hxi2⟩, rfl⟩ (news_at w4 _ [.int .i64 x.id]) (by unfold maxLen; omega) (by omega) (by simp; omega) ?_; intro g cap w5 ho5 hg5 ha5 hl5)
            have l5 : Below w0.heap.size w0 w5 := (later_alloc l4 (Obj.cells #[Value.int IntKind.i64 x.id] 3)).grown hg5 (by simp; omega) fun q hq => (HO4.out.blk q hq).1
            go_wp2
            go_roundw
            case rel => exact ⟨m + 1, by omega, by go_num, l5, by rw [HST.out, HRR.out, if_neg HE.out, ← List.append_assoc, HZR.out]; exact ho5⟩
            case measure => simp [intOf]; omega
        · have HE := Lib.hid (show m = ys.length by omega)
          rw [HE.out, List.take_length, ← HS.out] at ho
          have HO2 := Lib.hid ho; clear ho
          go_wp2_with fail
          go_roundw
          case rel => exact ⟨j + 1, by omega, by go_num, li, HO2.out⟩
          case measure => simp [intOf]; omega
    · have HE := Lib.hid (show j = xss.length by omega)
      go_wp2_with fail
      go_ret
      rw [HE.out, ← HY2.out] at ho
      exact ⟨_, rfl, ho.base_ hwlt, later_trans HT.out lr⟩

end Go.Proofs.Ytekjjgnokjhleaa
