/- MK MK2 GFwd -/
import Derived.Test.YtiaepapdofcnjaaQ19
import Derived.Test.YtiaepapdofcnjaaQ2
import Derived.StillTailTactics
import Derived.Handy
namespace Go.Proofs.Ytiaepapdofcnjaa
open Go.RowKit

def marksLL (k0 : Nat) (xss : List (List Ltr)) : List (List Ltr) := (List.range xss.length).map fun i => marksL (k0 + 2 * (xss.take i).flatten.length) (xss.getD i []).length
theorem marksLL_len (k0 : Nat) (xss : List (List Ltr)) : (marksLL k0 xss).length = xss.length := by simp [marksLL]
theorem marksLL_get (k0 : Nat) (xss : List (List Ltr)) (i : Nat) (h : i < (marksLL k0 xss).length) : (marksLL k0 xss)[i] = marksL (k0 + 2 * (xss.take i).flatten.length) (xss[i]'(by rw [marksLL_len] at h; exact h)).length := by
  have h' : i < xss.length := by rw [marksLL_len] at h; exact h
  simp [marksLL, h']
/-- A row of rows and a row beside it, of the call's own, in blocks before hi. -/
def seg2 (T1 T2 lo hi : Nat) (w : World) (vB vO : Value) (xss : List (List Ltr)) (ys : List Ltr) : Prop :=
  ∃ vs, isLL T1 T2 lo w vB xss vs ∧ own T2 lo w vO ys ∧ farLL vO vB vs ∧ (∀ k, vB.ownBlock = some k → k < hi) ∧ (∀ i (h : i < vs.length) k, vs[i].ownBlock = some k → k < hi) ∧ ∀ k, vO.ownBlock = some k → k < hi
section
variable {T1 T2 lo hi : Nat} {w w' : World} {vB vO : Value} {xss : List (List Ltr)} {ys : List Ltr}
theorem seg2.of {vs : List Value} (h : isLL T1 T2 lo w vB xss vs) (ho : own T2 lo w vO ys) (hf : farLL vO vB vs) : seg2 T1 T2 lo w.heap.size w vB vO xss ys :=
  ⟨vs, h, ho, hf, fun k hk => (h.1.blk k hk).2, fun i hi k hk => ((h.2.2.1 i hi (by have := h.2.1; omega)).blk k hk).2, fun k hk => (ho.blk k hk).2⟩
theorem seg2.alone (h : ownLL T1 T2 lo w vB xss) : seg2 T1 T2 lo w.heap.size w vB (.slice none 0 0) xss [] := by
  obtain ⟨vs, h⟩ := h
  exact seg2.of h (own.nil_ _ _ _) ⟨.inl rfl, fun k hk => .inl rfl⟩
theorem seg2.below (h : seg2 T1 T2 lo hi w vB vO xss ys) (hb : Below w.heap.size w w') : seg2 T1 T2 lo hi w' vB vO xss ys := by
  obtain ⟨vs, h1, h2, h3, h4, h5, h6⟩ := h
  exact ⟨vs, h1.below hb, h2.below hb, h3, h4, h5, h6⟩
theorem seg2.out {a b : Nat} (h : seg2 T1 T2 lo hi w vB vO xss ys) (ho : OutI a b w w') (hd : hi ≤ a ∨ b ≤ lo) : seg2 T1 T2 lo hi w' vB vO xss ys := by
  obtain ⟨vs, ⟨g1, g2, g3, g4, g5⟩, h2, h3, h4, h5, h6⟩ := h
  refine ⟨vs, ⟨g1.keepBlk fun k hk => ho.block k (g1.blk k hk).2 (by have q1 := (g1.blk k hk).1; have q2 := h4 k hk; omega), g2, fun i hi hi' => ?_, g4, g5⟩, h2.keepBlk fun k hk => ho.block k (h2.blk k hk).2 (by have q1 := (h2.blk k hk).1; have q2 := h6 k hk; omega), h3, h4, h5, h6⟩
  exact (g3 i hi hi').keepBlk fun k hk => ho.block k ((g3 i hi hi').blk k hk).2 (by have q1 := ((g3 i hi hi').blk k hk).1; have q2 := h5 i hi k hk; omega)
theorem seg2.rdB (h : seg2 T1 T2 lo hi w vB vO xss ys) : rd w w.heap.size vB xss := by
  obtain ⟨vs, h1, _⟩ := h
  exact ownLL.rd ⟨vs, h1⟩
theorem seg2.rdO (h : seg2 T1 T2 lo hi w vB vO xss ys) : rd w w.heap.size vO ys := by
  obtain ⟨vs, h1, h2, _⟩ := h
  exact h2.rd
end

set_option maxRecDepth 100000 in
set_option maxHeartbeats 800000 in
theorem u_mkLL (T1 T2 lo hi : Nat) (v vO : Value) (xss : List (List Ltr)) (zs : List Ltr) (k0 : Nat) (w : World) (hv : seg2 T1 T2 lo hi w v vO xss zs) (hk0 : k0 ≤ 1099511627) (hn20 : xss.length ≤ 1048576) (hfl : xss.flatten.length ≤ 1048576) :
    Calls Try.prog 23 #[v, .int .i64 k0] w fun e w' => e = .returned (.int .i64 ((k0 + 2 * xss.flatten.length : Nat) : Int)) ∧ seg2 T1 T2 lo hi w' v vO (marksLL k0 xss) zs ∧ OutI lo hi w w' := by
  have HSG := Lib.hid hv
  obtain ⟨vs, hB, hOO, hFF, hhi, hvh, hohi⟩ := hv
  have HOO := Lib.hid hOO; clear hOO
  have HFF := Lib.hid hFF; clear hFF
  have HOHI := Lib.hid hohi; clear hohi
  rcases ownLL.form (show ownLL T1 T2 lo w v xss from ⟨vs, hB⟩) with ⟨rfl, rfl⟩ | ⟨g, c, rfl, hg, hgl, hc, hm⟩
  · go_enter Try.func23, Try.ntmps23
    go_wp2
    go_loopw [1, 5] (fun t i wr => i = .int .i64 0 ∧ t = .int .i64 k0 ∧ wr = w) (fun _ _ _ => 0)
    case atStart => exact ⟨rfl, rfl, rfl⟩
    case round =>
      obtain ⟨rfl, rfl, rfl⟩ := hrel
      go_wp2
      go_ret
      exact ⟨ret_int (by simp), HSG.out, OutI.refl _ _ _⟩
  unfold maxLen at hm
  have HHI := Lib.hid hhi
  have HVH := Lib.hid hvh; clear hvh
  have HB := Lib.hid hB; clear hB
  obtain ⟨N, hN⟩ : ∃ N, xss.flatten.length = N := ⟨_, rfl⟩
  have HN := Lib.hid hN
  rw [hN] at hfl
  have hVN := HB.out.2.1
  have HVN := Lib.hid hVN; clear hVN hN
  have HGF := Lib.hid (hhi g rfl); clear hhi
  have hgNe : Hid (∀ i (h : i < vs.length), vs[i].ownBlock = none ∨ vs[i].ownBlock ≠ some g) := fun i h => HB.out.2.2.2.2 i h
  have HN' : Hid ((k0 : Nat) + 2 * xss.flatten.length = k0 + 2 * N) := by show _ = _; rw [HN.out]
  rw [HN'.out]
  go_enter Try.func23, Try.ntmps23
  go_wp2
  go_loopw [1, 5] (fun t i wr => ∃ (k m : Nat), k ≤ xss.length ∧ i = .int .i64 k ∧ t = .int .i64 m ∧ Hid (m = k0 + 2 * (xss.take k).flatten.length) ∧ OutI lo hi w wr ∧ own T1 lo wr (.slice (some ⟨g, 0, none⟩) xss.length c) vs ∧ Hid (∀ i (h : i < vs.length) (h' : i < xss.length), k ≤ i → own T2 lo wr vs[i] xss[i]) ∧ Hid (∀ i (h : i < vs.length) (h' : i < xss.length), i < k → own T2 lo wr vs[i] (marksL (k0 + 2 * (xss.take i).flatten.length) xss[i].length)) ∧ Hid (own T2 lo wr vO zs)) (fun _ i _ => xss.length - (intOf i).toNat)
  case atStart => exact ⟨0, k0, Nat.zero_le _, rfl, rfl, by show _ = _; simp, OutI.refl _ _ _, HB.out.1, fun i h h' _ => HB.out.2.2.1 i h h', fun i h h' hi => absurd hi (Nat.not_lt_zero i), HOO.out⟩
  case round =>
    obtain ⟨k, m, hk, rfl, rfl, HM, hO, hV, HI, HJ, HZ⟩ := hrel
    obtain ⟨w1, rfl⟩ : ∃ w1 : World, w1 = wr := ⟨_, rfl⟩
    have HO := Lib.hid hO; have HV := Lib.hid hV
    clear hO hV
    by_cases hlt : k < xss.length
    · have hlv : k < vs.length := by rw [HVN.out]; exact hlt
      have hrow := HI.out k hlv hlt (Nat.le_refl _)
      have c0 : w1.cell? ⟨g, k, none⟩ = some vs[k] := own_cellv HV.out k hlv
      have HS : Hid ((xss.take (k + 1)).flatten.length = (xss.take k).flatten.length + xss[k].length) := by show _ = _; rw [List.take_succ_eq_append_getElem hlt, List.flatten_append, List.length_append]; simp
      have HTK : Hid ((xss.take (k + 1)).flatten.length ≤ N) := by
        show _ ≤ _
        rw [← HN.out]
        have := congrArg (fun l => (List.flatten l).length) (List.take_append_drop (k + 1) xss)
        simp only [List.flatten_append, List.length_append] at this
        omega
      have hlen : xss[k].length ≤ 1048576 := by have h1 := HS.out; have h2 := HTK.out; omega
      have hm1 : m ≤ 274877906944 := by have h0 := HM.out; have h1 := HS.out; have h2 := HTK.out; omega
      obtain ⟨ys, hys⟩ : ∃ ys, ys = xss[k] := ⟨_, rfl⟩
      have HYS := Lib.hid hys
      rw [← hys] at hrow hlen
      clear hys
      obtain ⟨u, hu⟩ : ∃ u, u = vs[k] := ⟨_, rfl⟩
      have HUK := Lib.hid hu
      rw [← hu] at hrow c0
      clear hu
      have HRW := Lib.hid hrow
      obtain ⟨A2, m2, c2, rfl, hm2, _, _, _⟩ := hrow.rd
      clear hm2 hrow
      have hki : (k : Int) < (xss.length : Int) := by omega
      go_wp2_with fail
      refine (laws_markLetterS T2 lo _ ys m _ HRW.out hm1 hlen).mono ?_
      rintro e w2 ⟨rfl, o2, g2⟩
      have HO2 := Lib.hid (HO.out.trans (OutI.of_grown (lo := lo) (hi := hi) g2 fun j hj => ⟨(HRW.out.blk j hj).1, HVH.out k hlv j (by rw [← HUK.out]; exact hj)⟩))
      have HV2 := Lib.hid (HV.out.grown g2 (.inr (by
        have := hgNe.out k hlv
        rw [← HUK.out] at this
        rcases this with h | h
        · rw [h]; show some g ≠ none; simp
        · exact fun e => h e.symm)))
      have HI2 : Hid (∀ i (h : i < vs.length) (h' : i < xss.length), k + 1 ≤ i → own T2 lo w2 vs[i] xss[i]) := fun i h h' hi => (HI.out i h h' (by omega)).grown g2 (by
        have := HB.out.2.2.2.1 i k h hlv (by omega)
        unfold apart at this
        rw [HUK.out]
        exact this)
      have HJ2 : Hid (∀ i (h : i < vs.length) (h' : i < xss.length), i < k + 1 → own T2 lo w2 vs[i] (marksL (k0 + 2 * (xss.take i).flatten.length) xss[i].length)) := fun i h h' hi => by
        by_cases hik : i = k
        · subst hik
          have e1 := HM.out
          have := o2
          rw [HUK.out, HYS.out, e1] at this
          exact this
        · refine (HJ.out i h h' (by omega)).grown g2 ?_
          have := HB.out.2.2.2.1 i k h hlv hik
          unfold apart at this
          rw [HUK.out]
          exact this
      have HZ2 : Hid (own T2 lo w2 vO zs) := HZ.out.grown g2 (by
        have := HFF.out.2 k hlv
        unfold apart at this
        rw [HUK.out]
        exact this)
      clear o2 g2
      have hmb : (m : Int) + 2 * (ys.length : Int) ≤ 824633720832 := by omega
      go_wp2_with fail
      go_roundw
      case rel =>
        refine ⟨k + 1, m + 2 * ys.length, by omega, by go_num, by go_num, ?_, HO2.out, HV2.out, HI2.out, HJ2, HZ2⟩
        show _ = _
        have h0 := HM.out; have h1 := HS.out; have h2 := congrArg List.length HYS.out
        omega
      case measure => simp [intOf]; omega
    · have HE := Lib.hid (show k = xss.length by omega)
      go_wp2
      go_ret
      refine ⟨ret_int ?_, ⟨vs, ⟨?_, by rw [marksLL_len]; exact HVN.out, fun i h h' => ?_, HB.out.2.2.2.1, HB.out.2.2.2.2⟩, HZ.out, HFF.out, HHI.out, HVH.out, HOHI.out⟩, HO.out⟩
      rotate_left
      · exact HV.out
      · rw [marksLL_get]; exact HJ.out i h (by rw [marksLL_len] at h'; exact h') (by rw [HE.out, ← HVN.out]; exact h)
      have h0 := HM.out
      rw [HE.out, List.take_length, HN.out] at h0
      omega

theorem u_mk2O (T1 T2 lo hi : Nat) (v vO : Value) (xss : List (List Ltr)) (zs : List Ltr) (k0 : Nat) (w : World) (hv : seg2 T1 T2 lo hi w v vO xss zs) (hk0 : k0 ≤ 274877906944) (hl : zs.length ≤ 1048576) :
    Calls Try.prog 24 #[vO, .int .i64 k0] w fun e w' => e = .returned (.int .i64 ((k0 + 2 * zs.length : Nat) : Int)) ∧ seg2 T1 T2 lo hi w' v vO xss (marksL k0 zs.length) ∧ OutI lo hi w w' := by
  obtain ⟨vs, ⟨g1, g2, g3, g4, g5⟩, h2, h3, h4, h5, h6⟩ := hv
  refine (laws_markLetterS T2 lo _ zs k0 _ h2 hk0 hl).mono ?_
  rintro e w1 ⟨rfl, o1, gr⟩
  exact ⟨rfl, ⟨vs, ⟨g1.grown gr (apart_symm h3.1), g2, fun i hi hi' => (g3 i hi hi').grown gr (apart_symm (h3.2 i hi)), g4, g5⟩, o1, h3, h4, h5, h6⟩, OutI.of_grown gr fun j hj => ⟨(h2.blk j hj).1, h6 j hj⟩⟩

set_option maxHeartbeats 800000 in
theorem u_hdLL (v : Value) (xss : List (List Ltr)) (k0 : Nat) (w : World) (hv : rd w w.heap.size v (marksLL k0 xss)) (hk0 : k0 ≤ 1099511627) (hl : xss.flatten.length ≤ 1048576) :
    Calls Try.prog 25 #[v, .int .i64 k0] w fun e w' => e = .returned (.int .i64 ((k0 + 2 * xss.flatten.length : Nat) : Int)) ∧ Below w.heap.size w w' := by
  obtain ⟨A, n, c, rfl, hn, hc, hm, hr⟩ := hv
  have hn' : n = xss.length := by rw [hn, marksLL_len]
  clear hn
  subst hn'
  unfold maxLen at hm
  have HR := Lib.hid hr; clear hr
  obtain ⟨N, hN⟩ : ∃ N, xss.flatten.length = N := ⟨_, rfl⟩
  have HN := Lib.hid hN
  rw [hN] at hl
  have HN' : Hid ((k0 : Nat) + 2 * xss.flatten.length = k0 + 2 * N) := by show _ = _; rw [HN.out]
  rw [HN'.out]
  clear hN
  go_enter Try.func25, Try.ntmps25
  go_wp2
  go_loopw [1, 5] (fun t i wr => ∃ (k m : Nat), k ≤ xss.length ∧ i = .int .i64 k ∧ t = .int .i64 m ∧ Hid (m = k0 + 2 * (xss.take k).flatten.length) ∧ Below w.heap.size w wr) (fun _ i _ => xss.length - (intOf i).toNat)
  case atStart => exact ⟨0, k0, Nat.zero_le _, rfl, rfl, by show _ = _; simp, Below.refl _ _⟩
  case round =>
    obtain ⟨k, m, hk, rfl, rfl, HM, lr⟩ := hrel
    obtain ⟨w1, rfl⟩ : ∃ w1 : World, w1 = wr := ⟨_, rfl⟩
    by_cases hlt : k < xss.length
    · obtain ⟨b, o, u, rfl, hb, hu, c1⟩ := HR.out.rowU k (by rw [marksLL_len]; exact hlt)
      rw [marksLL_get] at hu
      have HS : Hid ((xss.take (k + 1)).flatten.length = (xss.take k).flatten.length + xss[k].length) := by show _ = _; rw [List.take_succ_eq_append_getElem hlt, List.flatten_append, List.length_append]; simp
      have HTK : Hid ((xss.take (k + 1)).flatten.length ≤ N) := by
        show _ ≤ _
        rw [← HN.out]
        have := congrArg (fun l => (List.flatten l).length) (List.take_append_drop (k + 1) xss)
        simp only [List.flatten_append, List.length_append] at this
        omega
      have hlen : xss[k].length ≤ 1048576 := by have h1 := HS.out; have h2 := HTK.out; omega
      have hm1 : m ≤ 274877906944 := by have h0 := HM.out; have h1 := HS.out; have h2 := HTK.out; omega
      have hm0 := HM.out
      rw [← hm0] at hu
      clear hm0
      obtain ⟨L, hL⟩ : ∃ L, xss[k].length = L := ⟨_, rfl⟩
      have HL := Lib.hid hL
      rw [hL] at hu hlen
      clear hL
      have HU := Lib.hid hu
      obtain ⟨A2, m2, c2, rfl, hm2, _, _, _⟩ := hu
      clear hm2
      have hki : (k : Int) < (xss.length : Int) := by omega
      go_wp2_with fail
      refine (laws_heldLetterS _ L m _ (HU.out.on lr) hm1 hlen).mono ?_
      rintro e w2 ⟨rfl, b2⟩
      have l2 := later_trans lr b2
      have hmb : (m : Int) + 2 * (L : Int) ≤ 824633720832 := by omega
      have hmn : ¬ ((m : Int) + 2 * (L : Int) < 0) := by omega
      go_wp2_with fail
      go_roundw
      case rel =>
        refine ⟨k + 1, m + 2 * L, by omega, by go_num, by go_num, ?_, l2⟩
        show _ = _
        have h0 := HM.out; have h1 := HS.out; have h2 := HL.out
        omega
      case measure => simp [intOf]; omega
    · have HE := Lib.hid (show k = xss.length by omega)
      go_wp2
      go_ret
      refine ⟨ret_int ?_, lr⟩
      have h0 := HM.out
      rw [HE.out, List.take_length, HN.out] at h0
      omega

end Go.Proofs.Ytiaepapdofcnjaa

namespace Go.Proofs.Ytiaepapdofcnjaa
open Go.RowKit

theorem u_wmL (T lo hi : Nat) (v : Value) (xs : List Ltr) (k0 : Nat) (w : World) (hv : seg T lo hi w v xs) (hk0 : k0 ≤ 274877906944) (hs : szL xs ≤ 1048576) :
    Calls Try.prog 24 #[v, .int .i64 k0] w fun e w' => e = .returned (.int .i64 ((k0 + 2 * xs.length : Nat) : Int)) ∧ OutI lo hi w w' := by
  refine (laws_markLetterS T lo _ xs k0 _ hv.1 hk0 (by unfold szL at hs; omega)).mono ?_
  rintro e w1 ⟨rfl, o1, gr⟩
  exact ⟨rfl, OutI.of_grown gr fun j hj => ⟨(hv.1.blk j hj).1, hv.2 j hj⟩⟩

set_option maxHeartbeats 800000 in
theorem u_wmM (T lo hi : Nat) (v : Value) (xs : List Mis) (k0 : Nat) (w : World) (hv : seg T lo hi w v xs) (hk0 : k0 ≤ 274877906944) (hs : szM xs ≤ 1048576) :
    Calls Try.prog 34 #[v, .int .i64 k0] w fun e w' => e = .returned (.int .i64 ((k0 + 2 * xs.length : Nat) : Int)) ∧ OutI lo hi w w' := by
  obtain ⟨hv, hhi⟩ := hv
  have hl : xs.length ≤ 1048576 := by unfold szM at hs; omega
  clear hs
  rcases hv.form with ⟨rfl, rfl⟩ | ⟨g, c, rfl, hg, hgl, hc, hm⟩
  · go_enter Try.func34, Try.ntmps34
    go_wp2
    go_loopw [1, 5] (fun t i wr => i = .int .i64 0 ∧ t = .int .i64 k0 ∧ wr = w) (fun _ _ _ => 0)
    case atStart => exact ⟨rfl, rfl, rfl⟩
    case round =>
      obtain ⟨rfl, rfl, rfl⟩ := hrel
      go_wp2
      go_ret
      exact ⟨ret_int (by simp), OutI.refl _ _ _⟩
  · unfold maxLen at hm
    have HV := Lib.hid hv; clear hv
    have HGR : Hid (∀ wr, w.grownBy wr (some g) → OutI lo hi w wr) := fun wr h => OutI.of_grown h fun j hj => by
      injection hj with hj
      subst hj
      exact ⟨hg, hhi g rfl⟩
    clear hhi
    go_enter Try.func34, Try.ntmps34
    go_wp2
    go_loopw [1, 5] (fun t i wr => ∃ (k m : Nat) (ys : List Mis), k ≤ xs.length ∧ i = .int .i64 k ∧ t = .int .i64 m ∧ Hid (m = k0 + 2 * k) ∧ w.grownBy wr (some g) ∧ Hid (ys.length = xs.length) ∧ own T lo wr (.slice (some ⟨g, 0, none⟩) xs.length c) ys) (fun _ i _ => xs.length - (intOf i).toNat)
    case atStart => exact ⟨0, k0, xs, Nat.zero_le _, rfl, rfl, rfl, World.grownBy.refl _ _, rfl, HV.out⟩
    case round =>
      obtain ⟨k, m, ys, hk, rfl, rfl, HM, hgr, HLEN, ho⟩ := hrel
      obtain ⟨w1, rfl⟩ : ∃ w1 : World, w1 = wr := ⟨_, rfl⟩
      have hmb : (m : Int) ≤ 824633720832 := by have := HM.out; omega
      by_cases hlt : k < xs.length
      · have hlt' : k < ys.length := by rw [HLEN.out]; exact hlt
        have ho1 := ho.setCell (k := k) (j := 0) hlt' (by decide) (.int .i64 m) ⟨m, ys[k].bin⟩ (fun ecs he => by
          obtain ⟨⟨h1, h2⟩, rfl⟩ := he
          exact ⟨⟨⟨by show _ ≤ (m : Int); omega, by show (m : Int) ≤ _; omega⟩, h2⟩, rfl⟩)
        obtain ⟨u0, g0⟩ := ho.cellAt (j := k * 2) (by show _ < _ * 2; omega)
        have f0 := ho.freeAt (k * 2)
        have hlt2 : k < (ys.set k ⟨m, ys[k].bin⟩).length := by simpa using hlt'
        have ho3 := ho1.setCell (k := k) (j := 1) hlt2 (by decide) (.int .i64 ((m : Int) + 1)) ⟨m, (m : Int) + 1⟩ (fun ecs he => by
          obtain ⟨⟨h1, h2⟩, rfl⟩ := he
          refine ⟨⟨?_, ⟨by show _ ≤ (m : Int) + 1; omega, by show (m : Int) + 1 ≤ _; omega⟩⟩, ?_⟩
          · simpa using h1
          · simp [Mis.cells])
        obtain ⟨u1, g1⟩ := ho.cellAt (j := k * 2 + 1) (by show _ < _ * 2; omega)
        have f1 := ho.freeAt (k * 2 + 1)
        have HO3 := Lib.hid ho3; clear ho3 ho1 ho
        have hgr1 : w.grownBy (w1.setCell ⟨g, k * 2, none⟩ (.int .i64 m)) (some g) := grown_setCell hgr (.inl rfl) _
        have HG3 : Hid (w.grownBy ((w1.setCell ⟨g, k * 2, none⟩ (.int .i64 m)).setCell ⟨g, k * 2 + 1, none⟩ (.int .i64 ((m : Int) + 1))) (some g)) := grown_setCell hgr1 (.inl rfl) _
        clear hgr hgr1
        go_wp2
        go_roundw
        case rel => exact ⟨k + 1, m + 2, _, by omega, by go_num, by go_num, by show _ = _; have := HM.out; omega, HG3.out, by show _ = _; rw [List.length_set, List.length_set]; exact HLEN.out, HO3.out⟩
        case measure => simp [intOf]; omega
      · have HE := Lib.hid (show k = xs.length by omega)
        have HO := Lib.hid ho; clear ho
        go_wp2
        go_ret
        exact ⟨ret_int (by have := HM.out; have := HE.out; omega), HGR.out _ hgr⟩

end Go.Proofs.Ytiaepapdofcnjaa

namespace Go.Proofs.Ytiaepapdofcnjaa
open Go.RowKit

theorem laws_toForward (x : Fwd) (w : World) :
    Calls Try.prog 150 #[.agg #[.string x.src, .string x.dst]] w fun e w' => e = .returned (.agg #[.string x.src, .string x.dst]) ∧ Below w.heap.size w w' := by
  go_enter Try.func150, Try.ntmps150
  go_wp2
  refine bodyPost_ret (v := .agg #[.string x.src, .string x.dst]) (by simp [results, Try.results150, go_sem]) rfl ⟨rfl, ?_⟩
  go_grown

def fwdEq (x y : Fwd) : Bool := sEq x.src y.src && sEq x.dst y.dst
theorem fwdEq_iff (x y : Fwd) : fwdEq x y = true ↔ x = y := by
  cases x; cases y; simp [fwdEq, sEq_iff]
theorem laws_eqForward (x y : Fwd) (w : World) :
    Calls Try.prog 157 #[.agg #[.string x.src, .string x.dst], .agg #[.string y.src, .string y.dst]] w fun e w' => e = .returned (.bool (fwdEq x y)) ∧ Below w.heap.size w w' := by
  have hB : Below w.heap.size w ((w.alloc (Obj.cells #[.string x.src, .string x.dst] 175)).alloc (Obj.cells #[.string y.src, .string y.dst] 175)) := ((Below.refl _ _).alloc (Nat.le_refl _) _).alloc (by simp) _
  cases h0 : sEq x.src y.src
  · have i0 := Lib.hid h0
    unfold sEq at h0
    go_enter Try.func157, Try.ntmps157
    go_wp2
    go_ret
    exact ⟨ret_bool (by simp [fwdEq, i0.out]), hB⟩
  · have i0 := Lib.hid h0
    unfold sEq at h0
    cases h1 : sEq x.dst y.dst
    · have i1 := Lib.hid h1
      unfold sEq at h1
      go_enter Try.func157, Try.ntmps157
      go_wp2
      go_ret
      exact ⟨ret_bool (by simp [fwdEq, i0.out, i1.out]), hB⟩
    · have i1 := Lib.hid h1
      unfold sEq at h1
      go_enter Try.func157, Try.ntmps157
      go_wp2
      go_ret
      exact ⟨ret_bool (by simp [fwdEq, i0.out, i1.out]), hB⟩

theorem Try.infoFwd : (Try.prog.info? 175).map (fun i => (i.zero, i.size, i.bytes)) = some (some (.agg #[.string ⟨#[]⟩, .string ⟨#[]⟩]), 2, 32) := by kernel_rfl

set_option maxHeartbeats 400000 in
theorem laws_toForwardS (v : Value) (xs : List Fwd) (w : World) (hv : rd w w.heap.size v xs) (hl : xs.length ≤ 1048576) :
    Calls Try.prog 100 #[v] w fun e w' => ∃ v', e = .returned v' ∧ own 175 w.heap.size w' v' xs ∧ Below w.heap.size w w' := by
  obtain ⟨A, n, c, rfl, hn, hc, hm, hr⟩ := hv
  subst hn
  unfold maxLen at hm
  have HR := Lib.hid hr; clear hr
  obtain ⟨i0, hi, hz0, hz1, hz2⟩ := info_parts Try.infoFwd
  have hmk := make_row (P := Try.prog) 63 175 i0 _ Try.underlying63 hi hz0 xs.length (by rw [hz2]; omega) (by omega)
  go_enter Try.func100, Try.ntmps100
  go_wp2
  have hf0 : filled 175 (w.alloc (Obj.cells (madeCells #[.string ⟨#[]⟩, .string ⟨#[]⟩] (xs.length * 2)) 175)) w.heap.size xs.length 0 xs := filled.made w _ _ _ (by rw [size_madeCells]; rfl) xs
  have hb0 : Below w.heap.size w (w.alloc (Obj.cells (madeCells #[.string ⟨#[]⟩, .string ⟨#[]⟩] (xs.length * 2)) 175)) := (Below.refl _ _).alloc (Nat.le_refl _) _
  generalize w.alloc (Obj.cells (madeCells #[.string ⟨#[]⟩, .string ⟨#[]⟩] (xs.length * 2)) 175) = w0 at *
  clear hmk
  go_loopw [4] (fun i wr => ∃ k : Nat, k ≤ xs.length ∧ i = .int .i64 k ∧ Below w.heap.size w wr ∧ filled 175 wr w.heap.size xs.length k xs) (fun i _ => xs.length - (intOf i).toNat)
  case atStart => exact ⟨0, Nat.zero_le _, rfl, hb0, hf0⟩
  case round =>
    obtain ⟨k, hk, rfl, hbl, hf⟩ := hrel
    obtain ⟨w1, rfl⟩ : ∃ w1 : World, w1 = wr := ⟨_, rfl⟩
    clear hf0 hb0
    by_cases hlt : k < xs.length
    · obtain ⟨b, o, rfl, hb, hok, c1, c2⟩ := HR.out.fwd k hlt
      have HST := Lib.hid (fun (W : World) (hF : filled 175 W w.heap.size xs.length k xs) => hF.step hlt (Nat.le_refl _) (ecs := xs[k].cells) ⟨hok, rfl⟩)
      generalize xs[k] = x at *
      have c1' : w1.cell? ⟨b, o + k * 2, none⟩ = some (.string x.src) := (hbl.cell (p := ⟨b, o + k * 2, none⟩) hb).trans c1
      have c2' : w1.cell? ⟨b, o + k * 2 + 1, none⟩ = some (.string x.dst) := (hbl.cell (p := ⟨b, o + k * 2 + 1, none⟩) hb).trans c2
      clear c1 c2
      have HF := Lib.hid hf; clear hf
      go_wp2_with fail
      refine (laws_toForward _ _).mono ?_
      rintro e w2 ⟨rfl, hb3⟩
      have hf2 := HF.out.below hb3
      have hb2 := hbl.trans (hb3.mono hbl.size)
      obtain ⟨u0, g0⟩ := hf2.cell (j := k * 2) (by show _ < _ * 2; omega)
      obtain ⟨u1, g1⟩ := hf2.cell (j := k * 2 + 1) (by show _ < _ * 2; omega)
      have f0 := hf2.free (k * 2)
      have f1 := hf2.free (k * 2 + 1)
      have HF2 := Lib.hid hf2; clear hf2
      go_wp2_with fail
      go_roundw
      case rel => exact ⟨k + 1, by omega, by go_num, hb2.trans (setAll_below x.cells w2 (k * 2) _ (Nat.le_refl _)), HST.out w2 HF2.out⟩
      case measure => simp [intOf]; omega
    · have HE := Lib.hid (show k = xs.length by omega)
      have HF := Lib.hid hf; clear hf
      go_wp2
      go_ret
      exact ⟨_, rfl, (HE.out ▸ HF.out : filled _ _ _ _ xs.length _).own rfl (Nat.le_refl _) (by unfold maxLen; omega), hbl⟩

set_option maxRecDepth 100000 in
set_option maxHeartbeats 400000 in
theorem laws_eqForwardS (v v' : Value) (xs ys : List Fwd) (w : World) (hv : rd w w.heap.size v xs) (hv' : rd w w.heap.size v' ys) :
    Calls Try.prog 105 #[v, v'] w fun e w' => e = .returned (.bool (eqBy fwdEq xs ys)) ∧ Below w.heap.size w w' := by
  obtain ⟨A, n, c, rfl, hn, hc, hm, hr⟩ := hv
  obtain ⟨A', n', c', rfl, hn', hc', hm', hr'⟩ := hv'
  subst hn hn'
  unfold maxLen at hm hm'
  have HR := Lib.hid hr; clear hr
  have HR' := Lib.hid hr'; clear hr'
  go_enter Try.func105, Try.ntmps105
  by_cases hl : xs.length = ys.length
  · have hl1 : ((xs.length : Int) != (ys.length : Int)) = false := by simp [hl]
    have HL := Lib.hid hl; clear hl
    go_wp2
    go_loopw [5] (fun i wr => ∃ k : Nat, k ≤ xs.length ∧ i = .int .i64 k ∧ Below w.heap.size w wr ∧ Hid (∀ j (h1 : j < xs.length) (h2 : j < ys.length), j < k → fwdEq xs[j] ys[j] = true)) (fun i _ => xs.length - (intOf i).toNat)
    case atStart => exact ⟨0, Nat.zero_le _, rfl, Below.refl _ _, fun j _ _ hj => absurd hj (Nat.not_lt_zero j)⟩
    case round =>
      obtain ⟨k, hk, rfl, hbl, HG⟩ := hrel
      obtain ⟨w1, rfl⟩ : ∃ w1 : World, w1 = wr := ⟨_, rfl⟩
      by_cases hlt : k < xs.length
      · have hlt' : k < ys.length := by rw [← HL.out]; exact hlt
        obtain ⟨b, o, rfl, hb, _, c1, c2⟩ := HR.out.fwd k hlt
        obtain ⟨b', o', rfl, hb', _, d1, d2⟩ := HR'.out.fwd k hlt'
        have hbad := Lib.hid (fun h => eqBy_bad (p := fwdEq) k hlt hlt' h)
        have HX : Hid (∀ h : fwdEq xs[k] ys[k] = true, ∀ j (h1 : j < xs.length) (h2 : j < ys.length), j < k + 1 → fwdEq xs[j] ys[j] = true) := fun h j h1 h2 hj => by
          by_cases hjk : j < k
          · exact HG.out j h1 h2 hjk
          · obtain rfl : j = k := by omega
            exact h
        generalize xs[k] = x at *
        generalize ys[k] = y at *
        have c1' : w1.cell? ⟨b, o + k * 2, none⟩ = some (.string x.src) := (hbl.cell (p := ⟨b, o + k * 2, none⟩) hb).trans c1
        have c2' : w1.cell? ⟨b, o + k * 2 + 1, none⟩ = some (.string x.dst) := (hbl.cell (p := ⟨b, o + k * 2 + 1, none⟩) hb).trans c2
        have d1' : w1.cell? ⟨b', o' + k * 2, none⟩ = some (.string y.src) := (hbl.cell (p := ⟨b', o' + k * 2, none⟩) hb').trans d1
        have d2' : w1.cell? ⟨b', o' + k * 2 + 1, none⟩ = some (.string y.dst) := (hbl.cell (p := ⟨b', o' + k * 2 + 1, none⟩) hb').trans d2
        clear c1 c2 d1 d2
        have hki : (k : Int) < (xs.length : Int) := by omega
        have hki' : (k : Int) < (ys.length : Int) := by omega
        have hb2 : Below w.heap.size w w1.drew := hbl.drew
        cases he : fwdEq x y
        · have he' := Lib.hid he; clear he
          go_wp2
          go_still_tail 8, (by kernel_rfl)
          change wpList _ _ _ _ _ w1.drew
          generalize w1.drew = w2 at *
          go_wp2_with (go_at_call 157; refine (laws_eqForward _ _ _).mono ?_; rw [he'.out]; rintro e w' ⟨rfl, hb3⟩)
          go_ret
          exact ⟨ret_bool (hbad.out he'.out).symm, hb2.trans (hb3.mono hb2.size)⟩
        · have he' := Lib.hid he; clear he
          go_wp2
          go_still_tail 8, (by kernel_rfl)
          change wpList _ _ _ _ _ w1.drew
          generalize w1.drew = w2 at *
          go_wp2_with (go_at_call 157; refine (laws_eqForward _ _ _).mono ?_; rw [he'.out]; rintro e w' ⟨rfl, hb3⟩)
          go_roundw
          case rel => exact ⟨k + 1, by omega, by go_num, hb2.trans (hb3.mono hb2.size), HX.out he'.out⟩
          case measure => simp [intOf]; omega
      · have HE := Lib.hid (show k = xs.length by omega)
        go_wp2
        go_ret
        exact ⟨ret_bool (eqBy_good HL.out fun j h1 h2 => HG.out j h1 h2 (by rw [HE.out]; exact h1)).symm, hbl⟩
  · have hl1 : ((xs.length : Int) != (ys.length : Int)) = true := by simp; omega
    have HL := Lib.hid hl; clear hl
    go_wp2
    go_ret
    exact ⟨ret_bool (eqBy_len HL.out).symm, Below.refl _ _⟩

end Go.Proofs.Ytiaepapdofcnjaa
