/- MK MK2 MI -/
import Derived.Test.YtiaepapdofcnjaaQ15
import Derived.Test.YtiaepapdofcnjaaQ7
import Derived.Test.YtiaepapdofcnjaaQ8
namespace Go.Proofs.Ytiaepapdofcnjaa
open Go.RowKit

def marksLL (k0 : Nat) (xss : List (List Ltr)) : List (List Ltr) := (List.range xss.length).map fun i => marksL (k0 + 2 * (xss.take i).flatten.length) (xss.getD i []).length
theorem marksLL_len (k0 : Nat) (xss : List (List Ltr)) : (marksLL k0 xss).length = xss.length := by simp [marksLL]
theorem marksLL_get (k0 : Nat) (xss : List (List Ltr)) (i : Nat) (h : i < (marksLL k0 xss).length) : (marksLL k0 xss)[i] = marksL (k0 + 2 * (xss.take i).flatten.length) (xss[i]'(by rw [marksLL_len] at h; exact h)).length := by
  have h' : i < xss.length := by rw [marksLL_len] at h; exact h
  simp [marksLL, h']
/-- A row of rows and a row beside it, of the call's own, in blocks before hi. -/
def seg2 (T1 T2 lo hi : Nat) (w : World) (vB vO : Value) (xss : List (List Ltr)) (ys : List Ltr) : Prop :=
  ∃ vs, isLL T1 T2 lo w vB xss vs ∧ own T2 lo w vO ys ∧ farLL vO vB vs ∧ (∀ k, vB.ownBlock = some k → k < hi) ∧ (∀ i (h : i < vs.length) k, vs[i].ownBlock = some k → k < hi) ∧ ∀ k, vO.ownBlock = some k → k < hi
section
variable {T1 T2 lo hi : Nat} {w w' : World} {vB vO : Value} {xss : List (List Ltr)} {ys : List Ltr}
theorem seg2.of {vs : List Value} (h : isLL T1 T2 lo w vB xss vs) (ho : own T2 lo w vO ys) (hf : farLL vO vB vs) : seg2 T1 T2 lo w.heap.size w vB vO xss ys :=
  ⟨vs, h, ho, hf, fun k hk => (h.1.blk k hk).2, fun i hi k hk => ((h.2.2.1 i hi (by have := h.2.1; omega)).blk k hk).2, fun k hk => (ho.blk k hk).2⟩
theorem seg2.alone (h : ownLL T1 T2 lo w vB xss) : seg2 T1 T2 lo w.heap.size w vB (.slice none 0 0) xss [] := by
  obtain ⟨vs, h⟩ := h
  exact seg2.of h (own.nil_ _ _ _) ⟨.inl rfl, fun k hk => .inl rfl⟩
theorem seg2.below (h : seg2 T1 T2 lo hi w vB vO xss ys) (hb : Below w.heap.size w w') : seg2 T1 T2 lo hi w' vB vO xss ys := by
  obtain ⟨vs, h1, h2, h3, h4, h5, h6⟩ := h
  exact ⟨vs, h1.below hb, h2.below hb, h3, h4, h5, h6⟩
theorem seg2.out {a b : Nat} (h : seg2 T1 T2 lo hi w vB vO xss ys) (ho : OutI a b w w') (hd : hi ≤ a ∨ b ≤ lo) : seg2 T1 T2 lo hi w' vB vO xss ys := by
  obtain ⟨vs, ⟨g1, g2, g3, g4, g5⟩, h2, h3, h4, h5, h6⟩ := h
  refine ⟨vs, ⟨g1.keepBlk fun k hk => ho.block k (g1.blk k hk).2 (by have q1 := (g1.blk k hk).1; have q2 := h4 k hk; omega), g2, fun i hi hi' => ?_, g4, g5⟩, h2.keepBlk fun k hk => ho.block k (h2.blk k hk).2 (by have q1 := (h2.blk k hk).1; have q2 := h6 k hk; omega), h3, h4, h5, h6⟩
  exact (g3 i hi hi').keepBlk fun k hk => ho.block k ((g3 i hi hi').blk k hk).2 (by have q1 := ((g3 i hi hi').blk k hk).1; have q2 := h5 i hi k hk; omega)
theorem seg2.rdB (h : seg2 T1 T2 lo hi w vB vO xss ys) : rd w w.heap.size vB xss := by
  obtain ⟨vs, h1, _⟩ := h
  exact ownLL.rd ⟨vs, h1⟩
theorem seg2.rdO (h : seg2 T1 T2 lo hi w vB vO xss ys) : rd w w.heap.size vO ys := by
  obtain ⟨vs, h1, h2, _⟩ := h
  exact h2.rd
end

set_option maxRecDepth 100000 in
set_option maxHeartbeats 800000 in
theorem u_mkLL (T1 T2 lo hi : Nat) (v vO : Value) (xss : List (List Ltr)) (zs : List Ltr) (k0 : Nat) (w : World) (hv : seg2 T1 T2 lo hi w v vO xss zs) (hk0 : k0 ≤ 1099511627) (hn20 : xss.length ≤ 1048576) (hfl : xss.flatten.length ≤ 1048576) :
    Calls Try.prog 23 #[v, .int .i64 k0] w fun e w' => e = .returned (.int .i64 ((k0 + 2 * xss.flatten.length : Nat) : Int)) ∧ seg2 T1 T2 lo hi w' v vO (marksLL k0 xss) zs ∧ OutI lo hi w w' := by
  have HSG := Lib.hid hv
  obtain ⟨vs, hB, hOO, hFF, hhi, hvh, hohi⟩ := hv
  have HOO := Lib.hid hOO; clear hOO
  have HFF := Lib.hid hFF; clear hFF
  have HOHI := Lib.hid hohi; clear hohi
  rcases ownLL.form (show ownLL T1 T2 lo w v xss from ⟨vs, hB⟩) with ⟨rfl, rfl⟩ | ⟨g, c, rfl, hg, hgl, hc, hm⟩
  · go_enter Try.func23, Try.ntmps23
    go_wp2
    go_loopw [1, 5] (fun t i wr => i = .int .i64 0 ∧ t = .int .i64 k0 ∧ wr = w) (fun _ _ _ => 0)
    case atStart => exact ⟨rfl, rfl, rfl⟩
    case round =>
      obtain ⟨rfl, rfl, rfl⟩ := hrel
      go_wp2
      go_ret
      exact ⟨ret_int (by simp), HSG.out, OutI.refl _ _ _⟩
  unfold maxLen at hm
  have HHI := Lib.hid hhi
  have HVH := Lib.hid hvh; clear hvh
  have HB := Lib.hid hB; clear hB
  obtain ⟨N, hN⟩ : ∃ N, xss.flatten.length = N := ⟨_, rfl⟩
  have HN := Lib.hid hN
  rw [hN] at hfl
  have hVN := HB.out.2.1
  have HVN := Lib.hid hVN; clear hVN hN
  have HGF := Lib.hid (hhi g rfl); clear hhi
  have hgNe : Hid (∀ i (h : i < vs.length), vs[i].ownBlock = none ∨ vs[i].ownBlock ≠ some g) := fun i h => HB.out.2.2.2.2 i h
  have HN' : Hid ((k0 : Nat) + 2 * xss.flatten.length = k0 + 2 * N) := by show _ = _; rw [HN.out]
  rw [HN'.out]
  go_enter Try.func23, Try.ntmps23
  go_wp2
  go_loopw [1, 5] (fun t i wr => ∃ (k m : Nat), k ≤ xss.length ∧ i = .int .i64 k ∧ t = .int .i64 m ∧ Hid (m = k0 + 2 * (xss.take k).flatten.length) ∧ OutI lo hi w wr ∧ own T1 lo wr (.slice (some ⟨g, 0, none⟩) xss.length c) vs ∧ Hid (∀ i (h : i < vs.length) (h' : i < xss.length), k ≤ i → own T2 lo wr vs[i] xss[i]) ∧ Hid (∀ i (h : i < vs.length) (h' : i < xss.length), i < k → own T2 lo wr vs[i] (marksL (k0 + 2 * (xss.take i).flatten.length) xss[i].length)) ∧ Hid (own T2 lo wr vO zs)) (fun _ i _ => xss.length - (intOf i).toNat)
  case atStart => exact ⟨0, k0, Nat.zero_le _, rfl, rfl, by show _ = _; simp, OutI.refl _ _ _, HB.out.1, fun i h h' _ => HB.out.2.2.1 i h h', fun i h h' hi => absurd hi (Nat.not_lt_zero i), HOO.out⟩
  case round =>
    obtain ⟨k, m, hk, rfl, rfl, HM, hO, hV, HI, HJ, HZ⟩ := hrel
    obtain ⟨w1, rfl⟩ : ∃ w1 : World, w1 = wr := ⟨_, rfl⟩
    have HO := Lib.hid hO; have HV := Lib.hid hV
    clear hO hV
    by_cases hlt : k < xss.length
    · have hlv : k < vs.length := by rw [HVN.out]; exact hlt
      have hrow := HI.out k hlv hlt (Nat.le_refl _)
      have c0 : w1.cell? ⟨g, k, none⟩ = some vs[k] := own_cellv HV.out k hlv
      have HS : Hid ((xss.take (k + 1)).flatten.length = (xss.take k).flatten.length + xss[k].length) := by show _ = _; rw [List.take_succ_eq_append_getElem hlt, List.flatten_append, List.length_append]; simp
      have HTK : Hid ((xss.take (k + 1)).flatten.length ≤ N) := by
        show _ ≤ _
        rw [← HN.out]
        have := congrArg (fun l => (List.flatten l).length) (List.take_append_drop (k + 1) xss)
        simp only [List.flatten_append, List.length_append] at this
        omega
      have hlen : xss[k].length ≤ 1048576 := by have h1 := HS.out; have h2 := HTK.out; omega
      have hm1 : m ≤ 274877906944 := by have h0 := HM.out; have h1 := HS.out; have h2 := HTK.out; omega
      obtain ⟨ys, hys⟩ : ∃ ys, ys = xss[k] := ⟨_, rfl⟩
      have HYS := Lib.hid hys
      rw [← hys] at hrow hlen
      clear hys
      obtain ⟨u, hu⟩ : ∃ u, u = vs[k] := ⟨_, rfl⟩
      have HUK := Lib.hid hu
      rw [← hu] at hrow c0
      clear hu
      have HRW := Lib.hid hrow
      obtain ⟨A2, m2, c2, rfl, hm2, _, _, _⟩ := hrow.rd
      clear hm2 hrow
      have hki : (k : Int) < (xss.length : Int) := by omega
      go_wp2_with fail
      refine (laws_markLetterS T2 lo _ ys m _ HRW.out hm1 hlen).mono ?_
      rintro e w2 ⟨rfl, o2, g2⟩
      have HO2 := Lib.hid (HO.out.trans (OutI.of_grown (lo := lo) (hi := hi) g2 fun j hj => ⟨(HRW.out.blk j hj).1, HVH.out k hlv j (by rw [← HUK.out]; exact hj)⟩))
      have HV2 := Lib.hid (HV.out.grown g2 (.inr (by
        have := hgNe.out k hlv
        rw [← HUK.out] at this
        rcases this with h | h
        · rw [h]; show some g ≠ none; simp
        · exact fun e => h e.symm)))
      have HI2 : Hid (∀ i (h : i < vs.length) (h' : i < xss.length), k + 1 ≤ i → own T2 lo w2 vs[i] xss[i]) := fun i h h' hi => (HI.out i h h' (by omega)).grown g2 (by
        have := HB.out.2.2.2.1 i k h hlv (by omega)
        unfold apart at this
        rw [HUK.out]
        exact this)
      have HJ2 : Hid (∀ i (h : i < vs.length) (h' : i < xss.length), i < k + 1 → own T2 lo w2 vs[i] (marksL (k0 + 2 * (xss.take i).flatten.length) xss[i].length)) := fun i h h' hi => by
        by_cases hik : i = k
        · subst hik
          have e1 := HM.out
          have := o2
          rw [HUK.out, HYS.out, e1] at this
          exact this
        · refine (HJ.out i h h' (by omega)).grown g2 ?_
          have := HB.out.2.2.2.1 i k h hlv hik
          unfold apart at this
          rw [HUK.out]
          exact this
      have HZ2 : Hid (own T2 lo w2 vO zs) := HZ.out.grown g2 (by
        have := HFF.out.2 k hlv
        unfold apart at this
        rw [HUK.out]
        exact this)
      clear o2 g2
      have hmb : (m : Int) + 2 * (ys.length : Int) ≤ 824633720832 := by omega
      go_wp2_with fail
      go_roundw
      case rel =>
        refine ⟨k + 1, m + 2 * ys.length, by omega, by go_num, by go_num, ?_, HO2.out, HV2.out, HI2.out, HJ2, HZ2⟩
        show _ = _
        have h0 := HM.out; have h1 := HS.out; have h2 := congrArg List.length HYS.out
        omega
      case measure => simp [intOf]; omega
    · have HE := Lib.hid (show k = xss.length by omega)
      go_wp2
      go_ret
      refine ⟨ret_int ?_, ⟨vs, ⟨?_, by rw [marksLL_len]; exact HVN.out, fun i h h' => ?_, HB.out.2.2.2.1, HB.out.2.2.2.2⟩, HZ.out, HFF.out, HHI.out, HVH.out, HOHI.out⟩, HO.out⟩
      rotate_left
      · exact HV.out
      · rw [marksLL_get]; exact HJ.out i h (by rw [marksLL_len] at h'; exact h') (by rw [HE.out, ← HVN.out]; exact h)
      have h0 := HM.out
      rw [HE.out, List.take_length, HN.out] at h0
      omega

theorem u_mk2O (T1 T2 lo hi : Nat) (v vO : Value) (xss : List (List Ltr)) (zs : List Ltr) (k0 : Nat) (w : World) (hv : seg2 T1 T2 lo hi w v vO xss zs) (hk0 : k0 ≤ 274877906944) (hl : zs.length ≤ 1048576) :
    Calls Try.prog 24 #[vO, .int .i64 k0] w fun e w' => e = .returned (.int .i64 ((k0 + 2 * zs.length : Nat) : Int)) ∧ seg2 T1 T2 lo hi w' v vO xss (marksL k0 zs.length) ∧ OutI lo hi w w' := by
  obtain ⟨vs, ⟨g1, g2, g3, g4, g5⟩, h2, h3, h4, h5, h6⟩ := hv
  refine (laws_markLetterS T2 lo _ zs k0 _ h2 hk0 hl).mono ?_
  rintro e w1 ⟨rfl, o1, gr⟩
  exact ⟨rfl, ⟨vs, ⟨g1.grown gr (apart_symm h3.1), g2, fun i hi hi' => (g3 i hi hi').grown gr (apart_symm (h3.2 i hi)), g4, g5⟩, o1, h3, h4, h5, h6⟩, OutI.of_grown gr fun j hj => ⟨(h2.blk j hj).1, h6 j hj⟩⟩

set_option maxHeartbeats 800000 in
theorem u_hdLL (v : Value) (xss : List (List Ltr)) (k0 : Nat) (w : World) (hv : rd w w.heap.size v (marksLL k0 xss)) (hk0 : k0 ≤ 1099511627) (hl : xss.flatten.length ≤ 1048576) :
    Calls Try.prog 25 #[v, .int .i64 k0] w fun e w' => e = .returned (.int .i64 ((k0 + 2 * xss.flatten.length : Nat) : Int)) ∧ Below w.heap.size w w' := by
  obtain ⟨A, n, c, rfl, hn, hc, hm, hr⟩ := hv
  have hn' : n = xss.length := by rw [hn, marksLL_len]
  clear hn
  subst hn'
  unfold maxLen at hm
  have HR := Lib.hid hr; clear hr
  obtain ⟨N, hN⟩ : ∃ N, xss.flatten.length = N := ⟨_, rfl⟩
  have HN := Lib.hid hN
  rw [hN] at hl
  have HN' : Hid ((k0 : Nat) + 2 * xss.flatten.length = k0 + 2 * N) := by show _ = _; rw [HN.out]
  rw [HN'.out]
  clear hN
  go_enter Try.func25, Try.ntmps25
  go_wp2
  go_loopw [1, 5] (fun t i wr => ∃ (k m : Nat), k ≤ xss.length ∧ i = .int .i64 k ∧ t = .int .i64 m ∧ Hid (m = k0 + 2 * (xss.take k).flatten.length) ∧ Below w.heap.size w wr) (fun _ i _ => xss.length - (intOf i).toNat)
  case atStart => exact ⟨0, k0, Nat.zero_le _, rfl, rfl, by show _ = _; simp, Below.refl _ _⟩
  case round =>
    obtain ⟨k, m, hk, rfl, rfl, HM, lr⟩ := hrel
    obtain ⟨w1, rfl⟩ : ∃ w1 : World, w1 = wr := ⟨_, rfl⟩
    by_cases hlt : k < xss.length
    · obtain ⟨b, o, u, rfl, hb, hu, c1⟩ := HR.out.rowU k (by rw [marksLL_len]; exact hlt)
      rw [marksLL_get] at hu
      have HS : Hid ((xss.take (k + 1)).flatten.length = (xss.take k).flatten.length + xss[k].length) := by show _ = _; rw [List.take_succ_eq_append_getElem hlt, List.flatten_append, List.length_append]; simp
      have HTK : Hid ((xss.take (k + 1)).flatten.length ≤ N) := by
        show _ ≤ _
        rw [← HN.out]
        have := congrArg (fun l => (List.flatten l).length) (List.take_append_drop (k + 1) xss)
        simp only [List.flatten_append, List.length_append] at this
        omega
      have hlen : xss[k].length ≤ 1048576 := by have h1 := HS.out; have h2 := HTK.out; omega
      have hm1 : m ≤ 274877906944 := by have h0 := HM.out; have h1 := HS.out; have h2 := HTK.out; omega
      have hm0 := HM.out
      rw [← hm0] at hu
      clear hm0
      obtain ⟨L, hL⟩ : ∃ L, xss[k].length = L := ⟨_, rfl⟩
      have HL := Lib.hid hL
      rw [hL] at hu hlen
      clear hL
      have HU := Lib.hid hu
      obtain ⟨A2, m2, c2, rfl, hm2, _, _, _⟩ := hu
      clear hm2
      have hki : (k : Int) < (xss.length : Int) := by omega
      go_wp2_with fail
      refine (laws_heldLetterS _ L m _ (HU.out.on lr) hm1 hlen).mono ?_
      rintro e w2 ⟨rfl, b2⟩
      have l2 := later_trans lr b2
      have hmb : (m : Int) + 2 * (L : Int) ≤ 824633720832 := by omega
      have hmn : ¬ ((m : Int) + 2 * (L : Int) < 0) := by omega
      go_wp2_with fail
      go_roundw
      case rel =>
        refine ⟨k + 1, m + 2 * L, by omega, by go_num, by go_num, ?_, l2⟩
        show _ = _
        have h0 := HM.out; have h1 := HS.out; have h2 := HL.out
        omega
      case measure => simp [intOf]; omega
    · have HE := Lib.hid (show k = xss.length by omega)
      go_wp2
      go_ret
      refine ⟨ret_int ?_, lr⟩
      have h0 := HM.out
      rw [HE.out, List.take_length, HN.out] at h0
      omega

end Go.Proofs.Ytiaepapdofcnjaa

namespace Go.Proofs.Ytiaepapdofcnjaa
open Go.RowKit

theorem u_wmL (T lo hi : Nat) (v : Value) (xs : List Ltr) (k0 : Nat) (w : World) (hv : seg T lo hi w v xs) (hk0 : k0 ≤ 274877906944) (hs : szL xs ≤ 1048576) :
    Calls Try.prog 24 #[v, .int .i64 k0] w fun e w' => e = .returned (.int .i64 ((k0 + 2 * xs.length : Nat) : Int)) ∧ OutI lo hi w w' := by
  refine (laws_markLetterS T lo _ xs k0 _ hv.1 hk0 (by unfold szL at hs; omega)).mono ?_
  rintro e w1 ⟨rfl, o1, gr⟩
  exact ⟨rfl, OutI.of_grown gr fun j hj => ⟨(hv.1.blk j hj).1, hv.2 j hj⟩⟩

set_option maxHeartbeats 800000 in
theorem u_wmM (T lo hi : Nat) (v : Value) (xs : List Mis) (k0 : Nat) (w : World) (hv : seg T lo hi w v xs) (hk0 : k0 ≤ 274877906944) (hs : szM xs ≤ 1048576) :
    Calls Try.prog 34 #[v, .int .i64 k0] w fun e w' => e = .returned (.int .i64 ((k0 + 2 * xs.length : Nat) : Int)) ∧ OutI lo hi w w' := by
  obtain ⟨hv, hhi⟩ := hv
  have hl : xs.length ≤ 1048576 := by unfold szM at hs; omega
  clear hs
  rcases hv.form with ⟨rfl, rfl⟩ | ⟨g, c, rfl, hg, hgl, hc, hm⟩
  · go_enter Try.func34, Try.ntmps34
    go_wp2
    go_loopw [1, 5] (fun t i wr => i = .int .i64 0 ∧ t = .int .i64 k0 ∧ wr = w) (fun _ _ _ => 0)
    case atStart => exact ⟨rfl, rfl, rfl⟩
    case round =>
      obtain ⟨rfl, rfl, rfl⟩ := hrel
      go_wp2
      go_ret
      exact ⟨ret_int (by simp), OutI.refl _ _ _⟩
  · unfold maxLen at hm
    have HV := Lib.hid hv; clear hv
    have HGR : Hid (∀ wr, w.grownBy wr (some g) → OutI lo hi w wr) := fun wr h => OutI.of_grown h fun j hj => by
      injection hj with hj
      subst hj
      exact ⟨hg, hhi g rfl⟩
    clear hhi
    go_enter Try.func34, Try.ntmps34
    go_wp2
    go_loopw [1, 5] (fun t i wr => ∃ (k m : Nat) (ys : List Mis), k ≤ xs.length ∧ i = .int .i64 k ∧ t = .int .i64 m ∧ Hid (m = k0 + 2 * k) ∧ w.grownBy wr (some g) ∧ Hid (ys.length = xs.length) ∧ own T lo wr (.slice (some ⟨g, 0, none⟩) xs.length c) ys) (fun _ i _ => xs.length - (intOf i).toNat)
    case atStart => exact ⟨0, k0, xs, Nat.zero_le _, rfl, rfl, rfl, World.grownBy.refl _ _, rfl, HV.out⟩
    case round =>
      obtain ⟨k, m, ys, hk, rfl, rfl, HM, hgr, HLEN, ho⟩ := hrel
      obtain ⟨w1, rfl⟩ : ∃ w1 : World, w1 = wr := ⟨_, rfl⟩
      have hmb : (m : Int) ≤ 824633720832 := by have := HM.out; omega
      by_cases hlt : k < xs.length
      · have hlt' : k < ys.length := by rw [HLEN.out]; exact hlt
        have ho1 := ho.setCell (k := k) (j := 0) hlt' (by decide) (.int .i64 m) ⟨m, ys[k].bin⟩ (fun ecs he => by
          obtain ⟨⟨h1, h2⟩, rfl⟩ := he
          exact ⟨⟨⟨by show _ ≤ (m : Int); omega, by show (m : Int) ≤ _; omega⟩, h2⟩, rfl⟩)
        obtain ⟨u0, g0⟩ := ho.cellAt (j := k * 2) (by show _ < _ * 2; omega)
        have f0 := ho.freeAt (k * 2)
        have hlt2 : k < (ys.set k ⟨m, ys[k].bin⟩).length := by simpa using hlt'
        have ho3 := ho1.setCell (k := k) (j := 1) hlt2 (by decide) (.int .i64 ((m : Int) + 1)) ⟨m, (m : Int) + 1⟩ (fun ecs he => by
          obtain ⟨⟨h1, h2⟩, rfl⟩ := he
          refine ⟨⟨?_, ⟨by show _ ≤ (m : Int) + 1; omega, by show (m : Int) + 1 ≤ _; omega⟩⟩, ?_⟩
          · simpa using h1
          · simp [Mis.cells])
        obtain ⟨u1, g1⟩ := ho.cellAt (j := k * 2 + 1) (by show _ < _ * 2; omega)
        have f1 := ho.freeAt (k * 2 + 1)
        have HO3 := Lib.hid ho3; clear ho3 ho1 ho
        have hgr1 : w.grownBy (w1.setCell ⟨g, k * 2, none⟩ (.int .i64 m)) (some g) := grown_setCell hgr (.inl rfl) _
        have HG3 : Hid (w.grownBy ((w1.setCell ⟨g, k * 2, none⟩ (.int .i64 m)).setCell ⟨g, k * 2 + 1, none⟩ (.int .i64 ((m : Int) + 1))) (some g)) := grown_setCell hgr1 (.inl rfl) _
        clear hgr hgr1
        go_wp2
        go_roundw
        case rel => exact ⟨k + 1, m + 2, _, by omega, by go_num, by go_num, by show _ = _; have := HM.out; omega, HG3.out, by show _ = _; rw [List.length_set, List.length_set]; exact HLEN.out, HO3.out⟩
        case measure => simp [intOf]; omega
      · have HE := Lib.hid (show k = xs.length by omega)
        have HO := Lib.hid ho; clear ho
        go_wp2
        go_ret
        exact ⟨ret_int (by have := HM.out; have := HE.out; omega), HGR.out _ hgr⟩

end Go.Proofs.Ytiaepapdofcnjaa

namespace Go.Proofs.Ytiaepapdofcnjaa
open Go.RowKit

/-! ### Plain facts -/
def findI (b : List Ltr) (n : Int) : Int := if okB b then fiI (fun x => x.id == n) b else -1
def missT (b a : List Ltr) : List Int := (a.filter fun x => decide (findI b x.id < 0)).map Ltr.id
theorem missT_hit {b a : List Ltr} {k : Nat} (h : k < a.length) (hf : findI b a[k].id < 0) : missT b (a.take (k + 1)) = missT b (a.take k) ++ [a[k].id] := by
  unfold missT; rw [List.take_succ_eq_append_getElem h, List.filter_append, List.map_append]; simp [hf]
theorem missT_skip {b a : List Ltr} {k : Nat} (h : k < a.length) (hf : ¬ findI b a[k].id < 0) : missT b (a.take (k + 1)) = missT b (a.take k) := by
  unfold missT; rw [List.take_succ_eq_append_getElem h, List.filter_append, List.map_append]
  rw [List.filter_cons_of_neg (by simpa using hf)]; simp
theorem missT_len (b a : List Ltr) : (missT b a).length ≤ a.length := by
  unfold missT; rw [List.length_map]; exact List.length_filter_le _ _
/-- A number put into an ascending list. -/
def insI : List Int → Int → List Int
  | [], n => [n]
  | x :: l, n => if n < x then n :: x :: l else x :: insI l n
theorem insI_none {l : List Int} {n : Int} (h : l.any (fun x => decide (n < x)) = false) : insI l n = l ++ [n] := by
  induction l with
  | nil => rfl
  | cons x l ih =>
    simp only [List.any_cons, Bool.or_eq_false_iff, decide_eq_false_iff_not] at h
    show (if n < x then n :: x :: l else x :: insI l n) = _
    rw [if_neg h.1, ih h.2]; rfl
theorem insI_done {l : List Int} {n : Int} (y : Int) (h : l.any (fun x => decide (n < x)) = true) : insI (l ++ [y]) n = insI l n ++ [y] := by
  induction l with
  | nil => simp at h
  | cons x l ih =>
    show (if n < x then n :: x :: (l ++ [y]) else x :: insI (l ++ [y]) n) = (if n < x then n :: x :: l else x :: insI l n) ++ [y]
    by_cases hx : n < x
    · rw [if_pos hx, if_pos hx]; rfl
    · rw [if_neg hx, if_neg hx, ih (by simpa [hx] using h)]; rfl
theorem insI_hit {l : List Int} {n y : Int} (h : l.any (fun x => decide (n < x)) = false) (hy : n < y) : insI (l ++ [y]) n = l ++ [n] ++ [y] := by
  induction l with
  | nil => show (if n < y then [n, y] else _) = _; rw [if_pos hy]; rfl
  | cons x l ih =>
    simp only [List.any_cons, Bool.or_eq_false_iff, decide_eq_false_iff_not] at h
    show (if n < x then n :: x :: (l ++ [y]) else x :: insI (l ++ [y]) n) = _
    rw [if_neg h.1, ih h.2]; rfl
theorem insI_perm (l : List Int) (n : Int) : (insI l n).Perm (l ++ [n]) := by
  induction l with
  | nil => exact List.Perm.refl _
  | cons x l ih =>
    show (if n < x then n :: x :: l else x :: insI l n).Perm _
    split
    · exact (List.perm_append_comm (l₁ := [n]) (l₂ := x :: l))
    · exact ih.cons x
theorem insI_sorted {l : List Int} (n : Int) (h : l.Pairwise (· ≤ ·)) : (insI l n).Pairwise (· ≤ ·) := by
  induction l with
  | nil => exact List.pairwise_singleton _ _
  | cons x l ih =>
    rw [List.pairwise_cons] at h
    show (if n < x then n :: x :: l else x :: insI l n).Pairwise _
    split
    · rename_i hn
      rw [List.pairwise_cons, List.pairwise_cons]
      exact ⟨fun z hz => by
        rcases List.mem_cons.1 hz with h' | h'
        · omega
        · have := h.1 z h'; omega, h.1, h.2⟩
    · rename_i hn
      rw [List.pairwise_cons]
      exact ⟨fun z hz => by
        rcases List.mem_append.1 ((insI_perm l n).mem_iff.1 hz) with h' | h'
        · exact h.1 z h'
        · simp at h'; omega, ih h.2⟩
def sortI (xs : List Int) : List Int := xs.mergeSort fun x y => decide (x ≤ y)
theorem foldl_ins (xs : List Int) : ∀ acc : List Int, acc.Pairwise (· ≤ ·) → (xs.foldl insI acc).Pairwise (· ≤ ·) ∧ (xs.foldl insI acc).Perm (acc ++ xs) := by
  induction xs with
  | nil => intro acc h; exact ⟨h, by simp⟩
  | cons x xs ih =>
    intro acc h
    obtain ⟨h1, h2⟩ := ih (insI acc x) (insI_sorted x h)
    refine ⟨h1, h2.trans ?_⟩
    have := (insI_perm acc x).append_right xs
    simpa using this
theorem foldl_sort (xs : List Int) : xs.foldl insI [] = sortI xs := by
  obtain ⟨h1, h2⟩ := foldl_ins xs [] List.Pairwise.nil
  have h3 := List.pairwise_mergeSort (le := fun x y : Int => decide (x ≤ y)) (fun a b c => by simp only [decide_eq_true_iff]; omega) (fun a b => by simp only [Bool.or_eq_true, decide_eq_true_iff]; omega) xs
  refine List.Perm.eq_of_pairwise (le := (· ≤ ·)) (fun a b _ _ h h' => by omega) h1 (h3.imp fun h => by simpa using h) ?_
  exact (by simpa using h2 : (xs.foldl insI []).Perm xs).trans (List.mergeSort_perm xs _).symm
def missOk (a b : List Ltr) : Bool := okB a && okB b
def missR (a b : List Ltr) : List Int := if missOk a b then sortI (missT b a) else []
theorem missR_len (a b : List Ltr) : (missR a b).length ≤ 60 := by
  unfold missR
  split
  · rename_i h
    unfold missOk at h
    rw [Bool.and_eq_true] at h
    unfold sortI
    rw [List.length_mergeSort]
    exact Nat.le_trans (missT_len _ _) (okB_iff.1 h.1).1
  · simp

/-! ### FindLetter -/
theorem impl_FindLetter (v : Value) (b : List Ltr) (n : Int) (w : World) (hv : rd w w.heap.size v b) :
    Calls Try.prog 123 #[v, .int .i64 n] w fun e w' => e = .returned (.int .i64 (findI b n)) ∧ Below w.heap.size w w' := by
  have HV := Lib.hid hv
  obtain ⟨A, m, c, rfl, hm, hc, hmx, hr⟩ := hv
  subst hm
  unfold maxLen at hmx
  have HR := Lib.hid hr; clear hr
  go_enter Try.func123, Try.ntmps123
  go_wp2_with fail
  refine (impl_BatchValid _ b _ HV.out).mono ?_
  rintro e w1 ⟨rfl, b1⟩
  have l1 := later_trans (Below.refl w.heap.size w) b1
  clear b1
  cases h1 : okB b
  · have HF : Hid (findI b n = -1) := by show _ = _; unfold findI; rw [h1]; rfl
    clear h1
    go_wp2_with fail
    go_ret
    exact ⟨ret_int HF.out.symm, l1⟩
  have HF : Hid (findI b n = fiI (fun x => x.id == n) b) := by show _ = _; unfold findI; rw [if_pos h1]
  clear h1
  go_wp2_with fail
  go_loopw [12] (fun i wr => ∃ k : Nat, k ≤ b.length ∧ i = .int .i64 k ∧ Below w.heap.size w wr ∧ Hid (∀ j (hj : j < b.length), j < k → (b[j].id == n) = false)) (fun i _ => b.length - (intOf i).toNat)
  case atStart => exact ⟨0, Nat.zero_le _, rfl, l1, fun j _ h => absurd h (Nat.not_lt_zero j)⟩
  case round =>
    obtain ⟨k, hk, rfl, lr, HG⟩ := hrel
    obtain ⟨w3, rfl⟩ : ∃ w3 : World, w3 = wr := ⟨_, rfl⟩
    clear l1
    by_cases hlt : k < b.length
    · obtain ⟨bb, o, rfl, hb, ⟨hxi, hxc⟩, c1, c2⟩ := HR.out.ltrU k hlt
      have HY : Hid (∀ h : (b[k].id == n) = true, findI b n = k) := fun h => by rw [HF.out]; exact fiI_at hlt HG.out h
      have HN : Hid (∀ h : (b[k].id == n) = false, ∀ j (hj : j < b.length), j < k + 1 → (b[j].id == n) = false) := fun h j hj hjk => by
        by_cases he : j = k
        · subst he; exact h
        · exact HG.out j hj (by omega)
      generalize b[k] = x at *
      have hki : (k : Int) < (b.length : Int) := by omega
      cases hx : (x.id == n)
      · have HN2 := Lib.hid (HN.out hx)
        go_wp2_with fail
        go_roundw
        case rel => exact ⟨k + 1, by omega, by go_num, later_alloc lr _, HN2.out⟩
        case measure => simp [intOf]; omega
      · have HY2 := Lib.hid (HY.out hx)
        go_wp2_with fail
        go_ret
        exact ⟨ret_int HY2.out.symm, later_alloc lr _⟩
    · have HE : Hid (findI b n = -1) := by show _ = _; rw [HF.out]; exact fiI_none fun j hj => HG.out j hj (by omega)
      go_wp2_with fail
      go_ret
      exact ⟨ret_int HE.out.symm, lr⟩

theorem spec_FindLetter (v : Value) (b : List Ltr) (n : Int) (w : World) (hv : rd w w.heap.size v b) :
    Calls Try.prog 121 #[v, .int .i64 n] w fun e w' => e = .returned (.int .i64 (findI b n)) ∧ Below w.heap.size w w' := by
  have HV := Lib.hid hv
  obtain ⟨A, m, c, rfl, hm, hc, hmx, hr⟩ := hv
  subst hm
  unfold maxLen at hmx
  have HR := Lib.hid hr; clear hr
  have HFN : Hid (∀ h : okB b = false, findI b n = -1) := fun h => by unfold findI; rw [h]; rfl
  have HFY : Hid (∀ h : okB b = true, findI b n = fiI (fun x => x.id == n) b) := fun h => by unfold findI; rw [if_pos h]
  have l1 := Below.refl w.heap.size w
  go_enter Try.func121, Try.ntmps121
  go_wp2_with fail
  go_loopw [5] (fun i wr => ∃ k : Nat, k ≤ b.length ∧ i = .int .i64 k ∧ Below w.heap.size w wr ∧ Hid (∀ j (hj : j < b.length), j < k → (b[j].id == n) = false)) (fun i _ => b.length - (intOf i).toNat)
  case atStart => exact ⟨0, Nat.zero_le _, rfl, l1, fun j _ h => absurd h (Nat.not_lt_zero j)⟩
  case round =>
    obtain ⟨k, hk, rfl, lr, HG⟩ := hrel
    obtain ⟨w3, rfl⟩ : ∃ w3 : World, w3 = wr := ⟨_, rfl⟩
    clear l1
    by_cases hlt : k < b.length
    · obtain ⟨bb, o, rfl, hb, ⟨hxi, hxc⟩, c1, c2⟩ := HR.out.ltrU k hlt
      have HY : Hid (∀ h : (b[k].id == n) = true, okB b = true → findI b n = k) := fun h h' => by rw [HFY.out h']; exact fiI_at hlt HG.out h
      have HN : Hid (∀ h : (b[k].id == n) = false, ∀ j (hj : j < b.length), j < k + 1 → (b[j].id == n) = false) := fun h j hj hjk => by
        by_cases he : j = k
        · subst he; exact h
        · exact HG.out j hj (by omega)
      generalize b[k] = x at *
      have hki : (k : Int) < (b.length : Int) := by omega
      go_wp2_with fail
      refine (spec_BatchValid _ b _ (HV.out.on lr)).mono ?_
      rintro e w4 ⟨rfl, b4⟩
      have l4 := later_trans lr b4
      clear b4
      cases h1 : okB b
      · have HF := Lib.hid (HFN.out h1)
        clear h1
        go_wp2_with fail
        go_ret
        exact ⟨ret_int HF.out.symm, l4⟩
      have HY1 : Hid (∀ h : (x.id == n) = true, findI b n = k) := fun h => HY.out h h1
      clear h1
      cases hx : (x.id == n)
      · have HN2 := Lib.hid (HN.out hx)
        go_wp2_with fail
        go_roundw
        case rel => exact ⟨k + 1, by omega, by go_num, l4, HN2.out⟩
        case measure => simp [intOf]; omega
      · have HY2 := Lib.hid (HY1.out hx)
        go_wp2_with fail
        go_ret
        exact ⟨ret_int HY2.out.symm, l4⟩
    · have HE : Hid (findI b n = -1) := by
        show _ = _
        cases h : okB b
        · exact HFN.out h
        · rw [HFY.out h]; exact fiI_none fun j hj => HG.out j hj (by omega)
      have hki : ¬ ((k : Int) < (b.length : Int)) := by omega
      go_wp2_with fail
      go_ret
      exact ⟨ret_int HE.out.symm, lr⟩

end Go.Proofs.Ytiaepapdofcnjaa
