/- NK NF -/
import Derived.Test.YtmangjjaijhcnaaQ13
import Derived.Test.YtmangjjaijhcnaaQ12
import Derived.Test.YtmangjjaijhcnaaQ18
namespace Go.Proofs.Ytmangjjaijhcnaa
open Go.RowKit

set_option maxHeartbeats 800000 in
theorem w_markRuleS (T base : Nat) (v : Value) (xs : List Fwd) (k0 : Nat) (w : World) (hv : own T base w v xs) (hk0 : k0 ≤ 274877906944) (hl : xs.length ≤ 1048576) :
    Calls Try.prog 81 #[v, .int .i64 k0] w fun e w' => e = .returned (.int .i64 ((k0 + 2 * xs.length : Nat) : Int)) ∧ w.grownBy w' v.ownBlock := by
  rcases hv.form with ⟨rfl, rfl⟩ | ⟨g, c, rfl, hg, hgl, hc, hm⟩
  · go_enter Try.func81, Try.ntmps81
    go_wp2
    go_loopw [1, 5] (fun t i wr => i = .int .i64 0 ∧ t = .int .i64 k0 ∧ wr = w) (fun _ _ _ => 0)
    case atStart => exact ⟨rfl, rfl, rfl⟩
    case round =>
      obtain ⟨rfl, rfl, rfl⟩ := hrel
      go_wp2
      go_ret
      exact ⟨ret_int (by simp), World.grownBy.refl _ _⟩
  · unfold maxLen at hm
    have HV := Lib.hid hv; clear hv
    go_enter Try.func81, Try.ntmps81
    go_wp2
    go_loopw [1, 5] (fun t i wr => ∃ (k m : Nat) (ys : List Fwd), k ≤ xs.length ∧ i = .int .i64 k ∧ t = .int .i64 m ∧ Hid (m = k0 + 2 * k) ∧ w.grownBy wr (some g) ∧ Hid (ys.length = xs.length) ∧ own T base wr (.slice (some ⟨g, 0, none⟩) xs.length c) ys) (fun _ i _ => xs.length - (intOf i).toNat)
    case atStart => exact ⟨0, k0, xs, Nat.zero_le _, rfl, rfl, rfl, World.grownBy.refl _ _, rfl, HV.out⟩
    case round =>
      obtain ⟨k, m, ys, hk, rfl, rfl, HM, hgr, HLEN, ho⟩ := hrel
      obtain ⟨w1, rfl⟩ : ∃ w1 : World, w1 = wr := ⟨_, rfl⟩
      have hmb : (m : Int) ≤ 824633720832 := by have := HM.out; omega
      by_cases hlt : k < xs.length
      · have hlt' : k < ys.length := by rw [HLEN.out]; exact hlt
        have HO := Lib.hid ho; clear ho
        have hki : (k : Int) < (xs.length : Int) := by omega
        go_wp2_with fail
        refine (laws_markText m _ (by omega)).mono ?_
        rintro e w2 ⟨rfl, b2⟩
        have hgr2 : w.grownBy w2 (some g) := grown_below hgr b2
        have ho2 := HO.out.below b2
        obtain ⟨u0, g0⟩ := ho2.cellAt (j := k * 2) (by show _ < _ * 2; omega)
        have f0 := ho2.freeAt (k * 2)
        have ho3 := ho2.setCell (k := k) (j := 0) hlt' (by decide) (.string (markB m)) ⟨markB m, ys[k].dst⟩ (fun ecs he => by
          obtain ⟨⟨h1, h2⟩, rfl⟩ := he
          exact ⟨⟨markB_size m (by omega), h2⟩, rfl⟩)
        have HO3 := Lib.hid ho3; clear ho3 ho2 b2
        have hgr3 : w.grownBy (w2.setCell ⟨g, k * 2, none⟩ (.string (markB m))) (some g) := grown_setCell hgr2 (.inl rfl) _
        go_wp2_with fail
        clear g0 f0
        refine (laws_markText (m + 1) _ (by omega)).mono ?_
        rintro e w4 ⟨rfl, b4⟩
        have hgr4 : w.grownBy w4 (some g) := grown_below hgr3 b4
        have ho4 := HO3.out.below b4
        have hlt2 : k < (ys.set k ⟨markB m, ys[k].dst⟩).length := by simpa using hlt'
        obtain ⟨u1, g1⟩ := ho4.cellAt (j := k * 2 + 1) (by show _ < _ * 2; rw [List.length_set]; omega)
        have f1 := ho4.freeAt (k * 2 + 1)
        have ho5 := ho4.setCell (k := k) (j := 1) hlt2 (by decide) (.string (markB (m + 1))) ⟨markB m, markB (m + 1)⟩ (fun ecs he => by
          obtain ⟨⟨h1, h2⟩, rfl⟩ := he
          refine ⟨⟨?_, markB_size (m + 1) (by omega)⟩, ?_⟩
          · simpa using h1
          · simp [Fwd.cells])
        have HO5 := Lib.hid ho5; clear ho5 ho4 b4
        have HG5 : Hid (w.grownBy (w4.setCell ⟨g, k * 2 + 1, none⟩ (.string (markB (m + 1)))) (some g)) := grown_setCell hgr4 (.inl rfl) _
        clear hgr hgr2 hgr3 hgr4
        go_wp2_with fail
        go_roundw
        case rel => exact ⟨k + 1, m + 2, _, by omega, by go_num, by go_num, by show _ = _; have := HM.out; omega, HG5.out, by show _ = _; rw [List.length_set, List.length_set]; exact HLEN.out, HO5.out⟩
        case measure => simp [intOf]; omega
      · have HE := Lib.hid (show k = xs.length by omega)
        have HO := Lib.hid ho; clear ho
        go_wp2
        go_ret
        exact ⟨ret_int (by have := HM.out; have := HE.out; omega), hgr⟩

/-- A network of the call's own, in blocks before hi. -/
def segN (T1 T2 lo hi : Nat) (w : World) (v : Value) (net : List Ofc) : Prop := ∃ os, isN T1 T2 lo w v net os ∧ (∀ k, v.ownBlock = some k → k < hi) ∧ ∀ i (h : i < os.length) k, os[i].val.ownBlock = some k → k < hi
theorem segN.of {T1 T2 lo : Nat} {w : World} {v : Value} {net : List Ofc} (h : ownN T1 T2 lo w v net) : segN T1 T2 lo w.heap.size w v net := by
  obtain ⟨os, h⟩ := h
  exact ⟨os, h, fun k hk => (h.1.blk k hk).2, fun i hi k hk => ((h.2.2.1 i hi (by have := h.2.1; omega)).2.blk k hk).2⟩
theorem segN.below {T1 T2 lo hi : Nat} {w w' : World} {v : Value} {net : List Ofc} (h : segN T1 T2 lo hi w v net) (hb : Below w.heap.size w w') : segN T1 T2 lo hi w' v net := by
  obtain ⟨os, h1, h2, h3⟩ := h
  exact ⟨os, h1.below hb, h2, h3⟩
theorem segN.out {T1 T2 lo hi a b : Nat} {w w' : World} {v : Value} {net : List Ofc} (h : segN T1 T2 lo hi w v net) (ho : OutI a b w w') (hd : hi ≤ a ∨ b ≤ lo) : segN T1 T2 lo hi w' v net := by
  obtain ⟨os, ⟨g1, g2, g3, g4, g5⟩, h2, h3⟩ := h
  refine ⟨os, ⟨g1.keepBlk fun k hk => ho.block k (g1.blk k hk).2 (by have q1 := (g1.blk k hk).1; have q2 := h2 k hk; omega), g2, fun i hi hi' => ⟨(g3 i hi hi').1, ?_⟩, g4, g5⟩, h2, h3⟩
  exact (g3 i hi hi').2.keepBlk fun k hk => ho.block k ((g3 i hi hi').2.blk k hk).2 (by have q1 := ((g3 i hi hi').2.blk k hk).1; have q2 := h3 i hi k hk; omega)
theorem segN.rd {T1 T2 lo hi : Nat} {w : World} {v : Value} {net : List Ofc} (h : segN T1 T2 lo hi w v net) : rd w w.heap.size v net := by
  obtain ⟨os, h1, _⟩ := h
  exact h1.rd
def mkN (net : List Ofc) : Nat := (net.map fun o => 1 + 2 * o.rules.length).sum
theorem mkN_succ (net : List Ofc) {k : Nat} (h : k < net.length) : mkN (net.take (k + 1)) = mkN (net.take k) + 1 + 2 * net[k].rules.length := by
  unfold mkN; rw [List.take_succ_eq_append_getElem h, List.map_append, List.sum_append]; simp; omega
theorem mkN_take (net : List Ofc) (k : Nat) : mkN (net.take k) ≤ mkN net := by
  have h : mkN net = mkN (net.take k) + mkN (net.drop k) := by
    have := congrArg mkN (List.take_append_drop k net)
    rw [← this]
    unfold mkN
    rw [List.map_append, List.sum_append]
  omega
theorem mkN_le (net : List Ofc) : mkN net ≤ 2 * szN net := by
  induction net with
  | nil => simp [mkN]
  | cons o net ih =>
    unfold mkN szN sumO szO at *
    simp only [List.map_cons, List.sum_cons, List.length_cons]
    omega

set_option maxRecDepth 100000 in
set_option maxHeartbeats 1600000 in
theorem u_wmN (T1 T2 lo hi : Nat) (v : Value) (net : List Ofc) (k0 : Nat) (w : World) (hv : segN T1 T2 lo hi w v net) (hk0 : k0 ≤ 1099511627) (hs : szN net ≤ 1048576) :
    Calls Try.prog 34 #[v, .int .i64 k0] w fun e w' => e = .returned (.int .i64 ((k0 + mkN net : Nat) : Int)) ∧ OutI lo hi w w' := by
  have hfl := Nat.le_trans (mkN_le net) (Nat.mul_le_mul_left 2 hs)
  obtain ⟨os, hB, hhi, hvh⟩ := hv
  rcases hB.form with ⟨rfl, rfl⟩ | ⟨g, c, rfl, hg, hgl, hc, hm⟩
  · go_enter Try.func34, Try.ntmps34
    go_wp2
    go_loopw [1, 5] (fun t i wr => i = .int .i64 0 ∧ t = .int .i64 k0 ∧ wr = w) (fun _ _ _ => 0)
    case atStart => exact ⟨rfl, rfl, rfl⟩
    case round =>
      obtain ⟨rfl, rfl, rfl⟩ := hrel
      go_wp2
      go_ret
      exact ⟨ret_int (by simp [mkN]), OutI.refl _ _ _⟩
  unfold maxLen at hm
  have HVH := Lib.hid hvh; clear hvh
  have HB := Lib.hid hB; clear hB
  have hn20 : net.length ≤ 1048576 := by unfold szN at hs; omega
  have HRL : Hid (∀ k (h : k < net.length), net[k].rules.length ≤ 1048576) := fun k h => by have := Nat.le_trans (ofc_le_szN h) hs; unfold szO at this; omega
  obtain ⟨N, hN⟩ : ∃ N, mkN net = N := ⟨_, rfl⟩
  have HN := Lib.hid hN
  rw [hN] at hfl
  have hVN := HB.out.2.1
  have HVN := Lib.hid hVN; clear hVN hN hs
  have HGF := Lib.hid (hhi g rfl); clear hhi
  have hgNe : Hid (∀ i (h : i < os.length), os[i].val.ownBlock = none ∨ os[i].val.ownBlock ≠ some g) := fun i h => HB.out.2.2.2.2 i h
  have HN' : Hid ((k0 : Nat) + mkN net = k0 + N) := by show _ = _; rw [HN.out]
  rw [HN'.out]
  go_enter Try.func34, Try.ntmps34
  go_wp2
  go_loopw [1, 5] (fun t i wr => ∃ (k m : Nat) (us : List OfV), k ≤ net.length ∧ i = .int .i64 k ∧ t = .int .i64 m ∧ Hid (m = k0 + mkN (net.take k)) ∧ OutI lo hi w wr ∧ own T1 lo wr (.slice (some ⟨g, 0, none⟩) net.length c) us ∧ Hid (us.length = net.length) ∧ Hid (∀ i (h : i < us.length) (h' : i < os.length), us[i].val = os[i].val) ∧ Hid (∀ i (h : i < os.length) (h' : i < net.length), k ≤ i → own T2 lo wr os[i].val net[i].rules)) (fun _ i _ => net.length - (intOf i).toNat)
  case atStart => exact ⟨0, k0, os, Nat.zero_le _, rfl, rfl, by show _ = _; simp [mkN], OutI.refl _ _ _, HB.out.1, HB.out.2.1, fun i h h' => rfl, fun i h h' _ => (HB.out.2.2.1 i h h').2⟩
  case round =>
    obtain ⟨k, m, us, hk, rfl, rfl, HM, hO, hV, HUL, HUV, HI⟩ := hrel
    obtain ⟨w1, rfl⟩ : ∃ w1 : World, w1 = wr := ⟨_, rfl⟩
    have HO := Lib.hid hO; have HV := Lib.hid hV
    clear hO hV
    by_cases hlt : k < net.length
    · have hlv : k < os.length := by rw [HVN.out]; exact hlt
      have hlu : k < us.length := by rw [HUL.out]; exact hlt
      have HROW := Lib.hid (HI.out k hlv hlt (Nat.le_refl _))
      have HS := Lib.hid (mkN_succ net hlt)
      have HTK : Hid (mkN (net.take (k + 1)) ≤ N) := by show _ ≤ _; rw [← HN.out]; exact mkN_take _ _
      have hlen := HRL.out k hlt
      have hm1 : m ≤ 200000000000 := by have h0 := HM.out; have h1 := HS.out; have h2 := HTK.out; omega
      obtain ⟨ys, hys⟩ : ∃ ys, ys = net[k].rules := ⟨_, rfl⟩
      have HYS := Lib.hid hys
      rw [← hys] at hlen
      replace HROW : Hid (own T2 lo w1 os[k].val ys) := by show own _ _ _ _ _; rw [hys]; exact HROW.out
      clear hys
      obtain ⟨u, hu⟩ : ∃ u, u = os[k].val := ⟨_, rfl⟩
      have HUK := Lib.hid hu
      replace HROW : Hid (own T2 lo w1 u ys) := by show own _ _ _ _ _; rw [hu]; exact HROW.out
      have HUU : Hid (us[k].val = u) := by show _ = _; rw [hu]; exact HUV.out k hlu hlv
      clear hu
      obtain ⟨A2, m2, c2, hu2, hm2, _, _, _⟩ := HROW.out.rd
      subst hm2 hu2
      have hki : (k : Int) < (net.length : Int) := by omega
      go_wp2_with fail
      refine (laws_markText m _ (by omega)).mono ?_
      rintro e w2 ⟨rfl, b2⟩
      have ho2 := HV.out.below b2
      obtain ⟨u0, g0⟩ := ho2.cellAt (j := k * 2) (by show _ < _ * 2; omega)
      have f0 := ho2.freeAt (k * 2)
      have HOX := Lib.hid (ho2.setCell (k := k) (j := 0) hlu (by decide) (.string (markB m)) ⟨markB m, us[k].val⟩ (fun ecs he => by
        obtain ⟨rfl, h1, h2⟩ := he
        exact ⟨rfl, markB_size m (by omega), h2⟩))
      have HR2 := Lib.hid (((HROW.out.below b2).grown (grown_setCell (p := ⟨g, k * 2, none⟩) (World.grownBy.refl w2 (some g)) (.inl rfl) (.string (markB m)))) (by
        have := hgNe.out k hlv
        rw [← HUK.out] at this
        exact this))
      have HBG : Hid (w1.grownBy (w2.setCell ⟨g, k * 2, none⟩ (.string (markB m))) (some g)) := grown_setCell (grown_below (World.grownBy.refl w1 (some g)) b2) (.inl rfl) _
      have hc1 : (w2.setCell ⟨g, k * 2, none⟩ (.string (markB m))).cell? ⟨g, k * 2 + 1, none⟩ = some (.slice A2 ys.length c2) := by
        have h1 := (own_ofv HOX.out k (by rw [List.length_set]; exact hlu)).2.2
        rw [List.getElem_set_self] at h1
        rw [show k * El.size OfV + 0 = k * 2 from rfl] at h1
        rw [h1]
        show some us[k].val = _
        rw [HUU.out]
      have HW3 := Lib.hid hc1
      clear ho2 b2
      have hmb0 : (m : Int) + 1 ≤ 824633720832 := by omega
      go_wp2_with fail
      clear hc1 g0 f0
      obtain ⟨w3, hw3⟩ : ∃ w3, w3 = w2.setCell ⟨g, k * 2, none⟩ (.string (markB m)) := ⟨_, rfl⟩
      have HX3 := Lib.hid hw3
      rw [← hw3] at HR2 HBG ⊢
      have HOX' : Hid (own T1 lo w3 (.slice (some ⟨g, 0, none⟩) net.length c) (us.set k ⟨markB m, us[k].val⟩)) := by
        show own _ _ _ _ _; rw [hw3]; exact HOX.out
      clear hw3 HOX HW3
      refine (w_markRuleS T2 lo _ ys (m + 1) _ HR2.out (by omega) hlen).mono ?_
      rintro e w4 ⟨rfl, g2⟩
      have HO2 := Lib.hid ((HO.out.trans (OutI.of_grown (lo := lo) (hi := hi) HBG.out fun j hj => by
        injection hj with hj
        subst hj
        exact ⟨hg, HGF.out⟩)).trans (OutI.of_grown (lo := lo) (hi := hi) g2 fun j hj => ⟨(HR2.out.blk j hj).1, HVH.out k hlv j (by rw [← HUK.out]; exact hj)⟩))
      have HV2 := Lib.hid (HOX'.out.grown g2 (.inr (by
        have := hgNe.out k hlv
        rw [← HUK.out] at this
        rcases this with h | h
        · rw [h]; show some g ≠ none; simp
        · exact fun e => h e.symm)))
      have HI2 : Hid (∀ i (h : i < os.length) (h' : i < net.length), k + 1 ≤ i → own T2 lo w4 os[i].val net[i].rules) := fun i h h' hi =>
        ((HI.out i h h' (by omega)).grown HBG.out (hgNe.out i h)).grown g2 (by
          have := HB.out.2.2.2.1 i k h hlv (by omega)
          unfold apart at this
          rw [HUK.out]
          exact this)
      have HUV2 : Hid (∀ i (h : i < (us.set k ⟨markB m, us[k].val⟩).length) (h' : i < os.length), (us.set k ⟨markB m, us[k].val⟩)[i].val = os[i].val) := fun i h h' => by
        rw [List.getElem_set]
        split
        · rename_i e; subst e; exact HUV.out _ hlu h'
        · exact HUV.out i (by simpa using h) h'
      have HUL2 : Hid ((us.set k ⟨markB m, us[k].val⟩).length = net.length) := by show _ = _; rw [List.length_set]; exact HUL.out
      clear g2
      have hmb : (m : Int) + 1 + 2 * (ys.length : Int) ≤ 824633720832 := by omega
      go_wp2_with fail
      go_roundw
      case rel =>
        refine ⟨k + 1, m + 1 + 2 * ys.length, _, by omega, by go_num, by go_num, ?_, HO2.out, HV2.out, HUL2.out, HUV2.out, HI2.out⟩
        show _ = _
        have h0 := HM.out; have h1 := HS.out; have h2 := congrArg List.length HYS.out
        omega
      case measure => simp [intOf]; omega
    · have HE := Lib.hid (show k = net.length by omega)
      go_wp2
      go_ret
      refine ⟨ret_int ?_, HO.out⟩
      have h0 := HM.out
      rw [HE.out, List.take_length, HN.out] at h0
      omega

theorem u_eqSS (v v' : Value) (xs : List ByteArray) (w : World) (hv : rd w w.heap.size v xs) (hv' : rd w w.heap.size v' xs) :
    Calls Try.prog 33 #[v, v'] w fun e w' => e = .returned (.bool true) ∧ Below w.heap.size w w' := by
  have := laws_eqStringS v v' xs xs w hv hv'
  rw [show eqBy sEq xs xs = true from (eqBy_iff fun x y => sEq_iff).2 rfl] at this
  exact this

set_option maxHeartbeats 800000 in
theorem laws_heldStringS (v : Value) (n k0 : Nat) (w : World) (hv : rd w w.heap.size v (marksS k0 n)) (hk0 : k0 ≤ 274877906944) (hl : n ≤ 1073741824) :
    Calls Try.prog 36 #[v, .int .i64 k0] w fun e w' => e = .returned (.int .i64 ((k0 + n : Nat) : Int)) ∧ Below w.heap.size w w' := by
  obtain ⟨A, n', c, rfl, hn, hc, hm, hr⟩ := hv
  rw [marksS_len] at hn
  subst hn
  unfold maxLen at hm
  have HR := Lib.hid hr; clear hr
  go_enter Try.func36, Try.ntmps36
  go_wp2
  go_loopw [1, 5] (fun t i wr => ∃ (k m : Nat), k ≤ n' ∧ i = .int .i64 k ∧ t = .int .i64 m ∧ Hid (m = k0 + k) ∧ Below w.heap.size w wr) (fun _ i _ => n' - (intOf i).toNat)
  case atStart => exact ⟨0, k0, Nat.zero_le _, rfl, rfl, rfl, Below.refl _ _⟩
  case round =>
    obtain ⟨k, m, hk, rfl, rfl, HM, hbl⟩ := hrel
    obtain ⟨w1, rfl⟩ : ∃ w1 : World, w1 = wr := ⟨_, rfl⟩
    have hmb : (m : Int) ≤ 824633720832 := by have := HM.out; omega
    by_cases hlt : k < n'
    · obtain ⟨b, o, rfl, hb, _, c1⟩ := HR.out.str k (by rw [marksS_len]; exact hlt)
      rw [marksS_get, ← HM.out] at c1
      have c1' : w1.cell? ⟨b, o + k, none⟩ = some (.string (markB m)) := (hbl.cell (p := ⟨b, o + k, none⟩) hb).trans c1
      clear c1
      have hmm : ((m : Int) != (m : Int)) = false := by simp
      have hbz := hbl.size
      have hkn : (k : Int) < (n' : Int) := by omega
      go_wp2
      go_region_held3 (fun w' => w'.cell? ⟨b, o + k, none⟩ = some (.string (markB m)))
        (first | go_keep | (exact (hb3.cell (p := ⟨b, o + k, none⟩) (by simp; omega)).trans (by go_simp)))
        (first | (go_at_call 80; refine (laws_markText m _ (by omega)).mono ?_; rintro e w2 ⟨rfl, hb3⟩))
      have hb4 : Below w.heap.size w w2 := hbl.trans ((Below.refl _ _).drew.trans (hb3.mono hbz))
      go_wp2
      go_roundw
      case rel => exact ⟨k + 1, m + 1, by omega, by go_num, by go_num, by show _ = _; have := HM.out; omega, hb4⟩
      case measure => simp [intOf]; omega
    · have HE := Lib.hid (show k = n' by omega)
      go_wp2
      go_ret
      exact ⟨ret_int (by have := HM.out; have := HE.out; omega), hbl⟩

end Go.Proofs.Ytmangjjaijhcnaa

namespace Go.Proofs.Ytmangjjaijhcnaa
open Go.RowKit

/-! ### Faulty prefixes -/
def code0 : ByteArray := ⟨#[48, 48, 48, 48, 48, 48, 48]⟩
def firstW (p : ByteArray) : ByteArray := p ++ code0.extract p.size 7
def longR (p : ByteArray) (r : Fwd) : Bool := decide (p.size < r.src.size) && pre r.src p
def longO (p : ByteArray) (o : Ofc) : Bool := o.rules.any (longR p)
def longN (net : List Ofc) (p : ByteArray) : Bool := net.any (longO p)
def dgB (d : Nat) : ByteArray := ⟨#[UInt8.ofNat (48 + d)]⟩
def dgt (p : ByteArray) (d : Nat) : ByteArray := p ++ dgB d
theorem dgt_size (p : ByteArray) (d : Nat) : (dgt p d).size = p.size + 1 := by
  unfold dgt; rw [ByteArray.size_append]; rfl
def oneIs (p : ByteArray) : List ByteArray → Bool
  | [q] => sEq q p
  | _ => false
theorem oneIs_len {p : ByteArray} {l : List ByteArray} (h : l.length ≠ 1) : oneIs p l = false := by
  match l, h with
  | [], _ => rfl
  | [_], h => exact absurd rfl h
  | _ :: _ :: _, _ => rfl
theorem oneIs_one {p : ByteArray} {l : List ByteArray} (h : l.length = 1) : oneIs p l = sEq (l[0]'(by omega)) p := by
  match l, h with
  | [q], _ => rfl
mutual
def faultsN (net : List Ofc) (i : Nat) : Nat → ByteArray → List ByteArray
  | 0, _ => []
  | f + 1, p => if longN net p = true then (if ((List.range 10).all fun d => oneIs (dgt p d) (faultsN net i f (dgt p d))) = true then [p] else ((List.range 10).map fun d => faultsN net i f (dgt p d)).flatten) else if (route net (firstW p) i).2 = 0 then [] else [p]
end
/-- What the first k digits give. -/
def catN (net : List Ofc) (i f : Nat) (p : ByteArray) (k : Nat) : List ByteArray := ((List.range k).map fun d => faultsN net i f (dgt p d)).flatten
def cntN (net : List Ofc) (i f : Nat) (p : ByteArray) (k : Nat) : Nat := (List.range k).countP fun d => oneIs (dgt p d) (faultsN net i f (dgt p d))
def allN (net : List Ofc) (i f : Nat) (p : ByteArray) (k : Nat) : Bool := (List.range k).all fun d => oneIs (dgt p d) (faultsN net i f (dgt p d))
theorem faults_long {net : List Ofc} {i f : Nat} {p : ByteArray} (h : longN net p = true) : faultsN net i (f + 1) p = if allN net i f p 10 = true then [p] else catN net i f p 10 := by
  rw [faultsN, if_pos h]; rfl
theorem faults_home {net : List Ofc} {i f : Nat} {p : ByteArray} (h : longN net p = false) (h2 : (route net (firstW p) i).2 = 0) : faultsN net i (f + 1) p = [] := by
  rw [faultsN, if_neg (by rw [h]; simp), if_pos h2]
theorem faults_bad {net : List Ofc} {i f : Nat} {p : ByteArray} (h : longN net p = false) (h2 : (route net (firstW p) i).2 ≠ 0) : faultsN net i (f + 1) p = [p] := by
  rw [faultsN, if_neg (by rw [h]; simp), if_neg h2]
theorem catN_succ (net : List Ofc) (i f : Nat) (p : ByteArray) (k : Nat) : catN net i f p (k + 1) = catN net i f p k ++ faultsN net i f (dgt p k) := by
  unfold catN; rw [List.range_succ, List.map_append, List.flatten_append]; simp
theorem cntN_succ (net : List Ofc) (i f : Nat) (p : ByteArray) (k : Nat) : cntN net i f p (k + 1) = cntN net i f p k + (if oneIs (dgt p k) (faultsN net i f (dgt p k)) = true then 1 else 0) := by
  unfold cntN; rw [List.range_succ, List.countP_append]; simp [List.countP_cons]
theorem allN_succ (net : List Ofc) (i f : Nat) (p : ByteArray) (k : Nat) : allN net i f p (k + 1) = (allN net i f p k && oneIs (dgt p k) (faultsN net i f (dgt p k))) := by
  unfold allN; rw [List.range_succ, List.all_append]; simp
theorem cntN_all (net : List Ofc) (i f : Nat) (p : ByteArray) : ∀ k, cntN net i f p k ≤ k ∧ (allN net i f p k = true ↔ cntN net i f p k = k)
  | 0 => by simp [cntN, allN]
  | k + 1 => by
    have ih := cntN_all net i f p k
    rw [cntN_succ, allN_succ, Bool.and_eq_true]
    by_cases h : oneIs (dgt p k) (faultsN net i f (dgt p k)) = true
    · rw [if_pos h]
      refine ⟨by omega, ⟨fun ⟨h1, _⟩ => by have := ih.2.1 h1; omega, fun h1 => ⟨ih.2.2 (by omega), h⟩⟩⟩
    · rw [if_neg h]
      refine ⟨by omega, ⟨fun ⟨_, h2⟩ => absurd h2 h, fun h1 => by omega⟩⟩
theorem tens (f : Nat) : 10 ^ (f + 1) = 10 * 10 ^ f := by rw [Nat.pow_succ]; omega
/-- Not more than that many. -/
theorem faults_len (net : List Ofc) (i : Nat) : ∀ (f : Nat) (p : ByteArray), (faultsN net i f p).length ≤ 10 ^ f
  | 0, p => by simp [faultsN]
  | f + 1, p => by
    have ih := faults_len net i f
    have hp : 1 ≤ 10 ^ f := Nat.one_le_pow _ _ (by omega)
    have hc : ∀ k, (catN net i f p k).length ≤ k * 10 ^ f := fun k => by
      induction k with
      | zero => simp [catN]
      | succ k ihk =>
        rw [catN_succ, List.length_append, Nat.add_mul, Nat.one_mul]
        have := ih (dgt p k)
        omega
    have h10 := hc 10
    rw [tens]
    cases hl : longN net p
    · by_cases h2 : (route net (firstW p) i).2 = 0
      · rw [faults_home hl h2]; simp
      · rw [faults_bad hl h2]; simp; omega
    · rw [faults_long hl]
      split
      · simp; omega
      · exact h10
theorem catN_len (net : List Ofc) (i f : Nat) (p : ByteArray) : ∀ k, (catN net i f p k).length ≤ k * 10 ^ f
  | 0 => by simp [catN]
  | k + 1 => by
    have := catN_len net i f p k
    have h2 := faults_len net i f (dgt p k)
    rw [catN_succ, List.length_append, Nat.add_mul, Nat.one_mul]
    omega
/-- Each of them is short. -/
theorem faults_short (net : List Ofc) (i : Nat) : ∀ (f : Nat) (p q : ByteArray), q ∈ faultsN net i f p → q.size ≤ p.size + f
  | 0, p, q, h => by simp [faultsN] at h
  | f + 1, p, q, h => by
    have ih := faults_short net i f
    cases hl : longN net p
    · by_cases h2 : (route net (firstW p) i).2 = 0
      · rw [faults_home hl h2] at h; simp at h
      · rw [faults_bad hl h2] at h; simp at h; subst h; omega
    · rw [faults_long hl] at h
      split at h
      · simp at h; subst h; omega
      · unfold catN at h
        obtain ⟨l, hl, hq⟩ := List.mem_flatten.1 h
        obtain ⟨d, _, rfl⟩ := List.mem_map.1 hl
        have := ih _ _ hq
        rw [dgt_size] at this
        omega
theorem long_size {net : List Ofc} (hk : netOk net = true) {p : ByteArray} (h : longN net p = true) : p.size ≤ 6 := by
  unfold longN at h
  obtain ⟨o, ho, h⟩ := List.any_eq_true.1 h
  obtain ⟨k, hkl, rfl⟩ := List.getElem_of_mem ho
  unfold longO at h
  obtain ⟨r, hr, h⟩ := List.any_eq_true.1 h
  obtain ⟨m, hml, rfl⟩ := List.getElem_of_mem hr
  have h1 := ((netOk_iff.1 hk).2 k hkl).2.2.2.1
  have h2 := (isPfx_iff.1 ((rulesOk_iff.1 h1).2 m hml).1).2
  unfold longR at h
  rw [Bool.and_eq_true, decide_eq_true_iff] at h
  omega
/-! ### A prefix that no rule continues goes the way of its first code -/
theorem firstW_list (p : ByteArray) : ∃ z, (firstW p).data.toList = p.data.toList ++ z := ⟨_, by unfold firstW; rw [ByteArray.data_append, Array.toList_append]⟩
theorem pre_first {p s : ByteArray} (h : (decide (p.size < s.size) && pre s p) = false) : pre (firstW p) s = pre p s := by
  obtain ⟨z, hz⟩ := firstW_list p
  rw [Bool.eq_iff_iff, pre_iff, pre_iff, hz]
  have hl : ∀ s : ByteArray, s.data.toList.length = s.size := fun s => by simp
  constructor
  · intro h1
    by_cases hlt : p.size < s.size
    · have h2 : p.data.toList <+: s.data.toList := List.prefix_of_prefix_length_le (List.prefix_append _ z) h1 (by rw [hl, hl]; omega)
      rw [decide_eq_true hlt, pre_iff.2 h2] at h
      cases h
    · exact List.prefix_of_prefix_length_le h1 (List.prefix_append _ z) (by rw [hl, hl]; omega)
  · intro h1
    exact h1.trans (List.prefix_append _ z)
theorem best_first {rs : List Fwd} {p : ByteArray} (h : rs.any (longR p) = false) : ∀ k, bestN rs (firstW p) k = bestN rs p k
  | 0 => rfl
  | k + 1 => by
    show bestStep _ _ _ _ = bestStep _ _ _ _
    rw [best_first h k]
    unfold bestStep
    cases hx : rs[k]? with
    | none => rfl
    | some x =>
      have hm := List.mem_of_getElem? hx
      have h1 : longR p x = false := by simpa using List.any_eq_false.1 h x hm
      dsimp only
      rw [pre_first h1]
theorem next_first {rs : List Fwd} {p : ByteArray} (h : rs.any (longR p) = false) : bestI rs (firstW p) = bestI rs p ∧ nextS rs (firstW p) = nextS rs p := by
  have h1 : bestI rs (firstW p) = bestI rs p := best_first h _
  refine ⟨h1, ?_⟩
  unfold nextS
  rw [h1]
theorem hop_first {net : List Ofc} {p : ByteArray} (h : longN net p = false) (i : Nat) : hop net (firstW p) i = hop net p i := by
  unfold hop
  cases hx : net[i]? with
  | none => rfl
  | some o =>
    have hm := List.mem_of_getElem? hx
    have h1 : o.rules.any (longR p) = false := by
      have := List.any_eq_false.1 h o hm
      simpa [longO] using this
    obtain ⟨e1, e2⟩ := next_first h1
    dsimp only
    rw [e1, e2]
theorem routeN_first {net : List Ofc} {p : ByteArray} (h : longN net p = false) : ∀ (f : Nat) (q : List Nat) (i : Nat), routeN net (firstW p) f q i = routeN net p f q i
  | 0, _, _ => rfl
  | f + 1, q, i => by
    rw [routeN, routeN, hop_first h, routeN_first h f]
theorem route_first {net : List Ofc} {p : ByteArray} (h : longN net p = false) (i : Nat) : route net (firstW p) i = route net p i := routeN_first h _ _ _
/-! ### All of them -/
def fpS (net : List Ofc) (s : ByteArray) : List ByteArray := if (netOk net && decide (0 ≤ offI net s)) = true then faultsN net (offI net s).toNat 8 ⟨#[]⟩ else []
theorem fpS_len (net : List Ofc) (s : ByteArray) : (fpS net s).length ≤ 100000000 := by
  unfold fpS
  split
  · exact faults_len net _ 8 _
  · simp

end Go.Proofs.Ytmangjjaijhcnaa
