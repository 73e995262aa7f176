/- GO NK QH -/
import Derived.Test.YtffbcfaahegglaaDoorQ4
import Derived.Test.YtffbcfaahegglaaDoorQ5
namespace Go.Proofs.YtffbcfaahegglaaDoor
open Go.RowKit

def szO (o : Ofc) : Nat := o.name.size + (o.rules.length + sumFw o.rules)
def sumO (net : List Ofc) : Nat := (net.map szO).sum
def szN (net : List Ofc) : Nat := net.length + sumO net
theorem sumO_succ (net : List Ofc) (k : Nat) (h : k < net.length) : sumO (net.take (k + 1)) = sumO (net.take k) + szO net[k] := by
  unfold sumO; rw [List.take_succ_eq_append_getElem h, List.map_append, List.sum_append]; simp
theorem sumO_le (net : List Ofc) (k : Nat) : sumO (net.take k) ≤ sumO net := by
  unfold sumO
  conv => rhs; rw [← List.take_append_drop k net, List.map_append, List.sum_append]
  omega
theorem ofc_le_szN {net : List Ofc} {k : Nat} (h : k < net.length) : szO net[k] ≤ szN net := by
  have h1 := sumO_succ net k h
  have h2 := sumO_le net (k + 1)
  unfold szN; omega




theorem Tryd.infoOfc : (Tryd.prog.info? 82).map (fun i => (i.zero, i.size, i.bytes)) = some (some (.agg #[.string ⟨#[]⟩, .slice none 0 0]), 2, 40) := by kernel_rfl


theorem laws_eqOffice (o : Ofc) (A A' : Option Addr) (c c' : Nat) (w : World) (hv : rd w w.heap.size (.slice A o.rules.length c) o.rules) (hv' : rd w w.heap.size (.slice A' o.rules.length c') o.rules) :
    Calls Tryd.prog 58 #[.agg #[.string o.name, .slice A o.rules.length c], .agg #[.string o.name, .slice A' o.rules.length c']] w fun e w' => e = .returned (.bool true) ∧ Below w.heap.size w w' := by
  have HR := Lib.hid hv; clear hv
  have HR' := Lib.hid hv'; clear hv'
  have HQ : Hid (eqBy fwdEq o.rules o.rules = true) := (eqBy_iff fwdEq_iff).2 rfl
  have g1 : (o.name.toList != o.name.toList) = false := by simp
  have g2 : (o.name.toList == o.name.toList) = true := by simp
  have hB : Below w.heap.size w ((w.alloc (Obj.cells #[Value.string o.name, Value.slice A o.rules.length c] 82)).alloc (Obj.cells #[Value.string o.name, Value.slice A' o.rules.length c'] 82)) := ((Below.refl _ _).alloc (Nat.le_refl _) _).alloc (by simp) _
  have HB := Lib.hid hB; clear hB
  go_enter Tryd.func58, Tryd.ntmps58
  go_wp2_with fail
  refine (laws_eqRuleS _ _ o.rules o.rules _ (HR.out.on HB.out) (HR'.out.on HB.out)).mono ?_
  rw [HQ.out]
  rintro e w1 ⟨rfl, b1⟩
  go_wp2_with fail
  go_ret
  exact ⟨rfl, HB.out.trans (b1.mono HB.out.size)⟩

set_option maxRecDepth 100000 in
set_option maxHeartbeats 800000 in
theorem u_eqN (v v' : Value) (xss : List Ofc) (w : World) (hv : rd w w.heap.size v xss) (hv' : rd w w.heap.size v' xss) :
    Calls Tryd.prog 23 #[v, v'] w fun e w' => e = .returned (.bool true) ∧ Below w.heap.size w w' := by
  obtain ⟨A, n, c, rfl, hn, hc, hm, hr⟩ := hv
  obtain ⟨A', n', c', rfl, hn', hc', hm', hr'⟩ := hv'
  subst hn hn'
  unfold maxLen at hm hm'
  have HR := Lib.hid hr; clear hr
  have HR' := Lib.hid hr'; clear hr'
  have hl1 : ((xss.length : Int) != (xss.length : Int)) = false := by simp
  have l0 := Below.refl w.heap.size w
  go_enter Tryd.func23, Tryd.ntmps23
  go_wp2
  go_loopw [5] (fun i wr => ∃ k : Nat, k ≤ xss.length ∧ i = .int .i64 k ∧ Below w.heap.size w wr) (fun i _ => xss.length - (intOf i).toNat)
  case atStart => exact ⟨0, Nat.zero_le _, rfl, l0⟩
  case round =>
    obtain ⟨k, hk, rfl, lr⟩ := hrel
    obtain ⟨w1, rfl⟩ : ∃ w1 : World, w1 = wr := ⟨_, rfl⟩
    clear l0
    by_cases hlt : k < xss.length
    · obtain ⟨b, o, A2, c2, rfl, hb, _, hu, y1, y2⟩ := HR.out.ofcU k hlt
      obtain ⟨b', o', A3, c3, rfl, hb', _, hu', z1, z2⟩ := HR'.out.ofcU k hlt
      generalize xss[k] = y at *
      have HU := Lib.hid hu; clear hu
      have HU' := Lib.hid hu'; clear hu'
      have hki : (k : Int) < (xss.length : Int) := by omega
      have ld := later_drew lr
      have HC : Hid (∀ W, Below w.heap.size w W → Calls Tryd.prog 58 #[.agg #[.string y.name, .slice A2 y.rules.length c2], .agg #[.string y.name, .slice A3 y.rules.length c3]] W fun e w' => e = .returned (.bool true) ∧ Below W.heap.size W w') := fun W hW => laws_eqOffice y _ _ _ _ W (HU.out.on hW) (HU'.out.on hW)
      go_wp2
      go_region_held3 (fun W => Below w.heap.size w W) (first | exact ld | exact later_trans ld b3) (first | (go_at_call 58; refine (HC.out _ ld).mono ?_; rintro e w3 ⟨rfl, b3⟩))
      have l3 := later_trans ld b3
      go_wp2
      go_roundw
      case rel => exact ⟨k + 1, by omega, by go_num, l3⟩
      case measure => simp [intOf]; omega
    · go_wp2
      go_ret
      exact ⟨rfl, lr⟩

end Go.Proofs.YtffbcfaahegglaaDoor

namespace Go.Proofs.YtffbcfaahegglaaDoor
open Go.RowKit

set_option maxHeartbeats 800000 in
theorem w_markRuleS (T base : Nat) (v : Value) (xs : List Fwd) (k0 : Nat) (w : World) (hv : own T base w v xs) (hk0 : k0 ≤ 274877906944) (hl : xs.length ≤ 1048576) :
    Calls Tryd.prog 60 #[v, .int .i64 k0] w fun e w' => e = .returned (.int .i64 ((k0 + 2 * xs.length : Nat) : Int)) ∧ w.grownBy w' v.ownBlock := by
  rcases hv.form with ⟨rfl, rfl⟩ | ⟨g, c, rfl, hg, hgl, hc, hm⟩
  · go_enter Tryd.func60, Tryd.ntmps60
    go_wp2
    go_loopw [1, 5] (fun t i wr => i = .int .i64 0 ∧ t = .int .i64 k0 ∧ wr = w) (fun _ _ _ => 0)
    case atStart => exact ⟨rfl, rfl, rfl⟩
    case round =>
      obtain ⟨rfl, rfl, rfl⟩ := hrel
      go_wp2
      go_ret
      exact ⟨ret_int (by simp), World.grownBy.refl _ _⟩
  · unfold maxLen at hm
    have HV := Lib.hid hv; clear hv
    go_enter Tryd.func60, Tryd.ntmps60
    go_wp2
    go_loopw [1, 5] (fun t i wr => ∃ (k m : Nat) (ys : List Fwd), k ≤ xs.length ∧ i = .int .i64 k ∧ t = .int .i64 m ∧ Hid (m = k0 + 2 * k) ∧ w.grownBy wr (some g) ∧ Hid (ys.length = xs.length) ∧ own T base wr (.slice (some ⟨g, 0, none⟩) xs.length c) ys) (fun _ i _ => xs.length - (intOf i).toNat)
    case atStart => exact ⟨0, k0, xs, Nat.zero_le _, rfl, rfl, rfl, World.grownBy.refl _ _, rfl, HV.out⟩
    case round =>
      obtain ⟨k, m, ys, hk, rfl, rfl, HM, hgr, HLEN, ho⟩ := hrel
      obtain ⟨w1, rfl⟩ : ∃ w1 : World, w1 = wr := ⟨_, rfl⟩
      have hmb : (m : Int) ≤ 824633720832 := by have := HM.out; omega
      by_cases hlt : k < xs.length
      · have hlt' : k < ys.length := by rw [HLEN.out]; exact hlt
        have HO := Lib.hid ho; clear ho
        have hki : (k : Int) < (xs.length : Int) := by omega
        go_wp2_with fail
        refine (laws_markText m _ (by omega)).mono ?_
        rintro e w2 ⟨rfl, b2⟩
        have hgr2 : w.grownBy w2 (some g) := grown_below hgr b2
        have ho2 := HO.out.below b2
        obtain ⟨u0, g0⟩ := ho2.cellAt (j := k * 2) (by show _ < _ * 2; omega)
        have f0 := ho2.freeAt (k * 2)
        have ho3 := ho2.setCell (k := k) (j := 0) hlt' (by decide) (.string (markB m)) ⟨markB m, ys[k].dst⟩ (fun ecs he => by
          obtain ⟨⟨h1, h2⟩, rfl⟩ := he
          exact ⟨⟨markB_size m (by omega), h2⟩, rfl⟩)
        have HO3 := Lib.hid ho3; clear ho3 ho2 b2
        have hgr3 : w.grownBy (w2.setCell ⟨g, k * 2, none⟩ (.string (markB m))) (some g) := grown_setCell hgr2 (.inl rfl) _
        go_wp2_with fail
        clear g0 f0
        refine (laws_markText (m + 1) _ (by omega)).mono ?_
        rintro e w4 ⟨rfl, b4⟩
        have hgr4 : w.grownBy w4 (some g) := grown_below hgr3 b4
        have ho4 := HO3.out.below b4
        have hlt2 : k < (ys.set k ⟨markB m, ys[k].dst⟩).length := by simpa using hlt'
        obtain ⟨u1, g1⟩ := ho4.cellAt (j := k * 2 + 1) (by show _ < _ * 2; rw [List.length_set]; omega)
        have f1 := ho4.freeAt (k * 2 + 1)
        have ho5 := ho4.setCell (k := k) (j := 1) hlt2 (by decide) (.string (markB (m + 1))) ⟨markB m, markB (m + 1)⟩ (fun ecs he => by
          obtain ⟨⟨h1, h2⟩, rfl⟩ := he
          refine ⟨⟨?_, markB_size (m + 1) (by omega)⟩, ?_⟩
          · simpa using h1
          · simp [Fwd.cells])
        have HO5 := Lib.hid ho5; clear ho5 ho4 b4
        have HG5 : Hid (w.grownBy (w4.setCell ⟨g, k * 2 + 1, none⟩ (.string (markB (m + 1)))) (some g)) := grown_setCell hgr4 (.inl rfl) _
        clear hgr hgr2 hgr3 hgr4
        go_wp2_with fail
        go_roundw
        case rel => exact ⟨k + 1, m + 2, _, by omega, by go_num, by go_num, by show _ = _; have := HM.out; omega, HG5.out, by show _ = _; rw [List.length_set, List.length_set]; exact HLEN.out, HO5.out⟩
        case measure => simp [intOf]; omega
      · have HE := Lib.hid (show k = xs.length by omega)
        have HO := Lib.hid ho; clear ho
        go_wp2
        go_ret
        exact ⟨ret_int (by have := HM.out; have := HE.out; omega), hgr⟩

/-- A network of the call's own, in blocks before hi. -/
def segN (T1 T2 lo hi : Nat) (w : World) (v : Value) (net : List Ofc) : Prop := ∃ os, isN T1 T2 lo w v net os ∧ (∀ k, v.ownBlock = some k → k < hi) ∧ ∀ i (h : i < os.length) k, os[i].val.ownBlock = some k → k < hi
theorem segN.of {T1 T2 lo : Nat} {w : World} {v : Value} {net : List Ofc} (h : ownN T1 T2 lo w v net) : segN T1 T2 lo w.heap.size w v net := by
  obtain ⟨os, h⟩ := h
  exact ⟨os, h, fun k hk => (h.1.blk k hk).2, fun i hi k hk => ((h.2.2.1 i hi (by have := h.2.1; omega)).2.blk k hk).2⟩
theorem segN.below {T1 T2 lo hi : Nat} {w w' : World} {v : Value} {net : List Ofc} (h : segN T1 T2 lo hi w v net) (hb : Below w.heap.size w w') : segN T1 T2 lo hi w' v net := by
  obtain ⟨os, h1, h2, h3⟩ := h
  exact ⟨os, h1.below hb, h2, h3⟩
theorem segN.out {T1 T2 lo hi a b : Nat} {w w' : World} {v : Value} {net : List Ofc} (h : segN T1 T2 lo hi w v net) (ho : OutI a b w w') (hd : hi ≤ a ∨ b ≤ lo) : segN T1 T2 lo hi w' v net := by
  obtain ⟨os, ⟨g1, g2, g3, g4, g5⟩, h2, h3⟩ := h
  refine ⟨os, ⟨g1.keepBlk fun k hk => ho.block k (g1.blk k hk).2 (by have q1 := (g1.blk k hk).1; have q2 := h2 k hk; omega), g2, fun i hi hi' => ⟨(g3 i hi hi').1, ?_⟩, g4, g5⟩, h2, h3⟩
  exact (g3 i hi hi').2.keepBlk fun k hk => ho.block k ((g3 i hi hi').2.blk k hk).2 (by have q1 := ((g3 i hi hi').2.blk k hk).1; have q2 := h3 i hi k hk; omega)
theorem segN.rd {T1 T2 lo hi : Nat} {w : World} {v : Value} {net : List Ofc} (h : segN T1 T2 lo hi w v net) : rd w w.heap.size v net := by
  obtain ⟨os, h1, _⟩ := h
  exact h1.rd
def mkN (net : List Ofc) : Nat := (net.map fun o => 1 + 2 * o.rules.length).sum
theorem mkN_succ (net : List Ofc) {k : Nat} (h : k < net.length) : mkN (net.take (k + 1)) = mkN (net.take k) + 1 + 2 * net[k].rules.length := by
  unfold mkN; rw [List.take_succ_eq_append_getElem h, List.map_append, List.sum_append]; simp; omega
theorem mkN_take (net : List Ofc) (k : Nat) : mkN (net.take k) ≤ mkN net := by
  have h : mkN net = mkN (net.take k) + mkN (net.drop k) := by
    have := congrArg mkN (List.take_append_drop k net)
    rw [← this]
    unfold mkN
    rw [List.map_append, List.sum_append]
  omega
theorem mkN_le (net : List Ofc) : mkN net ≤ 2 * szN net := by
  induction net with
  | nil => simp [mkN]
  | cons o net ih =>
    unfold mkN szN sumO szO at *
    simp only [List.map_cons, List.sum_cons, List.length_cons]
    omega

set_option maxRecDepth 100000 in
set_option maxHeartbeats 1600000 in
theorem u_wmN (T1 T2 lo hi : Nat) (v : Value) (net : List Ofc) (k0 : Nat) (w : World) (hv : segN T1 T2 lo hi w v net) (hk0 : k0 ≤ 1099511627) (hs : szN net ≤ 1048576) :
    Calls Tryd.prog 24 #[v, .int .i64 k0] w fun e w' => e = .returned (.int .i64 ((k0 + mkN net : Nat) : Int)) ∧ OutI lo hi w w' := by
  have hfl := Nat.le_trans (mkN_le net) (Nat.mul_le_mul_left 2 hs)
  obtain ⟨os, hB, hhi, hvh⟩ := hv
  rcases hB.form with ⟨rfl, rfl⟩ | ⟨g, c, rfl, hg, hgl, hc, hm⟩
  · go_enter Tryd.func24, Tryd.ntmps24
    go_wp2
    go_loopw [1, 5] (fun t i wr => i = .int .i64 0 ∧ t = .int .i64 k0 ∧ wr = w) (fun _ _ _ => 0)
    case atStart => exact ⟨rfl, rfl, rfl⟩
    case round =>
      obtain ⟨rfl, rfl, rfl⟩ := hrel
      go_wp2
      go_ret
      exact ⟨ret_int (by simp [mkN]), OutI.refl _ _ _⟩
  unfold maxLen at hm
  have HVH := Lib.hid hvh; clear hvh
  have HB := Lib.hid hB; clear hB
  have hn20 : net.length ≤ 1048576 := by unfold szN at hs; omega
  have HRL : Hid (∀ k (h : k < net.length), net[k].rules.length ≤ 1048576) := fun k h => by have := Nat.le_trans (ofc_le_szN h) hs; unfold szO at this; omega
  obtain ⟨N, hN⟩ : ∃ N, mkN net = N := ⟨_, rfl⟩
  have HN := Lib.hid hN
  rw [hN] at hfl
  have hVN := HB.out.2.1
  have HVN := Lib.hid hVN; clear hVN hN hs
  have HGF := Lib.hid (hhi g rfl); clear hhi
  have hgNe : Hid (∀ i (h : i < os.length), os[i].val.ownBlock = none ∨ os[i].val.ownBlock ≠ some g) := fun i h => HB.out.2.2.2.2 i h
  have HN' : Hid ((k0 : Nat) + mkN net = k0 + N) := by show _ = _; rw [HN.out]
  rw [HN'.out]
  go_enter Tryd.func24, Tryd.ntmps24
  go_wp2
  go_loopw [1, 5] (fun t i wr => ∃ (k m : Nat) (us : List OfV), k ≤ net.length ∧ i = .int .i64 k ∧ t = .int .i64 m ∧ Hid (m = k0 + mkN (net.take k)) ∧ OutI lo hi w wr ∧ own T1 lo wr (.slice (some ⟨g, 0, none⟩) net.length c) us ∧ Hid (us.length = net.length) ∧ Hid (∀ i (h : i < us.length) (h' : i < os.length), us[i].val = os[i].val) ∧ Hid (∀ i (h : i < os.length) (h' : i < net.length), k ≤ i → own T2 lo wr os[i].val net[i].rules)) (fun _ i _ => net.length - (intOf i).toNat)
  case atStart => exact ⟨0, k0, os, Nat.zero_le _, rfl, rfl, by show _ = _; simp [mkN], OutI.refl _ _ _, HB.out.1, HB.out.2.1, fun i h h' => rfl, fun i h h' _ => (HB.out.2.2.1 i h h').2⟩
  case round =>
    obtain ⟨k, m, us, hk, rfl, rfl, HM, hO, hV, HUL, HUV, HI⟩ := hrel
    obtain ⟨w1, rfl⟩ : ∃ w1 : World, w1 = wr := ⟨_, rfl⟩
    have HO := Lib.hid hO; have HV := Lib.hid hV
    clear hO hV
    by_cases hlt : k < net.length
    · have hlv : k < os.length := by rw [HVN.out]; exact hlt
      have hlu : k < us.length := by rw [HUL.out]; exact hlt
      have HROW := Lib.hid (HI.out k hlv hlt (Nat.le_refl _))
      have HS := Lib.hid (mkN_succ net hlt)
      have HTK : Hid (mkN (net.take (k + 1)) ≤ N) := by show _ ≤ _; rw [← HN.out]; exact mkN_take _ _
      have hlen := HRL.out k hlt
      have hm1 : m ≤ 200000000000 := by have h0 := HM.out; have h1 := HS.out; have h2 := HTK.out; omega
      obtain ⟨ys, hys⟩ : ∃ ys, ys = net[k].rules := ⟨_, rfl⟩
      have HYS := Lib.hid hys
      rw [← hys] at hlen
      replace HROW : Hid (own T2 lo w1 os[k].val ys) := by show own _ _ _ _ _; rw [hys]; exact HROW.out
      clear hys
      obtain ⟨u, hu⟩ : ∃ u, u = os[k].val := ⟨_, rfl⟩
      have HUK := Lib.hid hu
      replace HROW : Hid (own T2 lo w1 u ys) := by show own _ _ _ _ _; rw [hu]; exact HROW.out
      have HUU : Hid (us[k].val = u) := by show _ = _; rw [hu]; exact HUV.out k hlu hlv
      clear hu
      obtain ⟨A2, m2, c2, hu2, hm2, _, _, _⟩ := HROW.out.rd
      subst hm2 hu2
      have hki : (k : Int) < (net.length : Int) := by omega
      go_wp2_with fail
      refine (laws_markText m _ (by omega)).mono ?_
      rintro e w2 ⟨rfl, b2⟩
      have ho2 := HV.out.below b2
      obtain ⟨u0, g0⟩ := ho2.cellAt (j := k * 2) (by show _ < _ * 2; omega)
      have f0 := ho2.freeAt (k * 2)
      have HOX := Lib.hid (ho2.setCell (k := k) (j := 0) hlu (by decide) (.string (markB m)) ⟨markB m, us[k].val⟩ (fun ecs he => by
        obtain ⟨rfl, h1, h2⟩ := he
        exact ⟨rfl, markB_size m (by omega), h2⟩))
      have HR2 := Lib.hid (((HROW.out.below b2).grown (grown_setCell (p := ⟨g, k * 2, none⟩) (World.grownBy.refl w2 (some g)) (.inl rfl) (.string (markB m)))) (by
        have := hgNe.out k hlv
        rw [← HUK.out] at this
        exact this))
      have HBG : Hid (w1.grownBy (w2.setCell ⟨g, k * 2, none⟩ (.string (markB m))) (some g)) := grown_setCell (grown_below (World.grownBy.refl w1 (some g)) b2) (.inl rfl) _
      have hc1 : (w2.setCell ⟨g, k * 2, none⟩ (.string (markB m))).cell? ⟨g, k * 2 + 1, none⟩ = some (.slice A2 ys.length c2) := by
        have h1 := (own_ofv HOX.out k (by rw [List.length_set]; exact hlu)).2.2
        rw [List.getElem_set_self] at h1
        rw [show k * El.size OfV + 0 = k * 2 from rfl] at h1
        rw [h1]
        show some us[k].val = _
        rw [HUU.out]
      have HW3 := Lib.hid hc1
      clear ho2 b2
      have hmb0 : (m : Int) + 1 ≤ 824633720832 := by omega
      go_wp2_with fail
      clear hc1 g0 f0
      obtain ⟨w3, hw3⟩ : ∃ w3, w3 = w2.setCell ⟨g, k * 2, none⟩ (.string (markB m)) := ⟨_, rfl⟩
      have HX3 := Lib.hid hw3
      rw [← hw3] at HR2 HBG ⊢
      have HOX' : Hid (own T1 lo w3 (.slice (some ⟨g, 0, none⟩) net.length c) (us.set k ⟨markB m, us[k].val⟩)) := by
        show own _ _ _ _ _; rw [hw3]; exact HOX.out
      clear hw3 HOX HW3
      refine (w_markRuleS T2 lo _ ys (m + 1) _ HR2.out (by omega) hlen).mono ?_
      rintro e w4 ⟨rfl, g2⟩
      have HO2 := Lib.hid ((HO.out.trans (OutI.of_grown (lo := lo) (hi := hi) HBG.out fun j hj => by
        injection hj with hj
        subst hj
        exact ⟨hg, HGF.out⟩)).trans (OutI.of_grown (lo := lo) (hi := hi) g2 fun j hj => ⟨(HR2.out.blk j hj).1, HVH.out k hlv j (by rw [← HUK.out]; exact hj)⟩))
      have HV2 := Lib.hid (HOX'.out.grown g2 (.inr (by
        have := hgNe.out k hlv
        rw [← HUK.out] at this
        rcases this with h | h
        · rw [h]; show some g ≠ none; simp
        · exact fun e => h e.symm)))
      have HI2 : Hid (∀ i (h : i < os.length) (h' : i < net.length), k + 1 ≤ i → own T2 lo w4 os[i].val net[i].rules) := fun i h h' hi =>
        ((HI.out i h h' (by omega)).grown HBG.out (hgNe.out i h)).grown g2 (by
          have := HB.out.2.2.2.1 i k h hlv (by omega)
          unfold apart at this
          rw [HUK.out]
          exact this)
      have HUV2 : Hid (∀ i (h : i < (us.set k ⟨markB m, us[k].val⟩).length) (h' : i < os.length), (us.set k ⟨markB m, us[k].val⟩)[i].val = os[i].val) := fun i h h' => by
        rw [List.getElem_set]
        split
        · rename_i e; subst e; exact HUV.out _ hlu h'
        · exact HUV.out i (by simpa using h) h'
      have HUL2 : Hid ((us.set k ⟨markB m, us[k].val⟩).length = net.length) := by show _ = _; rw [List.length_set]; exact HUL.out
      clear g2
      have hmb : (m : Int) + 1 + 2 * (ys.length : Int) ≤ 824633720832 := by omega
      go_wp2_with fail
      go_roundw
      case rel =>
        refine ⟨k + 1, m + 1 + 2 * ys.length, _, by omega, by go_num, by go_num, ?_, HO2.out, HV2.out, HUL2.out, HUV2.out, HI2.out⟩
        show _ = _
        have h0 := HM.out; have h1 := HS.out; have h2 := congrArg List.length HYS.out
        omega
      case measure => simp [intOf]; omega
    · have HE := Lib.hid (show k = net.length by omega)
      go_wp2
      go_ret
      refine ⟨ret_int ?_, HO.out⟩
      have h0 := HM.out
      rw [HE.out, List.take_length, HN.out] at h0
      omega


end Go.Proofs.YtffbcfaahegglaaDoor

namespace Go.Proofs.YtffbcfaahegglaaDoor
open Go.RowKit

def marksU (k n : Nat) : List Fwd := (List.range n).map fun i => ⟨markB (k + 2 * i), markB (k + 2 * i + 1)⟩
theorem marksU_len (k n : Nat) : (marksU k n).length = n := by simp [marksU]
theorem marksU_get (k n i : Nat) (h : i < (marksU k n).length) : (marksU k n)[i] = ⟨markB (k + 2 * i), markB (k + 2 * i + 1)⟩ := by simp [marksU]
def markedU (k0 : Nat) (xs : List Fwd) (k : Nat) : List Fwd := marksU k0 k ++ xs.drop k
theorem markedU_len {k0 : Nat} {xs : List Fwd} {k : Nat} (h : k ≤ xs.length) : (markedU k0 xs k).length = xs.length := by
  simp [markedU, marksU_len]; omega
theorem markedU_step {k0 : Nat} {xs : List Fwd} {k : Nat} (h : k < xs.length) : (markedU k0 xs k).set k ⟨markB (k0 + 2 * k), markB (k0 + 2 * k + 1)⟩ = markedU k0 xs (k + 1) := by
  unfold markedU
  rw [List.set_append_right _ _ (by rw [marksU_len]; exact Nat.le_refl _), marksU_len, Nat.sub_self, List.drop_eq_getElem_cons h, List.set_cons_zero]
  unfold marksU
  rw [List.range_succ, List.map_append]
  simp
def marksN (k0 : Nat) (net : List Ofc) : List Ofc := (List.range net.length).map fun i => ⟨markB (k0 + mkN (net.take i)), marksU (k0 + mkN (net.take i) + 1) ((net.map fun o => o.rules.length).getD i 0)⟩
theorem marksN_len (k0 : Nat) (net : List Ofc) : (marksN k0 net).length = net.length := by simp [marksN]
theorem marksN_get (k0 : Nat) (net : List Ofc) (i : Nat) (h : i < (marksN k0 net).length) : (marksN k0 net)[i] = ⟨markB (k0 + mkN (net.take i)), marksU (k0 + mkN (net.take i) + 1) (net[i]'(by rw [marksN_len] at h; exact h)).rules.length⟩ := by
  have h' : i < net.length := by rw [marksN_len] at h; exact h
  simp [marksN, h']

set_option maxHeartbeats 800000 in
theorem laws_markRuleS (T base : Nat) (v : Value) (xs : List Fwd) (k0 : Nat) (w : World) (hv : own T base w v xs) (hk0 : k0 ≤ 274877906944) (hl : xs.length ≤ 1048576) :
    Calls Tryd.prog 60 #[v, .int .i64 k0] w fun e w' => e = .returned (.int .i64 ((k0 + 2 * xs.length : Nat) : Int)) ∧ own T base w' v (marksU k0 xs.length) ∧ w.grownBy w' v.ownBlock := by
  rcases hv.form with ⟨rfl, rfl⟩ | ⟨g, c, rfl, hg, hgl, hc, hm⟩
  · go_enter Tryd.func60, Tryd.ntmps60
    go_wp2
    go_loopw [1, 5] (fun t i wr => i = .int .i64 0 ∧ t = .int .i64 k0 ∧ wr = w) (fun _ _ _ => 0)
    case atStart => exact ⟨rfl, rfl, rfl⟩
    case round =>
      obtain ⟨rfl, rfl, rfl⟩ := hrel
      go_wp2
      go_ret
      exact ⟨ret_int (by simp), by simpa [marksU] using own.nil_ (α := Fwd) _ _ _, World.grownBy.refl _ _⟩
  · unfold maxLen at hm
    have HV := Lib.hid hv; clear hv
    go_enter Tryd.func60, Tryd.ntmps60
    go_wp2
    go_loopw [1, 5] (fun t i wr => ∃ (k m : Nat), k ≤ xs.length ∧ i = .int .i64 k ∧ t = .int .i64 m ∧ Hid (m = k0 + 2 * k) ∧ w.grownBy wr (some g) ∧ own T base wr (.slice (some ⟨g, 0, none⟩) xs.length c) (markedU k0 xs k)) (fun _ i _ => xs.length - (intOf i).toNat)
    case atStart => exact ⟨0, k0, Nat.zero_le _, rfl, rfl, rfl, World.grownBy.refl _ _, by simpa [markedU, marksU] using HV.out⟩
    case round =>
      obtain ⟨k, m, hk, rfl, rfl, HM, hgr, ho⟩ := hrel
      obtain ⟨w1, rfl⟩ : ∃ w1 : World, w1 = wr := ⟨_, rfl⟩
      have hmb : (m : Int) ≤ 824633720832 := by have := HM.out; omega
      by_cases hlt : k < xs.length
      · have hlen := markedU_len (k0 := k0) hk
        have HST := Lib.hid (markedU_step (k0 := k0) hlt)
        generalize markedU k0 xs k = ys at *
        have HLEN := Lib.hid hlen; clear hlen
        have hlt' : k < ys.length := by rw [HLEN.out]; exact hlt
        have HO := Lib.hid ho; clear ho
        have hki : (k : Int) < (xs.length : Int) := by omega
        go_wp2_with fail
        refine (laws_markText m _ (by omega)).mono ?_
        rintro e w2 ⟨rfl, b2⟩
        have hgr2 : w.grownBy w2 (some g) := grown_below hgr b2
        have ho2 := HO.out.below b2
        obtain ⟨u0, g0⟩ := ho2.cellAt (j := k * 2) (by show _ < _ * 2; omega)
        have f0 := ho2.freeAt (k * 2)
        have ho3 := ho2.setCell (k := k) (j := 0) hlt' (by decide) (.string (markB m)) ⟨markB m, ys[k].dst⟩ (fun ecs he => by
          obtain ⟨⟨h1, h2⟩, rfl⟩ := he
          exact ⟨⟨markB_size m (by omega), h2⟩, rfl⟩)
        have HO3 := Lib.hid ho3; clear ho3 ho2 b2
        have hgr3 : w.grownBy (w2.setCell ⟨g, k * 2, none⟩ (.string (markB m))) (some g) := grown_setCell hgr2 (.inl rfl) _
        go_wp2_with fail
        clear g0 f0
        refine (laws_markText (m + 1) _ (by omega)).mono ?_
        rintro e w4 ⟨rfl, b4⟩
        have hgr4 : w.grownBy w4 (some g) := grown_below hgr3 b4
        have ho4 := HO3.out.below b4
        have hlt2 : k < (ys.set k ⟨markB m, ys[k].dst⟩).length := by simpa using hlt'
        obtain ⟨u1, g1⟩ := ho4.cellAt (j := k * 2 + 1) (by show _ < _ * 2; rw [List.length_set]; omega)
        have f1 := ho4.freeAt (k * 2 + 1)
        have ho5 := ho4.setCell (k := k) (j := 1) hlt2 (by decide) (.string (markB (m + 1))) ⟨markB m, markB (m + 1)⟩ (fun ecs he => by
          obtain ⟨⟨h1, h2⟩, rfl⟩ := he
          refine ⟨⟨?_, markB_size (m + 1) (by omega)⟩, ?_⟩
          · simpa using h1
          · simp [Fwd.cells])
        have HO5 := Lib.hid ho5; clear ho5 ho4 b4
        have HG5 : Hid (w.grownBy (w4.setCell ⟨g, k * 2 + 1, none⟩ (.string (markB (m + 1)))) (some g)) := grown_setCell hgr4 (.inl rfl) _
        clear hgr hgr2 hgr3 hgr4
        go_wp2_with fail
        go_roundw
        case rel =>
          refine ⟨k + 1, m + 2, by omega, by go_num, by go_num, by show _ = _; have := HM.out; omega, HG5.out, ?_⟩
          have := HO5.out
          rw [List.set_set] at this
          have hm2 := HM.out
          subst hm2
          rw [HST.out] at this
          exact this
        case measure => simp [intOf]; omega
      · have HE := Lib.hid (show k = xs.length by omega)
        have HO := Lib.hid ho; clear ho
        go_wp2
        go_ret
        refine ⟨ret_int (by have := HM.out; have := HE.out; omega), ?_, hgr⟩
        have := HO.out
        have h2 := HE.out
        subst h2
        rw [markedU, List.drop_length, List.append_nil] at this
        exact this

set_option maxRecDepth 100000 in
set_option maxHeartbeats 1600000 in
theorem u_mkN (T1 T2 lo hi : Nat) (v : Value) (net : List Ofc) (k0 : Nat) (w : World) (hv : segN T1 T2 lo hi w v net) (hk0 : k0 ≤ 1099511627) (hs : szN net ≤ 1048576) :
    Calls Tryd.prog 24 #[v, .int .i64 k0] w fun e w' => e = .returned (.int .i64 ((k0 + mkN net : Nat) : Int)) ∧ segN T1 T2 lo hi w' v (marksN k0 net) ∧ OutI lo hi w w' := by
  have hfl := Nat.le_trans (mkN_le net) (Nat.mul_le_mul_left 2 hs)
  have HSG := Lib.hid hv
  obtain ⟨os, hB, hhi, hvh⟩ := hv
  rcases hB.form with ⟨rfl, rfl⟩ | ⟨g, c, rfl, hg, hgl, hc, hm⟩
  · go_enter Tryd.func24, Tryd.ntmps24
    go_wp2
    go_loopw [1, 5] (fun t i wr => i = .int .i64 0 ∧ t = .int .i64 k0 ∧ wr = w) (fun _ _ _ => 0)
    case atStart => exact ⟨rfl, rfl, rfl⟩
    case round =>
      obtain ⟨rfl, rfl, rfl⟩ := hrel
      go_wp2
      go_ret
      exact ⟨ret_int (by simp [mkN]), HSG.out, OutI.refl _ _ _⟩
  unfold maxLen at hm
  have HVH := Lib.hid hvh; clear hvh
  have HHI := Lib.hid hhi
  have HB := Lib.hid hB; clear hB
  have hn20 : net.length ≤ 1048576 := by unfold szN at hs; omega
  have HRL : Hid (∀ k (h : k < net.length), net[k].rules.length ≤ 1048576) := fun k h => by have := Nat.le_trans (ofc_le_szN h) hs; unfold szO at this; omega
  obtain ⟨N, hN⟩ : ∃ N, mkN net = N := ⟨_, rfl⟩
  have HN := Lib.hid hN
  rw [hN] at hfl
  have hVN := HB.out.2.1
  have HVN := Lib.hid hVN; clear hVN hN hs
  have HGF := Lib.hid (hhi g rfl); clear hhi
  have hgNe : Hid (∀ i (h : i < os.length), os[i].val.ownBlock = none ∨ os[i].val.ownBlock ≠ some g) := fun i h => HB.out.2.2.2.2 i h
  have HN' : Hid ((k0 : Nat) + mkN net = k0 + N) := by show _ = _; rw [HN.out]
  rw [HN'.out]
  go_enter Tryd.func24, Tryd.ntmps24
  go_wp2
  go_loopw [1, 5] (fun t i wr => ∃ (k m : Nat) (us : List OfV), k ≤ net.length ∧ i = .int .i64 k ∧ t = .int .i64 m ∧ Hid (m = k0 + mkN (net.take k)) ∧ OutI lo hi w wr ∧ own T1 lo wr (.slice (some ⟨g, 0, none⟩) net.length c) us ∧ Hid (us.length = net.length) ∧ Hid (∀ i (h : i < us.length) (h' : i < net.length), i < k → us[i].name = markB (k0 + mkN (net.take i))) ∧ Hid (∀ i (h : i < os.length) (h' : i < net.length), i < k → own T2 lo wr os[i].val (marksU (k0 + mkN (net.take i) + 1) net[i].rules.length)) ∧ Hid (∀ i (h : i < us.length) (h' : i < os.length), us[i].val = os[i].val) ∧ Hid (∀ i (h : i < os.length) (h' : i < net.length), k ≤ i → own T2 lo wr os[i].val net[i].rules)) (fun _ i _ => net.length - (intOf i).toNat)
  case atStart => exact ⟨0, k0, os, Nat.zero_le _, rfl, rfl, by show _ = _; simp [mkN], OutI.refl _ _ _, HB.out.1, HB.out.2.1, fun i h h' hi => absurd hi (Nat.not_lt_zero i), fun i h h' hi => absurd hi (Nat.not_lt_zero i), fun i h h' => rfl, fun i h h' _ => (HB.out.2.2.1 i h h').2⟩
  case round =>
    obtain ⟨k, m, us, hk, rfl, rfl, HM, hO, hV, HUL, HNM, HJ, HUV, HI⟩ := hrel
    obtain ⟨w1, rfl⟩ : ∃ w1 : World, w1 = wr := ⟨_, rfl⟩
    have HO := Lib.hid hO; have HV := Lib.hid hV
    clear hO hV
    by_cases hlt : k < net.length
    · have hlv : k < os.length := by rw [HVN.out]; exact hlt
      have hlu : k < us.length := by rw [HUL.out]; exact hlt
      have HROW := Lib.hid (HI.out k hlv hlt (Nat.le_refl _))
      have HS := Lib.hid (mkN_succ net hlt)
      have HTK : Hid (mkN (net.take (k + 1)) ≤ N) := by show _ ≤ _; rw [← HN.out]; exact mkN_take _ _
      have hlen := HRL.out k hlt
      have hm1 : m ≤ 200000000000 := by have h0 := HM.out; have h1 := HS.out; have h2 := HTK.out; omega
      obtain ⟨ys, hys⟩ : ∃ ys, ys = net[k].rules := ⟨_, rfl⟩
      have HYS := Lib.hid hys
      rw [← hys] at hlen
      replace HROW : Hid (own T2 lo w1 os[k].val ys) := by show own _ _ _ _ _; rw [hys]; exact HROW.out
      clear hys
      obtain ⟨u, hu⟩ : ∃ u, u = os[k].val := ⟨_, rfl⟩
      have HUK := Lib.hid hu
      replace HROW : Hid (own T2 lo w1 u ys) := by show own _ _ _ _ _; rw [hu]; exact HROW.out
      have HUU : Hid (us[k].val = u) := by show _ = _; rw [hu]; exact HUV.out k hlu hlv
      clear hu
      obtain ⟨A2, m2, c2, hu2, hm2, _, _, _⟩ := HROW.out.rd
      subst hm2 hu2
      have hki : (k : Int) < (net.length : Int) := by omega
      go_wp2_with fail
      refine (laws_markText m _ (by omega)).mono ?_
      rintro e w2 ⟨rfl, b2⟩
      have ho2 := HV.out.below b2
      obtain ⟨u0, g0⟩ := ho2.cellAt (j := k * 2) (by show _ < _ * 2; omega)
      have f0 := ho2.freeAt (k * 2)
      have HOX := Lib.hid (ho2.setCell (k := k) (j := 0) hlu (by decide) (.string (markB m)) ⟨markB m, us[k].val⟩ (fun ecs he => by
        obtain ⟨rfl, h1, h2⟩ := he
        exact ⟨rfl, markB_size m (by omega), h2⟩))
      have HR2 := Lib.hid (((HROW.out.below b2).grown (grown_setCell (p := ⟨g, k * 2, none⟩) (World.grownBy.refl w2 (some g)) (.inl rfl) (.string (markB m)))) (by
        have := hgNe.out k hlv
        rw [← HUK.out] at this
        exact this))
      have HBG : Hid (w1.grownBy (w2.setCell ⟨g, k * 2, none⟩ (.string (markB m))) (some g)) := grown_setCell (grown_below (World.grownBy.refl w1 (some g)) b2) (.inl rfl) _
      have hc1 : (w2.setCell ⟨g, k * 2, none⟩ (.string (markB m))).cell? ⟨g, k * 2 + 1, none⟩ = some (.slice A2 ys.length c2) := by
        have h1 := (own_ofv HOX.out k (by rw [List.length_set]; exact hlu)).2.2
        rw [List.getElem_set_self] at h1
        rw [show k * El.size OfV + 0 = k * 2 from rfl] at h1
        rw [h1]
        show some us[k].val = _
        rw [HUU.out]
      have HW3 := Lib.hid hc1
      clear ho2 b2
      have hmb0 : (m : Int) + 1 ≤ 824633720832 := by omega
      go_wp2_with fail
      clear hc1 g0 f0
      obtain ⟨w3, hw3⟩ : ∃ w3, w3 = w2.setCell ⟨g, k * 2, none⟩ (.string (markB m)) := ⟨_, rfl⟩
      have HX3 := Lib.hid hw3
      rw [← hw3] at HR2 HBG ⊢
      have HOX' : Hid (own T1 lo w3 (.slice (some ⟨g, 0, none⟩) net.length c) (us.set k ⟨markB m, us[k].val⟩)) := by
        show own _ _ _ _ _; rw [hw3]; exact HOX.out
      clear hw3 HOX HW3
      refine (laws_markRuleS T2 lo _ ys (m + 1) _ HR2.out (by omega) hlen).mono ?_
      rintro e w4 ⟨rfl, o4, g2⟩
      have HO2 := Lib.hid ((HO.out.trans (OutI.of_grown (lo := lo) (hi := hi) HBG.out fun j hj => by
        injection hj with hj
        subst hj
        exact ⟨hg, HGF.out⟩)).trans (OutI.of_grown (lo := lo) (hi := hi) g2 fun j hj => ⟨(HR2.out.blk j hj).1, HVH.out k hlv j (by rw [← HUK.out]; exact hj)⟩))
      have HV2 := Lib.hid (HOX'.out.grown g2 (.inr (by
        have := hgNe.out k hlv
        rw [← HUK.out] at this
        rcases this with h | h
        · rw [h]; show some g ≠ none; simp
        · exact fun e => h e.symm)))
      have HI2 : Hid (∀ i (h : i < os.length) (h' : i < net.length), k + 1 ≤ i → own T2 lo w4 os[i].val net[i].rules) := fun i h h' hi =>
        ((HI.out i h h' (by omega)).grown HBG.out (hgNe.out i h)).grown g2 (by
          have := HB.out.2.2.2.1 i k h hlv (by omega)
          unfold apart at this
          rw [HUK.out]
          exact this)
      have HUV2 : Hid (∀ i (h : i < (us.set k ⟨markB m, us[k].val⟩).length) (h' : i < os.length), (us.set k ⟨markB m, us[k].val⟩)[i].val = os[i].val) := fun i h h' => by
        rw [List.getElem_set]
        split
        · rename_i e; subst e; exact HUV.out _ hlu h'
        · exact HUV.out i (by simpa using h) h'
      have HUL2 : Hid ((us.set k ⟨markB m, us[k].val⟩).length = net.length) := by show _ = _; rw [List.length_set]; exact HUL.out
      have HNM2 : Hid (∀ i (h : i < (us.set k ⟨markB m, us[k].val⟩).length) (h' : i < net.length), i < k + 1 → (us.set k ⟨markB m, us[k].val⟩)[i].name = markB (k0 + mkN (net.take i))) := fun i h h' hi => by
        rw [List.getElem_set]
        split
        · rename_i e; subst e; show markB m = _; rw [HM.out]
        · exact HNM.out i (by simpa using h) h' (by omega)
      have HJ2 : Hid (∀ i (h : i < os.length) (h' : i < net.length), i < k + 1 → own T2 lo w4 os[i].val (marksU (k0 + mkN (net.take i) + 1) net[i].rules.length)) := fun i h h' hi => by
        by_cases hik : i = k
        · subst hik
          have e1 := HM.out
          have := o4
          rw [HUK.out, HYS.out, e1] at this
          exact this
        · refine ((HJ.out i h h' (by omega)).grown HBG.out (hgNe.out i h)).grown g2 ?_
          have := HB.out.2.2.2.1 i k h hlv hik
          unfold apart at this
          rw [HUK.out]
          exact this
      clear g2 o4
      have hmb : (m : Int) + 1 + 2 * (ys.length : Int) ≤ 824633720832 := by omega
      go_wp2_with fail
      go_roundw
      case rel =>
        refine ⟨k + 1, m + 1 + 2 * ys.length, _, by omega, by go_num, by go_num, ?_, HO2.out, HV2.out, HUL2.out, HNM2.out, HJ2.out, HUV2.out, HI2.out⟩
        show _ = _
        have h0 := HM.out; have h1 := HS.out; have h2 := congrArg List.length HYS.out
        omega
      case measure => simp [intOf]; omega
    · have HE := Lib.hid (show k = net.length by omega)
      go_wp2
      go_ret
      refine ⟨ret_int ?_, ⟨us, ⟨HV.out, by rw [marksN_len]; exact HUL.out, fun i h h' => ?_, fun i j hi hj hne => ?_, fun i h => ?_⟩, HHI.out, fun i h j hj => ?_⟩, HO.out⟩
      rotate_left
      · have hn : i < net.length := by rw [marksN_len] at h'; exact h'
        have ho : i < os.length := by rw [HVN.out]; exact hn
        rw [marksN_get, HUV.out i h ho]
        exact ⟨HNM.out i h hn (by rw [HE.out]; exact hn), HJ.out i ho hn (by rw [HE.out]; exact hn)⟩
      · have hio : i < os.length := by rw [HVN.out, ← HUL.out]; exact hi
        have hjo : j < os.length := by rw [HVN.out, ← HUL.out]; exact hj
        rw [HUV.out i hi hio, HUV.out j hj hjo]
        exact HB.out.2.2.2.1 i j hio hjo hne
      · have hio : i < os.length := by rw [HVN.out, ← HUL.out]; exact h
        rw [HUV.out i h hio]
        exact HB.out.2.2.2.2 i hio
      · have hio : i < os.length := by rw [HVN.out, ← HUL.out]; exact h
        rw [HUV.out i h hio] at hj
        exact HVH.out i hio j hj
      have h0 := HM.out
      rw [HE.out, List.take_length, HN.out] at h0
      omega

set_option maxHeartbeats 800000 in
theorem laws_heldRuleS (v : Value) (n k0 : Nat) (w : World) (hv : rd w w.heap.size v (marksU k0 n)) (hk0 : k0 ≤ 274877906944) (hl : n ≤ 1048576) :
    Calls Tryd.prog 61 #[v, .int .i64 k0] w fun e w' => e = .returned (.int .i64 ((k0 + 2 * n : Nat) : Int)) ∧ Below w.heap.size w w' := by
  obtain ⟨A, n', c, rfl, hn, hc, hm, hr⟩ := hv
  rw [marksU_len] at hn
  subst hn
  unfold maxLen at hm
  have HR := Lib.hid hr; clear hr
  go_enter Tryd.func61, Tryd.ntmps61
  go_wp2
  go_loopw [1, 5] (fun t i wr => ∃ (k m : Nat), k ≤ n' ∧ i = .int .i64 k ∧ t = .int .i64 m ∧ Hid (m = k0 + 2 * k) ∧ Below w.heap.size w wr) (fun _ i _ => n' - (intOf i).toNat)
  case atStart => exact ⟨0, k0, Nat.zero_le _, rfl, rfl, rfl, Below.refl _ _⟩
  case round =>
    obtain ⟨k, m, hk, rfl, rfl, HM, hbl⟩ := hrel
    obtain ⟨w1, rfl⟩ : ∃ w1 : World, w1 = wr := ⟨_, rfl⟩
    have hmb : (m : Int) ≤ 824633720832 := by have := HM.out; omega
    by_cases hlt : k < n'
    · obtain ⟨b, o, rfl, hb, _, y1, y2⟩ := HR.out.fwdU k (by rw [marksU_len]; exact hlt)
      rw [marksU_get] at y1 y2
      have hm2 := HM.out
      rw [← hm2] at y1 y2
      clear hm2
      dsimp only at y1 y2
      have hmm : ((m : Int) != (m : Int)) = false := by simp
      have hkn : (k : Int) < (n' : Int) := by omega
      have ld := later_drew hbl
      have hq1 : ((markB m).toList != (markB m).toList) = false := by simp
      have hq2 : ((markB (m + 1)).toList != (markB (m + 1)).toList) = false := by simp
      have HMT1 := Lib.hid (fun W => laws_markText m W (by omega))
      have HMT2 : Hid (∀ W : World, Calls Tryd.prog 59 #[.int .i64 ((m : Int) + 1)] W fun e w' => e = .returned (.string (markB (m + 1))) ∧ Below W.heap.size W w') := fun W => laws_markText (m + 1) W (by omega)
      go_wp2
      go_region_held3 (fun W => Below w.heap.size w W) (first | exact ld | exact l2 | fail) (first | (go_at_call 59; (with_reducible refine (HMT1.out _).mono ?_); rintro e w2 ⟨rfl, b2⟩; have l2 := later_trans ld b2) | fail)
      all_goals
        have ld2 := later_drew l2
        clear ld
        go_wp2
        go_region_held3 (fun W => Below w.heap.size w W) (first | exact ld2 | exact l3 | fail) (first | (go_at_call 59; (with_reducible refine (HMT2.out _).mono ?_); rintro e w3 ⟨rfl, b3⟩; have l3 := later_trans ld2 b3) | fail)
        all_goals
          go_wp2
          go_roundw
          case rel => exact ⟨k + 1, m + 2, by omega, by go_num, by go_num, by show _ = _; have := HM.out; omega, l3⟩
          case measure => simp [intOf]; omega
    · have HE := Lib.hid (show k = n' by omega)
      go_wp2
      go_ret
      exact ⟨ret_int (by have := HM.out; have := HE.out; omega), hbl⟩

set_option maxRecDepth 100000 in
set_option maxHeartbeats 800000 in
theorem u_hdN (v : Value) (net : List Ofc) (k0 : Nat) (w : World) (hv : rd w w.heap.size v (marksN k0 net)) (hk0 : k0 ≤ 1099511) (hl : net.length ≤ 1000) (hll : ∀ k (h : k < net.length), net[k].rules.length ≤ 1000) (hmk : mkN net ≤ 2000000) :
    Calls Tryd.prog 25 #[v, .int .i64 k0] w fun e w' => e = .returned (.int .i64 ((k0 + mkN net : Nat) : Int)) ∧ Below w.heap.size w w' := by
  obtain ⟨A, n, c, rfl, hn, hc, hm, hr⟩ := hv
  have hn' : n = net.length := by rw [hn, marksN_len]
  clear hn
  subst hn'
  unfold maxLen at hm
  have HR := Lib.hid hr; clear hr
  have HLL := Lib.hid hll; clear hll
  obtain ⟨N, hN⟩ : ∃ N, mkN net = N := ⟨_, rfl⟩
  have HN := Lib.hid hN
  rw [hN] at hmk
  have HN' : Hid ((k0 : Nat) + mkN net = k0 + N) := by show _ = _; rw [HN.out]
  rw [HN'.out]
  clear hN
  go_enter Tryd.func25, Tryd.ntmps25
  go_wp2
  go_loopw [1, 5] (fun t i wr => ∃ (k m : Nat), k ≤ net.length ∧ i = .int .i64 k ∧ t = .int .i64 m ∧ Hid (m = k0 + mkN (net.take k)) ∧ Below w.heap.size w wr) (fun _ i _ => net.length - (intOf i).toNat)
  case atStart => exact ⟨0, k0, Nat.zero_le _, rfl, rfl, by show _ = _; simp [mkN], Below.refl _ _⟩
  case round =>
    obtain ⟨k, m, hk, rfl, rfl, HM, lr⟩ := hrel
    obtain ⟨w1, rfl⟩ : ∃ w1 : World, w1 = wr := ⟨_, rfl⟩
    by_cases hlt : k < net.length
    · obtain ⟨b, o, A2, c2, rfl, hb, _, hu, y1, y2⟩ := HR.out.ofcU k (by rw [marksN_len]; exact hlt)
      rw [marksN_get] at hu y1 y2
      have HS := Lib.hid (mkN_succ net hlt)
      have HTK : Hid (mkN (net.take (k + 1)) ≤ N) := by show _ ≤ _; rw [← HN.out]; exact mkN_take _ _
      have hlen := HLL.out k hlt
      have hm1 : m ≤ 4000000 := by have h0 := HM.out; have h1 := HS.out; have h2 := HTK.out; omega
      have hm0 := HM.out
      rw [← hm0] at hu y1 y2
      clear hm0
      obtain ⟨L, hL⟩ : ∃ L, net[k].rules.length = L := ⟨_, rfl⟩
      have HL := Lib.hid hL
      rw [hL] at hu hlen y1 y2
      clear hL
      dsimp only at hu y1 y2
      rw [marksU_len] at hu y2
      have HU := Lib.hid hu; clear hu
      have hki : (k : Int) < (net.length : Int) := by omega
      have hq1 : ((markB m).toList != (markB m).toList) = false := by simp
      have HMT1 := Lib.hid (fun W => laws_markText m W (by omega))
      have ld := later_drew lr
      go_wp2
      go_region_held3 (fun W => Below w.heap.size w W) (first | exact ld | exact l2 | fail) (first | (go_at_call 59; (with_reducible refine (HMT1.out _).mono ?_); rintro e w2 ⟨rfl, b2⟩; have l2 := later_trans ld b2) | fail)
      all_goals
        have HU2 := Lib.hid (HU.out.on l2)
        clear ld
        have hmb0 : (m : Int) + 1 ≤ 824633720832 := by omega
        go_wp2_with fail
        obtain ⟨q, hq⟩ : ∃ q : Nat, m + 1 + 2 * L = q := ⟨_, rfl⟩
        have HQ := Lib.hid hq
        have HC := laws_heldRuleS _ L (m + 1) _ HU2.out (by omega) (by omega)
        rw [hq] at HC
        clear hq
        refine HC.mono ?_
        rintro e w3 ⟨rfl, b3⟩
        have l3 := later_trans l2 b3
        have hmn : ¬ ((q : Int) < 0) := by omega
        clear b3 HC hmb0 hm1
        go_wp2_with fail
        go_roundw
        case rel =>
          refine ⟨k + 1, q, by omega, by go_num, rfl, ?_, l3⟩
          show _ = _
          have h0 := HM.out; have h1 := HS.out; have h2 := HL.out; have h3 := HQ.out
          omega
        case measure => simp [intOf]; omega
    · have HE := Lib.hid (show k = net.length by omega)
      go_wp2
      go_ret
      refine ⟨ret_int ?_, lr⟩
      have h0 := HM.out
      rw [HE.out, List.take_length, HN.out] at h0
      omega

end Go.Proofs.YtffbcfaahegglaaDoor
