/- ULL -/
import Derived.Test.YtiaepapdofcnjaaQ7
import Derived.Test.YtiaepapdofcnjaaQ14
namespace Go.Proofs.Ytiaepapdofcnjaa
open Go.RowKit

theorem finished_len (p : Pln) (xss : List (List Ltr)) (k : Int) : (finished p xss k).length ≤ 60 := by
  unfold finished
  split
  · rename_i h
    unfold binsOk at h
    simp only [Bool.and_eq_true] at h
    exact Nat.le_trans (passesN_len _ _ _ _) (okB_len' h.2)
  · simp
theorem wrongL_len (p : Pln) (xss : List (List Ltr)) (k : Int) : (wrongL p xss k).length ≤ 60 := by
  unfold wrongL
  split
  · rename_i h
    unfold binsOk at h
    simp only [Bool.and_eq_true] at h
    have h1 := wrongTo_len (fun x => binI p x.code k.toNat) xss xss.length (Nat.le_refl _)
    rw [List.take_length] at h1
    exact Nat.le_trans h1 (okB_len' h.2)
  · simp
def sumLL (xss : List (List Ltr)) : Nat := (xss.map szL).sum
def szLL (xss : List (List Ltr)) : Nat := xss.length + sumLL xss
theorem sumLL_succ (xss : List (List Ltr)) (k : Nat) (h : k < xss.length) : sumLL (xss.take (k + 1)) = sumLL (xss.take k) + szL xss[k] := by
  unfold sumLL; rw [List.take_succ_eq_append_getElem h, List.map_append, List.sum_append]; simp
theorem sumLL_le (xss : List (List Ltr)) (k : Nat) : sumLL (xss.take k) ≤ sumLL xss := by
  unfold sumLL
  conv => rhs; rw [← List.take_append_drop k xss, List.map_append, List.sum_append]
  omega
theorem flatten_le_szLL (xss : List (List Ltr)) : xss.flatten.length ≤ szLL xss := by
  unfold szLL sumLL
  induction xss with
  | nil => simp
  | cons x xss ih =>
    simp only [List.flatten_cons, List.length_append, List.map_cons, List.sum_cons, List.length_cons]
    have : x.length ≤ szL x := by unfold szL; omega
    omega
theorem row_le_szLL {xss : List (List Ltr)} {k : Nat} (h : k < xss.length) : szL xss[k] ≤ szLL xss := by
  have h1 := sumLL_succ xss k h
  have h2 := sumLL_le xss (k + 1)
  unfold szLL; omega

set_option maxHeartbeats 400000 in
theorem u_szLL (v : Value) (xss : List (List Ltr)) (l : Int) (w : World) (hv : rd w w.heap.size v xss) (h0 : 0 ≤ l) (h1 : l ≤ 1048576) :
    Calls Try.prog 14 #[v, .int .i64 l] w fun e w' => e = .returned (.int .i64 (leftOf l (szLL xss : Nat))) ∧ Below w.heap.size w w' := by
  obtain ⟨A, n, c, rfl, hn, hc, hm, hr⟩ := hv
  subst hn
  unfold maxLen at hm
  have HR := Lib.hid hr; clear hr
  have HQ : Hid (leftOf l (szLL xss : Nat) = if l < ((xss.length + sumLL xss : Nat) : Int) then -1 else l - ((xss.length + sumLL xss : Nat) : Int)) := rfl
  obtain ⟨Z, HZ⟩ : ∃ Z, Hid (leftOf l (szLL xss : Nat) = Z) := ⟨_, rfl⟩
  rw [HZ.out]
  have HQ : Hid (Z = if l < ((xss.length + sumLL xss : Nat) : Int) then -1 else l - ((xss.length + sumLL xss : Nat) : Int)) := by show _ = _; rw [← HZ.out]; exact HQ.out
  go_enter Try.func14, Try.ntmps14
  by_cases h : l < xss.length
  · go_wp2
    go_ret
    exact ⟨ret_int (by rw [HQ.out, if_pos (by omega)]), Below.refl _ _⟩
  · go_wp2
    go_loopw [1, 5] (fun t i wr => ∃ (k : Nat) (m : Int), k ≤ xss.length ∧ i = .int .i64 k ∧ t = .int .i64 m ∧ 0 ≤ m ∧ m ≤ 1048576 ∧ Below w.heap.size w wr ∧ Hid (m = l - xss.length - sumLL (xss.take k))) (fun _ i _ => xss.length - (intOf i).toNat)
    case atStart => exact ⟨0, _, Nat.zero_le _, rfl, rfl, by omega, by omega, Below.refl _ _, by show _ = _; simp [sumLL]⟩
    case round =>
      obtain ⟨k, m, hk, rfl, rfl, m0, m1, hbl, HM⟩ := hrel
      obtain ⟨w1, rfl⟩ : ∃ w1 : World, w1 = wr := ⟨_, rfl⟩
      by_cases hlt : k < xss.length
      · obtain ⟨b, o, u, rfl, hb, hu, c1⟩ := HR.out.rowU k hlt
        have HS := Lib.hid (sumLL_succ xss k hlt)
        have HL := Lib.hid (sumLL_le xss (k + 1))
        generalize xss[k] = ys at *
        obtain ⟨A2, m2, c2, rfl, hm2, hc2, hmm2, hr2⟩ := hu
        have HU : Hid (rd w w.heap.size (.slice A2 m2 c2) ys) := ⟨A2, m2, c2, rfl, hm2, hc2, hmm2, hr2⟩
        clear hm2 hc2 hmm2 hr2
        obtain ⟨r, hrr⟩ : ∃ r, leftOf m (szL ys : Nat) = r := ⟨_, rfl⟩
        have hok := @leftOf_ok m (szL ys)
        have HE : Hid (r = if m < (szL ys : Nat) then -1 else m - (szL ys : Nat)) := by show _ = _; rw [← hrr]; rfl
        rw [hrr] at hok
        have HRR := Lib.hid hrr; clear hrr
        have HOK := Lib.hid hok; clear hok
        go_wp2_with fail
        refine (u_szL _ ys m _ (HU.out.on hbl) m0 m1).mono ?_
        rw [HRR.out]
        rintro e w2 ⟨rfl, b2⟩
        have l2 := later_trans hbl b2
        by_cases hs : r < 0
        · go_wp2_with fail
          go_ret
          refine ⟨ret_int ?_, l2⟩
          have := HM.out; have h2 := HS.out; have h3 := HL.out; have h4 := HE.out
          split at h4
          · rw [HQ.out, if_pos (by omega)]
          · omega
        · obtain ⟨a1, a2, _⟩ := HOK.out (by omega) m1
          go_wp2_with fail
          go_roundw
          case rel =>
            refine ⟨k + 1, r, by omega, by go_num, rfl, a1, a2, l2, ?_⟩
            show _ = _
            have := HM.out; have h2 := HS.out; have h4 := HE.out
            split at h4 <;> omega
          case measure => simp [intOf]; omega
      · have HE := Lib.hid (show k = xss.length by omega)
        go_wp2
        go_ret
        refine ⟨ret_int ?_, hbl⟩
        have := HM.out
        rw [HE.out, List.take_length] at this
        rw [HQ.out, if_neg (by omega)]; omega

/-- The first k rows laid, the others empty. -/
def laidTo (xss : List (List Ltr)) (k : Nat) : List (List Ltr) := xss.take k ++ List.replicate (xss.length - k) []
theorem laidTo_len {xss : List (List Ltr)} {k : Nat} (h : k ≤ xss.length) : (laidTo xss k).length = xss.length := by
  simp [laidTo]; omega
theorem laidTo_step {xss : List (List Ltr)} {k : Nat} (h : k < xss.length) : (laidTo xss k).set k xss[k] = laidTo xss (k + 1) := by
  unfold laidTo
  have hl : (xss.take k).length = k := by rw [List.length_take]; omega
  rw [List.set_append_right _ _ (by omega), hl, Nat.sub_self, show xss.length - k = (xss.length - (k + 1)) + 1 by omega, List.replicate_succ, List.set_cons_zero, List.take_succ_eq_append_getElem h, List.append_assoc]
  rfl
theorem laidTo_all (xss : List (List Ltr)) : laidTo xss xss.length = xss := by simp [laidTo]
theorem laidTo_nil (xss : List (List Ltr)) : laidTo xss 0 = List.replicate xss.length [] := by simp [laidTo]

/-- A row of its own put in a place. -/
theorem isLL.put {α : Type} [Flat α] {T1 T2 base G n c : Nat} {w w1 : World} {vs : List Value} {xss : List (List α)} {ys : List α} {v' : Value} {d B : Nat}
    (h : isLL T1 T2 base w (.slice (some ⟨G, 0, none⟩) n c) xss vs) (hb : Below w.heap.size w w1)
    (hd : d < vs.length) (ho : own T2 B w1 v' ys) (hB : w.heap.size ≤ B) (hbase : base ≤ w.heap.size) :
    isLL T1 T2 base (w1.setCell ⟨G, d, none⟩ v') (.slice (some ⟨G, 0, none⟩) n c) (xss.set d ys) (vs.set d v') := by
  obtain ⟨h1, h2, h3, h4, h5⟩ := h
  have hv1 : v'.oneCell' = true := by
    rcases ho.form with ⟨rfl, _⟩ | ⟨g, c, rfl, _⟩ <;> rfl
  have q2 := (h1.below hb).setCell (k := d) (j := 0) hd (by decide) v' v' (fun ecs he => by
    obtain ⟨rfl, _⟩ := he
    exact ⟨rfl, hv1⟩)
  rw [show d * El.size Value + 0 = d from Nat.mul_one d] at q2
  have hset : w1.grownBy (w1.setCell ⟨G, d, none⟩ v') (some G) := grown_setCell (World.grownBy.refl _ _) (.inl rfl) _
  have hG := h1.blk G rfl
  have hvG : apart v' (.slice (some ⟨G, 0, none⟩) n c) := apart_gt ho h1 hB
  have hfar : ∀ i (hi : i < vs.length), apart v' vs[i] := fun i hi => apart_gt ho (h3 i hi (by omega)) hB
  refine ⟨q2, by simp [h2], fun k h h' => ?_, fun j k hj hk hne => ?_, fun k h => ?_⟩
  · by_cases hkd : k = d
    · subst hkd
      simp only [List.getElem_set_self]
      exact (ho.grown hset hvG).base_ (Nat.le_trans hbase hB)
    · rw [List.getElem_set_ne (by omega), List.getElem_set_ne (by omega)]
      have hk1 : k < vs.length := by simpa using h
      have hk2 : k < xss.length := by simpa using h'
      exact ((h3 k hk1 hk2).below hb).grown hset (h5 k hk1)
  · have hj' : j < vs.length := by simpa using hj
    have hk' : k < vs.length := by simpa using hk
    by_cases hjd : j = d
    · subst hjd
      simp only [List.getElem_set_self]
      rw [List.getElem_set_ne (by omega)]
      exact hfar k hk'
    · by_cases hkd : k = d
      · subst hkd
        simp only [List.getElem_set_self]
        rw [List.getElem_set_ne (by omega)]
        exact apart_symm (hfar j hj')
      · rw [List.getElem_set_ne (by omega), List.getElem_set_ne (by omega)]
        exact h4 j k hj' hk' hne
  · by_cases hkd : k = d
    · subst hkd; simp only [List.getElem_set_self]; exact hvG
    · rw [List.getElem_set_ne (by omega)]; exact h5 k (by simpa using h)

set_option maxRecDepth 100000 in
set_option maxHeartbeats 800000 in
theorem u_toLL (v : Value) (xss : List (List Ltr)) (w : World) (hv : rd w w.heap.size v xss) (hs : szLL xss ≤ 1048576) :
    Calls Try.prog 17 #[v] w fun e w' => ∃ v', e = .returned v' ∧ ownLL 29 103 w.heap.size w' v' xss ∧ Below w.heap.size w w' := by
  obtain ⟨A, n, c, rfl, hn, hc, hm, hr⟩ := hv
  subst hn
  unfold maxLen at hm
  have HR := Lib.hid hr; clear hr
  have hn20 : xss.length ≤ 1048576 := by unfold szLL at hs; omega
  have HSZ := Lib.hid hs; clear hs
  have l0 := Below.refl w.heap.size w
  obtain ⟨i0, hi, hz0, hz1, hz2⟩ := info_parts Try.infoRow
  have hmk := make_row (P := Try.prog) 28 29 i0 _ Try.underlying28 hi hz0 xss.length (by rw [hz2]; omega) (by omega)
  go_enter Try.func17, Try.ntmps17
  go_wp2
  obtain ⟨vs0, hoz⟩ := made_nil_row (α := Ltr) w 29 103 xss.length w.heap.size (Nat.le_refl _) (by unfold maxLen; omega)
  have lz : Below w.heap.size w (w.alloc (Obj.cells (madeCells #[.slice none 0 0] xss.length) 29)) := later_alloc l0 _
  generalize (w.alloc (Obj.cells (madeCells #[.slice none 0 0] xss.length) 29)) = wz at *
  have HOZ := Lib.hid hoz
  clear hmk hoz l0
  go_loopw [4] (fun i wr => ∃ (k : Nat) (vs : List Value), k ≤ xss.length ∧ i = .int .i64 k ∧ Below w.heap.size w wr ∧ isLL 29 103 w.heap.size wr (.slice (some ⟨w.heap.size, 0, none⟩) xss.length xss.length) (laidTo xss k) vs) (fun i _ => xss.length - (intOf i).toNat)
  case atStart => exact ⟨0, vs0, Nat.zero_le _, rfl, lz, by rw [laidTo_nil]; exact HOZ.out⟩
  case round =>
    obtain ⟨k, vs, hk, rfl, lr, hB⟩ := hrel
    obtain ⟨w1, rfl⟩ : ∃ w1 : World, w1 = wr := ⟨_, rfl⟩
    have HB := Lib.hid hB
    clear hB lz
    by_cases hlt : k < xss.length
    · obtain ⟨b, o, u, rfl, hb, hu, c1⟩ := HR.out.rowU k hlt
      have HST := Lib.hid (laidTo_step hlt)
      have HLEN := Lib.hid (laidTo_len (xss := xss) (k := k) (by omega))
      have HRS := Lib.hid (Nat.le_trans (row_le_szLL hlt) HSZ.out)
      generalize xss[k] = ys at *
      obtain ⟨A2, m2, c2, rfl, hm2, hc2, hmm2, hr2⟩ := hu
      have HU : Hid (rd w w.heap.size (.slice A2 m2 c2) ys) := ⟨A2, m2, c2, rfl, hm2, hc2, hmm2, hr2⟩
      clear hm2 hc2 hmm2 hr2
      have hki : (k : Int) < (xss.length : Int) := by omega
      have hlv : k < vs.length := by rw [HB.out.2.1, HLEN.out]; exact hlt
      go_wp2_with fail
      refine (u_toL _ ys _ (HU.out.on lr) HRS.out).mono ?_
      rintro e w2 ⟨v2, rfl, o2, b2⟩
      have l2 := later_trans lr b2
      have HP := Lib.hid (HB.out.put b2 hlv o2 (Nat.le_refl _) lr.size)
      have hb2 := HB.out.below b2
      have g0 : w2.cell? ⟨w.heap.size, k, none⟩ = some vs[k] := own_cellv hb2.1 k hlv
      have f0 : w2.frozen? ⟨w.heap.size, k, none⟩ = false := hb2.1.freeAt k
      obtain ⟨A3, m3, c3, rfl, hm3, _, _, _⟩ := o2.rd
      subst hm3
      clear hb2 o2 b2
      go_wp2_with fail
      go_roundw
      case rel => exact ⟨k + 1, _, by omega, by go_num, later_set l2 (p := ⟨w.heap.size, k, none⟩) (Nat.le_refl _) _, by rw [← HST.out]; exact HP.out⟩
      case measure => simp [intOf]; omega
    · have HE := Lib.hid (show k = xss.length by omega)
      go_wp2
      go_ret
      have h := HB.out
      rw [HE.out, laidTo_all] at h
      exact ⟨_, rfl, ⟨vs, h⟩, lr⟩

set_option maxRecDepth 100000 in
set_option maxHeartbeats 800000 in
theorem u_eqLL (v v' : Value) (xss : List (List Ltr)) (w : World) (hv : rd w w.heap.size v xss) (hv' : rd w w.heap.size v' xss) :
    Calls Try.prog 19 #[v, v'] w fun e w' => e = .returned (.bool true) ∧ Below w.heap.size w w' := by
  obtain ⟨A, n, c, rfl, hn, hc, hm, hr⟩ := hv
  obtain ⟨A', n', c', rfl, hn', hc', hm', hr'⟩ := hv'
  subst hn hn'
  unfold maxLen at hm hm'
  have HR := Lib.hid hr; clear hr
  have HR' := Lib.hid hr'; clear hr'
  have hl1 : ((xss.length : Int) != (xss.length : Int)) = false := by simp
  have l0 := Below.refl w.heap.size w
  go_enter Try.func19, Try.ntmps19
  go_wp2
  go_loopw [5] (fun i wr => ∃ k : Nat, k ≤ xss.length ∧ i = .int .i64 k ∧ Below w.heap.size w wr) (fun i _ => xss.length - (intOf i).toNat)
  case atStart => exact ⟨0, Nat.zero_le _, rfl, l0⟩
  case round =>
    obtain ⟨k, hk, rfl, lr⟩ := hrel
    obtain ⟨w1, rfl⟩ : ∃ w1 : World, w1 = wr := ⟨_, rfl⟩
    clear l0
    by_cases hlt : k < xss.length
    · obtain ⟨b, o, u, rfl, hb, hu, c1⟩ := HR.out.rowU k hlt
      obtain ⟨b', o', u', rfl, hb', hu', d1⟩ := HR'.out.rowU k hlt
      generalize xss[k] = ys at *
      obtain ⟨A2, m2, c2, rfl, hm2, hc2, hmm2, hr2⟩ := hu
      obtain ⟨A3, m3, c3, rfl, hm3, hc3, hmm3, hr3⟩ := hu'
      have HU : Hid (rd w w.heap.size (.slice A2 m2 c2) ys) := ⟨A2, m2, c2, rfl, hm2, hc2, hmm2, hr2⟩
      have HU' : Hid (rd w w.heap.size (.slice A3 m3 c3) ys) := ⟨A3, m3, c3, rfl, hm3, hc3, hmm3, hr3⟩
      clear hm2 hc2 hmm2 hr2 hm3 hc3 hmm3 hr3
      have hki : (k : Int) < (xss.length : Int) := by omega
      have ld := later_drew lr
      have HC : Hid (∀ W, Below w.heap.size w W → Calls Try.prog 20 #[.slice A2 m2 c2, .slice A3 m3 c3] W fun e w' => e = .returned (.bool true) ∧ Below W.heap.size W w') := fun W hW => u_eqL _ _ ys W (HU.out.on hW) (HU'.out.on hW)
      go_wp2
      go_region_held3 (fun W => Below w.heap.size w W) (first | exact ld | exact later_trans ld b3) (first | (go_at_call 20; refine (HC.out _ ld).mono ?_; rintro e w3 ⟨rfl, b3⟩))
      have l3 := later_trans ld b3
      go_wp2
      go_roundw
      case rel => exact ⟨k + 1, by omega, by go_num, l3⟩
      case measure => simp [intOf]; omega
    · go_wp2
      go_ret
      exact ⟨rfl, lr⟩

/-- A row of rows of the call's own, in blocks before hi. -/
def segLL (T1 T2 lo hi : Nat) (w : World) (v : Value) (xss : List (List Ltr)) : Prop := ∃ vs, isLL T1 T2 lo w v xss vs ∧ (∀ k, v.ownBlock = some k → k < hi) ∧ ∀ i (h : i < vs.length) k, vs[i].ownBlock = some k → k < hi
theorem segLL.of {T1 T2 lo : Nat} {w : World} {v : Value} {xss : List (List Ltr)} (h : ownLL T1 T2 lo w v xss) : segLL T1 T2 lo w.heap.size w v xss := by
  obtain ⟨vs, h⟩ := h
  exact ⟨vs, h, fun k hk => (h.1.blk k hk).2, fun i hi k hk => ((h.2.2.1 i hi (by have := h.2.1; omega)).blk k hk).2⟩
theorem segLL.below {T1 T2 lo hi : Nat} {w w' : World} {v : Value} {xss : List (List Ltr)} (h : segLL T1 T2 lo hi w v xss) (hb : Below w.heap.size w w') : segLL T1 T2 lo hi w' v xss := by
  obtain ⟨vs, h1, h2, h3⟩ := h
  exact ⟨vs, h1.below hb, h2, h3⟩
theorem segLL.out {T1 T2 lo hi a b : Nat} {w w' : World} {v : Value} {xss : List (List Ltr)} (h : segLL T1 T2 lo hi w v xss) (ho : OutI a b w w') (hd : hi ≤ a ∨ b ≤ lo) : segLL T1 T2 lo hi w' v xss := by
  obtain ⟨vs, ⟨g1, g2, g3, g4, g5⟩, h2, h3⟩ := h
  refine ⟨vs, ⟨g1.keepBlk fun k hk => ho.block k (g1.blk k hk).2 (by have q1 := (g1.blk k hk).1; have q2 := h2 k hk; omega), g2, fun i hi hi' => ?_, g4, g5⟩, h2, h3⟩
  exact (g3 i hi hi').keepBlk fun k hk => ho.block k ((g3 i hi hi').blk k hk).2 (by have q1 := ((g3 i hi hi').blk k hk).1; have q2 := h3 i hi k hk; omega)
theorem segLL.rd {T1 T2 lo hi : Nat} {w : World} {v : Value} {xss : List (List Ltr)} (h : segLL T1 T2 lo hi w v xss) : rd w w.heap.size v xss := by
  obtain ⟨vs, h1, _⟩ := h
  exact ownLL.rd ⟨vs, h1⟩

set_option maxRecDepth 100000 in
set_option maxHeartbeats 800000 in
theorem u_wmLL (T1 T2 lo hi : Nat) (v : Value) (xss : List (List Ltr)) (k0 : Nat) (w : World) (hv : segLL T1 T2 lo hi w v xss) (hk0 : k0 ≤ 1099511627) (hs : szLL xss ≤ 1048576) :
    Calls Try.prog 23 #[v, .int .i64 k0] w fun e w' => e = .returned (.int .i64 ((k0 + 2 * xss.flatten.length : Nat) : Int)) ∧ OutI lo hi w w' := by
  have hfl := Nat.le_trans (flatten_le_szLL xss) hs
  obtain ⟨vs, hB, hhi, hvh⟩ := hv
  rcases ownLL.form (show ownLL T1 T2 lo w v xss from ⟨vs, hB⟩) with ⟨rfl, rfl⟩ | ⟨g, c, rfl, hg, hgl, hc, hm⟩
  · go_enter Try.func23, Try.ntmps23
    go_wp2
    go_loopw [1, 5] (fun t i wr => i = .int .i64 0 ∧ t = .int .i64 k0 ∧ wr = w) (fun _ _ _ => 0)
    case atStart => exact ⟨rfl, rfl, rfl⟩
    case round =>
      obtain ⟨rfl, rfl, rfl⟩ := hrel
      go_wp2
      go_ret
      exact ⟨ret_int (by simp), OutI.refl _ _ _⟩
  unfold maxLen at hm
  have HVH := Lib.hid hvh; clear hvh
  have HB := Lib.hid hB; clear hB
  have hn20 : xss.length ≤ 1048576 := by unfold szLL at hs; omega
  obtain ⟨N, hN⟩ : ∃ N, xss.flatten.length = N := ⟨_, rfl⟩
  have HN := Lib.hid hN
  rw [hN] at hfl
  have hVN := HB.out.2.1
  have HVN := Lib.hid hVN; clear hVN hN hs
  have HGF := Lib.hid (hhi g rfl); clear hhi
  have hgNe : Hid (∀ i (h : i < vs.length), vs[i].ownBlock = none ∨ vs[i].ownBlock ≠ some g) := fun i h => HB.out.2.2.2.2 i h
  have HN' : Hid ((k0 : Nat) + 2 * xss.flatten.length = k0 + 2 * N) := by show _ = _; rw [HN.out]
  rw [HN'.out]
  go_enter Try.func23, Try.ntmps23
  go_wp2
  go_loopw [1, 5] (fun t i wr => ∃ (k m : Nat), k ≤ xss.length ∧ i = .int .i64 k ∧ t = .int .i64 m ∧ Hid (m = k0 + 2 * (xss.take k).flatten.length) ∧ OutI lo hi w wr ∧ own T1 lo wr (.slice (some ⟨g, 0, none⟩) xss.length c) vs ∧ Hid (∀ i (h : i < vs.length) (h' : i < xss.length), k ≤ i → own T2 lo wr vs[i] xss[i])) (fun _ i _ => xss.length - (intOf i).toNat)
  case atStart => exact ⟨0, k0, Nat.zero_le _, rfl, rfl, by show _ = _; simp, OutI.refl _ _ _, HB.out.1, fun i h h' _ => HB.out.2.2.1 i h h'⟩
  case round =>
    obtain ⟨k, m, hk, rfl, rfl, HM, hO, hV, HI⟩ := hrel
    obtain ⟨w1, rfl⟩ : ∃ w1 : World, w1 = wr := ⟨_, rfl⟩
    have HO := Lib.hid hO; have HV := Lib.hid hV
    clear hO hV
    by_cases hlt : k < xss.length
    · have hlv : k < vs.length := by rw [HVN.out]; exact hlt
      have hrow := HI.out k hlv hlt (Nat.le_refl _)
      have c0 : w1.cell? ⟨g, k, none⟩ = some vs[k] := own_cellv HV.out k hlv
      have HS : Hid ((xss.take (k + 1)).flatten.length = (xss.take k).flatten.length + xss[k].length) := by show _ = _; rw [List.take_succ_eq_append_getElem hlt, List.flatten_append, List.length_append]; simp
      have HTK : Hid ((xss.take (k + 1)).flatten.length ≤ N) := by
        show _ ≤ _
        rw [← HN.out]
        have := congrArg (fun l => (List.flatten l).length) (List.take_append_drop (k + 1) xss)
        simp only [List.flatten_append, List.length_append] at this
        omega
      have hlen : xss[k].length ≤ 1048576 := by have h1 := HS.out; have h2 := HTK.out; omega
      have hm1 : m ≤ 274877906944 := by have h0 := HM.out; have h1 := HS.out; have h2 := HTK.out; omega
      obtain ⟨ys, hys⟩ : ∃ ys, ys = xss[k] := ⟨_, rfl⟩
      have HYS := Lib.hid hys
      rw [← hys] at hrow hlen
      clear hys
      obtain ⟨u, hu⟩ : ∃ u, u = vs[k] := ⟨_, rfl⟩
      have HUK := Lib.hid hu
      rw [← hu] at hrow c0
      clear hu
      have HRW := Lib.hid hrow
      obtain ⟨A2, m2, c2, rfl, hm2, _, _, _⟩ := hrow.rd
      clear hm2 hrow
      have hki : (k : Int) < (xss.length : Int) := by omega
      go_wp2_with fail
      refine (laws_markLetterS T2 lo _ ys m _ HRW.out hm1 hlen).mono ?_
      rintro e w2 ⟨rfl, o2, g2⟩
      have HO2 := Lib.hid (HO.out.trans (OutI.of_grown (lo := lo) (hi := hi) g2 fun j hj => ⟨(HRW.out.blk j hj).1, HVH.out k hlv j (by rw [← HUK.out]; exact hj)⟩))
      have HV2 := Lib.hid (HV.out.grown g2 (.inr (by
        have := hgNe.out k hlv
        rw [← HUK.out] at this
        rcases this with h | h
        · rw [h]; show some g ≠ none; simp
        · exact fun e => h e.symm)))
      have HI2 : Hid (∀ i (h : i < vs.length) (h' : i < xss.length), k + 1 ≤ i → own T2 lo w2 vs[i] xss[i]) := fun i h h' hi => (HI.out i h h' (by omega)).grown g2 (by
        have := HB.out.2.2.2.1 i k h hlv (by omega)
        unfold apart at this
        rw [HUK.out]
        exact this)
      clear o2 g2
      have hmb : (m : Int) + 2 * (ys.length : Int) ≤ 824633720832 := by omega
      go_wp2_with fail
      go_roundw
      case rel =>
        refine ⟨k + 1, m + 2 * ys.length, by omega, by go_num, by go_num, ?_, HO2.out, HV2.out, HI2.out⟩
        show _ = _
        have h0 := HM.out; have h1 := HS.out; have h2 := congrArg List.length HYS.out
        omega
      case measure => simp [intOf]; omega
    · have HE := Lib.hid (show k = xss.length by omega)
      go_wp2
      go_ret
      refine ⟨ret_int ?_, HO.out⟩
      have h0 := HM.out
      rw [HE.out, List.take_length, HN.out] at h0
      omega

end Go.Proofs.Ytiaepapdofcnjaa
