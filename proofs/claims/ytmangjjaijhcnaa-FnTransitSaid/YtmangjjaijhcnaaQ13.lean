/- GO K1 K2 -/
import Derived.Test.YtmangjjaijhcnaaQ9
import Derived.Test.YtmangjjaijhcnaaQ11
import Derived.Test.YtmangjjaijhcnaaQ12
import Derived.Test.YtmangjjaijhcnaaQ1
import Derived.Test.YtmangjjaijhcnaaQ5
import Derived.Test.YtmangjjaijhcnaaQ2
import Derived.Laws.MathBits
import Derived.Handy
import Derived.Deep.QuietTactic
import Derived.BigQuiet
namespace Go.Proofs.Ytmangjjaijhcnaa
open Go.RowKit

def szO (o : Ofc) : Nat := o.name.size + (o.rules.length + sumFw o.rules)
def sumO (net : List Ofc) : Nat := (net.map szO).sum
def szN (net : List Ofc) : Nat := net.length + sumO net
theorem sumO_succ (net : List Ofc) (k : Nat) (h : k < net.length) : sumO (net.take (k + 1)) = sumO (net.take k) + szO net[k] := by
  unfold sumO; rw [List.take_succ_eq_append_getElem h, List.map_append, List.sum_append]; simp
theorem sumO_le (net : List Ofc) (k : Nat) : sumO (net.take k) ≤ sumO net := by
  unfold sumO
  conv => rhs; rw [← List.take_append_drop k net, List.map_append, List.sum_append]
  omega
theorem ofc_le_szN {net : List Ofc} {k : Nat} (h : k < net.length) : szO net[k] ≤ szN net := by
  have h1 := sumO_succ net k h
  have h2 := sumO_le net (k + 1)
  unfold szN; omega

set_option maxHeartbeats 400000 in
theorem laws_szOffice (o : Ofc) (A : Option Addr) (c : Nat) (l : Int) (w : World) (hn : o.name.size ≤ maxLen) (hv : rd w w.heap.size (.slice A o.rules.length c) o.rules) (h0 : 0 ≤ l) (h1 : l ≤ 1048576) :
    Calls Try.prog 62 #[.agg #[.string o.name, .slice A o.rules.length c], .int .i64 l] w fun e w' => e = .returned (.int .i64 (leftOf l (szO o : Nat))) ∧ Below w.heap.size w w' := by
  unfold maxLen at hn
  have HV := Lib.hid hv; clear hv
  have HQ : Hid (leftOf l (szO o : Nat) = if l < ((o.name.size + (o.rules.length + sumFw o.rules) : Nat) : Int) then -1 else l - ((o.name.size + (o.rules.length + sumFw o.rules) : Nat) : Int)) := rfl
  obtain ⟨Z, HZ⟩ : ∃ Z, Hid (leftOf l (szO o : Nat) = Z) := ⟨_, rfl⟩
  rw [HZ.out]
  have HQ : Hid (Z = if l < ((o.name.size + (o.rules.length + sumFw o.rules) : Nat) : Int) then -1 else l - ((o.name.size + (o.rules.length + sumFw o.rules) : Nat) : Int)) := by show _ = _; rw [← HZ.out]; exact HQ.out
  go_enter Try.func62, Try.ntmps62
  by_cases h : l < o.name.size
  · go_wp2_with fail
    go_ret
    exact ⟨ret_int (by rw [HQ.out, if_pos (by omega)]), (Below.refl _ _).alloc (Nat.le_refl _) _⟩
  have lb : Below w.heap.size w (w.alloc (Obj.cells #[.string o.name, .slice A o.rules.length c] 99)) := (Below.refl _ _).alloc (Nat.le_refl _) _
  obtain ⟨m, hm⟩ : ∃ m, l - o.name.size = m := ⟨_, rfl⟩
  have hm0 : 0 ≤ m := by omega
  have hm1 : m ≤ 1048576 := by omega
  obtain ⟨r, hrr⟩ : ∃ r, leftOf m ((o.rules.length + sumFw o.rules : Nat) : Int) = r := ⟨_, rfl⟩
  have HE : Hid (r = if m < ((o.rules.length + sumFw o.rules : Nat) : Int) then -1 else m - ((o.rules.length + sumFw o.rules : Nat) : Int)) := by show _ = _; rw [← hrr]; rfl
  have HRR := Lib.hid hrr; clear hrr
  have HMM := Lib.hid hm
  go_wp2_with fail
  refine (laws_szRuleS _ o.rules m _ (HV.out.on lb) hm0 hm1).mono ?_
  rw [HRR.out]
  rintro e w2 ⟨rfl, b2⟩
  have l2 := later_trans lb b2
  by_cases hs : r < 0
  · go_wp2_with fail
    go_ret
    refine ⟨ret_int ?_, l2⟩
    have h4 := HE.out
    split at h4
    · rw [HQ.out, if_pos (by omega)]
    · omega
  · go_wp2_with fail
    go_ret
    refine ⟨ret_int ?_, l2⟩
    have h4 := HE.out
    split at h4
    · omega
    · rw [HQ.out, if_neg (by omega)]; omega

set_option maxHeartbeats 400000 in
theorem u_szN (v : Value) (xss : List Ofc) (l : Int) (w : World) (hv : rd w w.heap.size v xss) (h0 : 0 ≤ l) (h1 : l ≤ 1048576) :
    Calls Try.prog 16 #[v, .int .i64 l] w fun e w' => e = .returned (.int .i64 (leftOf l (szN xss : Nat))) ∧ Below w.heap.size w w' := by
  obtain ⟨A, n, c, rfl, hn, hc, hm, hr⟩ := hv
  subst hn
  unfold maxLen at hm
  have HR := Lib.hid hr; clear hr
  have HQ : Hid (leftOf l (szN xss : Nat) = if l < ((xss.length + sumO xss : Nat) : Int) then -1 else l - ((xss.length + sumO xss : Nat) : Int)) := rfl
  obtain ⟨Z, HZ⟩ : ∃ Z, Hid (leftOf l (szN xss : Nat) = Z) := ⟨_, rfl⟩
  rw [HZ.out]
  have HQ : Hid (Z = if l < ((xss.length + sumO xss : Nat) : Int) then -1 else l - ((xss.length + sumO xss : Nat) : Int)) := by show _ = _; rw [← HZ.out]; exact HQ.out
  go_enter Try.func16, Try.ntmps16
  by_cases h : l < xss.length
  · go_wp2
    go_ret
    exact ⟨ret_int (by rw [HQ.out, if_pos (by omega)]), Below.refl _ _⟩
  · go_wp2
    go_loopw [1, 5] (fun t i wr => ∃ (k : Nat) (m : Int), k ≤ xss.length ∧ i = .int .i64 k ∧ t = .int .i64 m ∧ 0 ≤ m ∧ m ≤ 1048576 ∧ Below w.heap.size w wr ∧ Hid (m = l - xss.length - sumO (xss.take k))) (fun _ i _ => xss.length - (intOf i).toNat)
    case atStart => exact ⟨0, _, Nat.zero_le _, rfl, rfl, by omega, by omega, Below.refl _ _, by show _ = _; simp [sumO]⟩
    case round =>
      obtain ⟨k, m, hk, rfl, rfl, m0, m1, hbl, HM⟩ := hrel
      obtain ⟨w1, rfl⟩ : ∃ w1 : World, w1 = wr := ⟨_, rfl⟩
      by_cases hlt : k < xss.length
      · obtain ⟨b, o, A2, c2, rfl, hb, hnm, hu, y1, y2⟩ := HR.out.ofcU k hlt
        have HS := Lib.hid (sumO_succ xss k hlt)
        have HL := Lib.hid (sumO_le xss (k + 1))
        generalize xss[k] = y at *
        have HU := Lib.hid hu; clear hu
        obtain ⟨r, hrr⟩ : ∃ r, leftOf m (szO y : Nat) = r := ⟨_, rfl⟩
        have hok := @leftOf_ok m (szO y)
        have HE : Hid (r = if m < (szO y : Nat) then -1 else m - (szO y : Nat)) := by show _ = _; rw [← hrr]; rfl
        rw [hrr] at hok
        have HRR := Lib.hid hrr; clear hrr
        have HOK := Lib.hid hok; clear hok
        go_wp2_with fail
        refine (laws_szOffice y _ _ m _ hnm (HU.out.on hbl) m0 m1).mono ?_
        rw [HRR.out]
        rintro e w2 ⟨rfl, b2⟩
        have l2 := later_trans hbl b2
        by_cases hs : r < 0
        · go_wp2_with fail
          go_ret
          refine ⟨ret_int ?_, l2⟩
          have := HM.out; have h2 := HS.out; have h3 := HL.out; have h4 := HE.out
          split at h4
          · rw [HQ.out, if_pos (by omega)]
          · omega
        · obtain ⟨a1, a2, _⟩ := HOK.out (by omega) m1
          go_wp2_with fail
          go_roundw
          case rel =>
            refine ⟨k + 1, r, by omega, by go_num, rfl, a1, a2, l2, ?_⟩
            show _ = _
            have := HM.out; have h2 := HS.out; have h4 := HE.out
            split at h4 <;> omega
          case measure => simp [intOf]; omega
      · have HE := Lib.hid (show k = xss.length by omega)
        go_wp2
        go_ret
        refine ⟨ret_int ?_, hbl⟩
        have := HM.out
        rw [HE.out, List.take_length] at this
        rw [HQ.out, if_neg (by omega)]; omega

set_option maxHeartbeats 400000 in
theorem laws_toOffice (o : Ofc) (A : Option Addr) (c : Nat) (w : World) (hv : rd w w.heap.size (.slice A o.rules.length c) o.rules) (hl : o.rules.length ≤ 1048576) :
    Calls Try.prog 67 #[.agg #[.string o.name, .slice A o.rules.length c]] w fun e w' => ∃ v', e = .returned (.agg #[.string o.name, v']) ∧ own 67 w.heap.size w' v' o.rules ∧ Below w.heap.size w w' := by
  have HR0 := Lib.hid hv; clear hv
  go_enter Try.func67, Try.ntmps67
  go_wp2_with fail
  obtain ⟨W3, hW3⟩ : ∃ W3, W3 = (((w.alloc (Obj.cells #[Value.string o.name, Value.slice A o.rules.length c] 99)).alloc (Obj.cells #[Value.string ⟨#[]⟩, Value.slice none 0 0] 65)).alloc (Obj.cells #[Value.string o.name, Value.slice none 0 0] 65)) := ⟨_, rfl⟩
  have z3 : W3.heap.size = w.heap.size + 1 + 1 + 1 := by subst hW3; simp
  have B3 : Below w.heap.size w W3 := by subst hW3; go_grown
  have k0 : W3.cell? ⟨w.heap.size + 1 + 1, 0, none⟩ = some (.string o.name) := by subst hW3; go_simp
  have k1 : W3.cell? ⟨w.heap.size + 1 + 1, 1, none⟩ = some (.slice none 0 0) := by subst hW3; go_simp
  have j0 : W3.cell? ⟨w.heap.size + 1, 0, none⟩ = some (.string ⟨#[]⟩) := by subst hW3; go_simp
  have j1 : W3.cell? ⟨w.heap.size + 1, 1, none⟩ = some (.slice none 0 0) := by subst hW3; go_simp
  have f1 : W3.frozen? ⟨w.heap.size + 1 + 1, 1, none⟩ = false := by subst hW3; go_simp
  have g0 : W3.frozen? ⟨w.heap.size + 1, 0, none⟩ = false := by subst hW3; go_simp
  have g1 : W3.frozen? ⟨w.heap.size + 1, 1, none⟩ = false := by subst hW3; go_simp
  rw [← hW3]
  clear hW3
  refine (laws_toRuleS _ o.rules _ (HR0.out.on B3) hl).mono ?_
  rintro e w4 ⟨v4, rfl, o4, b4⟩
  have lk : w.heap.size + 1 + 1 < W3.heap.size := by omega
  have lj : w.heap.size + 1 < W3.heap.size := by omega
  replace k0 := (b4.cell (p := ⟨w.heap.size + 1 + 1, 0, none⟩) lk).trans k0
  replace k1 := (b4.cell (p := ⟨w.heap.size + 1 + 1, 1, none⟩) lk).trans k1
  replace j0 := (b4.cell (p := ⟨w.heap.size + 1, 0, none⟩) lj).trans j0
  replace j1 := (b4.cell (p := ⟨w.heap.size + 1, 1, none⟩) lj).trans j1
  replace f1 := (b4.frozen (p := ⟨w.heap.size + 1 + 1, 1, none⟩) lk).trans f1
  replace g0 := (b4.frozen (p := ⟨w.heap.size + 1, 0, none⟩) lj).trans g0
  replace g1 := (b4.frozen (p := ⟨w.heap.size + 1, 1, none⟩) lj).trans g1
  have B4 : Below w.heap.size w w4 := B3.trans (b4.mono (by omega))
  obtain ⟨A4, n4, c4, hv4, hn4, _⟩ := o4.rd
  subst hv4 hn4
  have O4 := Lib.hid o4; clear o4
  have HB4 := Lib.hid B4; clear B4 B3
  go_wp2_with fail
  have O5 := own_out (own_out (own_out O4.out ⟨w.heap.size + 1 + 1, 1, none⟩ (Value.slice A4 o.rules.length c4) lk) ⟨w.heap.size + 1, 0, none⟩ (Value.string o.name) lj) ⟨w.heap.size + 1, 1, none⟩ (Value.slice A4 o.rules.length c4) lj
  have HO5 := Lib.hid O5; clear O5
  refine bodyPost_ret (v := .agg #[.string o.name, .slice A4 o.rules.length c4]) (by simp [results, Try.results67, go_sem, j0, j1]) rfl ⟨_, rfl, HO5.out.base_ (by omega), ?_⟩
  have B4 := HB4.out
  exact (((B4.setCell (by simp; omega) _).setCell (by simp) _).setCell (by simp) _)

theorem Try.infoOfc : (Try.prog.info? 65).map (fun i => (i.zero, i.size, i.bytes)) = some (some (.agg #[.string ⟨#[]⟩, .slice none 0 0]), 2, 40) := by kernel_rfl

set_option maxRecDepth 100000 in
set_option maxHeartbeats 800000 in
theorem u_toN (v : Value) (xss : List Ofc) (w : World) (hv : rd w w.heap.size v xss) (hs : szN xss ≤ 1048576) :
    Calls Try.prog 19 #[v] w fun e w' => ∃ v', e = .returned v' ∧ ownN 65 67 w.heap.size w' v' xss ∧ Below w.heap.size w w' := by
  obtain ⟨A, n, c, rfl, hn, hc, hm, hr⟩ := hv
  subst hn
  unfold maxLen at hm
  have HR := Lib.hid hr; clear hr
  have hn20 : xss.length ≤ 1048576 := by unfold szN at hs; omega
  have HSZ := Lib.hid hs; clear hs
  have l0 := Below.refl w.heap.size w
  obtain ⟨i0, hi, hz0, hz1, hz2⟩ := info_parts Try.infoOfc
  have hmk := make_row (P := Try.prog) 45 65 i0 _ Try.underlying45 hi hz0 xss.length (by rw [hz2]; omega) (by omega)
  go_enter Try.func19, Try.ntmps19
  go_wp2
  obtain ⟨vs0, hoz⟩ := made_offices w 65 67 xss.length w.heap.size (Nat.le_refl _) (by unfold maxLen; omega)
  have lz : Below w.heap.size w (w.alloc (Obj.cells (madeCells #[.string ⟨#[]⟩, .slice none 0 0] (xss.length * 2)) 65)) := later_alloc l0 _
  generalize (w.alloc (Obj.cells (madeCells #[.string ⟨#[]⟩, .slice none 0 0] (xss.length * 2)) 65)) = wz at *
  have HOZ := Lib.hid hoz
  clear hmk hoz l0
  go_loopw [4] (fun i wr => ∃ (k : Nat) (vs : List OfV), k ≤ xss.length ∧ i = .int .i64 k ∧ Below w.heap.size w wr ∧ isN 65 67 w.heap.size wr (.slice (some ⟨w.heap.size, 0, none⟩) xss.length xss.length) (laidN xss k) vs) (fun i _ => xss.length - (intOf i).toNat)
  case atStart => exact ⟨0, vs0, Nat.zero_le _, rfl, lz, by rw [laidN_nil]; exact HOZ.out⟩
  case round =>
    obtain ⟨k, vs, hk, rfl, lr, hB⟩ := hrel
    obtain ⟨w1, rfl⟩ : ∃ w1 : World, w1 = wr := ⟨_, rfl⟩
    have HB := Lib.hid hB
    clear hB lz
    by_cases hlt : k < xss.length
    · obtain ⟨b, o, A2, c2, rfl, hb, hnm, hu, y1, y2⟩ := HR.out.ofcU k hlt
      have HST := Lib.hid (laidN_step hlt)
      have HLEN := Lib.hid (laidN_len (net := xss) (k := k) (by omega))
      have hrs := Nat.le_trans (ofc_le_szN hlt) HSZ.out
      have HNM := Lib.hid hnm; clear hnm
      generalize xss[k] = y at *
      have HRS : Hid (y.rules.length ≤ 1048576) := by show _ ≤ _; unfold szO at hrs; omega
      have HU := Lib.hid hu; clear hu hrs
      have hki : (k : Int) < (xss.length : Int) := by omega
      have hlv : k < vs.length := by rw [HB.out.2.1, HLEN.out]; exact hlt
      go_wp2_with fail
      refine (laws_toOffice y _ _ _ (HU.out.on lr) HRS.out).mono ?_
      rintro e w2 ⟨v2, rfl, o2, b2⟩
      have l2 := later_trans lr b2
      have HP := Lib.hid (HB.out.put b2 hlv HNM.out o2 (Nat.le_refl _) lr.size)
      have hb2 := HB.out.below b2
      obtain ⟨_, g0, g1⟩ := own_ofv hb2.1 k hlv
      have f0 : w2.frozen? ⟨w.heap.size, k * 2, none⟩ = false := hb2.1.freeAt _
      have f1 : w2.frozen? ⟨w.heap.size, k * 2 + 1, none⟩ = false := hb2.1.freeAt _
      obtain ⟨A3, m3, c3, rfl, hm3, _, _, _⟩ := o2.rd
      subst hm3
      clear hb2 o2 b2
      go_wp2_with fail
      go_roundw
      case rel => exact ⟨k + 1, _, by omega, by go_num, later_set (later_set l2 (p := ⟨w.heap.size, k * 2, none⟩) (Nat.le_refl _) _) (p := ⟨w.heap.size, k * 2 + 1, none⟩) (Nat.le_refl _) _, by rw [← HST.out]; exact HP.out⟩
      case measure => simp [intOf]; omega
    · have HE := Lib.hid (show k = xss.length by omega)
      go_wp2
      go_ret
      have h := HB.out
      rw [HE.out, laidN_all] at h
      exact ⟨_, rfl, ⟨vs, h⟩, lr⟩

theorem laws_eqOffice (o : Ofc) (A A' : Option Addr) (c c' : Nat) (w : World) (hv : rd w w.heap.size (.slice A o.rules.length c) o.rules) (hv' : rd w w.heap.size (.slice A' o.rules.length c') o.rules) :
    Calls Try.prog 72 #[.agg #[.string o.name, .slice A o.rules.length c], .agg #[.string o.name, .slice A' o.rules.length c']] w fun e w' => e = .returned (.bool true) ∧ Below w.heap.size w w' := by
  have HR := Lib.hid hv; clear hv
  have HR' := Lib.hid hv'; clear hv'
  have HQ : Hid (eqBy fwdEq o.rules o.rules = true) := (eqBy_iff fwdEq_iff).2 rfl
  have g1 : (o.name.toList != o.name.toList) = false := by simp
  have g2 : (o.name.toList == o.name.toList) = true := by simp
  have hB : Below w.heap.size w ((w.alloc (Obj.cells #[Value.string o.name, Value.slice A o.rules.length c] 65)).alloc (Obj.cells #[Value.string o.name, Value.slice A' o.rules.length c'] 65)) := ((Below.refl _ _).alloc (Nat.le_refl _) _).alloc (by simp) _
  have HB := Lib.hid hB; clear hB
  go_enter Try.func72, Try.ntmps72
  go_wp2_with fail
  refine (laws_eqRuleS _ _ o.rules o.rules _ (HR.out.on HB.out) (HR'.out.on HB.out)).mono ?_
  rw [HQ.out]
  rintro e w1 ⟨rfl, b1⟩
  go_wp2_with fail
  go_ret
  exact ⟨rfl, HB.out.trans (b1.mono HB.out.size)⟩

set_option maxRecDepth 100000 in
set_option maxHeartbeats 800000 in
theorem u_eqN (v v' : Value) (xss : List Ofc) (w : World) (hv : rd w w.heap.size v xss) (hv' : rd w w.heap.size v' xss) :
    Calls Try.prog 22 #[v, v'] w fun e w' => e = .returned (.bool true) ∧ Below w.heap.size w w' := by
  obtain ⟨A, n, c, rfl, hn, hc, hm, hr⟩ := hv
  obtain ⟨A', n', c', rfl, hn', hc', hm', hr'⟩ := hv'
  subst hn hn'
  unfold maxLen at hm hm'
  have HR := Lib.hid hr; clear hr
  have HR' := Lib.hid hr'; clear hr'
  have hl1 : ((xss.length : Int) != (xss.length : Int)) = false := by simp
  have l0 := Below.refl w.heap.size w
  go_enter Try.func22, Try.ntmps22
  go_wp2
  go_loopw [5] (fun i wr => ∃ k : Nat, k ≤ xss.length ∧ i = .int .i64 k ∧ Below w.heap.size w wr) (fun i _ => xss.length - (intOf i).toNat)
  case atStart => exact ⟨0, Nat.zero_le _, rfl, l0⟩
  case round =>
    obtain ⟨k, hk, rfl, lr⟩ := hrel
    obtain ⟨w1, rfl⟩ : ∃ w1 : World, w1 = wr := ⟨_, rfl⟩
    clear l0
    by_cases hlt : k < xss.length
    · obtain ⟨b, o, A2, c2, rfl, hb, _, hu, y1, y2⟩ := HR.out.ofcU k hlt
      obtain ⟨b', o', A3, c3, rfl, hb', _, hu', z1, z2⟩ := HR'.out.ofcU k hlt
      generalize xss[k] = y at *
      have HU := Lib.hid hu; clear hu
      have HU' := Lib.hid hu'; clear hu'
      have hki : (k : Int) < (xss.length : Int) := by omega
      have ld := later_drew lr
      have HC : Hid (∀ W, Below w.heap.size w W → Calls Try.prog 72 #[.agg #[.string y.name, .slice A2 y.rules.length c2], .agg #[.string y.name, .slice A3 y.rules.length c3]] W fun e w' => e = .returned (.bool true) ∧ Below W.heap.size W w') := fun W hW => laws_eqOffice y _ _ _ _ W (HU.out.on hW) (HU'.out.on hW)
      go_wp2
      go_region_held3 (fun W => Below w.heap.size w W) (first | exact ld | exact later_trans ld b3) (first | (go_at_call 72; refine (HC.out _ ld).mono ?_; rintro e w3 ⟨rfl, b3⟩))
      have l3 := later_trans ld b3
      go_wp2
      go_roundw
      case rel => exact ⟨k + 1, by omega, by go_num, l3⟩
      case measure => simp [intOf]; omega
    · go_wp2
      go_ret
      exact ⟨rfl, lr⟩

end Go.Proofs.Ytmangjjaijhcnaa

namespace Go.Proofs.Ytmangjjaijhcnaa
open Go.RowKit

theorem sEq_comm (s t : ByteArray) : sEq s t = sEq t s := by
  rw [Bool.eq_iff_iff, sEq_iff, sEq_iff]; exact eq_comm

set_option maxHeartbeats 400000 in
theorem slices_IndexS (v : Value) (xs : List ByteArray) (c : ByteArray) (w : World) (hv : rd w w.heap.size v xs) :
    Calls Try.prog 142 #[v, .string c] w fun e w' => e = .returned (.int .i64 (rkI xs c)) ∧ w = w' := by
  obtain ⟨A, n, cp, rfl, hn, hc, hm, hr⟩ := hv
  subst hn
  unfold maxLen at hm
  have HR := Lib.hid hr; clear hr
  go_enter Try.func142, Try.ntmps142
  go_wp2
  go_loop [8] (fun i => ∃ k : Nat, k ≤ xs.length ∧ i = .int .i64 k ∧ Hid (∀ j (h : j < xs.length), j < k → sEq xs[j] c = false)) (fun i => xs.length - (intOf i).toNat)
  case atStart => exact ⟨0, Nat.zero_le _, rfl, fun j _ hj => absurd hj (Nat.not_lt_zero j)⟩
  case round =>
    obtain ⟨k, hk, rfl, HG⟩ := hrel
    by_cases hlt : k < xs.length
    · obtain ⟨b, o, rfl, hb, hok, c1⟩ := HR.out.str k hlt
      have HX : Hid (∀ h : sEq xs[k] c = false, ∀ j (h1 : j < xs.length), j < k + 1 → sEq xs[j] c = false) := fun h j h1 hj => by
        by_cases hjk : j < k
        · exact HG.out j h1 hjk
        · obtain rfl : j = k := by omega
          exact h
      have HY : Hid (∀ h : sEq xs[k] c = true, rkI xs c = k) := fun h => by
        have e := rk_eq hlt (fun j hj => HG.out j (by omega) hj) h
        rw [rkI_pos (by omega), e]
      generalize xs[k] = x at *
      cases he : sEq x c
      · have he' := Lib.hid he
        have hq : (c.toList == x.toList) = false := by rw [← he]; exact sEq_comm c x
        clear he
        go_wp2
        go_round
        case rel => exact ⟨k + 1, by omega, by go_num, HX.out he'.out⟩
        case measure => simp [intOf]; omega
      · have he' := Lib.hid he
        have hq : (c.toList == x.toList) = true := by rw [← he]; exact sEq_comm c x
        clear he
        go_wp2
        go_ret
        exact ⟨ret_int (HY.out he'.out).symm, rfl⟩
    · have HE : Hid (rkI xs c = -1) := by
        have e := rk_none (cs := xs) (c := c) (fun j hj => HG.out j hj (by omega))
        exact rkI_neg (by omega)
      go_wp2
      go_ret
      exact ⟨ret_int HE.out.symm, rfl⟩

theorem slices_ContainsS (v : Value) (xs : List ByteArray) (c : ByteArray) (w : World) (hv : rd w w.heap.size v xs) :
    Calls Try.prog 97 #[v, .string c] w fun e w' => e = .returned (.bool (decide (0 ≤ rkI xs c))) ∧ w = w' := by
  go_enter Try.func97, Try.ntmps97
  go_wp2_with fail
  refine (slices_IndexS v xs c w hv).mono ?_
  rintro e w1 ⟨rfl, rfl⟩
  obtain ⟨r, HR⟩ : ∃ r, Hid (rkI xs c = r) := ⟨_, rfl⟩
  rw [HR.out]
  go_wp2_with fail
  go_ret
  exact ⟨ret_bool (by rw [HR.out]), rfl⟩

theorem impl_binsValid (n : Int) (w : World) : Calls Try.prog 138 #[.int .i64 n] w fun e w' => e = .returned (.bool (decide (2 ≤ n) && decide (n ≤ 16))) ∧ w = w' := by
  go_enter Try.func138, Try.ntmps138
  by_cases h1 : 2 ≤ n
  · go_wp2
    go_ret
    exact ⟨ret_bool (by simp [h1]), rfl⟩
  · go_wp2
    go_ret
    exact ⟨ret_bool (by rw [decide_eq_false (p := 2 ≤ n) (by omega)]; rfl), rfl⟩
theorem impl_passesValid (n : Int) (w : World) : Calls Try.prog 139 #[.int .i64 n] w fun e w' => e = .returned (.bool (decide (1 ≤ n) && decide (n ≤ 4))) ∧ w = w' := by
  go_enter Try.func139, Try.ntmps139
  by_cases h1 : 1 ≤ n
  · go_wp2
    go_ret
    exact ⟨ret_bool (by simp [h1]), rfl⟩
  · go_wp2
    go_ret
    exact ⟨ret_bool (by rw [decide_eq_false (p := 1 ≤ n) (by omega)]; rfl), rfl⟩

set_option maxHeartbeats 400000 in
theorem impl_binPower (b : Int) (n : Nat) (w : World) (h1 : 2 ≤ b) (h2 : b ≤ 16) (hn : n ≤ 4) :
    Calls Try.prog 175 #[.int .i64 b, .int .i64 n] w fun e w' => e = .returned (.int .i64 (powI b n)) ∧ w = w' := by
  go_enter Try.func175, Try.ntmps175
  go_wp2
  go_loop [5, 7] (fun t i => ∃ (k : Nat) (m : Int), k ≤ n ∧ i = .int .i64 k ∧ t = .int .i64 m ∧ 1 ≤ m ∧ m ≤ 65536 ∧ Hid (m = powI b k)) (fun _ i => n - (intOf i).toNat)
  case atStart => exact ⟨0, 1, Nat.zero_le _, rfl, rfl, by omega, by omega, rfl⟩
  case round =>
    obtain ⟨k, m, hk, rfl, rfl, m0, m1, HM⟩ := hrel
    by_cases hlt : k < n
    · obtain ⟨p1, p2⟩ := powI_bounds h1 h2 (k + 1) (by omega)
      have hp : powI b (k + 1) = m * b := by rw [HM.out]; rfl
      have HP := Lib.hid hp
      rw [hp] at p1 p2
      clear hp
      go_wp2
      go_round
      case rel => exact ⟨k + 1, _, by omega, by go_num, rfl, p1, p2, HP.out.symm⟩
      case measure => simp [intOf]; omega
    · have HE := Lib.hid (show k = n by omega)
      go_wp2
      go_ret
      exact ⟨ret_int (by rw [HM.out, HE.out]), rfl⟩

theorem impl_CapacityOf (b p : Int) (w : World) (h : shapeOk b p = true) :
    Calls Try.prog 140 #[.int .i64 b, .int .i64 p] w fun e w' => e = .returned (.int .i64 (powI b p.toNat)) ∧ w = w' := by
  obtain ⟨h1, h2, h3, h4⟩ := shapeOk_iff.1 h
  clear h
  obtain ⟨n, rfl⟩ := Int.eq_ofNat_of_zero_le (show 0 ≤ p by omega)
  have e1 : (decide (2 ≤ b) && decide (b ≤ 16)) = true := by rw [decide_eq_true h1, decide_eq_true h2]; rfl
  have e2 : (decide ((1 : Int) ≤ (n : Int)) && decide ((n : Int) ≤ 4)) = true := by rw [decide_eq_true h3, decide_eq_true h4]; rfl
  have E1 := Lib.hid e1; clear e1
  have E2 := Lib.hid e2; clear e2
  go_enter Try.func140, Try.ntmps140
  go_wp2_with fail
  refine (impl_binsValid b w).mono ?_
  rw [E1.out]
  rintro e w1 ⟨rfl, rfl⟩
  go_wp2_with fail
  refine (impl_passesValid n w).mono ?_
  rw [E2.out]
  rintro e w1 ⟨rfl, rfl⟩
  go_wp2_with fail
  refine (impl_binPower b n w h1 h2 (by omega)).mono ?_
  rintro e w1 ⟨rfl, rfl⟩
  go_wp2_with fail
  go_ret
  exact ⟨ret_int (by rw [Int.toNat_natCast]), rfl⟩

end Go.Proofs.Ytmangjjaijhcnaa

namespace Go.Proofs.Ytmangjjaijhcnaa
open Go.RowKit

theorem all_rk (cs : List ByteArray) (c : ByteArray) : cs.all (fun d => !sEq d c) = !decide (0 ≤ rkI cs c) := by
  rw [Bool.eq_iff_iff, List.all_eq_true]
  constructor
  · intro h
    have : rk cs c = cs.length := rk_none fun j hj => by simpa using h _ (List.getElem_mem hj)
    rw [rkI_neg (by omega)]
    decide
  · intro h x hx
    obtain ⟨j, hj, rfl⟩ := List.getElem_of_mem hx
    have hn : ¬ 0 ≤ rkI cs c := by simpa using h
    have hk : ¬ rk cs c < cs.length := fun hlt => by rw [rkI_pos hlt] at hn; omega
    have := rk_before cs c j hj (by omega)
    simp [this]

set_option maxHeartbeats 400000 in
theorem impl_codesDiffer (v : Value) (cs : List ByteArray) (w : World) (hv : rd w w.heap.size v cs) :
    Calls Try.prog 141 #[v] w fun e w' => e = .returned (.bool (codesOk cs)) ∧ w = w' := by
  have hv0 := Lib.hid hv
  obtain ⟨A, n, cp, rfl, hn, hc, hm, hr⟩ := hv
  subst hn
  unfold maxLen at hm
  have HR := Lib.hid hr; clear hr
  go_enter Try.func141, Try.ntmps141
  go_wp2
  go_loop [7] (fun i => ∃ k : Nat, k ≤ cs.length ∧ i = .int .i64 k ∧ Hid (∀ j, j < k → goodC cs j = true)) (fun i => cs.length - (intOf i).toNat)
  case atStart => exact ⟨0, Nat.zero_le _, rfl, fun j hj => absurd hj (Nat.not_lt_zero j)⟩
  case round =>
    obtain ⟨k, hk, rfl, HG⟩ := hrel
    by_cases hlt : k < cs.length
    · obtain ⟨b, o, rfl, hb, hok, c1⟩ := HR.out.str k hlt
      have hG := Lib.hid (goodC_of hlt)
      have hbad := Lib.hid (fun h => codesOk_bad hlt h)
      have hA := Lib.hid (all_rk (cs.take k) cs[k])
      generalize cs[k] = c at *
      cases hcd : isCode c
      · have hcd' := Lib.hid hcd; clear hcd
        go_wp2_with (go_at_call 77; refine (impl_CodeValid _ _ hok).mono ?_; rw [hcd'.out]; rintro e w' ⟨rfl, rfl⟩)
        go_ret
        exact ⟨ret_bool (hbad.out (by rw [hG.out, hcd'.out]; rfl)).symm, rfl⟩
      have hcd' := Lib.hid hcd; clear hcd
      cases hd : decide (0 ≤ rkI (cs.take k) c)
      · have hd' := Lib.hid hd; clear hd
        go_wp2_with (first | (go_at_call 77; refine (impl_CodeValid _ _ hok).mono ?_; rw [hcd'.out]; rintro e w' ⟨rfl, rfl⟩) | (go_at_call 97; refine (slices_ContainsS _ (cs.take k) _ _ (hv0.out.take hk)).mono ?_; rw [hd'.out]; rintro e w' ⟨rfl, rfl⟩))
        go_round
        case rel =>
          refine ⟨k + 1, by omega, by go_num, fun j hj => ?_⟩
          by_cases hjk : j < k
          · exact HG.out j hjk
          · obtain rfl : j = k := by omega
            rw [hG.out, hcd'.out, hA.out, hd'.out]; rfl
        case measure => simp [intOf]; omega
      · have hd' := Lib.hid hd; clear hd
        go_wp2_with (first | (go_at_call 77; refine (impl_CodeValid _ _ hok).mono ?_; rw [hcd'.out]; rintro e w' ⟨rfl, rfl⟩) | (go_at_call 97; refine (slices_ContainsS _ (cs.take k) _ _ (hv0.out.take hk)).mono ?_; rw [hd'.out]; rintro e w' ⟨rfl, rfl⟩))
        go_ret
        exact ⟨ret_bool (hbad.out (by rw [hG.out, hcd'.out, hA.out, hd'.out]; rfl)).symm, rfl⟩
    · have HE := Lib.hid (show k = cs.length by omega)
      go_wp2
      go_ret
      exact ⟨ret_bool (codesOk_good (by rw [← HE.out]; exact HG.out)).symm, rfl⟩

set_option maxHeartbeats 800000 in
theorem impl_PlanValid (v : Value) (p : Pln) (w : World) (hv : rdP w w.heap.size v p) :
    Calls Try.prog 94 #[v] w fun e w' => e = .returned (.bool (planOk p)) ∧ Below w.heap.size w w' := by
  obtain ⟨vo, rfl, hi1, hi2, hr⟩ := hv
  have hr0 := hr
  obtain ⟨A, n, cp, rfl, hn, hc, hm, _⟩ := hr
  subst hn
  unfold maxLen at hm
  have hrb := Lib.hid (fun o => hr0.on ((Below.refl _ _).alloc (Nat.le_refl _) o))
  clear hr0
  have hB : Below w.heap.size w (w.alloc (Obj.cells #[Value.int IntKind.i64 p.bins, Value.int IntKind.i64 p.passes, Value.slice A p.order.length cp] 25)) := (Below.refl _ _).alloc (Nat.le_refl _) _
  have HB := Lib.hid hB; clear hB
  have e0 : planOk p = (((decide (2 ≤ p.bins) && decide (p.bins ≤ 16)) && (decide (1 ≤ p.passes) && decide (p.passes ≤ 4))) && (decide (1 ≤ p.order.length) && decide (p.order.length ≤ 60)) && decide ((p.order.length : Int) ≤ powI p.bins p.passes.toNat) && codesOk p.order) := rfl
  have E0 := Lib.hid e0; clear e0
  go_enter Try.func94, Try.ntmps94
  go_wp2_with fail
  refine (impl_binsValid _ _).mono ?_
  rintro e w1 ⟨rfl, rfl⟩
  cases h1 : (decide (2 ≤ p.bins) && decide (p.bins ≤ 16))
  · have H1 := Lib.hid h1; clear h1
    go_wp2_with fail
    go_ret
    exact ⟨ret_bool (by rw [E0.out, H1.out]; rfl), HB.out⟩
  have H1 := Lib.hid h1; clear h1
  go_wp2_with fail
  refine (impl_passesValid _ _).mono ?_
  rintro e w1 ⟨rfl, rfl⟩
  cases h2 : (decide (1 ≤ p.passes) && decide (p.passes ≤ 4))
  · have H2 := Lib.hid h2; clear h2
    go_wp2_with fail
    go_ret
    exact ⟨ret_bool (by rw [E0.out, H1.out, H2.out]; rfl), HB.out⟩
  have H2 := Lib.hid h2; clear h2
  have hsh : shapeOk p.bins p.passes = true := by unfold shapeOk; rw [H1.out, H2.out]; rfl
  have HSH := Lib.hid hsh; clear hsh
  by_cases h3 : 1 ≤ p.order.length
  case neg =>
    have H3 := Lib.hid h3; clear h3
    have h3i : ¬ (1 : Int) ≤ (p.order.length : Int) := by have := H3.out; omega
    go_wp2_with fail
    go_ret
    exact ⟨ret_bool (by rw [E0.out, decide_eq_false H3.out]; simp), HB.out⟩
  by_cases h4 : p.order.length ≤ 60
  case neg =>
    have H4 := Lib.hid h4; clear h4
    have h4i : ¬ (p.order.length : Int) ≤ 60 := by have := H4.out; omega
    go_wp2_with fail
    go_ret
    exact ⟨ret_bool (by rw [E0.out, decide_eq_false H4.out]; simp), HB.out⟩
  go_wp2_with fail
  refine (impl_CapacityOf _ _ _ HSH.out).mono ?_
  rintro e w1 ⟨rfl, rfl⟩
  obtain ⟨q, HQ⟩ : ∃ q, Hid (powI p.bins p.passes.toNat = q) := ⟨_, rfl⟩
  rw [HQ.out]
  by_cases h5 : (p.order.length : Int) ≤ q
  case neg =>
    have H5 := Lib.hid (decide_eq_false h5)
    go_wp2_with fail
    go_ret
    exact ⟨ret_bool (by rw [E0.out, HQ.out, H5.out]; simp), HB.out⟩
  have H5 := Lib.hid (decide_eq_true h5)
  go_wp2_with fail
  refine (impl_codesDiffer _ p.order _ (hrb.out _)).mono ?_
  rintro e w1 ⟨rfl, rfl⟩
  go_wp2_with fail
  go_ret
  exact ⟨ret_bool (by rw [E0.out, HQ.out, H1.out, H2.out, H5.out, decide_eq_true h3, decide_eq_true h4]; rfl), HB.out⟩

end Go.Proofs.Ytmangjjaijhcnaa
