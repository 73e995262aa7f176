/- QF QB QI -/
import Derived.Test.YtffbcfaahegglaaDoorQ28
import Derived.Test.YtffbcfaahegglaaDoorQ29
import Derived.Test.YtffbcfaahegglaaDoorQ23
import Derived.Test.YtffbcfaahegglaaDoorQ22
import Derived.Test.YtffbcfaahegglaaDoorQ24
namespace Go.Proofs.YtffbcfaahegglaaDoor
open Go.RowKit
attribute [local go_sem] Oper.semAt_some

set_option maxRecDepth 100000 in
set_option maxHeartbeats 800000 in
theorem spec_l9OwnOffice (o : Ofc) (A : Option Addr) (c : Nat) (w : World) (hv : rd w w.heap.size (.slice A o.rules.length c) o.rules) (hl : o.rules.length ≤ 1000) :
    Calls Tryd.prog 88 #[.agg #[.string o.name, .slice A o.rules.length c]] w fun e w' => ∃ v', e = .returned (.agg #[.string o.name, v']) ∧ own 65 w.heap.size w' v' o.rules ∧ Below w.heap.size w w' := by
  have HR0 := Lib.hid hv; clear hv
  obtain ⟨i0, hi, hz0, hz1, hz2⟩ := info_parts Tryd.infoRul
  obtain ⟨W3, hW3⟩ : ∃ W3, W3 = (((w.alloc (Obj.cells #[Value.string o.name, Value.slice A o.rules.length c] 82)).alloc (Obj.cells #[Value.string ⟨#[]⟩, Value.slice none 0 0] 82)).alloc (Obj.cells #[] 65)) := ⟨_, rfl⟩
  have z3 : W3.heap.size = w.heap.size + 1 + 1 + 1 := by subst hW3; simp
  have B3 : Below w.heap.size w W3 := by subst hW3; go_grown
  have k0 : W3.cell? ⟨w.heap.size, 0, none⟩ = some (.string o.name) := by subst hW3; go_simp
  have k1 : W3.cell? ⟨w.heap.size, 1, none⟩ = some (.slice A o.rules.length c) := by subst hW3; go_simp
  have j0 : W3.cell? ⟨w.heap.size + 1, 0, none⟩ = some (.string ⟨#[]⟩) := by subst hW3; go_simp
  have j1 : W3.cell? ⟨w.heap.size + 1, 1, none⟩ = some (.slice none 0 0) := by subst hW3; go_simp
  have f1 : W3.frozen? ⟨w.heap.size, 1, none⟩ = false := by subst hW3; go_simp
  have g0 : W3.frozen? ⟨w.heap.size + 1, 0, none⟩ = false := by subst hW3; go_simp
  have g1 : W3.frozen? ⟨w.heap.size + 1, 1, none⟩ = false := by subst hW3; go_simp
  have HE : Hid (own (α := Fwd) 65 (w.heap.size + 1 + 1) W3 (.slice (some ⟨w.heap.size + 1 + 1, 0, none⟩) 0 0) []) := by
    have h := own.made0 (α := Fwd) ((w.alloc (Obj.cells #[Value.string o.name, Value.slice A o.rules.length c] 82)).alloc (Obj.cells #[Value.string ⟨#[]⟩, Value.slice none 0 0] 82)) 65 (Nat.le_refl _)
    subst hW3
    exact Lib.hid (by simpa using h)
  have HU := Lib.hid (HR0.out.on B3)
  have HS3 : Hid (w.heap.size + 1 + 1 ≤ W3.heap.size) := by show _ ≤ _; omega
  have HB3 := Lib.hid B3
  have HK := Lib.hid (And.intro k0 (And.intro k1 (And.intro j0 (And.intro j1 (And.intro f1 (And.intro g0 g1))))))
  clear z3 B3 k0 k1 j0 j1 f1 g0 g1
  subst hW3
  go_enter Tryd.func88, Tryd.ntmps88
  go_wp2_with (at_builtin; refine wpList_appendAll (α := Fwd) rfl (.tmp 3) (.tmp 5) 34 rfl (w.heap.size + 1 + 1) 65 i0 _ 32 Tryd.underlying34 hi hz0 hz1 hz2 rfl (by decide) (.slice (some ⟨w.heap.size + 1 + 1, 0, none⟩) 0 0) [] rfl HE.out (.slice A o.rules.length c) o.rules rfl _ HU.out (by unfold maxLen; simp; omega) (by simp; omega) HS3.out ?_; intro v4 w4 ho4 hg4 _; rw [List.nil_append] at ho4; have b4 := below_append HE.out hg4 HS3.out; have hs3 := HS3.out; obtain ⟨k0, k1, j0, j1, f1, g0, g1⟩ := HK.out; obtain ⟨A4, n4, c4, hv4, hn4, _⟩ := ho4.rd; subst hv4 hn4; have HO4 := Lib.hid ho4; have HB4 := Lib.hid (HB3.out.trans (b4.mono (by omega))); replace k0 := (b4.cell (p := ⟨w.heap.size, 0, none⟩) (show w.heap.size < _ by omega)).trans k0; replace k1 := (b4.cell (p := ⟨w.heap.size, 1, none⟩) (show w.heap.size < _ by omega)).trans k1; replace j0 := (b4.cell (p := ⟨w.heap.size + 1, 0, none⟩) (show w.heap.size + 1 < _ by omega)).trans j0; replace j1 := (b4.cell (p := ⟨w.heap.size + 1, 1, none⟩) (show w.heap.size + 1 < _ by omega)).trans j1; replace f1 := (b4.frozen (p := ⟨w.heap.size, 1, none⟩) (show w.heap.size < _ by omega)).trans f1; replace g0 := (b4.frozen (p := ⟨w.heap.size + 1, 0, none⟩) (show w.heap.size + 1 < _ by omega)).trans g0; replace g1 := (b4.frozen (p := ⟨w.heap.size + 1, 1, none⟩) (show w.heap.size + 1 < _ by omega)).trans g1; clear ho4 hg4 b4 hs3)
  have O5 := own_out (own_out (own_out HO4.out ⟨w.heap.size, 1, none⟩ (Value.slice A4 o.rules.length c4) (by show w.heap.size < _; omega)) ⟨w.heap.size + 1, 0, none⟩ (Value.string o.name) (by show w.heap.size + 1 < _; omega)) ⟨w.heap.size + 1, 1, none⟩ (Value.slice A4 o.rules.length c4) (by show w.heap.size + 1 < _; omega)
  have HO5 := Lib.hid O5; clear O5
  refine bodyPost_ret (v := .agg #[.string o.name, .slice A4 o.rules.length c4]) (by simp [results, Tryd.results88, go_sem, j0, j1]) rfl ⟨_, rfl, HO5.out.base_ (by omega), ?_⟩
  have B4 := HB4.out
  exact (((B4.setCell (by simp) _).setCell (by simp) _).setCell (by simp) _)

set_option maxRecDepth 100000 in
set_option maxHeartbeats 1600000 in
theorem spec_ownN (v : Value) (net : List Ofc) (w : World) (hv : rd w w.heap.size v net) (hl : net.length ≤ 1000) (hll : ∀ k (h : k < net.length), net[k].rules.length ≤ 1000) :
    Calls Tryd.prog 57 #[v] w fun e w' => ∃ v', e = .returned v' ∧ ownN 82 65 w.heap.size w' v' net ∧ Below w.heap.size w w' := by
  obtain ⟨A, n, c, rfl, hn, hc, hm, hr⟩ := hv
  subst hn
  have HR := Lib.hid hr; clear hr
  have HLL := Lib.hid hll; clear hll
  obtain ⟨i0, hi, hz0, hz1, hz2⟩ := info_parts Tryd.infoOfc
  go_enter Tryd.func57, Tryd.ntmps57
  go_wp2_with fail
  have ho0 : own (α := OfV) 82 w.heap.size (w.alloc (Obj.cells #[] 82)) (.slice (some ⟨w.heap.size, 0, none⟩) 0 0) [] := own.made0 w _ (Nat.le_refl _)
  have l0 : Below w.heap.size w (w.alloc (Obj.cells #[] 82)) := (Below.refl _ _).alloc (Nat.le_refl _) _
  have HI0 := Lib.hid (isN.none_ (T2 := 65) ho0)
  clear ho0
  generalize (w.alloc (Obj.cells #[] 82)) = w0 at *
  go_loopw [3, 9] (fun t i wr => ∃ (k : Nat) (os : List OfV), k ≤ net.length ∧ i = .int .i64 k ∧ Below w.heap.size w wr ∧ isN 82 65 w.heap.size wr t (net.take k) os) (fun _ i _ => net.length - (intOf i).toNat)
  case atStart => exact ⟨0, [], Nat.zero_le _, rfl, l0, HI0.out⟩
  case round =>
    obtain ⟨k, os, hk, rfl, lr, hB⟩ := hrel
    obtain ⟨w1, rfl⟩ : ∃ w1 : World, w1 = wr := ⟨_, rfl⟩
    have HB := Lib.hid hB
    clear l0 HI0
    by_cases hlt : k < net.length
    · obtain ⟨AO, mO, cO, rfl, hmO, _, _, _⟩ := hB.1.rd
      subst hmO
      have hvl : os.length = k := by rw [hB.2.1, List.length_take]; omega
      clear hB
      obtain ⟨b, o, A2, c2, rfl, hb, hnm, hu, y1, y2⟩ := HR.out.ofcU k hlt
      have HS : Hid (net.take (k + 1) = net.take k ++ [net[k]]) := List.take_succ_eq_append_getElem hlt
      have hyl := HLL.out k hlt
      generalize net[k] = y at *
      obtain ⟨nm, ys⟩ := y
      simp only at hyl y1 y2 hnm hu
      have y1 := y1 w1 lr
      have y2 := y2 w1 lr
      have HU := Lib.hid hu; clear hu
      have hki : (k : Int) < (net.length : Int) := by omega
      have hki0 : (0 : Int) ≤ (k : Int) := by omega
      have hvb : os.length ≤ 1000 := by omega
      have HVL := Lib.hid hvl; clear hvl
      have hs1 : w.heap.size ≤ w1.heap.size := lr.size
      obtain ⟨wb, hwb⟩ : ∃ u, u = w1.alloc (Obj.cells #[.string nm, .slice A2 ys.length c2] 82) := ⟨_, rfl⟩
      have lb := (box_later hwb).1
      have HNM := Lib.hid hnm
      have HWB := Lib.hid hwb; clear hwb hnm
      have lwb := later_trans lr lb
      have HBb := Lib.hid (HB.out.below lb)
      go_wp2_with fail
      rw [← HWB.out]
      refine (spec_l9OwnOffice ⟨nm, ys⟩ A2 c2 wb (HU.out.on lwb) hyl).mono ?_
      rintro e w2 ⟨v2, rfl, o2, b2⟩
      obtain ⟨A5, m5, c5, rfl, hm5, _, _, _⟩ := o2.rd
      subst hm5
      have HO2 := Lib.hid o2
      have lr2 := later_trans lwb b2
      have hs2 : w.heap.size ≤ w2.heap.size := lr2.size
      have hsb := lwb.size
      have HB2 := Lib.hid (HBb.out.below b2)
      have HF1 : Hid (apart (.slice A5 (Ofc.mk nm ys).rules.length c5) (.slice AO os.length cO)) := apart_gt HO2.out HBb.out.1 (Nat.le_refl _)
      have HF2 : Hid (∀ i (h : i < os.length), apart (.slice A5 (Ofc.mk nm ys).rules.length c5) os[i].val) := fun i hi => apart_gt HO2.out (HBb.out.2.2.1 i hi (by have := HBb.out.2.1; omega)).2 (Nat.le_refl _)
      clear o2 b2
      dsimp only at HO2 HF1 HF2 ⊢
      go_wp2_with (at_builtin; refine wpList_append1' (α := OfV) rfl (.tmp 13) (.tmp 16) 43 rfl w.heap.size 82 i0 _ 40 Tryd.underlying43 hi hz0 hz1 hz2 rfl (by decide) (.slice AO os.length cO) os ⟨nm, .slice A5 ys.length c5⟩ rfl (HB2.out.1.alloc _) ⟨w2.heap.size, 0, none⟩ 1 [.string nm, .slice A5 ys.length c5] rfl ⟨rfl, HNM.out, rfl⟩ (news_at w2 _ [.string nm, .slice A5 ys.length c5]) (by unfold maxLen; omega) (by omega) (by simp; omega) ?_; intro g cap w3 ho3 hg3 ha3 hl3)
      have l3 : Below w.heap.size w w3 := (later_alloc lr2 (Obj.cells #[.string nm, .slice A5 ys.length c5] 82)).grown hg3 (by simp; omega) fun q hq => (HB2.out.1.blk q hq).1
      have HB3 := Lib.hid (isN.snoc (HB2.out.below (later_alloc (Below.refl _ _) (Obj.cells #[.string nm, .slice A5 ys.length c5] 82))) ((HO2.out.base_ hsb).alloc (Obj.cells #[.string nm, .slice A5 ys.length c5] 82)) HF1.out HF2.out ho3 hg3 ha3)
      clear ho3 hg3
      go_wp2
      go_roundw
      case rel => exact ⟨k + 1, _, by omega, by go_num, l3, by rw [HS.out]; exact HB3.out⟩
      case measure => simp [intOf]; omega
    · have HE := Lib.hid (show k = net.length by omega)
      go_wp2
      go_ret
      have h := HB.out
      rw [HE.out, List.take_length] at h
      exact ⟨_, rfl, ⟨os, h⟩, lr⟩

/-! ### The parts -/
theorem spl_mem_len {c : UInt8} : ∀ {l p : List UInt8}, p ∈ spl c l → p.length ≤ l.length
  | [], p, h => by simp [spl] at h; subst h; exact Nat.le_refl _
  | b :: l, p, h => by
    by_cases hb : b = c
    · subst hb
      rw [spl_eq] at h
      rcases List.mem_cons.1 h with h | h
      · subst h; exact Nat.zero_le _
      · exact Nat.le_succ_of_le (spl_mem_len h)
    · obtain ⟨q, qs, hq⟩ := List.exists_cons_of_ne_nil (spl_ne c l)
      rw [spl_cons hb hq] at h
      rcases List.mem_cons.1 h with h | h
      · subst h
        exact Nat.succ_le_succ (spl_mem_len (c := c) (l := l) (by rw [hq]; simp))
      · exact Nat.le_succ_of_le (spl_mem_len (c := c) (l := l) (by rw [hq]; exact List.mem_cons_of_mem _ h))
theorem parts_size {c : UInt8} {t p : ByteArray} (h : p ∈ partsB c t) : p.size ≤ t.size := by
  unfold partsB at h
  obtain ⟨l, hl, rfl⟩ := List.mem_map.1 h
  have := spl_mem_len hl
  show l.toArray.size ≤ t.data.size
  simpa using this
section
variable {α : Type} {f : ByteArray → Option α}
theorem allF_take {ps : List ByteArray} {k : Nat} (hk : k < ps.length) (h : allF f (ps.take k) = true) : allF f (ps.take (k + 1)) = (f ps[k]).isSome := by
  rw [List.take_succ_eq_append_getElem hk, allF_snoc, h, Bool.true_and]
theorem allF_bad {ps : List ByteArray} {k : Nat} (hk : k < ps.length) (hk2 : k ≤ 8) (h : allF f (ps.take (k + 1)) = false) : allF f (ps.take 9) = false :=
  allF_prefix (List.take_prefix_take_left (by omega)) h
end
theorem take9 {ps : List ByteArray} {k : Nat} (hk : k ≤ ps.length) (hk2 : k ≤ 9) (hend : k = ps.length ∨ 8 < k) : ps.take 9 = ps.take k := by
  rcases hend with h | h
  · rw [List.take_of_length_le (by omega), List.take_of_length_le (by omega)]
  · rw [show k = 9 by omega]
theorem sum_map_le {α : Type} (f : α → Nat) (b : Nat) : ∀ l : List α, (∀ x ∈ l, f x ≤ b) → (l.map f).sum ≤ l.length * b
  | [], _ => Nat.zero_le _
  | x :: l, h => by
    have h1 := h x (by simp)
    have h2 := sum_map_le f b l fun y hy => h y (List.mem_cons_of_mem _ hy)
    rw [List.map_cons, List.sum_cons, List.length_cons, Nat.add_mul, Nat.one_mul]
    omega
theorem szO_le {net : List Ofc} (h : netOk net = true) : ∀ o ∈ net, szO o ≤ 400 := fun o ho => by
  obtain ⟨k, hk, rfl⟩ := List.getElem_of_mem ho
  obtain ⟨h1, _, _, h4, _⟩ := (netOk_iff.1 h).2 k hk
  have a1 := (name_size h1).2
  have a2 := (rulesOk_iff.1 h4).1
  have a3 : sumFw net[k].rules ≤ net[k].rules.length * 15 := by
    unfold sumFw
    refine sum_map_le _ 15 _ fun x hx => ?_
    obtain ⟨j, hj, rfl⟩ := List.getElem_of_mem hx
    have := rule_sizes h4 hj
    first | omega | (unfold szFw; omega)
  unfold szO
  omega
theorem pnN_len (t : ByteArray) : (pnN t).length ≤ 1000 ∧ ∀ k (h : k < (pnN t).length), (pnN t)[k].rules.length ≤ 1000 := by
  unfold pnN
  by_cases h : pnOk t = true
  · rw [if_pos h]
    unfold pnOk at h
    simp only [Bool.and_eq_true] at h
    obtain ⟨_, h⟩ := h
    obtain ⟨h1, h2⟩ := netOk_iff.1 h
    refine ⟨by omega, fun k hk => ?_⟩
    have := (rulesOk_iff.1 (h2 k hk).2.2.2.1).1
    omega
  · simp only [if_neg h]
    exact ⟨Nat.zero_le _, fun k hk => absurd hk (Nat.not_lt_zero k)⟩
theorem pnN_sz (t : ByteArray) : szN (pnN t) ≤ 1048576 ∧ mkN (pnN t) ≤ 2000000 ∧ (pnN t).length ≤ 1000 ∧ ∀ k (h : k < (pnN t).length), (pnN t)[k].rules.length ≤ 1000 := by
  have hz : szN (pnN t) ≤ 10000 := by
    unfold pnN
    by_cases h : pnOk t = true
    · rw [if_pos h]
      unfold pnOk at h
      simp only [Bool.and_eq_true] at h
      obtain ⟨_, h⟩ := h
      have h1 := (netOk_iff.1 h).1.2
      have h2 := sum_map_le szO 400 _ (szO_le h)
      unfold szN sumO
      have h3 : (gotF partO (partsB 59 t)).length * 400 ≤ 8 * 400 := Nat.mul_le_mul_right _ (by omega)
      omega
    · rw [if_neg h]; decide
  have hm := mkN_le (pnN t)
  obtain ⟨h1, h2⟩ := pnN_len t
  exact ⟨by omega, by omega, h1, h2⟩
def snN (t : ByteArray) : List Ofc := if snOk t then gotF partC ((partsB 59 t).take 9) else []
theorem snN_eq (t : ByteArray) : snN t = pnN t := by
  obtain ⟨h1, h2⟩ := sn_eq t
  unfold snN pnN
  rw [h1]
  split
  · rename_i h; exact h2 h
  · rfl

set_option maxRecDepth 100000 in
set_option maxHeartbeats 3200000 in
theorem spec_l6RawParseNetwork (t : ByteArray) (w : World) (ht : t.size ≤ 1000000000000) :
    Calls Tryd.prog 56 #[.string t] w fun e w' => ∃ v' os, e = .returned (.tuple #[v', .bool (snOk t)]) ∧ isN 82 65 w.heap.size w' v' (snN t) os ∧ Below w.heap.size w w' := by
  obtain ⟨i0, ji, jz0, jz1, jz2⟩ := info_parts Tryd.infoOfc
  have lA : Below w.heap.size w (w.alloc (Obj.cells #[] 82)) := (Below.refl _ _).alloc (Nat.le_refl _) _
  have hoA : own (α := OfV) 82 w.heap.size (w.alloc (Obj.cells #[] 82)) (.slice (some ⟨w.heap.size, 0, none⟩) 0 0) [] := own.made0 w _ (Nat.le_refl _)
  have LA := Lib.hid lA; have HOA := Lib.hid (isN.none_ (T2 := 65) hoA)
  clear lA hoA
  go_enter Tryd.func56, Tryd.ntmps56
  have HR : Hid (snN t = if snOk t then gotF partC ((partsB 59 t).take 9) else []) := rfl
  have HPL := Lib.hid (parts_len 59 t)
  have HPZ := Lib.hid (fun p h => Nat.le_trans (parts_size (c := 59) (t := t) (p := p) h) ht)
  have HC := fun W => spec_l9Cut t 59 W ht
  go_wp2_with fail
  obtain ⟨wA, hWA⟩ : ∃ W, w.alloc (Obj.cells #[] 82) = W := ⟨_, rfl⟩
  rw [hWA] at LA HOA ⊢
  clear hWA
  refine (HC wA).mono ?_
  rintro e w1 ⟨v, rfl, hp, b1⟩
  clear HC
  have hap := apart_lt HOA.out.1 hp (Nat.le_refl _)
  obtain ⟨A, n, c, rfl, hn, hnc, hcm, _⟩ := hp.rd
  have ho1 := HOA.out.below b1
  have lw1 : Below w.heap.size w w1 := LA.out.trans (b1.mono LA.out.size)
  have hPS := HPL.out
  clear HPL b1
  have HSS : Hid (snOk t = (allF partC ((partsB 59 t).take 9) && sEq (fmtN (gotF partC ((partsB 59 t).take 9))) t)) := rfl
  obtain ⟨ps, hps⟩ : ∃ ps, partsB 59 t = ps := ⟨_, rfl⟩
  rw [hps] at hn hPS hp HR HSS HPZ
  clear hps
  subst hn
  go_wp2_with fail
  go_loopw [4, 6, 7, 8, 9] (fun v i _ _ _ wr => ∃ (k : Nat) (os : List OfV), k ≤ ps.length ∧ k ≤ 9 ∧ i = .int .i64 k ∧ allF partC (ps.take k) = true ∧ isN 82 65 w.heap.size wr v (gotF partC (ps.take k)) os ∧ own 9 wA.heap.size wr (.slice A ps.length c) ps ∧ apart v (.slice A ps.length c) ∧ Below w.heap.size w wr) (fun _ i _ _ _ _ => 9 - (intOf i).toNat)
  case atStart => exact ⟨0, [], Nat.zero_le _, by omega, rfl, rfl, ho1, hp, hap, lw1⟩
  case round =>
    obtain ⟨k, os, hk, hk9, rfl, hall, ho, hop, hap2, lw⟩ := hrel
    obtain ⟨w2, rfl⟩ : ∃ w2 : World, w2 = wr := ⟨_, rfl⟩
    clear ho1 lw1 hp hap
    have HOP := Lib.hid hop; have HAP := Lib.hid hap2
    have HALL := Lib.hid hall; have HOW := Lib.hid ho
    clear hall
    by_cases hend : k = ps.length ∨ 8 < k
    · have HT := Lib.hid (take9 hk hk9 hend)
      rw [HT.out, HALL.out, Bool.true_and] at HSS
      rw [HT.out] at HR
      have hcond : ((decide ((k : Int) < (ps.length : Int))) && decide ((k : Int) ≤ 8)) = false := by
        rw [Bool.and_eq_false_iff, decide_eq_false_iff_not, decide_eq_false_iff_not]; omega
      obtain ⟨Av, m, cp, rfl, hm, _, _, _⟩ := ho.rd
      have HF := spec_FormatNetwork _ _ w2 HOW.out.rd
      clear ho hm
      by_cases hkl : k = ps.length
      · have hki : ¬ ((k : Int) < (ps.length : Int)) := by omega
        have HKL := Lib.hid hkl
        clear hkl hend hcond
        go_wp2_with fail
        refine HF.mono ?_
        rintro e w3 ⟨rfl, l3⟩
        clear HF
        have o3 := Lib.hid (HOW.out.below l3)
        have lw3 := lw.trans (l3.mono lw.size)
        have hz3 := Lib.hid lw3
        obtain ⟨F, hF⟩ : ∃ F, fmtN (gotF partC (ps.take k)) = F := ⟨_, rfl⟩
        rw [hF] at HSS ⊢
        clear hF lw3 l3
        cases hq : sEq F t
        · rw [hq] at HSS
          have h47 : (F.toList == t.toList) = false := hq
          clear hq
          go_wp2_with fail
          go_ret2
          exact ⟨_, [], ret_vb HSS.out, by rw [HR.out, HSS.out]; exact isN.none_ (own.made0 _ _ hz3.out.size), hz3.out.alloc hz3.out.size _⟩
        · rw [hq] at HSS
          have h47 : (F.toList == t.toList) = true := hq
          clear hq
          go_wp2_with fail
          go_ret2
          exact ⟨_, _, ret_vb HSS.out, by rw [HR.out, HSS.out, if_pos rfl]; exact o3.out, hz3.out⟩
      · have hki : (k : Int) < (ps.length : Int) := by omega
        have hki2 : ¬ ((k : Int) ≤ 8) := by omega
        clear hkl hend hcond
        go_wp2_with fail
        refine HF.mono ?_
        rintro e w3 ⟨rfl, l3⟩
        clear HF
        have o3 := Lib.hid (HOW.out.below l3)
        have lw3 := lw.trans (l3.mono lw.size)
        have hz3 := Lib.hid lw3
        obtain ⟨F, hF⟩ : ∃ F, fmtN (gotF partC (ps.take k)) = F := ⟨_, rfl⟩
        rw [hF] at HSS ⊢
        clear hF lw3 l3
        cases hq : sEq F t
        · rw [hq] at HSS
          have h47 : (F.toList == t.toList) = false := hq
          clear hq
          go_wp2_with fail
          go_ret2
          exact ⟨_, [], ret_vb HSS.out, by rw [HR.out, HSS.out]; exact isN.none_ (own.made0 _ _ hz3.out.size), hz3.out.alloc hz3.out.size _⟩
        · rw [hq] at HSS
          have h47 : (F.toList == t.toList) = true := hq
          clear hq
          go_wp2_with fail
          go_ret2
          exact ⟨_, _, ret_vb HSS.out, by rw [HR.out, HSS.out, if_pos rfl]; exact o3.out, hz3.out⟩
    · have hkl : k < ps.length := by omega
      have hk8 : k ≤ 8 := by omega
      have hki : (k : Int) < (ps.length : Int) := by omega
      have hki2 : (k : Int) ≤ 8 := by omega
      have hki0 : (0 : Int) ≤ (k : Int) := by omega
      obtain ⟨A', n', c', heq, _, _, _, hrs⟩ := hop.rd
      obtain ⟨b, o, hA', hb, hpk, y1⟩ := rdA.strU hrs k hkl
      have HY1 := Lib.hid y1
      have y1 := y1 w2 (Below.refl _ _)
      cases heq
      subst hA'
      clear hrs hop hap2
      have HPA := Lib.hid (allF_take (f := partC) hkl HALL.out)
      have HBAD := Lib.hid (allF_bad (f := partC) hkl hk8)
      have HTK : Hid (ps.take (k + 1) = ps.take k ++ [ps[k]]) := List.take_succ_eq_append_getElem hkl
      have hxz := HPZ.out _ (List.getElem_mem hkl)
      clear hend
      generalize ps[k] = x at *
      have HFD := fun W => spec_l9Find x 32 W hpk
      have hge := Lib.indexByte_ge x.data.toList 32
      by_cases hneg : Lib.indexByte x.data.toList 32 < 0
      · have HCN := Lib.hid (cut_none hneg)
        have HB : Hid (snOk t = false) := by
          show _ = _
          rw [HSS.out, HBAD.out (by rw [HPA.out]; unfold partC; rw [HCN.out]; rfl)]
          rfl
        clear ho
        go_wp2_with fail
        refine (HFD _).mono ?_
        rintro e _ ⟨rfl, rfl⟩
        clear HFD
        generalize Lib.indexByte x.data.toList 32 = j at *
        go_wp2_with fail
        go_ret2
        exact ⟨_, [], ret_vb HB.out, by rw [HR.out, HB.out]; exact isN.none_ (own.made0 _ _ lw.size), lw.alloc lw.size _⟩
      · obtain ⟨i, hix⟩ : ∃ i : Nat, Lib.indexByte x.data.toList 32 = (i : Int) := ⟨(Lib.indexByte x.data.toList 32).toNat, by omega⟩
        obtain ⟨_, hs2⟩ := spl_some hix
        have hil : i < x.size := by simpa using hs2
        have hcs := cut_some hix
        have hcz := cut_sizes hcs
        rw [hix] at HFD
        have HPR : Hid (partC x = some ⟨x.extract 0 i, prR (x.extract (i + 1) x.size)⟩) := by show _ = _; unfold partC; rw [hcs]; rfl
        have HY : Hid ((x.extract 0 i).size ≤ maxLen) := Nat.le_trans hcz.1 hpk
        have HAL : Hid (allF partC (ps.take (k + 1)) = true) := by show _ = _; rw [HPA.out, HPR.out]; rfl
        have HGS : Hid (gotF partC (ps.take (k + 1)) = gotF partC (ps.take k) ++ [⟨x.extract 0 i, prR (x.extract (i + 1) x.size)⟩]) := by show _ = _; rw [HTK.out]; exact gotF_snoc HPR.out
        have HPP := Lib.hid (fun W => spec_ParseRules (x.extract (i + 1) x.size) W (by omega))
        have hgl : os.length = k := by
          rw [ho.2.1, gotF_len _ HALL.out, List.length_take]; omega
        clear hix hneg hge hs2 hcs hcz
        unfold maxLen at hpk
        have hz2 := lw.size
        have w2' : IntKind.i64.wrap ((i : Int) + 1) = (i : Int) + 1 := IntWalk.i64_in _ (by omega)
        have hii : (i : Int) ≤ (x.size : Int) := by omega
        have hi1 : (i : Int) + 1 ≤ (x.size : Int) := by omega
        have hiN : ((i : Int) + 1).toNat = i + 1 := by omega
        have hiz : (0 : Int) ≤ (i : Int) := by omega
        have hiz1 : (0 : Int) ≤ (i : Int) + 1 := by omega
        have hin : ¬ ((i : Int) < 0) := by omega
        obtain ⟨Av, m, cp, rfl, hm, _, _, _⟩ := ho.1.rd
        rw [hgl] at hm
        subst hm
        clear ho
        generalize gotF partC (ps.take m) = gs at *
        go_wp2_with fail
        refine (HFD _).mono ?_
        rintro e _ ⟨rfl, rfl⟩
        clear HFD
        go_wp2_with fail
        refine (HPP.out _).mono ?_
        rintro e w3 ⟨vq, rfl, hoq, b3⟩
        obtain ⟨Aq, nq, cq, rfl, -, -, -, -⟩ := hoq.rd
        have HOQ := Lib.hid hoq
        have HOW3 := Lib.hid (HOW.out.below b3)
        have HOP3 := Lib.hid (HOP.out.below b3)
        have HF1 : Hid (apart (.slice Aq nq cq) (.slice Av m cp)) := apart_gt hoq HOW.out.1 (Nat.le_refl _)
        have HF2 : Hid (∀ i (h : i < os.length), apart (.slice Aq nq cq) os[i].val) := fun i hi => apart_gt HOQ.out (HOW.out.2.2.1 i hi (by have := HOW.out.2.1; omega)).2 (Nat.le_refl _)
        have lw3 := later_trans lw b3
        replace y1 := HY1.out w3 b3
        have hz3 := lw3.size
        clear hoq b3
        go_wp2_with (at_builtin; refine wpList_append1' (α := OfV) rfl (.tmp 42) (.tmp 51) 43 rfl w.heap.size 82 i0 _ 40 Tryd.underlying43 ji jz0 jz1 jz2 rfl (by decide) (.slice Av m cp) os ⟨x.extract 0 i, .slice Aq nq cq⟩ rfl (HOW3.out.1.alloc _) ⟨w3.heap.size, 0, none⟩ 1 [.string (x.extract 0 i), .slice Aq nq cq] rfl ⟨rfl, HY.out, rfl⟩ (news_at w3 _ [.string (x.extract 0 i), .slice Aq nq cq]) (by unfold maxLen; omega) (by omega) (by simp; omega) ?_; intro g cap w4 ho4 hg4 ha4 hl4)
        have hWD : Below w3.heap.size w3 (w3.alloc (Obj.cells #[Value.string (x.extract 0 i), .slice Aq nq cq] 82)) := later_alloc (Below.refl _ _) _
        have hb4 : Below w.heap.size w3 w4 := (hWD.mono hz3).trans (below_append (HOW3.out.1.alloc _) hg4 (by simp; omega))
        have hp5 := (HOP3.out.alloc (Obj.cells #[Value.string (x.extract 0 i), .slice Aq nq cq] 82)).grown hg4 (apart_symm HAP.out)
        have ha5 := apart_app (n := os.length + 1) (c := cap) HAP.out ha4 (fun j hj => ((HOP3.out.alloc (Obj.cells #[Value.string (x.extract 0 i), .slice Aq nq cq] 82)).blk j hj).2)
        have HB4 := Lib.hid (isN.snoc (HOW3.out.below hWD) ((HOQ.out.base_ hz2).below hWD) HF1.out HF2.out ho4 hg4 ha4)
        have HL4 := Lib.hid (lw3.trans hb4); have HP5 := Lib.hid hp5; have HA5 := Lib.hid ha5
        rw [hgl] at HB4 HA5
        clear hWD hg4 ho4 hb4 hp5 ha5
        go_wp2
        go_roundw
        case rel => exact ⟨m + 1, _, by omega, by omega, by go_num, HAL.out, by rw [HGS.out]; exact HB4.out, HP5.out, HA5.out, HL4.out⟩
        case measure => simp [intOf]; omega

set_option maxHeartbeats 400000 in
theorem spec_ParseNetwork (t : ByteArray) (w : World) (ht : t.size ≤ 1000000000000) :
    Calls Tryd.prog 21 #[.string t] w fun e w' => ∃ v', e = .returned (.tuple #[v', .bool (pnOk t)]) ∧ ownN 82 65 w.heap.size w' v' (pnN t) ∧ Below w.heap.size w w' := by
  have HL := Lib.hid (pnN_len t)
  have HRAW := fun W => spec_l6RawParseNetwork t W ht
  rw [snN_eq, (sn_eq t).1] at HRAW
  go_enter Tryd.func21, Tryd.ntmps21
  go_wp2_with fail
  refine (HRAW _).mono ?_
  clear HRAW
  rintro e w1 ⟨v1, os, rfl, h1, b1⟩
  have HR1 := Lib.hid h1.rd
  obtain ⟨A, n, c, rfl, -, -, -, -⟩ := h1.rd
  clear h1
  go_wp2_with fail
  refine (spec_ownN _ (pnN t) w1 HR1.out HL.out.1 HL.out.2).mono ?_
  rintro e w2 ⟨v2, rfl, h2, b2⟩
  have HO2 := Lib.hid h2
  obtain ⟨A2, n2, c2, rfl, -, -, -, -⟩ := h2.rd
  have l2 := later_trans b1 b2
  have hs := b1.size
  clear h2 b2
  go_wp2_with fail
  go_ret2
  obtain ⟨os2, h2⟩ := HO2.out
  exact ⟨_, rfl, ⟨os2, h2.base_ hs⟩, l2⟩

end Go.Proofs.YtffbcfaahegglaaDoor

namespace Go.Proofs.YtffbcfaahegglaaDoor
open Go.RowKit

def abhN : List ByteArray := [⟨#[97]⟩, ⟨#[98]⟩, ⟨#[104, 101, 114, 101]⟩]
theorem abh_name : ∀ x ∈ abhN, isName x = true := by decide
theorem abh_own (B : Nat) (W : World) (hB : B ≤ W.heap.size) : own 9 B (W.alloc (Obj.cells #[.string ⟨#[97]⟩, .string ⟨#[98]⟩, .string ⟨#[104, 101, 114, 101]⟩] 9)) (.slice (some ⟨W.heap.size, 0, none⟩) 3 3) abhN :=
  list_str 9 B W ([⟨#[97]⟩, ⟨#[98]⟩, ⟨#[104, 101, 114, 101]⟩] : List ByteArray) (by intro x hx; simp at hx; rcases hx with rfl | rfl | rfl <;> decide) (by decide) hB
theorem fmtRu_pos {rs : List Fwd} (h : rulesOk rs = true) : 1 ≤ (fmtRu rs).size := by
  by_cases h0 : rs.length = 0
  · rw [fmtRu_empty h h0]; decide
  · rw [fmtRu_some h h0]
    have := preU_pos h (Nat.pos_of_ne_zero h0)
    unfold preU at this
    rwa [List.take_of_length_le (by simp)] at this

/-- Drawn rules, spoilt. -/
def drawRuPost (T : Nat) (w : World) (e : Ending) (w' : World) : Prop :=
  ∃ (v : Value) (rs : List Fwd), e = .returned v ∧ own T w.heap.size w' v rs ∧ rs.length ≤ 40 ∧ Below w.heap.size w w'

set_option maxRecDepth 100000 in
set_option maxHeartbeats 800000 in
theorem draw_DrawRulesValid (v : Value) (bs : List UInt8) (w : World) (hv : rd w w.heap.size v bs) :
    Calls Tryd.prog 42 #[v] w (drawRuPost 65 w) := by
  go_enter Tryd.func42, Tryd.ntmps42
  go_wp2_with fail
  refine (rd_open _ bs _ hv).mono ?_
  rintro e w1 ⟨g, rfl, hg, hr1, b1⟩
  have hlt := hr1.lt
  have hz1 := b1.size
  have HO := Lib.hid (abh_own (g + 1) w1 hlt)
  have hrA := hr1.alloc (Obj.cells #[.string ⟨#[97]⟩, .string ⟨#[98]⟩, .string ⟨#[104, 101, 114, 101]⟩] 9)
  have bA : Below w.heap.size w (w1.alloc (Obj.cells #[.string ⟨#[97]⟩, .string ⟨#[98]⟩, .string ⟨#[104, 101, 114, 101]⟩] 9)) := b1.alloc hz1 _
  have hzA : w1.heap.size + 1 = (w1.alloc (Obj.cells #[.string ⟨#[97]⟩, .string ⟨#[98]⟩, .string ⟨#[104, 101, 114, 101]⟩] 9)).heap.size := by simp
  go_wp2_with fail
  obtain ⟨wA, hwA⟩ : ∃ W, w1.alloc (Obj.cells #[.string ⟨#[97]⟩, .string ⟨#[98]⟩, .string ⟨#[104, 101, 114, 101]⟩] 9) = W := ⟨_, rfl⟩
  rw [hwA] at HO hrA bA hzA ⊢
  clear hwA
  refine (rd_l6Rules g 0 _ abhN wA hrA (by omega) HO.out (by decide)).mono ?_
  rintro e w2 ⟨v2, rs, p2, rfl, o2, hl2, _, hr2, hp2, hg2⟩
  have b2 : Below w.heap.size w w2 := bA.trans (below_of_grown hg2 bA.size (fun r e => by injection e; omega))
  have hzA2 := bA.size
  clear hg2 hrA bA HO
  obtain ⟨A2, m2, c2, hv2, hm2, _, _, _⟩ := o2.rd
  subst hm2 hv2
  go_wp2_with fail
  refine (rd_l6BadRules g p2 wA.heap.size _ rs _ hr2 (by omega) o2 (by omega) (by omega)).mono ?_
  rintro e w3 ⟨v3, ys, p3, rfl, o3, hl3, hr3, hp3, k3⟩
  have b3 : Below w.heap.size w w3 := b2.trans (k3.toBelow hg (by omega))
  obtain ⟨A3, m3, c3, hv3, hm3, _, _, _⟩ := o3.rd
  subst hm3 hv3
  go_wp2_with fail
  go_ret
  exact ⟨_, ys, rfl, o3.base_ (by omega), hl3, b3⟩
set_option maxHeartbeats 400000 in
theorem draw_DrawFormatRules (v : Value) (bs : List UInt8) (w : World) (hv : rd w w.heap.size v bs) :
    Calls Tryd.prog 13 #[v] w (drawRuPost 65 w) := by
  go_enter Tryd.func13, Tryd.ntmps13
  go_wp2_with fail
  refine (draw_DrawRulesValid _ bs _ hv).mono ?_
  rintro e w1 ⟨v1, rs, rfl, o1, hl1, b1⟩
  obtain ⟨A, n, c, hv1, hn, _, _, _⟩ := o1.rd
  subst hn hv1
  go_wp2_with fail
  go_ret
  exact ⟨_, rs, rfl, o1, hl1, b1⟩

/-! ### Texts -/
set_option maxRecDepth 100000 in
set_option maxHeartbeats 1600000 in
theorem draw_DrawParseRules (v : Value) (bs : List UInt8) (w : World) (hv : rd w w.heap.size v bs) :
    Calls Tryd.prog 19 #[v] w fun e w' => ∃ t : ByteArray, e = .returned (.string t) ∧ t.size ≤ 1000 ∧ Below w.heap.size w w' := by
  go_enter Tryd.func19, Tryd.ntmps19
  go_wp2_with fail
  refine (rd_open _ bs _ hv).mono ?_
  rintro e w1 ⟨g, rfl, hg, hr1, b1⟩
  have hlt := hr1.lt
  have hz1 := b1.size
  have HO := Lib.hid (abh_own (g + 1) w1 hlt)
  have hrA := hr1.alloc (Obj.cells #[.string ⟨#[97]⟩, .string ⟨#[98]⟩, .string ⟨#[104, 101, 114, 101]⟩] 9)
  have bA : Below w.heap.size w (w1.alloc (Obj.cells #[.string ⟨#[97]⟩, .string ⟨#[98]⟩, .string ⟨#[104, 101, 114, 101]⟩] 9)) := b1.alloc hz1 _
  have hzA : w1.heap.size + 1 = (w1.alloc (Obj.cells #[.string ⟨#[97]⟩, .string ⟨#[98]⟩, .string ⟨#[104, 101, 114, 101]⟩] 9)).heap.size := by simp
  go_wp2_with fail
  obtain ⟨wA, hwA⟩ : ∃ W, w1.alloc (Obj.cells #[.string ⟨#[97]⟩, .string ⟨#[98]⟩, .string ⟨#[104, 101, 114, 101]⟩] 9) = W := ⟨_, rfl⟩
  rw [hwA] at HO hrA bA hzA ⊢
  clear hwA
  refine (rd_l6Rules g 0 _ abhN wA hrA (by omega) HO.out (by decide)).mono ?_
  rintro e w2 ⟨v2, rs, p2, rfl, o2, hl2, hd2, hr2, hp2, hg2⟩
  have b2 : Below w.heap.size w w2 := bA.trans (below_of_grown hg2 bA.size (fun r e => by injection e; omega))
  have hF1 := fmtRu_pos (hd2.ok (by omega) abh_name)
  have hF2 := fmtRu_size rs
  clear hg2 hrA bA HO hd2
  obtain ⟨A2, m2, c2, hv2, hm2, _, _, _⟩ := o2.rd
  subst hm2 hv2
  go_wp2_with fail
  refine (spec_FormatRules _ rs _ o2.rd).mono ?_
  rintro e w3 ⟨rfl, l3⟩
  have hr3 := hr2.below l3
  have b3 : Below w.heap.size w w3 := b2.trans (l3.mono b2.size)
  generalize fmtRu rs = F at *
  clear l3 hr2 b2 o2
  go_wp2_with fail
  refine (rd_pick g p2 2 _ hr3 (by omega) (by unfold isI64; omega)).mono ?_
  rintro e w4 ⟨y, rfl, hy, hr4, hg4⟩
  have b4 : Below w.heap.size w w4 := b3.trans (below_of_grown hg4 b3.size (fun r e => by injection e; omega))
  clear hy hg4 hr3 b3
  by_cases hy0 : y = 0
  · have hyb : (y == 0) = true := by simp [hy0]
    clear hy0
    go_wp2_with fail
    go_ret
    exact ⟨F, rfl, by omega, b4⟩
  have hyb : (y == 0) = false := by simp [hy0]
  clear hy0
  go_wp2_with fail
  refine (rd_pick g (p2 + 1) F.size _ hr4 (by omega) (by unfold isI64; omega)).mono ?_
  rintro e w5 ⟨z, rfl, hz, hr5, hg5⟩
  obtain ⟨z0, z1⟩ := hz.2 (by omega)
  obtain ⟨k, rfl⟩ := Int.eq_ofNat_of_zero_le z0
  have b5 : Below w.heap.size w w5 := b4.trans (below_of_grown hg5 b4.size (fun r e => by injection e; omega))
  have HB5 := Lib.hid b5
  have HR5 := Lib.hid hr5
  have hkF : k < F.size := by omega
  clear hz hg5 hr4 b4 b5
  have hkF1 : (k : Int) ≤ (F.size : Int) := by omega
  have hk0 : (0 : Int) ≤ (k : Int) := by omega
  go_wp2_with fail
  have hlt5 := HR5.out.lt
  have HSA : Hid (∀ (x : ByteArray), x.size ≤ 1 → ∀ W, (Op.stringOp .add (F.extract 0 k) x).run Tryd.prog W = .ok (.string (F.extract 0 k ++ x)) W) := fun x hx W => run_string_add (w := W) _ _ (by rw [ByteArray.size_extract]; omega) (by omega)
  have HSB : Hid (∀ (x : ByteArray) (n : Nat), x.size ≤ 1 → ∀ W, (Op.stringOp .add (F.extract 0 k ++ x) (F.extract n F.size)).run Tryd.prog W = .ok (.string (F.extract 0 k ++ x ++ F.extract n F.size)) W) := fun x n hx W => run_string_add (w := W) _ _ (by rw [ByteArray.size_append, ByteArray.size_extract]; omega) (by rw [ByteArray.size_extract]; omega)
  have K0 : Hid (kept2 g w5.heap.size w5 w5.drew) := ⟨rfl, rfl, rfl, Nat.le_refl _, fun _ _ _ => rfl⟩
  have K1 : Hid (∀ o : Obj, kept2 g w5.heap.size w5 (w5.alloc o).drew) := fun o => by
    have h := (kept2.refl g w5.heap.size w5).allocO o
    exact ⟨h.os, h.tape, h.output, h.size, h.block⟩
  have K2 : Hid (∀ o : Obj, kept2 g w5.heap.size w5 (w5.drew.alloc o)) := fun o => by
    have h := (kept2.refl g w5.heap.size w5).allocO o
    exact ⟨h.os, h.tape, h.output, h.size, h.block⟩
  have R1 : Hid (∀ o : Obj, rdr (w5.alloc o).drew g (p2 + 1 + 1)) := fun o => (HR5.out.alloc o).below ((Below.refl _ _).drew)
  have O1 : Hid (own 9 (g + 1) (w5.alloc (Obj.cells #[Value.string ⟨#[]⟩, Value.string ⟨#[48]⟩, Value.string ⟨#[32]⟩, Value.string ⟨#[62]⟩, Value.string ⟨#[45]⟩, Value.string ⟨#[97]⟩] 9)).drew (.slice (some ⟨w5.heap.size, 0, none⟩) 6 6) ([⟨#[]⟩, ⟨#[48]⟩, ⟨#[32]⟩, ⟨#[62]⟩, ⟨#[45]⟩, ⟨#[97]⟩] : List ByteArray)) := (list_str 9 (g + 1) w5 ([⟨#[]⟩, ⟨#[48]⟩, ⟨#[32]⟩, ⟨#[62]⟩, ⟨#[45]⟩, ⟨#[97]⟩] : List ByteArray) (by intro x hx; simp at hx; rcases hx with rfl | rfl | rfl | rfl | rfl | rfl <;> decide) (by decide) hlt5).drew
  have HP1 : Hid (∀ W v, rdr W g (p2 + 1 + 1) → kept2 g w5.heap.size w5 W → own 9 (g + 1) W v ([⟨#[]⟩, ⟨#[48]⟩, ⟨#[32]⟩, ⟨#[62]⟩, ⟨#[45]⟩, ⟨#[97]⟩] : List ByteArray) → Calls Tryd.prog 53 #[.pointer (some ⟨g, 0, none⟩), v] W fun e W' => ∃ x : ByteArray, e = .returned (.string x) ∧ x.size ≤ 1 ∧ rdr W' g ((p2 + 1 + 1) + 1) ∧ kept2 g w5.heap.size w5 W') := fun W v hr hk hv => by
    refine (rd_of 9 g _ v ([⟨#[]⟩, ⟨#[48]⟩, ⟨#[32]⟩, ⟨#[62]⟩, ⟨#[45]⟩, ⟨#[97]⟩] : List ByteArray) W hr (by omega) hv (by decide)).mono ?_
    rintro e w6 ⟨x, hx, rfl, _, hr6, hg6⟩
    exact ⟨x, rfl, by simp at hx; rcases hx with rfl | rfl | rfl | rfl | rfl | rfl <;> decide, hr6, hk.step hg6 (Nat.le_refl _)⟩
  have HP2 : Hid (∀ W, rdr W g ((p2 + 1 + 1) + 1) → kept2 g w5.heap.size w5 W → Calls Tryd.prog 52 #[.pointer (some ⟨g, 0, none⟩), .int .i64 2] W fun e W' => ∃ m : Nat, e = .returned (.int .i64 (m : Int)) ∧ m ≤ 1 ∧ kept2 g w5.heap.size w5 W') := fun W hr hk => by
    refine (rd_pick g _ 2 _ hr (by omega) (by unfold isI64; omega)).mono ?_
    rintro e w6 ⟨z, rfl, hz, hr6, hg6⟩
    obtain ⟨z0, z1⟩ := hz.2 (by omega)
    obtain ⟨m, rfl⟩ := Int.eq_ofNat_of_zero_le z0
    exact ⟨m, rfl, by omega, hk.step hg6 (Nat.le_refl _)⟩
  go_region_held3 (fun W => kept2 g w5.heap.size w5 W) (first | exact K0.out | exact K1.out _ | exact K2.out _ | exact k6 | exact k7 | fail) (first | (go_at_call 53; (with_reducible refine (HP1.out _ _ (R1.out _) (K1.out _) O1.out).mono ?_); rintro e w6 ⟨x, rfl, hx1, hr6, k6⟩; have hsa := HSA.out x hx1) | (go_at_call 52; (with_reducible refine (HP2.out _ hr6 k6).mono ?_); rintro e w7 ⟨m, rfl, hm1, k7⟩; obtain ⟨n, hn⟩ : ∃ n : Nat, n = k + m := ⟨_, rfl⟩; have hkm : IntKind.i64.wrap ((k : Int) + (m : Int)) = (n : Int) := (by rw [IntWalk.i64_in _ (by omega)]; omega); have hkm1 : (n : Int) ≤ (F.size : Int) := (by omega); have hkm0 : (0 : Int) ≤ (n : Int) := (by omega); have hsb := HSB.out x n hx1; have HN := Lib.hid hn; clear hn) | fail)
  all_goals
    have b7 : Below w.heap.size w w7 := HB5.out.trans (k7.toBelow hg HB5.out.size)
    have HB7 := Lib.hid b7
    clear b7 k7 k6 hr6
    have HZ : Hid ((F.extract 0 k ++ x ++ F.extract n F.size).size ≤ 1000) := by
      show _ ≤ _
      rw [ByteArray.size_append, ByteArray.size_append, ByteArray.size_extract, ByteArray.size_extract]
      omega
    go_wp2_with fail
    go_ret
    exact ⟨_, rfl, HZ.out, HB7.out⟩

end Go.Proofs.YtffbcfaahegglaaDoor

namespace Go.Proofs.YtffbcfaahegglaaDoor
open Go.RowKit

set_option maxRecDepth 100000 in
set_option maxHeartbeats 800000 in
theorem so_nets (v v' : Value) (xss : List Ofc) (w : World) (hv : rd w w.heap.size v xss) (hv' : rd w w.heap.size v' xss) :
    Calls Tryd.prog 30 #[v, v'] w fun e w' => e = .returned (.bool true) ∧ Below w.heap.size w w' := by
  obtain ⟨A, n, c, rfl, hn, hc, hm, hr⟩ := hv
  obtain ⟨A', n', c', rfl, hn', hc', hm', hr'⟩ := hv'
  subst hn hn'
  unfold maxLen at hm hm'
  have HR := Lib.hid hr; clear hr
  have HR' := Lib.hid hr'; clear hr'
  have hl1 : ((xss.length : Int) != (xss.length : Int)) = false := by simp
  have l0 := Below.refl w.heap.size w
  go_enter Tryd.func30, Tryd.ntmps30
  go_wp2_with fail
  go_loopw [5] (fun i wr => ∃ k : Nat, k ≤ xss.length ∧ i = .int .i64 k ∧ Below w.heap.size w wr) (fun i _ => xss.length - (intOf i).toNat)
  case atStart => exact ⟨0, Nat.zero_le _, rfl, l0⟩
  case round =>
    obtain ⟨k, hk, rfl, lr⟩ := hrel
    obtain ⟨w1, rfl⟩ : ∃ w1 : World, w1 = wr := ⟨_, rfl⟩
    clear l0
    by_cases hlt : k < xss.length
    · obtain ⟨b, o, A2, c2, rfl, hb, _, hu, y1, y2⟩ := HR.out.ofcU k hlt
      obtain ⟨b', o', A3, c3, rfl, hb', _, hu', z1, z2⟩ := HR'.out.ofcU k hlt
      generalize xss[k] = y at *
      obtain ⟨nm, ys⟩ := y
      simp only at hu hu' y1 y2 z1 z2
      have hki : (k : Int) < (xss.length : Int) := by omega
      have hki0 : (0 : Int) ≤ (k : Int) := by omega
      have hq : (nm.toList != nm.toList) = false := by simp
      have HC : Hid (∀ W, Below w.heap.size w W → Calls Tryd.prog 18 #[.slice A2 ys.length c2, .slice A3 ys.length c3] W fun e W' => e = .returned (.bool true) ∧ Below w.heap.size w W') := fun W hW =>
        (so_rules _ _ ys W (hu.on hW) (hu'.on hW)).mono fun e W' h => ⟨h.1, hW.trans (h.2.mono hW.size)⟩
      have ld := later_drew lr
      clear hu hu'
      go_wp2_with fail
      go_region_held3 (fun W => Below w.heap.size w W) (first | exact ld | exact b3 | fail) (first | (go_at_call 18; (with_reducible refine (HC.out _ ld).mono ?_); rintro e w3 ⟨rfl, b3⟩) | fail)
      all_goals
        go_wp2_with fail
        go_roundw
        case rel => exact ⟨k + 1, by omega, by go_num, b3⟩
        case measure => simp [intOf]; omega
    · go_wp2
      go_ret
      exact ⟨rfl, lr⟩

def drawNetPost (T1 T2 : Nat) (w : World) (e : Ending) (w' : World) : Prop := ∃ (v : Value) (net : List Ofc), e = .returned v ∧ drN T1 T2 w.heap.size w' v net ∧ Below w.heap.size w w'
set_option maxHeartbeats 800000 in
theorem draw_DrawNetworkValid (v : Value) (bs : List UInt8) (w : World) (hv : rd w w.heap.size v bs) :
    Calls Tryd.prog 62 #[v] w (drawNetPost 82 65 w) := by
  go_enter Tryd.func62, Tryd.ntmps62
  go_wp2_with fail
  refine (rd_open _ bs _ hv).mono ?_
  rintro e w1 ⟨g, rfl, hg, hr1, b1⟩
  have hlt := hr1.lt
  have hz1 := b1.size
  go_wp2_with fail
  refine (rd_l6Net g 0 _ hr1 (by omega)).mono ?_
  rintro e w2 ⟨v2, net, os, p2, rfl, hn2, hl2, hl4, hl6, _, hr2, hp2, hg2⟩
  have HN2 := Lib.hid hn2
  have HL6 := Lib.hid hl6
  have b2 : Below w.heap.size w w2 := b1.trans (below_of_grown hg2 hz1 (fun r e => by injection e; omega))
  have hz2 := hg2.size
  clear hn2 hl6 hg2 hr1 b1
  obtain ⟨A2, m2, c2, hv2, hm2, _, _, _⟩ := HN2.out.rd
  subst hm2 hv2
  go_wp2_with fail
  refine (rd_l6Bad g p2 w1.heap.size _ net os _ hr2 (by omega) HN2.out hlt hl2 hl4 HL6.out).mono ?_
  rintro e w3 ⟨v3, net3, p3, rfl, hn3, _, _, hr3, hp3, k3⟩
  have HN3 := Lib.hid hn3
  have b3 : Below w.heap.size w w3 := b2.trans (k3.toBelow hg hz1)
  clear hn3 k3 hr2 b2
  obtain ⟨A3, m3, c3, hv3, hm3, _, _, _⟩ := HN3.out.rd
  subst hm3 hv3
  go_wp2_with fail
  go_ret
  exact ⟨_, net3, rfl, HN3.out.base_ hz1, b3⟩
set_option maxHeartbeats 400000 in
theorem draw_DrawFormatNetwork (v : Value) (bs : List UInt8) (w : World) (hv : rd w w.heap.size v bs) :
    Calls Tryd.prog 26 #[v] w (drawNetPost 82 65 w) := by
  go_enter Tryd.func26, Tryd.ntmps26
  go_wp2_with fail
  refine (draw_DrawNetworkValid _ bs _ hv).mono ?_
  rintro e w1 ⟨v1, net, rfl, o1, b1⟩
  obtain ⟨A, n, c, hv1, hn, _, _, _⟩ := o1.rd
  subst hn hv1
  go_wp2_with fail
  go_ret
  exact ⟨_, net, rfl, o1, b1⟩

set_option maxRecDepth 100000 in
set_option maxHeartbeats 1600000 in
theorem draw_DrawParseNetwork (v : Value) (bs : List UInt8) (w : World) (hv : rd w w.heap.size v bs) :
    Calls Tryd.prog 31 #[v] w fun e w' => ∃ t : ByteArray, e = .returned (.string t) ∧ t.size ≤ 6000 ∧ Below w.heap.size w w' := by
  go_enter Tryd.func31, Tryd.ntmps31
  go_wp2_with fail
  refine (rd_open _ bs _ hv).mono ?_
  rintro e w1 ⟨g, rfl, hg, hr1, b1⟩
  have hlt := hr1.lt
  have hz1 := b1.size
  go_wp2_with fail
  refine (rd_l6Net g 0 _ hr1 (by omega)).mono ?_
  rintro e w2 ⟨v2, net, os, p2, rfl, hn2, hl2, hl4, _, hdr, hr2, hp2, hg2⟩
  have hF1 := fmtN_pos (hdr.ok (by omega) hl4)
  have hF2 := fmtN_size net
  have HN2 := Lib.hid hn2
  have b2 : Below w.heap.size w w2 := b1.trans (below_of_grown hg2 hz1 (fun r e => by injection e; omega))
  clear hn2 hg2 hr1 b1 hdr
  obtain ⟨A2, m2, c2, hv2, hm2, _, _, _⟩ := HN2.out.rd
  subst hm2 hv2
  go_wp2_with fail
  refine (spec_FormatNetwork _ net _ HN2.out.rd).mono ?_
  rintro e w3 ⟨rfl, l3⟩
  have hr3 := hr2.below l3
  have b3 : Below w.heap.size w w3 := b2.trans (l3.mono b2.size)
  generalize fmtN net = F at *
  clear l3 hr2 b2 HN2
  go_wp2_with fail
  refine (rd_pick g p2 2 _ hr3 (by omega) (by unfold isI64; omega)).mono ?_
  rintro e w4 ⟨y, rfl, hy, hr4, hg4⟩
  have b4 : Below w.heap.size w w4 := b3.trans (below_of_grown hg4 b3.size (fun r e => by injection e; omega))
  clear hy hg4 hr3 b3
  by_cases hy0 : y = 0
  · have hyb : (y == 0) = true := by simp [hy0]
    clear hy0
    go_wp2_with fail
    go_ret
    exact ⟨F, rfl, by omega, b4⟩
  have hyb : (y == 0) = false := by simp [hy0]
  clear hy0
  go_wp2_with fail
  refine (rd_pick g (p2 + 1) 256 _ hr4 (by omega) (by unfold isI64; omega)).mono ?_
  rintro e wa ⟨z, rfl, hz, hra, hga⟩
  obtain ⟨z0, z1⟩ := hz.2 (by omega)
  have ba : Below w.heap.size w wa := b4.trans (below_of_grown hga b4.size (fun r e => by injection e; omega))
  clear hz hga hr4 b4
  go_wp2_with fail
  refine (rd_pick g (p2 + 1 + 1) 256 _ hra (by omega) (by unfold isI64; omega)).mono ?_
  rintro e w5 ⟨y2, rfl, hy2, hr5, hg5⟩
  obtain ⟨y20, y21⟩ := hy2.2 (by omega)
  have b5 : Below w.heap.size w w5 := ba.trans (below_of_grown hg5 ba.size (fun r e => by injection e; omega))
  have HB5 := Lib.hid b5
  obtain ⟨pp, hpp⟩ : ∃ pp, p2 + 1 + 1 + 1 = pp := ⟨_, rfl⟩
  rw [hpp] at hr5
  have HPP := Lib.hid hpp
  have hpz : pp ≤ 1000 := by omega
  have HR5 := Lib.hid hr5
  clear hy2 hg5 hra ba b5 hpp
  have hwr : IntKind.i64.wrap (z + y2) = z + y2 := IntWalk.i64_in _ (by omega)
  have hzy : 0 ≤ z + y2 := by omega
  have hzy2 : z + y2 ≤ 510 := by omega
  have hFz : ¬ ((F.size : Int) = 0) := by omega
  have hFz0 : (0 : Int) < (F.size : Int) := by omega
  obtain ⟨k, hk⟩ : ∃ k : Nat, (z + y2) % (F.size : Int) = (k : Int) := ⟨((z + y2) % (F.size : Int)).toNat, by have := Int.emod_nonneg (z + y2) hFz; omega⟩
  have hkF : k < F.size := by have := Int.emod_lt_of_pos (z + y2) hFz0; omega
  have hkF1 : (k : Int) ≤ (F.size : Int) := by omega
  have hk0 : (0 : Int) ≤ (k : Int) := by omega
  have htm : (z + y2).tmod (F.size : Int) = (k : Int) := by rw [Int.tmod_eq_emod_of_nonneg hzy]; exact hk
  go_wp2_with fail
  have hlt5 := HR5.out.lt
  have HSA : Hid (∀ (x : ByteArray), x.size ≤ 1 → ∀ W, (Op.stringOp .add (F.extract 0 k) x).run Tryd.prog W = .ok (.string (F.extract 0 k ++ x)) W) := fun x hx W => run_string_add (w := W) _ _ (by rw [ByteArray.size_extract]; omega) (by omega)
  have HSB : Hid (∀ (x : ByteArray) (n : Nat), x.size ≤ 1 → ∀ W, (Op.stringOp .add (F.extract 0 k ++ x) (F.extract n F.size)).run Tryd.prog W = .ok (.string (F.extract 0 k ++ x ++ F.extract n F.size)) W) := fun x n hx W => run_string_add (w := W) _ _ (by rw [ByteArray.size_append, ByteArray.size_extract]; omega) (by rw [ByteArray.size_extract]; omega)
  have K0 : Hid (kept2 g w5.heap.size w5 w5.drew) := ⟨rfl, rfl, rfl, Nat.le_refl _, fun _ _ _ => rfl⟩
  have K1 : Hid (∀ o : Obj, kept2 g w5.heap.size w5 (w5.alloc o).drew) := fun o => by
    have h := (kept2.refl g w5.heap.size w5).allocO o
    exact ⟨h.os, h.tape, h.output, h.size, h.block⟩
  have K2 : Hid (∀ o : Obj, kept2 g w5.heap.size w5 (w5.drew.alloc o)) := fun o => by
    have h := (kept2.refl g w5.heap.size w5).allocO o
    exact ⟨h.os, h.tape, h.output, h.size, h.block⟩
  have R1 : Hid (∀ o : Obj, rdr (w5.alloc o).drew g (pp)) := fun o => (HR5.out.alloc o).below ((Below.refl _ _).drew)
  have O1 : Hid (own 9 (g + 1) (w5.alloc (Obj.cells #[Value.string ⟨#[]⟩, Value.string ⟨#[48]⟩, Value.string ⟨#[32]⟩, Value.string ⟨#[59]⟩, Value.string ⟨#[45]⟩, Value.string ⟨#[97]⟩] 9)).drew (.slice (some ⟨w5.heap.size, 0, none⟩) 6 6) ([⟨#[]⟩, ⟨#[48]⟩, ⟨#[32]⟩, ⟨#[59]⟩, ⟨#[45]⟩, ⟨#[97]⟩] : List ByteArray)) := (list_str 9 (g + 1) w5 ([⟨#[]⟩, ⟨#[48]⟩, ⟨#[32]⟩, ⟨#[59]⟩, ⟨#[45]⟩, ⟨#[97]⟩] : List ByteArray) (by intro x hx; simp at hx; rcases hx with rfl | rfl | rfl | rfl | rfl | rfl <;> decide) (by decide) hlt5).drew
  have HP1 : Hid (∀ W v, rdr W g (pp) → kept2 g w5.heap.size w5 W → own 9 (g + 1) W v ([⟨#[]⟩, ⟨#[48]⟩, ⟨#[32]⟩, ⟨#[59]⟩, ⟨#[45]⟩, ⟨#[97]⟩] : List ByteArray) → Calls Tryd.prog 53 #[.pointer (some ⟨g, 0, none⟩), v] W fun e W' => ∃ x : ByteArray, e = .returned (.string x) ∧ x.size ≤ 1 ∧ rdr W' g ((pp) + 1) ∧ kept2 g w5.heap.size w5 W') := fun W v hr hk hv => by
    refine (rd_of 9 g _ v ([⟨#[]⟩, ⟨#[48]⟩, ⟨#[32]⟩, ⟨#[59]⟩, ⟨#[45]⟩, ⟨#[97]⟩] : List ByteArray) W hr (by omega) hv (by decide)).mono ?_
    rintro e w6 ⟨x, hx, rfl, _, hr6, hg6⟩
    exact ⟨x, rfl, by simp at hx; rcases hx with rfl | rfl | rfl | rfl | rfl | rfl <;> decide, hr6, hk.step hg6 (Nat.le_refl _)⟩
  have HP2 : Hid (∀ W, rdr W g ((pp) + 1) → kept2 g w5.heap.size w5 W → Calls Tryd.prog 52 #[.pointer (some ⟨g, 0, none⟩), .int .i64 2] W fun e W' => ∃ m : Nat, e = .returned (.int .i64 (m : Int)) ∧ m ≤ 1 ∧ kept2 g w5.heap.size w5 W') := fun W hr hk => by
    refine (rd_pick g _ 2 _ hr (by omega) (by unfold isI64; omega)).mono ?_
    rintro e w6 ⟨z, rfl, hz, hr6, hg6⟩
    obtain ⟨z0, z1⟩ := hz.2 (by omega)
    obtain ⟨m, rfl⟩ := Int.eq_ofNat_of_zero_le z0
    exact ⟨m, rfl, by omega, hk.step hg6 (Nat.le_refl _)⟩
  go_region_held3 (fun W => kept2 g w5.heap.size w5 W) (first | exact K0.out | exact K1.out _ | exact K2.out _ | exact k6 | exact k7 | fail) (first | (go_at_call 53; (with_reducible refine (HP1.out _ _ (R1.out _) (K1.out _) O1.out).mono ?_); rintro e w6 ⟨x, rfl, hx1, hr6, k6⟩; have hsa := HSA.out x hx1) | (go_at_call 52; (with_reducible refine (HP2.out _ hr6 k6).mono ?_); rintro e w7 ⟨m, rfl, hm1, k7⟩; obtain ⟨n, hn⟩ : ∃ n : Nat, n = k + m := ⟨_, rfl⟩; have hkm : IntKind.i64.wrap ((k : Int) + (m : Int)) = (n : Int) := (by rw [IntWalk.i64_in _ (by omega)]; omega); have hkm1 : (n : Int) ≤ (F.size : Int) := (by omega); have hkm0 : (0 : Int) ≤ (n : Int) := (by omega); have hsb := HSB.out x n hx1; have HN := Lib.hid hn; clear hn) | fail)
  all_goals
    have b7 : Below w.heap.size w w7 := HB5.out.trans (k7.toBelow hg HB5.out.size)
    have HB7 := Lib.hid b7
    clear b7 k7 k6 hr6
    have HZ : Hid ((F.extract 0 k ++ x ++ F.extract n F.size).size ≤ 6000) := by
      show _ ≤ _
      rw [ByteArray.size_append, ByteArray.size_append, ByteArray.size_extract, ByteArray.size_extract]
      omega
    go_wp2_with fail
    go_ret
    exact ⟨_, rfl, HZ.out, HB7.out⟩

end Go.Proofs.YtffbcfaahegglaaDoor
