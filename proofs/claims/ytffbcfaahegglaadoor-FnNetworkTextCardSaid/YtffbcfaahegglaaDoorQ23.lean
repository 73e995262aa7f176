/- GO NA NK E4 -/
import Derived.Test.YtffbcfaahegglaaDoorQ6
import Derived.Test.YtffbcfaahegglaaDoorQ12
import Derived.Test.YtffbcfaahegglaaDoorQ13
import Derived.Test.YtffbcfaahegglaaDoorQ22
import Derived.Test.YtffbcfaahegglaaDoorQ11
import Derived.Test.YtffbcfaahegglaaDoorQ3
import Derived.Laws.StructEq
import Derived.Deep.QuietTactic
import Derived.BigQuiet
namespace Go.Proofs.YtffbcfaahegglaaDoor
open Go.RowKit

def szO (o : Ofc) : Nat := o.name.size + (o.rules.length + sumFw o.rules)
def sumO (net : List Ofc) : Nat := (net.map szO).sum
def szN (net : List Ofc) : Nat := net.length + sumO net
theorem sumO_succ (net : List Ofc) (k : Nat) (h : k < net.length) : sumO (net.take (k + 1)) = sumO (net.take k) + szO net[k] := by
  unfold sumO; rw [List.take_succ_eq_append_getElem h, List.map_append, List.sum_append]; simp
theorem sumO_le (net : List Ofc) (k : Nat) : sumO (net.take k) ≤ sumO net := by
  unfold sumO
  conv => rhs; rw [← List.take_append_drop k net, List.map_append, List.sum_append]
  omega
theorem ofc_le_szN {net : List Ofc} {k : Nat} (h : k < net.length) : szO net[k] ≤ szN net := by
  have h1 := sumO_succ net k h
  have h2 := sumO_le net (k + 1)
  unfold szN; omega




theorem Tryd.infoOfc : (Tryd.prog.info? 82).map (fun i => (i.zero, i.size, i.bytes)) = some (some (.agg #[.string ⟨#[]⟩, .slice none 0 0]), 2, 40) := by kernel_rfl


theorem laws_eqOffice (o : Ofc) (A A' : Option Addr) (c c' : Nat) (w : World) (hv : rd w w.heap.size (.slice A o.rules.length c) o.rules) (hv' : rd w w.heap.size (.slice A' o.rules.length c') o.rules) :
    Calls Tryd.prog 58 #[.agg #[.string o.name, .slice A o.rules.length c], .agg #[.string o.name, .slice A' o.rules.length c']] w fun e w' => e = .returned (.bool true) ∧ Below w.heap.size w w' := by
  have HR := Lib.hid hv; clear hv
  have HR' := Lib.hid hv'; clear hv'
  have HQ : Hid (eqBy fwdEq o.rules o.rules = true) := (eqBy_iff fwdEq_iff).2 rfl
  have g1 : (o.name.toList != o.name.toList) = false := by simp
  have g2 : (o.name.toList == o.name.toList) = true := by simp
  have hB : Below w.heap.size w ((w.alloc (Obj.cells #[Value.string o.name, Value.slice A o.rules.length c] 82)).alloc (Obj.cells #[Value.string o.name, Value.slice A' o.rules.length c'] 82)) := ((Below.refl _ _).alloc (Nat.le_refl _) _).alloc (by simp) _
  have HB := Lib.hid hB; clear hB
  go_enter Tryd.func58, Tryd.ntmps58
  go_wp2_with fail
  refine (laws_eqRuleS _ _ o.rules o.rules _ (HR.out.on HB.out) (HR'.out.on HB.out)).mono ?_
  rw [HQ.out]
  rintro e w1 ⟨rfl, b1⟩
  go_wp2_with fail
  go_ret
  exact ⟨rfl, HB.out.trans (b1.mono HB.out.size)⟩

set_option maxRecDepth 100000 in
set_option maxHeartbeats 800000 in
theorem u_eqN (v v' : Value) (xss : List Ofc) (w : World) (hv : rd w w.heap.size v xss) (hv' : rd w w.heap.size v' xss) :
    Calls Tryd.prog 23 #[v, v'] w fun e w' => e = .returned (.bool true) ∧ Below w.heap.size w w' := by
  obtain ⟨A, n, c, rfl, hn, hc, hm, hr⟩ := hv
  obtain ⟨A', n', c', rfl, hn', hc', hm', hr'⟩ := hv'
  subst hn hn'
  unfold maxLen at hm hm'
  have HR := Lib.hid hr; clear hr
  have HR' := Lib.hid hr'; clear hr'
  have hl1 : ((xss.length : Int) != (xss.length : Int)) = false := by simp
  have l0 := Below.refl w.heap.size w
  go_enter Tryd.func23, Tryd.ntmps23
  go_wp2
  go_loopw [5] (fun i wr => ∃ k : Nat, k ≤ xss.length ∧ i = .int .i64 k ∧ Below w.heap.size w wr) (fun i _ => xss.length - (intOf i).toNat)
  case atStart => exact ⟨0, Nat.zero_le _, rfl, l0⟩
  case round =>
    obtain ⟨k, hk, rfl, lr⟩ := hrel
    obtain ⟨w1, rfl⟩ : ∃ w1 : World, w1 = wr := ⟨_, rfl⟩
    clear l0
    by_cases hlt : k < xss.length
    · obtain ⟨b, o, A2, c2, rfl, hb, _, hu, y1, y2⟩ := HR.out.ofcU k hlt
      obtain ⟨b', o', A3, c3, rfl, hb', _, hu', z1, z2⟩ := HR'.out.ofcU k hlt
      generalize xss[k] = y at *
      have HU := Lib.hid hu; clear hu
      have HU' := Lib.hid hu'; clear hu'
      have hki : (k : Int) < (xss.length : Int) := by omega
      have ld := later_drew lr
      have HC : Hid (∀ W, Below w.heap.size w W → Calls Tryd.prog 58 #[.agg #[.string y.name, .slice A2 y.rules.length c2], .agg #[.string y.name, .slice A3 y.rules.length c3]] W fun e w' => e = .returned (.bool true) ∧ Below W.heap.size W w') := fun W hW => laws_eqOffice y _ _ _ _ W (HU.out.on hW) (HU'.out.on hW)
      go_wp2
      go_region_held3 (fun W => Below w.heap.size w W) (first | exact ld | exact later_trans ld b3) (first | (go_at_call 58; refine (HC.out _ ld).mono ?_; rintro e w3 ⟨rfl, b3⟩))
      have l3 := later_trans ld b3
      go_wp2
      go_roundw
      case rel => exact ⟨k + 1, by omega, by go_num, l3⟩
      case measure => simp [intOf]; omega
    · go_wp2
      go_ret
      exact ⟨rfl, lr⟩

end Go.Proofs.YtffbcfaahegglaaDoor

namespace Go.Proofs.YtffbcfaahegglaaDoor
open Go.RowKit

theorem kept2.mono {g b b' : Nat} {u w : World} (h : kept2 g b' u w) (hb : b ≤ b') : kept2 g b u w := ⟨h.os, h.tape, h.output, h.size, fun k hk hne => h.block k (by omega) hne⟩
theorem rd_take {α : Type} [El α] {w : World} {B b o c k : Nat} {xs : List α} (h : rd w B (.slice (some ⟨b, o, none⟩) xs.length c) xs) (hk : k ≤ xs.length) : rd w B (.slice (some ⟨b, o, none⟩) k c) (xs.take k) := by
  obtain ⟨A, n, c', hv, hn, hc, hm, hr⟩ := h
  injection hv with e1 e2 e3
  subst e1 e3
  exact ⟨_, _, _, rfl, by rw [List.length_take]; omega, by omega, hm, hr.take k⟩
theorem isN.keepBlk {T1 T2 base : Nat} {w w' : World} {v : Value} {net : List Ofc} {os : List OfV} (h : isN T1 T2 base w v net os) (hk : ∀ k, base ≤ k → k < w.heap.size → w'.heap[k]? = w.heap[k]?) : isN T1 T2 base w' v net os :=
  ⟨h.1.keepBlk fun k e => hk k (h.1.blk k e).1 (h.1.blk k e).2, h.2.1, fun k a b => ⟨(h.2.2.1 k a b).1, (h.2.2.1 k a b).2.keepBlk fun j e => hk j ((h.2.2.1 k a b).2.blk j e).1 ((h.2.2.1 k a b).2.blk j e).2⟩, h.2.2.2.1, h.2.2.2.2⟩
theorem isN.none_ {T1 T2 base : Nat} {w : World} {v : Value} (h : own (α := OfV) T1 base w v []) : isN T1 T2 base w v [] [] :=
  ⟨h, rfl, fun k h => absurd h (Nat.not_lt_zero k), fun j _ h => absurd h (Nat.not_lt_zero j), fun k h => absurd h (Nat.not_lt_zero k)⟩

/-- A drawn network. -/
def l6NetPost (T1 T2 g p : Nat) (w : World) (e : Ending) (w' : World) : Prop :=
  ∃ (v : Value) (net : List Ofc) (os : List OfV) (p' : Nat), e = .returned v ∧ isN T1 T2 w.heap.size w' v net os ∧ 2 ≤ net.length ∧ net.length ≤ 4 ∧ (∀ k (h : k < net.length), net[k].rules.length ≤ 6) ∧ drawnN net.length net ∧ rdr w' g p' ∧ p' ≤ p + 400 ∧ w.grownBy w' (some g)

set_option maxRecDepth 100000 in
set_option maxHeartbeats 4000000 in
theorem rd_l6Net (g p : Nat) (w : World) (hr : rdr w g p) (hp : p ≤ 10000000000) :
    Calls Tryd.prog 65 #[.pointer (some ⟨g, 0, none⟩)] w (l6NetPost 82 65 g p w) := by
  have hlt := hr.lt
  obtain ⟨i0, hi, hz0, hzz1, hzz2⟩ := info_parts Tryd.infoRul
  obtain ⟨j0, ji, jz0, jz1, jz2⟩ := info_parts Tryd.infoOfc
  obtain ⟨s0, si, sz0, sz1, sz2⟩ := info_parts Tryd.infoStr
  obtain ⟨wN, hwN⟩ : ∃ u, u = w.alloc (Obj.cells #[.string ⟨#[97]⟩, .string ⟨#[98]⟩, .string ⟨#[99]⟩, .string ⟨#[100]⟩] 9) := ⟨_, rfl⟩
  have oN : own 9 w.heap.size wN (.slice (some ⟨w.heap.size, 0, none⟩) 4 4) ([⟨#[97]⟩, ⟨#[98]⟩, ⟨#[99]⟩, ⟨#[100]⟩] : List ByteArray) := by rw [hwN]; exact list_str 9 w.heap.size w ([⟨#[97]⟩, ⟨#[98]⟩, ⟨#[99]⟩, ⟨#[100]⟩] : List ByteArray) (by intro x hx; simp at hx; rcases hx with rfl | rfl | rfl | rfl <;> decide) (by decide) (Nat.le_refl _)
  have rN : rdr wN g p := by rw [hwN]; exact hr.alloc _
  have gN : w.grownBy wN (some g) := by rw [hwN]; exact World.grownBy_alloc w _ _
  have hzN : wN.heap.size = w.heap.size + 1 := by rw [hwN]; simp
  have HWN := Lib.hid hwN; clear hwN
  go_enter Tryd.func65, Tryd.ntmps65
  go_wp2_with fail
  rw [← HWN.out]
  refine (rd_pick g p 3 _ rN (by omega) (by unfold isI64; omega)).mono ?_
  rintro e w1 ⟨y, rfl, hy, hr1, hg1⟩
  obtain ⟨y0, y1⟩ := hy.2 (by omega)
  obtain ⟨m, rfl⟩ := Int.eq_ofNat_of_zero_le y0
  have oN1 := oN.grown hg1 (own_ne oN hlt)
  have gw1 := grown_trans gN hg1
  have hz1 := hg1.size
  obtain ⟨n, hn⟩ : ∃ n : Nat, n = 2 + m := ⟨_, rfl⟩
  have hn2 : 2 ≤ n ∧ n ≤ 4 := by omega
  obtain ⟨hn2, hn4⟩ := hn2
  have hws : IntKind.i64.wrap ((2 : Int) + (m : Int)) = (n : Int) := by rw [IntWalk.i64_in _ (by omega)]; omega
  have hws2 : (2 : Int) + (m : Int) = (n : Int) := by omega
  have HON := Lib.hid oN1
  have HNC : Hid (∀ W, kept2 g w1.heap.size w1 W → ∀ j (h : j < 4), W.cell? ⟨w.heap.size, j, none⟩ = some (.string (([⟨#[97]⟩, ⟨#[98]⟩, ⟨#[99]⟩, ⟨#[100]⟩] : List ByteArray)[j]'h))) := fun W hW j h => by
    obtain ⟨A, n', c', hv, _, _, _, hrd⟩ := oN1.rd
    obtain ⟨b, o, hA, hb, _, c1⟩ := hrd.str j h
    injection hv with e1 _ _
    subst e1
    injection hA with hA
    injection hA with hA1 hA2
    subst hA1 hA2
    rw [Nat.zero_add] at c1
    exact (hW.cell ⟨w.heap.size, j, none⟩ hb (by show w.heap.size ≠ g; omega)).trans c1
  have HNS : Hid (∀ j (h : j < 4), (([⟨#[97]⟩, ⟨#[98]⟩, ⟨#[99]⟩, ⟨#[100]⟩] : List ByteArray)[j]'h).size ≤ maxLen) := fun j h => by
    have hh : ∀ x ∈ ([⟨#[97]⟩, ⟨#[98]⟩, ⟨#[99]⟩, ⟨#[100]⟩] : List ByteArray), x.size ≤ maxLen := by intro x hx; simp at hx; rcases hx with rfl | rfl | rfl | rfl <;> decide
    exact hh _ (List.getElem_mem h)
  have hlt1 := hr1.lt
  have oE := own.made0 (α := OfV) w1 82 (Nat.le_refl _)
  have rE := hr1.alloc (Obj.cells #[] 82)
  have kE : kept2 g w1.heap.size w1 (w1.alloc (Obj.cells #[] 82)) := kept2.below ((Below.refl _ _).alloc (Nat.le_refl _) _)
  have HE := Lib.hid oE
  have HGW := Lib.hid gw1
  clear oN oN1 rN gN hy hg1 oE gw1 hn
  go_wp2_with fail
  go_loopw [4, 5] (fun t i wr => ∃ (k : Nat) (net : List Ofc) (os : List OfV) (q : Nat), k ≤ n ∧ i = .int .i64 k ∧ Hid (net.length = k) ∧ Hid (isN 82 65 w1.heap.size wr t net os) ∧ Hid (drawnN n net) ∧ rdr wr g q ∧ q ≤ p + 1 + 50 * k ∧ kept2 g w1.heap.size w1 wr) (fun _ i _ => n - (intOf i).toNat)
  case atStart => exact ⟨0, [], [], p + 1, by omega, rfl, rfl, isN.none_ HE.out, drawnN.nil _, rE, by omega, kE⟩
  case round =>
    obtain ⟨k, net, os, q, hk, rfl, HL, HN, HR6, hrq, hqb, kr⟩ := hrel
    clear rE kE
    obtain ⟨A, mm, c, hvs, hms, _, _, _⟩ := HN.out.1.rd
    subst hms hvs
    have hol : os.length ≤ 4 := by have := HN.out.2.1.trans HL.out; omega
    have hsr := kr.size
    have hgr := hrq.lt
    by_cases hlt' : k < n
    · have hki : (k : Int) < (n : Int) := by omega
      have hki0 : (0 : Int) ≤ (k : Int) := by omega
      have hnm := HNS.out k (by omega)
      have HNCk : Hid (∀ W, kept2 g w1.heap.size w1 W → W.cell? ⟨w.heap.size, k, none⟩ = some (.string (([⟨#[97]⟩, ⟨#[98]⟩, ⟨#[99]⟩, ⟨#[100]⟩] : List ByteArray)[k]'(by show k < 4; omega)))) := fun W h => HNC.out W h k (by omega)
      have HNE : Hid ((([⟨#[97]⟩, ⟨#[98]⟩, ⟨#[99]⟩, ⟨#[100]⟩] : List ByteArray)[k]'(by show k < 4; omega)) = abcd[k]?.getD ⟨#[]⟩) := by show _ = _; rw [List.getElem?_eq_getElem (show k < abcd.length from (by show k < 4; omega))]; rfl
      generalize (([⟨#[97]⟩, ⟨#[98]⟩, ⟨#[99]⟩, ⟨#[100]⟩] : List ByteArray)[k]'(by show k < 4; omega)) = nm at *
      have HNM := Lib.hid hnm; clear hnm
      have o2 : own 9 wr.heap.size (wr.alloc (Obj.cells #[.string ⟨#[104, 101, 114, 101]⟩, .string ⟨#[104, 101, 114, 101]⟩] 9)) (.slice (some ⟨wr.heap.size, 0, none⟩) 2 2) ([⟨#[104, 101, 114, 101]⟩, ⟨#[104, 101, 114, 101]⟩] : List ByteArray) := list_str 9 wr.heap.size wr ([⟨#[104, 101, 114, 101]⟩, ⟨#[104, 101, 114, 101]⟩] : List ByteArray) (by intro x hx; simp at hx; subst hx; decide) (by decide) (Nat.le_refl _)
      have HO2 := Lib.hid o2; clear o2
      have HNRr : Hid (rd (wr.alloc (Obj.cells #[.string ⟨#[104, 101, 114, 101]⟩, .string ⟨#[104, 101, 114, 101]⟩] 9)) (wr.alloc (Obj.cells #[.string ⟨#[104, 101, 114, 101]⟩, .string ⟨#[104, 101, 114, 101]⟩] 9)).heap.size (.slice (some ⟨w.heap.size, 0, none⟩) n 4) (([⟨#[97]⟩, ⟨#[98]⟩, ⟨#[99]⟩, ⟨#[100]⟩] : List ByteArray).take n)) := rd_take ((HON.out.keepBlk fun j hj => kr.block j (HON.out.blk j hj).2 (by have := (HON.out.blk j hj).1; omega)).alloc _).rd hn4
      go_wp2_with (at_builtin; refine wpList_appendAll (α := ByteArray) rfl (.tmp 20) (.tmp 21) _ rfl wr.heap.size 9 s0 _ 16 Tryd.underlying61 si sz0 sz1 sz2 rfl (by decide) (.slice (some ⟨wr.heap.size, 0, none⟩) 2 2) ([⟨#[104, 101, 114, 101]⟩, ⟨#[104, 101, 114, 101]⟩] : List ByteArray) rfl HO2.out (.slice (some ⟨w.heap.size, 0, none⟩) n 4) (([⟨#[97]⟩, ⟨#[98]⟩, ⟨#[99]⟩, ⟨#[100]⟩] : List ByteArray).take n) rfl _ HNRr.out (by unfold maxLen; simp; omega) (by simp; omega) (by simp) ?_; intro v3 w3 o3 g3 _)
      have c3 : kept2 g wr.heap.size wr w3 := kept2.below (((Below.refl _ _).alloc (Nat.le_refl _) _).trans (below_append HO2.out g3 (by simp)))
      have hr3 : rdr w3 g q := (hrq.alloc _).append HO2.out g3 hgr
      have hs3 := c3.size
      have HNX : Hid (0 < (([⟨#[104, 101, 114, 101]⟩, ⟨#[104, 101, 114, 101]⟩] : List ByteArray) ++ ([⟨#[97]⟩, ⟨#[98]⟩, ⟨#[99]⟩, ⟨#[100]⟩] : List ByteArray).take n).length) := by show 0 < _; simp
      have HO3 := Lib.hid (o3.base_ (show g + 1 ≤ wr.heap.size by omega))
      clear g3 o3
      have HNX2 : Hid (([⟨#[104, 101, 114, 101]⟩, ⟨#[104, 101, 114, 101]⟩] : List ByteArray) ++ ([⟨#[97]⟩, ⟨#[98]⟩, ⟨#[99]⟩, ⟨#[100]⟩] : List ByteArray).take n = netNs n) := rfl
      generalize ([⟨#[104, 101, 114, 101]⟩, ⟨#[104, 101, 114, 101]⟩] : List ByteArray) ++ ([⟨#[97]⟩, ⟨#[98]⟩, ⟨#[99]⟩, ⟨#[100]⟩] : List ByteArray).take n = nx at *
      go_wp2_with fail
      refine (rd_l6Rules g q _ nx _ hr3 (by omega) HO3.out HNX.out).mono ?_
      rintro e w4 ⟨v4, rs, q4, rfl, o4, hl4, hdr, hr4, hq4, hg4⟩
      have HDR := Lib.hid hdr; clear hdr
      have c4 := c3.step hg4 (Nat.le_refl _)
      have hz34 := hg4.size
      have HO4 := Lib.hid (HO3.out.grown hg4 (own_ne HO3.out (Nat.lt_succ_self g)))
      obtain ⟨A4, n4, c4', hv4, hn4, _, _, _⟩ := o4.rd
      subst hn4 hv4
      clear c3 hr3 hg4
      go_wp2_with fail
      refine (rd_pick g q4 3 _ hr4 (by omega) (by unfold isI64; omega)).mono ?_
      rintro e w5 ⟨y, rfl, hy, hr5, hg5⟩
      obtain ⟨y0, y1⟩ := hy.2 (by omega)
      have c5 := c4.step hg5 (Nat.le_refl _)
      have hz45 := hg5.size
      have o5 := o4.grown hg5 (own_ne o4 (by omega))
      have HO5 := Lib.hid (HO4.out.grown hg5 (own_ne HO4.out (Nat.lt_succ_self g)))
      clear hy c4 o4 hr4 hg5
      by_cases hy0 : 0 < y
      · go_wp2_with fail
        refine (spec_l6Index _ rs ⟨#[]⟩ _ o5.rd).mono ?_
        rintro e _ ⟨rfl, rfl⟩
        have HSN := Lib.hid (fun t => drawnR.snoc (s := ⟨#[]⟩) (t := t) HDR.out (by decide))
        generalize fwdI rs ⟨#[]⟩ = r at *
        by_cases hr0 : r < 0
        · replace HSN := Lib.hid (fun t ht => HSN.out t ht hr0)
          go_wp2_with fail
          refine (rd_of 9 g (q4 + 1) _ nx _ hr5 (by omega) HO5.out HNX.out).mono ?_
          rintro e w6 ⟨t, htm, rfl, ht, hr6, hg6⟩
          have HDX : Hid (drawnR (netNs n) (rs ++ [(⟨⟨#[]⟩, t⟩ : Fwd)])) := by have := HSN.out t htm; rw [HNX2.out] at this; exact this
          clear htm
          have c6 := c5.step hg6 (Nat.le_refl _)
          have o6 := o5.grown hg6 (own_ne o5 (by omega))
          have hs6 := c6.size
          have hz56 := hg6.size
          have HOK : Hid (Fwd.ok ⟨⟨#[]⟩, t⟩) := ⟨by show 0 ≤ maxLen; decide, ht⟩
          clear c5 o5 hr5 hg6
          go_wp2_with (first | (at_builtin; refine wpList_append1 (α := Fwd) rfl (.tmp 34) (.tmp 39) _ rfl w3.heap.size 65 i0 _ 32 Tryd.underlying34 hi hz0 hzz1 hzz2 rfl (by decide) (.slice A4 rs.length c4') rs ⟨⟨#[]⟩, t⟩ rfl (o6.alloc _) ⟨w6.heap.size, 0, none⟩ 1 (Fwd.cells ⟨⟨#[]⟩, t⟩) rfl ⟨HOK.out, rfl⟩ (news_at w6 _ (Fwd.cells ⟨⟨#[]⟩, t⟩)) (by unfold maxLen; omega) (by omega) (by simp; omega) ?_; intro v7 w7 o7 hg7 _; have hr7 : rdr w7 g (q4 + 1 + 1) := (hr6.alloc _).append (o6.alloc _) hg7 (by omega); have c7 : kept2 g wr.heap.size wr w7 := (c6.trans (kept2.below ((Below.refl _ _).alloc hs6 _))).trans ((kept2.below (below_append (o6.alloc _) hg7 (by simp; omega))).mono hs3); have kW := kr.trans (c7.mono hsr); have hcn := HNCk.out w7 kW; obtain ⟨A8, m8, c8, rfl, hm8, _, _, _⟩ := o7.rd; clear hm8; have HU := Lib.hid o7; have HN8 := Lib.hid (HN.out.keepBlk (w' := w7) fun j h1 h2 => c7.block j h2 (by omega)); have hnm := HNM.out; have hswz := kW.size; have hsr8 := c7.size; have HU8 : Hid (∀ j, (Value.slice A8 m8 c8).ownBlock = some j → wr.heap.size ≤ j) := (fun j hj => by have := (HU.out.blk j hj).1; have := hs3; omega)) | (at_builtin; go_loud (refine wpList_append1' (α := OfV) rfl (.tmp 41) (.tmp 48) 43 rfl w1.heap.size 82 j0 _ 40 Tryd.underlying43 ji jz0 jz1 jz2 rfl (by decide) (.slice A os.length c) os ⟨nm, .slice A8 m8 c8⟩ rfl (HN8.out.1.alloc _) ⟨w7.heap.size, 0, none⟩ 1 [.string nm, .slice A8 m8 c8] rfl ⟨rfl, hnm, rfl⟩ (news_at w7 _ [.string nm, .slice A8 m8 c8]) (by unfold maxLen; omega) (by omega) (by simp; omega) ?_; intro gO cap w9 o9 hg9 ha9 hl9)))
          have HRL : Hid ((rs ++ [(⟨⟨#[]⟩, t⟩ : Fwd)]).length ≤ 6) := by show _ ≤ _; first | omega | (simp; omega)
          have HB8 : Below w7.heap.size w7 (w7.alloc (Obj.cells #[.string nm, .slice A8 m8 c8] 82)) := (Below.refl _ _).alloc (Nat.le_refl _) _
          have HN9 := Lib.hid (isN.snoc (HN8.out.below HB8) ((HU.out.base_ (by omega)).alloc _) (apart_ne fun j h1 h2 => by have := HU8.out j h1; have := (HN.out.1.blk j h2).2; omega) (fun i hi => apart_ne fun j h1 h2 => by have := HU8.out j h1; have := ((HN.out.2.2.1 i hi (by have := HN.out.2.1; omega)).2.blk j h2).2; omega) o9 hg9 ha9)
          have r9 : rdr w9 g (q4 + 1 + 1) := (hr7.alloc _).append (HN8.out.1.alloc _) hg9 (by omega)
          have k9 : kept2 g w1.heap.size w1 w9 := (kW.trans (kept2.below ((Below.refl _ _).alloc hswz _))).trans (kept2.below (below_append (HN8.out.1.alloc _) hg9 (by simp; omega)))
          clear hg9 ha9 o9
          go_wp2_with fail
          go_roundw
          case rel =>
            exact ⟨k + 1, _, _, (q4 + 1 + 1), by omega, by go_num, by show _ = _; rw [List.length_append, HL.out]; rfl, HN9.out, drawnN.snoc HR6.out (by rw [HL.out]; exact HNE.out) HDX.out HRL.out, r9, by omega, k9⟩
          case measure => simp [intOf]; omega
        · skip
          have HDX : Hid (drawnR (netNs n) rs) := by have := HDR.out; rw [HNX2.out] at this; exact this
          have HU := Lib.hid o5
          have kW := kr.trans (c5.mono hsr)
          have HN8 := Lib.hid (HN.out.keepBlk (w' := w5) fun j h1 h2 => c5.block j h2 (by omega))
          have hcn := HNCk.out w5 kW
          have hnm := HNM.out
          have hswz := kW.size
          have hsr8 := c5.size
          have HRL : Hid (rs.length ≤ 6) := by show _ ≤ _; first | omega | (simp; omega)
          have HU8 : Hid (∀ j, (Value.slice A4 rs.length c4').ownBlock = some j → wr.heap.size ≤ j) := fun j hj => by have := (HU.out.blk j hj).1; have := hs3; omega
          go_wp2_with (at_builtin; go_loud (refine wpList_append1' (α := OfV) rfl (.tmp 41) (.tmp 48) 43 rfl w1.heap.size 82 j0 _ 40 Tryd.underlying43 ji jz0 jz1 jz2 rfl (by decide) (.slice A os.length c) os ⟨nm, .slice A4 rs.length c4'⟩ rfl (HN8.out.1.alloc _) ⟨w5.heap.size, 0, none⟩ 1 [.string nm, .slice A4 rs.length c4'] rfl ⟨rfl, hnm, rfl⟩ (news_at w5 _ [.string nm, .slice A4 rs.length c4']) (by unfold maxLen; omega) (by omega) (by simp; omega) ?_; intro gO cap w9 o9 hg9 ha9 hl9))
          have HB8 : Below w5.heap.size w5 (w5.alloc (Obj.cells #[.string nm, .slice A4 rs.length c4'] 82)) := (Below.refl _ _).alloc (Nat.le_refl _) _
          have HN9 := Lib.hid (isN.snoc (HN8.out.below HB8) ((HU.out.base_ (by omega)).alloc _) (apart_ne fun j h1 h2 => by have := HU8.out j h1; have := (HN.out.1.blk j h2).2; omega) (fun i hi => apart_ne fun j h1 h2 => by have := HU8.out j h1; have := ((HN.out.2.2.1 i hi (by have := HN.out.2.1; omega)).2.blk j h2).2; omega) o9 hg9 ha9)
          have r9 : rdr w9 g (q4 + 1) := (hr5.alloc _).append (HN8.out.1.alloc _) hg9 (by omega)
          have k9 : kept2 g w1.heap.size w1 w9 := (kW.trans (kept2.below ((Below.refl _ _).alloc hswz _))).trans (kept2.below (below_append (HN8.out.1.alloc _) hg9 (by simp; omega)))
          clear hg9 ha9 o9
          go_wp2_with fail
          go_roundw
          case rel =>
            exact ⟨k + 1, _, _, (q4 + 1), by omega, by go_num, by show _ = _; rw [List.length_append, HL.out]; rfl, HN9.out, drawnN.snoc HR6.out (by rw [HL.out]; exact HNE.out) HDX.out HRL.out, r9, by omega, k9⟩
          case measure => simp [intOf]; omega
      · skip
        have HDX : Hid (drawnR (netNs n) rs) := by have := HDR.out; rw [HNX2.out] at this; exact this
        have HU := Lib.hid o5
        have kW := kr.trans (c5.mono hsr)
        have HN8 := Lib.hid (HN.out.keepBlk (w' := w5) fun j h1 h2 => c5.block j h2 (by omega))
        have hcn := HNCk.out w5 kW
        have hnm := HNM.out
        have hswz := kW.size
        have hsr8 := c5.size
        have HRL : Hid (rs.length ≤ 6) := by show _ ≤ _; first | omega | (simp; omega)
        have HU8 : Hid (∀ j, (Value.slice A4 rs.length c4').ownBlock = some j → wr.heap.size ≤ j) := fun j hj => by have := (HU.out.blk j hj).1; have := hs3; omega
        go_wp2_with (at_builtin; go_loud (refine wpList_append1' (α := OfV) rfl (.tmp 41) (.tmp 48) 43 rfl w1.heap.size 82 j0 _ 40 Tryd.underlying43 ji jz0 jz1 jz2 rfl (by decide) (.slice A os.length c) os ⟨nm, .slice A4 rs.length c4'⟩ rfl (HN8.out.1.alloc _) ⟨w5.heap.size, 0, none⟩ 1 [.string nm, .slice A4 rs.length c4'] rfl ⟨rfl, hnm, rfl⟩ (news_at w5 _ [.string nm, .slice A4 rs.length c4']) (by unfold maxLen; omega) (by omega) (by simp; omega) ?_; intro gO cap w9 o9 hg9 ha9 hl9))
        have HB8 : Below w5.heap.size w5 (w5.alloc (Obj.cells #[.string nm, .slice A4 rs.length c4'] 82)) := (Below.refl _ _).alloc (Nat.le_refl _) _
        have HN9 := Lib.hid (isN.snoc (HN8.out.below HB8) ((HU.out.base_ (by omega)).alloc _) (apart_ne fun j h1 h2 => by have := HU8.out j h1; have := (HN.out.1.blk j h2).2; omega) (fun i hi => apart_ne fun j h1 h2 => by have := HU8.out j h1; have := ((HN.out.2.2.1 i hi (by have := HN.out.2.1; omega)).2.blk j h2).2; omega) o9 hg9 ha9)
        have r9 : rdr w9 g (q4 + 1) := (hr5.alloc _).append (HN8.out.1.alloc _) hg9 (by omega)
        have k9 : kept2 g w1.heap.size w1 w9 := (kW.trans (kept2.below ((Below.refl _ _).alloc hswz _))).trans (kept2.below (below_append (HN8.out.1.alloc _) hg9 (by simp; omega)))
        clear hg9 ha9 o9
        go_wp2_with fail
        go_roundw
        case rel =>
          exact ⟨k + 1, _, _, (q4 + 1), by omega, by go_num, by show _ = _; rw [List.length_append, HL.out]; rfl, HN9.out, drawnN.snoc HR6.out (by rw [HL.out]; exact HNE.out) HDX.out HRL.out, r9, by omega, k9⟩
        case measure => simp [intOf]; omega
    · have HKN := Lib.hid (show k = n by omega)
      go_wp2_with fail
      go_ret
      refine ⟨_, net, os, q, rfl, HN.out.base_ (by omega), by rw [HL.out]; have := HKN.out; omega, by rw [HL.out]; omega, fun j hj => (HR6.out j hj).2.2, by rw [HL.out, HKN.out]; exact HR6.out, hrq, by omega, kept2.back HGW.out kr (by omega)⟩

end Go.Proofs.YtffbcfaahegglaaDoor

namespace Go.Proofs.YtffbcfaahegglaaDoor
open Go.RowKit

set_option maxHeartbeats 800000 in
theorem w_markRuleS (T base : Nat) (v : Value) (xs : List Fwd) (k0 : Nat) (w : World) (hv : own T base w v xs) (hk0 : k0 ≤ 274877906944) (hl : xs.length ≤ 1048576) :
    Calls Tryd.prog 60 #[v, .int .i64 k0] w fun e w' => e = .returned (.int .i64 ((k0 + 2 * xs.length : Nat) : Int)) ∧ w.grownBy w' v.ownBlock := by
  rcases hv.form with ⟨rfl, rfl⟩ | ⟨g, c, rfl, hg, hgl, hc, hm⟩
  · go_enter Tryd.func60, Tryd.ntmps60
    go_wp2
    go_loopw [1, 5] (fun t i wr => i = .int .i64 0 ∧ t = .int .i64 k0 ∧ wr = w) (fun _ _ _ => 0)
    case atStart => exact ⟨rfl, rfl, rfl⟩
    case round =>
      obtain ⟨rfl, rfl, rfl⟩ := hrel
      go_wp2
      go_ret
      exact ⟨ret_int (by simp), World.grownBy.refl _ _⟩
  · unfold maxLen at hm
    have HV := Lib.hid hv; clear hv
    go_enter Tryd.func60, Tryd.ntmps60
    go_wp2
    go_loopw [1, 5] (fun t i wr => ∃ (k m : Nat) (ys : List Fwd), k ≤ xs.length ∧ i = .int .i64 k ∧ t = .int .i64 m ∧ Hid (m = k0 + 2 * k) ∧ w.grownBy wr (some g) ∧ Hid (ys.length = xs.length) ∧ own T base wr (.slice (some ⟨g, 0, none⟩) xs.length c) ys) (fun _ i _ => xs.length - (intOf i).toNat)
    case atStart => exact ⟨0, k0, xs, Nat.zero_le _, rfl, rfl, rfl, World.grownBy.refl _ _, rfl, HV.out⟩
    case round =>
      obtain ⟨k, m, ys, hk, rfl, rfl, HM, hgr, HLEN, ho⟩ := hrel
      obtain ⟨w1, rfl⟩ : ∃ w1 : World, w1 = wr := ⟨_, rfl⟩
      have hmb : (m : Int) ≤ 824633720832 := by have := HM.out; omega
      by_cases hlt : k < xs.length
      · have hlt' : k < ys.length := by rw [HLEN.out]; exact hlt
        have HO := Lib.hid ho; clear ho
        have hki : (k : Int) < (xs.length : Int) := by omega
        go_wp2_with fail
        refine (laws_markText m _ (by omega)).mono ?_
        rintro e w2 ⟨rfl, b2⟩
        have hgr2 : w.grownBy w2 (some g) := grown_below hgr b2
        have ho2 := HO.out.below b2
        obtain ⟨u0, g0⟩ := ho2.cellAt (j := k * 2) (by show _ < _ * 2; omega)
        have f0 := ho2.freeAt (k * 2)
        have ho3 := ho2.setCell (k := k) (j := 0) hlt' (by decide) (.string (markB m)) ⟨markB m, ys[k].dst⟩ (fun ecs he => by
          obtain ⟨⟨h1, h2⟩, rfl⟩ := he
          exact ⟨⟨markB_size m (by omega), h2⟩, rfl⟩)
        have HO3 := Lib.hid ho3; clear ho3 ho2 b2
        have hgr3 : w.grownBy (w2.setCell ⟨g, k * 2, none⟩ (.string (markB m))) (some g) := grown_setCell hgr2 (.inl rfl) _
        go_wp2_with fail
        clear g0 f0
        refine (laws_markText (m + 1) _ (by omega)).mono ?_
        rintro e w4 ⟨rfl, b4⟩
        have hgr4 : w.grownBy w4 (some g) := grown_below hgr3 b4
        have ho4 := HO3.out.below b4
        have hlt2 : k < (ys.set k ⟨markB m, ys[k].dst⟩).length := by simpa using hlt'
        obtain ⟨u1, g1⟩ := ho4.cellAt (j := k * 2 + 1) (by show _ < _ * 2; rw [List.length_set]; omega)
        have f1 := ho4.freeAt (k * 2 + 1)
        have ho5 := ho4.setCell (k := k) (j := 1) hlt2 (by decide) (.string (markB (m + 1))) ⟨markB m, markB (m + 1)⟩ (fun ecs he => by
          obtain ⟨⟨h1, h2⟩, rfl⟩ := he
          refine ⟨⟨?_, markB_size (m + 1) (by omega)⟩, ?_⟩
          · simpa using h1
          · simp [Fwd.cells])
        have HO5 := Lib.hid ho5; clear ho5 ho4 b4
        have HG5 : Hid (w.grownBy (w4.setCell ⟨g, k * 2 + 1, none⟩ (.string (markB (m + 1)))) (some g)) := grown_setCell hgr4 (.inl rfl) _
        clear hgr hgr2 hgr3 hgr4
        go_wp2_with fail
        go_roundw
        case rel => exact ⟨k + 1, m + 2, _, by omega, by go_num, by go_num, by show _ = _; have := HM.out; omega, HG5.out, by show _ = _; rw [List.length_set, List.length_set]; exact HLEN.out, HO5.out⟩
        case measure => simp [intOf]; omega
      · have HE := Lib.hid (show k = xs.length by omega)
        have HO := Lib.hid ho; clear ho
        go_wp2
        go_ret
        exact ⟨ret_int (by have := HM.out; have := HE.out; omega), hgr⟩

/-- A network of the call's own, in blocks before hi. -/
def segN (T1 T2 lo hi : Nat) (w : World) (v : Value) (net : List Ofc) : Prop := ∃ os, isN T1 T2 lo w v net os ∧ (∀ k, v.ownBlock = some k → k < hi) ∧ ∀ i (h : i < os.length) k, os[i].val.ownBlock = some k → k < hi
theorem segN.of {T1 T2 lo : Nat} {w : World} {v : Value} {net : List Ofc} (h : ownN T1 T2 lo w v net) : segN T1 T2 lo w.heap.size w v net := by
  obtain ⟨os, h⟩ := h
  exact ⟨os, h, fun k hk => (h.1.blk k hk).2, fun i hi k hk => ((h.2.2.1 i hi (by have := h.2.1; omega)).2.blk k hk).2⟩
theorem segN.below {T1 T2 lo hi : Nat} {w w' : World} {v : Value} {net : List Ofc} (h : segN T1 T2 lo hi w v net) (hb : Below w.heap.size w w') : segN T1 T2 lo hi w' v net := by
  obtain ⟨os, h1, h2, h3⟩ := h
  exact ⟨os, h1.below hb, h2, h3⟩
theorem segN.out {T1 T2 lo hi a b : Nat} {w w' : World} {v : Value} {net : List Ofc} (h : segN T1 T2 lo hi w v net) (ho : OutI a b w w') (hd : hi ≤ a ∨ b ≤ lo) : segN T1 T2 lo hi w' v net := by
  obtain ⟨os, ⟨g1, g2, g3, g4, g5⟩, h2, h3⟩ := h
  refine ⟨os, ⟨g1.keepBlk fun k hk => ho.block k (g1.blk k hk).2 (by have q1 := (g1.blk k hk).1; have q2 := h2 k hk; omega), g2, fun i hi hi' => ⟨(g3 i hi hi').1, ?_⟩, g4, g5⟩, h2, h3⟩
  exact (g3 i hi hi').2.keepBlk fun k hk => ho.block k ((g3 i hi hi').2.blk k hk).2 (by have q1 := ((g3 i hi hi').2.blk k hk).1; have q2 := h3 i hi k hk; omega)
theorem segN.rd {T1 T2 lo hi : Nat} {w : World} {v : Value} {net : List Ofc} (h : segN T1 T2 lo hi w v net) : rd w w.heap.size v net := by
  obtain ⟨os, h1, _⟩ := h
  exact h1.rd
def mkN (net : List Ofc) : Nat := (net.map fun o => 1 + 2 * o.rules.length).sum
theorem mkN_succ (net : List Ofc) {k : Nat} (h : k < net.length) : mkN (net.take (k + 1)) = mkN (net.take k) + 1 + 2 * net[k].rules.length := by
  unfold mkN; rw [List.take_succ_eq_append_getElem h, List.map_append, List.sum_append]; simp; omega
theorem mkN_take (net : List Ofc) (k : Nat) : mkN (net.take k) ≤ mkN net := by
  have h : mkN net = mkN (net.take k) + mkN (net.drop k) := by
    have := congrArg mkN (List.take_append_drop k net)
    rw [← this]
    unfold mkN
    rw [List.map_append, List.sum_append]
  omega
theorem mkN_le (net : List Ofc) : mkN net ≤ 2 * szN net := by
  induction net with
  | nil => simp [mkN]
  | cons o net ih =>
    unfold mkN szN sumO szO at *
    simp only [List.map_cons, List.sum_cons, List.length_cons]
    omega

set_option maxRecDepth 100000 in
set_option maxHeartbeats 1600000 in
theorem u_wmN (T1 T2 lo hi : Nat) (v : Value) (net : List Ofc) (k0 : Nat) (w : World) (hv : segN T1 T2 lo hi w v net) (hk0 : k0 ≤ 1099511627) (hs : szN net ≤ 1048576) :
    Calls Tryd.prog 24 #[v, .int .i64 k0] w fun e w' => e = .returned (.int .i64 ((k0 + mkN net : Nat) : Int)) ∧ OutI lo hi w w' := by
  have hfl := Nat.le_trans (mkN_le net) (Nat.mul_le_mul_left 2 hs)
  obtain ⟨os, hB, hhi, hvh⟩ := hv
  rcases hB.form with ⟨rfl, rfl⟩ | ⟨g, c, rfl, hg, hgl, hc, hm⟩
  · go_enter Tryd.func24, Tryd.ntmps24
    go_wp2
    go_loopw [1, 5] (fun t i wr => i = .int .i64 0 ∧ t = .int .i64 k0 ∧ wr = w) (fun _ _ _ => 0)
    case atStart => exact ⟨rfl, rfl, rfl⟩
    case round =>
      obtain ⟨rfl, rfl, rfl⟩ := hrel
      go_wp2
      go_ret
      exact ⟨ret_int (by simp [mkN]), OutI.refl _ _ _⟩
  unfold maxLen at hm
  have HVH := Lib.hid hvh; clear hvh
  have HB := Lib.hid hB; clear hB
  have hn20 : net.length ≤ 1048576 := by unfold szN at hs; omega
  have HRL : Hid (∀ k (h : k < net.length), net[k].rules.length ≤ 1048576) := fun k h => by have := Nat.le_trans (ofc_le_szN h) hs; unfold szO at this; omega
  obtain ⟨N, hN⟩ : ∃ N, mkN net = N := ⟨_, rfl⟩
  have HN := Lib.hid hN
  rw [hN] at hfl
  have hVN := HB.out.2.1
  have HVN := Lib.hid hVN; clear hVN hN hs
  have HGF := Lib.hid (hhi g rfl); clear hhi
  have hgNe : Hid (∀ i (h : i < os.length), os[i].val.ownBlock = none ∨ os[i].val.ownBlock ≠ some g) := fun i h => HB.out.2.2.2.2 i h
  have HN' : Hid ((k0 : Nat) + mkN net = k0 + N) := by show _ = _; rw [HN.out]
  rw [HN'.out]
  go_enter Tryd.func24, Tryd.ntmps24
  go_wp2
  go_loopw [1, 5] (fun t i wr => ∃ (k m : Nat) (us : List OfV), k ≤ net.length ∧ i = .int .i64 k ∧ t = .int .i64 m ∧ Hid (m = k0 + mkN (net.take k)) ∧ OutI lo hi w wr ∧ own T1 lo wr (.slice (some ⟨g, 0, none⟩) net.length c) us ∧ Hid (us.length = net.length) ∧ Hid (∀ i (h : i < us.length) (h' : i < os.length), us[i].val = os[i].val) ∧ Hid (∀ i (h : i < os.length) (h' : i < net.length), k ≤ i → own T2 lo wr os[i].val net[i].rules)) (fun _ i _ => net.length - (intOf i).toNat)
  case atStart => exact ⟨0, k0, os, Nat.zero_le _, rfl, rfl, by show _ = _; simp [mkN], OutI.refl _ _ _, HB.out.1, HB.out.2.1, fun i h h' => rfl, fun i h h' _ => (HB.out.2.2.1 i h h').2⟩
  case round =>
    obtain ⟨k, m, us, hk, rfl, rfl, HM, hO, hV, HUL, HUV, HI⟩ := hrel
    obtain ⟨w1, rfl⟩ : ∃ w1 : World, w1 = wr := ⟨_, rfl⟩
    have HO := Lib.hid hO; have HV := Lib.hid hV
    clear hO hV
    by_cases hlt : k < net.length
    · have hlv : k < os.length := by rw [HVN.out]; exact hlt
      have hlu : k < us.length := by rw [HUL.out]; exact hlt
      have HROW := Lib.hid (HI.out k hlv hlt (Nat.le_refl _))
      have HS := Lib.hid (mkN_succ net hlt)
      have HTK : Hid (mkN (net.take (k + 1)) ≤ N) := by show _ ≤ _; rw [← HN.out]; exact mkN_take _ _
      have hlen := HRL.out k hlt
      have hm1 : m ≤ 200000000000 := by have h0 := HM.out; have h1 := HS.out; have h2 := HTK.out; omega
      obtain ⟨ys, hys⟩ : ∃ ys, ys = net[k].rules := ⟨_, rfl⟩
      have HYS := Lib.hid hys
      rw [← hys] at hlen
      replace HROW : Hid (own T2 lo w1 os[k].val ys) := by show own _ _ _ _ _; rw [hys]; exact HROW.out
      clear hys
      obtain ⟨u, hu⟩ : ∃ u, u = os[k].val := ⟨_, rfl⟩
      have HUK := Lib.hid hu
      replace HROW : Hid (own T2 lo w1 u ys) := by show own _ _ _ _ _; rw [hu]; exact HROW.out
      have HUU : Hid (us[k].val = u) := by show _ = _; rw [hu]; exact HUV.out k hlu hlv
      clear hu
      obtain ⟨A2, m2, c2, hu2, hm2, _, _, _⟩ := HROW.out.rd
      subst hm2 hu2
      have hki : (k : Int) < (net.length : Int) := by omega
      go_wp2_with fail
      refine (laws_markText m _ (by omega)).mono ?_
      rintro e w2 ⟨rfl, b2⟩
      have ho2 := HV.out.below b2
      obtain ⟨u0, g0⟩ := ho2.cellAt (j := k * 2) (by show _ < _ * 2; omega)
      have f0 := ho2.freeAt (k * 2)
      have HOX := Lib.hid (ho2.setCell (k := k) (j := 0) hlu (by decide) (.string (markB m)) ⟨markB m, us[k].val⟩ (fun ecs he => by
        obtain ⟨rfl, h1, h2⟩ := he
        exact ⟨rfl, markB_size m (by omega), h2⟩))
      have HR2 := Lib.hid (((HROW.out.below b2).grown (grown_setCell (p := ⟨g, k * 2, none⟩) (World.grownBy.refl w2 (some g)) (.inl rfl) (.string (markB m)))) (by
        have := hgNe.out k hlv
        rw [← HUK.out] at this
        exact this))
      have HBG : Hid (w1.grownBy (w2.setCell ⟨g, k * 2, none⟩ (.string (markB m))) (some g)) := grown_setCell (grown_below (World.grownBy.refl w1 (some g)) b2) (.inl rfl) _
      have hc1 : (w2.setCell ⟨g, k * 2, none⟩ (.string (markB m))).cell? ⟨g, k * 2 + 1, none⟩ = some (.slice A2 ys.length c2) := by
        have h1 := (own_ofv HOX.out k (by rw [List.length_set]; exact hlu)).2.2
        rw [List.getElem_set_self] at h1
        rw [show k * El.size OfV + 0 = k * 2 from rfl] at h1
        rw [h1]
        show some us[k].val = _
        rw [HUU.out]
      have HW3 := Lib.hid hc1
      clear ho2 b2
      have hmb0 : (m : Int) + 1 ≤ 824633720832 := by omega
      go_wp2_with fail
      clear hc1 g0 f0
      obtain ⟨w3, hw3⟩ : ∃ w3, w3 = w2.setCell ⟨g, k * 2, none⟩ (.string (markB m)) := ⟨_, rfl⟩
      have HX3 := Lib.hid hw3
      rw [← hw3] at HR2 HBG ⊢
      have HOX' : Hid (own T1 lo w3 (.slice (some ⟨g, 0, none⟩) net.length c) (us.set k ⟨markB m, us[k].val⟩)) := by
        show own _ _ _ _ _; rw [hw3]; exact HOX.out
      clear hw3 HOX HW3
      refine (w_markRuleS T2 lo _ ys (m + 1) _ HR2.out (by omega) hlen).mono ?_
      rintro e w4 ⟨rfl, g2⟩
      have HO2 := Lib.hid ((HO.out.trans (OutI.of_grown (lo := lo) (hi := hi) HBG.out fun j hj => by
        injection hj with hj
        subst hj
        exact ⟨hg, HGF.out⟩)).trans (OutI.of_grown (lo := lo) (hi := hi) g2 fun j hj => ⟨(HR2.out.blk j hj).1, HVH.out k hlv j (by rw [← HUK.out]; exact hj)⟩))
      have HV2 := Lib.hid (HOX'.out.grown g2 (.inr (by
        have := hgNe.out k hlv
        rw [← HUK.out] at this
        rcases this with h | h
        · rw [h]; show some g ≠ none; simp
        · exact fun e => h e.symm)))
      have HI2 : Hid (∀ i (h : i < os.length) (h' : i < net.length), k + 1 ≤ i → own T2 lo w4 os[i].val net[i].rules) := fun i h h' hi =>
        ((HI.out i h h' (by omega)).grown HBG.out (hgNe.out i h)).grown g2 (by
          have := HB.out.2.2.2.1 i k h hlv (by omega)
          unfold apart at this
          rw [HUK.out]
          exact this)
      have HUV2 : Hid (∀ i (h : i < (us.set k ⟨markB m, us[k].val⟩).length) (h' : i < os.length), (us.set k ⟨markB m, us[k].val⟩)[i].val = os[i].val) := fun i h h' => by
        rw [List.getElem_set]
        split
        · rename_i e; subst e; exact HUV.out _ hlu h'
        · exact HUV.out i (by simpa using h) h'
      have HUL2 : Hid ((us.set k ⟨markB m, us[k].val⟩).length = net.length) := by show _ = _; rw [List.length_set]; exact HUL.out
      clear g2
      have hmb : (m : Int) + 1 + 2 * (ys.length : Int) ≤ 824633720832 := by omega
      go_wp2_with fail
      go_roundw
      case rel =>
        refine ⟨k + 1, m + 1 + 2 * ys.length, _, by omega, by go_num, by go_num, ?_, HO2.out, HV2.out, HUL2.out, HUV2.out, HI2.out⟩
        show _ = _
        have h0 := HM.out; have h1 := HS.out; have h2 := congrArg List.length HYS.out
        omega
      case measure => simp [intOf]; omega
    · have HE := Lib.hid (show k = net.length by omega)
      go_wp2
      go_ret
      refine ⟨ret_int ?_, HO.out⟩
      have h0 := HM.out
      rw [HE.out, List.take_length, HN.out] at h0
      omega


end Go.Proofs.YtffbcfaahegglaaDoor

namespace Go.Proofs.YtffbcfaahegglaaDoor
open Go.RowKit

theorem ltr_equalIn (a c : Int) (b d : ByteArray) (w : World) : (Op.equalIn 10000 98 (.agg #[.int .i64 a, .string b]) (.agg #[.int .i64 c, .string d])).run Tryd.prog w = .ok (ltrEq ⟨a, b⟩ ⟨c, d⟩) w := by
  have u3 := Tryd.underlying3
  have a3 := Tryd.isAgg3
  have z3 := Tryd.sizeOf3
  have u9 := Tryd.underlying9
  have a9 := Tryd.isAgg9
  have z9 := Tryd.sizeOf9
  have hS : Tryd.prog.underlying 98 = some (.struct (Tryd.prog.fieldsOf 98)) := by kernel_rfl
  rw [show (10000 : Nat) = 9999 + 1 from rfl, run_equalIn_agg w 9999 98 _ _ hS (by kernel_rfl)]
  simp only [Program.fieldsOf, Tryd.underlying98]
  go_simp
  unfold ltrEq sEq
  by_cases h1 : a = c <;> by_cases h2 : b.toList = d.toList <;> simp [h1, h2]
theorem ltr_neq (a c : Int) (b d : ByteArray) (w : World) : (binOp .neq 98 (.agg #[.int .i64 a, .string b]) (.agg #[.int .i64 c, .string d])).run Tryd.prog w = .ok (.bool (!ltrEq ⟨a, b⟩ ⟨c, d⟩)) w := by
  rw [run_neq_struct, ltr_equalIn]; rfl
theorem ltr_eql (a c : Int) (b d : ByteArray) (w : World) : (binOp .eql 98 (.agg #[.int .i64 a, .string b]) (.agg #[.int .i64 c, .string d])).run Tryd.prog w = .ok (.bool (ltrEq ⟨a, b⟩ ⟨c, d⟩)) w := by
  rw [run_eql_struct, ltr_equalIn]; rfl
theorem ltr_guard (op : BinOp) (x y : Operand) (xs ys : Array Value) (w : World) : (eqGuard op 98 x y (.agg xs) (.agg ys)).run Tryd.prog w = .ok () w := run_eqGuard_agg w op _ x y xs ys (by kernel_rfl)

end Go.Proofs.YtffbcfaahegglaaDoor
