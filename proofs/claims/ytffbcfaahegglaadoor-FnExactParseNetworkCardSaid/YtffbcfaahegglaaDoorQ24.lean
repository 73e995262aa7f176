/- NA R0 R1 -/
import Derived.Test.YtffbcfaahegglaaDoorQ23
import Derived.Test.YtffbcfaahegglaaDoorQ6
import Derived.Test.YtffbcfaahegglaaDoorQ1
import Derived.ProofKit
import Derived.OpenShut
import Derived.ShutString
import Derived.ChangeOld
import Derived.Deep.Slices
import Derived.Deep.Fields
import Derived.ChangeSame
namespace Go.Proofs.YtffbcfaahegglaaDoor
open Go.RowKit

theorem kept2.mono {g b b' : Nat} {u w : World} (h : kept2 g b' u w) (hb : b ≤ b') : kept2 g b u w := ⟨h.os, h.tape, h.output, h.size, fun k hk hne => h.block k (by omega) hne⟩
theorem rd_take {α : Type} [El α] {w : World} {B b o c k : Nat} {xs : List α} (h : rd w B (.slice (some ⟨b, o, none⟩) xs.length c) xs) (hk : k ≤ xs.length) : rd w B (.slice (some ⟨b, o, none⟩) k c) (xs.take k) := by
  obtain ⟨A, n, c', hv, hn, hc, hm, hr⟩ := h
  injection hv with e1 e2 e3
  subst e1 e3
  exact ⟨_, _, _, rfl, by rw [List.length_take]; omega, by omega, hm, hr.take k⟩
theorem isN.keepBlk {T1 T2 base : Nat} {w w' : World} {v : Value} {net : List Ofc} {os : List OfV} (h : isN T1 T2 base w v net os) (hk : ∀ k, base ≤ k → k < w.heap.size → w'.heap[k]? = w.heap[k]?) : isN T1 T2 base w' v net os :=
  ⟨h.1.keepBlk fun k e => hk k (h.1.blk k e).1 (h.1.blk k e).2, h.2.1, fun k a b => ⟨(h.2.2.1 k a b).1, (h.2.2.1 k a b).2.keepBlk fun j e => hk j ((h.2.2.1 k a b).2.blk j e).1 ((h.2.2.1 k a b).2.blk j e).2⟩, h.2.2.2.1, h.2.2.2.2⟩
theorem isN.none_ {T1 T2 base : Nat} {w : World} {v : Value} (h : own (α := OfV) T1 base w v []) : isN T1 T2 base w v [] [] :=
  ⟨h, rfl, fun k h => absurd h (Nat.not_lt_zero k), fun j _ h => absurd h (Nat.not_lt_zero j), fun k h => absurd h (Nat.not_lt_zero k)⟩

/-- A drawn network. -/
def l6NetPost (T1 T2 g p : Nat) (w : World) (e : Ending) (w' : World) : Prop :=
  ∃ (v : Value) (net : List Ofc) (os : List OfV) (p' : Nat), e = .returned v ∧ isN T1 T2 w.heap.size w' v net os ∧ 2 ≤ net.length ∧ net.length ≤ 4 ∧ (∀ k (h : k < net.length), net[k].rules.length ≤ 6) ∧ drawnN net.length net ∧ rdr w' g p' ∧ p' ≤ p + 400 ∧ w.grownBy w' (some g)

set_option maxRecDepth 100000 in
set_option maxHeartbeats 4000000 in
theorem rd_l6Net (g p : Nat) (w : World) (hr : rdr w g p) (hp : p ≤ 10000000000) :
    Calls Tryd.prog 65 #[.pointer (some ⟨g, 0, none⟩)] w (l6NetPost 82 65 g p w) := by
  have hlt := hr.lt
  obtain ⟨i0, hi, hz0, hzz1, hzz2⟩ := info_parts Tryd.infoRul
  obtain ⟨j0, ji, jz0, jz1, jz2⟩ := info_parts Tryd.infoOfc
  obtain ⟨s0, si, sz0, sz1, sz2⟩ := info_parts Tryd.infoStr
  obtain ⟨wN, hwN⟩ : ∃ u, u = w.alloc (Obj.cells #[.string ⟨#[97]⟩, .string ⟨#[98]⟩, .string ⟨#[99]⟩, .string ⟨#[100]⟩] 9) := ⟨_, rfl⟩
  have oN : own 9 w.heap.size wN (.slice (some ⟨w.heap.size, 0, none⟩) 4 4) ([⟨#[97]⟩, ⟨#[98]⟩, ⟨#[99]⟩, ⟨#[100]⟩] : List ByteArray) := by rw [hwN]; exact list_str 9 w.heap.size w ([⟨#[97]⟩, ⟨#[98]⟩, ⟨#[99]⟩, ⟨#[100]⟩] : List ByteArray) (by intro x hx; simp at hx; rcases hx with rfl | rfl | rfl | rfl <;> decide) (by decide) (Nat.le_refl _)
  have rN : rdr wN g p := by rw [hwN]; exact hr.alloc _
  have gN : w.grownBy wN (some g) := by rw [hwN]; exact World.grownBy_alloc w _ _
  have hzN : wN.heap.size = w.heap.size + 1 := by rw [hwN]; simp
  have HWN := Lib.hid hwN; clear hwN
  go_enter Tryd.func65, Tryd.ntmps65
  go_wp2_with fail
  rw [← HWN.out]
  refine (rd_pick g p 3 _ rN (by omega) (by unfold isI64; omega)).mono ?_
  rintro e w1 ⟨y, rfl, hy, hr1, hg1⟩
  obtain ⟨y0, y1⟩ := hy.2 (by omega)
  obtain ⟨m, rfl⟩ := Int.eq_ofNat_of_zero_le y0
  have oN1 := oN.grown hg1 (own_ne oN hlt)
  have gw1 := grown_trans gN hg1
  have hz1 := hg1.size
  obtain ⟨n, hn⟩ : ∃ n : Nat, n = 2 + m := ⟨_, rfl⟩
  have hn2 : 2 ≤ n ∧ n ≤ 4 := by omega
  obtain ⟨hn2, hn4⟩ := hn2
  have hws : IntKind.i64.wrap ((2 : Int) + (m : Int)) = (n : Int) := by rw [IntWalk.i64_in _ (by omega)]; omega
  have hws2 : (2 : Int) + (m : Int) = (n : Int) := by omega
  have HON := Lib.hid oN1
  have HNC : Hid (∀ W, kept2 g w1.heap.size w1 W → ∀ j (h : j < 4), W.cell? ⟨w.heap.size, j, none⟩ = some (.string (([⟨#[97]⟩, ⟨#[98]⟩, ⟨#[99]⟩, ⟨#[100]⟩] : List ByteArray)[j]'h))) := fun W hW j h => by
    obtain ⟨A, n', c', hv, _, _, _, hrd⟩ := oN1.rd
    obtain ⟨b, o, hA, hb, _, c1⟩ := hrd.str j h
    injection hv with e1 _ _
    subst e1
    injection hA with hA
    injection hA with hA1 hA2
    subst hA1 hA2
    rw [Nat.zero_add] at c1
    exact (hW.cell ⟨w.heap.size, j, none⟩ hb (by show w.heap.size ≠ g; omega)).trans c1
  have HNS : Hid (∀ j (h : j < 4), (([⟨#[97]⟩, ⟨#[98]⟩, ⟨#[99]⟩, ⟨#[100]⟩] : List ByteArray)[j]'h).size ≤ maxLen) := fun j h => by
    have hh : ∀ x ∈ ([⟨#[97]⟩, ⟨#[98]⟩, ⟨#[99]⟩, ⟨#[100]⟩] : List ByteArray), x.size ≤ maxLen := by intro x hx; simp at hx; rcases hx with rfl | rfl | rfl | rfl <;> decide
    exact hh _ (List.getElem_mem h)
  have hlt1 := hr1.lt
  have oE := own.made0 (α := OfV) w1 82 (Nat.le_refl _)
  have rE := hr1.alloc (Obj.cells #[] 82)
  have kE : kept2 g w1.heap.size w1 (w1.alloc (Obj.cells #[] 82)) := kept2.below ((Below.refl _ _).alloc (Nat.le_refl _) _)
  have HE := Lib.hid oE
  have HGW := Lib.hid gw1
  clear oN oN1 rN gN hy hg1 oE gw1 hn
  go_wp2_with fail
  go_loopw [4, 5] (fun t i wr => ∃ (k : Nat) (net : List Ofc) (os : List OfV) (q : Nat), k ≤ n ∧ i = .int .i64 k ∧ Hid (net.length = k) ∧ Hid (isN 82 65 w1.heap.size wr t net os) ∧ Hid (drawnN n net) ∧ rdr wr g q ∧ q ≤ p + 1 + 50 * k ∧ kept2 g w1.heap.size w1 wr) (fun _ i _ => n - (intOf i).toNat)
  case atStart => exact ⟨0, [], [], p + 1, by omega, rfl, rfl, isN.none_ HE.out, drawnN.nil _, rE, by omega, kE⟩
  case round =>
    obtain ⟨k, net, os, q, hk, rfl, HL, HN, HR6, hrq, hqb, kr⟩ := hrel
    clear rE kE
    obtain ⟨A, mm, c, hvs, hms, _, _, _⟩ := HN.out.1.rd
    subst hms hvs
    have hol : os.length ≤ 4 := by have := HN.out.2.1.trans HL.out; omega
    have hsr := kr.size
    have hgr := hrq.lt
    by_cases hlt' : k < n
    · have hki : (k : Int) < (n : Int) := by omega
      have hki0 : (0 : Int) ≤ (k : Int) := by omega
      have hnm := HNS.out k (by omega)
      have HNCk : Hid (∀ W, kept2 g w1.heap.size w1 W → W.cell? ⟨w.heap.size, k, none⟩ = some (.string (([⟨#[97]⟩, ⟨#[98]⟩, ⟨#[99]⟩, ⟨#[100]⟩] : List ByteArray)[k]'(by show k < 4; omega)))) := fun W h => HNC.out W h k (by omega)
      have HNE : Hid ((([⟨#[97]⟩, ⟨#[98]⟩, ⟨#[99]⟩, ⟨#[100]⟩] : List ByteArray)[k]'(by show k < 4; omega)) = abcd[k]?.getD ⟨#[]⟩) := by show _ = _; rw [List.getElem?_eq_getElem (show k < abcd.length from (by show k < 4; omega))]; rfl
      generalize (([⟨#[97]⟩, ⟨#[98]⟩, ⟨#[99]⟩, ⟨#[100]⟩] : List ByteArray)[k]'(by show k < 4; omega)) = nm at *
      have HNM := Lib.hid hnm; clear hnm
      have o2 : own 9 wr.heap.size (wr.alloc (Obj.cells #[.string ⟨#[104, 101, 114, 101]⟩, .string ⟨#[104, 101, 114, 101]⟩] 9)) (.slice (some ⟨wr.heap.size, 0, none⟩) 2 2) ([⟨#[104, 101, 114, 101]⟩, ⟨#[104, 101, 114, 101]⟩] : List ByteArray) := list_str 9 wr.heap.size wr ([⟨#[104, 101, 114, 101]⟩, ⟨#[104, 101, 114, 101]⟩] : List ByteArray) (by intro x hx; simp at hx; subst hx; decide) (by decide) (Nat.le_refl _)
      have HO2 := Lib.hid o2; clear o2
      have HNRr : Hid (rd (wr.alloc (Obj.cells #[.string ⟨#[104, 101, 114, 101]⟩, .string ⟨#[104, 101, 114, 101]⟩] 9)) (wr.alloc (Obj.cells #[.string ⟨#[104, 101, 114, 101]⟩, .string ⟨#[104, 101, 114, 101]⟩] 9)).heap.size (.slice (some ⟨w.heap.size, 0, none⟩) n 4) (([⟨#[97]⟩, ⟨#[98]⟩, ⟨#[99]⟩, ⟨#[100]⟩] : List ByteArray).take n)) := rd_take ((HON.out.keepBlk fun j hj => kr.block j (HON.out.blk j hj).2 (by have := (HON.out.blk j hj).1; omega)).alloc _).rd hn4
      go_wp2_with (at_builtin; refine wpList_appendAll (α := ByteArray) rfl (.tmp 20) (.tmp 21) _ rfl wr.heap.size 9 s0 _ 16 Tryd.underlying61 si sz0 sz1 sz2 rfl (by decide) (.slice (some ⟨wr.heap.size, 0, none⟩) 2 2) ([⟨#[104, 101, 114, 101]⟩, ⟨#[104, 101, 114, 101]⟩] : List ByteArray) rfl HO2.out (.slice (some ⟨w.heap.size, 0, none⟩) n 4) (([⟨#[97]⟩, ⟨#[98]⟩, ⟨#[99]⟩, ⟨#[100]⟩] : List ByteArray).take n) rfl _ HNRr.out (by unfold maxLen; simp; omega) (by simp; omega) (by simp) ?_; intro v3 w3 o3 g3 _)
      have c3 : kept2 g wr.heap.size wr w3 := kept2.below (((Below.refl _ _).alloc (Nat.le_refl _) _).trans (below_append HO2.out g3 (by simp)))
      have hr3 : rdr w3 g q := (hrq.alloc _).append HO2.out g3 hgr
      have hs3 := c3.size
      have HNX : Hid (0 < (([⟨#[104, 101, 114, 101]⟩, ⟨#[104, 101, 114, 101]⟩] : List ByteArray) ++ ([⟨#[97]⟩, ⟨#[98]⟩, ⟨#[99]⟩, ⟨#[100]⟩] : List ByteArray).take n).length) := by show 0 < _; simp
      have HO3 := Lib.hid (o3.base_ (show g + 1 ≤ wr.heap.size by omega))
      clear g3 o3
      have HNX2 : Hid (([⟨#[104, 101, 114, 101]⟩, ⟨#[104, 101, 114, 101]⟩] : List ByteArray) ++ ([⟨#[97]⟩, ⟨#[98]⟩, ⟨#[99]⟩, ⟨#[100]⟩] : List ByteArray).take n = netNs n) := rfl
      generalize ([⟨#[104, 101, 114, 101]⟩, ⟨#[104, 101, 114, 101]⟩] : List ByteArray) ++ ([⟨#[97]⟩, ⟨#[98]⟩, ⟨#[99]⟩, ⟨#[100]⟩] : List ByteArray).take n = nx at *
      go_wp2_with fail
      refine (rd_l6Rules g q _ nx _ hr3 (by omega) HO3.out HNX.out).mono ?_
      rintro e w4 ⟨v4, rs, q4, rfl, o4, hl4, hdr, hr4, hq4, hg4⟩
      have HDR := Lib.hid hdr; clear hdr
      have c4 := c3.step hg4 (Nat.le_refl _)
      have hz34 := hg4.size
      have HO4 := Lib.hid (HO3.out.grown hg4 (own_ne HO3.out (Nat.lt_succ_self g)))
      obtain ⟨A4, n4, c4', hv4, hn4, _, _, _⟩ := o4.rd
      subst hn4 hv4
      clear c3 hr3 hg4
      go_wp2_with fail
      refine (rd_pick g q4 3 _ hr4 (by omega) (by unfold isI64; omega)).mono ?_
      rintro e w5 ⟨y, rfl, hy, hr5, hg5⟩
      obtain ⟨y0, y1⟩ := hy.2 (by omega)
      have c5 := c4.step hg5 (Nat.le_refl _)
      have hz45 := hg5.size
      have o5 := o4.grown hg5 (own_ne o4 (by omega))
      have HO5 := Lib.hid (HO4.out.grown hg5 (own_ne HO4.out (Nat.lt_succ_self g)))
      clear hy c4 o4 hr4 hg5
      by_cases hy0 : 0 < y
      · go_wp2_with fail
        refine (spec_l6Index _ rs ⟨#[]⟩ _ o5.rd).mono ?_
        rintro e _ ⟨rfl, rfl⟩
        have HSN := Lib.hid (fun t => drawnR.snoc (s := ⟨#[]⟩) (t := t) HDR.out (by decide))
        generalize fwdI rs ⟨#[]⟩ = r at *
        by_cases hr0 : r < 0
        · replace HSN := Lib.hid (fun t ht => HSN.out t ht hr0)
          go_wp2_with fail
          refine (rd_of 9 g (q4 + 1) _ nx _ hr5 (by omega) HO5.out HNX.out).mono ?_
          rintro e w6 ⟨t, htm, rfl, ht, hr6, hg6⟩
          have HDX : Hid (drawnR (netNs n) (rs ++ [(⟨⟨#[]⟩, t⟩ : Fwd)])) := by have := HSN.out t htm; rw [HNX2.out] at this; exact this
          clear htm
          have c6 := c5.step hg6 (Nat.le_refl _)
          have o6 := o5.grown hg6 (own_ne o5 (by omega))
          have hs6 := c6.size
          have hz56 := hg6.size
          have HOK : Hid (Fwd.ok ⟨⟨#[]⟩, t⟩) := ⟨by show 0 ≤ maxLen; decide, ht⟩
          clear c5 o5 hr5 hg6
          go_wp2_with (first | (at_builtin; refine wpList_append1 (α := Fwd) rfl (.tmp 34) (.tmp 39) _ rfl w3.heap.size 65 i0 _ 32 Tryd.underlying34 hi hz0 hzz1 hzz2 rfl (by decide) (.slice A4 rs.length c4') rs ⟨⟨#[]⟩, t⟩ rfl (o6.alloc _) ⟨w6.heap.size, 0, none⟩ 1 (Fwd.cells ⟨⟨#[]⟩, t⟩) rfl ⟨HOK.out, rfl⟩ (news_at w6 _ (Fwd.cells ⟨⟨#[]⟩, t⟩)) (by unfold maxLen; omega) (by omega) (by simp; omega) ?_; intro v7 w7 o7 hg7 _; have hr7 : rdr w7 g (q4 + 1 + 1) := (hr6.alloc _).append (o6.alloc _) hg7 (by omega); have c7 : kept2 g wr.heap.size wr w7 := (c6.trans (kept2.below ((Below.refl _ _).alloc hs6 _))).trans ((kept2.below (below_append (o6.alloc _) hg7 (by simp; omega))).mono hs3); have kW := kr.trans (c7.mono hsr); have hcn := HNCk.out w7 kW; obtain ⟨A8, m8, c8, rfl, hm8, _, _, _⟩ := o7.rd; clear hm8; have HU := Lib.hid o7; have HN8 := Lib.hid (HN.out.keepBlk (w' := w7) fun j h1 h2 => c7.block j h2 (by omega)); have hnm := HNM.out; have hswz := kW.size; have hsr8 := c7.size; have HU8 : Hid (∀ j, (Value.slice A8 m8 c8).ownBlock = some j → wr.heap.size ≤ j) := (fun j hj => by have := (HU.out.blk j hj).1; have := hs3; omega)) | (at_builtin; go_loud (refine wpList_append1' (α := OfV) rfl (.tmp 41) (.tmp 48) 43 rfl w1.heap.size 82 j0 _ 40 Tryd.underlying43 ji jz0 jz1 jz2 rfl (by decide) (.slice A os.length c) os ⟨nm, .slice A8 m8 c8⟩ rfl (HN8.out.1.alloc _) ⟨w7.heap.size, 0, none⟩ 1 [.string nm, .slice A8 m8 c8] rfl ⟨rfl, hnm, rfl⟩ (news_at w7 _ [.string nm, .slice A8 m8 c8]) (by unfold maxLen; omega) (by omega) (by simp; omega) ?_; intro gO cap w9 o9 hg9 ha9 hl9)))
          have HRL : Hid ((rs ++ [(⟨⟨#[]⟩, t⟩ : Fwd)]).length ≤ 6) := by show _ ≤ _; first | omega | (simp; omega)
          have HB8 : Below w7.heap.size w7 (w7.alloc (Obj.cells #[.string nm, .slice A8 m8 c8] 82)) := (Below.refl _ _).alloc (Nat.le_refl _) _
          have HN9 := Lib.hid (isN.snoc (HN8.out.below HB8) ((HU.out.base_ (by omega)).alloc _) (apart_ne fun j h1 h2 => by have := HU8.out j h1; have := (HN.out.1.blk j h2).2; omega) (fun i hi => apart_ne fun j h1 h2 => by have := HU8.out j h1; have := ((HN.out.2.2.1 i hi (by have := HN.out.2.1; omega)).2.blk j h2).2; omega) o9 hg9 ha9)
          have r9 : rdr w9 g (q4 + 1 + 1) := (hr7.alloc _).append (HN8.out.1.alloc _) hg9 (by omega)
          have k9 : kept2 g w1.heap.size w1 w9 := (kW.trans (kept2.below ((Below.refl _ _).alloc hswz _))).trans (kept2.below (below_append (HN8.out.1.alloc _) hg9 (by simp; omega)))
          clear hg9 ha9 o9
          go_wp2_with fail
          go_roundw
          case rel =>
            exact ⟨k + 1, _, _, (q4 + 1 + 1), by omega, by go_num, by show _ = _; rw [List.length_append, HL.out]; rfl, HN9.out, drawnN.snoc HR6.out (by rw [HL.out]; exact HNE.out) HDX.out HRL.out, r9, by omega, k9⟩
          case measure => simp [intOf]; omega
        · skip
          have HDX : Hid (drawnR (netNs n) rs) := by have := HDR.out; rw [HNX2.out] at this; exact this
          have HU := Lib.hid o5
          have kW := kr.trans (c5.mono hsr)
          have HN8 := Lib.hid (HN.out.keepBlk (w' := w5) fun j h1 h2 => c5.block j h2 (by omega))
          have hcn := HNCk.out w5 kW
          have hnm := HNM.out
          have hswz := kW.size
          have hsr8 := c5.size
          have HRL : Hid (rs.length ≤ 6) := by show _ ≤ _; first | omega | (simp; omega)
          have HU8 : Hid (∀ j, (Value.slice A4 rs.length c4').ownBlock = some j → wr.heap.size ≤ j) := fun j hj => by have := (HU.out.blk j hj).1; have := hs3; omega
          go_wp2_with (at_builtin; go_loud (refine wpList_append1' (α := OfV) rfl (.tmp 41) (.tmp 48) 43 rfl w1.heap.size 82 j0 _ 40 Tryd.underlying43 ji jz0 jz1 jz2 rfl (by decide) (.slice A os.length c) os ⟨nm, .slice A4 rs.length c4'⟩ rfl (HN8.out.1.alloc _) ⟨w5.heap.size, 0, none⟩ 1 [.string nm, .slice A4 rs.length c4'] rfl ⟨rfl, hnm, rfl⟩ (news_at w5 _ [.string nm, .slice A4 rs.length c4']) (by unfold maxLen; omega) (by omega) (by simp; omega) ?_; intro gO cap w9 o9 hg9 ha9 hl9))
          have HB8 : Below w5.heap.size w5 (w5.alloc (Obj.cells #[.string nm, .slice A4 rs.length c4'] 82)) := (Below.refl _ _).alloc (Nat.le_refl _) _
          have HN9 := Lib.hid (isN.snoc (HN8.out.below HB8) ((HU.out.base_ (by omega)).alloc _) (apart_ne fun j h1 h2 => by have := HU8.out j h1; have := (HN.out.1.blk j h2).2; omega) (fun i hi => apart_ne fun j h1 h2 => by have := HU8.out j h1; have := ((HN.out.2.2.1 i hi (by have := HN.out.2.1; omega)).2.blk j h2).2; omega) o9 hg9 ha9)
          have r9 : rdr w9 g (q4 + 1) := (hr5.alloc _).append (HN8.out.1.alloc _) hg9 (by omega)
          have k9 : kept2 g w1.heap.size w1 w9 := (kW.trans (kept2.below ((Below.refl _ _).alloc hswz _))).trans (kept2.below (below_append (HN8.out.1.alloc _) hg9 (by simp; omega)))
          clear hg9 ha9 o9
          go_wp2_with fail
          go_roundw
          case rel =>
            exact ⟨k + 1, _, _, (q4 + 1), by omega, by go_num, by show _ = _; rw [List.length_append, HL.out]; rfl, HN9.out, drawnN.snoc HR6.out (by rw [HL.out]; exact HNE.out) HDX.out HRL.out, r9, by omega, k9⟩
          case measure => simp [intOf]; omega
      · skip
        have HDX : Hid (drawnR (netNs n) rs) := by have := HDR.out; rw [HNX2.out] at this; exact this
        have HU := Lib.hid o5
        have kW := kr.trans (c5.mono hsr)
        have HN8 := Lib.hid (HN.out.keepBlk (w' := w5) fun j h1 h2 => c5.block j h2 (by omega))
        have hcn := HNCk.out w5 kW
        have hnm := HNM.out
        have hswz := kW.size
        have hsr8 := c5.size
        have HRL : Hid (rs.length ≤ 6) := by show _ ≤ _; first | omega | (simp; omega)
        have HU8 : Hid (∀ j, (Value.slice A4 rs.length c4').ownBlock = some j → wr.heap.size ≤ j) := fun j hj => by have := (HU.out.blk j hj).1; have := hs3; omega
        go_wp2_with (at_builtin; go_loud (refine wpList_append1' (α := OfV) rfl (.tmp 41) (.tmp 48) 43 rfl w1.heap.size 82 j0 _ 40 Tryd.underlying43 ji jz0 jz1 jz2 rfl (by decide) (.slice A os.length c) os ⟨nm, .slice A4 rs.length c4'⟩ rfl (HN8.out.1.alloc _) ⟨w5.heap.size, 0, none⟩ 1 [.string nm, .slice A4 rs.length c4'] rfl ⟨rfl, hnm, rfl⟩ (news_at w5 _ [.string nm, .slice A4 rs.length c4']) (by unfold maxLen; omega) (by omega) (by simp; omega) ?_; intro gO cap w9 o9 hg9 ha9 hl9))
        have HB8 : Below w5.heap.size w5 (w5.alloc (Obj.cells #[.string nm, .slice A4 rs.length c4'] 82)) := (Below.refl _ _).alloc (Nat.le_refl _) _
        have HN9 := Lib.hid (isN.snoc (HN8.out.below HB8) ((HU.out.base_ (by omega)).alloc _) (apart_ne fun j h1 h2 => by have := HU8.out j h1; have := (HN.out.1.blk j h2).2; omega) (fun i hi => apart_ne fun j h1 h2 => by have := HU8.out j h1; have := ((HN.out.2.2.1 i hi (by have := HN.out.2.1; omega)).2.blk j h2).2; omega) o9 hg9 ha9)
        have r9 : rdr w9 g (q4 + 1) := (hr5.alloc _).append (HN8.out.1.alloc _) hg9 (by omega)
        have k9 : kept2 g w1.heap.size w1 w9 := (kW.trans (kept2.below ((Below.refl _ _).alloc hswz _))).trans (kept2.below (below_append (HN8.out.1.alloc _) hg9 (by simp; omega)))
        clear hg9 ha9 o9
        go_wp2_with fail
        go_roundw
        case rel =>
          exact ⟨k + 1, _, _, (q4 + 1), by omega, by go_num, by show _ = _; rw [List.length_append, HL.out]; rfl, HN9.out, drawnN.snoc HR6.out (by rw [HL.out]; exact HNE.out) HDX.out HRL.out, r9, by omega, k9⟩
        case measure => simp [intOf]; omega
    · have HKN := Lib.hid (show k = n by omega)
      go_wp2_with fail
      go_ret
      refine ⟨_, net, os, q, rfl, HN.out.base_ (by omega), by rw [HL.out]; have := HKN.out; omega, by rw [HL.out]; omega, fun j hj => (HR6.out j hj).2.2, by rw [HL.out, HKN.out]; exact HR6.out, hrq, by omega, kept2.back HGW.out kr (by omega)⟩

end Go.Proofs.YtffbcfaahegglaaDoor

namespace Go.Proofs.YtffbcfaahegglaaDoor
open Go.RowKit Go.ChangeShapes Go.WideShapes Go.Deep

/-- Whatever reads at type t reads as some x of α. -/
def Opens (P : Program) (t : TypeId) (α : Type) [El α] : Prop :=
  ∀ {H : Type} (enc : TypeId × Value → H) (w : World) (spare : Nat → Bool) (held : Bool) (fuel : Nat) (cs : List Value) (x : DataW H × List MemPlace),
    DataW.trod enc P w 0 spare held fuel t cs = some x → ∃ y : α, El.el w w.heap.size y cs

theorem list_of {α : Type} {p : Nat → α → Prop} : ∀ {n : Nat}, (∀ i, i < n → ∃ y, p i y) → ∃ xs : List α, xs.length = n ∧ ∀ i (h : i < xs.length), p i xs[i]
  | 0, _ => ⟨[], rfl, fun i h => absurd h (Nat.not_lt_zero i)⟩
  | n + 1, h => by
    obtain ⟨xs, hl, hp⟩ := list_of (n := n) (fun i hi => h i (by omega))
    obtain ⟨y, hy⟩ := h n (by omega)
    refine ⟨xs ++ [y], by simp [hl], fun i hi => ?_⟩
    by_cases hin : i < xs.length
    · rw [List.getElem_append_left hin]
      exact hp i hin
    · have : i = n := by simp at hi; omega
      subst this
      rw [List.getElem_append_right (by omega)]
      simpa [hl] using hy

theorem opens_row {α : Type} [El α] {P : Program} {t e : TypeId} (ht : P.underlying t = some (.slice e)) (hc : P.cellsOf e = El.size α) (hs : 0 < El.size α) (ho : Opens P e α)
    {H : Type} {enc : TypeId × Value → H} {w : World} {spare : Nat → Bool} {held : Bool} {fuel : Nat} {v : Value} {x : DataW H × List MemPlace}
    (h : DataW.trod enc P w 0 spare held fuel t [v] = some x) : ∃ xs : List α, rd w w.heap.size v xs := by
  rcases open_slice ht h with ⟨h0, _⟩ | ⟨a, len, cap, m, n, D, Pl, hcs, hb, hl, hm, hmm, hx, hi⟩
  · injection h0 with h0
    subst h0
    exact ⟨[], rd.nil_⟩
  · injection hcs with hv
    subst hv
    obtain ⟨xs, hxl, hxp⟩ := list_of (n := len) (p := fun i (y : α) => ∃ cs : List Value, El.el w w.heap.size y cs ∧ ∀ j u, cs[j]? = some u → w.cell? (a.add (i * El.size α + j)) = some u) (fun i hil => by
      obtain ⟨cs', hcc, hd⟩ := hi i (by rw [hmm]; split <;> omega)
      obtain ⟨y, hy⟩ := ho enc w spare held n cs' _ hd
      obtain ⟨_, hcl, hat⟩ := World.cells?_some hcc
      refine ⟨y, cs', hy, fun j u hu => ?_⟩
      have hj : j < P.cellsOf e := by
        rw [← hcl]
        exact (List.getElem?_eq_some_iff.1 hu).1
      have := hat j hj
      rw [← add_add, ← hc, this, hu])
    refine ⟨xs, some a, len, cap, rfl, hxl.symm, hl, hm, fun k hk => ?_⟩
    obtain ⟨cs, hel, hcell⟩ := hxp k hk
    have h0 : cs[0]? = some (cs[0]'(by rw [El.len hel]; exact hs)) := List.getElem?_eq_getElem _
    obtain ⟨b, o, spot⟩ := a
    have hc0 := hcell 0 _ h0
    have hspot : spot = none := by
      have h1 := hxp 0 (by omega)
      obtain ⟨cs1, hel1, hcell1⟩ := h1
      have h01 : cs1[0]? = some (cs1[0]'(by rw [El.len hel1]; exact hs)) := List.getElem?_eq_getElem _
      have := World.cell?_spot (hcell1 0 _ h01)
      simpa [Addr.add] using this
    subst hspot
    have hlt := World.block_lt_of_cell? _ _ hc0
    rw [block_of_add] at hlt
    exact ⟨b, o, cs, rfl, hlt, hel, fun j u hu => by have := hcell j u hu; rwa [add_lit] at this⟩

/-- The cells of a struct, field by field. -/
theorem trod_fields {H : Type} {enc : TypeId × Value → H} {P : Program} {w : World} {base : Nat} {spare : Nat → Bool} {held : Bool} {t : TypeId} {fs : Array Field} {fuel : Nat} {cs : List Value} {x : DataW H × List MemPlace}
    (ht : P.underlying t = some (.struct fs)) (h : DataW.trod enc P w base spare held fuel t cs = some x) :
    cs.length = P.cellsOf t ∧ ∀ (i : Nat) (f : Field), fs[i]? = some f → ∃ n y, DataW.trod enc P w base spare held n f.type ((cs.drop f.offset).take (P.cellsOf f.type)) = some y := by
  obtain ⟨xs, n, _, _, hlen, hl, hf⟩ := DataW.trod_struct ht h
  refine ⟨hlen, fun i f hi => ?_⟩
  have hil : i < xs.length := by rw [hl]; exact (Array.getElem?_eq_some_iff.1 hi).1
  exact ⟨n, xs[i], by rw [hf i f hi]; exact List.getElem?_eq_getElem hil⟩
theorem list2 {α : Type} {l : List α} (h : l.length = 2) : ∃ a b, l = [a, b] := by
  match l, h with
  | [a, b], _ => exact ⟨a, b, rfl⟩
theorem list3 {α : Type} {l : List α} (h : l.length = 3) : ∃ a b c, l = [a, b, c] := by
  match l, h with
  | [a, b, c], _ => exact ⟨a, b, c, rfl⟩
theorem list4 {α : Type} {l : List α} (h : l.length = 4) : ∃ a b c d, l = [a, b, c, d] := by
  match l, h with
  | [a, b, c, d], _ => exact ⟨a, b, c, d, rfl⟩
theorem list6 {α : Type} {l : List α} (h : l.length = 6) : ∃ a b c d e f, l = [a, b, c, d, e, f] := by
  match l, h with
  | [a, b, c, d, e, f], _ => exact ⟨a, b, c, d, e, f, rfl⟩

end Go.Proofs.YtffbcfaahegglaaDoor

namespace Go.Proofs.YtffbcfaahegglaaDoor
open Go.ChangeShapes Go.WideShapes Go.ChangeAt Go.RowKit

set_option maxRecDepth 100000 in
theorem opensLtr : Opens Tryd.prog 100 Ltr := by
  intro H enc w spare held fuel cs x h
  obtain ⟨hl, hf⟩ := trod_fields Tryd.underlying100 h
  obtain ⟨c0, c1, rfl⟩ := list2 (hl.trans (by kernel_rfl))
  obtain ⟨n0, y0, h0⟩ := hf 0 _ rfl
  obtain ⟨n1, y1, h1⟩ := hf 1 _ rfl
  obtain ⟨i, e0, _, wi⟩ := DataW.trod_int Tryd.underlying3 (h0 : DataW.trod enc Tryd.prog w 0 spare held n0 3 [c0] = some y0)
  obtain ⟨s, e1, _, ws⟩ := DataW.trod_string Tryd.underlying9 (h1 : DataW.trod enc Tryd.prog w 0 spare held n1 9 [c1] = some y1)
  injection e0 with e0
  injection e1 with e1
  subst e0 e1
  exact ⟨⟨i, s⟩, ⟨wf_range wi, ws⟩, rfl⟩

end Go.Proofs.YtffbcfaahegglaaDoor
