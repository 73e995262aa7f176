/- NA NX NE -/
import Derived.Test.YtpinkbodbedajaaGreatDoorQ24
import Derived.Test.YtpinkbodbedajaaGreatDoorQ2
import Derived.Test.YtpinkbodbedajaaGreatDoorQ22
import Derived.Test.YtpinkbodbedajaaGreatDoorQ11
import Derived.Test.YtpinkbodbedajaaGreatDoorQ23
namespace Go.Proofs.YtpinkbodbedajaaGreatDoor
open Go.RowKit

theorem kept2.mono {g b b' : Nat} {u w : World} (h : kept2 g b' u w) (hb : b ≤ b') : kept2 g b u w := ⟨h.os, h.tape, h.output, h.size, fun k hk hne => h.block k (by omega) hne⟩
theorem rd_take {α : Type} [El α] {w : World} {B b o c k : Nat} {xs : List α} (h : rd w B (.slice (some ⟨b, o, none⟩) xs.length c) xs) (hk : k ≤ xs.length) : rd w B (.slice (some ⟨b, o, none⟩) k c) (xs.take k) := by
  obtain ⟨A, n, c', hv, hn, hc, hm, hr⟩ := h
  injection hv with e1 e2 e3
  subst e1 e3
  exact ⟨_, _, _, rfl, by rw [List.length_take]; omega, by omega, hm, hr.take k⟩
theorem isN.keepBlk {T1 T2 base : Nat} {w w' : World} {v : Value} {net : List Ofc} {os : List OfV} (h : isN T1 T2 base w v net os) (hk : ∀ k, base ≤ k → k < w.heap.size → w'.heap[k]? = w.heap[k]?) : isN T1 T2 base w' v net os :=
  ⟨h.1.keepBlk fun k e => hk k (h.1.blk k e).1 (h.1.blk k e).2, h.2.1, fun k a b => ⟨(h.2.2.1 k a b).1, (h.2.2.1 k a b).2.keepBlk fun j e => hk j ((h.2.2.1 k a b).2.blk j e).1 ((h.2.2.1 k a b).2.blk j e).2⟩, h.2.2.2.1, h.2.2.2.2⟩
theorem isN.none_ {T1 T2 base : Nat} {w : World} {v : Value} (h : own (α := OfV) T1 base w v []) : isN T1 T2 base w v [] [] :=
  ⟨h, rfl, fun k h => absurd h (Nat.not_lt_zero k), fun j _ h => absurd h (Nat.not_lt_zero j), fun k h => absurd h (Nat.not_lt_zero k)⟩

/-- A drawn network. -/
def l6NetPost (T1 T2 g p : Nat) (w : World) (e : Ending) (w' : World) : Prop :=
  ∃ (v : Value) (net : List Ofc) (os : List OfV) (p' : Nat), e = .returned v ∧ isN T1 T2 w.heap.size w' v net os ∧ 2 ≤ net.length ∧ net.length ≤ 4 ∧ (∀ k (h : k < net.length), net[k].rules.length ≤ 6) ∧ drawnN net.length net ∧ rdr w' g p' ∧ p' ≤ p + 400 ∧ w.grownBy w' (some g)

set_option maxRecDepth 100000 in
set_option maxHeartbeats 4000000 in
theorem rd_l6Net (g p : Nat) (w : World) (hr : rdr w g p) (hp : p ≤ 10000000000) :
    Calls Tryz.prog 79 #[.pointer (some ⟨g, 0, none⟩)] w (l6NetPost 102 174 g p w) := by
  have hlt := hr.lt
  obtain ⟨i0, hi, hz0, hzz1, hzz2⟩ := info_parts Tryz.infoRul
  obtain ⟨j0, ji, jz0, jz1, jz2⟩ := info_parts Tryz.infoOfc
  obtain ⟨s0, si, sz0, sz1, sz2⟩ := info_parts Tryz.infoStr
  obtain ⟨wN, hwN⟩ : ∃ u, u = w.alloc (Obj.cells #[.string ⟨#[97]⟩, .string ⟨#[98]⟩, .string ⟨#[99]⟩, .string ⟨#[100]⟩] 9) := ⟨_, rfl⟩
  have oN : own 9 w.heap.size wN (.slice (some ⟨w.heap.size, 0, none⟩) 4 4) ([⟨#[97]⟩, ⟨#[98]⟩, ⟨#[99]⟩, ⟨#[100]⟩] : List ByteArray) := by rw [hwN]; exact list_str 9 w.heap.size w ([⟨#[97]⟩, ⟨#[98]⟩, ⟨#[99]⟩, ⟨#[100]⟩] : List ByteArray) (by intro x hx; simp at hx; rcases hx with rfl | rfl | rfl | rfl <;> decide) (by decide) (Nat.le_refl _)
  have rN : rdr wN g p := by rw [hwN]; exact hr.alloc _
  have gN : w.grownBy wN (some g) := by rw [hwN]; exact World.grownBy_alloc w _ _
  have hzN : wN.heap.size = w.heap.size + 1 := by rw [hwN]; simp
  have HWN := Lib.hid hwN; clear hwN
  go_enter Tryz.func79, Tryz.ntmps79
  go_wp2_with fail
  rw [← HWN.out]
  refine (rd_pick g p 3 _ rN (by omega) (by unfold isI64; omega)).mono ?_
  rintro e w1 ⟨y, rfl, hy, hr1, hg1⟩
  obtain ⟨y0, y1⟩ := hy.2 (by omega)
  obtain ⟨m, rfl⟩ := Int.eq_ofNat_of_zero_le y0
  have oN1 := oN.grown hg1 (own_ne oN hlt)
  have gw1 := grown_trans gN hg1
  have hz1 := hg1.size
  obtain ⟨n, hn⟩ : ∃ n : Nat, n = 2 + m := ⟨_, rfl⟩
  have hn2 : 2 ≤ n ∧ n ≤ 4 := by omega
  obtain ⟨hn2, hn4⟩ := hn2
  have hws : IntKind.i64.wrap ((2 : Int) + (m : Int)) = (n : Int) := by rw [IntWalk.i64_in _ (by omega)]; omega
  have hws2 : (2 : Int) + (m : Int) = (n : Int) := by omega
  have HON := Lib.hid oN1
  have HNC : Hid (∀ W, kept2 g w1.heap.size w1 W → ∀ j (h : j < 4), W.cell? ⟨w.heap.size, j, none⟩ = some (.string (([⟨#[97]⟩, ⟨#[98]⟩, ⟨#[99]⟩, ⟨#[100]⟩] : List ByteArray)[j]'h))) := fun W hW j h => by
    obtain ⟨A, n', c', hv, _, _, _, hrd⟩ := oN1.rd
    obtain ⟨b, o, hA, hb, _, c1⟩ := hrd.str j h
    injection hv with e1 _ _
    subst e1
    injection hA with hA
    injection hA with hA1 hA2
    subst hA1 hA2
    rw [Nat.zero_add] at c1
    exact (hW.cell ⟨w.heap.size, j, none⟩ hb (by show w.heap.size ≠ g; omega)).trans c1
  have HNS : Hid (∀ j (h : j < 4), (([⟨#[97]⟩, ⟨#[98]⟩, ⟨#[99]⟩, ⟨#[100]⟩] : List ByteArray)[j]'h).size ≤ maxLen) := fun j h => by
    have hh : ∀ x ∈ ([⟨#[97]⟩, ⟨#[98]⟩, ⟨#[99]⟩, ⟨#[100]⟩] : List ByteArray), x.size ≤ maxLen := by intro x hx; simp at hx; rcases hx with rfl | rfl | rfl | rfl <;> decide
    exact hh _ (List.getElem_mem h)
  have hlt1 := hr1.lt
  have oE := own.made0 (α := OfV) w1 102 (Nat.le_refl _)
  have rE := hr1.alloc (Obj.cells #[] 102)
  have kE : kept2 g w1.heap.size w1 (w1.alloc (Obj.cells #[] 102)) := kept2.below ((Below.refl _ _).alloc (Nat.le_refl _) _)
  have HE := Lib.hid oE
  have HGW := Lib.hid gw1
  clear oN oN1 rN gN hy hg1 oE gw1 hn
  go_wp2_with fail
  go_loopw [4, 5] (fun t i wr => ∃ (k : Nat) (net : List Ofc) (os : List OfV) (q : Nat), k ≤ n ∧ i = .int .i64 k ∧ Hid (net.length = k) ∧ Hid (isN 102 174 w1.heap.size wr t net os) ∧ Hid (drawnN n net) ∧ rdr wr g q ∧ q ≤ p + 1 + 50 * k ∧ kept2 g w1.heap.size w1 wr) (fun _ i _ => n - (intOf i).toNat)
  case atStart => exact ⟨0, [], [], p + 1, by omega, rfl, rfl, isN.none_ HE.out, drawnN.nil _, rE, by omega, kE⟩
  case round =>
    obtain ⟨k, net, os, q, hk, rfl, HL, HN, HR6, hrq, hqb, kr⟩ := hrel
    clear rE kE
    obtain ⟨A, mm, c, hvs, hms, _, _, _⟩ := HN.out.1.rd
    subst hms hvs
    have hol : os.length ≤ 4 := by have := HN.out.2.1.trans HL.out; omega
    have hsr := kr.size
    have hgr := hrq.lt
    by_cases hlt' : k < n
    · have hki : (k : Int) < (n : Int) := by omega
      have hki0 : (0 : Int) ≤ (k : Int) := by omega
      have hnm := HNS.out k (by omega)
      have HNCk : Hid (∀ W, kept2 g w1.heap.size w1 W → W.cell? ⟨w.heap.size, k, none⟩ = some (.string (([⟨#[97]⟩, ⟨#[98]⟩, ⟨#[99]⟩, ⟨#[100]⟩] : List ByteArray)[k]'(by show k < 4; omega)))) := fun W h => HNC.out W h k (by omega)
      have HNE : Hid ((([⟨#[97]⟩, ⟨#[98]⟩, ⟨#[99]⟩, ⟨#[100]⟩] : List ByteArray)[k]'(by show k < 4; omega)) = abcd[k]?.getD ⟨#[]⟩) := by show _ = _; rw [List.getElem?_eq_getElem (show k < abcd.length from (by show k < 4; omega))]; rfl
      generalize (([⟨#[97]⟩, ⟨#[98]⟩, ⟨#[99]⟩, ⟨#[100]⟩] : List ByteArray)[k]'(by show k < 4; omega)) = nm at *
      have HNM := Lib.hid hnm; clear hnm
      have o2 : own 9 wr.heap.size (wr.alloc (Obj.cells #[.string ⟨#[104, 101, 114, 101]⟩, .string ⟨#[104, 101, 114, 101]⟩] 9)) (.slice (some ⟨wr.heap.size, 0, none⟩) 2 2) ([⟨#[104, 101, 114, 101]⟩, ⟨#[104, 101, 114, 101]⟩] : List ByteArray) := list_str 9 wr.heap.size wr ([⟨#[104, 101, 114, 101]⟩, ⟨#[104, 101, 114, 101]⟩] : List ByteArray) (by intro x hx; simp at hx; subst hx; decide) (by decide) (Nat.le_refl _)
      have HO2 := Lib.hid o2; clear o2
      have HNRr : Hid (rd (wr.alloc (Obj.cells #[.string ⟨#[104, 101, 114, 101]⟩, .string ⟨#[104, 101, 114, 101]⟩] 9)) (wr.alloc (Obj.cells #[.string ⟨#[104, 101, 114, 101]⟩, .string ⟨#[104, 101, 114, 101]⟩] 9)).heap.size (.slice (some ⟨w.heap.size, 0, none⟩) n 4) (([⟨#[97]⟩, ⟨#[98]⟩, ⟨#[99]⟩, ⟨#[100]⟩] : List ByteArray).take n)) := rd_take ((HON.out.keepBlk fun j hj => kr.block j (HON.out.blk j hj).2 (by have := (HON.out.blk j hj).1; omega)).alloc _).rd hn4
      go_wp2_with (at_builtin; refine wpList_appendAll (α := ByteArray) rfl (.tmp 20) (.tmp 21) _ rfl wr.heap.size 9 s0 _ 16 Tryz.underlying23 si sz0 sz1 sz2 rfl (by decide) (.slice (some ⟨wr.heap.size, 0, none⟩) 2 2) ([⟨#[104, 101, 114, 101]⟩, ⟨#[104, 101, 114, 101]⟩] : List ByteArray) rfl HO2.out (.slice (some ⟨w.heap.size, 0, none⟩) n 4) (([⟨#[97]⟩, ⟨#[98]⟩, ⟨#[99]⟩, ⟨#[100]⟩] : List ByteArray).take n) rfl _ HNRr.out (by unfold maxLen; simp; omega) (by simp; omega) (by simp) ?_; intro v3 w3 o3 g3 _)
      have c3 : kept2 g wr.heap.size wr w3 := kept2.below (((Below.refl _ _).alloc (Nat.le_refl _) _).trans (below_append HO2.out g3 (by simp)))
      have hr3 : rdr w3 g q := (hrq.alloc _).append HO2.out g3 hgr
      have hs3 := c3.size
      have HNX : Hid (0 < (([⟨#[104, 101, 114, 101]⟩, ⟨#[104, 101, 114, 101]⟩] : List ByteArray) ++ ([⟨#[97]⟩, ⟨#[98]⟩, ⟨#[99]⟩, ⟨#[100]⟩] : List ByteArray).take n).length) := by show 0 < _; simp
      have HO3 := Lib.hid (o3.base_ (show g + 1 ≤ wr.heap.size by omega))
      clear g3 o3
      have HNX2 : Hid (([⟨#[104, 101, 114, 101]⟩, ⟨#[104, 101, 114, 101]⟩] : List ByteArray) ++ ([⟨#[97]⟩, ⟨#[98]⟩, ⟨#[99]⟩, ⟨#[100]⟩] : List ByteArray).take n = netNs n) := rfl
      generalize ([⟨#[104, 101, 114, 101]⟩, ⟨#[104, 101, 114, 101]⟩] : List ByteArray) ++ ([⟨#[97]⟩, ⟨#[98]⟩, ⟨#[99]⟩, ⟨#[100]⟩] : List ByteArray).take n = nx at *
      go_wp2_with fail
      refine (rd_l6Rules g q _ nx _ hr3 (by omega) HO3.out HNX.out).mono ?_
      rintro e w4 ⟨v4, rs, q4, rfl, o4, hl4, hdr, hr4, hq4, hg4⟩
      have HDR := Lib.hid hdr; clear hdr
      have c4 := c3.step hg4 (Nat.le_refl _)
      have hz34 := hg4.size
      have HO4 := Lib.hid (HO3.out.grown hg4 (own_ne HO3.out (Nat.lt_succ_self g)))
      obtain ⟨A4, n4, c4', hv4, hn4, _, _, _⟩ := o4.rd
      subst hn4 hv4
      clear c3 hr3 hg4
      go_wp2_with fail
      refine (rd_pick g q4 3 _ hr4 (by omega) (by unfold isI64; omega)).mono ?_
      rintro e w5 ⟨y, rfl, hy, hr5, hg5⟩
      obtain ⟨y0, y1⟩ := hy.2 (by omega)
      have c5 := c4.step hg5 (Nat.le_refl _)
      have hz45 := hg5.size
      have o5 := o4.grown hg5 (own_ne o4 (by omega))
      have HO5 := Lib.hid (HO4.out.grown hg5 (own_ne HO4.out (Nat.lt_succ_self g)))
      clear hy c4 o4 hr4 hg5
      by_cases hy0 : 0 < y
      · go_wp2_with fail
        refine (spec_l6Index _ rs ⟨#[]⟩ _ o5.rd).mono ?_
        rintro e _ ⟨rfl, rfl⟩
        have HSN := Lib.hid (fun t => drawnR.snoc (s := ⟨#[]⟩) (t := t) HDR.out (by decide))
        generalize fwdI rs ⟨#[]⟩ = r at *
        by_cases hr0 : r < 0
        · replace HSN := Lib.hid (fun t ht => HSN.out t ht hr0)
          go_wp2_with fail
          refine (rd_of 9 g (q4 + 1) _ nx _ hr5 (by omega) HO5.out HNX.out).mono ?_
          rintro e w6 ⟨t, htm, rfl, ht, hr6, hg6⟩
          have HDX : Hid (drawnR (netNs n) (rs ++ [(⟨⟨#[]⟩, t⟩ : Fwd)])) := by have := HSN.out t htm; rw [HNX2.out] at this; exact this
          clear htm
          have c6 := c5.step hg6 (Nat.le_refl _)
          have o6 := o5.grown hg6 (own_ne o5 (by omega))
          have hs6 := c6.size
          have hz56 := hg6.size
          have HOK : Hid (Fwd.ok ⟨⟨#[]⟩, t⟩) := ⟨by show 0 ≤ maxLen; decide, ht⟩
          clear c5 o5 hr5 hg6
          go_wp2_with (first | (at_builtin; refine wpList_append1 (α := Fwd) rfl (.tmp 34) (.tmp 39) _ rfl w3.heap.size 174 i0 _ 32 Tryz.underlying100 hi hz0 hzz1 hzz2 rfl (by decide) (.slice A4 rs.length c4') rs ⟨⟨#[]⟩, t⟩ rfl (o6.alloc _) ⟨w6.heap.size, 0, none⟩ 1 (Fwd.cells ⟨⟨#[]⟩, t⟩) rfl ⟨HOK.out, rfl⟩ (news_at w6 _ (Fwd.cells ⟨⟨#[]⟩, t⟩)) (by unfold maxLen; omega) (by omega) (by simp; omega) ?_; intro v7 w7 o7 hg7 _; have hr7 : rdr w7 g (q4 + 1 + 1) := (hr6.alloc _).append (o6.alloc _) hg7 (by omega); have c7 : kept2 g wr.heap.size wr w7 := (c6.trans (kept2.below ((Below.refl _ _).alloc hs6 _))).trans ((kept2.below (below_append (o6.alloc _) hg7 (by simp; omega))).mono hs3); have kW := kr.trans (c7.mono hsr); have hcn := HNCk.out w7 kW; obtain ⟨A8, m8, c8, rfl, hm8, _, _, _⟩ := o7.rd; clear hm8; have HU := Lib.hid o7; have HN8 := Lib.hid (HN.out.keepBlk (w' := w7) fun j h1 h2 => c7.block j h2 (by omega)); have hnm := HNM.out; have hswz := kW.size; have hsr8 := c7.size; have HU8 : Hid (∀ j, (Value.slice A8 m8 c8).ownBlock = some j → wr.heap.size ≤ j) := (fun j hj => by have := (HU.out.blk j hj).1; have := hs3; omega)) | (at_builtin; go_loud (refine wpList_append1' (α := OfV) rfl (.tmp 41) (.tmp 48) 59 rfl w1.heap.size 102 j0 _ 40 Tryz.underlying59 ji jz0 jz1 jz2 rfl (by decide) (.slice A os.length c) os ⟨nm, .slice A8 m8 c8⟩ rfl (HN8.out.1.alloc _) ⟨w7.heap.size, 0, none⟩ 1 [.string nm, .slice A8 m8 c8] rfl ⟨rfl, hnm, rfl⟩ (news_at w7 _ [.string nm, .slice A8 m8 c8]) (by unfold maxLen; omega) (by omega) (by simp; omega) ?_; intro gO cap w9 o9 hg9 ha9 hl9)))
          have HRL : Hid ((rs ++ [(⟨⟨#[]⟩, t⟩ : Fwd)]).length ≤ 6) := by show _ ≤ _; first | omega | (simp; omega)
          have HB8 : Below w7.heap.size w7 (w7.alloc (Obj.cells #[.string nm, .slice A8 m8 c8] 102)) := (Below.refl _ _).alloc (Nat.le_refl _) _
          have HN9 := Lib.hid (isN.snoc (HN8.out.below HB8) ((HU.out.base_ (by omega)).alloc _) (apart_ne fun j h1 h2 => by have := HU8.out j h1; have := (HN.out.1.blk j h2).2; omega) (fun i hi => apart_ne fun j h1 h2 => by have := HU8.out j h1; have := ((HN.out.2.2.1 i hi (by have := HN.out.2.1; omega)).2.blk j h2).2; omega) o9 hg9 ha9)
          have r9 : rdr w9 g (q4 + 1 + 1) := (hr7.alloc _).append (HN8.out.1.alloc _) hg9 (by omega)
          have k9 : kept2 g w1.heap.size w1 w9 := (kW.trans (kept2.below ((Below.refl _ _).alloc hswz _))).trans (kept2.below (below_append (HN8.out.1.alloc _) hg9 (by simp; omega)))
          clear hg9 ha9 o9
          go_wp2_with fail
          go_roundw
          case rel =>
            exact ⟨k + 1, _, _, (q4 + 1 + 1), by omega, by go_num, by show _ = _; rw [List.length_append, HL.out]; rfl, HN9.out, drawnN.snoc HR6.out (by rw [HL.out]; exact HNE.out) HDX.out HRL.out, r9, by omega, k9⟩
          case measure => simp [intOf]; omega
        · skip
          have HDX : Hid (drawnR (netNs n) rs) := by have := HDR.out; rw [HNX2.out] at this; exact this
          have HU := Lib.hid o5
          have kW := kr.trans (c5.mono hsr)
          have HN8 := Lib.hid (HN.out.keepBlk (w' := w5) fun j h1 h2 => c5.block j h2 (by omega))
          have hcn := HNCk.out w5 kW
          have hnm := HNM.out
          have hswz := kW.size
          have hsr8 := c5.size
          have HRL : Hid (rs.length ≤ 6) := by show _ ≤ _; first | omega | (simp; omega)
          have HU8 : Hid (∀ j, (Value.slice A4 rs.length c4').ownBlock = some j → wr.heap.size ≤ j) := fun j hj => by have := (HU.out.blk j hj).1; have := hs3; omega
          go_wp2_with (at_builtin; go_loud (refine wpList_append1' (α := OfV) rfl (.tmp 41) (.tmp 48) 59 rfl w1.heap.size 102 j0 _ 40 Tryz.underlying59 ji jz0 jz1 jz2 rfl (by decide) (.slice A os.length c) os ⟨nm, .slice A4 rs.length c4'⟩ rfl (HN8.out.1.alloc _) ⟨w5.heap.size, 0, none⟩ 1 [.string nm, .slice A4 rs.length c4'] rfl ⟨rfl, hnm, rfl⟩ (news_at w5 _ [.string nm, .slice A4 rs.length c4']) (by unfold maxLen; omega) (by omega) (by simp; omega) ?_; intro gO cap w9 o9 hg9 ha9 hl9))
          have HB8 : Below w5.heap.size w5 (w5.alloc (Obj.cells #[.string nm, .slice A4 rs.length c4'] 102)) := (Below.refl _ _).alloc (Nat.le_refl _) _
          have HN9 := Lib.hid (isN.snoc (HN8.out.below HB8) ((HU.out.base_ (by omega)).alloc _) (apart_ne fun j h1 h2 => by have := HU8.out j h1; have := (HN.out.1.blk j h2).2; omega) (fun i hi => apart_ne fun j h1 h2 => by have := HU8.out j h1; have := ((HN.out.2.2.1 i hi (by have := HN.out.2.1; omega)).2.blk j h2).2; omega) o9 hg9 ha9)
          have r9 : rdr w9 g (q4 + 1) := (hr5.alloc _).append (HN8.out.1.alloc _) hg9 (by omega)
          have k9 : kept2 g w1.heap.size w1 w9 := (kW.trans (kept2.below ((Below.refl _ _).alloc hswz _))).trans (kept2.below (below_append (HN8.out.1.alloc _) hg9 (by simp; omega)))
          clear hg9 ha9 o9
          go_wp2_with fail
          go_roundw
          case rel =>
            exact ⟨k + 1, _, _, (q4 + 1), by omega, by go_num, by show _ = _; rw [List.length_append, HL.out]; rfl, HN9.out, drawnN.snoc HR6.out (by rw [HL.out]; exact HNE.out) HDX.out HRL.out, r9, by omega, k9⟩
          case measure => simp [intOf]; omega
      · skip
        have HDX : Hid (drawnR (netNs n) rs) := by have := HDR.out; rw [HNX2.out] at this; exact this
        have HU := Lib.hid o5
        have kW := kr.trans (c5.mono hsr)
        have HN8 := Lib.hid (HN.out.keepBlk (w' := w5) fun j h1 h2 => c5.block j h2 (by omega))
        have hcn := HNCk.out w5 kW
        have hnm := HNM.out
        have hswz := kW.size
        have hsr8 := c5.size
        have HRL : Hid (rs.length ≤ 6) := by show _ ≤ _; first | omega | (simp; omega)
        have HU8 : Hid (∀ j, (Value.slice A4 rs.length c4').ownBlock = some j → wr.heap.size ≤ j) := fun j hj => by have := (HU.out.blk j hj).1; have := hs3; omega
        go_wp2_with (at_builtin; go_loud (refine wpList_append1' (α := OfV) rfl (.tmp 41) (.tmp 48) 59 rfl w1.heap.size 102 j0 _ 40 Tryz.underlying59 ji jz0 jz1 jz2 rfl (by decide) (.slice A os.length c) os ⟨nm, .slice A4 rs.length c4'⟩ rfl (HN8.out.1.alloc _) ⟨w5.heap.size, 0, none⟩ 1 [.string nm, .slice A4 rs.length c4'] rfl ⟨rfl, hnm, rfl⟩ (news_at w5 _ [.string nm, .slice A4 rs.length c4']) (by unfold maxLen; omega) (by omega) (by simp; omega) ?_; intro gO cap w9 o9 hg9 ha9 hl9))
        have HB8 : Below w5.heap.size w5 (w5.alloc (Obj.cells #[.string nm, .slice A4 rs.length c4'] 102)) := (Below.refl _ _).alloc (Nat.le_refl _) _
        have HN9 := Lib.hid (isN.snoc (HN8.out.below HB8) ((HU.out.base_ (by omega)).alloc _) (apart_ne fun j h1 h2 => by have := HU8.out j h1; have := (HN.out.1.blk j h2).2; omega) (fun i hi => apart_ne fun j h1 h2 => by have := HU8.out j h1; have := ((HN.out.2.2.1 i hi (by have := HN.out.2.1; omega)).2.blk j h2).2; omega) o9 hg9 ha9)
        have r9 : rdr w9 g (q4 + 1) := (hr5.alloc _).append (HN8.out.1.alloc _) hg9 (by omega)
        have k9 : kept2 g w1.heap.size w1 w9 := (kW.trans (kept2.below ((Below.refl _ _).alloc hswz _))).trans (kept2.below (below_append (HN8.out.1.alloc _) hg9 (by simp; omega)))
        clear hg9 ha9 o9
        go_wp2_with fail
        go_roundw
        case rel =>
          exact ⟨k + 1, _, _, (q4 + 1), by omega, by go_num, by show _ = _; rw [List.length_append, HL.out]; rfl, HN9.out, drawnN.snoc HR6.out (by rw [HL.out]; exact HNE.out) HDX.out HRL.out, r9, by omega, k9⟩
        case measure => simp [intOf]; omega
    · have HKN := Lib.hid (show k = n by omega)
      go_wp2_with fail
      go_ret
      refine ⟨_, net, os, q, rfl, HN.out.base_ (by omega), by rw [HL.out]; have := HKN.out; omega, by rw [HL.out]; omega, fun j hj => (HR6.out j hj).2.2, by rw [HL.out, HKN.out]; exact HR6.out, hrq, by omega, kept2.back HGW.out kr (by omega)⟩

end Go.Proofs.YtpinkbodbedajaaGreatDoor

namespace Go.Proofs.YtpinkbodbedajaaGreatDoor
open Go.RowKit

def bl (s : ByteArray) : List UInt8 := s.data.toList
def dgb (d : Nat) : UInt8 := UInt8.ofNat (48 + d)
theorem bl_dgt (p : ByteArray) (d : Nat) : bl (dgt p d) = bl p ++ [dgb d] := by
  unfold dgt bl; rw [ByteArray.data_append, Array.toList_append]; rfl
theorem dgb_nat {d : Nat} (hd : d < 10) : (dgb d).toNat = 48 + d := by
  unfold dgb; rw [UInt8.toNat_ofNat']; omega
theorem dgb_inj {d e : Nat} (hd : d < 10) (he : e < 10) (h : dgb d = dgb e) : d = e := by
  have := congrArg UInt8.toNat h
  rw [dgb_nat hd, dgb_nat he] at this
  omega
theorem bl_inj {a b : ByteArray} (h : bl a = bl b) : a = b := ByteArray.ext (Array.toList_inj.1 h)
theorem bl_len (s : ByteArray) : (bl s).length = s.size := by simp [bl]
theorem faults_mem {net : List Ofc} {i f : Nat} {p q : ByteArray} (h : q ∈ faultsN net i (f + 1) p) :
    faultsN net i (f + 1) p = [p] ∧ q = p ∨ longN net p = true ∧ allN net i f p 10 = false ∧ faultsN net i (f + 1) p = catN net i f p 10 ∧ ∃ d, d < 10 ∧ q ∈ faultsN net i f (dgt p d) := by
  cases hl : longN net p
  · by_cases h2 : (route net (firstW p) i).2 = 0
    · rw [faults_home hl h2] at h; simp at h
    · rw [faults_bad hl h2] at h ⊢
      exact .inl ⟨rfl, by simpa using h⟩
  · rw [faults_long hl] at h ⊢
    cases ha : allN net i f p 10
    · rw [ha, if_neg (by simp)] at h
      unfold catN at h
      obtain ⟨l, hl, hq⟩ := List.mem_flatten.1 h
      obtain ⟨d, hd, rfl⟩ := List.mem_map.1 hl
      exact .inr ⟨rfl, rfl, by rw [if_neg (by simp)], d, by simpa using hd, hq⟩
    · rw [ha, if_pos rfl] at h
      exact .inl ⟨by rw [if_pos rfl], by simpa using h⟩
theorem faults_pre {net : List Ofc} {i : Nat} : ∀ {f : Nat} {p q : ByteArray}, q ∈ faultsN net i f p → bl p <+: bl q
  | 0, p, q, h => by simp [faultsN] at h
  | f + 1, p, q, h => by
    rcases faults_mem h with ⟨_, rfl⟩ | ⟨_, _, _, d, _, hq⟩
    · exact List.prefix_refl _
    · have := faults_pre hq
      rw [bl_dgt] at this
      exact (List.prefix_append _ _).trans this
theorem branch_eq {p : ByteArray} {d e : Nat} {l : List UInt8} (hd : d < 10) (he : e < 10) (h1 : bl (dgt p d) <+: l) (h2 : bl (dgt p e) <+: l) : d = e := by
  have h := List.prefix_of_prefix_length_le h1 h2 (by rw [bl_len, bl_len, dgt_size, dgt_size]; omega)
  have h := h.eq_of_length (by rw [bl_len, bl_len, dgt_size, dgt_size])
  rw [bl_dgt, bl_dgt] at h
  have h := List.append_cancel_left h
  exact dgb_inj hd he (by simpa using h)
theorem faults_self {net : List Ofc} {i f : Nat} {p : ByteArray} (h : p ∈ faultsN net i f p) : faultsN net i f p = [p] := by
  match f, h with
  | 0, h => simp [faultsN] at h
  | f + 1, h =>
    rcases faults_mem h with ⟨h, _⟩ | ⟨_, _, _, d, _, hq⟩
    · exact h
    · have := (faults_pre hq).length_le
      rw [bl_len, bl_len, dgt_size] at this
      omega
/-- None of them begins with another one. -/
theorem faults_apart {net : List Ofc} {i : Nat} : ∀ {f : Nat} {p x y : ByteArray}, x ∈ faultsN net i f p → y ∈ faultsN net i f p → bl x <+: bl y → x = y
  | 0, p, x, y, h, _, _ => by simp [faultsN] at h
  | f + 1, p, x, y, hx, hy, hxy => by
    rcases faults_mem hx with ⟨h, rfl⟩ | ⟨_, _, h, d, hd, hdx⟩
    · rw [h] at hy
      exact (by simpa using hy : y = x).symm
    · rcases faults_mem hy with ⟨h', rfl⟩ | ⟨_, _, _, e, he, hey⟩
      · rw [h'] at hx
        simpa using hx
      · obtain rfl := branch_eq hd he ((faults_pre hdx).trans hxy) (faults_pre hey)
        exact faults_apart hdx hey hxy
theorem less_pre : ∀ (l a b : List UInt8), Op.bytesLess (l ++ a) (l ++ b) = Op.bytesLess a b
  | [], _, _ => rfl
  | x :: l, a, b => by
    rw [List.cons_append, List.cons_append, Op.bytesLess, less_pre l]
    simp
theorem less_branch {p : ByteArray} {d e : Nat} {x y : List UInt8} (hde : d < e) (he : e < 10) (h1 : bl (dgt p d) <+: x) (h2 : bl (dgt p e) <+: y) : Op.bytesLess x y = true := by
  obtain ⟨z, rfl⟩ := h1
  obtain ⟨u, rfl⟩ := h2
  rw [bl_dgt, bl_dgt, List.append_assoc, List.append_assoc, less_pre]
  show Op.bytesLess (dgb d :: z) (dgb e :: u) = true
  rw [Op.bytesLess, Bool.or_eq_true]
  refine .inl (decide_eq_true ?_)
  rw [UInt8.lt_iff_toNat_lt, dgb_nat (by omega), dgb_nat he]
  omega
/-- They are in order. -/
theorem faults_sorted {net : List Ofc} {i : Nat} : ∀ (f : Nat) (p : ByteArray), (faultsN net i f p).Pairwise fun x y => Op.bytesLess (bl x) (bl y) = true
  | 0, p => by simp [faultsN]
  | f + 1, p => by
    cases hl : longN net p
    · by_cases h2 : (route net (firstW p) i).2 = 0
      · rw [faults_home hl h2]; simp
      · rw [faults_bad hl h2]; simp
    · rw [faults_long hl]
      split
      · simp
      · unfold catN
        rw [List.pairwise_flatten]
        refine ⟨fun l hl => ?_, ?_⟩
        · obtain ⟨d, _, rfl⟩ := List.mem_map.1 hl
          exact faults_sorted f _
        · rw [List.pairwise_map]
          refine (List.pairwise_lt_range (n := 10)).imp_of_mem fun {d e} hd he hde x hx y hy => ?_
          exact less_branch hde (by simpa using he) (faults_pre hx) (faults_pre hy)
/-- Not all ten that continue one prefix. -/
theorem faults_ten {net : List Ofc} {i : Nat} : ∀ (f : Nat) (p q : ByteArray), ¬ ∀ d, d < 10 → dgt q d ∈ faultsN net i f p
  | 0, p, q, h => by have := h 0 (by omega); simp [faultsN] at this
  | f + 1, p, q, h => by
    have h01 : ∀ r, faultsN net i (f + 1) p = [r] → False := fun r e => by
      have h0 := h 0 (by omega)
      have h1 := h 1 (by omega)
      rw [e] at h0 h1
      have h2 : dgt q 0 = dgt q 1 := (by simpa using h0 : dgt q 0 = r).trans (by simpa using h1 : dgt q 1 = r).symm
      have h3 := congrArg bl h2
      rw [bl_dgt, bl_dgt] at h3
      have := dgb_inj (d := 0) (e := 1) (by omega) (by omega) (by simpa using List.append_cancel_left h3)
      omega
    have hb : ∀ d, d < 10 → ∃ e, e < 10 ∧ dgt q d ∈ faultsN net i f (dgt p e) := fun d hd => by
      rcases faults_mem (h d hd) with ⟨h', _⟩ | ⟨_, _, _, e, he, hq⟩
      · exact (h01 _ h').elim
      · exact ⟨e, he, hq⟩
    have hall : allN net i f p 10 = false := by
      rcases faults_mem (h 0 (by omega)) with ⟨h', _⟩ | ⟨_, ha, _⟩
      · exact (h01 _ h').elim
      · exact ha
    by_cases hqp : q = p
    · subst hqp
      have : allN net i f q 10 = true := by
        unfold allN
        refine List.all_eq_true.2 fun d hd => ?_
        have hd : d < 10 := by simpa using hd
        obtain ⟨e, he, hq⟩ := hb d hd
        obtain rfl := branch_eq he hd (faults_pre hq) (List.prefix_refl _)
        rw [faults_self hq]
        exact sEq_refl _
      rw [hall] at this
      cases this
    · obtain ⟨e, he, h0⟩ := hb 0 (by omega)
      have hpq : bl (dgt p e) <+: bl q := by
        have h1 := faults_pre h0
        have hs := h1.length_le
        rw [bl_len, bl_len, dgt_size, dgt_size] at hs
        by_cases hlt : p.size + 1 ≤ q.size
        · refine List.prefix_of_prefix_length_le h1 ?_ (by rw [bl_len, bl_len, dgt_size]; exact hlt)
          rw [bl_dgt]
          exact List.prefix_append _ _
        · exfalso
          have h2 : bl p <+: bl (dgt q 0) := by
            rw [bl_dgt] at h1
            exact (List.prefix_append _ _).trans h1
          rw [bl_dgt] at h2
          have h3 := List.prefix_of_prefix_length_le h2 (List.prefix_append (bl q) [dgb 0]) (by rw [bl_len, bl_len]; omega)
          exact hqp (bl_inj (h3.eq_of_length (by rw [bl_len, bl_len]; omega))).symm
      refine faults_ten (net := net) (i := i) f (dgt p e) q fun d hd => ?_
      obtain ⟨e', he', hq⟩ := hb d hd
      obtain rfl := branch_eq he he' (hpq.trans (by rw [bl_dgt]; exact List.prefix_append _ _)) (faults_pre hq)
      exact hq
/-- Digits alone. -/
theorem faults_digs {net : List Ofc} {i : Nat} : ∀ {f : Nat} {p q : ByteArray}, (∀ b ∈ bl p, ∃ d, d < 10 ∧ b = dgb d) → q ∈ faultsN net i f p → ∀ b ∈ bl q, ∃ d, d < 10 ∧ b = dgb d
  | 0, p, q, _, h => by simp [faultsN] at h
  | f + 1, p, q, hp, h => by
    rcases faults_mem h with ⟨_, rfl⟩ | ⟨_, _, _, d, hd, hq⟩
    · exact hp
    · refine faults_digs (fun b hb => ?_) hq
      rw [bl_dgt] at hb
      rcases List.mem_append.1 hb with hb | hb
      · exact hp b hb
      · exact ⟨d, hd, by simpa using hb⟩
theorem faults_nodup (net : List Ofc) (i f : Nat) (p : ByteArray) : (faultsN net i f p).Nodup := by
  refine (faults_sorted f p).imp fun {x y} h e => ?_
  subst e
  have : ∀ l, Op.bytesLess l l = false := fun l => by
    have := less_pre l [] []
    rw [List.append_nil] at this
    rw [this]; rfl
  rw [this] at h
  cases h
/-- Those of one length that continue q are not ten. -/
def sibB (q : ByteArray) (y : ByteArray) : Bool := decide (y.size = q.size + 1) && pre y q
theorem faults_sibs (net : List Ofc) (i f : Nat) (q : ByteArray) : (faultsN net i f ⟨#[]⟩).countP (sibB q) ≠ 10 := by
  intro h
  obtain ⟨L, hL⟩ : ∃ L, L = (faultsN net i f ⟨#[]⟩).filter (sibB q) := ⟨_, rfl⟩
  have hlen : L.length = 10 := by rw [hL, ← List.countP_eq_length_filter]; exact h
  have hnd : L.Nodup := by rw [hL]; exact (faults_nodup net i f _).filter _
  have hform : ∀ y ∈ L, ∃ d, d < 10 ∧ y = dgt q d ∧ y ∈ faultsN net i f ⟨#[]⟩ := fun y hy => by
    rw [hL] at hy
    obtain ⟨h1, h2⟩ := List.mem_filter.1 hy
    unfold sibB at h2
    rw [Bool.and_eq_true, decide_eq_true_iff, pre_iff] at h2
    obtain ⟨⟨hs, z, hz⟩⟩ := And.intro h2 trivial
    have hz : bl q ++ z = bl y := hz
    have hzl : z.length = 1 := by
      have := congrArg List.length hz
      rw [List.length_append, bl_len, bl_len] at this
      omega
    obtain ⟨b, rfl⟩ : ∃ b, z = [b] := by
      match z, hzl with
      | [b], _ => exact ⟨b, rfl⟩
    obtain ⟨d, hd, rfl⟩ := faults_digs (p := ⟨#[]⟩) (fun b hb => by simp [bl] at hb) h1 b (by rw [← hz]; simp)
    exact ⟨d, hd, bl_inj (by rw [bl_dgt, hz]), h1⟩
  have key : ∀ d, d < 10 → dgt q d ∈ L := fun d hd => by
    obtain ⟨M, hM⟩ : ∃ M : List Nat, M = L.map fun y => ((bl y)[q.size]?.map UInt8.toNat).getD 0 - 48 := ⟨_, rfl⟩
    have hval : ∀ d, d < 10 → ((bl (dgt q d))[q.size]?.map UInt8.toNat).getD 0 - 48 = d := fun d hd => by
      rw [bl_dgt, ← bl_len, List.getElem?_append_right (Nat.le_refl _), Nat.sub_self]
      show (dgb d).toNat - 48 = d
      rw [dgb_nat hd]; omega
    have hMn : M.Nodup := by
      rw [hM]
      unfold List.Nodup
      rw [List.pairwise_map]
      refine List.Pairwise.imp_of_mem (fun {x y} hx hy hxy e => ?_) hnd
      obtain ⟨d, hd, rfl, _⟩ := hform x hx
      obtain ⟨e', he, rfl, _⟩ := hform y hy
      rw [hval d hd, hval e' he] at e
      exact hxy (by rw [e])
    have hMb : ∀ x ∈ M, x < 10 := fun x hx => by
      rw [hM] at hx
      obtain ⟨y, hy, rfl⟩ := List.mem_map.1 hx
      obtain ⟨d, hd, rfl, _⟩ := hform y hy
      rw [hval d hd]; exact hd
    have := nodup_full hMn hMb hd (by rw [hM, List.length_map]; omega)
    rw [hM] at this
    obtain ⟨y, hy, e⟩ := List.mem_map.1 this
    obtain ⟨d', hd', rfl, _⟩ := hform y hy
    rw [hval d' hd'] at e
    rw [← e]; exact hy
  exact faults_ten f ⟨#[]⟩ q fun d hd => (hform _ (key d hd)).elim fun _ h => h.2.2
/-! ### Who comes home -/
theorem pre_on {c p s : ByteArray} (hp : bl p <+: bl c) (h : (decide (p.size < s.size) && pre s p) = false) : pre c s = pre p s := by
  rw [Bool.eq_iff_iff, pre_iff, pre_iff]
  have hl : ∀ s : ByteArray, s.data.toList.length = s.size := fun s => by simp
  constructor
  · intro h1
    by_cases hlt : p.size < s.size
    · have h2 : p.data.toList <+: s.data.toList := List.prefix_of_prefix_length_le hp h1 (by rw [hl, hl]; omega)
      rw [decide_eq_true hlt, pre_iff.2 h2] at h
      cases h
    · exact List.prefix_of_prefix_length_le h1 hp (by rw [hl, hl]; omega)
  · intro h1
    exact h1.trans hp
theorem best_on {rs : List Fwd} {c p : ByteArray} (hp : bl p <+: bl c) (h : rs.any (longR p) = false) : ∀ k, bestN rs c k = bestN rs p k
  | 0 => rfl
  | k + 1 => by
    show bestStep _ _ _ _ = bestStep _ _ _ _
    rw [best_on hp h k]
    unfold bestStep
    cases hx : rs[k]? with
    | none => rfl
    | some x =>
      have hm := List.mem_of_getElem? hx
      have h1 : longR p x = false := by simpa using List.any_eq_false.1 h x hm
      dsimp only
      rw [pre_on hp h1]
theorem next_on {rs : List Fwd} {c p : ByteArray} (hp : bl p <+: bl c) (h : rs.any (longR p) = false) : bestI rs c = bestI rs p ∧ nextS rs c = nextS rs p := by
  have h1 : bestI rs c = bestI rs p := best_on hp h _
  refine ⟨h1, ?_⟩
  unfold nextS
  rw [h1]
theorem hop_on {net : List Ofc} {c p : ByteArray} (hp : bl p <+: bl c) (h : longN net p = false) (i : Nat) : hop net c i = hop net p i := by
  unfold hop
  cases hx : net[i]? with
  | none => rfl
  | some o =>
    have hm := List.mem_of_getElem? hx
    have h1 : o.rules.any (longR p) = false := by
      have := List.any_eq_false.1 h o hm
      simpa [longO] using this
    obtain ⟨e1, e2⟩ := next_on hp h1
    dsimp only
    rw [e1, e2]
theorem routeN_on {net : List Ofc} {c p : ByteArray} (hp : bl p <+: bl c) (h : longN net p = false) : ∀ (f : Nat) (q : List Nat) (i : Nat), routeN net c f q i = routeN net p f q i
  | 0, _, _ => rfl
  | f + 1, q, i => by
    rw [routeN, routeN, hop_on hp h, routeN_on hp h f]
theorem faults_code {net : List Ofc} (hk : netOk net = true) {i : Nat} {c : ByteArray} (hc : isCode c = true) : ∀ (f : Nat) (p : ByteArray), p.size + f = 8 → 1 ≤ f → bl p <+: bl c →
    ((faultsN net i f p).any (fun x => pre c x) = true ↔ (route net c i).2 ≠ 0)
  | 0, _, _, h, _ => by omega
  | f + 1, p, hs, _, hp => by
    cases hl : longN net p
    · have e : route net c i = route net (firstW p) i := by rw [route_first hl]; exact routeN_on hp hl _ _ _
      by_cases h2 : (route net (firstW p) i).2 = 0
      · rw [faults_home hl h2, e]; simp [h2]
      · rw [faults_bad hl h2, e]
        simp only [List.any_cons, List.any_nil, Bool.or_false]
        exact ⟨fun _ => h2, fun _ => pre_iff.2 hp⟩
    · have hp6 := long_size hk hl
      unfold isCode at hc
      rw [Bool.and_eq_true, beq_iff_eq] at hc
      obtain ⟨hc7, hcd⟩ := hc
      obtain ⟨d, hd, hpd⟩ : ∃ d, d < 10 ∧ bl (dgt p d) <+: bl c := by
        obtain ⟨z, hz⟩ := hp
        have hzl : 0 < z.length := by
          have := congrArg List.length hz
          rw [List.length_append, bl_len, bl_len] at this
          omega
        match z, hzl with
        | b :: z, _ =>
          have hb : dig b = true := by
            unfold digs at hcd
            refine List.all_eq_true.1 hcd b ?_
            show b ∈ bl c
            rw [← hz]; simp
          unfold dig at hb
          rw [Bool.and_eq_true, decide_eq_true_iff, decide_eq_true_iff] at hb
          refine ⟨b.toNat - 48, by omega, ⟨z, ?_⟩⟩
          rw [bl_dgt, ← hz, List.append_assoc]
          congr 1
          show dgb _ :: z = b :: z
          congr 1
          apply UInt8.toNat_inj.1
          rw [dgb_nat (by omega)]; omega
      have hc : isCode c = true := by unfold isCode; rw [hcd, hc7]; rfl
      have ih := faults_code hk (i := i) hc f (dgt p d) (by rw [dgt_size]; omega) (by omega) hpd
      rw [faults_long hl, ← ih]
      split
      · rename_i hall
        unfold allN at hall
        have h1 := List.all_eq_true.1 hall d (by simpa using hd)
        simp only [List.any_cons, List.any_nil, Bool.or_false]
        refine ⟨fun _ => ?_, fun _ => pre_iff.2 hp⟩
        obtain ⟨q, hq, hqe⟩ : ∃ q, faultsN net i f (dgt p d) = [q] ∧ q = dgt p d := by
          match hx : faultsN net i f (dgt p d), h1 with
          | [q], h1 => exact ⟨q, rfl, sEq_iff.1 h1⟩
          | [], h1 => cases h1
          | _ :: _ :: _, h1 => cases h1
        rw [hq, hqe]
        simp only [List.any_cons, List.any_nil, Bool.or_false]
        exact pre_iff.2 hpd
      · unfold catN
        rw [List.any_eq_true, List.any_eq_true]
        constructor
        · rintro ⟨x, hx, hpx⟩
          obtain ⟨l, hl, hq⟩ := List.mem_flatten.1 hx
          obtain ⟨e, he, rfl⟩ := List.mem_map.1 hl
          obtain rfl := branch_eq hd (by simpa using he) hpd ((faults_pre hq).trans (pre_iff.1 hpx))
          exact ⟨x, hq, hpx⟩
        · rintro ⟨x, hx, hpx⟩
          exact ⟨x, List.mem_flatten.2 ⟨_, List.mem_map.2 ⟨d, by simpa using hd, rfl⟩, hx⟩, hpx⟩
theorem fp_code {net : List Ofc} {s c : ByteArray} {q : Nat} (hk : netOk net = true) (hq : offI net s = q) (hc : isCode c = true) : (fpS net s).any (fun x => pre c x) = !decide ((route net c q).2 = 0) := by
  have h : fpS net s = faultsN net q 8 ⟨#[]⟩ := by
    unfold fpS
    rw [hk, hq, decide_eq_true (by omega), Int.toNat_natCast]
    rfl
  have := faults_code hk (i := q) hc 8 ⟨#[]⟩ rfl (by omega) ⟨_, rfl⟩
  rw [h, Bool.eq_iff_iff, this]
  simp

end Go.Proofs.YtpinkbodbedajaaGreatDoor

namespace Go.Proofs.YtpinkbodbedajaaGreatDoor
open Go.RowKit

set_option maxHeartbeats 400000 in
theorem so_texts (v v' : Value) (xs ys : List ByteArray) (w : World) (hv : rd w w.heap.size v xs) (hv' : rd w w.heap.size v' ys) :
    Calls Tryz.prog 30 #[v, v'] w fun e w' => e = .returned (.bool (eqBy sEq xs ys)) ∧ Below w.heap.size w w' := by
  obtain ⟨A, n, c, rfl, hn, hc, hm, hr⟩ := hv
  obtain ⟨A', n', c', rfl, hn', hc', hm', hr'⟩ := hv'
  subst hn hn'
  unfold maxLen at hm hm'
  have HR := Lib.hid hr; clear hr
  have HR' := Lib.hid hr'; clear hr'
  go_enter Tryz.func30, Tryz.ntmps30
  by_cases hl : xs.length = ys.length
  · have hl1 : ((xs.length : Int) != (ys.length : Int)) = false := by simp [hl]
    have HL := Lib.hid hl; clear hl
    go_wp2
    go_loopw [5] (fun i wr => ∃ k : Nat, k ≤ xs.length ∧ i = .int .i64 k ∧ Below w.heap.size w wr ∧ Hid (∀ j (h1 : j < xs.length) (h2 : j < ys.length), j < k → sEq xs[j] ys[j] = true)) (fun i _ => xs.length - (intOf i).toNat)
    case atStart => exact ⟨0, Nat.zero_le _, rfl, Below.refl _ _, fun j _ _ hj => absurd hj (Nat.not_lt_zero j)⟩
    case round =>
      obtain ⟨k, hk, rfl, hbl, HG⟩ := hrel
      obtain ⟨w1, rfl⟩ : ∃ w1 : World, w1 = wr := ⟨_, rfl⟩
      by_cases hlt : k < xs.length
      · have hlt' : k < ys.length := by rw [← HL.out]; exact hlt
        obtain ⟨b, o, rfl, hb, _, c1⟩ := HR.out.str k hlt
        obtain ⟨b', o', rfl, hb', _, d1⟩ := HR'.out.str k hlt'
        have hbad := Lib.hid (fun h => eqBy_bad (p := sEq) k hlt hlt' h)
        have HX : Hid (∀ h : sEq xs[k] ys[k] = true, ∀ j (h1 : j < xs.length) (h2 : j < ys.length), j < k + 1 → sEq xs[j] ys[j] = true) := fun h j h1 h2 hj => by
          by_cases hjk : j < k
          · exact HG.out j h1 h2 hjk
          · obtain rfl : j = k := by omega
            exact h
        generalize xs[k] = x at *
        generalize ys[k] = y at *
        have c1' : w1.cell? ⟨b, o + k, none⟩ = some (.string x) := (hbl.cell (p := ⟨b, o + k, none⟩) hb).trans c1
        have d1' : w1.cell? ⟨b', o' + k, none⟩ = some (.string y) := (hbl.cell (p := ⟨b', o' + k, none⟩) hb').trans d1
        clear c1 d1
        have hki : (k : Int) < (xs.length : Int) := by omega
        have hki' : (k : Int) < (ys.length : Int) := by omega
        cases he : sEq x y
        · have he' := Lib.hid he
          have hq : (x.toList == y.toList) = false := he
          clear he
          go_wp2
          go_quiet (fail)
          go_wp2
          go_ret
          exact ⟨ret_bool (hbad.out he'.out).symm, below_drewN hbl _⟩
        · have he' := Lib.hid he
          have hq : (x.toList == y.toList) = true := he
          clear he
          go_wp2
          go_quiet (fail)
          go_wp2
          go_roundw
          case rel => exact ⟨k + 1, by omega, by go_num, below_drewN hbl _, HX.out he'.out⟩
          case measure => simp [intOf]; omega
      · have HE := Lib.hid (show k = xs.length by omega)
        go_wp2
        go_ret
        exact ⟨ret_bool (eqBy_good HL.out fun j h1 h2 => HG.out j h1 h2 (by rw [HE.out]; exact h1)).symm, hbl⟩
  · have hl1 : ((xs.length : Int) != (ys.length : Int)) = true := by simp; omega
    have HL := Lib.hid hl; clear hl
    go_wp2
    go_ret
    exact ⟨ret_bool (eqBy_len HL.out).symm, Below.refl _ _⟩

/-! ### Paths -/
theorem route_end {net : List Ofc} (h : netOk net = true) {c : ByteArray} : ∀ (f : Nat) (p : List Nat) (i : Nat), onPath net f p i → 0 ≤ (routeN net c f p i).2 ∧ (routeN net c f p i).2 ≤ 2
  | 0, p, i, ho => by obtain ⟨g, hg⟩ := onPath_fuel ho; omega
  | f + 1, p, i, ho => by
    unfold routeN
    by_cases hm : i ∈ p
    · rw [if_pos hm]; exact ⟨by simp, by simp⟩
    rw [if_neg hm]
    split
    · exact ⟨by simp, by simp⟩
    · split
      · exact ⟨by simp, by simp⟩
      · rename_i h1 h2
        obtain ⟨j, hj, e, _⟩ := hop_nat h ho.2.2.1 h1 h2
        rw [e, Int.toNat_natCast]
        exact route_end h (c := c) f (p ++ [i]) j (onPath_step ho hm hj)
def pathOk (net : List Ofc) (s c : ByteArray) : Bool := netOk net && decide (0 ≤ offI net s) && isCode c
def pathR (net : List Ofc) (s c : ByteArray) : List Nat × Int := if pathOk net s c = true then route net c (offI net s).toNat else ([], 3)
theorem pathR_no {net : List Ofc} {s c : ByteArray} (h : pathOk net s c = false) : pathR net s c = ([], 3) := by unfold pathR; rw [h]; rfl
theorem pathR_yes {net : List Ofc} {s c : ByteArray} {q : Nat} (h : netOk net = true) (hq : offI net s = q) (hc : isCode c = true) : pathR net s c = route net c q := by
  unfold pathR pathOk
  rw [h, hq, hc, decide_eq_true (by omega), Int.toNat_natCast]; rfl
theorem pathR_len (net : List Ofc) (s c : ByteArray) : (pathR net s c).1.length ≤ 9 ∧ -1 ≤ (pathR net s c).2 ∧ (pathR net s c).2 ≤ 3 ∧ ((pathR net s c).2 ≠ 3 → 1 ≤ (pathR net s c).1.length) := by
  cases h : pathOk net s c
  · rw [pathR_no h]; exact ⟨by decide, by decide, by decide, fun h => absurd rfl h⟩
  · unfold pathOk at h
    simp only [Bool.and_eq_true, decide_eq_true_iff] at h
    obtain ⟨⟨h1, h2⟩, h3⟩ := h
    obtain ⟨q, hq⟩ := Int.eq_ofNat_of_zero_le h2
    obtain ⟨hql, _⟩ := offI_at hq
    rw [pathR_yes h1 hq h3]
    have e1 := route_len h1 (c := c) (net.length + 1) [] q (onPath_start hql)
    have e2 := route_end h1 (c := c) (net.length + 1) [] q (onPath_start hql)
    have e3 := (netOk_iff.1 h1).1
    simp only [List.length_nil] at e1
    show (routeN _ _ _ _ _).1.length ≤ 9 ∧ -1 ≤ (routeN _ _ _ _ _).2 ∧ (routeN _ _ _ _ _).2 ≤ 3 ∧ ((routeN _ _ _ _ _).2 ≠ 3 → 1 ≤ (routeN _ _ _ _ _).1.length)
    omega
theorem pathR_broken {net : List Ofc} {s c : ByteArray} : (pathR net s c).2 = 3 ↔ pathOk net s c = false := by
  constructor
  · intro h
    cases hp : pathOk net s c
    · rfl
    · exfalso
      have hp' := hp
      unfold pathOk at hp
      simp only [Bool.and_eq_true, decide_eq_true_iff] at hp
      obtain ⟨⟨h1, h2⟩, h3⟩ := hp
      obtain ⟨q, hq⟩ := Int.eq_ofNat_of_zero_le h2
      obtain ⟨hql, _⟩ := offI_at hq
      rw [pathR_yes h1 hq h3] at h
      have e2 := route_end h1 (c := c) (net.length + 1) [] q (onPath_start hql)
      have : (routeN net c (net.length + 1) [] q).2 = 3 := h
      omega
  · intro h; rw [pathR_no h]

set_option maxRecDepth 100000 in
set_option maxHeartbeats 1600000 in
theorem impl_RoutePath (v : Value) (net : List Ofc) (s c : ByteArray) (w : World) (hv : rd w w.heap.size v net) (hcz : c.size ≤ maxLen) :
    Calls Tryz.prog 28 #[v, .string s, .string c] w fun e w' => ∃ v', e = .returned (.tuple #[v', .int .i64 (pathR net s c).2]) ∧ own 9 w.heap.size w' v' ((pathR net s c).1.map (nameAt net)) ∧ Below w.heap.size w w' := by
  have HV := Lib.hid hv
  obtain ⟨A, n0, c0, rfl, hn0, hc0, hm0, hr0⟩ := hv
  subst hn0
  unfold maxLen at hm0
  have HR := Lib.hid hr0; clear hr0
  have l0 := Below.refl w.heap.size w
  obtain ⟨i0, hi, hz0, hz1, hz2⟩ := info_parts Tryz.infoStr
  have HNO : Hid (pathOk net s c = false → pathR net s c = ([], 3)) := fun h => pathR_no h
  have HQ : Hid (pathOk net s c = (netOk net && decide (0 ≤ offI net s) && isCode c)) := rfl
  obtain ⟨r, hr⟩ : ∃ r, offI net s = r := ⟨_, rfl⟩
  rw [hr] at HQ
  have HRR := Lib.hid hr; clear hr
  go_enter Tryz.func28, Tryz.ntmps28
  go_wp2_with fail
  refine (impl_officeOf _ net s _ (HV.out.on l0)).mono ?_
  rw [HRR.out]
  rintro e w1 ⟨rfl, b⟩
  have l1 := later_trans l0 b
  clear b
  go_wp2_with fail
  refine (impl_NetworkValid _ net _ (HV.out.on l1)).mono ?_
  rintro e w2 ⟨rfl, b⟩
  have l2 := later_trans l1 b
  clear b
  cases h1 : netOk net
  · have HF := Lib.hid (HNO.out (by rw [HQ.out, h1]; rfl))
    clear h1
    go_wp2_with fail
    go_ret2
    rw [HF.out]
    exact ⟨_, rfl, own.nil_ _ _ _, l2⟩
  have H1 := Lib.hid h1; clear h1
  by_cases hr0 : r < 0
  · have HF := Lib.hid (HNO.out (by rw [HQ.out, decide_eq_false (by omega)]; simp))
    go_wp2_with fail
    go_ret2
    rw [HF.out]
    exact ⟨_, rfl, own.nil_ _ _ _, l2⟩
  obtain ⟨q, hq⟩ := Int.eq_ofNat_of_zero_le (show 0 ≤ r by omega)
  subst hq
  obtain ⟨hql, hqn⟩ := offI_at HRR.out
  clear hqn hr0
  go_wp2_with fail
  refine (impl_CodeValid c _ hcz).mono ?_
  rintro e w3 ⟨rfl, rfl⟩
  cases h2 : isCode c
  · have HF := Lib.hid (HNO.out (by rw [HQ.out, h2]; simp))
    clear h2
    go_wp2_with fail
    go_ret2
    rw [HF.out]
    exact ⟨_, rfl, own.nil_ _ _ _, l2⟩
  have HF := Lib.hid (pathR_yes H1.out HRR.out h2)
  clear h2
  go_wp2_with fail
  refine (impl_routeOf _ net q c _ (HV.out.on l2) H1.out hql hcz).mono ?_
  have hlen := route_len H1.out (c := c) (net.length + 1) [] q (onPath_start hql)
  have hn8 := (netOk_iff.1 H1.out).1
  have hrr : route net c q = routeN net c (net.length + 1) [] q := rfl
  rw [← hrr] at hlen
  clear hrr
  obtain ⟨hlen1, hlen2, hlen3⟩ := hlen
  have HIN := Lib.hid hlen3; clear hlen3
  generalize route net c q = R at *
  simp only [List.length_nil] at hlen1
  rintro e w5 ⟨v5, rfl, o5, b5⟩
  have l5 := later_trans l2 b5
  clear b5 l2
  rcases o5.form with ⟨_, h0⟩ | ⟨g5, c5, rfl, hg5, hgl5, hc5, hm5⟩
  · have := congrArg List.length h0
    rw [ints_len] at this
    simp at this
    rw [this] at hlen1; simp at hlen1
  rw [ints_len] at *
  have HPC := Lib.hid (own_int1 o5)
  clear o5
  unfold maxLen at hm5
  have hlR : R.1.length ≤ 9 := by omega
  obtain ⟨z, hz⟩ : ∃ z, R.1.length = z := ⟨_, rfl⟩
  have hmk := make_row (P := Tryz.prog) 23 9 i0 _ Tryz.underlying23 hi hz0 z (by rw [hz2]; omega) (by omega)
  have HZ := Lib.hid hz
  rw [hz] at hlen1 hlen2 hlR hc5 ⊢
  clear hz
  go_wp2_with fail
  have hf0 : filled 9 (w5.alloc (Obj.cells (madeCells #[.string ⟨#[]⟩] z) 9)) w5.heap.size z 0 (R.1.map (nameAt net)) := filled.made w5 _ _ _ (by rw [size_madeCells]; exact (Nat.mul_one _).symm) _
  have hb0 : Below w5.heap.size w5 (w5.alloc (Obj.cells (madeCells #[.string ⟨#[]⟩] z) 9)) := (Below.refl _ _).alloc (Nat.le_refl _) _
  generalize w5.alloc (Obj.cells (madeCells #[.string ⟨#[]⟩] z) 9) = w0 at *
  clear hmk
  have hs5 := l5.size
  go_loopw [41] (fun i wr => ∃ k : Nat, k ≤ z ∧ i = .int .i64 k ∧ Below w5.heap.size w5 wr ∧ filled 9 wr w5.heap.size z k (R.1.map (nameAt net))) (fun i _ => z - (intOf i).toNat)
  case atStart => exact ⟨0, Nat.zero_le _, rfl, hb0, hf0⟩
  case round =>
    obtain ⟨k, hk, rfl, hbl, hf⟩ := hrel
    obtain ⟨w6, rfl⟩ : ∃ w6 : World, w6 = wr := ⟨_, rfl⟩
    clear hf0 hb0
    by_cases hlt : k < z
    · have hkR : k < R.1.length := by rw [HZ.out]; exact hlt
      have hjn := HIN.out R.1[k] (List.getElem_mem hkR)
      have cP := HPC.out k (by rw [ints_len]; exact hkR) w6 hbl
      rw [show (ints R.1)[k]'(by rw [ints_len]; exact hkR) = ((R.1[k] : Nat) : Int) by simp [ints]] at cP
      have hLk : (R.1.map (nameAt net))[k]'(by simpa using hkR) = nameAt net R.1[k] := by simp
      have HLN : Hid ((R.1.map (nameAt net)).length = z) := by show _ = _; rw [List.length_map, HZ.out]
      obtain ⟨bo, oo, A', c', rfl, hbo, hnm, _, c1, _⟩ := HR.out.ofcU R.1[k] hjn
      have c1 := c1 w6 (later_trans l5 hbl)
      have HST := Lib.hid (fun (W : World) (hF : filled 9 W w5.heap.size z k (R.1.map (nameAt net))) => hF.step (by rw [HLN.out]; exact hlt) (by rw [HLN.out]; exact Nat.le_refl _) (ecs := [.string net[R.1[k]].name]) (by rw [hLk, nameAt_of hjn]; exact ⟨hnm, rfl⟩))
      clear hLk
      generalize net[R.1[k]].name = x at *
      generalize R.1[k] = j at *
      obtain ⟨u0, g0⟩ := hf.cell (j := k) (by show _ < _ * 1; omega)
      have f0 := hf.free k
      have HFL := Lib.hid hf; clear hf
      have hji : (j : Int) < (net.length : Int) := by omega
      have hji0 : (0 : Int) ≤ (j : Int) := by omega
      go_wp2
      go_roundw
      case rel =>
        have := HST.out w6 HFL.out
        rw [show k * El.size ByteArray = k from Nat.mul_one k] at this
        exact ⟨k + 1, by omega, by go_num, hbl.trans (setAll_below [.string x] w6 k _ (Nat.le_refl _)), this⟩
      case measure => simp [intOf]; omega
    · have HE := Lib.hid (show k = z by omega)
      have HFL := Lib.hid hf; clear hf
      have HLN : Hid ((R.1.map (nameAt net)).length = z) := by show _ = _; rw [List.length_map, HZ.out]
      go_wp2
      go_ret2
      rw [HF.out]
      exact ⟨_, rfl, ((HE.out ▸ HFL.out : filled _ _ _ _ z _).own HLN.out.symm (Nat.le_refl _) (by unfold maxLen; omega)).base_ hs5, later_trans l5 hbl⟩



end Go.Proofs.YtpinkbodbedajaaGreatDoor
