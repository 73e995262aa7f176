/- NC NX -/
import Derived.Test.YtmangjjaijhcnaaQ51
import Derived.Test.YtmangjjaijhcnaaQ39
namespace Go.Proofs.Ytmangjjaijhcnaa
open Go.RowKit

/-- A network that was drawn: of the call's own, or nothing. -/
def drN (T1 T2 b0 : Nat) (w : World) (v : Value) (net : List Ofc) : Prop := (∃ os, isN T1 T2 b0 w v net os) ∨ (net = [] ∧ ∃ A c, v = .slice A 0 c ∧ c ≤ maxLen)
section
variable {T1 T2 b0 : Nat} {w w' : World} {v : Value} {net : List Ofc}
theorem drN.rd (h : drN T1 T2 b0 w v net) : rd w w.heap.size v net := by
  rcases h with ⟨os, h⟩ | ⟨rfl, A, c, rfl, hc⟩
  · exact h.rd
  · exact ⟨A, 0, c, rfl, rfl, Nat.zero_le _, hc, fun k h => absurd h (Nat.not_lt_zero k)⟩
theorem drN.keepBlk (h : drN T1 T2 b0 w v net) (hk : ∀ k, b0 ≤ k → k < w.heap.size → w'.heap[k]? = w.heap[k]?) : drN T1 T2 b0 w' v net := by
  rcases h with ⟨os, h⟩ | h
  · exact .inl ⟨os, h.keepBlk hk⟩
  · exact .inr h
theorem drN.grown {g : Nat} (h : drN T1 T2 b0 w v net) (hg : w.grownBy w' (some g)) (hlt : g < b0) : drN T1 T2 b0 w' v net :=
  h.keepBlk fun k h1 h2 => hg.block k h2 (fun e => by injection e; omega)
theorem drN.below (h : drN T1 T2 b0 w v net) (hb : Below w.heap.size w w') : drN T1 T2 b0 w' v net := h.keepBlk fun k _ h2 => hb.block k h2
theorem drN.base_ {b1 : Nat} (h : drN T1 T2 b0 w v net) (hb : b1 ≤ b0) : drN T1 T2 b1 w v net := by
  rcases h with ⟨os, h⟩ | h
  · exact .inl ⟨os, h.base_ hb⟩
  · exact .inr h
end
theorem kept2.toBelow {g b a : Nat} {u w : World} (h : kept2 g b u w) (h1 : a ≤ g) (h2 : a ≤ b) : Below a u w := ⟨h.os, h.tape, h.output, h.size, fun k hk => h.block k (by omega) (by omega)⟩

def l6BadNPost (T1 T2 g p b0 : Nat) (w : World) (e : Ending) (w' : World) : Prop :=
  ∃ (v' : Value) (net' : List Ofc) (p' : Nat), e = .returned v' ∧ drN T1 T2 b0 w' v' net' ∧ net'.length ≤ 4 ∧ (∀ k (h : k < net'.length), net'[k].rules.length ≤ 40) ∧ rdr w' g p' ∧ p' ≤ p + 12 ∧ kept2 g b0 w w'

set_option maxRecDepth 100000 in
set_option maxHeartbeats 2000000 in
theorem rd_l6Bad (g p b0 : Nat) (v : Value) (net : List Ofc) (os : List OfV) (w : World) (hr : rdr w g p) (hp : p ≤ 10000000000) (hv : isN 65 67 b0 w v net os) (hb0 : g < b0) (h2 : 2 ≤ net.length) (h4 : net.length ≤ 4) (h6 : ∀ k (h : k < net.length), net[k].rules.length ≤ 6) :
    Calls Try.prog 122 #[.pointer (some ⟨g, 0, none⟩), v] w (l6BadNPost 65 67 g p b0 w) := by
  have hlt := hr.lt
  obtain ⟨i0, hi, hz0, hzz1, hzz2⟩ := info_parts Try.infoRul
  rcases hv.form with ⟨_, h0⟩ | ⟨G, c, rfl, hG, hGl, hc, hm⟩
  · rw [h0] at h2; simp at h2
  have hon : os.length = net.length := hv.2.1
  unfold maxLen at hm
  have H6 := Lib.hid h6; clear h6
  have HV := Lib.hid hv; clear hv
  have hbw : b0 ≤ w.heap.size := by omega
  go_enter Try.func122, Try.ntmps122
  go_wp2_with fail
  refine (rd_pick g p net.length _ hr (by omega) (by unfold isI64; omega)).mono ?_
  rintro e w1 ⟨y, rfl, hy, hr1, hg1⟩
  obtain ⟨y0, y1⟩ := hy.2 (by omega)
  obtain ⟨k, rfl⟩ := Int.eq_ofNat_of_zero_le y0
  have k1 : kept2 g b0 w w1 := kept2.grown hg1 hbw
  have HV1 := Lib.hid (HV.out.keepBlk (w' := w1) fun j h1 h2 => hg1.block j h2 (fun e => by injection e; omega))
  have hz1 := hg1.size
  clear hy hg1
  go_wp2_with fail
  refine (rd_pick g (p + 1) 30 _ hr1 (by omega) (by unfold isI64; omega)).mono ?_
  rintro e w2 ⟨x, rfl, hx, hr2, hg2⟩
  have k2 := k1.step hg2 hbw
  have HV2 := Lib.hid (HV1.out.keepBlk (w' := w2) fun j h1 h2 => hg2.block j h2 (fun e => by injection e; omega))
  have hz2 := hg2.size
  have hlt2 := hr2.lt
  clear hx hg2 hr1 k1
  have hkl : k < net.length := by omega
  have hko : k < os.length := by omega
  have h6' : Hid (∀ j (h : j < net.length), net[j].rules.length ≤ 40) := fun j h => Nat.le_trans (H6.out j h) (by omega)
  by_cases c0 : x = 0
  · have d0 : (x == 0) = true := by simp [c0]
    clear c0
    go_wp2_with fail
    refine (rd_of 9 g (p + 1 + 1) _ [⟨#[]⟩, ⟨#[65]⟩, ⟨#[104, 101, 114, 101]⟩, ⟨#[97]⟩, ⟨#[122]⟩] _ (hr2.alloc _) (by omega) (list_str 9 (g + 1) w2 [⟨#[]⟩, ⟨#[65]⟩, ⟨#[104, 101, 114, 101]⟩, ⟨#[97]⟩, ⟨#[122]⟩] (by intro x hx; simp at hx; rcases hx with rfl | rfl | rfl | rfl | rfl <;> decide) (by decide) (by omega)) (by decide)).mono ?_
    rintro e w3 ⟨t, _, rfl, ht, hr3, hg3⟩
    replace hg3 := grown_trans (World.grownBy_alloc w2 _ _) hg3
    have HV3 := Lib.hid (HV2.out.keepBlk (w' := w3) fun j h1 h2 => hg3.block j h2 (fun e => by injection e; omega))
    obtain ⟨u1, g1⟩ := HV3.out.1.cellAt (j := k * 2) (by show _ < _ * 2; omega)
    have f1 := HV3.out.1.freeAt (k * 2)
    have HN := Lib.hid (HV3.out.setName (d := k) hko hkl ht)
    have HR : Hid (rdr (w3.setCell ⟨G, k * 2, none⟩ (.string t)) g (p + 1 + 1 + 1)) := hr3.grown (g' := G) (grown_setCell (World.grownBy.refl _ _) (.inl rfl) _) (by omega)
    have HB : Hid (kept2 g b0 w (w3.setCell ⟨G, k * 2, none⟩ (.string t))) := (k2.step hg3 hbw).trans (kept2.below ((Below.refl _ _).setCell (p := ⟨G, k * 2, none⟩) hG _))
    clear hg3 ht
    go_wp2_with fail
    go_ret
    refine ⟨_, _, _, rfl, .inl ⟨_, HN.out⟩, by simp; omega, fun j hj => ?_, HR.out, by omega, HB.out⟩
    rw [List.getElem_set]
    split
    · rename_i e; subst e; exact h6'.out k hkl
    · exact h6'.out j (by simpa using hj)
  have d0 : (x == 0) = false := by simp [c0]
  by_cases c1 : x = 1
  · have d1 : (x == 1) = true := by simp [c1]
    clear c1 c0
    obtain ⟨nm, hrow⟩ := HV2.out.2.2.1 k hko hkl
    obtain ⟨Ak, nk, ck, hvk, hnk, hck1, hck2, _⟩ := hrow.rd
    have hc1 := (own_ofv HV2.out.1 k hko).2.2
    rw [hvk] at hc1 hrow
    have hnk6 : nk ≤ 6 := by rw [hnk]; exact H6.out k hkl
    have HROW := Lib.hid hrow
    obtain ⟨ys, hys⟩ : ∃ ys, ys = net[k].rules := ⟨_, rfl⟩
    rw [← hys] at HROW hnk
    subst hnk
    have o1 : own 67 w2.heap.size (w2.alloc (Obj.cells #[.string ⟨#[57]⟩, .string ⟨#[122]⟩] 67)) (.slice (some ⟨w2.heap.size, 0, none⟩) 1 1) [(⟨⟨#[57]⟩, ⟨#[122]⟩⟩ : Fwd)] := own.made1 w2 67 [.string ⟨#[57]⟩, .string ⟨#[122]⟩] (⟨⟨#[57]⟩, ⟨#[122]⟩⟩ : Fwd) ⟨⟨by decide, by decide⟩, rfl⟩ (Nat.le_refl _)
    have HO1 := Lib.hid o1
    have hc1a : (w2.alloc (Obj.cells #[.string ⟨#[57]⟩, .string ⟨#[122]⟩] 67)).cell? ⟨G, k * 2 + 1, none⟩ = some (.slice Ak ys.length ck) := (World.cell?_alloc_lt w2 _ ⟨G, k * 2 + 1, none⟩ (by show G < w2.heap.size; omega)).trans hc1
    have hki : (0 : Int) ≤ (k : Int) := by omega
    have hkn : (k : Int) < (net.length : Int) := by omega
    clear o1 hrow nm hys
    go_wp2_with (at_builtin; refine wpList_appendAll (α := Fwd) rfl (.tmp 27) (.tmp 32) _ rfl w2.heap.size 67 i0 _ 32 Try.underlying63 hi hz0 hzz1 hzz2 rfl (by decide) (.slice (some ⟨w2.heap.size, 0, none⟩) 1 1) [(⟨⟨#[57]⟩, ⟨#[122]⟩⟩ : Fwd)] rfl HO1.out (.slice Ak ys.length ck) ys rfl _ (HROW.out.alloc _).rd (by unfold maxLen; simp; omega) (by simp; omega) (by simp) ?_; intro v5 w5 o5 g5 _)
    have c5 : kept2 g w2.heap.size w2 w5 := kept2.below (((Below.refl _ _).alloc (Nat.le_refl _) _).trans (below_append HO1.out g5 (by simp)))
    have hr5 : rdr w5 g (p + 1 + 1) := (hr2.alloc _).append HO1.out g5 hlt2
    clear g5
    go_wp2_with fail
    refine (rd_l6BadRules g (p + 1 + 1) w2.heap.size v5 _ w5 hr5 (by omega) o5 hlt2 (by simp; omega)).mono ?_
    rintro e w6 ⟨v6, zs, p6, rfl, o6, hl6, hr6, hp6, k6⟩
    have c6 := c5.trans k6
    have hz6 := c6.size
    have HV6 := Lib.hid (HV2.out.keepBlk (w' := w6) fun j h1 h2 => c6.block j h2 (by omega))
    obtain ⟨A6, n6, c6', hv6, hn6, _, _, _⟩ := o6.rd
    subst hn6 hv6
    obtain ⟨u1, g1⟩ := HV6.out.1.cellAt (j := k * 2 + 1) (by show _ < _ * 2; omega)
    have f1 := HV6.out.1.freeAt (k * 2 + 1)
    have hap : ∀ j, (Value.slice A6 zs.length c6').ownBlock = some j → w2.heap.size ≤ j := fun j hj => (o6.blk j hj).1
    have HN := Lib.hid (HV6.out.setRules (d := k) hko hkl (o6.base_ (show b0 ≤ w2.heap.size by omega)) (apart_ne fun j h1 h2 => by have := hap j h1; have := (HV2.out.1.blk j h2).2; omega) (fun i hi => apart_ne fun j h1 h2 => by have := hap j h1; have := ((HV2.out.2.2.1 i hi (by omega)).2.blk j h2).2; omega))
    have HR : Hid (rdr (w6.setCell ⟨G, k * 2 + 1, none⟩ (.slice A6 zs.length c6')) g p6) := hr6.grown (g' := G) (grown_setCell (World.grownBy.refl _ _) (.inl rfl) _) (by omega)
    have HB : Hid (kept2 g b0 w (w6.setCell ⟨G, k * 2 + 1, none⟩ (.slice A6 zs.length c6'))) := (k2.trans (c6.mono (by omega))).trans (kept2.below ((Below.refl _ _).setCell (p := ⟨G, k * 2 + 1, none⟩) hG _))
    clear hap o6 k6 c5 o5 hc1 hc1a
    go_wp2_with fail
    go_ret
    refine ⟨_, _, _, rfl, .inl ⟨_, HN.out⟩, by simp; omega, fun j hj => ?_, HR.out, by omega, HB.out⟩
    rw [List.getElem_set]
    split
    · exact hl6
    · exact h6'.out j (by simpa using hj)
  have d1 : (x == 1) = false := by simp [c1]
  by_cases c2 : x = 2
  · have d2 : (x == 2) = true := by simp [c2]
    clear c2 c1 c0
    go_wp2_with fail
    go_ret
    exact ⟨_, [], _, rfl, .inr ⟨rfl, _, _, rfl, by unfold maxLen; omega⟩, by simp, fun k h => absurd h (Nat.not_lt_zero k), hr2, by omega, k2⟩
  have d2 : (x == 2) = false := by simp [c2]
  clear c0 c1 c2
  go_wp2_with fail
  go_ret
  exact ⟨_, net, _, rfl, .inl ⟨os, HV2.out⟩, h4, h6'.out, hr2, by omega, k2⟩

/-- Drawn: a network, an office's name, a code. -/
def drawRPost (T1 T2 : Nat) (w : World) (e : Ending) (w' : World) : Prop :=
  ∃ (v : Value) (net : List Ofc) (s t : ByteArray), e = .returned (.tuple #[v, .string s, .string t]) ∧ drN T1 T2 w.heap.size w' v net ∧ net.length ≤ 4 ∧ (∀ k (h : k < net.length), net[k].rules.length ≤ 40) ∧ s.size ≤ maxLen ∧ t.size ≤ maxLen ∧ Below w.heap.size w w'

set_option maxRecDepth 100000 in
set_option maxHeartbeats 1000000 in
theorem draw_DrawRoutePath (v : Value) (bs : List UInt8) (w : World) (hv : rd w w.heap.size v bs) :
    Calls Try.prog 74 #[v] w (drawRPost 65 67 w) := by
  go_enter Try.func74, Try.ntmps74
  go_wp2_with fail
  refine (rd_open _ bs _ hv).mono ?_
  rintro e w1 ⟨g, rfl, hg, hr1, b1⟩
  have hlt := hr1.lt
  have hz1 := b1.size
  go_wp2_with fail
  refine (rd_l6Net g 0 _ hr1 (by omega)).mono ?_
  rintro e w2 ⟨v2, net, os, p2, rfl, hn2, hl2, hl4, hl6, hr2, hp2, hg2⟩
  have HN2 := Lib.hid hn2
  have HL6 := Lib.hid hl6
  have b2 : Below w.heap.size w w2 := b1.trans (below_of_grown hg2 hz1 (fun r e => by injection e; omega))
  have hz2 := hg2.size
  clear hn2 hl6 hg2 hr1 b1
  obtain ⟨A2, m2, c2, hv2, hm2, _, _, _⟩ := HN2.out.rd
  subst hm2 hv2
  go_wp2_with fail
  refine (rd_l6Bad g p2 w1.heap.size _ net os _ hr2 (by omega) HN2.out hlt hl2 hl4 HL6.out).mono ?_
  rintro e w3 ⟨v3, net3, p3, rfl, hn3, hl3, hr40, hr3, hp3, k3⟩
  have HN3 := Lib.hid hn3
  have HL40 := Lib.hid hr40
  have b3 : Below w.heap.size w w3 := b2.trans (k3.toBelow hg hz1)
  have hz3 := k3.size
  clear hn3 hr40 k3 hr2 b2
  obtain ⟨A3, m3, c3, hv3, hm3, _, _, _⟩ := HN3.out.rd
  subst hm3 hv3
  have hlt3 := hr3.lt
  go_wp2_with fail
  refine (rd_of 9 g p3 _ [⟨#[97]⟩, ⟨#[97]⟩, ⟨#[98]⟩, ⟨#[97]⟩, ⟨#[99]⟩, ⟨#[122]⟩] _ (hr3.alloc _) (by omega) (list_str 9 (g + 1) w3 [⟨#[97]⟩, ⟨#[97]⟩, ⟨#[98]⟩, ⟨#[97]⟩, ⟨#[99]⟩, ⟨#[122]⟩] (by intro x hx; simp only [List.mem_cons, List.not_mem_nil, or_false] at hx; rcases hx with rfl | rfl | rfl | rfl | rfl | rfl <;> decide) (by decide) (by omega)) (by decide)).mono ?_
  rintro e w4 ⟨s, _, rfl, hs, hr4, hg4⟩
  replace hg4 := grown_trans (World.grownBy_alloc w3 _ _) hg4
  have HN4 := Lib.hid (HN3.out.grown hg4 hlt)
  have b4 : Below w.heap.size w w4 := b3.trans (below_of_grown hg4 b3.size (fun r e => by injection e; omega))
  have HS := Lib.hid hs
  clear hg4 hr3 b3 hs
  go_wp2_with fail
  refine (rd_l6Head g (p3 + 1) _ hr4 (by omega)).mono ?_
  rintro e w5 ⟨t, rfl, ht7, hr5, hg5⟩
  have HN5 := Lib.hid (HN4.out.grown hg5 hlt)
  have b5 : Below w.heap.size w w5 := b4.trans (below_of_grown hg5 b4.size (fun r e => by injection e; omega))
  clear hg5 hr4 b4
  go_wp2_with fail
  refine (rd_l1Bad g (p3 + 1 + 3) t _ hr5 (by omega) (by omega) (by omega)).mono ?_
  rintro e w6 ⟨u, rfl, hu, hr6, hg6⟩
  have HN6 := Lib.hid (HN5.out.grown hg6 hlt)
  have b6 : Below w.heap.size w w6 := b5.trans (below_of_grown hg6 b5.size (fun r e => by injection e; omega))
  have HU : Hid (u.size ≤ maxLen) := by show _ ≤ _; unfold maxLen; omega
  clear hg6 hr5 b5 hu
  go_wp2_with fail
  go_ret3
  exact ⟨_, net3, s, u, rfl, HN6.out.base_ hz1, hl3, HL40.out, HS.out, HU.out, b6⟩

def drawNPost (T1 T2 : Nat) (w : World) (e : Ending) (w' : World) : Prop :=
  ∃ (v : Value) (net : List Ofc) (s : ByteArray), e = .returned (.tuple #[v, .string s]) ∧ drN T1 T2 w.heap.size w' v net ∧ net.length ≤ 4 ∧ (∀ k (h : k < net.length), net[k].rules.length ≤ 40) ∧ s.size ≤ maxLen ∧ Below w.heap.size w w'
set_option maxHeartbeats 800000 in
theorem draw_DrawFaultyPrefixes (v : Value) (bs : List UInt8) (w : World) (hv : rd w w.heap.size v bs) :
    Calls Try.prog 26 #[v] w (drawNPost 65 67 w) := by
  go_enter Try.func26, Try.ntmps26
  go_wp2_with fail
  refine (draw_DrawRoutePath _ bs _ hv).mono ?_
  rintro e w1 ⟨v1, net, s, t, rfl, hn, hl, hr, hs, ht, b1⟩
  have HN := Lib.hid hn; have HL := Lib.hid hr; have HS := Lib.hid hs
  clear hn hr hs
  go_wp2_with fail
  go_ret2
  exact ⟨_, net, s, rfl, HN.out, hl, HL.out, HS.out, b1⟩

end Go.Proofs.Ytmangjjaijhcnaa

namespace Go.Proofs.Ytmangjjaijhcnaa
open Go.RowKit

def bl (s : ByteArray) : List UInt8 := s.data.toList
def dgb (d : Nat) : UInt8 := UInt8.ofNat (48 + d)
theorem bl_dgt (p : ByteArray) (d : Nat) : bl (dgt p d) = bl p ++ [dgb d] := by
  unfold dgt bl; rw [ByteArray.data_append, Array.toList_append]; rfl
theorem dgb_nat {d : Nat} (hd : d < 10) : (dgb d).toNat = 48 + d := by
  unfold dgb; rw [UInt8.toNat_ofNat']; omega
theorem dgb_inj {d e : Nat} (hd : d < 10) (he : e < 10) (h : dgb d = dgb e) : d = e := by
  have := congrArg UInt8.toNat h
  rw [dgb_nat hd, dgb_nat he] at this
  omega
theorem bl_inj {a b : ByteArray} (h : bl a = bl b) : a = b := ByteArray.ext (Array.toList_inj.1 h)
theorem bl_len (s : ByteArray) : (bl s).length = s.size := by simp [bl]
theorem faults_mem {net : List Ofc} {i f : Nat} {p q : ByteArray} (h : q ∈ faultsN net i (f + 1) p) :
    faultsN net i (f + 1) p = [p] ∧ q = p ∨ longN net p = true ∧ allN net i f p 10 = false ∧ faultsN net i (f + 1) p = catN net i f p 10 ∧ ∃ d, d < 10 ∧ q ∈ faultsN net i f (dgt p d) := by
  cases hl : longN net p
  · by_cases h2 : (route net (firstW p) i).2 = 0
    · rw [faults_home hl h2] at h; simp at h
    · rw [faults_bad hl h2] at h ⊢
      exact .inl ⟨rfl, by simpa using h⟩
  · rw [faults_long hl] at h ⊢
    cases ha : allN net i f p 10
    · rw [ha, if_neg (by simp)] at h
      unfold catN at h
      obtain ⟨l, hl, hq⟩ := List.mem_flatten.1 h
      obtain ⟨d, hd, rfl⟩ := List.mem_map.1 hl
      exact .inr ⟨rfl, rfl, by rw [if_neg (by simp)], d, by simpa using hd, hq⟩
    · rw [ha, if_pos rfl] at h
      exact .inl ⟨by rw [if_pos rfl], by simpa using h⟩
theorem faults_pre {net : List Ofc} {i : Nat} : ∀ {f : Nat} {p q : ByteArray}, q ∈ faultsN net i f p → bl p <+: bl q
  | 0, p, q, h => by simp [faultsN] at h
  | f + 1, p, q, h => by
    rcases faults_mem h with ⟨_, rfl⟩ | ⟨_, _, _, d, _, hq⟩
    · exact List.prefix_refl _
    · have := faults_pre hq
      rw [bl_dgt] at this
      exact (List.prefix_append _ _).trans this
theorem branch_eq {p : ByteArray} {d e : Nat} {l : List UInt8} (hd : d < 10) (he : e < 10) (h1 : bl (dgt p d) <+: l) (h2 : bl (dgt p e) <+: l) : d = e := by
  have h := List.prefix_of_prefix_length_le h1 h2 (by rw [bl_len, bl_len, dgt_size, dgt_size]; omega)
  have h := h.eq_of_length (by rw [bl_len, bl_len, dgt_size, dgt_size])
  rw [bl_dgt, bl_dgt] at h
  have h := List.append_cancel_left h
  exact dgb_inj hd he (by simpa using h)
theorem faults_self {net : List Ofc} {i f : Nat} {p : ByteArray} (h : p ∈ faultsN net i f p) : faultsN net i f p = [p] := by
  match f, h with
  | 0, h => simp [faultsN] at h
  | f + 1, h =>
    rcases faults_mem h with ⟨h, _⟩ | ⟨_, _, _, d, _, hq⟩
    · exact h
    · have := (faults_pre hq).length_le
      rw [bl_len, bl_len, dgt_size] at this
      omega
/-- None of them begins with another one. -/
theorem faults_apart {net : List Ofc} {i : Nat} : ∀ {f : Nat} {p x y : ByteArray}, x ∈ faultsN net i f p → y ∈ faultsN net i f p → bl x <+: bl y → x = y
  | 0, p, x, y, h, _, _ => by simp [faultsN] at h
  | f + 1, p, x, y, hx, hy, hxy => by
    rcases faults_mem hx with ⟨h, rfl⟩ | ⟨_, _, h, d, hd, hdx⟩
    · rw [h] at hy
      exact (by simpa using hy : y = x).symm
    · rcases faults_mem hy with ⟨h', rfl⟩ | ⟨_, _, _, e, he, hey⟩
      · rw [h'] at hx
        simpa using hx
      · obtain rfl := branch_eq hd he ((faults_pre hdx).trans hxy) (faults_pre hey)
        exact faults_apart hdx hey hxy
theorem less_pre : ∀ (l a b : List UInt8), Op.bytesLess (l ++ a) (l ++ b) = Op.bytesLess a b
  | [], _, _ => rfl
  | x :: l, a, b => by
    rw [List.cons_append, List.cons_append, Op.bytesLess, less_pre l]
    simp
theorem less_branch {p : ByteArray} {d e : Nat} {x y : List UInt8} (hde : d < e) (he : e < 10) (h1 : bl (dgt p d) <+: x) (h2 : bl (dgt p e) <+: y) : Op.bytesLess x y = true := by
  obtain ⟨z, rfl⟩ := h1
  obtain ⟨u, rfl⟩ := h2
  rw [bl_dgt, bl_dgt, List.append_assoc, List.append_assoc, less_pre]
  show Op.bytesLess (dgb d :: z) (dgb e :: u) = true
  rw [Op.bytesLess, Bool.or_eq_true]
  refine .inl (decide_eq_true ?_)
  rw [UInt8.lt_iff_toNat_lt, dgb_nat (by omega), dgb_nat he]
  omega
/-- They are in order. -/
theorem faults_sorted {net : List Ofc} {i : Nat} : ∀ (f : Nat) (p : ByteArray), (faultsN net i f p).Pairwise fun x y => Op.bytesLess (bl x) (bl y) = true
  | 0, p => by simp [faultsN]
  | f + 1, p => by
    cases hl : longN net p
    · by_cases h2 : (route net (firstW p) i).2 = 0
      · rw [faults_home hl h2]; simp
      · rw [faults_bad hl h2]; simp
    · rw [faults_long hl]
      split
      · simp
      · unfold catN
        rw [List.pairwise_flatten]
        refine ⟨fun l hl => ?_, ?_⟩
        · obtain ⟨d, _, rfl⟩ := List.mem_map.1 hl
          exact faults_sorted f _
        · rw [List.pairwise_map]
          refine (List.pairwise_lt_range (n := 10)).imp_of_mem fun {d e} hd he hde x hx y hy => ?_
          exact less_branch hde (by simpa using he) (faults_pre hx) (faults_pre hy)
/-- Not all ten that continue one prefix. -/
theorem faults_ten {net : List Ofc} {i : Nat} : ∀ (f : Nat) (p q : ByteArray), ¬ ∀ d, d < 10 → dgt q d ∈ faultsN net i f p
  | 0, p, q, h => by have := h 0 (by omega); simp [faultsN] at this
  | f + 1, p, q, h => by
    have h01 : ∀ r, faultsN net i (f + 1) p = [r] → False := fun r e => by
      have h0 := h 0 (by omega)
      have h1 := h 1 (by omega)
      rw [e] at h0 h1
      have h2 : dgt q 0 = dgt q 1 := (by simpa using h0 : dgt q 0 = r).trans (by simpa using h1 : dgt q 1 = r).symm
      have h3 := congrArg bl h2
      rw [bl_dgt, bl_dgt] at h3
      have := dgb_inj (d := 0) (e := 1) (by omega) (by omega) (by simpa using List.append_cancel_left h3)
      omega
    have hb : ∀ d, d < 10 → ∃ e, e < 10 ∧ dgt q d ∈ faultsN net i f (dgt p e) := fun d hd => by
      rcases faults_mem (h d hd) with ⟨h', _⟩ | ⟨_, _, _, e, he, hq⟩
      · exact (h01 _ h').elim
      · exact ⟨e, he, hq⟩
    have hall : allN net i f p 10 = false := by
      rcases faults_mem (h 0 (by omega)) with ⟨h', _⟩ | ⟨_, ha, _⟩
      · exact (h01 _ h').elim
      · exact ha
    by_cases hqp : q = p
    · subst hqp
      have : allN net i f q 10 = true := by
        unfold allN
        refine List.all_eq_true.2 fun d hd => ?_
        have hd : d < 10 := by simpa using hd
        obtain ⟨e, he, hq⟩ := hb d hd
        obtain rfl := branch_eq he hd (faults_pre hq) (List.prefix_refl _)
        rw [faults_self hq]
        exact sEq_refl _
      rw [hall] at this
      cases this
    · obtain ⟨e, he, h0⟩ := hb 0 (by omega)
      have hpq : bl (dgt p e) <+: bl q := by
        have h1 := faults_pre h0
        have hs := h1.length_le
        rw [bl_len, bl_len, dgt_size, dgt_size] at hs
        by_cases hlt : p.size + 1 ≤ q.size
        · refine List.prefix_of_prefix_length_le h1 ?_ (by rw [bl_len, bl_len, dgt_size]; exact hlt)
          rw [bl_dgt]
          exact List.prefix_append _ _
        · exfalso
          have h2 : bl p <+: bl (dgt q 0) := by
            rw [bl_dgt] at h1
            exact (List.prefix_append _ _).trans h1
          rw [bl_dgt] at h2
          have h3 := List.prefix_of_prefix_length_le h2 (List.prefix_append (bl q) [dgb 0]) (by rw [bl_len, bl_len]; omega)
          exact hqp (bl_inj (h3.eq_of_length (by rw [bl_len, bl_len]; omega))).symm
      refine faults_ten (net := net) (i := i) f (dgt p e) q fun d hd => ?_
      obtain ⟨e', he', hq⟩ := hb d hd
      obtain rfl := branch_eq he he' (hpq.trans (by rw [bl_dgt]; exact List.prefix_append _ _)) (faults_pre hq)
      exact hq
/-- Digits alone. -/
theorem faults_digs {net : List Ofc} {i : Nat} : ∀ {f : Nat} {p q : ByteArray}, (∀ b ∈ bl p, ∃ d, d < 10 ∧ b = dgb d) → q ∈ faultsN net i f p → ∀ b ∈ bl q, ∃ d, d < 10 ∧ b = dgb d
  | 0, p, q, _, h => by simp [faultsN] at h
  | f + 1, p, q, hp, h => by
    rcases faults_mem h with ⟨_, rfl⟩ | ⟨_, _, _, d, hd, hq⟩
    · exact hp
    · refine faults_digs (fun b hb => ?_) hq
      rw [bl_dgt] at hb
      rcases List.mem_append.1 hb with hb | hb
      · exact hp b hb
      · exact ⟨d, hd, by simpa using hb⟩
theorem faults_nodup (net : List Ofc) (i f : Nat) (p : ByteArray) : (faultsN net i f p).Nodup := by
  refine (faults_sorted f p).imp fun {x y} h e => ?_
  subst e
  have : ∀ l, Op.bytesLess l l = false := fun l => by
    have := less_pre l [] []
    rw [List.append_nil] at this
    rw [this]; rfl
  rw [this] at h
  cases h
/-- Those of one length that continue q are not ten. -/
def sibB (q : ByteArray) (y : ByteArray) : Bool := decide (y.size = q.size + 1) && pre y q
theorem faults_sibs (net : List Ofc) (i f : Nat) (q : ByteArray) : (faultsN net i f ⟨#[]⟩).countP (sibB q) ≠ 10 := by
  intro h
  obtain ⟨L, hL⟩ : ∃ L, L = (faultsN net i f ⟨#[]⟩).filter (sibB q) := ⟨_, rfl⟩
  have hlen : L.length = 10 := by rw [hL, ← List.countP_eq_length_filter]; exact h
  have hnd : L.Nodup := by rw [hL]; exact (faults_nodup net i f _).filter _
  have hform : ∀ y ∈ L, ∃ d, d < 10 ∧ y = dgt q d ∧ y ∈ faultsN net i f ⟨#[]⟩ := fun y hy => by
    rw [hL] at hy
    obtain ⟨h1, h2⟩ := List.mem_filter.1 hy
    unfold sibB at h2
    rw [Bool.and_eq_true, decide_eq_true_iff, pre_iff] at h2
    obtain ⟨⟨hs, z, hz⟩⟩ := And.intro h2 trivial
    have hz : bl q ++ z = bl y := hz
    have hzl : z.length = 1 := by
      have := congrArg List.length hz
      rw [List.length_append, bl_len, bl_len] at this
      omega
    obtain ⟨b, rfl⟩ : ∃ b, z = [b] := by
      match z, hzl with
      | [b], _ => exact ⟨b, rfl⟩
    obtain ⟨d, hd, rfl⟩ := faults_digs (p := ⟨#[]⟩) (fun b hb => by simp [bl] at hb) h1 b (by rw [← hz]; simp)
    exact ⟨d, hd, bl_inj (by rw [bl_dgt, hz]), h1⟩
  have key : ∀ d, d < 10 → dgt q d ∈ L := fun d hd => by
    obtain ⟨M, hM⟩ : ∃ M : List Nat, M = L.map fun y => ((bl y)[q.size]?.map UInt8.toNat).getD 0 - 48 := ⟨_, rfl⟩
    have hval : ∀ d, d < 10 → ((bl (dgt q d))[q.size]?.map UInt8.toNat).getD 0 - 48 = d := fun d hd => by
      rw [bl_dgt, ← bl_len, List.getElem?_append_right (Nat.le_refl _), Nat.sub_self]
      show (dgb d).toNat - 48 = d
      rw [dgb_nat hd]; omega
    have hMn : M.Nodup := by
      rw [hM]
      unfold List.Nodup
      rw [List.pairwise_map]
      refine List.Pairwise.imp_of_mem (fun {x y} hx hy hxy e => ?_) hnd
      obtain ⟨d, hd, rfl, _⟩ := hform x hx
      obtain ⟨e', he, rfl, _⟩ := hform y hy
      rw [hval d hd, hval e' he] at e
      exact hxy (by rw [e])
    have hMb : ∀ x ∈ M, x < 10 := fun x hx => by
      rw [hM] at hx
      obtain ⟨y, hy, rfl⟩ := List.mem_map.1 hx
      obtain ⟨d, hd, rfl, _⟩ := hform y hy
      rw [hval d hd]; exact hd
    have := nodup_full hMn hMb hd (by rw [hM, List.length_map]; omega)
    rw [hM] at this
    obtain ⟨y, hy, e⟩ := List.mem_map.1 this
    obtain ⟨d', hd', rfl, _⟩ := hform y hy
    rw [hval d' hd'] at e
    rw [← e]; exact hy
  exact faults_ten f ⟨#[]⟩ q fun d hd => (hform _ (key d hd)).elim fun _ h => h.2.2
/-! ### Who comes home -/
theorem pre_on {c p s : ByteArray} (hp : bl p <+: bl c) (h : (decide (p.size < s.size) && pre s p) = false) : pre c s = pre p s := by
  rw [Bool.eq_iff_iff, pre_iff, pre_iff]
  have hl : ∀ s : ByteArray, s.data.toList.length = s.size := fun s => by simp
  constructor
  · intro h1
    by_cases hlt : p.size < s.size
    · have h2 : p.data.toList <+: s.data.toList := List.prefix_of_prefix_length_le hp h1 (by rw [hl, hl]; omega)
      rw [decide_eq_true hlt, pre_iff.2 h2] at h
      cases h
    · exact List.prefix_of_prefix_length_le h1 hp (by rw [hl, hl]; omega)
  · intro h1
    exact h1.trans hp
theorem best_on {rs : List Fwd} {c p : ByteArray} (hp : bl p <+: bl c) (h : rs.any (longR p) = false) : ∀ k, bestN rs c k = bestN rs p k
  | 0 => rfl
  | k + 1 => by
    show bestStep _ _ _ _ = bestStep _ _ _ _
    rw [best_on hp h k]
    unfold bestStep
    cases hx : rs[k]? with
    | none => rfl
    | some x =>
      have hm := List.mem_of_getElem? hx
      have h1 : longR p x = false := by simpa using List.any_eq_false.1 h x hm
      dsimp only
      rw [pre_on hp h1]
theorem next_on {rs : List Fwd} {c p : ByteArray} (hp : bl p <+: bl c) (h : rs.any (longR p) = false) : bestI rs c = bestI rs p ∧ nextS rs c = nextS rs p := by
  have h1 : bestI rs c = bestI rs p := best_on hp h _
  refine ⟨h1, ?_⟩
  unfold nextS
  rw [h1]
theorem hop_on {net : List Ofc} {c p : ByteArray} (hp : bl p <+: bl c) (h : longN net p = false) (i : Nat) : hop net c i = hop net p i := by
  unfold hop
  cases hx : net[i]? with
  | none => rfl
  | some o =>
    have hm := List.mem_of_getElem? hx
    have h1 : o.rules.any (longR p) = false := by
      have := List.any_eq_false.1 h o hm
      simpa [longO] using this
    obtain ⟨e1, e2⟩ := next_on hp h1
    dsimp only
    rw [e1, e2]
theorem routeN_on {net : List Ofc} {c p : ByteArray} (hp : bl p <+: bl c) (h : longN net p = false) : ∀ (f : Nat) (q : List Nat) (i : Nat), routeN net c f q i = routeN net p f q i
  | 0, _, _ => rfl
  | f + 1, q, i => by
    rw [routeN, routeN, hop_on hp h, routeN_on hp h f]
theorem faults_code {net : List Ofc} (hk : netOk net = true) {i : Nat} {c : ByteArray} (hc : isCode c = true) : ∀ (f : Nat) (p : ByteArray), p.size + f = 8 → 1 ≤ f → bl p <+: bl c →
    ((faultsN net i f p).any (fun x => pre c x) = true ↔ (route net c i).2 ≠ 0)
  | 0, _, _, h, _ => by omega
  | f + 1, p, hs, _, hp => by
    cases hl : longN net p
    · have e : route net c i = route net (firstW p) i := by rw [route_first hl]; exact routeN_on hp hl _ _ _
      by_cases h2 : (route net (firstW p) i).2 = 0
      · rw [faults_home hl h2, e]; simp [h2]
      · rw [faults_bad hl h2, e]
        simp only [List.any_cons, List.any_nil, Bool.or_false]
        exact ⟨fun _ => h2, fun _ => pre_iff.2 hp⟩
    · have hp6 := long_size hk hl
      unfold isCode at hc
      rw [Bool.and_eq_true, beq_iff_eq] at hc
      obtain ⟨hc7, hcd⟩ := hc
      obtain ⟨d, hd, hpd⟩ : ∃ d, d < 10 ∧ bl (dgt p d) <+: bl c := by
        obtain ⟨z, hz⟩ := hp
        have hzl : 0 < z.length := by
          have := congrArg List.length hz
          rw [List.length_append, bl_len, bl_len] at this
          omega
        match z, hzl with
        | b :: z, _ =>
          have hb : dig b = true := by
            unfold digs at hcd
            refine List.all_eq_true.1 hcd b ?_
            show b ∈ bl c
            rw [← hz]; simp
          unfold dig at hb
          rw [Bool.and_eq_true, decide_eq_true_iff, decide_eq_true_iff] at hb
          refine ⟨b.toNat - 48, by omega, ⟨z, ?_⟩⟩
          rw [bl_dgt, ← hz, List.append_assoc]
          congr 1
          show dgb _ :: z = b :: z
          congr 1
          apply UInt8.toNat_inj.1
          rw [dgb_nat (by omega)]; omega
      have hc : isCode c = true := by unfold isCode; rw [hcd, hc7]; rfl
      have ih := faults_code hk (i := i) hc f (dgt p d) (by rw [dgt_size]; omega) (by omega) hpd
      rw [faults_long hl, ← ih]
      split
      · rename_i hall
        unfold allN at hall
        have h1 := List.all_eq_true.1 hall d (by simpa using hd)
        simp only [List.any_cons, List.any_nil, Bool.or_false]
        refine ⟨fun _ => ?_, fun _ => pre_iff.2 hp⟩
        obtain ⟨q, hq, hqe⟩ : ∃ q, faultsN net i f (dgt p d) = [q] ∧ q = dgt p d := by
          match hx : faultsN net i f (dgt p d), h1 with
          | [q], h1 => exact ⟨q, rfl, sEq_iff.1 h1⟩
          | [], h1 => cases h1
          | _ :: _ :: _, h1 => cases h1
        rw [hq, hqe]
        simp only [List.any_cons, List.any_nil, Bool.or_false]
        exact pre_iff.2 hpd
      · unfold catN
        rw [List.any_eq_true, List.any_eq_true]
        constructor
        · rintro ⟨x, hx, hpx⟩
          obtain ⟨l, hl, hq⟩ := List.mem_flatten.1 hx
          obtain ⟨e, he, rfl⟩ := List.mem_map.1 hl
          obtain rfl := branch_eq hd (by simpa using he) hpd ((faults_pre hq).trans (pre_iff.1 hpx))
          exact ⟨x, hq, hpx⟩
        · rintro ⟨x, hx, hpx⟩
          exact ⟨x, List.mem_flatten.2 ⟨_, List.mem_map.2 ⟨d, by simpa using hd, rfl⟩, hx⟩, hpx⟩
theorem fp_code {net : List Ofc} {s c : ByteArray} {q : Nat} (hk : netOk net = true) (hq : offI net s = q) (hc : isCode c = true) : (fpS net s).any (fun x => pre c x) = !decide ((route net c q).2 = 0) := by
  have h : fpS net s = faultsN net q 8 ⟨#[]⟩ := by
    unfold fpS
    rw [hk, hq, decide_eq_true (by omega), Int.toNat_natCast]
    rfl
  have := faults_code hk (i := q) hc 8 ⟨#[]⟩ rfl (by omega) ⟨_, rfl⟩
  rw [h, Bool.eq_iff_iff, this]
  simp

end Go.Proofs.Ytmangjjaijhcnaa
