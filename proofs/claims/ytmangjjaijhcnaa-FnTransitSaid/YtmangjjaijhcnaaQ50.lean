/- NZ -/
import Derived.Test.YtmangjjaijhcnaaQ49
import Derived.Test.YtmangjjaijhcnaaQ11
import Derived.Test.YtmangjjaijhcnaaQ7
import Derived.Test.YtmangjjaijhcnaaQ46
namespace Go.Proofs.Ytmangjjaijhcnaa
open Go.RowKit

section
variable {T1 T2 base G n c : Nat} {w w1 : World} {net : List Ofc} {os : List OfV}
theorem set_val {os : List OfV} {d : Nat} {x : OfV} (hd : d < os.length) (hx : x.val = os[d].val) (k : Nat) (hk : k < (os.set d x).length) : (os.set d x)[k].val = (os[k]'(by simpa using hk)).val := by
  rw [List.getElem_set]
  split
  · rename_i e; subst e; exact hx
  · rfl
/-- An office is called otherwise. -/
theorem isN.setName (h : isN T1 T2 base w (.slice (some ⟨G, 0, none⟩) n c) net os) {d : Nat} (hd : d < os.length) (hd' : d < net.length) {s : ByteArray} (hs : s.size ≤ maxLen) :
    isN T1 T2 base (w.setCell ⟨G, d * 2, none⟩ (.string s)) (.slice (some ⟨G, 0, none⟩) n c) (net.set d ⟨s, net[d].rules⟩) (os.set d ⟨s, os[d].val⟩) := by
  obtain ⟨h1, h2, h3, h4, h5⟩ := h
  have q := h1.setCell (k := d) (j := 0) hd (by decide) (.string s) ⟨s, os[d].val⟩ (fun ecs he => by
    obtain ⟨rfl, _, q⟩ := he
    exact ⟨rfl, hs, q⟩)
  have hv := set_val (x := ⟨s, os[d].val⟩) hd rfl
  have hG : w.grownBy (w.setCell ⟨G, d * 2, none⟩ (.string s)) (some G) := grown_setCell (World.grownBy.refl w (some G)) (.inl rfl) _
  refine ⟨q, by simp [h2], fun k hk hk' => ?_, fun j k hj hk hne => ?_, fun k hk => ?_⟩
  · have hk0 : k < os.length := by simpa using hk
    have hk0' : k < net.length := by simpa using hk'
    obtain ⟨e1, e2⟩ := h3 k hk0 hk0'
    rw [hv k hk]
    have e3 := e2.grown hG (h5 k hk0)
    by_cases hkd : k = d
    · subst hkd
      simp only [List.getElem_set_self]
      exact ⟨trivial, e3⟩
    · rw [List.getElem_set_ne (Ne.symm hkd), List.getElem_set_ne (Ne.symm hkd)]
      exact ⟨e1, e3⟩
  · rw [hv j hj, hv k hk]; exact h4 j k _ _ hne
  · rw [hv k hk]; exact h5 k _
/-- An office gets other rules. -/
theorem isN.setRules (h : isN T1 T2 base w (.slice (some ⟨G, 0, none⟩) n c) net os) {d : Nat} (hd : d < os.length) (hd' : d < net.length) {u : Value} {ys : List Fwd} (ho : own T2 base w u ys) (hf : apart u (.slice (some ⟨G, 0, none⟩) n c)) (hfs : ∀ k (hk : k < os.length), apart u os[k].val) :
    isN T1 T2 base (w.setCell ⟨G, d * 2 + 1, none⟩ u) (.slice (some ⟨G, 0, none⟩) n c) (net.set d ⟨net[d].name, ys⟩) (os.set d ⟨os[d].name, u⟩) := by
  obtain ⟨h1, h2, h3, h4, h5⟩ := h
  have hu1 : u.oneCell' = true := by
    rcases ho.form with ⟨rfl, _⟩ | ⟨g, c, rfl, _⟩ <;> rfl
  have q := h1.setCell (k := d) (j := 1) hd (by decide) u ⟨os[d].name, u⟩ (fun ecs he => by
    obtain ⟨rfl, q, _⟩ := he
    exact ⟨rfl, q, hu1⟩)
  have hG : w.grownBy (w.setCell ⟨G, d * 2 + 1, none⟩ u) (some G) := grown_setCell (World.grownBy.refl w (some G)) (.inl rfl) _
  refine ⟨q, by simp [h2], fun k hk hk' => ?_, fun j k hj hk hne => ?_, fun k hk => ?_⟩
  · have hk0 : k < os.length := by simpa using hk
    have hk0' : k < net.length := by simpa using hk'
    obtain ⟨e1, e2⟩ := h3 k hk0 hk0'
    by_cases hkd : k = d
    · subst hkd
      simp only [List.getElem_set_self]
      exact ⟨e1, ho.grown hG hf⟩
    · rw [List.getElem_set_ne (Ne.symm hkd), List.getElem_set_ne (Ne.symm hkd)]
      exact ⟨e1, e2.grown hG (h5 k hk0)⟩
  · have hj0 : j < os.length := by simpa using hj
    have hk0 : k < os.length := by simpa using hk
    by_cases hjd : j = d
    · subst hjd
      rw [List.getElem_set_self, List.getElem_set_ne hne]
      exact hfs k hk0
    · rw [List.getElem_set_ne (Ne.symm hjd)]
      by_cases hkd : k = d
      · subst hkd
        rw [List.getElem_set_self]
        exact apart_symm (hfs j hj0)
      · rw [List.getElem_set_ne (Ne.symm hkd)]
        exact h4 j k hj0 hk0 hne
  · have hk0 : k < os.length := by simpa using hk
    by_cases hkd : k = d
    · subst hkd; rw [List.getElem_set_self]; exact hf
    · rw [List.getElem_set_ne (Ne.symm hkd)]; exact h5 k hk0
/-- An office more. -/
theorem isN.snoc {v u : Value} {g m cap : Nat} {nm : ByteArray} {ys : List Fwd} (h : isN T1 T2 base w v net os) (ho : own T2 base w u ys) (hf : apart u v) (hfs : ∀ k (hk : k < os.length), apart u os[k].val)
    (hn : own T1 base w1 (.slice (some ⟨g, 0, none⟩) m cap) (os ++ [⟨nm, u⟩])) (hg : w.grownBy w1 v.ownBlock) (ha : some g = v.ownBlock ∨ g = w.heap.size) :
    isN T1 T2 base w1 (.slice (some ⟨g, 0, none⟩) m cap) (net ++ [⟨nm, ys⟩]) (os ++ [⟨nm, u⟩]) := by
  obtain ⟨h1, h2, h3, h4, h5⟩ := h
  have hfu : ∀ k (hk : k < (os ++ [(⟨nm, u⟩ : OfV)]).length), apart (os ++ [(⟨nm, u⟩ : OfV)])[k].val v := fun k hk => by
    by_cases hkv : k < os.length
    · rw [List.getElem_append_left hkv]; exact h5 k hkv
    · rw [List.getElem_append_right (by omega)]
      have : k - os.length = 0 := by simp at hk; omega
      simp only [this, List.getElem_cons_zero]; exact hf
  have hlt : ∀ k (hk : k < (os ++ [(⟨nm, u⟩ : OfV)]).length) j, (os ++ [(⟨nm, u⟩ : OfV)])[k].val.ownBlock = some j → j < w.heap.size := fun k hk j => by
    by_cases hkv : k < os.length
    · rw [List.getElem_append_left hkv]; exact fun e => ((h3 k hkv (by omega)).2.blk j e).2
    · rw [List.getElem_append_right (by omega)]
      have : k - os.length = 0 := by simp at hk; omega
      simp only [this, List.getElem_cons_zero]; exact fun e => (ho.blk j e).2
  refine ⟨hn, by simp [h2], fun k hk hk' => ?_, fun j k hj hk hne => ?_, fun k hk => ?_⟩
  · by_cases hkv : k < os.length
    · rw [List.getElem_append_left hkv, List.getElem_append_left (by omega)]
      exact ⟨(h3 k hkv (by omega)).1, (h3 k hkv (by omega)).2.grown hg (h5 k hkv)⟩
    · have e1 : k - os.length = 0 := by simp at hk; omega
      have e2 : k - net.length = 0 := by omega
      rw [List.getElem_append_right (by omega), List.getElem_append_right (by omega)]
      simp only [e1, e2, List.getElem_cons_zero]
      exact ⟨trivial, ho.grown hg hf⟩
  · by_cases hjv : j < os.length
    · by_cases hkv : k < os.length
      · rw [List.getElem_append_left hjv, List.getElem_append_left hkv]; exact h4 j k hjv hkv hne
      · have e1 : k - os.length = 0 := by simp at hk; omega
        rw [List.getElem_append_left hjv, List.getElem_append_right (by omega)]
        simp only [e1, List.getElem_cons_zero]; exact apart_symm (hfs j hjv)
    · have e1 : j - os.length = 0 := by simp at hj; omega
      by_cases hkv : k < os.length
      · rw [List.getElem_append_right (by omega), List.getElem_append_left hkv]
        simp only [e1, List.getElem_cons_zero]; exact hfs k hkv
      · exfalso; simp at hj hk; omega
  · exact apart_symm (apart_app (apart_symm (hfu k hk)) ha fun j hj => hlt k hk j hj)
end

/-- What l6BadRules gives. -/
def l6BadPost (T g p b0 : Nat) (w : World) (e : Ending) (w' : World) : Prop :=
  ∃ (v' : Value) (ys : List Fwd) (p' : Nat), e = .returned v' ∧ own T b0 w' v' ys ∧ ys.length ≤ 40 ∧ rdr w' g p' ∧ p' ≤ p + 5 ∧ kept2 g b0 w w'

set_option maxRecDepth 100000 in
set_option maxHeartbeats 1600000 in
theorem rd_l6BadRules (g p b0 : Nat) (v : Value) (xs : List Fwd) (w : World) (hr : rdr w g p) (hp : p ≤ 100000000000) (hv : own 67 b0 w v xs) (hb0 : g < b0) (hx1 : xs.length ≤ 40) :
    Calls Try.prog 170 #[.pointer (some ⟨g, 0, none⟩), v] w (l6BadPost 67 g p b0 w) := by
  have hlt := hr.lt
  obtain ⟨i0, hi, hz0, hz1, hz2⟩ := info_parts Try.infoRul
  rcases hv.form with ⟨rfl, rfl⟩ | ⟨gg, c, rfl, hg, hgl, hc, hm⟩
  · go_enter Try.func170, Try.ntmps170
    go_wp2
    go_ret
    exact ⟨_, [], p, rfl, hv, by simp, hr, by omega, kept2.refl _ _ _⟩
  · by_cases h0 : xs.length = 0
    · have hl0 : ((xs.length : Int) == 0) = true := by rw [h0]; rfl
      clear h0
      go_enter Try.func170, Try.ntmps170
      go_wp2
      go_ret
      exact ⟨_, xs, p, rfl, hv, by omega, hr, by omega, kept2.refl _ _ _⟩
    have hl0 : ((xs.length : Int) == 0) = false := beq_eq_false_iff_ne.2 (by omega)
    have hpos : 0 < xs.length := by omega
    have hposi : (0 : Int) < (xs.length : Int) := by omega
    unfold maxLen at hm
    go_enter Try.func170, Try.ntmps170
    go_wp2_with fail
    refine (rd_pick g p xs.length _ hr (by omega) (by unfold isI64; omega)).mono ?_
    rintro e w1 ⟨y, rfl, hy, hr1, hg1⟩
    obtain ⟨y0, y1⟩ := hy.2 (by omega)
    obtain ⟨k, rfl⟩ := Int.eq_ofNat_of_zero_le y0
    have ho1 := hv.grown hg1 (own_ne hv hb0)
    clear hy
    go_wp2_with fail
    refine (rd_pick g (p + 1) 40 _ hr1 (by omega) (by unfold isI64; omega)).mono ?_
    rintro e w2 ⟨x, rfl, hx, hr2, hg2⟩
    have ho2 := ho1.grown hg2 (own_ne ho1 hb0)
    clear hx
    have hbw : b0 ≤ w.heap.size := by omega
    have hz1' := hg1.size
    have hzw := hg2.size
    have hB2 : kept2 g b0 w w2 := (kept2.grown hg1 hbw).step hg2 hbw
    have hz2' := hr2.lt
    have hklt : k < xs.length := by omega
    clear hg1 hg2 ho1
    by_cases c0 : x = 0
    · have d0 : (x == 0) = true := by simp [c0]
      clear c0
      obtain ⟨⟨hi1, hi2⟩, c1, _⟩ := own_fwd ho2 0 hpos
      rw [Nat.zero_mul] at c1
      obtain ⟨s0, hs0⟩ : ∃ s0, s0 = xs[0].src := ⟨_, rfl⟩
      rw [← hs0] at hi1 c1
      clear hi2 hs0
      go_wp2_with fail
      refine (rd_of 9 g (p + 1 + 1) _ [⟨#[120]⟩, ⟨#[49, 50, 48, 48, 49, 48, 49, 49]⟩, s0] _ (hr2.alloc _) (by omega) (list_str 9 (g + 1) w2 [⟨#[120]⟩, ⟨#[49, 50, 48, 48, 49, 48, 49, 49]⟩, s0] (by intro x hx; simp at hx; rcases hx with rfl | rfl | rfl; decide; decide; exact hi1) (by show 3 ≤ maxLen; decide) (by omega)) (by show 0 < 3; decide)).mono ?_
      rintro e w3 ⟨t, _, rfl, ht, hr3, hg3⟩
      replace hg3 := grown_trans (World.grownBy_alloc w2 _ _) hg3
      have ho3 := ho2.grown hg3 (own_ne ho2 hb0)
      obtain ⟨u1, g1⟩ := ho3.cellAt (j := k * 2) (by show _ < _ * 2; omega)
      have f1 := ho3.freeAt (k * 2)
      have HO := Lib.hid (ho3.setCell (k := k) (j := 0) hklt (by decide) (.string t) ⟨t, xs[k].dst⟩ (fun ecs he => by
        obtain ⟨⟨_, h2⟩, rfl⟩ := he
        exact ⟨⟨ht, h2⟩, rfl⟩))
      have HR : Hid (rdr (w3.setCell ⟨gg, k * 2, none⟩ (.string t)) g (p + 1 + 1 + 1)) := hr3.grown (g' := gg) (grown_setCell (World.grownBy.refl _ _) (.inl rfl) _) (Nat.lt_of_lt_of_le hb0 hg)
      have HB : Hid (kept2 g b0 w (w3.setCell ⟨gg, k * 2, none⟩ (.string t))) := (hB2.step hg3 hbw).trans (kept2.below ((Below.refl _ _).setCell (p := ⟨gg, k * 2, none⟩) hg _))
      clear ho3 ht hg3
      go_wp2_with fail
      go_ret
      exact ⟨_, _, _, rfl, HO.out, by simp; omega, HR.out, by omega, HB.out⟩
    have d0 : (x == 0) = false := by simp [c0]
    by_cases c1 : x = 1
    · have d1 : (x == 1) = true := by simp [c1]
      clear c1 c0
      go_wp2_with fail
      refine (rd_of 9 g (p + 1 + 1) _ [⟨#[]⟩, ⟨#[65]⟩, ⟨#[97, 98, 99, 100, 101, 102, 103, 104, 105]⟩] _ (hr2.alloc _) (by omega) (list_str 9 (g + 1) w2 [⟨#[]⟩, ⟨#[65]⟩, ⟨#[97, 98, 99, 100, 101, 102, 103, 104, 105]⟩] (by intro x hx; simp at hx; rcases hx with rfl | rfl | rfl <;> decide) (by decide) (by omega)) (by decide)).mono ?_
      rintro e w3 ⟨t, _, rfl, ht, hr3, hg3⟩
      replace hg3 := grown_trans (World.grownBy_alloc w2 _ _) hg3
      have ho3 := ho2.grown hg3 (own_ne ho2 hb0)
      obtain ⟨u1, g1⟩ := ho3.cellAt (j := k * 2 + 1) (by show _ < _ * 2; omega)
      have f1 := ho3.freeAt (k * 2 + 1)
      have HO := Lib.hid (ho3.setCell (k := k) (j := 1) hklt (by decide) (.string t) ⟨xs[k].src, t⟩ (fun ecs he => by
        obtain ⟨⟨h1, _⟩, rfl⟩ := he
        exact ⟨⟨h1, ht⟩, rfl⟩))
      have HR : Hid (rdr (w3.setCell ⟨gg, k * 2 + 1, none⟩ (.string t)) g (p + 1 + 1 + 1)) := hr3.grown (g' := gg) (grown_setCell (World.grownBy.refl _ _) (.inl rfl) _) (Nat.lt_of_lt_of_le hb0 hg)
      have HB : Hid (kept2 g b0 w (w3.setCell ⟨gg, k * 2 + 1, none⟩ (.string t))) := (hB2.step hg3 hbw).trans (kept2.below ((Below.refl _ _).setCell (p := ⟨gg, k * 2 + 1, none⟩) hg _))
      clear ho3 ht hg3
      go_wp2_with fail
      go_ret
      exact ⟨_, _, _, rfl, HO.out, by simp; omega, HR.out, by omega, HB.out⟩
    have d1 : (x == 1) = false := by simp [c1]
    by_cases c2 : x = 2
    · have d2 : (x == 2) = true := by simp [c2]
      clear c2 c1 c0
      go_wp2_with fail
      have HO2 := Lib.hid ho2; clear ho2
      go_loopw [1] (fun t wr => ∃ (ys : List Fwd), own 67 b0 wr t ys ∧ ys.length ≤ 40 ∧ rdr wr g (p + 1 + 1) ∧ kept2 g b0 w wr) (fun t wr => match t with | .slice _ n _ => 21 - n | _ => 0)
      case atStart => exact ⟨xs, HO2.out, by omega, hr2, hB2⟩
      case round =>
        obtain ⟨ys, ho, hy, hrr, hB⟩ := hrel
        obtain ⟨w3, rfl⟩ : ∃ w3 : World, w3 = wr := ⟨_, rfl⟩
        clear hr2 hB2
        obtain ⟨A, m, c', hv', hm', _, _, _⟩ := ho.rd
        subst hm' hv'
        have hlt3 := hrr.lt
        by_cases h61 : ys.length < 21
        · go_wp2_with fail
          refine (spec_l1Show ys.length 3 _ (by omega) (by omega)).mono ?_
          rintro e w5 ⟨rfl, b5⟩
          have hs := showB_size ys.length 3
          generalize showB ys.length 3 = s at *
          have ho5 := ho.below b5
          have hr5 := hrr.below b5
          have hB5 := hB.trans (kept2.below (b5.mono (by have := hB.size; omega) : Below b0 w3 w5))
          have hb3 : b0 ≤ w5.heap.size := by have := hB5.size; omega
          have HOK : Hid (Fwd.ok ⟨s, ⟨#[97]⟩⟩) := ⟨by show s.size ≤ maxLen; rw [hs]; decide, by show 1 ≤ maxLen; decide⟩
          clear hs b5 ho hrr hB
          go_wp2_with (at_builtin; refine wpList_append1 (α := Fwd) rfl (.tmp 43) (.tmp 48) _ rfl b0 67 i0 _ 32 Try.underlying63 hi hz0 hz1 hz2 rfl (by decide) (.slice A ys.length c') ys ⟨s, ⟨#[97]⟩⟩ rfl (ho5.alloc _) ⟨w5.heap.size, 0, none⟩ 1 (Fwd.cells ⟨s, ⟨#[97]⟩⟩) rfl ⟨HOK.out, rfl⟩ (news_at w5 _ (Fwd.cells ⟨s, ⟨#[97]⟩⟩)) (by unfold maxLen; omega) (by omega) (by simp; omega) ?_; intro v' w4 ho4 hg4 ha4)
          have hr4 : rdr w4 g (p + 1 + 1) := (hr5.alloc _).append (ho5.alloc _) hg4 hb0
          have hB4 : kept2 g b0 w w4 := (hB5.trans (kept2.below ((Below.refl _ _).alloc hb3 _))).trans (kept2.below (below_append (ho5.alloc _) hg4 (by simp; omega)))
          clear hg4 ha4
          obtain ⟨A4, m4, c4, hv4, hm4, _, _, _⟩ := ho4.rd
          subst hm4 hv4
          go_wp2_with fail
          go_roundw
          case rel => exact ⟨_, ho4, by simp; omega, hr4, hB4⟩
          case measure => simp; omega
        · go_wp2_with fail
          go_ret
          exact ⟨_, ys, _, rfl, ho, hy, hrr, by omega, hB⟩
    have d2 : (x == 2) = false := by simp [c2]
    clear c0 c1 c2
    go_wp2_with fail
    go_ret
    exact ⟨_, xs, _, rfl, ho2, by omega, hr2, by omega, hB2⟩

end Go.Proofs.Ytmangjjaijhcnaa
