/- B3 -/
import Derived.Test.YtpinkbodbedajaaGreatDoorQ7
import Derived.Deep.RegionLaw
namespace Go.Proofs.YtpinkbodbedajaaGreatDoor
open Go.RowKit

theorem farLL_grown {α : Type} [Flat α] {T1 T2 base : Nat} {w w' : World} {v u : Value} {xss : List (List α)} {vs : List Value} (h : isLL T1 T2 base w v xss vs) (hf : farLL u v vs) (hg : w.grownBy w' u.ownBlock) : isLL T1 T2 base w' v xss vs :=
  h.grown hg (apart_symm hf.1) fun k hk => apart_symm (hf.2 k hk)

set_option maxRecDepth 100000 in
set_option maxHeartbeats 3200000 in
theorem impl_placeLetters (v vb vm : Value) (p : Pln) (xs : List Ltr) (k0 : Nat) (ms : List Mis) (w : World) (hv : rdP w w.heap.size v p) (hb : rd w w.heap.size vb xs) (hm : rd w w.heap.size vm ms)
    (h1 : 2 ≤ p.bins) (h2 : p.bins ≤ 16) (hk0 : k0 ≤ 4) (hord : p.order.length ≤ 1000) (hms : ∀ m ∈ ms, 0 ≤ m.bin ∧ m.bin < p.bins) (hl : xs.length ≤ 1000) :
    Calls Tryz.prog 161 #[v, vb, .int .i64 k0, vm] w fun e w' => ∃ vB vO vs, e = .returned (.tuple #[vB, vO]) ∧ isLL 29 89 w.heap.size w' vB (binsOf (fun x => misBin ms x (binI p x.code k0)) p.bins.toNat xs) vs ∧ own 89 w.heap.size w' vO (restOf (fun x => misBin ms x (binI p x.code k0)) xs) ∧ farLL vO vB vs ∧ Below w.heap.size w w' := by
  obtain ⟨A0, c0, e0⟩ := openP hv
  obtain ⟨w0, hw0⟩ : ∃ w0, w0 = w.alloc (Obj.cells #[.int .i64 p.bins, .int .i64 p.passes, .slice A0 p.order.length c0] 25) := ⟨_, rfl⟩
  have q0 := box_cells hw0 0 (.int .i64 p.bins) rfl
  have q1 := box_cells hw0 1 (.int .i64 p.passes) rfl
  have q2 := box_cells hw0 2 (.slice A0 p.order.length c0) rfl
  have HT := Lib.hid (box_later hw0).1
  have HP := Lib.hid (hv.on HT.out)
  have hb' := hb.on HT.out
  have hm' := hm.on HT.out
  subst e0
  obtain ⟨A, n, cp, rfl, hn, hc, hmx, hr⟩ := hb'
  subst hn
  obtain ⟨A', n', cp', rfl, hn', hc', hmx', hr'⟩ := hm'
  subst hn'
  unfold maxLen at hmx hmx'
  have HR := Lib.hid hr
  have HM := Lib.hid hr'
  have hz0 : w0.heap.size = w.heap.size + 1 := by subst hw0; simp
  have hwlt : w.heap.size < w0.heap.size := by omega
  have HZ0 := Lib.hid hz0
  have HW0 := Lib.hid hw0; clear hw0 hv hb hm hr hr' hz0
  have l0 := Below.refl w0.heap.size w0
  obtain ⟨N, hN⟩ := Int.eq_ofNat_of_zero_le (show 0 ≤ p.bins by omega)
  have hNN : p.bins.toNat = N := by omega
  have HNN := Lib.hid hNN; clear hNN
  have hN16 : N ≤ 16 := by omega
  obtain ⟨i0, hi, hzz, hz1, hz2⟩ := info_parts Tryz.infoRow
  have hmk := make_row (P := Tryz.prog) 37 29 i0 _ Tryz.underlying37 hi hzz N (by rw [hz2]; omega) (by omega)
  rw [← hN] at hmk
  have HN := Lib.hid hN; clear hN
  obtain ⟨i1, ji, jz0, jz1, jz2⟩ := info_parts Tryz.infoLtr
  have HF : Hid (∀ x : Ltr, -1 ≤ misBin ms x (binI p x.code k0) ∧ misBin ms x (binI p x.code k0) < N) := fun x => by
    have := misBin_range hms x _ (binI_range p x.code k0 h1)
    have := HN.out
    omega
  have HMS := Lib.hid hms; clear hms
  obtain ⟨f, HFF⟩ : ∃ f : Ltr → Int, Hid (f = fun x => misBin ms x (binI p x.code k0)) := ⟨_, rfl⟩
  rw [← HFF.out]
  have HFX : Hid (∀ x, f x = misBin ms x (binI p x.code k0)) := fun x => by rw [HFF.out]
  rw [HNN.out]
  go_enter Tryz.func161, Tryz.ntmps161
  go_wp2
  rw [← HW0.out]
  have hoz := made_nil_row (α := Ltr) w0 29 89 N w0.heap.size (Nat.le_refl _) (by unfold maxLen; omega)
  have lz : Below w0.heap.size w0 (w0.alloc (Obj.cells (madeCells #[.slice none 0 0] N) 29)) := later_alloc l0 _
  generalize (w0.alloc (Obj.cells (madeCells #[.slice none 0 0] N) 29)) = wz at *
  have hG0 : w0.heap.size ≤ w.heap.size + 1 := Nat.le_of_eq HZ0.out
  have hoz2 := hoz
  rw [show (Value.slice (some ⟨w0.heap.size, 0, none⟩) N N) = (Value.slice (some ⟨w.heap.size + 1, 0, none⟩) N N) by rw [HZ0.out]] at hoz2
  clear hoz
  generalize hG : w.heap.size + 1 = G at *
  have HGG := Lib.hid hG; clear hG hmk
  obtain ⟨vs0, hoz2⟩ := hoz2
  have HOZ := Lib.hid hoz2; clear hoz2
  go_loopw [11, 22] (fun t i wr => ∃ (k : Nat) (vs : List Value), k ≤ xs.length ∧ i = .int .i64 k ∧ Below w0.heap.size w0 wr ∧ isLL 29 89 w0.heap.size wr (.slice (some ⟨G, 0, none⟩) N N) (binsOf f N (xs.take k)) vs ∧ own 89 w0.heap.size wr t (restOf f (xs.take k)) ∧ Hid (farLL t (.slice (some ⟨G, 0, none⟩) N N) vs)) (fun _ i _ => xs.length - (intOf i).toNat)
  case atStart =>
    refine ⟨0, vs0, Nat.zero_le _, rfl, lz, ?_, own.nil_ _ _ _, .inl rfl, fun k hk => .inl rfl⟩
    rw [List.take_zero, binsOf_nil]
    exact HOZ.out
  case round =>
    obtain ⟨k, vs, hk, rfl, lr, hB, hO, HFAR⟩ := hrel
    obtain ⟨w1, rfl⟩ : ∃ w1 : World, w1 = wr := ⟨_, rfl⟩
    have HB := Lib.hid hB; have HO := Lib.hid hO
    clear l0 lz HOZ hB
    obtain ⟨AO, mO, cO, rfl, hmO, _, _, _⟩ := hO.rd
    subst hmO
    clear hO
    by_cases hlt : k < xs.length
    · obtain ⟨b, o, rfl, hb, ⟨hxi, hxc⟩, c1, c2⟩ := HR.out.ltrU k hlt
      obtain ⟨x, hx⟩ : ∃ x, x = xs[k] := ⟨_, rfl⟩
      have HX := Lib.hid hx
      rw [← hx] at c1 c2 hxi hxc
      clear hx
      obtain ⟨wl, hwl⟩ : ∃ wl : World, wl = w1.alloc (Obj.cells #[.int .i64 x.id, .string x.code] 89) := ⟨_, rfl⟩
      have y0 := box_cells hwl 0 (.int .i64 x.id) rfl
      have y1 := box_cells hwl 1 (.string x.code) rfl
      have ll := later_trans lr (box_later hwl).1
      have BL := Lib.hid (box_later hwl).1
      have hll : w1.heap.size < wl.heap.size := (box_later hwl).2
      have HWL := Lib.hid hwl; clear hwl
      have hki : (k : Int) < (xs.length : Int) := by omega
      obtain ⟨b0, HB0⟩ : ∃ b0, Hid (binI p x.code k0 = b0) := ⟨_, rfl⟩
      go_wp2_with fail
      rw [← HWL.out]
      refine (impl_binOf _ p x.code k0 _ (HP.out.on ll) h1 h2 hk0 hord).mono ?_
      rw [HB0.out]
      rintro e w2 ⟨rfl, b2⟩
      have m2 := later_trans (Below.refl wl.heap.size wl) b2
      clear b2
      go_wp2_with fail
      go_loopw [14, 33] (fun t i wi => ∃ m : Nat, m ≤ ms.length ∧ i = .int .i64 m ∧ t = .int .i64 (misBin (ms.take m) x b0) ∧ Below wl.heap.size wl wi) (fun _ i _ => ms.length - (intOf i).toNat)
      case atStart => exact ⟨0, Nat.zero_le _, rfl, rfl, m2⟩
      case round =>
        obtain ⟨m, hm, rfl, rfl, li⟩ := hrel
        obtain ⟨w3, rfl⟩ : ∃ w3 : World, w3 = wr := ⟨_, rfl⟩
        have lw3 := later_trans ll li
        clear m2
        by_cases hmt : m < ms.length
        · obtain ⟨b', o', rfl, hb', ⟨hyi, hyb⟩, d1, d2⟩ := HM.out.misU m hmt
          have HMT := Lib.hid (misBin_take hmt x b0)
          generalize ms[m] = y at *
          have hmi : (m : Int) < (ms.length : Int) := by omega
          by_cases hyx : y.id = x.id
          · have hyx' : (y.id == x.id) = true := by simpa using hyx
            have HY := Lib.hid hyx; clear hyx
            go_wp2
            go_roundw
            case rel => exact ⟨m + 1, by omega, by go_num, by rw [HMT.out, if_pos HY.out], later_alloc li _⟩
            case measure => simp [intOf]; omega
          · have hyx' : (y.id == x.id) = false := by simpa using hyx
            have HY := Lib.hid hyx; clear hyx
            go_wp2
            go_roundw
            case rel => exact ⟨m + 1, by omega, by go_num, by rw [HMT.out, if_neg HY.out], later_alloc li _⟩
            case measure => simp [intOf]; omega
        · have HME := Lib.hid (show m = ms.length by omega)
          have HFXX : Hid (misBin (ms.take m) x b0 = f x) := by show _ = _; rw [HME.out, List.take_length, HFX.out, HB0.out]
          rw [HFXX.out]
          obtain ⟨fx1, fx2⟩ := HF.out x
          rw [← HFX.out] at fx1 fx2
          have HFXK : Hid (f xs[k] = f x) := by show _ = _; rw [← HX.out]
          have B3 := BL.out.trans (li.mono BL.out.size)
          have hs3 : w0.heap.size ≤ w3.heap.size := lw3.size
          have hs4 : wl.heap.size ≤ w3.heap.size := li.size
          have HB3 := Lib.hid (HB.out.below B3); have HO3 := Lib.hid (HO.out.below B3)
          have HZL : Hid ((restOf f (xs.take k)).length ≤ 1000) := by
            show _ ≤ _
            have := filter_len_le (fun x => decide (f x < 0)) xs k
            unfold restOf
            omega
          by_cases hneg : f x < 0
          · have HS1 := Lib.hid (binsOf_skip (f := f) (n := N) hlt (by rw [HFXK.out]; exact hneg))
            have HS2 := Lib.hid (restOf_step (f := f) hlt (by rw [HFXK.out]; exact hneg))
            have hzl := HZL.out
            go_wp2_with (at_builtin; refine wpList_append1' (α := Ltr) rfl (.tmp 47) (.tmp 49) 29 rfl w0.heap.size 89 i1 _ 24 Tryz.underlying29 ji jz0 jz1 jz2 rfl (by decide) (.slice AO (restOf f (xs.take k)).length cO) (restOf f (xs.take k)) x rfl (HO3.out.alloc _) ⟨w3.heap.size, 0, none⟩ 1 (Ltr.cells x) rfl ⟨⟨hxi, hxc⟩, rfl⟩ (news_at w3 _ (Ltr.cells x)) (by unfold maxLen; omega) (by omega) (by simp; omega) ?_; intro g cap w4 ho4 hg4 ha4 hl4)
            have HB4 := Lib.hid (farLL_grown (HB3.out.below ((Below.refl _ _).alloc (Nat.le_refl _) _)) HFAR.out hg4)
            have b4 : Below w0.heap.size w0 w4 := by
              refine (later_alloc lw3 (Obj.cells #[Value.int IntKind.i64 x.id, Value.string x.code] 89)).grown hg4 (by simp; omega) fun j hj => ?_
              exact (HO3.out.blk j hj).1
            have HFAR4 : Hid (farLL (.slice (some ⟨g, 0, none⟩) ((restOf f (xs.take k)).length + 1) cap) (.slice (some ⟨G, 0, none⟩) N N) vs) := farLL_app HB3.out HFAR.out ha4 (by simp)
            go_wp2
            go_roundw
            case rel => exact ⟨k + 1, vs, by omega, by go_num, b4, by rw [HS1.out]; exact HB4.out, by rw [HS2.out, ← HX.out]; exact ho4, HFAR4⟩
            case measure => simp [intOf]; omega
          · obtain ⟨d, hd⟩ := Int.eq_ofNat_of_zero_le (show 0 ≤ f x by omega)
            have hdN : d < N := by omega
            have HD := Lib.hid hd
            have HS2 := Lib.hid (restOf_skip (f := f) hlt (by rw [HFXK.out]; omega))
            have hlb : d < (binsOf f N (xs.take k)).length := by rw [binsOf_len]; exact hdN
            have HS1 := Lib.hid (binsOf_step (f := f) (n := N) (d := d) hlt (by rw [HFXK.out]; exact HD.out) hlb)
            obtain ⟨hlv, hov, hgv⟩ : ∃ hlv : d < vs.length, own 89 w0.heap.size w3 vs[d] (binsOf f N (xs.take k))[d] ∧ apart vs[d] (.slice (some ⟨G, 0, none⟩) N N) := by
              obtain ⟨z1, z2, z3, z4, z5⟩ := HB3.out
              exact ⟨by omega, z3 d (by omega) hlb, z5 d (by omega)⟩
            have hcG : w3.cell? ⟨G, d, none⟩ = some vs[d] := own_cellv HB3.out.1 d hlv
            have hfG : w3.frozen? ⟨G, d, none⟩ = false := HB3.out.1.freeAt d
            have hzl : (binsOf f N (xs.take k))[d].length ≤ 1000 := by
              rw [binsOf_get]
              have := filter_len_le (fun x => f x == (d : Int)) xs k
              omega
            obtain ⟨zs, hzs⟩ : ∃ zs, zs = (binsOf f N (xs.take k))[d] := ⟨_, rfl⟩
            have HZS := Lib.hid hzs
            rw [← hzs] at hov hzl
            clear hzs
            obtain ⟨u, hu⟩ : ∃ u, u = vs[d] := ⟨_, rfl⟩
            have HU := Lib.hid hu
            rw [← hu] at hov hgv hcG
            clear hu
            obtain ⟨Au, mu, cu, rfl, hmu, _, _, _⟩ := hov.rd
            subst hmu
            have HOV := Lib.hid hov; clear hov
            have HGV := Lib.hid hgv; clear hgv
            rw [HD.out]
            have hdn : (d : Int) < (N : Int) := by omega
            have hd0 : ¬ ((d : Int) < 0) := by omega
            have x0 := y0 w3 li
            have x1 := y1 w3 li
            have hGs : some G ≠ (Value.slice Au zs.length cu).ownBlock := by
              have h := HGV.out
              unfold apart at h
              rcases h with h | h
              · rw [h]; simp
              · exact fun e => h e.symm
            have HGS := Lib.hid hGs; clear hGs
            have hGlt : G < w3.heap.size := (HB3.out.1.blk G rfl).2
            go_wp2
            go_region_law (go_loud ((refine step_append1 (α := Ltr) (by rfl) (.tmp 56) (.tmp 58) 29 (by rfl) w0.heap.size 89 i1 _ 24 Tryz.underlying29 ji jz0 jz1 jz2 rfl (by decide) (.slice Au zs.length cu) zs x (by rfl) ((HOV.out.alloc _).drew) ⟨w3.heap.size, 0, none⟩ 1 (Ltr.cells x) (by rfl) ⟨⟨hxi, hxc⟩, rfl⟩ (news_drew w3 _ (Ltr.cells x)) (by unfold maxLen; omega) (by omega) (by simp; omega) ?_; intro g cap w4 ho4 hg4 ha4 hl4; have hcG4 : w4.cell? ⟨G, d, none⟩ = some (.slice Au zs.length cu) := (hg4.cell_far ⟨G, d, none⟩ (by simp; omega) HGS.out).trans (by go_simp); have hfG4 : w4.frozen? ⟨G, d, none⟩ = false := (hg4.frozen_far ⟨G, d, none⟩ (by simp; omega) HGS.out).trans (by go_simp))))
            all_goals
              have hWD : Below w3.heap.size w3 (w3.alloc (Obj.cells #[Value.int IntKind.i64 x.id, Value.string x.code] 89)).drew := later_drew (later_alloc (Below.refl _ _) _)
              obtain ⟨p1, p2, p3⟩ := place_step HB3.out HO3.out HFAR.out hWD hlv hlb HU.out HZS.out ho4 hg4 ha4
              have p4 := place_later (G := G) (d := d) (g := g) (m := zs.length + 1) (cap := cap) (later_drew (later_alloc lw3 (Obj.cells #[Value.int IntKind.i64 x.id, Value.string x.code] 89))) hg4 (fun j hj => (HOV.out.blk j hj).1) hG0
              have P1 := Lib.hid p1; have P2 := Lib.hid p2; have P3 := Lib.hid p3
              clear p1 p2 p3 hWD
              go_wp2
              go_roundw
              case rel => exact ⟨k + 1, _, by omega, by go_num, p4, by rw [HS1.out, ← HX.out]; exact P1.out, by rw [HS2.out]; exact P2.out, P3.out⟩
              case measure => simp [intOf]; omega
    · have HE := Lib.hid (show k = xs.length by omega)
      go_wp2
      go_ret2
      have hB := HB.out
      have hO := HO.out
      have hF := HFAR.out
      rw [HE.out, List.take_length] at hB hO hF ⊢
      exact ⟨_, _, vs, rfl, hB.base_ (Nat.le_of_lt hwlt), hO.base_ (Nat.le_of_lt hwlt), hF, later_trans HT.out lr⟩

end Go.Proofs.YtpinkbodbedajaaGreatDoor
