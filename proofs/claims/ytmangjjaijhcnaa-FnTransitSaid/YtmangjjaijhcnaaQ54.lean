/- ND -/
import Derived.Test.YtmangjjaijhcnaaQ52
namespace Go.Proofs.Ytmangjjaijhcnaa
open Go.RowKit

/-- Drawn: a network, an office's name, letters. -/
def drawTPost (T1 T2 T3 : Nat) (w : World) (e : Ending) (w' : World) : Prop :=
  ∃ (v vb : Value) (net : List Ofc) (s : ByteArray) (xs : List Ltr), e = .returned (.tuple #[v, .string s, vb]) ∧ drN T1 T2 w.heap.size w' v net ∧ net.length ≤ 4 ∧ s.size ≤ maxLen ∧ own T3 w.heap.size w' vb xs ∧ xs.length ≤ 61 ∧ Below w.heap.size w w'

set_option maxRecDepth 100000 in
set_option maxHeartbeats 1600000 in
theorem draw_DrawTransitCount (v : Value) (bs : List UInt8) (w : World) (hv : rd w w.heap.size v bs) :
    Calls Try.prog 24 #[v] w (drawTPost 65 67 55 w) := by
  have HV := Lib.hid hv
  clear hv
  go_enter Try.func24, Try.ntmps24
  go_wp2_with fail
  refine (rd_open _ bs _ HV.out).mono ?_
  rintro e w1 ⟨g, rfl, hg, hr1, b1⟩
  have hlt := hr1.lt
  have hz1 := b1.size
  go_wp2_with fail
  refine (draw_DrawRoutePath _ bs _ (HV.out.on b1)).mono ?_
  rintro e w2 ⟨v2, net, s, t, rfl, hn2, hl4, _, hs, _, b2⟩
  have hr2 := hr1.below b2
  have b02 : Below w.heap.size w w2 := b1.trans (b2.mono hz1)
  have HN2 := Lib.hid hn2
  have HS := Lib.hid hs
  have hz2 := b2.size
  have hlt2 := hr2.lt
  clear hn2 hs b2 hr1 b1
  go_wp2_with fail
  refine (rd_l2Some g 0 1 _ hr2 (by omega) (by omega) (by omega)).mono ?_
  rintro e w3 ⟨vb, xs, p3, rfl, ob, hxl, hx7, hr3, hp3, hg3⟩
  have k3 : kept2 g w2.heap.size w2 w3 := kept2.grown hg3 (Nat.le_refl _)
  have HB := Lib.hid ob
  have H7 := Lib.hid hx7
  obtain ⟨Ax, mx, cx, hvx, hmx, _, _, _⟩ := ob.rd
  subst hmx hvx
  clear ob hx7 hg3 hr2
  go_wp2_with fail
  go_loopw [10] (fun i wr => ∃ (k : Nat) (ys : List Ltr) (q : Nat), k ≤ xs.length ∧ i = .int .i64 k ∧ Hid (own 55 w2.heap.size wr (.slice Ax xs.length cx) ys) ∧ Hid (ys.length = xs.length) ∧ Hid (∀ y ∈ ys, y.code.size = 7) ∧ rdr wr g q ∧ q ≤ p3 + 3 * k ∧ kept2 g w2.heap.size w2 wr) (fun i _ => xs.length - (intOf i).toNat)
  case atStart => exact ⟨0, xs, p3, Nat.zero_le _, rfl, HB.out, rfl, H7.out, hr3, by omega, k3⟩
  case round =>
    obtain ⟨k, ys, q, hk, rfl, HO, HL, HY, hrq, hqb, kr⟩ := hrel
    obtain ⟨w4, rfl⟩ : ∃ w4 : World, w4 = wr := ⟨_, rfl⟩
    clear hr3 k3
    by_cases hlt' : k < xs.length
    · have hki : (k : Int) < (xs.length : Int) := by omega
      have hki0 : (0 : Int) ≤ (k : Int) := by omega
      have hky : k < ys.length := by rw [HL.out]; exact hlt'
      obtain ⟨gb, cb', hvs, hgb, hgbl, _, _⟩ : ∃ gb cb', Value.slice Ax xs.length cx = .slice (some ⟨gb, 0, none⟩) ys.length cb' ∧ w2.heap.size ≤ gb ∧ gb < w4.heap.size ∧ ys.length ≤ cb' ∧ cb' ≤ maxLen := by
        rcases HO.out.form with ⟨_, h0⟩ | ⟨gb, cb', h1, h2, h3, h4, h5⟩
        · rw [h0] at hky; simp at hky
        · exact ⟨gb, cb', h1, h2, h3, h4, h5⟩
      injection hvs with e1 e2 e3
      subst e1
      clear e2 e3
      go_wp2_with fail
      refine (rd_l6Head g q _ hrq (by omega)).mono ?_
      rintro e w5 ⟨u, rfl, hu, hr5, hg5⟩
      have ho5 := HO.out.grown hg5 (own_ne HO.out hlt2)
      obtain ⟨u1, g1⟩ := ho5.cellAt (j := k * 2 + 1) (by show _ < _ * 2; omega)
      have f1 := ho5.freeAt (k * 2 + 1)
      have hus : u.size ≤ maxLen := by unfold maxLen; omega
      have HO6 := Lib.hid (ho5.setCell (k := k) (j := 1) hky (by decide) (.string u) ⟨ys[k].id, u⟩ (fun ecs he => by
        obtain ⟨⟨h1, _⟩, rfl⟩ := he
        exact ⟨⟨h1, hus⟩, rfl⟩))
      have HR : Hid (rdr (w5.setCell ⟨gb, k * 2 + 1, none⟩ (.string u)) g (q + 3)) := hr5.grown (g' := gb) (grown_setCell (World.grownBy.refl _ _) (.inl rfl) _) (by omega)
      have HK : Hid (kept2 g w2.heap.size w2 (w5.setCell ⟨gb, k * 2 + 1, none⟩ (.string u))) := (kr.step hg5 (Nat.le_refl _)).trans (kept2.below ((Below.refl _ _).setCell (p := ⟨gb, k * 2 + 1, none⟩) hgb _))
      have HU := Lib.hid hu
      clear ho5 hg5 hu
      go_wp2_with fail
      go_roundw
      case rel =>
        refine ⟨k + 1, _, q + 3, by omega, by go_num, HO6.out, by show _ = _; rw [List.length_set]; exact HL.out, fun y hy => ?_, HR.out, by omega, HK.out⟩
        rcases List.mem_or_eq_of_mem_set hy with h | h
        · exact HY.out y h
        · rw [h]; exact HU.out
      case measure => simp [intOf]; omega
    · have hyl : ys.length ≤ 20 := by rw [HL.out]; omega
      go_wp2_with fail
      refine (rd_l2Bad g q w2.heap.size _ ys _ hrq (by omega) HO.out (by omega) hyl HY.out).mono ?_
      rintro e w5 ⟨v5, zs, q5, rfl, o5, hl5, hr5, hq5, k5, _⟩
      have kk := kr.trans k5
      have HN5 := Lib.hid (HN2.out.keepBlk (w' := w5) fun j h1 h2 => kk.block j h2 (by omega))
      have b5 : Below w.heap.size w w5 := b02.trans (kk.toBelow (by omega) (by omega))
      have HO5 := Lib.hid o5
      clear o5 k5 kk
      go_wp2_with fail
      go_ret3
      exact ⟨_, v5, net, s, zs, rfl, HN5.out.base_ (by omega), hl4, HS.out, HO5.out.base_ (by omega), hl5, b5⟩

end Go.Proofs.Ytmangjjaijhcnaa
