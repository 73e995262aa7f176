/- B4 B6 -/
import Derived.Test.YtmangjjaijhcnaaQ20
import Derived.Test.YtmangjjaijhcnaaQ21
import Derived.Test.YtmangjjaijhcnaaQ15
namespace Go.Proofs.Ytmangjjaijhcnaa
open Go.RowKit

set_option maxRecDepth 100000 in
set_option maxHeartbeats 400000 in
theorem impl_copyLetters (v : Value) (xs : List Ltr) (w : World) (hv : rd w w.heap.size v xs) (hl : xs.length ≤ 1048576) :
    Calls Try.prog 131 #[v] w fun e w' => ∃ v', e = .returned v' ∧ own 55 w.heap.size w' v' xs ∧ Below w.heap.size w w' := by
  have hv0 := Lib.hid hv
  obtain ⟨A, n, c, rfl, hn, hc, hm, hr⟩ := hv
  subst hn
  clear hr
  obtain ⟨i0, hi, hz0, hz1, hz2⟩ := info_parts Try.infoLtr
  have hmk := make_row (P := Try.prog) 29 55 i0 _ Try.underlying29 hi hz0 xs.length (by rw [hz2]; omega) (by omega)
  go_enter Try.func131, Try.ntmps131
  go_wp2_with (refine wpList_copyAll (α := Ltr) (o := ⟨some 9, _, _, _, _, _⟩) rfl (.tmp 7) (.tmp 8) 29 29 rfl w.heap.size w.heap.size 55 i0 Try.underlying29 hi hz1 (by decide) (madeCells #[Value.int IntKind.i64 0, Value.string ⟨#[]⟩] (xs.length * 2)) (.slice A xs.length c) xs _ (hv0.out.on ((Below.refl _ _).alloc (Nat.le_refl _) _)) rfl rfl (heap_alloc_new w _) (by rw [size_madeCells]; rfl) (Nat.le_refl _) (by unfold maxLen; omega) ?_; intro w1 ho1 hg1)
  go_wp2
  go_ret
  exact ⟨_, rfl, ho1, below_of_grown (grown_trans' (World.grownBy_alloc w _ _) hg1) (Nat.le_refl _) (fun k hk => by injection hk; omega)⟩

end Go.Proofs.Ytmangjjaijhcnaa

namespace Go.Proofs.Ytmangjjaijhcnaa
open Go.RowKit

theorem outN_len (p : Pln) : ∀ (n k : Nat) (xs : List Ltr), (outN p k n xs).length ≤ n * xs.length
  | 0, _, _ => by simp [outN]
  | n + 1, k, xs => by
    show (restOf _ xs ++ outN p (k + 1) n (pass1 p k xs)).length ≤ _
    have h1 := outN_len p n (k + 1) (pass1 p k xs)
    have h2 := pass1_len p k xs
    have h3 : n * (pass1 p k xs).length ≤ n * xs.length := Nat.mul_le_mul_left _ h2
    have h4 : (restOf (fun x => binI p x.code k) xs).length ≤ xs.length := List.length_filter_le _ _
    rw [List.length_append, Nat.add_mul, Nat.one_mul]
    omega

set_option maxRecDepth 100000 in
set_option maxHeartbeats 1600000 in
theorem impl_doPasses (v vb : Value) (p : Pln) (xs : List Ltr) (k0 k1 : Nat) (w : World) (hv : rdP w w.heap.size v p) (hb : rd w w.heap.size vb xs)
    (h1 : 2 ≤ p.bins) (h2 : p.bins ≤ 16) (hk1 : k1 ≤ 4) (hk01 : k0 ≤ k1) (hord : p.order.length ≤ 1000) (hl : xs.length ≤ 500) :
    Calls Try.prog 98 #[v, vb, .int .i64 k0, .int .i64 k1] w fun e w' => ∃ vL vO, e = .returned (.tuple #[vL, vO]) ∧ own 55 w.heap.size w' vL (passesN p k0 (k1 - k0) xs) ∧ own 55 w.heap.size w' vO (outN p k0 (k1 - k0) xs) ∧ apart vL vO ∧ Below w.heap.size w w' := by
  obtain ⟨A0, c0, e0⟩ := openP hv
  obtain ⟨w0, hw0⟩ : ∃ w0, w0 = w.alloc (Obj.cells #[.int .i64 p.bins, .int .i64 p.passes, .slice A0 p.order.length c0] 25) := ⟨_, rfl⟩
  have q0 := box_cells hw0 0 (.int .i64 p.bins) rfl
  have q1 := box_cells hw0 1 (.int .i64 p.passes) rfl
  have q2 := box_cells hw0 2 (.slice A0 p.order.length c0) rfl
  have HT := Lib.hid (box_later hw0).1
  have HP := Lib.hid (hv.on HT.out)
  have HB := Lib.hid (hb.on HT.out)
  subst e0
  have HW0 := Lib.hid hw0; clear hw0 hv hb
  have l0 := Below.refl w0.heap.size w0
  obtain ⟨i1, ji, jz0, jz1, jz2⟩ := info_parts Try.infoLtr
  have hwlt : w.heap.size ≤ w0.heap.size := HT.out.size
  go_enter Try.func98, Try.ntmps98
  go_wp2_with fail
  rw [← HW0.out]
  refine (impl_copyLetters _ xs _ HB.out (by omega)).mono ?_
  rintro e w1 ⟨v1, rfl, o1, b1⟩
  have l1 := later_trans l0 b1
  have O1 := Lib.hid o1; clear o1 b1 l0
  go_wp2_with fail
  go_loopw [10, 11, 12] (fun t u i wr => ∃ j : Nat, j ≤ k1 - k0 ∧ i = .int .i64 ((k0 + j : Nat) : Int) ∧ Below w0.heap.size w0 wr ∧ own 55 w0.heap.size wr t (passesN p k0 j xs) ∧ own 55 w0.heap.size wr u (outN p k0 j xs) ∧ Hid (apart t u)) (fun _ _ i _ => k1 - (intOf i).toNat)
  case atStart => exact ⟨0, Nat.zero_le _, rfl, l1, O1.out, own.nil_ _ _ _, apart_symm (.inl rfl)⟩
  case round =>
    obtain ⟨j, hj, rfl, lr, hL, hO, HA⟩ := hrel
    obtain ⟨w2, rfl⟩ : ∃ w2 : World, w2 = wr := ⟨_, rfl⟩
    have HL := Lib.hid hL; have HO := Lib.hid hO
    obtain ⟨AO, mO, cO, rfl, hmO, _, _, _⟩ := hO.rd
    obtain ⟨AL, mL, cL, rfl, hmL, _, _, _⟩ := hL.rd
    subst hmO hmL
    clear hL hO l1 O1
    have HLL := Lib.hid (passesN_len p j k0 xs)
    have HOL := Lib.hid (outN_len p j k0 xs)
    have HS1 : Hid (passesN p k0 (j + 1) xs = (binsOf (fun x => binI p x.code (k0 + j)) p.bins.toNat (passesN p k0 j xs)).flatten) := passesN_succ p j k0 xs
    have HS2 : Hid (outN p k0 (j + 1) xs = outN p k0 j xs ++ restOf (fun x => binI p x.code (k0 + j)) (passesN p k0 j xs)) := outN_succ p j k0 xs
    generalize hys : passesN p k0 j xs = ys at *
    generalize hzs : outN p k0 j xs = zs at *
    have HYZ : Hid (passesN p k0 j xs = ys ∧ outN p k0 j xs = zs) := ⟨hys, hzs⟩
    clear hys hzs
    have hyl : ys.length ≤ 500 := by have := HLL.out; omega
    have hzl : zs.length ≤ 2000 := by
      have h := HOL.out
      have h3 : j * xs.length ≤ 4 * 500 := Nat.mul_le_mul (by omega) hl
      omega
    clear HLL HOL
    by_cases hlt : k0 + j < k1
    · have HPL := Lib.hid (fun W (hW : Below w0.heap.size w0 W) (hr : rd W W.heap.size (.slice AL ys.length cL) ys) => impl_placeLetters _ _ (.slice none 0 0) p ys (k0 + j) [] W (HP.out.on hW) hr rd.nil_ h1 h2 (by omega) hord (fun m hm => by simp at hm) (by omega))
      go_wp2_with fail
      refine (HPL.out _ lr HL.out.rd).mono ?_
      rintro e w3 ⟨vB, vO, vs, rfl, hB, hR, hF, b3⟩
      have hB' : isLL 29 55 w2.heap.size w3 vB (binsOf (fun x => binI p x.code (k0 + j)) p.bins.toNat ys) vs := hB
      have hR' : own 55 w2.heap.size w3 vO (restOf (fun x => binI p x.code (k0 + j)) ys) := hR
      have hfl : (binsOf (fun x => binI p x.code (k0 + j)) p.bins.toNat ys).flatten.length ≤ 1048576 := Nat.le_trans (flatten_length_binsOf ys) (by omega)
      have hrl : (restOf (fun x => binI p x.code (k0 + j)) ys).length ≤ 500 := Nat.le_trans (List.length_filter_le _ _) hyl
      generalize (binsOf (fun x => binI p x.code (k0 + j)) p.bins.toNat ys) = bs at *
      generalize (restOf (fun x => binI p x.code (k0 + j)) ys) = rs at *
      have l3 := later_trans lr b3
      have HB3 := Lib.hid (show rd w3 w3.heap.size vB bs from ownLL.rd ⟨vs, hB'⟩)
      have HR3 := Lib.hid hR'
      have HO3 := Lib.hid (HO.out.below b3)
      clear hB hB' hR hR' hF HL HA b3
      go_wp2_with fail
      refine (impl_joinBins _ bs _ HB3.out hfl).mono ?_
      rintro e w4 ⟨v4, rfl, o4, b4⟩
      have l4 := later_trans l3 b4
      have HA4 := Lib.hid (apart_gt o4 HO3.out (Nat.le_refl _))
      have O4 := Lib.hid (o4.base_ l3.size)
      have HR4 := Lib.hid (HR3.out.below b4)
      have HO4 := Lib.hid (HO3.out.below b4)
      clear o4 b4 HR3 HO3 HB3
      have hs4 : w0.heap.size ≤ w4.heap.size := l4.size
      obtain ⟨AR, mR, cR, hvr, hmR, _, _, _⟩ := HR4.out.rd
      subst hvr hmR
      go_wp2_with (at_builtin; refine wpList_appendAll (α := Ltr) rfl (.tmp 32) (.tmp 33) 29 rfl w0.heap.size 55 i1 _ 24 Try.underlying29 ji jz0 jz1 jz2 rfl (by decide) (.slice AO zs.length cO) zs rfl HO4.out (.slice AR rs.length cR) rs rfl w4.heap.size HR4.out.rd (by unfold maxLen; omega) (by omega) hs4 ?_; intro v5 w5 ho5 hg5 ha5)
      have l5 : Below w0.heap.size w0 w5 := l4.trans (below_append HO4.out hg5 hs4)
      have O5 := Lib.hid (O4.out.grown hg5 HA4.out)
      have HA5 : Hid (apart v4 v5) := by
        show apart _ _
        have h := HA4.out
        unfold apart at *
        rcases ha5 with e5 | e5
        · rw [e5]; exact h
        · cases hb4 : v4.ownBlock with
          | none => exact .inl rfl
          | some q =>
            refine .inr fun e => ?_
            rw [e5] at e
            injection e with e
            have := (O4.out.blk q hb4).2
            omega
      go_wp2
      go_roundw
      case rel => exact ⟨j + 1, by omega, by go_num, l5, by rw [HS1.out]; exact O5.out, by rw [HS2.out]; exact ho5, HA5⟩
      case measure => simp [intOf]; omega
    · have HE := Lib.hid (show k1 - k0 = j by omega)
      go_wp2
      go_ret2
      rw [HE.out]
      exact ⟨_, _, rfl, by rw [HYZ.out.1]; exact HL.out.base_ hwlt, by rw [HYZ.out.2]; exact HO.out.base_ hwlt, HA.out, later_trans HT.out lr⟩

/-- Whether bins are those of a batch. -/
def collectOk (xss : List (List Ltr)) : Bool := decide (xss.length ≤ 60) && okB xss.flatten
def collected (xss : List (List Ltr)) : List Ltr := if collectOk xss then xss.flatten else []
theorem collected_no {xss : List (List Ltr)} (h : collectOk xss = false) : collected xss = [] := by unfold collected; rw [h]; rfl
theorem collected_yes {xss : List (List Ltr)} (h : collectOk xss = true) : collected xss = xss.flatten := by unfold collected; rw [if_pos h]
theorem flatten_take_len {α : Type} (xss : List (List α)) (k : Nat) : (xss.take k).flatten.length ≤ xss.flatten.length := by
  conv => rhs; rw [← List.take_append_drop k xss, List.flatten_append, List.length_append]
  omega
theorem okB_long {xs : List Ltr} (h : 60 < xs.length) : okB xs = false := by unfold okB; rw [decide_eq_false (by omega)]; rfl


end Go.Proofs.Ytmangjjaijhcnaa
