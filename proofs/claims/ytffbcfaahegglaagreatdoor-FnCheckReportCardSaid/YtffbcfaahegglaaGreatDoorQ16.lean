/- MK MK2 GFwd -/
import Derived.Test.YtffbcfaahegglaaGreatDoorQ15
import Derived.Test.YtffbcfaahegglaaGreatDoorQ5
import Derived.Test.YtffbcfaahegglaaGreatDoorQ4
import Derived.StillTailTactics
import Derived.Handy
namespace Go.Proofs.YtffbcfaahegglaaGreatDoor
open Go.RowKit

def marksLL (k0 : Nat) (xss : List (List Ltr)) : List (List Ltr) := (List.range xss.length).map fun i => marksL (k0 + 2 * (xss.take i).flatten.length) (xss.getD i []).length
theorem marksLL_len (k0 : Nat) (xss : List (List Ltr)) : (marksLL k0 xss).length = xss.length := by simp [marksLL]
theorem marksLL_get (k0 : Nat) (xss : List (List Ltr)) (i : Nat) (h : i < (marksLL k0 xss).length) : (marksLL k0 xss)[i] = marksL (k0 + 2 * (xss.take i).flatten.length) (xss[i]'(by rw [marksLL_len] at h; exact h)).length := by
  have h' : i < xss.length := by rw [marksLL_len] at h; exact h
  simp [marksLL, h']
/-- A row of rows and a row beside it, of the call's own, in blocks before hi. -/
def seg2 (T1 T2 lo hi : Nat) (w : World) (vB vO : Value) (xss : List (List Ltr)) (ys : List Ltr) : Prop :=
  ∃ vs, isLL T1 T2 lo w vB xss vs ∧ own T2 lo w vO ys ∧ farLL vO vB vs ∧ (∀ k, vB.ownBlock = some k → k < hi) ∧ (∀ i (h : i < vs.length) k, vs[i].ownBlock = some k → k < hi) ∧ ∀ k, vO.ownBlock = some k → k < hi
section
variable {T1 T2 lo hi : Nat} {w w' : World} {vB vO : Value} {xss : List (List Ltr)} {ys : List Ltr}
theorem seg2.of {vs : List Value} (h : isLL T1 T2 lo w vB xss vs) (ho : own T2 lo w vO ys) (hf : farLL vO vB vs) : seg2 T1 T2 lo w.heap.size w vB vO xss ys :=
  ⟨vs, h, ho, hf, fun k hk => (h.1.blk k hk).2, fun i hi k hk => ((h.2.2.1 i hi (by have := h.2.1; omega)).blk k hk).2, fun k hk => (ho.blk k hk).2⟩
theorem seg2.alone (h : ownLL T1 T2 lo w vB xss) : seg2 T1 T2 lo w.heap.size w vB (.slice none 0 0) xss [] := by
  obtain ⟨vs, h⟩ := h
  exact seg2.of h (own.nil_ _ _ _) ⟨.inl rfl, fun k hk => .inl rfl⟩
theorem seg2.below (h : seg2 T1 T2 lo hi w vB vO xss ys) (hb : Below w.heap.size w w') : seg2 T1 T2 lo hi w' vB vO xss ys := by
  obtain ⟨vs, h1, h2, h3, h4, h5, h6⟩ := h
  exact ⟨vs, h1.below hb, h2.below hb, h3, h4, h5, h6⟩
theorem seg2.out {a b : Nat} (h : seg2 T1 T2 lo hi w vB vO xss ys) (ho : OutI a b w w') (hd : hi ≤ a ∨ b ≤ lo) : seg2 T1 T2 lo hi w' vB vO xss ys := by
  obtain ⟨vs, ⟨g1, g2, g3, g4, g5⟩, h2, h3, h4, h5, h6⟩ := h
  refine ⟨vs, ⟨g1.keepBlk fun k hk => ho.block k (g1.blk k hk).2 (by have q1 := (g1.blk k hk).1; have q2 := h4 k hk; omega), g2, fun i hi hi' => ?_, g4, g5⟩, h2.keepBlk fun k hk => ho.block k (h2.blk k hk).2 (by have q1 := (h2.blk k hk).1; have q2 := h6 k hk; omega), h3, h4, h5, h6⟩
  exact (g3 i hi hi').keepBlk fun k hk => ho.block k ((g3 i hi hi').blk k hk).2 (by have q1 := ((g3 i hi hi').blk k hk).1; have q2 := h5 i hi k hk; omega)
theorem seg2.rdB (h : seg2 T1 T2 lo hi w vB vO xss ys) : rd w w.heap.size vB xss := by
  obtain ⟨vs, h1, _⟩ := h
  exact ownLL.rd ⟨vs, h1⟩
theorem seg2.rdO (h : seg2 T1 T2 lo hi w vB vO xss ys) : rd w w.heap.size vO ys := by
  obtain ⟨vs, h1, h2, _⟩ := h
  exact h2.rd
end




end Go.Proofs.YtffbcfaahegglaaGreatDoor

namespace Go.Proofs.YtffbcfaahegglaaGreatDoor
open Go.RowKit



end Go.Proofs.YtffbcfaahegglaaGreatDoor

namespace Go.Proofs.YtffbcfaahegglaaGreatDoor
open Go.RowKit

theorem laws_toForward (x : Fwd) (w : World) :
    Calls Tryz.prog 65 #[.agg #[.string x.src, .string x.dst]] w fun e w' => e = .returned (.agg #[.string x.src, .string x.dst]) ∧ Below w.heap.size w w' := by
  go_enter Tryz.func65, Tryz.ntmps65
  go_wp2
  refine bodyPost_ret (v := .agg #[.string x.src, .string x.dst]) (by simp [results, Tryz.results65, go_sem]) rfl ⟨rfl, ?_⟩
  go_grown

def fwdEq (x y : Fwd) : Bool := sEq x.src y.src && sEq x.dst y.dst
theorem fwdEq_iff (x y : Fwd) : fwdEq x y = true ↔ x = y := by
  cases x; cases y; simp [fwdEq, sEq_iff]
theorem laws_eqForward (x y : Fwd) (w : World) :
    Calls Tryz.prog 66 #[.agg #[.string x.src, .string x.dst], .agg #[.string y.src, .string y.dst]] w fun e w' => e = .returned (.bool (fwdEq x y)) ∧ Below w.heap.size w w' := by
  have hB : Below w.heap.size w ((w.alloc (Obj.cells #[.string x.src, .string x.dst] 106)).alloc (Obj.cells #[.string y.src, .string y.dst] 106)) := ((Below.refl _ _).alloc (Nat.le_refl _) _).alloc (by simp) _
  cases h0 : sEq x.src y.src
  · have i0 := Lib.hid h0
    unfold sEq at h0
    go_enter Tryz.func66, Tryz.ntmps66
    go_wp2
    go_ret
    exact ⟨ret_bool (by simp [fwdEq, i0.out]), hB⟩
  · have i0 := Lib.hid h0
    unfold sEq at h0
    cases h1 : sEq x.dst y.dst
    · have i1 := Lib.hid h1
      unfold sEq at h1
      go_enter Tryz.func66, Tryz.ntmps66
      go_wp2
      go_ret
      exact ⟨ret_bool (by simp [fwdEq, i0.out, i1.out]), hB⟩
    · have i1 := Lib.hid h1
      unfold sEq at h1
      go_enter Tryz.func66, Tryz.ntmps66
      go_wp2
      go_ret
      exact ⟨ret_bool (by simp [fwdEq, i0.out, i1.out]), hB⟩

theorem Tryz.infoFwd : (Tryz.prog.info? 106).map (fun i => (i.zero, i.size, i.bytes)) = some (some (.agg #[.string ⟨#[]⟩, .string ⟨#[]⟩]), 2, 32) := by kernel_rfl

set_option maxHeartbeats 400000 in
theorem laws_toForwardS (v : Value) (xs : List Fwd) (w : World) (hv : rd w w.heap.size v xs) (hl : xs.length ≤ 1048576) :
    Calls Tryz.prog 36 #[v] w fun e w' => ∃ v', e = .returned v' ∧ own 106 w.heap.size w' v' xs ∧ Below w.heap.size w w' := by
  obtain ⟨A, n, c, rfl, hn, hc, hm, hr⟩ := hv
  subst hn
  unfold maxLen at hm
  have HR := Lib.hid hr; clear hr
  obtain ⟨i0, hi, hz0, hz1, hz2⟩ := info_parts Tryz.infoFwd
  have hmk := make_row (P := Tryz.prog) 26 106 i0 _ Tryz.underlying26 hi hz0 xs.length (by rw [hz2]; omega) (by omega)
  go_enter Tryz.func36, Tryz.ntmps36
  go_wp2
  have hf0 : filled 106 (w.alloc (Obj.cells (madeCells #[.string ⟨#[]⟩, .string ⟨#[]⟩] (xs.length * 2)) 106)) w.heap.size xs.length 0 xs := filled.made w _ _ _ (by rw [size_madeCells]; rfl) xs
  have hb0 : Below w.heap.size w (w.alloc (Obj.cells (madeCells #[.string ⟨#[]⟩, .string ⟨#[]⟩] (xs.length * 2)) 106)) := (Below.refl _ _).alloc (Nat.le_refl _) _
  generalize w.alloc (Obj.cells (madeCells #[.string ⟨#[]⟩, .string ⟨#[]⟩] (xs.length * 2)) 106) = w0 at *
  clear hmk
  go_loopw [4] (fun i wr => ∃ k : Nat, k ≤ xs.length ∧ i = .int .i64 k ∧ Below w.heap.size w wr ∧ filled 106 wr w.heap.size xs.length k xs) (fun i _ => xs.length - (intOf i).toNat)
  case atStart => exact ⟨0, Nat.zero_le _, rfl, hb0, hf0⟩
  case round =>
    obtain ⟨k, hk, rfl, hbl, hf⟩ := hrel
    obtain ⟨w1, rfl⟩ : ∃ w1 : World, w1 = wr := ⟨_, rfl⟩
    clear hf0 hb0
    by_cases hlt : k < xs.length
    · obtain ⟨b, o, rfl, hb, hok, c1, c2⟩ := HR.out.fwd k hlt
      have HST := Lib.hid (fun (W : World) (hF : filled 106 W w.heap.size xs.length k xs) => hF.step hlt (Nat.le_refl _) (ecs := xs[k].cells) ⟨hok, rfl⟩)
      generalize xs[k] = x at *
      have c1' : w1.cell? ⟨b, o + k * 2, none⟩ = some (.string x.src) := (hbl.cell (p := ⟨b, o + k * 2, none⟩) hb).trans c1
      have c2' : w1.cell? ⟨b, o + k * 2 + 1, none⟩ = some (.string x.dst) := (hbl.cell (p := ⟨b, o + k * 2 + 1, none⟩) hb).trans c2
      clear c1 c2
      have HF := Lib.hid hf; clear hf
      go_wp2_with fail
      refine (laws_toForward _ _).mono ?_
      rintro e w2 ⟨rfl, hb3⟩
      have hf2 := HF.out.below hb3
      have hb2 := hbl.trans (hb3.mono hbl.size)
      obtain ⟨u0, g0⟩ := hf2.cell (j := k * 2) (by show _ < _ * 2; omega)
      obtain ⟨u1, g1⟩ := hf2.cell (j := k * 2 + 1) (by show _ < _ * 2; omega)
      have f0 := hf2.free (k * 2)
      have f1 := hf2.free (k * 2 + 1)
      have HF2 := Lib.hid hf2; clear hf2
      go_wp2_with fail
      go_roundw
      case rel => exact ⟨k + 1, by omega, by go_num, hb2.trans (setAll_below x.cells w2 (k * 2) _ (Nat.le_refl _)), HST.out w2 HF2.out⟩
      case measure => simp [intOf]; omega
    · have HE := Lib.hid (show k = xs.length by omega)
      have HF := Lib.hid hf; clear hf
      go_wp2
      go_ret
      exact ⟨_, rfl, (HE.out ▸ HF.out : filled _ _ _ _ xs.length _).own rfl (Nat.le_refl _) (by unfold maxLen; omega), hbl⟩

set_option maxRecDepth 100000 in
set_option maxHeartbeats 400000 in
theorem laws_eqForwardS (v v' : Value) (xs ys : List Fwd) (w : World) (hv : rd w w.heap.size v xs) (hv' : rd w w.heap.size v' ys) :
    Calls Tryz.prog 40 #[v, v'] w fun e w' => e = .returned (.bool (eqBy fwdEq xs ys)) ∧ Below w.heap.size w w' := by
  obtain ⟨A, n, c, rfl, hn, hc, hm, hr⟩ := hv
  obtain ⟨A', n', c', rfl, hn', hc', hm', hr'⟩ := hv'
  subst hn hn'
  unfold maxLen at hm hm'
  have HR := Lib.hid hr; clear hr
  have HR' := Lib.hid hr'; clear hr'
  go_enter Tryz.func40, Tryz.ntmps40
  by_cases hl : xs.length = ys.length
  · have hl1 : ((xs.length : Int) != (ys.length : Int)) = false := by simp [hl]
    have HL := Lib.hid hl; clear hl
    go_wp2
    go_loopw [5] (fun i wr => ∃ k : Nat, k ≤ xs.length ∧ i = .int .i64 k ∧ Below w.heap.size w wr ∧ Hid (∀ j (h1 : j < xs.length) (h2 : j < ys.length), j < k → fwdEq xs[j] ys[j] = true)) (fun i _ => xs.length - (intOf i).toNat)
    case atStart => exact ⟨0, Nat.zero_le _, rfl, Below.refl _ _, fun j _ _ hj => absurd hj (Nat.not_lt_zero j)⟩
    case round =>
      obtain ⟨k, hk, rfl, hbl, HG⟩ := hrel
      obtain ⟨w1, rfl⟩ : ∃ w1 : World, w1 = wr := ⟨_, rfl⟩
      by_cases hlt : k < xs.length
      · have hlt' : k < ys.length := by rw [← HL.out]; exact hlt
        obtain ⟨b, o, rfl, hb, _, c1, c2⟩ := HR.out.fwd k hlt
        obtain ⟨b', o', rfl, hb', _, d1, d2⟩ := HR'.out.fwd k hlt'
        have hbad := Lib.hid (fun h => eqBy_bad (p := fwdEq) k hlt hlt' h)
        have HX : Hid (∀ h : fwdEq xs[k] ys[k] = true, ∀ j (h1 : j < xs.length) (h2 : j < ys.length), j < k + 1 → fwdEq xs[j] ys[j] = true) := fun h j h1 h2 hj => by
          by_cases hjk : j < k
          · exact HG.out j h1 h2 hjk
          · obtain rfl : j = k := by omega
            exact h
        generalize xs[k] = x at *
        generalize ys[k] = y at *
        have c1' : w1.cell? ⟨b, o + k * 2, none⟩ = some (.string x.src) := (hbl.cell (p := ⟨b, o + k * 2, none⟩) hb).trans c1
        have c2' : w1.cell? ⟨b, o + k * 2 + 1, none⟩ = some (.string x.dst) := (hbl.cell (p := ⟨b, o + k * 2 + 1, none⟩) hb).trans c2
        have d1' : w1.cell? ⟨b', o' + k * 2, none⟩ = some (.string y.src) := (hbl.cell (p := ⟨b', o' + k * 2, none⟩) hb').trans d1
        have d2' : w1.cell? ⟨b', o' + k * 2 + 1, none⟩ = some (.string y.dst) := (hbl.cell (p := ⟨b', o' + k * 2 + 1, none⟩) hb').trans d2
        clear c1 c2 d1 d2
        have hki : (k : Int) < (xs.length : Int) := by omega
        have hki' : (k : Int) < (ys.length : Int) := by omega
        have hb2 : Below w.heap.size w w1.drew := hbl.drew
        cases he : fwdEq x y
        · have he' := Lib.hid he; clear he
          go_wp2
          go_still_tail 8, (by kernel_rfl)
          change wpList _ _ _ _ _ w1.drew
          generalize w1.drew = w2 at *
          go_wp2_with (go_at_call 66; refine (laws_eqForward _ _ _).mono ?_; rw [he'.out]; rintro e w' ⟨rfl, hb3⟩)
          go_ret
          exact ⟨ret_bool (hbad.out he'.out).symm, hb2.trans (hb3.mono hb2.size)⟩
        · have he' := Lib.hid he; clear he
          go_wp2
          go_still_tail 8, (by kernel_rfl)
          change wpList _ _ _ _ _ w1.drew
          generalize w1.drew = w2 at *
          go_wp2_with (go_at_call 66; refine (laws_eqForward _ _ _).mono ?_; rw [he'.out]; rintro e w' ⟨rfl, hb3⟩)
          go_roundw
          case rel => exact ⟨k + 1, by omega, by go_num, hb2.trans (hb3.mono hb2.size), HX.out he'.out⟩
          case measure => simp [intOf]; omega
      · have HE := Lib.hid (show k = xs.length by omega)
        go_wp2
        go_ret
        exact ⟨ret_bool (eqBy_good HL.out fun j h1 h2 => HG.out j h1 h2 (by rw [HE.out]; exact h1)).symm, hbl⟩
  · have hl1 : ((xs.length : Int) != (ys.length : Int)) = true := by simp; omega
    have HL := Lib.hid hl; clear hl
    go_wp2
    go_ret
    exact ⟨ret_bool (eqBy_len HL.out).symm, Below.refl _ _⟩

end Go.Proofs.YtffbcfaahegglaaGreatDoor
