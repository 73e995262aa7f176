/- UD GR -/
import Derived.Test.YtffbcfaahegglaaDoorQ7
import Derived.Test.YtffbcfaahegglaaDoorQ6
import Derived.Test.YtffbcfaahegglaaDoorQ2
import Derived.Test.YtffbcfaahegglaaDoorQ8
namespace Go.Proofs.YtffbcfaahegglaaDoor
open Go.RowKit

def sumFw (fs : List Fwd) : Nat := (fs.map fun x => x.src.size + x.dst.size).sum
theorem sumFw_succ (xs : List Fwd) (k : Nat) (h : k < xs.length) : sumFw (xs.take (k + 1)) = sumFw (xs.take k) + (xs[k].src.size + xs[k].dst.size) := by
  unfold sumFw; rw [List.take_succ_eq_append_getElem h, List.map_append, List.sum_append]; simp
theorem sumFw_le (xs : List Fwd) (k : Nat) : sumFw (xs.take k) ≤ sumFw xs := by
  unfold sumFw
  conv => rhs; rw [← List.take_append_drop k xs, List.map_append, List.sum_append]
  omega


def szD (d : Dy) : Nat := szP d.plan + (d.fwds.length + sumFw d.fwds) + (d.held.length + sumStr d.held)




end Go.Proofs.YtffbcfaahegglaaDoor

namespace Go.Proofs.YtffbcfaahegglaaDoor
open Go.RowKit


theorem laws_eqRule (x y : Fwd) (w : World) :
    Calls Tryd.prog 109 #[.agg #[.string x.src, .string x.dst], .agg #[.string y.src, .string y.dst]] w fun e w' => e = .returned (.bool (fwdEq x y)) ∧ Below w.heap.size w w' := by
  have hB : Below w.heap.size w ((w.alloc (Obj.cells #[.string x.src, .string x.dst] 65)).alloc (Obj.cells #[.string y.src, .string y.dst] 65)) := ((Below.refl _ _).alloc (Nat.le_refl _) _).alloc (by simp) _
  cases h0 : sEq x.src y.src
  · have i0 := Lib.hid h0
    unfold sEq at h0
    go_enter Tryd.func109, Tryd.ntmps109
    go_wp2
    go_ret
    exact ⟨ret_bool (by simp [fwdEq, i0.out]), hB⟩
  · have i0 := Lib.hid h0
    unfold sEq at h0
    cases h1 : sEq x.dst y.dst
    · have i1 := Lib.hid h1
      unfold sEq at h1
      go_enter Tryd.func109, Tryd.ntmps109
      go_wp2
      go_ret
      exact ⟨ret_bool (by simp [fwdEq, i0.out, i1.out]), hB⟩
    · have i1 := Lib.hid h1
      unfold sEq at h1
      go_enter Tryd.func109, Tryd.ntmps109
      go_wp2
      go_ret
      exact ⟨ret_bool (by simp [fwdEq, i0.out, i1.out]), hB⟩

theorem Tryd.infoRul : (Tryd.prog.info? 65).map (fun i => (i.zero, i.size, i.bytes)) = some (some (.agg #[.string ⟨#[]⟩, .string ⟨#[]⟩]), 2, 32) := by kernel_rfl


set_option maxRecDepth 100000 in
set_option maxHeartbeats 400000 in
theorem laws_eqRuleS (v v' : Value) (xs ys : List Fwd) (w : World) (hv : rd w w.heap.size v xs) (hv' : rd w w.heap.size v' ys) :
    Calls Tryd.prog 89 #[v, v'] w fun e w' => e = .returned (.bool (eqBy fwdEq xs ys)) ∧ Below w.heap.size w w' := by
  obtain ⟨A, n, c, rfl, hn, hc, hm, hr⟩ := hv
  obtain ⟨A', n', c', rfl, hn', hc', hm', hr'⟩ := hv'
  subst hn hn'
  unfold maxLen at hm hm'
  have HR := Lib.hid hr; clear hr
  have HR' := Lib.hid hr'; clear hr'
  go_enter Tryd.func89, Tryd.ntmps89
  by_cases hl : xs.length = ys.length
  · have hl1 : ((xs.length : Int) != (ys.length : Int)) = false := by simp [hl]
    have HL := Lib.hid hl; clear hl
    go_wp2
    go_loopw [5] (fun i wr => ∃ k : Nat, k ≤ xs.length ∧ i = .int .i64 k ∧ Below w.heap.size w wr ∧ Hid (∀ j (h1 : j < xs.length) (h2 : j < ys.length), j < k → fwdEq xs[j] ys[j] = true)) (fun i _ => xs.length - (intOf i).toNat)
    case atStart => exact ⟨0, Nat.zero_le _, rfl, Below.refl _ _, fun j _ _ hj => absurd hj (Nat.not_lt_zero j)⟩
    case round =>
      obtain ⟨k, hk, rfl, hbl, HG⟩ := hrel
      obtain ⟨w1, rfl⟩ : ∃ w1 : World, w1 = wr := ⟨_, rfl⟩
      by_cases hlt : k < xs.length
      · have hlt' : k < ys.length := by rw [← HL.out]; exact hlt
        obtain ⟨b, o, rfl, hb, _, c1, c2⟩ := HR.out.fwd k hlt
        obtain ⟨b', o', rfl, hb', _, d1, d2⟩ := HR'.out.fwd k hlt'
        have hbad := Lib.hid (fun h => eqBy_bad (p := fwdEq) k hlt hlt' h)
        have HX : Hid (∀ h : fwdEq xs[k] ys[k] = true, ∀ j (h1 : j < xs.length) (h2 : j < ys.length), j < k + 1 → fwdEq xs[j] ys[j] = true) := fun h j h1 h2 hj => by
          by_cases hjk : j < k
          · exact HG.out j h1 h2 hjk
          · obtain rfl : j = k := by omega
            exact h
        generalize xs[k] = x at *
        generalize ys[k] = y at *
        have c1' : w1.cell? ⟨b, o + k * 2, none⟩ = some (.string x.src) := (hbl.cell (p := ⟨b, o + k * 2, none⟩) hb).trans c1
        have c2' : w1.cell? ⟨b, o + k * 2 + 1, none⟩ = some (.string x.dst) := (hbl.cell (p := ⟨b, o + k * 2 + 1, none⟩) hb).trans c2
        have d1' : w1.cell? ⟨b', o' + k * 2, none⟩ = some (.string y.src) := (hbl.cell (p := ⟨b', o' + k * 2, none⟩) hb').trans d1
        have d2' : w1.cell? ⟨b', o' + k * 2 + 1, none⟩ = some (.string y.dst) := (hbl.cell (p := ⟨b', o' + k * 2 + 1, none⟩) hb').trans d2
        clear c1 c2 d1 d2
        have hki : (k : Int) < (xs.length : Int) := by omega
        have hki' : (k : Int) < (ys.length : Int) := by omega
        have hb2 : Below w.heap.size w w1.drew := hbl.drew
        cases he : fwdEq x y
        · have he' := Lib.hid he; clear he
          go_wp2
          go_still_tail 8, (by kernel_rfl)
          change wpList _ _ _ _ _ w1.drew
          generalize w1.drew = w2 at *
          go_wp2_with (go_at_call 109; refine (laws_eqRule _ _ _).mono ?_; rw [he'.out]; rintro e w' ⟨rfl, hb3⟩)
          go_ret
          exact ⟨ret_bool (hbad.out he'.out).symm, hb2.trans (hb3.mono hb2.size)⟩
        · have he' := Lib.hid he; clear he
          go_wp2
          go_still_tail 8, (by kernel_rfl)
          change wpList _ _ _ _ _ w1.drew
          generalize w1.drew = w2 at *
          go_wp2_with (go_at_call 109; refine (laws_eqRule _ _ _).mono ?_; rw [he'.out]; rintro e w' ⟨rfl, hb3⟩)
          go_roundw
          case rel => exact ⟨k + 1, by omega, by go_num, hb2.trans (hb3.mono hb2.size), HX.out he'.out⟩
          case measure => simp [intOf]; omega
      · have HE := Lib.hid (show k = xs.length by omega)
        go_wp2
        go_ret
        exact ⟨ret_bool (eqBy_good HL.out fun j h1 h2 => HG.out j h1 h2 (by rw [HE.out]; exact h1)).symm, hbl⟩
  · have hl1 : ((xs.length : Int) != (ys.length : Int)) = true := by simp; omega
    have HL := Lib.hid hl; clear hl
    go_wp2
    go_ret
    exact ⟨ret_bool (eqBy_len HL.out).symm, Below.refl _ _⟩





end Go.Proofs.YtffbcfaahegglaaDoor
