/- GR -/
import Derived.Test.YtmangjjaijhcnaaQ2
import Derived.Test.YtmangjjaijhcnaaQ5
import Derived.Test.YtmangjjaijhcnaaQ8
namespace Go.Proofs.Ytmangjjaijhcnaa
open Go.RowKit

theorem laws_toRule (x : Fwd) (w : World) :
    Calls Try.prog 164 #[.agg #[.string x.src, .string x.dst]] w fun e w' => e = .returned (.agg #[.string x.src, .string x.dst]) ∧ Below w.heap.size w w' := by
  go_enter Try.func164, Try.ntmps164
  go_wp2
  refine bodyPost_ret (v := .agg #[.string x.src, .string x.dst]) (by simp [results, Try.results164, go_sem]) rfl ⟨rfl, ?_⟩
  go_grown

theorem laws_eqRule (x y : Fwd) (w : World) :
    Calls Try.prog 169 #[.agg #[.string x.src, .string x.dst], .agg #[.string y.src, .string y.dst]] w fun e w' => e = .returned (.bool (fwdEq x y)) ∧ Below w.heap.size w w' := by
  have hB : Below w.heap.size w ((w.alloc (Obj.cells #[.string x.src, .string x.dst] 67)).alloc (Obj.cells #[.string y.src, .string y.dst] 67)) := ((Below.refl _ _).alloc (Nat.le_refl _) _).alloc (by simp) _
  cases h0 : sEq x.src y.src
  · have i0 := Lib.hid h0
    unfold sEq at h0
    go_enter Try.func169, Try.ntmps169
    go_wp2
    go_ret
    exact ⟨ret_bool (by simp [fwdEq, i0.out]), hB⟩
  · have i0 := Lib.hid h0
    unfold sEq at h0
    cases h1 : sEq x.dst y.dst
    · have i1 := Lib.hid h1
      unfold sEq at h1
      go_enter Try.func169, Try.ntmps169
      go_wp2
      go_ret
      exact ⟨ret_bool (by simp [fwdEq, i0.out, i1.out]), hB⟩
    · have i1 := Lib.hid h1
      unfold sEq at h1
      go_enter Try.func169, Try.ntmps169
      go_wp2
      go_ret
      exact ⟨ret_bool (by simp [fwdEq, i0.out, i1.out]), hB⟩

theorem Try.infoRul : (Try.prog.info? 67).map (fun i => (i.zero, i.size, i.bytes)) = some (some (.agg #[.string ⟨#[]⟩, .string ⟨#[]⟩]), 2, 32) := by kernel_rfl

set_option maxHeartbeats 400000 in
theorem laws_toRuleS (v : Value) (xs : List Fwd) (w : World) (hv : rd w w.heap.size v xs) (hl : xs.length ≤ 1048576) :
    Calls Try.prog 116 #[v] w fun e w' => ∃ v', e = .returned v' ∧ own 67 w.heap.size w' v' xs ∧ Below w.heap.size w w' := by
  obtain ⟨A, n, c, rfl, hn, hc, hm, hr⟩ := hv
  subst hn
  unfold maxLen at hm
  have HR := Lib.hid hr; clear hr
  obtain ⟨i0, hi, hz0, hz1, hz2⟩ := info_parts Try.infoRul
  have hmk := make_row (P := Try.prog) 63 67 i0 _ Try.underlying63 hi hz0 xs.length (by rw [hz2]; omega) (by omega)
  go_enter Try.func116, Try.ntmps116
  go_wp2
  have hf0 : filled 67 (w.alloc (Obj.cells (madeCells #[.string ⟨#[]⟩, .string ⟨#[]⟩] (xs.length * 2)) 67)) w.heap.size xs.length 0 xs := filled.made w _ _ _ (by rw [size_madeCells]; rfl) xs
  have hb0 : Below w.heap.size w (w.alloc (Obj.cells (madeCells #[.string ⟨#[]⟩, .string ⟨#[]⟩] (xs.length * 2)) 67)) := (Below.refl _ _).alloc (Nat.le_refl _) _
  generalize w.alloc (Obj.cells (madeCells #[.string ⟨#[]⟩, .string ⟨#[]⟩] (xs.length * 2)) 67) = w0 at *
  clear hmk
  go_loopw [4] (fun i wr => ∃ k : Nat, k ≤ xs.length ∧ i = .int .i64 k ∧ Below w.heap.size w wr ∧ filled 67 wr w.heap.size xs.length k xs) (fun i _ => xs.length - (intOf i).toNat)
  case atStart => exact ⟨0, Nat.zero_le _, rfl, hb0, hf0⟩
  case round =>
    obtain ⟨k, hk, rfl, hbl, hf⟩ := hrel
    obtain ⟨w1, rfl⟩ : ∃ w1 : World, w1 = wr := ⟨_, rfl⟩
    clear hf0 hb0
    by_cases hlt : k < xs.length
    · obtain ⟨b, o, rfl, hb, hok, c1, c2⟩ := HR.out.fwd k hlt
      have HST := Lib.hid (fun (W : World) (hF : filled 67 W w.heap.size xs.length k xs) => hF.step hlt (Nat.le_refl _) (ecs := xs[k].cells) ⟨hok, rfl⟩)
      generalize xs[k] = x at *
      have c1' : w1.cell? ⟨b, o + k * 2, none⟩ = some (.string x.src) := (hbl.cell (p := ⟨b, o + k * 2, none⟩) hb).trans c1
      have c2' : w1.cell? ⟨b, o + k * 2 + 1, none⟩ = some (.string x.dst) := (hbl.cell (p := ⟨b, o + k * 2 + 1, none⟩) hb).trans c2
      clear c1 c2
      have HF := Lib.hid hf; clear hf
      go_wp2_with fail
      refine (laws_toRule _ _).mono ?_
      rintro e w2 ⟨rfl, hb3⟩
      have hf2 := HF.out.below hb3
      have hb2 := hbl.trans (hb3.mono hbl.size)
      obtain ⟨u0, g0⟩ := hf2.cell (j := k * 2) (by show _ < _ * 2; omega)
      obtain ⟨u1, g1⟩ := hf2.cell (j := k * 2 + 1) (by show _ < _ * 2; omega)
      have f0 := hf2.free (k * 2)
      have f1 := hf2.free (k * 2 + 1)
      have HF2 := Lib.hid hf2; clear hf2
      go_wp2_with fail
      go_roundw
      case rel => exact ⟨k + 1, by omega, by go_num, hb2.trans (setAll_below x.cells w2 (k * 2) _ (Nat.le_refl _)), HST.out w2 HF2.out⟩
      case measure => simp [intOf]; omega
    · have HE := Lib.hid (show k = xs.length by omega)
      have HF := Lib.hid hf; clear hf
      go_wp2
      go_ret
      exact ⟨_, rfl, (HE.out ▸ HF.out : filled _ _ _ _ xs.length _).own rfl (Nat.le_refl _) (by unfold maxLen; omega), hbl⟩

set_option maxRecDepth 100000 in
set_option maxHeartbeats 400000 in
theorem laws_eqRuleS (v v' : Value) (xs ys : List Fwd) (w : World) (hv : rd w w.heap.size v xs) (hv' : rd w w.heap.size v' ys) :
    Calls Try.prog 121 #[v, v'] w fun e w' => e = .returned (.bool (eqBy fwdEq xs ys)) ∧ Below w.heap.size w w' := by
  obtain ⟨A, n, c, rfl, hn, hc, hm, hr⟩ := hv
  obtain ⟨A', n', c', rfl, hn', hc', hm', hr'⟩ := hv'
  subst hn hn'
  unfold maxLen at hm hm'
  have HR := Lib.hid hr; clear hr
  have HR' := Lib.hid hr'; clear hr'
  go_enter Try.func121, Try.ntmps121
  by_cases hl : xs.length = ys.length
  · have hl1 : ((xs.length : Int) != (ys.length : Int)) = false := by simp [hl]
    have HL := Lib.hid hl; clear hl
    go_wp2
    go_loopw [5] (fun i wr => ∃ k : Nat, k ≤ xs.length ∧ i = .int .i64 k ∧ Below w.heap.size w wr ∧ Hid (∀ j (h1 : j < xs.length) (h2 : j < ys.length), j < k → fwdEq xs[j] ys[j] = true)) (fun i _ => xs.length - (intOf i).toNat)
    case atStart => exact ⟨0, Nat.zero_le _, rfl, Below.refl _ _, fun j _ _ hj => absurd hj (Nat.not_lt_zero j)⟩
    case round =>
      obtain ⟨k, hk, rfl, hbl, HG⟩ := hrel
      obtain ⟨w1, rfl⟩ : ∃ w1 : World, w1 = wr := ⟨_, rfl⟩
      by_cases hlt : k < xs.length
      · have hlt' : k < ys.length := by rw [← HL.out]; exact hlt
        obtain ⟨b, o, rfl, hb, _, c1, c2⟩ := HR.out.fwd k hlt
        obtain ⟨b', o', rfl, hb', _, d1, d2⟩ := HR'.out.fwd k hlt'
        have hbad := Lib.hid (fun h => eqBy_bad (p := fwdEq) k hlt hlt' h)
        have HX : Hid (∀ h : fwdEq xs[k] ys[k] = true, ∀ j (h1 : j < xs.length) (h2 : j < ys.length), j < k + 1 → fwdEq xs[j] ys[j] = true) := fun h j h1 h2 hj => by
          by_cases hjk : j < k
          · exact HG.out j h1 h2 hjk
          · obtain rfl : j = k := by omega
            exact h
        generalize xs[k] = x at *
        generalize ys[k] = y at *
        have c1' : w1.cell? ⟨b, o + k * 2, none⟩ = some (.string x.src) := (hbl.cell (p := ⟨b, o + k * 2, none⟩) hb).trans c1
        have c2' : w1.cell? ⟨b, o + k * 2 + 1, none⟩ = some (.string x.dst) := (hbl.cell (p := ⟨b, o + k * 2 + 1, none⟩) hb).trans c2
        have d1' : w1.cell? ⟨b', o' + k * 2, none⟩ = some (.string y.src) := (hbl.cell (p := ⟨b', o' + k * 2, none⟩) hb').trans d1
        have d2' : w1.cell? ⟨b', o' + k * 2 + 1, none⟩ = some (.string y.dst) := (hbl.cell (p := ⟨b', o' + k * 2 + 1, none⟩) hb').trans d2
        clear c1 c2 d1 d2
        have hki : (k : Int) < (xs.length : Int) := by omega
        have hki' : (k : Int) < (ys.length : Int) := by omega
        have hb2 : Below w.heap.size w w1.drew := hbl.drew
        cases he : fwdEq x y
        · have he' := Lib.hid he; clear he
          go_wp2
          go_still_tail 8, (by kernel_rfl)
          change wpList _ _ _ _ _ w1.drew
          generalize w1.drew = w2 at *
          go_wp2_with (go_at_call 169; refine (laws_eqRule _ _ _).mono ?_; rw [he'.out]; rintro e w' ⟨rfl, hb3⟩)
          go_ret
          exact ⟨ret_bool (hbad.out he'.out).symm, hb2.trans (hb3.mono hb2.size)⟩
        · have he' := Lib.hid he; clear he
          go_wp2
          go_still_tail 8, (by kernel_rfl)
          change wpList _ _ _ _ _ w1.drew
          generalize w1.drew = w2 at *
          go_wp2_with (go_at_call 169; refine (laws_eqRule _ _ _).mono ?_; rw [he'.out]; rintro e w' ⟨rfl, hb3⟩)
          go_roundw
          case rel => exact ⟨k + 1, by omega, by go_num, hb2.trans (hb3.mono hb2.size), HX.out he'.out⟩
          case measure => simp [intOf]; omega
      · have HE := Lib.hid (show k = xs.length by omega)
        go_wp2
        go_ret
        exact ⟨ret_bool (eqBy_good HL.out fun j h1 h2 => HG.out j h1 h2 (by rw [HE.out]; exact h1)).symm, hbl⟩
  · have hl1 : ((xs.length : Int) != (ys.length : Int)) = true := by simp; omega
    have HL := Lib.hid hl; clear hl
    go_wp2
    go_ret
    exact ⟨ret_bool (eqBy_len HL.out).symm, Below.refl _ _⟩



theorem laws_szRule (x : Fwd) (l : Int) (w : World) (h1 : x.src.size ≤ maxLen) (h2 : x.dst.size ≤ maxLen) (h0 : 0 ≤ l) (hl : l ≤ 1048576) :
    Calls Try.prog 160 #[.agg #[.string x.src, .string x.dst], .int .i64 l] w fun e w' => e = .returned (.int .i64 (leftOf l ((x.src.size + x.dst.size : Nat) : Int))) ∧ Below w.heap.size w w' := by
  unfold maxLen at h1 h2
  have HQ : Hid (leftOf l ((x.src.size + x.dst.size : Nat) : Int) = if l < ((x.src.size + x.dst.size : Nat) : Int) then -1 else l - ((x.src.size + x.dst.size : Nat) : Int)) := rfl
  go_enter Try.func160, Try.ntmps160
  by_cases h : l < x.src.size
  · go_wp2
    go_ret
    exact ⟨ret_int (by rw [HQ.out, if_pos (by omega)]), (Below.refl _ _).alloc (Nat.le_refl _) _⟩
  by_cases h' : l - x.src.size < x.dst.size
  · go_wp2
    go_ret
    exact ⟨ret_int (by unfold leftOf; rw [if_pos (by omega)]), (Below.refl _ _).alloc (Nat.le_refl _) _⟩
  · go_wp2
    go_ret
    exact ⟨ret_int (by unfold leftOf; rw [if_neg (by omega)]; omega), (Below.refl _ _).alloc (Nat.le_refl _) _⟩

set_option maxHeartbeats 400000 in
theorem laws_szRuleS (v : Value) (xs : List Fwd) (l : Int) (w : World) (hv : rd w w.heap.size v xs) (h0 : 0 ≤ l) (h1 : l ≤ 1048576) :
    Calls Try.prog 112 #[v, .int .i64 l] w fun e w' => e = .returned (.int .i64 (leftOf l ((xs.length + sumFw xs : Nat) : Int))) ∧ Below w.heap.size w w' := by
  obtain ⟨A, n, c, rfl, hn, hc, hm, hr⟩ := hv
  subst hn
  unfold maxLen at hm
  have HR := Lib.hid hr; clear hr
  have HQ : Hid (leftOf l ((xs.length + sumFw xs : Nat) : Int) = if l < ((xs.length + sumFw xs : Nat) : Int) then -1 else l - ((xs.length + sumFw xs : Nat) : Int)) := rfl
  go_enter Try.func112, Try.ntmps112
  by_cases h : l < xs.length
  · go_wp2
    go_ret
    exact ⟨ret_int (by rw [HQ.out, if_pos (by omega)]), Below.refl _ _⟩
  · go_wp2
    go_loopw [1, 5] (fun t i wr => ∃ (k : Nat) (m : Int), k ≤ xs.length ∧ i = .int .i64 k ∧ t = .int .i64 m ∧ 0 ≤ m ∧ m ≤ 1048576 ∧ Below w.heap.size w wr ∧ Hid (m = l - xs.length - sumFw (xs.take k))) (fun _ i _ => xs.length - (intOf i).toNat)
    case atStart => exact ⟨0, _, Nat.zero_le _, rfl, rfl, by omega, by omega, Below.refl _ _, by show _ = _; simp [sumFw]⟩
    case round =>
      obtain ⟨k, m, hk, rfl, rfl, m0, m1, hbl, HM⟩ := hrel
      obtain ⟨w1, rfl⟩ : ∃ w1 : World, w1 = wr := ⟨_, rfl⟩
      by_cases hlt : k < xs.length
      · obtain ⟨b, o, rfl, hb, ⟨o1, o2⟩, c1, c2⟩ := HR.out.fwdU k hlt
        have HS := Lib.hid (sumFw_succ xs k hlt)
        have HL := Lib.hid (sumFw_le xs (k + 1))
        generalize xs[k] = x at *
        obtain ⟨r, hrr⟩ : ∃ r, leftOf m ((x.src.size + x.dst.size : Nat) : Int) = r := ⟨_, rfl⟩
        have hok := @leftOf_ok m (x.src.size + x.dst.size)
        have HE : Hid (r = if m < ((x.src.size + x.dst.size : Nat) : Int) then -1 else m - ((x.src.size + x.dst.size : Nat) : Int)) := by show _ = _; rw [← hrr]; rfl
        rw [hrr] at hok
        have HRR := Lib.hid hrr; clear hrr
        go_wp2_with fail
        refine (laws_szRule x m _ o1 o2 m0 m1).mono ?_
        rw [HRR.out]
        rintro e w2 ⟨rfl, b2⟩
        have l2 := later_trans hbl b2
        by_cases hs : r < 0
        · go_wp2_with fail
          go_ret
          refine ⟨ret_int ?_, l2⟩
          have := HM.out; have h2 := HS.out; have h3 := HL.out; have h4 := HE.out
          split at h4
          · rw [HQ.out, if_pos (by omega)]
          · omega
        · obtain ⟨a1, a2, _⟩ := hok (by omega) m1
          clear hok
          go_wp2_with fail
          go_roundw
          case rel =>
            refine ⟨k + 1, r, by omega, by go_num, rfl, a1, a2, l2, ?_⟩
            show _ = _
            have := HM.out; have h2 := HS.out; have h4 := HE.out
            split at h4 <;> omega
          case measure => simp [intOf]; omega
      · have HE := Lib.hid (show k = xs.length by omega)
        go_wp2
        go_ret
        refine ⟨ret_int ?_, hbl⟩
        have := HM.out
        rw [HE.out, List.take_length] at this
        rw [HQ.out, if_neg (by omega)]; omega

end Go.Proofs.Ytmangjjaijhcnaa
