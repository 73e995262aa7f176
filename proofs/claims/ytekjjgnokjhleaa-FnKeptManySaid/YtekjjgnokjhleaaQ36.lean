/- M4 -/
import Derived.Test.YtekjjgnokjhleaaQ16
import Derived.Test.YtekjjgnokjhleaaQ5
namespace Go.Proofs.Ytekjjgnokjhleaa
open Go.RowKit

/-- The length that the i-th letter ends. -/
def lenK (rs : List Int) (i : Nat) : Nat := match rs[i]? with | none => 0 | some r => if r < 0 then 0 else topLe (runK (rs.take i)) r.toNat + 1
theorem lenK_neg {rs : List Int} {i : Nat} (h : i < rs.length) (hr : rs[i] < 0) : lenK rs i = 0 := by
  unfold lenK; rw [List.getElem?_eq_getElem h]; simp [hr]
theorem lenK_pos {rs : List Int} {i : Nat} (h : i < rs.length) {r : Nat} (hr : rs[i] = (r : Int)) : lenK rs i = topLe (runK (rs.take i)) r + 1 := by
  unfold lenK; rw [List.getElem?_eq_getElem h]; simp only [hr]; rw [if_neg (by omega), Int.toNat_natCast]
theorem lenK_zero_iff {rs : List Int} {i : Nat} (h : i < rs.length) : lenK rs i = 0 ↔ rs[i] < 0 := by
  constructor
  · intro e
    apply Classical.byContradiction
    intro hc
    obtain ⟨r, hr⟩ := Int.eq_ofNat_of_zero_le (show 0 ≤ rs[i] by omega)
    rw [lenK_pos h hr] at e
    omega
  · exact lenK_neg h
theorem top_neg {rs : List Int} {m : Nat} (h : m < rs.length) (hr : rs[m] < 0) (n : Nat) : topLe (runK (rs.take (m + 1))) n = topLe (runK (rs.take m)) n := by
  rw [runK_succ rs m h, stepK_neg hr]
theorem top_pos {rs : List Int} {m : Nat} (h : m < rs.length) {r : Nat} (hr : rs[m] = (r : Int)) (n : Nat) : topLe (runK (rs.take (m + 1))) n = if r ≤ n then max (topLe (runK (rs.take m)) n) (lenK rs m) else topLe (runK (rs.take m)) n := by
  rw [runK_succ rs m h, hr, stepK_pos, topLe_snoc, lenK_pos h hr]
theorem best_neg {rs : List Int} {m : Nat} (h : m < rs.length) (hr : rs[m] < 0) : bestK (runK (rs.take (m + 1))) = bestK (runK (rs.take m)) := by
  rw [runK_succ rs m h, stepK_neg hr]
theorem best_pos {rs : List Int} {m : Nat} (h : m < rs.length) {r : Nat} (hr : rs[m] = (r : Int)) : bestK (runK (rs.take (m + 1))) = max (bestK (runK (rs.take m))) (lenK rs m) := by
  rw [runK_succ rs m h, hr, stepK_pos, bestK_snoc, lenK_pos h hr]
/-- The row of lengths behind k letters; within the next one. -/
def oR (rs : List Int) (k j : Nat) : Nat := if j < k then lenK rs j else 0
def iR (rs : List Int) (i m n j : Nat) : Nat := if j < i then lenK rs j else if j = i then topLe (runK (rs.take m)) n + 1 else 0
theorem oR_zero (rs : List Int) : oR rs 0 = fun _ => 0 := by funext j; simp [oR]
theorem oR_skip {rs : List Int} {k : Nat} (h : k < rs.length) (hr : rs[k] < 0) : oR rs (k + 1) = oR rs k := by
  funext j
  unfold oR
  by_cases h1 : j < k
  · rw [if_pos (by omega), if_pos h1]
  · by_cases h2 : j = k
    · subst h2; rw [if_pos (by omega), if_neg h1, lenK_neg h hr]
    · rw [if_neg (by omega), if_neg h1]
theorem iR_start (rs : List Int) (i n N : Nat) : (rowK (oR rs i) N).set i 1 = rowK (iR rs i 0 n) N := by
  have h : ((1 : Nat) : Int) = 1 := rfl
  rw [← h, rowK_set]
  refine rowK_congr fun j _ => ?_
  unfold oR iR
  by_cases h2 : i = j
  · subst h2; rw [if_pos rfl, if_neg (by omega), if_pos rfl]; rfl
  · rw [if_neg h2]
    by_cases h1 : j < i
    · rw [if_pos h1, if_pos h1]
    · rw [if_neg h1, if_neg h1, if_neg (by omega)]
theorem iR_end {rs : List Int} {i : Nat} (h : i < rs.length) {n : Nat} (hr : rs[i] = (n : Int)) : iR rs i i n = oR rs (i + 1) := by
  funext j
  unfold oR iR
  by_cases h1 : j < i
  · rw [if_pos h1, if_pos (by omega)]
  · rw [if_neg h1]
    by_cases h2 : j = i
    · subst h2; rw [if_pos rfl, if_pos (by omega), lenK_pos h hr]
    · rw [if_neg h2, if_neg (by omega)]
theorem iR_at (rs : List Int) (i m n : Nat) : iR rs i m n i = topLe (runK (rs.take m)) n + 1 := by unfold iR; rw [if_neg (by omega), if_pos rfl]
theorem iR_lt {rs : List Int} {i m n j : Nat} (h : j < i) : iR rs i m n j = lenK rs j := by unfold iR; rw [if_pos h]
theorem iR_same {rs : List Int} {i m n : Nat} (h : topLe (runK (rs.take (m + 1))) n = topLe (runK (rs.take m)) n) : iR rs i (m + 1) n = iR rs i m n := by
  funext j; unfold iR; rw [h]
theorem iR_step {rs : List Int} {i m n : Nat} (N : Nat) {t : Nat} (h : topLe (runK (rs.take (m + 1))) n + 1 = t) : (rowK (iR rs i m n) N).set i (t : Int) = rowK (iR rs i (m + 1) n) N := by
  rw [rowK_set]
  refine rowK_congr fun j _ => ?_
  unfold iR
  by_cases h2 : i = j
  · subst h2; rw [if_pos rfl, if_neg (by omega), if_pos rfl, h]
  · rw [if_neg h2]
    by_cases h1 : j < i
    · rw [if_pos h1, if_pos h1]
    · rw [if_neg h1, if_neg h1, if_neg (by omega), if_neg (by omega)]

theorem own_intc {T base g n c : Nat} {w : World} {xs : List Int} (h : own T base w (.slice (some ⟨g, 0, none⟩) n c) xs) (k : Nat) (hk : k < xs.length) : w.cell? ⟨g, k, none⟩ = some (.int .i64 xs[k]) := by
  obtain ⟨A, n', c', hv, _, _, _, hrd⟩ := h.rd
  obtain ⟨b, o, hA, _, _, c1⟩ := hrd.int k hk
  injection hv with e1 _ _
  subst e1
  injection hA with hA
  injection hA with hA1 hA2
  subst hA1 hA2
  rw [Nat.zero_add] at c1
  exact c1
theorem own_rowc {T base gb n c N : Nat} {w : World} {g : Nat → Nat} (h : own T base w (.slice (some ⟨gb, 0, none⟩) n c) (rowK g N)) (k : Nat) (hk : k < N) : w.cell? ⟨gb, k, none⟩ = some (.int .i64 (g k : Nat)) := by
  have := own_intc h k (by rw [rowK_len]; exact hk)
  rwa [rowK_get] at this
theorem l3Rank_is {v : Value} {xs : List ByteArray} {c : ByteArray} {r : Int} {w : World} (hv : rd w w.heap.size v xs) (h : rkI xs c = r) :
    Calls Try.prog 103 #[v, .string c] w fun e w' => e = .returned (.int .i64 r) ∧ w = w' := by
  rw [← h]; exact spec_l3Rank v xs c w hv

set_option maxRecDepth 100000 in
set_option maxHeartbeats 1600000 in
theorem spec_KeptLetters (v vb : Value) (p : Pln) (xs : List Ltr) (w : World) (hv : rdP w w.heap.size v p) (hb : rd w w.heap.size vb xs) (hl : xs.length ≤ 1048576) :
    Calls Try.prog 58 #[v, vb] w fun e w' => e = .returned (.int .i64 (keptI p xs)) ∧ Below w.heap.size w w' := by
  obtain ⟨vo, hvv, hi1, hi2, hro⟩ := hv
  obtain ⟨Ao, no, cpo, rfl, hno, hco, hmo, hroA⟩ := hro
  subst hno
  obtain ⟨w0, hw0⟩ : ∃ w0, w0 = w.alloc (Obj.cells #[Value.int IntKind.i64 p.bins, Value.int IntKind.i64 p.passes, Value.slice Ao p.order.length cpo] 25) := ⟨_, rfl⟩
  obtain ⟨hw, hwlt⟩ := box_later hw0
  have hwz : w0.heap.size = w.heap.size + 1 := by subst hw0; simp
  have hv0 := Lib.hid ((show rdP w w.heap.size v p from ⟨_, hvv, hi1, hi2, _, _, _, rfl, rfl, hco, hmo, hroA⟩).on hw)
  have hb0 := Lib.hid (hb.on hw)
  have hro0 := Lib.hid ((show rd w w.heap.size (.slice Ao p.order.length cpo) p.order from ⟨_, _, _, rfl, rfl, hco, hmo, hroA⟩).on hw)
  subst hvv
  have p2 := box_cells hw0 2 (.slice Ao p.order.length cpo) rfl
  obtain ⟨A, n, cp, rfl, hn, hc, hm, hr⟩ := hb
  subst hn
  unfold maxLen at hm hmo
  have HR := Lib.hid (hr.on hw); clear hr hroA
  obtain ⟨i0, hi, hz0, hz1, hz2⟩ := info_parts Try.infoInt
  have hmk := make_row (P := Try.prog) 46 3 i0 _ Try.underlying46 hi hz0 xs.length (by rw [hz2]; omega) (by omega)
  have P2 := Lib.hid p2; clear p2
  have HW := Lib.hid hw; clear hw
  have HWZ := Lib.hid hwz; clear hwz
  have HW0 := Lib.hid hw0; clear hw0
  go_enter Try.func58, Try.ntmps58
  go_wp2_with fail
  rw [← HW0.out]
  clear hmk hi hz0 hz1 hz2 i0
  have ho := own_zeros w0 xs.length w0.heap.size (Nat.le_refl _) (by unfold maxLen; omega)
  have lz : Below w0.heap.size w0 (w0.alloc (Obj.cells (madeCells #[.int .i64 0] xs.length) 3)) := (Below.refl _ _).alloc (Nat.le_refl _) _
  rw [HWZ.out] at ho
  generalize (w0.alloc (Obj.cells (madeCells #[.int .i64 0] xs.length) 3)) = wz at *
  have HOZ := Lib.hid ho; clear ho
  refine (spec_l3Ready _ _ p xs _ (hv0.out.on lz) (hb0.out.on lz)).mono ?_
  rintro e w1 ⟨rfl, b1⟩
  have l1 := later_trans lz b1
  have HO1 := Lib.hid (HOZ.out.below b1)
  clear b1 lz HOZ
  cases hx : (planOk p && okB xs)
  · have HX := Lib.hid hx; clear hx
    go_wp2_with fail
    go_ret
    exact ⟨ret_int (by unfold keptI; rw [HX.out]; rfl), later_trans HW.out l1⟩
  have HX := Lib.hid hx
  rw [Bool.and_eq_true] at hx
  have hxl := (okB_iff.1 hx.2).1
  clear hx
  obtain ⟨rs, hrl, HRG, HKI⟩ : ∃ rs : List Int, rs.length = xs.length ∧ Hid (∀ k (h : k < xs.length) (h' : k < rs.length), rs[k] = rkI p.order xs[k].code) ∧ Hid (keptI p xs = (bestK (runK rs) : Nat)) :=
    ⟨ranksOf p xs, ranks_len p xs, fun k h _ => ranks_get p xs k h, by show _ = _; unfold keptI keptN; rw [HX.out]; rfl⟩
  have HRL := Lib.hid hrl; clear hrl
  generalize hgk : w.heap.size + 1 = gk at *
  have hgk0 : w0.heap.size ≤ gk := Nat.le_of_eq HWZ.out
  clear hgk
  have p2 := P2.out; clear P2
  go_wp2_with fail
  go_loopw [5, 7] (fun t i wr => ∃ k : Nat, k ≤ xs.length ∧ i = .int .i64 k ∧ t = .int .i64 (bestK (runK (rs.take k)) : Nat) ∧ Below w0.heap.size w0 wr ∧ own 3 gk wr (.slice (some ⟨gk, 0, none⟩) xs.length xs.length) (rowK (oR rs k) xs.length)) (fun _ i _ => xs.length - (intOf i).toNat)
  case atStart => exact ⟨0, Nat.zero_le _, rfl, rfl, l1, by rw [oR_zero]; exact HO1.out⟩
  case round =>
    obtain ⟨k, hk, rfl, rfl, lr, ho⟩ := hrel
    obtain ⟨w2, rfl⟩ : ∃ w2 : World, w2 = wr := ⟨_, rfl⟩
    have HO := Lib.hid ho; clear ho l1 HO1
    by_cases hlt : k < xs.length
    · obtain ⟨b, o, rfl, hb, ⟨⟨o1, o2⟩, o3⟩, c1, c2⟩ := HR.out.ltrU k hlt
      have hkl : (k : Int) < (xs.length : Int) := by omega
      have HKL : Hid (k < rs.length) := by show _ < _; rw [HRL.out]; exact hlt
      have hrg := HRG.out k hlt HKL.out
      generalize xs[k] = x at *
      have hrr := rkI_range p.order x.code
      obtain ⟨r, HRK⟩ : ∃ r, Hid (rkI p.order x.code = r) := ⟨_, rfl⟩
      rw [HRK.out] at hrg hrr
      have HRG2 := Lib.hid hrg; clear hrg
      have C1 := Lib.hid (fun n => l3Rank_is ((hro0.out.on lr).on (below_drewN (Below.refl _ _) n)) HRK.out)
      by_cases hneg : r < 0
      · have HE1 := Lib.hid (oR_skip HKL.out (by rw [HRG2.out]; exact hneg))
        have HE2 := Lib.hid (best_neg HKL.out (by rw [HRG2.out]; exact hneg))
        go_wp2
        go_quiet (first | (go_at_call 103; refine quiet_c (C1.out _)))
        go_wp2
        go_roundw
        case rel => exact ⟨k + 1, by omega, by go_num, by rw [HE2.out], later_drewN lr _, by rw [HE1.out]; exact HO.out.below (below_drewN (Below.refl _ _) _)⟩
        case measure => simp [intOf]; omega
      obtain ⟨q, rfl⟩ := Int.eq_ofNat_of_zero_le (show 0 ≤ r by omega)
      have g0 := own_rowc HO.out k hlt
      have f0 := HO.out.freeAt k
      have HS := Lib.hid (fun n => own_setInt (HO.out.below (below_drewN (Below.refl _ _) n)) (k := k) (by rw [rowK_len]; exact hlt) 1 (by unfold isI64; omega))
      go_wp2
      go_quiet (first | (go_at_call 103; refine quiet_c (C1.out _)))
      go_wp2
      have l3 : Below w0.heap.size w0 ((w2.drewN nq).setCell ⟨gk, k, none⟩ (.int .i64 1)) := later_set (later_drewN lr _) hgk0 _
      have o3' := HS.out nq
      rw [iR_start rs k q] at o3'
      generalize ((w2.drewN nq).setCell ⟨gk, k, none⟩ (.int .i64 1)) = w3 at *
      have HO3 := Lib.hid o3'; clear o3' HS g0 f0
      go_loopw [9] (fun t wi => ∃ m : Nat, m ≤ k ∧ t = .int .i64 m ∧ Below w0.heap.size w0 wi ∧ own 3 gk wi (.slice (some ⟨gk, 0, none⟩) xs.length xs.length) (rowK (iR rs k m q) xs.length)) (fun t _ => k - (intOf t).toNat)
      case atStart => exact ⟨0, Nat.zero_le _, rfl, l3, HO3.out⟩
      case round =>
        obtain ⟨m, hm, rfl, li, oi⟩ := hrel
        obtain ⟨wi, rfl⟩ : ∃ wi : World, wi = wr := ⟨_, rfl⟩
        have HOI := Lib.hid oi; clear oi l3
        by_cases hmk : m < k
        · obtain ⟨b', o', hA, _, ⟨_, o4⟩, d1, d2⟩ := HR.out.ltrU m (by omega)
          injection hA with hA
          injection hA with hA1 hA2
          subst hA1 hA2
          have hml : (m : Int) < (xs.length : Int) := by omega
          have HML : Hid (m < rs.length) := by show _ < _; rw [HRL.out]; omega
          have hrm := HRG.out m (by omega) HML.out
          generalize xs[m] = y at *
          obtain ⟨r2, HRK2⟩ : ∃ r, Hid (rkI p.order y.code = r) := ⟨_, rfl⟩
          rw [HRK2.out] at hrm
          have HRM := Lib.hid hrm; clear hrm
          have C2 := Lib.hid (fun n => l3Rank_is ((hro0.out.on li).on (below_drewN (Below.refl _ _) n)) HRK2.out)
          have q1 := own_rowc HOI.out m (by omega)
          have q2 := own_rowc HOI.out k hlt
          have f2 := HOI.out.freeAt k
          rw [iR_lt hmk] at q1
          rw [iR_at] at q2
          obtain ⟨a, HA⟩ : ∃ a, Hid (lenK rs m = a) := ⟨_, rfl⟩
          obtain ⟨t, HT⟩ : ∃ t, Hid (topLe (runK (rs.take m)) q = t) := ⟨_, rfl⟩
          rw [HA.out] at q1
          rw [HT.out] at q2
          by_cases hr2 : r2 < 0
          · have ha : a = 0 := by rw [← HA.out]; exact lenK_neg HML.out (by rw [HRM.out]; exact hr2)
            subst ha
            have HE := Lib.hid (iR_same (i := k) (top_neg HML.out (by rw [HRM.out]; exact hr2) q))
            go_wp2
            go_quiet (fail)
            go_wp2
            go_roundw
            case rel => exact ⟨m + 1, by omega, by go_num, later_drewN li _, by rw [HE.out]; exact HOI.out.below (below_drewN (Below.refl _ _) _)⟩
            case measure => simp [intOf]; omega
          obtain ⟨s, rfl⟩ := Int.eq_ofNat_of_zero_le (show 0 ≤ r2 by omega)
          have ha : 0 < a := by rw [← HA.out, lenK_pos HML.out HRM.out]; omega
          have HTP := Lib.hid (top_pos HML.out HRM.out q)
          by_cases hsq : s ≤ q
          · have hab : Hid (a ≤ xs.length) := by
              show _ ≤ _
              rw [← HA.out, lenK_pos HML.out HRM.out]
              have := (topLe_bound (rs.take m) s).1
              rw [List.length_take] at this
              omega
            have HTP2 : Hid (topLe (runK (rs.take (m + 1))) q = max t a) := by show _ = _; rw [HTP.out, if_pos hsq, HT.out, HA.out]
            have hab' : a ≤ 60 := by have := hab.out; omega
            have HE := Lib.hid (iR_step (i := k) (t := max t a + 1) xs.length (by rw [HTP2.out]))
            have htb : t ≤ 60 := by
              have := (topLe_bound (rs.take m) q).1
              rw [List.length_take] at this
              rw [← HT.out]
              omega
            by_cases hta : t < a
            · go_wp2
              go_quiet (first | (go_at_call 103; refine quiet_c (C2.out _)))
              go_wp2
              have lw := later_drewN li nq
              have q1' : (wi.drewN nq).cell? ⟨gk, m, none⟩ = some (.int .i64 (a : Nat)) := by go_simp
              have q2' : (wi.drewN nq).cell? ⟨gk, k, none⟩ = some (.int .i64 ((t + 1 : Nat) : Int)) := by go_simp
              have f2' : (wi.drewN nq).frozen? ⟨gk, k, none⟩ = false := by go_simp
              have HOJ := Lib.hid (HOI.out.below (below_drewN (Below.refl _ _) nq))
              generalize wi.drewN nq = wj at *
              go_still_tail 13, (by kernel_rfl)
              change wpList _ _ _ _ _ wj.drew
              have HS := Lib.hid (own_setInt (HOJ.out.drew) (k := k) (by rw [rowK_len]; exact hlt) ((a : Int) + 1) (by unfold isI64; omega))
              go_wp2
              go_roundw
              case rel =>
                refine ⟨m + 1, by omega, by go_num, later_set (later_drew lw) hgk0 _, ?_⟩
                rw [← HE.out, show ((max t a + 1 : Nat) : Int) = (a : Int) + 1 by omega]
                exact HS.out
              case measure => simp [intOf]; omega
            · go_wp2
              go_quiet (first | (go_at_call 103; refine quiet_c (C2.out _)))
              go_wp2
              have lw := later_drewN li nq
              have q1' : (wi.drewN nq).cell? ⟨gk, m, none⟩ = some (.int .i64 (a : Nat)) := by go_simp
              have q2' : (wi.drewN nq).cell? ⟨gk, k, none⟩ = some (.int .i64 ((t + 1 : Nat) : Int)) := by go_simp
              have f2' : (wi.drewN nq).frozen? ⟨gk, k, none⟩ = false := by go_simp
              have HOJ := Lib.hid (HOI.out.below (below_drewN (Below.refl _ _) nq))
              generalize wi.drewN nq = wj at *
              go_still_tail 13, (by kernel_rfl)
              change wpList _ _ _ _ _ wj.drew
              have HS := Lib.hid (own_setInt (HOJ.out.drew) (k := k) (by rw [rowK_len]; exact hlt) ((t : Int) + 1) (by unfold isI64; omega))
              go_wp2
              go_roundw
              case rel =>
                refine ⟨m + 1, by omega, by go_num, later_set (later_drew lw) hgk0 _, ?_⟩
                rw [← HE.out, show ((max t a + 1 : Nat) : Int) = (t : Int) + 1 by omega]
                exact HS.out
              case measure => simp [intOf]; omega
          · have HE := Lib.hid (iR_same (i := k) (show topLe (runK (rs.take (m + 1))) q = topLe (runK (rs.take m)) q by rw [HTP.out, if_neg hsq]))
            go_wp2
            go_quiet (first | (go_at_call 103; refine quiet_c (C2.out _)))
            go_wp2
            go_roundw
            case rel => exact ⟨m + 1, by omega, by go_num, later_drewN li _, by rw [HE.out]; exact HOI.out.below (below_drewN (Below.refl _ _) _)⟩
            case measure => simp [intOf]; omega
        · have HE := Lib.hid (show m = k by omega)
          have q2 := own_rowc HOI.out k hlt
          rw [iR_at] at q2
          have HB := Lib.hid (best_pos HKL.out HRG2.out)
          have HIE := Lib.hid (iR_end HKL.out HRG2.out)
          have HLK : Hid (lenK rs k = topLe (runK (rs.take m)) q + 1) := by show _ = _; rw [HE.out, lenK_pos HKL.out HRG2.out]
          obtain ⟨t, HT⟩ : ∃ t, Hid (topLe (runK (rs.take m)) q = t) := ⟨_, rfl⟩
          have HROW : Hid (own 3 gk wi (.slice (some ⟨gk, 0, none⟩) xs.length xs.length) (rowK (oR rs (k + 1)) xs.length)) := by
            have h := HOI.out
            rw [HE.out, HIE.out] at h
            exact h
          have HB2 : Hid (bestK (runK (rs.take (k + 1))) = max (bestK (runK (rs.take k))) (t + 1)) := by show _ = _; rw [HB.out, HLK.out, HT.out]
          rw [HT.out] at q2
          generalize bestK (runK (rs.take k)) = m2 at *
          by_cases hmm : (m2 : Int) < (t : Int) + 1
          · go_wp2
            go_roundw
            case rel => exact ⟨k + 1, by omega, by go_num, by rw [HB2.out]; congr 1; omega, li, HROW.out⟩
            case measure => simp [intOf]; omega
          · go_wp2
            go_roundw
            case rel => exact ⟨k + 1, by omega, by go_num, by rw [HB2.out]; congr 1; omega, li, HROW.out⟩
            case measure => simp [intOf]; omega
    · have HE := Lib.hid (show k = xs.length by omega)
      have HF : Hid (keptI p xs = (bestK (runK (rs.take k)) : Nat)) := by
        show _ = _
        rw [HKI.out, HE.out, ← HRL.out, List.take_length]
      generalize bestK (runK (rs.take k)) = m at *
      go_wp2
      go_ret
      exact ⟨ret_int HF.out.symm, later_trans HW.out lr⟩

theorem spec_MovedLetters (v vb : Value) (p : Pln) (xs : List Ltr) (w : World) (hv : rdP w w.heap.size v p) (hb : rd w w.heap.size vb xs) (hl : xs.length ≤ 1048576) :
    Calls Try.prog 59 #[v, vb] w fun e w' => e = .returned (.int .i64 (movedI p xs)) ∧ Below w.heap.size w w' := by
  have hv0 := Lib.hid hv
  have hb0 := Lib.hid hb
  obtain ⟨vo, rfl, hi1, hi2, Ao, no, cpo, rfl, hno, hco, hmo, hro⟩ := hv
  subst hno
  clear hco hmo hro
  obtain ⟨A, n, cp, rfl, hn, hc, hm, _⟩ := hb
  subst hn
  unfold maxLen at hm
  have hB : Below w.heap.size w (w.alloc (Obj.cells #[Value.int IntKind.i64 p.bins, Value.int IntKind.i64 p.passes, Value.slice Ao p.order.length cpo] 25)) := (Below.refl _ _).alloc (Nat.le_refl _) _
  have HB := Lib.hid hB; clear hB
  obtain ⟨k1, k2⟩ := keptI_range p xs
  have HQ : Hid (movedI p xs = if keptI p xs < 0 then -1 else xs.length - keptI p xs) := rfl
  go_enter Try.func59, Try.ntmps59
  go_wp2_with fail
  refine (spec_KeptLetters _ _ p xs _ (hv0.out.on HB.out) (hb0.out.on HB.out) hl).mono ?_
  rintro e w1 ⟨rfl, b1⟩
  generalize keptI p xs = q at *
  have B1 := HB.out.trans (b1.mono HB.out.size)
  by_cases h : q < 0
  · go_wp2_with fail
    go_ret
    exact ⟨ret_int (by rw [HQ.out, if_pos h]), B1⟩
  · go_wp2_with fail
    go_ret
    exact ⟨ret_int (by rw [HQ.out, if_neg (by omega)]), B1⟩

end Go.Proofs.Ytekjjgnokjhleaa
