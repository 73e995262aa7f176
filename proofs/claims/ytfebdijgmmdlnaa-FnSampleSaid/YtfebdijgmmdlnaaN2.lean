/- FnSample: its walk. -/
import Derived.Test.YtfebdijgmmdlnaaD2
import Derived.Test.YtfebdijgmmdlnaaM2
import Derived.Test.YtfebdijgmmdlnaaW2
import Derived.Test.YtfebdijgmmdlnaaE4
namespace Go.Proofs.Ytfebdijgmmdlnaa
open Go.RowKit

theorem every_get (k : Nat) : ∀ (i : Nat) (xs : List Ltr), (every k xs 0)[i]? = xs[i * (k + 1)]?
  | i, [] => by simp [every]
  | 0, x :: xs => by simp [every]
  | i + 1, x :: xs => by
    rw [every, List.getElem?_cons_succ, every_drop, every_get k i, List.getElem?_drop, show (i + 1) * (k + 1) = (k + i * (k + 1)) + 1 by rw [Nat.succ_mul]; omega, List.getElem?_cons_succ]
theorem every_len (k : Nat) (xs : List Ltr) : (every k xs 0).length = (xs.length + k) / (k + 1) := by
  have h1 : ∀ i, i < (every k xs 0).length ↔ i * (k + 1) < xs.length := fun i => by
    constructor
    · intro h
      have h2 : (every k xs 0)[i]? = some (every k xs 0)[i] := List.getElem?_eq_getElem h
      rw [every_get] at h2
      exact (List.getElem?_eq_some_iff.1 h2).1
    · intro h
      have h2 : xs[i * (k + 1)]? = some xs[i * (k + 1)] := List.getElem?_eq_getElem h
      rw [← every_get k i xs] at h2
      exact (List.getElem?_eq_some_iff.1 h2).1
  apply Nat.le_antisymm
  · rw [Nat.le_div_iff_mul_le (by omega)]
    rcases Nat.eq_zero_or_pos (every k xs 0).length with h | h
    · rw [h]; omega
    · have h3 := (h1 ((every k xs 0).length - 1)).1 (by omega)
      have h4 : (every k xs 0).length * (k + 1) = ((every k xs 0).length - 1) * (k + 1) + (k + 1) := by
        rw [← Nat.succ_mul]; congr 1; omega
      omega
  · apply Nat.le_of_not_lt
    intro h
    have h2 : ¬ (every k xs 0).length * (k + 1) < xs.length := fun hh => absurd ((h1 (every k xs 0).length).2 hh) (Nat.lt_irrefl _)
    have h3 : ((every k xs 0).length + 1) * (k + 1) ≤ (xs.length + k) / (k + 1) * (k + 1) := Nat.mul_le_mul_right _ h
    have h4 := Nat.div_mul_le_self (xs.length + k) (k + 1)
    rw [Nat.succ_mul] at h3
    omega
theorem every_one (xs : List Ltr) : every 0 xs 0 = xs := by
  induction xs with
  | nil => rfl
  | cons x xs ih => rw [every, ih]

/-- The numbers that may be drawn. -/
theorem spec_DrawSampleLetters (v : Value) (bs : List UInt8) (w : World) (hv : rd w w.heap.size v bs) :
    Calls Try.prog 20 #[v] w fun e w' => ∃ (v' : Value) (xs : List Ltr) (k : Int), e = .returned (.tuple #[v', .int .i64 k]) ∧ isI64 k ∧ own 36 w.heap.size w' v' xs ∧ xs.length ≤ 61 ∧ Below w.heap.size w w' := by
  go_enter Try.func20, Try.ntmps20
  go_wp2_with fail
  refine (rd_open v bs w hv).mono ?_
  rintro e w1 ⟨g, rfl, hg, hr, b1⟩
  go_wp2_with fail
  refine (rd_l2Open g 0 w1 hr (by omega)).mono ?_
  rintro e w2 ⟨v2, xs, p', rfl, ho, hl, hr2, hp2, hg2⟩
  go_wp2_with fail
  refine (rd_pick g p' 12 w2 hr2 (by omega) (by unfold isI64; omega)).mono ?_
  rintro e w3 ⟨x, rfl, hx, hr3, hg3⟩
  clear hx
  have hlt := hr.lt
  have ho3 := ho.grown hg3 (own_ne ho hlt)
  replace hg3 := grown_trans hg2 hg3
  have hlt3 := hr3.lt
  have B3 : Below w.heap.size w w3 := b1.trans (below_of_grown hg3 b1.size (fun k hk => by injection hk; omega))
  by_cases c0 : x = 0
  · have d0 : (x == 0) = true := by simp [c0]
    clear c0
    go_wp2_with fail
    refine (rd_num 3 g (p' + 1) _ [0, -1, 60, 61, 9223372036854775807] _ (hr3.alloc _) (by omega) (list_own 3 (g + 1) w3 [0, -1, 60, 61, 9223372036854775807] (by simp [isI64]) (by decide) (by omega)) (by decide)).mono ?_
    rintro e w4 ⟨y, hy, rfl, hr4, hg4⟩
    have hyi : isI64 y := by
      simp at hy
      unfold isI64
      omega
    clear hy
    have ho4 := (ho3.alloc (Obj.cells ([0, -1, 60, 61, 9223372036854775807].map (Value.int IntKind.i64)).toArray 3)).grown hg4 (own_ne (ho3.alloc (Obj.cells ([0, -1, 60, 61, 9223372036854775807].map (Value.int IntKind.i64)).toArray 3)) hlt)
    have B4 : Below w.heap.size w w4 := B3.trans ((below_of_grown (grown_trans (World.grownBy_alloc w3 _ _) hg4) B3.size (fun k hk => by injection hk; omega)))
    go_wp2_with fail
    go_ret2
    exact ⟨_, xs, y, rfl, hyi, ho4.base_ b1.size, hl, B4⟩
  · have d0 : (x == 0) = false := by simp [c0]
    clear c0
    go_wp2_with fail
    refine (rd_pick g (p' + 1) 5 w3 hr3 (by omega) (by unfold isI64; omega)).mono ?_
    rintro e w4 ⟨y, rfl, hy, hr4, hg4⟩
    obtain ⟨y0, y1⟩ := hy.2 (by omega)
    clear hy
    have ho4 := ho3.grown hg4 (own_ne ho3 hlt)
    have B4 : Below w.heap.size w w4 := B3.trans (below_of_grown hg4 B3.size (fun k hk => by injection hk; omega))
    have hyi : Hid (isI64 (1 + y)) := by show isI64 _; unfold isI64; omega
    go_wp2_with fail
    go_ret2
    exact ⟨_, xs, 1 + y, rfl, hyi.out, ho4.base_ b1.size, hl, B4⟩

theorem smp_len60 (xs : List Ltr) (k : Int) : (smp xs k).length ≤ 60 := by
  by_cases h : okB xs = true ∧ 1 ≤ k ∧ k ≤ 60
  · obtain ⟨q, rfl⟩ := Int.eq_ofNat_of_zero_le (show 0 ≤ k by omega)
    rw [(smp_yes h.1 (by omega) (by omega)).1, every_len]
    have := okB_len h.1
    have h2 : (xs.length + (q - 1)) / (q - 1 + 1) ≤ (xs.length + (q - 1)) / (q - 1 + 1) := Nat.le_refl _
    rw [show q - 1 + 1 = q by omega]
    have h3 : (xs.length + (q - 1)) < (xs.length + 1) * q := by rw [Nat.add_mul, Nat.one_mul]; have : xs.length * 1 ≤ xs.length * q := Nat.mul_le_mul_left _ (by omega); omega
    have := Nat.div_lt_of_lt_mul (by rw [Nat.mul_comm] at h3; exact h3)
    omega
  · have h' : okB xs = false ∨ k < 1 ∨ 60 < k := by
      cases hb : okB xs
      · exact .inl rfl
      · refine .inr ?_
        have : ¬ (1 ≤ k ∧ k ≤ 60) := fun hh => h ⟨hb, hh⟩
        omega
    rw [(smp_no h').1]
    simp
theorem smpOk_yes {xs : List Ltr} {k : Int} (h : smpOk xs k = true) : okB xs = true ∧ 1 ≤ k ∧ k ≤ 60 ∧ smp xs k = every (k.toNat - 1) xs 0 := by
  have h0 := h
  unfold smpOk at h
  simp only [Bool.and_eq_true, decide_eq_true_iff] at h
  refine ⟨h.1, h.2.1, h.2.2, ?_⟩
  unfold smp
  rw [if_pos (show (okB xs && (decide (1 ≤ k) && decide (k ≤ 60))) = true from h0)]

set_option maxHeartbeats 1000000 in
theorem walk_FnSample (w : World) (v : Value) (bs : List UInt8) (hv : rd w w.heap.size v bs) :
    Calls Try.prog 7 #[v] w fun e w' => e = .returned (.bool true) ∧ Below w.heap.size w w' := by
  have hv0 := hv
  obtain ⟨A, n, c, rfl, hn, hc, hm, _⟩ := hv
  subst hn
  unfold maxLen at hm
  go_enter Try.func7, Try.ntmps7
  by_cases hsz : 1048576 < bs.length
  · go_wp2_with fail
    go_ret
    exact ⟨rfl, Below.refl _ _⟩
  go_wp2_with fail
  refine (spec_DrawSampleLetters _ bs w hv0).mono ?_
  rintro e w1 ⟨vb, xs, k, rfl, hk, ho, hl, b1⟩
  obtain ⟨Ab, nb, cb, hvb, hnb, hcb, hmb, _⟩ := ho.rd
  subst hnb hvb
  unfold maxLen at hmb
  clear hv0
  go_wp2_with fail
  refine (impl_SampleLetters _ xs k _ ho.rd).mono ?_
  rintro e w2 ⟨vx, rfl, ox, b2⟩
  have B2 := b1.trans (b2.mono b1.size)
  have ho2 := ho.below b2
  go_wp2_with fail
  refine (spec_SampleLetters _ xs k _ ho2.rd).mono ?_
  rintro e w3 ⟨vw, rfl, ow, b3⟩
  have B3 := B2.trans (b3.mono B2.size)
  have ho3 := ho2.below b3
  have ox3 := ox.below b3
  have hq : eqBy ltrEq (smp xs k) (smp xs k) = true := (eqBy_iff ltrEq_iff).2 rfl
  obtain ⟨Ax, nx, cx, hvx, hnx, hcx, hmx, _⟩ := ox.rd
  subst hnx hvx
  unfold maxLen at hmx
  go_wp2_with fail
  refine (laws_soBatch _ _ _ _ _ ox3.rd ow.rd).mono ?_
  rw [hq]
  rintro e w4 ⟨rfl, b4⟩
  have B4 := B3.trans (b4.mono B3.size)
  have ho4 := ho3.below b4
  have ox4 := ox3.below b4
  have ow4 := ow.below b4
  clear ho ho2 ho3 ox ox3 ow b1 b2 b3 b4 B2 B3
  cases hok : smpOk xs k
  · have hff : ((false : Bool) != false) = false := rfl
    have hfe : ((false : Bool) == false) = true := rfl
    go_wp2_with fail
    refine (laws_soBatch _ _ _ _ _ ox4.rd ow4.rd).mono ?_
    rw [hq]
    rintro e w5 ⟨rfl, b5⟩
    have B5 := B4.trans (b5.mono B4.size)
    go_wp2_with fail
    go_ret
    exact ⟨rfl, B5⟩
  obtain ⟨hokB, k1, k2, hsm⟩ := smpOk_yes hok
  obtain ⟨q, rfl⟩ := Int.eq_ofNat_of_zero_le (show 0 ≤ k by omega)
  rw [Int.toNat_natCast] at hsm
  have hlen := every_len (q - 1) xs
  have hget := fun i => every_get (q - 1) i xs
  rw [← hsm] at hlen
  have hl60 := okB_len hokB
  have HG : Hid (∀ i (h : i < (smp xs q).length), ∃ h2 : i * q < xs.length, (smp xs q)[i] = xs[i * q]) := fun i h => by
    have h1 := hget i
    rw [← hsm, show q - 1 + 1 = q by omega, List.getElem?_eq_getElem h] at h1
    have h2 := (List.getElem?_eq_some_iff.1 h1.symm)
    exact ⟨h2.1, h2.2.symm⟩
  have HL := Lib.hid hlen; clear hlen
  have HOK := Lib.hid hok; clear hok
  have HSM := Lib.hid hsm; clear hsm hget
  have HQ := Lib.hid hq; clear hq
  have hql : (smp xs q).length ≤ 60 := smp_len60 xs q
  generalize smp xs q = ys at *
  have htt : ((true : Bool) != true) = false := rfl
  go_wp2_with fail
  go_loopw [9] (fun i wr => ∃ k : Nat, k ≤ ys.length ∧ i = .int .i64 k ∧ Below w4.heap.size w4 wr) (fun i _ => ys.length - (intOf i).toNat)
  case atStart => exact ⟨0, Nat.zero_le _, rfl, Below.refl _ _⟩
  case round =>
    obtain ⟨i, hi, rfl, hb⟩ := hrel
    obtain ⟨w5, rfl⟩ : ∃ w5 : World, w5 = wr := ⟨_, rfl⟩
    have ho5 := ho4.below hb
    have ox5 := ox4.below hb
    have B5 := B4.trans (hb.mono B4.size)
    by_cases hlt : i < ys.length
    · obtain ⟨h2, he⟩ := HG.out i hlt
      obtain ⟨gb, rfl, _, _, _, _⟩ := own_some ho5 (by omega)
      obtain ⟨gx, rfl, _, _, _, _⟩ := own_some ox5 (by omega)
      obtain ⟨_, c1, c2⟩ := own_ltr ox5 i hlt
      obtain ⟨_, d1, d2⟩ := own_ltr ho5 (i * q) h2
      rw [← he] at d1 d2
      clear he
      generalize ys[i] = x at *
      have hiq : (i : Int) * (q : Int) = ((i * q : Nat) : Int) := by rw [Int.natCast_mul]
      generalize i * q = j at *
      have hw : IntKind.i64.wrap (j : Int) = (j : Int) := IntWalk.i64_in _ (by omega)
      have q0 : (i : Int) < (ys.length : Int) := by omega
      have q1 : (j : Int) < (xs.length : Int) := by omega
      have e1 := ltr_neq x.id x.id x.code x.code
      have e2 := ltr_guard
      have e3 : ltrEq ⟨x.id, x.code⟩ ⟨x.id, x.code⟩ = true := (ltrEq_iff _ _).2 rfl
      go_wp2
      go_quiet (fail)
      go_wp2
      go_roundw
      case rel => exact ⟨i + 1, by omega, by go_num, below_drewN hb _⟩
      case measure => simp [intOf]; omega
    · go_wp2_with fail
      refine (impl_SampleLetters _ xs 1 _ ho5.rd).mono ?_
      rintro e w6 ⟨va, rfl, oa, b6⟩
      have B6 := B5.trans (b6.mono B5.size)
      have ho6 := ho5.below b6
      obtain ⟨s1, s2⟩ := smp_yes (xs := xs) (k := 1) hokB (by omega) (by omega)
      have s1' : smp xs 1 = xs := s1.trans (every_one xs)
      have s2' : smpOk xs 1 = true := s2
      rw [s1'] at oa
      rw [s2']
      have hl2 : (((ys.length : Int)) == ((xs.length : Int) + (q : Int) - 1) / (q : Int)) = true := by
        rw [beq_iff_eq, HL.out, show q - 1 + 1 = q by omega]
        rw [show (xs.length : Int) + (q : Int) - 1 = ((xs.length + (q - 1) : Nat) : Int) by omega]
        rfl
      clear s1 s2 s1' s2'
      have hqq : eqBy ltrEq xs xs = true := (eqBy_iff ltrEq_iff).2 rfl
      go_wp2_with fail
      refine (laws_soBatch _ _ _ _ _ oa.rd ho6.rd).mono ?_
      rw [hqq]
      rintro e w7 ⟨rfl, b7⟩
      have B7 := B6.trans (b7.mono B6.size)
      go_wp2_with fail
      go_ret
      exact ⟨rfl, B7⟩

end Go.Proofs.Ytfebdijgmmdlnaa
