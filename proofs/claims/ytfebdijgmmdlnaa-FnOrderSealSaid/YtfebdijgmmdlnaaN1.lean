/- FnOrderSeal: what the law computes, and its walk. -/
import Derived.Test.YtfebdijgmmdlnaaD2
import Derived.Test.YtfebdijgmmdlnaaM2
import Derived.Test.YtfebdijgmmdlnaaW2
import Derived.StillTailTactics
import Derived.Deep.RegionHeld3
namespace Go.Proofs.Ytfebdijgmmdlnaa
open Go.RowKit

theorem os_inj {n m x : Int} (h0 : 0 ≤ n) (h1 : n < 9973) (k0 : 0 ≤ m) (k1 : m < 9973) (h : (31 * n + x) % 9973 = (31 * m + x) % 9973) : n = m := by omega
theorem os_range (xs : List Ltr) : ∀ n, 0 ≤ n → n < 9973 → 0 ≤ xs.foldl osStep n ∧ xs.foldl osStep n < 9973 := by
  induction xs with
  | nil => intro n h0 h1; exact ⟨h0, h1⟩
  | cons x xs ih => intro n _ _; exact ih _ (by unfold osStep; omega) (by unfold osStep; omega)
theorem os_fold_inj (xs : List Ltr) : ∀ n m, 0 ≤ n → n < 9973 → 0 ≤ m → m < 9973 → xs.foldl osStep n = xs.foldl osStep m → n = m := by
  induction xs with
  | nil => intro n m _ _ _ _ h; exact h
  | cons x xs ih =>
    intro n m h0 h1 k0 k1 h
    have := ih (osStep n x) (osStep m x) (by unfold osStep; omega) (by unfold osStep; omega) (by unfold osStep; omega) (by unfold osStep; omega) h
    exact os_inj h0 h1 k0 k1 this
/-- Two neighbours exchanged. -/
def swapAt (xs : List Ltr) (i : Nat) (h : i + 1 < xs.length) : List Ltr := (xs.set (i + 1) xs[i]).set i xs[i + 1]
theorem split_at (xs : List Ltr) (i : Nat) (h : i + 1 < xs.length) : xs = xs.take i ++ xs[i] :: xs[i + 1] :: xs.drop (i + 2) := by
  conv => lhs; rw [← List.take_append_drop i xs, List.drop_eq_getElem_cons (by omega), List.drop_eq_getElem_cons h]
theorem swap_at (xs : List Ltr) (i : Nat) (h : i + 1 < xs.length) : swapAt xs i h = xs.take i ++ xs[i + 1] :: xs[i] :: xs.drop (i + 2) := by
  unfold swapAt
  apply List.ext_getElem
  · simp; omega
  · intro k h1 h2
    have hk : k < xs.length := by simpa using h1
    by_cases e1 : k < i
    · rw [List.getElem_set_ne (by omega), List.getElem_set_ne (by omega), List.getElem_append_left (by simp; omega)]
      simp
    · by_cases e2 : k = i
      · subst e2
        rw [List.getElem_set_self, List.getElem_append_right (by simp; omega)]
        simp [List.length_take, Nat.min_eq_left (show k ≤ xs.length by omega)]
      · by_cases e3 : k = i + 1
        · subst e3
          rw [List.getElem_set_ne (by omega), List.getElem_set_self, List.getElem_append_right (by simp; omega)]
          simp [List.length_take, Nat.min_eq_left (show i ≤ xs.length by omega)]
        · rw [List.getElem_set_ne (by omega), List.getElem_set_ne (by omega), List.getElem_append_right (by simp; omega)]
          have hm : (xs.take i).length = i := by simp; omega
          have e : k - (xs.take i).length = (k - i - 2) + 2 := by rw [hm]; omega
          simp only [e, List.getElem_cons_succ, List.getElem_drop]
          congr 1
          omega
theorem okB_swap {xs : List Ltr} (i : Nat) (h : i + 1 < xs.length) (hok : okB xs = true) : okB (swapAt xs i h) = true := by
  obtain ⟨h1, h2⟩ := okB_iff.1 hok
  have hl : (swapAt xs i h).length = xs.length := by simp [swapAt]
  have hg : ∀ k (hk : k < (swapAt xs i h).length), ∃ (k' : Nat) (hk' : k' < xs.length), (swapAt xs i h)[k] = xs[k'] ∧ (k = i ∧ k' = i + 1 ∨ k = i + 1 ∧ k' = i ∨ k ≠ i ∧ k ≠ i + 1 ∧ k' = k) := fun k hk => by
    have hk0 : k < ((xs.set (i + 1) xs[i]).set i xs[i + 1]).length := hk
    change ∃ (k' : Nat) (hk' : k' < xs.length), ((xs.set (i + 1) xs[i]).set i xs[i + 1])[k] = xs[k'] ∧ _
    clear hk
    by_cases e2 : k = i
    · subst e2
      exact ⟨k + 1, h, by rw [List.getElem_set_self], .inl ⟨rfl, rfl⟩⟩
    · by_cases e3 : k = i + 1
      · subst e3
        exact ⟨i, by omega, by rw [List.getElem_set_ne (by omega), List.getElem_set_self], .inr (.inl ⟨rfl, rfl⟩)⟩
      · exact ⟨k, by simpa using hk0, by rw [List.getElem_set_ne (by omega), List.getElem_set_ne (by omega)], .inr (.inr ⟨e2, e3, rfl⟩)⟩
  have hne : ∀ a b (ha : a < xs.length) (hb : b < xs.length), a ≠ b → xs[a].id ≠ xs[b].id := fun a b ha hb hab => by
    rcases Nat.lt_or_gt_of_ne hab with hlt | hlt
    · exact (h2 b hb).2.2.2 a hlt
    · exact fun e => (h2 a ha).2.2.2 b hlt e.symm
  refine okB_iff.2 ⟨by rw [hl]; exact h1, fun k hk => ?_⟩
  obtain ⟨k', hk', e, hc⟩ := hg k hk
  rw [e]
  obtain ⟨a1, a2, a3, _⟩ := h2 k' hk'
  refine ⟨a1, a2, a3, fun j hj => ?_⟩
  obtain ⟨j', hj', e', hc'⟩ := hg j (by omega)
  rw [e']
  exact hne _ _ _ _ (by omega)
/-- The point: exchanged neighbours change the order seal, unless their numbers differ by a multiple of the size. -/
theorem os_swap {xs : List Ltr} (i : Nat) (h : i + 1 < xs.length) (hd : (xs[i + 1].id - xs[i].id) % 9973 ≠ 0) : osL (swapAt xs i h) ≠ osL xs := by
  intro he
  unfold osL at he
  rw [swap_at xs i h] at he
  conv at he => rhs; rw [split_at xs i h]
  rw [List.foldl_append, List.foldl_append] at he
  obtain ⟨s0, s1⟩ := os_range (xs.take i) 0 (by omega) (by omega)
  generalize (xs.take i).foldl osStep 0 = s at *
  simp only [List.foldl_cons] at he
  have h2 := os_fold_inj (xs.drop (i + 2)) _ _ (by unfold osStep; omega) (by unfold osStep; omega) (by unfold osStep; omega) (by unfold osStep; omega) he
  unfold osStep at h2
  omega

theorem own_setLtr {T base g n c : Nat} {w : World} {xs : List Ltr} (h : own T base w (.slice (some ⟨g, 0, none⟩) n c) xs) {k : Nat} (hk : k < xs.length) (y : Ltr) (hy : y.ok) :
    own T base ((w.setCell ⟨g, k * 2, none⟩ (.int .i64 y.id)).setCell ⟨g, k * 2 + 1, none⟩ (.string y.code)) (.slice (some ⟨g, 0, none⟩) n c) (xs.set k y) := by
  have h1 := h.setCell (k := k) (j := 0) hk (by decide) (.int .i64 y.id) ⟨y.id, xs[k].code⟩ (fun ecs he => by
    obtain ⟨⟨_, q⟩, rfl⟩ := he
    exact ⟨⟨hy.1, q⟩, rfl⟩)
  have h2 := h1.setCell (k := k) (j := 1) (by simpa using hk) (by decide) (.string y.code) y (fun ecs he => by
    obtain ⟨_, rfl⟩ := he
    refine ⟨hy, ?_⟩
    simp [Ltr.cells])
  rw [List.set_set] at h2
  exact h2

theorem spec_DrawOrderSeal (v : Value) (bs : List UInt8) (w : World) (hv : rd w w.heap.size v bs) :
    Calls Try.prog 19 #[v] w fun e w' => ∃ (v' : Value) (xs : List Ltr), e = .returned v' ∧ own 36 w.heap.size w' v' xs ∧ xs.length ≤ 61 ∧ Below w.heap.size w w' := by
  go_enter Try.func19, Try.ntmps19
  go_wp2_with fail
  refine (rd_open v bs w hv).mono ?_
  rintro e w1 ⟨g, rfl, hg, hr, b1⟩
  go_wp2_with fail
  refine (rd_l2Open g 0 w1 hr (by omega)).mono ?_
  rintro e w2 ⟨v2, xs, p', rfl, ho, hl, _, _, hg2⟩
  go_wp2_with fail
  go_ret
  exact ⟨_, xs, rfl, ho.base_ b1.size, hl, b1.trans (below_of_grown hg2 b1.size (fun k hk => by injection hk; omega))⟩

set_option maxHeartbeats 1000000 in
theorem walk_FnOrderSeal (w : World) (v : Value) (bs : List UInt8) (hv : rd w w.heap.size v bs) :
    Calls Try.prog 6 #[v] w fun e w' => e = .returned (.bool true) ∧ Below w.heap.size w w' := by
  have hv0 := hv
  obtain ⟨A, n, c, rfl, hn, hc, hm, _⟩ := hv
  subst hn
  unfold maxLen at hm
  obtain ⟨i0, hi, hz0, hz1, hz2⟩ := info_parts Try.infoLtr
  go_enter Try.func6, Try.ntmps6
  by_cases hsz : 1048576 < bs.length
  · go_wp2_with fail
    go_ret
    exact ⟨rfl, Below.refl _ _⟩
  go_wp2_with fail
  refine (spec_DrawOrderSeal _ bs w hv0).mono ?_
  rintro e w1 ⟨vb, xs, rfl, ho, hl, b1⟩
  obtain ⟨Ab, nb, cb0, hvb, hnb, _, _, _⟩ := ho.rd
  subst hnb hvb
  clear hv0
  go_wp2_with fail
  refine (impl_OrderSeal _ xs _ ho.rd).mono ?_
  rintro e w2 ⟨rfl, b2⟩
  have B2 := b1.trans (b2.mono b1.size)
  have ho2 := ho.below b2
  go_wp2_with fail
  refine (spec_OrderSeal _ xs _ ho2.rd).mono ?_
  rintro e w3 ⟨rfl, b3⟩
  have B3 := B2.trans (b3.mono B2.size)
  have ho3 := ho2.below b3
  cases hok : okB xs
  · have HOK := Lib.hid hok; clear hok
    show _
    have e1 : orOf false (osL xs) = -1 := rfl
    rw [e1]
    have hq : ((-1 : Int) != -1) = false := by decide
    have hq2 : ((-1 : Int) == -1) = true := by decide
    go_wp2_with fail
    refine (spec_OrderSeal _ xs _ ho3.rd).mono ?_
    rintro e w4 ⟨rfl, b4⟩
    have B4 := B3.trans (b4.mono B3.size)
    rw [HOK.out, e1]
    go_wp2_with fail
    go_ret
    exact ⟨rfl, B4⟩
  have HOK := Lib.hid hok; clear hok
  have e1 : orOf true (osL xs) = osL xs := rfl
  rw [e1]
  have hrg := os_range xs 0 (by omega) (by omega)
  change 0 ≤ osL xs ∧ osL xs < 9973 at hrg
  obtain ⟨r0, r1⟩ := hrg
  have hn : Hid (∃ n, n = osL xs) := ⟨_, rfl⟩
  obtain ⟨n, hn'⟩ := hn.out
  rw [← hn'] at r0 r1 ⊢
  have HN := Lib.hid hn'; clear hn' hn e1
  have hq : (n != n) = false := by simp
  have hl60 := okB_len HOK.out
  go_wp2_with fail
  go_loopw [5] (fun i wr => ∃ k : Nat, k ≤ xs.length ∧ i = .int .i64 ((k : Int) + 1) ∧ Below w.heap.size w wr ∧ own 36 w.heap.size wr (.slice Ab xs.length cb0) xs) (fun i _ => 100 - (intOf i).toNat)
  case atStart => exact ⟨0, by omega, rfl, B3, ho3⟩
  case round =>
    obtain ⟨k, hk, rfl, B4, ho4⟩ := hrel
    obtain ⟨w4, rfl⟩ : ∃ w4 : World, w4 = wr := ⟨_, rfl⟩
    clear ho ho2 ho3 b1 b2 b3 B2 B3
    by_cases hlt : k + 1 < xs.length
    · have hki : (k : Int) + 1 < (xs.length : Int) := by omega
      obtain ⟨gb, rfl, hgb, hgbl, hcb, hmb⟩ := own_some ho4 (by omega)
      unfold maxLen at hmb
      have oE := own.made0 (α := Ltr) w4 36 (Nat.le_refl _)
      have ho5 := ho4.alloc (Obj.cells #[] 36)
      have hz5 : w4.heap.size ≤ (w4.alloc (Obj.cells #[] 36)).heap.size := by simp
      have hB5 : Below w4.heap.size w4 (w4.alloc (Obj.cells #[] 36)) := (Below.refl _ _).alloc (Nat.le_refl _) _
      go_wp2_with
       (at_builtin
        refine wpList_appendAll (α := Ltr) rfl (.tmp 32) (.tmp 33) _ rfl w4.heap.size 36 i0 _ 24 Try.underlying25 hi hz0 hz1 hz2 rfl (by decide) (.slice (some ⟨w4.heap.size, 0, none⟩) 0 0) [] rfl oE _ xs rfl _ ho5.rd (by unfold maxLen; simp; omega) (by simp; omega) hz5 ?_
        intro vx w5 ox hgx _
        have hB5x : Below w4.heap.size w4 w5 := hB5.trans (below_append oE hgx hz5)
        rw [List.nil_append] at ox
        clear oE ho5 hgx hB5 hz5
        obtain ⟨Ax, nx, cx, hvx, hnx, _, _, _⟩ := ox.rd
        subst hnx hvx
        obtain ⟨gx, rfl, hgx, hgxl, hcx, hmx⟩ := own_some ox (by omega)
        unfold maxLen at hmx
        have ho5 := ho4.below hB5x
        obtain ⟨k0, c1, c2⟩ := own_ltr ho5 k (by omega)
        obtain ⟨k1, d1, d2⟩ := own_ltr ho5 (k + 1) hlt
        have HSW := Lib.hid (fun h => os_swap k hlt h)
        have HOS := Lib.hid (okB_swap k hlt HOK.out)
        have HSA : Hid (swapAt xs k hlt = (xs.set (k + 1) xs[k]).set k xs[k + 1]) := rfl
        have HI := Lib.hid (okB_at HOK.out k (by omega))
        have HI1 := Lib.hid (okB_at HOK.out (k + 1) hlt)
        generalize swapAt xs k hlt = ys at *
        generalize hxk : xs[k] = x at *
        generalize hyk : xs[k + 1] = y at *
        clear hxk hyk
        have o1 := own_setLtr ox (k := k + 1) hlt x k0
        have o2 := own_setLtr o1 (k := k) (by simp; omega) y k1
        rw [← HSA.out] at o2
        have O2 := Lib.hid o2; clear o2
        obtain ⟨u0, g0⟩ := ox.cellAt (j := k * 2) (by show _ < _ * 2; omega)
        obtain ⟨u1, g1⟩ := ox.cellAt (j := k * 2 + 1) (by show _ < _ * 2; omega)
        obtain ⟨u2', g2⟩ := ox.cellAt (j := (k + 1) * 2) (by show _ < _ * 2; omega)
        obtain ⟨u3, g3⟩ := ox.cellAt (j := (k + 1) * 2 + 1) (by show _ < _ * 2; omega)
        have f0 := ox.freeAt (k * 2)
        have f1 := ox.freeAt (k * 2 + 1)
        have f2 := ox.freeAt ((k + 1) * 2)
        have f3 := ox.freeAt ((k + 1) * 2 + 1)
        have OX := Lib.hid ox; clear ox o1
        have hgne : gb < gx := by omega
        have h2k : ¬ k * 2 = (k + 1) * 2 := by omega)
      have hB6 : Below w4.heap.size w4 ((((w5.setCell ⟨gx, (k + 1) * 2, none⟩ (.int .i64 x.id)).setCell ⟨gx, (k + 1) * 2 + 1, none⟩ (.string x.code)).setCell ⟨gx, k * 2, none⟩ (.int .i64 y.id)).setCell ⟨gx, k * 2 + 1, none⟩ (.string y.code)) := (((hB5x.setCell (p := ⟨gx, (k + 1) * 2, none⟩) hgx _).setCell (p := ⟨gx, (k + 1) * 2 + 1, none⟩) hgx _).setCell (p := ⟨gx, k * 2, none⟩) hgx _).setCell (p := ⟨gx, k * 2 + 1, none⟩) hgx _
      have hO6 := O2.out
      generalize ((((w5.setCell ⟨gx, (k + 1) * 2, none⟩ (.int .i64 x.id)).setCell ⟨gx, (k + 1) * 2 + 1, none⟩ (.string x.code)).setCell ⟨gx, k * 2, none⟩ (.int .i64 y.id)).setCell ⟨gx, k * 2 + 1, none⟩ (.string y.code)) = w6 at *
      clear g0 g1 g2 g3 f0 f1 f2 f3 O2 OX
      have ho6 := ho4.below hB6
      have B6 := B4.trans (hB6.mono B4.size)
      have hc1 : w6.cell? ⟨gb, k * 2, none⟩ = some (.int .i64 x.id) := (hB6.cell (p := ⟨gb, k * 2, none⟩) hgbl).trans ((hB5x.cell (p := ⟨gb, k * 2, none⟩) hgbl).symm.trans c1)
      have hd1 : w6.cell? ⟨gb, (k + 1) * 2, none⟩ = some (.int .i64 y.id) := (hB6.cell (p := ⟨gb, (k + 1) * 2, none⟩) hgbl).trans ((hB5x.cell (p := ⟨gb, (k + 1) * 2, none⟩) hgbl).symm.trans d1)
      clear c1 c2 d1 d2 hB5x ho5
      obtain ⟨a1, a2⟩ := HI.out
      obtain ⟨b1, b2⟩ := HI1.out
      have hk0 : (0 : Int) ≤ (k : Int) + 1 := by omega
      have hkk : (k : Int) < (xs.length : Int) := by omega
      have hkt : ((k : Int) + 1).toNat = k + 1 := by omega
      have hws : IntKind.i64.wrap (k : Int) = (k : Int) := IntWalk.i64_in _ (by omega)
      have hws2 : IntKind.i64.wrap ((k : Int) + 1 - 1) = (k : Int) := by rw [IntWalk.i64_in _ (by omega)]; omega
      have hw1 : IntKind.i64.wrap (y.id - x.id) = y.id - x.id := IntWalk.i64_in _ (by omega)
      have HDV : Hid ((y.id - x.id).tmod 9973 = 0 ↔ (y.id - x.id) % 9973 = 0) := ⟨fun h => Int.emod_eq_zero_of_dvd (Int.dvd_of_tmod_eq_zero h), fun h => Int.tmod_eq_zero_of_dvd (Int.dvd_of_emod_eq_zero h)⟩
      have hwt : IntKind.i64.wrap ((y.id - x.id).tmod 9973) = (y.id - x.id).tmod 9973 := IntWalk.i64_in _ (by
        have q1 := Int.tmod_lt_of_pos (y.id - x.id) (show (0 : Int) < 9973 by omega)
        have q2 := Int.lt_tmod_of_pos (y.id - x.id) (show (0 : Int) < 9973 by omega)
        omega)
      by_cases hd : (y.id - x.id) % 9973 = 0
      · have ht : (((y.id - x.id).tmod 9973) != 0) = false := by rw [HDV.out.2 hd]; decide
        clear hd
        go_wp2
        go_quiet (fail)
        go_wp2
        go_roundw
        case rel => exact ⟨k + 1, by omega, by go_num, below_drewN B6 _, ho6.below (below_drewN (Below.refl _ _) _)⟩
        case measure => simp [intOf]; omega
      · have ht : (((y.id - x.id).tmod 9973) != 0) = true := by rw [bne_iff_ne]; exact fun h => hd (HDV.out.1 h)
        have HMN : Hid (orOf (okB ys) (osL ys) ≠ n) := by
          show _ ≠ _
          rw [HOS.out, HN.out]
          exact HSW.out hd
        obtain ⟨m, HM⟩ : ∃ m, Hid (orOf (okB ys) (osL ys) = m) := ⟨_, rfl⟩
        have hmn : (m == n) = false := beq_eq_false_iff_ne.2 (HM.out ▸ HMN.out)
        have hg6 : gb < w6.heap.size := by have := hB6.size; omega
        clear hd
        go_wp2
        go_region_held3 (fun w' => w'.cell? ⟨gb, k * 2, none⟩ = some (.int .i64 x.id) ∧ w'.cell? ⟨gb, (k + 1) * 2, none⟩ = some (.int .i64 y.id))
          (first | go_keep | (exact ⟨(hb3.cell (p := ⟨gb, k * 2, none⟩) (by simp; omega)).trans (by go_simp), (hb3.cell (p := ⟨gb, (k + 1) * 2, none⟩) (by simp; omega)).trans (by go_simp)⟩))
          (first | (go_at_call 11; refine (impl_OrderSeal _ ys _ hO6.drew.rd).mono ?_; rw [HM.out]; rintro e w7 ⟨rfl, hb3⟩))
        have hb7 : Below w6.heap.size w6 w7 := (Below.refl _ _).drew.trans hb3
        clear hb3
        go_wp2
        go_roundw
        case rel => exact ⟨k + 1, by omega, by go_num, B6.trans (hb7.mono B6.size), ho6.below hb7⟩
        case measure => simp [intOf]; omega
    · have HP : Hid (orOf (okB []) (osL []) = 0) := by show _ = _; decide
      have h9 : n < 9973 := r1
      go_wp2_with fail
      refine (impl_OrderSeal _ [] _ rd.nil_).mono ?_
      rw [HP.out]
      rintro e w5 ⟨rfl, b5⟩
      have B5 := B4.trans (b5.mono B4.size)
      have hnn : (n == n) = true := by simp
      go_wp2_with fail
      refine (impl_OrderSeal _ xs _ (ho4.below b5).rd).mono ?_
      rw [HOK.out, show orOf true (osL xs) = osL xs from rfl, ← HN.out]
      rintro e w6 ⟨rfl, b6⟩
      have B6 := B5.trans (b6.mono B5.size)
      go_wp2_with fail
      go_ret
      exact ⟨rfl, B6⟩

end Go.Proofs.Ytfebdijgmmdlnaa
