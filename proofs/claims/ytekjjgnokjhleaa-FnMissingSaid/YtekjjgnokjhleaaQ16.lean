/- SO M3 -/
import Derived.Test.YtekjjgnokjhleaaQ2
import Derived.Test.YtekjjgnokjhleaaQ5
import Derived.Test.YtekjjgnokjhleaaQ15
import Derived.Test.YtekjjgnokjhleaaQ8
import Derived.Deep.RegionHeld3
import Derived.Test.YtekjjgnokjhleaaQ7
import Derived.Test.YtekjjgnokjhleaaQ12
namespace Go.Proofs.Ytekjjgnokjhleaa
open Go.RowKit

theorem so_batch (v v' : Value) (xs : List Ltr) (w : World) (hv : rd w w.heap.size v xs) (hv' : rd w w.heap.size v' xs) :
    Calls Try.prog 23 #[v, v'] w fun e w' => e = .returned (.bool true) ∧ Below w.heap.size w w' := by
  refine (laws_soBatch _ _ _ _ _ hv hv').mono ?_
  rw [(eqBy_iff ltrEq_iff).2 rfl]
  exact fun e w' h => h

set_option maxHeartbeats 400000 in
theorem so_bins (v v' : Value) (xss : List (List Ltr)) (w : World) (hv : rd w w.heap.size v xss) (hv' : rd w w.heap.size v' xss) :
    Calls Try.prog 22 #[v, v'] w fun e w' => e = .returned (.bool true) ∧ Below w.heap.size w w' := by
  obtain ⟨A, n, c, rfl, hn, hc, hm, hr⟩ := hv
  obtain ⟨A', n', c', rfl, hn', hc', hm', hr'⟩ := hv'
  subst hn hn'
  unfold maxLen at hm hm'
  have HR := Lib.hid hr; clear hr
  have HR' := Lib.hid hr'; clear hr'
  have l0 := Below.refl w.heap.size w
  have hl1 : ((xss.length : Int) != (xss.length : Int)) = false := by simp
  go_enter Try.func22, Try.ntmps22
  go_wp2_with fail
  go_loopw [5] (fun i wr => ∃ k : Nat, k ≤ xss.length ∧ i = .int .i64 k ∧ Below w.heap.size w wr) (fun i _ => xss.length - (intOf i).toNat)
  case atStart => exact ⟨0, Nat.zero_le _, rfl, l0⟩
  case round =>
    obtain ⟨k, hk, rfl, lr⟩ := hrel
    obtain ⟨w1, rfl⟩ : ∃ w1 : World, w1 = wr := ⟨_, rfl⟩
    clear l0
    by_cases hlt : k < xss.length
    · obtain ⟨b, o, u, rfl, hb, hu, c1⟩ := HR.out.rowU k hlt
      obtain ⟨b', o', u', rfl, hb', hu', c1'⟩ := HR'.out.rowU k hlt
      generalize xss[k] = ys at *
      have HU := Lib.hid hu; have HU' := Lib.hid hu'; clear hu hu'
      have hki : (k : Int) < (xss.length : Int) := by omega
      have ld := later_drew lr
      go_wp2_with fail
      go_region_held3 (fun W => Below w.heap.size w W) (first | exact ld | exact later_trans ld b3) (first | (go_at_call 23; refine (so_batch _ _ ys _ (HU.out.on ld) (HU'.out.on ld)).mono ?_; rintro e w3 ⟨rfl, b3⟩))
      have l3 := later_trans ld b3
      clear ld b3 lr
      go_wp2_with fail
      go_roundw
      case rel => exact ⟨k + 1, by omega, by go_num, l3⟩
      case measure => simp [intOf]; omega
    · go_wp2_with fail
      go_ret
      exact ⟨rfl, lr⟩

set_option maxHeartbeats 400000 in
theorem so_ints (v v' : Value) (xs : List Int) (w : World) (hv : rd w w.heap.size v xs) (hv' : rd w w.heap.size v' xs) :
    Calls Try.prog 28 #[v, v'] w fun e w' => e = .returned (.bool true) ∧ Below w.heap.size w w' := by
  obtain ⟨A, n, c, rfl, hn, hc, hm, hr⟩ := hv
  obtain ⟨A', n', c', rfl, hn', hc', hm', hr'⟩ := hv'
  subst hn hn'
  unfold maxLen at hm hm'
  have HR := Lib.hid hr; clear hr
  have HR' := Lib.hid hr'; clear hr'
  have l0 := Below.refl w.heap.size w
  have hl1 : ((xs.length : Int) != (xs.length : Int)) = false := by simp
  go_enter Try.func28, Try.ntmps28
  go_wp2_with fail
  go_loopw [5] (fun i wr => ∃ k : Nat, k ≤ xs.length ∧ i = .int .i64 k ∧ Below w.heap.size w wr) (fun i _ => xs.length - (intOf i).toNat)
  case atStart => exact ⟨0, Nat.zero_le _, rfl, l0⟩
  case round =>
    obtain ⟨k, hk, rfl, lr⟩ := hrel
    obtain ⟨w1, rfl⟩ : ∃ w1 : World, w1 = wr := ⟨_, rfl⟩
    clear l0
    by_cases hlt : k < xs.length
    · obtain ⟨b, o, rfl, hb, _, c1⟩ := HR.out.intU k hlt
      obtain ⟨b', o', rfl, hb', _, c1'⟩ := HR'.out.intU k hlt
      generalize xs[k] = y at *
      have hki : (k : Int) < (xs.length : Int) := by omega
      have hne : (y != y) = false := by simp
      go_wp2
      go_quiet (fail)
      go_wp2
      go_roundw
      case rel => exact ⟨k + 1, by omega, by go_num, below_drewN lr _⟩
      case measure => simp [intOf]; omega
    · go_wp2_with fail
      go_ret
      exact ⟨rfl, lr⟩

set_option maxHeartbeats 400000 in
theorem so_number (v : Value) (xs : List Int) (n : Int) (w : World) (hv : rd w w.heap.size v xs) :
    Calls Try.prog 31 #[v, .int .i64 n] w fun e w' => e = .returned (.bool (decide (n ∈ xs))) ∧ Below w.heap.size w w' := by
  obtain ⟨A, m, c, rfl, hn, hc, hm, hr⟩ := hv
  subst hn
  unfold maxLen at hm
  have HR := Lib.hid hr; clear hr
  have l0 := Below.refl w.heap.size w
  go_enter Try.func31, Try.ntmps31
  go_wp2_with fail
  go_loopw [5] (fun i wr => ∃ k : Nat, k ≤ xs.length ∧ i = .int .i64 k ∧ Below w.heap.size w wr ∧ Hid (∀ j (hj : j < xs.length), j < k → xs[j] ≠ n)) (fun i _ => xs.length - (intOf i).toNat)
  case atStart => exact ⟨0, Nat.zero_le _, rfl, l0, fun j _ h => absurd h (Nat.not_lt_zero j)⟩
  case round =>
    obtain ⟨k, hk, rfl, lr, HG⟩ := hrel
    obtain ⟨w1, rfl⟩ : ∃ w1 : World, w1 = wr := ⟨_, rfl⟩
    clear l0
    by_cases hlt : k < xs.length
    · obtain ⟨b, o, rfl, hb, _, c1⟩ := HR.out.intU k hlt
      have HY : Hid (∀ h : xs[k] = n, decide (n ∈ xs) = true) := fun h => decide_eq_true (h ▸ List.getElem_mem hlt)
      have HN : Hid (∀ h : xs[k] ≠ n, ∀ j (hj : j < xs.length), j < k + 1 → xs[j] ≠ n) := fun h j hj hjk => by
        by_cases he : j = k
        · subst he; exact h
        · exact HG.out j hj (by omega)
      generalize xs[k] = y at *
      have hki : (k : Int) < (xs.length : Int) := by omega
      by_cases hy : y = n
      · have hy' : (y == n) = true := by simp [hy]
        have HY2 := Lib.hid (HY.out hy)
        clear hy
        go_wp2_with fail
        go_ret
        exact ⟨ret_bool HY2.out.symm, lr⟩
      · have hy' : (y == n) = false := by simp [hy]
        have HN2 := Lib.hid (HN.out hy)
        clear hy
        go_wp2_with fail
        go_roundw
        case rel => exact ⟨k + 1, by omega, by go_num, lr, HN2.out⟩
        case measure => simp [intOf]; omega
    · have HE : Hid (decide (n ∈ xs) = false) := decide_eq_false fun h => by
        obtain ⟨j, hj, e⟩ := List.getElem_of_mem h
        exact HG.out j hj (by omega) e
      go_wp2_with fail
      go_ret
      exact ⟨ret_bool HE.out.symm, lr⟩

theorem findI_cases {b : List Ltr} (h : okB b = true) (n : Int) : (findI b n = -1 ∧ ∀ x ∈ b, x.id ≠ n) ∨ ∃ k : Nat, ∃ hk : k < b.length, findI b n = k ∧ b[k].id = n := by
  unfold findI
  rw [if_pos h]
  have hr := fiI_range (fun x : Ltr => x.id == n) b
  by_cases h0 : fiI (fun x : Ltr => x.id == n) b < 0
  · exact .inl ⟨by omega, fun x hx e => by have := fiI_neg h0 x hx; simp [e] at this⟩
  · obtain ⟨k, hk⟩ := Int.eq_ofNat_of_zero_le (show 0 ≤ fiI (fun x : Ltr => x.id == n) b by omega)
    obtain ⟨h1, h2, _⟩ := fiI_spec hk
    exact .inr ⟨k, h1, hk, by simpa using h2⟩
/-- The place of a letter of a batch. -/
theorem findI_of {b : List Ltr} (h : okB b = true) {x : Ltr} (hx : x ∈ b) : ∃ k : Nat, ∃ hk : k < b.length, findI b x.id = k ∧ b[k] = x := by
  rcases findI_cases h x.id with ⟨_, h1⟩ | ⟨k, hk, h1, h2⟩
  · exact absurd rfl (h1 x hx)
  · exact ⟨k, hk, h1, pw_inj (okB_pw.1 h).2.2 _ (List.getElem_mem hk) x hx h2⟩

theorem so_place (v : Value) (b : List Ltr) (n : Int) (w : World) (hv : rd w w.heap.size v b) :
    Calls Try.prog 30 #[v, .int .i64 n] w fun e w' => e = .returned (.int .i64 (findI b n)) ∧ Below w.heap.size w w' := by
  obtain ⟨r, HRR⟩ : ∃ r, Hid (findI b n = r) := ⟨_, rfl⟩
  rw [HRR.out]
  go_enter Try.func30, Try.ntmps30
  go_wp2_with fail
  refine (impl_FindLetter _ b n _ hv).mono ?_
  rw [HRR.out]
  rintro e w1 ⟨rfl, b1⟩
  go_wp2_with fail
  go_ret
  exact ⟨ret_int rfl, b1⟩

set_option maxHeartbeats 800000 in
theorem so_all (v v' : Value) (xs ys : List Ltr) (w : World) (hv : rd w w.heap.size v xs) (hv' : rd w w.heap.size v' ys) (hok : okB ys = true) (hs : sameL xs ys) :
    Calls Try.prog 26 #[v, v'] w fun e w' => e = .returned (.bool true) ∧ Below w.heap.size w w' := by
  have HV' := Lib.hid hv'
  have HOK := Lib.hid hok
  obtain ⟨hs1, hs2⟩ := hs
  have HS1 := Lib.hid hs1
  have HS2 : Hid (((xs.length : Int) == (ys.length : Int)) = true) := by show _ = _; rw [hs2]; simp
  clear hs1 hs2 hok
  obtain ⟨A, n, c, rfl, hn, hc, hm, hr⟩ := hv
  obtain ⟨A', n', c', rfl, hn', hc', hm', hr'⟩ := hv'
  subst hn hn'
  unfold maxLen at hm hm'
  have HR := Lib.hid hr; clear hr
  have HR' := Lib.hid hr'; clear hr'
  have l0 := Below.refl w.heap.size w
  go_enter Try.func26, Try.ntmps26
  go_wp2_with fail
  go_loopw [5] (fun i wr => ∃ k : Nat, k ≤ xs.length ∧ i = .int .i64 k ∧ Below w.heap.size w wr) (fun i _ => xs.length - (intOf i).toNat)
  case atStart => exact ⟨0, Nat.zero_le _, rfl, l0⟩
  case round =>
    obtain ⟨k, hk, rfl, lr⟩ := hrel
    obtain ⟨w1, rfl⟩ : ∃ w1 : World, w1 = wr := ⟨_, rfl⟩
    clear l0
    by_cases hlt : k < xs.length
    · obtain ⟨b, o, rfl, hb, _, c1, c2⟩ := HR.out.ltrU k hlt
      obtain ⟨m, hm1, hm2, hm3⟩ := findI_of HOK.out (HS1.out _ (List.getElem_mem hlt))
      obtain ⟨b', o', rfl, hb', _, d1, d2⟩ := HR'.out.ltrU m hm1
      rw [hm3] at d1 d2
      have HM2 := Lib.hid hm2; clear hm2 hm3
      generalize xs[k] = x at *
      have hki : (k : Int) < (xs.length : Int) := by omega
      have hmi : (m : Int) < (ys.length : Int) := by omega
      go_wp2_with fail
      refine (so_place _ ys x.id _ (HV'.out.on lr)).mono ?_
      rw [HM2.out]
      rintro e w2 ⟨rfl, b2⟩
      have l2 := later_trans lr b2
      clear lr b2
      have hneg : decide ((m : Int) < 0) = false := decide_eq_false (by omega)
      have q1 := ltr_neq x.id x.id x.code x.code
      have q2 := ltr_guard
      have q3 : ltrEq ⟨x.id, x.code⟩ ⟨x.id, x.code⟩ = true := (ltrEq_iff _ _).2 rfl
      go_wp2
      go_quiet (fail)
      go_wp2
      go_roundw
      case rel => exact ⟨k + 1, by omega, by go_num, below_drewN l2 _⟩
      case measure => simp [intOf]; omega
    · have h := HS2.out
      go_wp2_with fail
      go_ret
      exact ⟨rfl, lr⟩

theorem impl_PlanBin (v : Value) (p : Pln) (c : ByteArray) (k : Int) (w : World) (hv : rdP w w.heap.size v p) (h : passOk p k = true) :
    Calls Try.prog 25 #[v, .string c, .int .i64 k] w fun e w' => e = .returned (.int .i64 (binI p c k.toNat)) ∧ Below w.heap.size w w' := by
  obtain ⟨A0, c0, e0⟩ := openP hv
  obtain ⟨w0, hw0⟩ : ∃ w0, w0 = w.alloc (Obj.cells #[.int .i64 p.bins, .int .i64 p.passes, .slice A0 p.order.length c0] 25) := ⟨_, rfl⟩
  have q0 := box_cells hw0 0 (.int .i64 p.bins) rfl
  have q1 := box_cells hw0 1 (.int .i64 p.passes) rfl
  have q2 := box_cells hw0 2 (.slice A0 p.order.length c0) rfl
  have HT := Lib.hid (box_later hw0).1
  have HP := Lib.hid (hv.on HT.out)
  subst e0
  have HW0 := Lib.hid hw0; clear hw0 hv
  have l0 := Below.refl w0.heap.size w0
  have HH := Lib.hid h
  obtain ⟨hp, h0, h1⟩ := passOk_iff.1 h
  have HB := Lib.hid (planOk_bins hp)
  clear h hp
  obtain ⟨K, rfl⟩ := Int.eq_ofNat_of_zero_le h0
  rw [Int.toNat_natCast]
  obtain ⟨r, HRR⟩ : ∃ r, Hid (binI p c K = r) := ⟨_, rfl⟩
  rw [HRR.out]
  go_enter Try.func25, Try.ntmps25
  go_wp2_with fail
  rw [← HW0.out]
  refine (impl_passValid _ p K _ HP.out).mono ?_
  rw [HH.out]
  rintro e w1 ⟨rfl, b1⟩
  have l1 := later_trans l0 b1
  clear b1 l0
  go_wp2_with fail
  refine (impl_binOf _ p c K _ (HP.out.on l1) HB.out.1 HB.out.2.1 (by have := HB.out; omega) (by have := HB.out; omega)).mono ?_
  rw [HRR.out]
  rintro e w2 ⟨rfl, b2⟩
  have l2 := later_trans l1 b2
  go_wp2_with fail
  go_ret
  exact ⟨ret_int rfl, later_trans HT.out l2⟩

theorem no_iff {P : Prop} (h : ¬ P) : (false = true ↔ P) := ⟨fun e => (by cases e), fun e => absurd e h⟩
theorem yes_iff {P : Prop} (h : P) : (true = true ↔ P) := ⟨fun _ => h, fun _ => rfl⟩
/-- The first k letters are in order; last is the rank of the last one. -/
structure ordTo (p : Pln) (xs : List Ltr) (k : Nat) (last : Int) : Prop where
  ord : inOrd p (xs.take k)
  le : ∀ x ∈ xs.take k, rkI p.order x.code ≤ last
  nn : 0 ≤ last
  at_ : last = 0 ∨ ∃ x ∈ xs.take k, rkI p.order x.code = last
theorem ordTo.zero (p : Pln) (xs : List Ltr) : ordTo p xs 0 0 := ⟨by unfold inOrd ordered ranksOf; simp, by simp, Int.le_refl _, .inl rfl⟩
theorem ordTo.succ {p : Pln} {xs : List Ltr} {k : Nat} {last : Int} (h : ordTo p xs k last) (hk : k < xs.length) (hr : last ≤ rkI p.order xs[k].code) : ordTo p xs (k + 1) (rkI p.order xs[k].code) := by
  obtain ⟨h1, h2, h3, _⟩ := h
  have e := List.take_succ_eq_append_getElem hk
  refine ⟨?_, fun x hx => ?_, by omega, .inr ⟨xs[k], by rw [e]; exact List.mem_append_right _ (List.mem_singleton.2 rfl), rfl⟩⟩
  · unfold inOrd ranksOf at *
    rw [e, List.map_append]
    refine ordered.snoc (r := rkI p.order xs[k].code) h1 (by omega) fun r hr' => ?_
    obtain ⟨x, hx, rfl⟩ := List.mem_map.1 hr'
    have := h2 x hx
    show rkI p.order x.code ≤ _
    omega
  · rw [e] at hx
    rcases List.mem_append.1 hx with hx | hx
    · have := h2 x hx; omega
    · rw [List.mem_singleton.1 hx]; omega
theorem ordTo.bad {p : Pln} {xs : List Ltr} {k : Nat} {last : Int} (h : ordTo p xs k last) (hk : k < xs.length) (hr : rkI p.order xs[k].code < last) : ¬ inOrd p xs := by
  intro ho
  obtain ⟨o1, o2⟩ := inOrd_iff.1 ho
  have h0 := o1 xs[k] (List.getElem_mem hk)
  rcases h.at_ with e | ⟨x, hx, e⟩
  · omega
  · rw [List.mem_take_iff_getElem] at hx
    obtain ⟨j, hj, rfl⟩ := hx
    have := (List.pairwise_iff_getElem.1 o2) j k (by omega) hk (by omega)
    omega

set_option maxHeartbeats 800000 in
theorem impl_InOrder (v vb : Value) (p : Pln) (xs : List Ltr) (w : World) (hv : rdP w w.heap.size v p) (hb : rd w w.heap.size vb xs) :
    Calls Try.prog 43 #[v, vb] w fun e w' => ∃ b : Bool, e = .returned (.bool b) ∧ (b = true ↔ rpOk p xs = true ∧ inOrd p xs) ∧ Below w.heap.size w w' := by
  obtain ⟨A0, c0, e0⟩ := openP hv
  obtain ⟨w0, hw0⟩ : ∃ w0, w0 = w.alloc (Obj.cells #[.int .i64 p.bins, .int .i64 p.passes, .slice A0 p.order.length c0] 25) := ⟨_, rfl⟩
  have q0 := box_cells hw0 0 (.int .i64 p.bins) rfl
  have q1 := box_cells hw0 1 (.int .i64 p.passes) rfl
  have q2 := box_cells hw0 2 (.slice A0 p.order.length c0) rfl
  have HT := Lib.hid (box_later hw0).1
  have HP := Lib.hid (hv.on HT.out)
  have HX := Lib.hid (hb.on HT.out)
  subst e0
  have HO := Lib.hid (ordP HP.out)
  have HW0 := Lib.hid hw0; clear hw0 hv hb
  have l0 := Below.refl w0.heap.size w0
  have hx := HX.out
  obtain ⟨A, n, c, rfl, hn, hc, hm, hr⟩ := hx
  subst hn
  unfold maxLen at hm
  have HR := Lib.hid hr; clear hr
  go_enter Try.func43, Try.ntmps43
  go_wp2_with fail
  rw [← HW0.out]
  refine (impl_PlanValid _ p _ HP.out).mono ?_
  rintro e w1 ⟨rfl, b1⟩
  have l1 := later_trans l0 b1
  clear b1 l0
  cases h1 : planOk p
  · have H1 := Lib.hid h1; clear h1
    go_wp2_with fail
    go_ret
    exact ⟨false, rfl, no_iff (fun h => by have := h.1; unfold rpOk at this; rw [H1.out] at this; cases this), later_trans HT.out l1⟩
  have H1 := Lib.hid h1; clear h1
  go_wp2_with fail
  refine (impl_BatchValid _ xs _ (HX.out.on l1)).mono ?_
  rintro e w2 ⟨rfl, b2⟩
  have l2 := later_trans l1 b2
  clear b2 l1
  cases h2 : okB xs
  · have H2 := Lib.hid h2; clear h2
    go_wp2_with fail
    go_ret
    exact ⟨false, rfl, no_iff (fun h => by have := h.1; unfold rpOk at this; rw [H1.out, H2.out] at this; cases this), later_trans HT.out l2⟩
  have HRP : Hid (rpOk p xs = true) := by show _ = _; unfold rpOk; rw [H1.out, h2]; rfl
  have hpl := (planOk_bins H1.out).2.2.2.2
  clear h2
  go_wp2_with fail
  go_loopw [5, 19] (fun t i wr => ∃ (k : Nat) (last : Int), k ≤ xs.length ∧ i = .int .i64 k ∧ t = .int .i64 last ∧ Below w0.heap.size w0 wr ∧ Hid (ordTo p xs k last)) (fun _ i _ => xs.length - (intOf i).toNat)
  case atStart => exact ⟨0, 0, Nat.zero_le _, rfl, rfl, l2, ordTo.zero p xs⟩
  case round =>
    obtain ⟨k, last, hk, rfl, rfl, lr, HG⟩ := hrel
    obtain ⟨w3, rfl⟩ : ∃ w3 : World, w3 = wr := ⟨_, rfl⟩
    clear l2
    by_cases hlt : k < xs.length
    · obtain ⟨bb, o, rfl, hbb, ⟨hxi, hxc⟩, c1, c2⟩ := HR.out.ltrU k hlt
      have HS := Lib.hid (fun h => HG.out.succ hlt h)
      have HB := Lib.hid (fun h => HG.out.bad hlt h)
      generalize xs[k] = x at *
      have hki : (k : Int) < (xs.length : Int) := by omega
      have la := later_alloc lr (Obj.cells #[.int .i64 x.id, .string x.code] 44)
      have c3 := q2 _ la
      go_wp2_with fail
      obtain ⟨r, HRR⟩ : ∃ r, Hid (rkI p.order x.code = r) := ⟨_, rfl⟩
      refine (indexS_is (HO.out.on la) HRR.out).mono ?_
      rintro e _ ⟨rfl, rfl⟩
      have HS2 := HS; have HB2 := HB
      rw [HRR.out] at HS2 HB2
      by_cases hlr : r < last
      · have hd := decide_eq_true hlr
        have HBB := Lib.hid (HB2.out hlr)
        clear hlr c3
        go_wp2_with fail
        go_ret
        exact ⟨false, rfl, no_iff (fun h => HBB.out h.2), later_trans HT.out la⟩
      · have hd := decide_eq_false hlr
        have HSS := Lib.hid (HS2.out (by omega))
        clear hlr c3
        go_wp2_with fail
        go_roundw
        case rel => exact ⟨k + 1, r, by omega, by go_num, rfl, la, HSS.out⟩
        case measure => simp [intOf]; omega
    · have HE : Hid (inOrd p xs) := by
        have := HG.out.ord
        rw [List.take_of_length_le (by omega)] at this
        exact this
      go_wp2_with fail
      go_ret
      exact ⟨true, rfl, yes_iff ⟨HRP.out, HE.out⟩, later_trans HT.out lr⟩

end Go.Proofs.Ytekjjgnokjhleaa

namespace Go.Proofs.Ytekjjgnokjhleaa
open Go.RowKit

theorem ranks_get (p : Pln) (xs : List Ltr) (k : Nat) (h : k < xs.length) : (ranksOf p xs)[k]'(by unfold ranksOf; simpa using h) = rkI p.order xs[k].code := by simp [ranksOf]
theorem ranks_len (p : Pln) (xs : List Ltr) : (ranksOf p xs).length = xs.length := by simp [ranksOf]
/-- What one letter more does to the choice. -/
theorem ranks_step (p : Pln) (xs : List Ltr) (k : Nat) (h : k < xs.length) : runK ((ranksOf p xs).take (k + 1)) = stepK (runK ((ranksOf p xs).take k)) (rkI p.order xs[k].code) := by
  rw [runK_succ _ _ (by rw [ranks_len]; exact h), ranks_get p xs k h]
theorem stepK_neg {L : List (Nat × Nat)} {r : Int} (h : r < 0) : stepK L r = L := by unfold stepK; rw [if_pos h]
theorem stepK_pos {L : List (Nat × Nat)} (r : Nat) : stepK L (r : Int) = L ++ [(r, topLe L r + 1)] := by
  unfold stepK; rw [if_neg (by omega), Int.toNat_natCast]

set_option maxHeartbeats 1600000 in
theorem impl_KeptLetters (v vb : Value) (p : Pln) (xs : List Ltr) (w : World) (hv : rdP w w.heap.size v p) (hb : rd w w.heap.size vb xs) :
    Calls Try.prog 57 #[v, vb] w fun e w' => e = .returned (.int .i64 (keptI p xs)) ∧ Below w.heap.size w w' := by
  have hv0 := Lib.hid hv
  have hb0 := Lib.hid hb
  obtain ⟨vo, rfl, hi1, hi2, hro⟩ := hv
  have hro0 := Lib.hid hro
  obtain ⟨Ao, no, cpo, rfl, hno, hco, hmo, _⟩ := hro
  subst hno
  obtain ⟨A, n, cp, rfl, hn, hc, hm, hr⟩ := hb
  subst hn
  unfold maxLen at hm hmo
  have HR := Lib.hid hr; clear hr
  have hb00 : Below w.heap.size w (w.alloc (Obj.cells #[Value.int IntKind.i64 p.bins, Value.int IntKind.i64 p.passes, Value.slice Ao p.order.length cpo] 25)) := (Below.refl _ _).alloc (Nat.le_refl _) _
  have gb : (w.alloc (Obj.cells #[Value.int IntKind.i64 p.bins, Value.int IntKind.i64 p.passes, Value.slice Ao p.order.length cpo] 25)).cell? ⟨w.heap.size, 2, none⟩ = some (.slice Ao p.order.length cpo) := by go_simp
  have hz0 : (w.alloc (Obj.cells #[Value.int IntKind.i64 p.bins, Value.int IntKind.i64 p.passes, Value.slice Ao p.order.length cpo] 25)).heap.size = w.heap.size + 1 := by simp
  have GB := Lib.hid gb; clear gb
  have HB0 := Lib.hid hb00; clear hb00
  have HZ0 := Lib.hid hz0; clear hz0
  go_enter Try.func57, Try.ntmps57
  go_wp2_with fail
  refine (impl_PlanValid _ p _ (hv0.out.on HB0.out)).mono ?_
  rintro e w0 ⟨rfl, b0⟩
  have B0 : Below w.heap.size w w0 := HB0.out.trans (b0.mono HB0.out.size)
  have g0 : w0.cell? ⟨w.heap.size, 2, none⟩ = some (.slice Ao p.order.length cpo) := (b0.cell (p := ⟨w.heap.size, 2, none⟩) (by rw [HZ0.out]; simp)).trans GB.out
  have hlv0 : w.heap.size < w0.heap.size := by have h := b0.size; rw [HZ0.out] at h; omega
  clear HZ0 GB HB0 b0
  cases hp : planOk p
  · have HP := Lib.hid hp; clear hp
    go_wp2_with fail
    go_ret
    exact ⟨ret_int (by unfold keptI; rw [HP.out]; rfl), B0⟩
  have hpl := (planOk_iff.1 hp).2.1
  have HP := Lib.hid hp; clear hp
  go_wp2_with fail
  refine (impl_BatchValid _ xs _ (hb0.out.on B0)).mono ?_
  rintro e w1 ⟨rfl, b1⟩
  have B1 := B0.trans (b1.mono B0.size)
  have g1 := (b1.cell (p := ⟨w.heap.size, 2, none⟩) hlv0).trans g0
  have hlv1 : w.heap.size < w1.heap.size := Nat.lt_of_lt_of_le hlv0 b1.size
  clear g0 b1 hlv0 B0
  cases hx : okB xs
  · have HX := Lib.hid hx; clear hx
    go_wp2_with fail
    go_ret
    exact ⟨ret_int (by unfold keptI; rw [HP.out, HX.out]; rfl), B1⟩
  have hxl := (okB_iff.1 hx).1
  have HX := Lib.hid hx; clear hx
  obtain ⟨i0, hi, hz0, hz1, hz2⟩ := info_parts Try.infoInt
  have hmk := make_row (P := Try.prog) 46 3 i0 _ Try.underlying46 hi hz0 p.order.length (by rw [hz2]; omega) (by omega)
  go_wp2_with fail
  clear hmk
  have ho := own_zeros w1 p.order.length w.heap.size B1.size (by unfold maxLen; omega)
  have hbz : Below w.heap.size w (w1.alloc (Obj.cells (madeCells #[.int .i64 0] p.order.length) 3)) := B1.alloc B1.size _
  have gz : (w1.alloc (Obj.cells (madeCells #[.int .i64 0] p.order.length) 3)).cell? ⟨w.heap.size, 2, none⟩ = some (.slice Ao p.order.length cpo) := by go_simp
  have hzz : w1.heap.size < (w1.alloc (Obj.cells (madeCells #[.int .i64 0] p.order.length) 3)).heap.size := by simp
  generalize (w1.alloc (Obj.cells (madeCells #[.int .i64 0] p.order.length) 3)) = wz at *
  generalize hgk : w1.heap.size = gk at *
  clear hgk g1 B1
  have HRL := Lib.hid (ranks_len p xs)
  clear hi hz0 hz1 hz2 i0
  go_loopw [6, 24] (fun t i wr => ∃ k : Nat, k ≤ xs.length ∧ i = .int .i64 k ∧ t = .int .i64 (bestK (runK ((ranksOf p xs).take k)) : Nat) ∧ Below w.heap.size w wr ∧ wr.cell? ⟨w.heap.size, 2, none⟩ = some (.slice Ao p.order.length cpo) ∧ gk < wr.heap.size ∧ own 3 w.heap.size wr (.slice (some ⟨gk, 0, none⟩) p.order.length p.order.length) (rowK (topEq (runK ((ranksOf p xs).take k))) p.order.length)) (fun _ i _ => xs.length - (intOf i).toNat)
  case atStart => exact ⟨0, Nat.zero_le _, rfl, rfl, hbz, gz, hzz, ho⟩
  case round =>
    obtain ⟨k, hk, rfl, rfl, hbl, g2, hgk2, ok⟩ := hrel
    obtain ⟨w2, rfl⟩ : ∃ w2 : World, w2 = wr := ⟨_, rfl⟩
    have hbs := hbl.size
    have hlv2 : w.heap.size < w2.heap.size := by omega
    clear hbz gz hzz ho
    have OK := Lib.hid ok; clear ok
    by_cases hlt : k < xs.length
    · obtain ⟨b, o, rfl, hb, ⟨⟨o1, o2⟩, o3⟩, c1, c2⟩ := HR.out.ltr k hlt
      have HST := Lib.hid (ranks_step p xs k hlt)
      have HBD := Lib.hid (topLe_bound ((ranksOf p xs).take k))
      have HLT : Hid (((ranksOf p xs).take k).length = k) := by show _ = _; rw [List.length_take, HRL.out]; omega
      generalize xs[k] = x at *
      have c1' : w2.cell? ⟨b, o + k * 2, none⟩ = some (.int .i64 x.id) := (hbl.cell (p := ⟨b, o + k * 2, none⟩) hb).trans c1
      have c2' : w2.cell? ⟨b, o + k * 2 + 1, none⟩ = some (.string x.code) := (hbl.cell (p := ⟨b, o + k * 2 + 1, none⟩) hb).trans c2
      clear c1 c2
      have hrr := rkI_range p.order x.code
      obtain ⟨r, HRK⟩ : ∃ r, Hid (rkI p.order x.code = r) := ⟨_, rfl⟩
      rw [HRK.out] at hrr
      have HST2 := Lib.hid (HRK.out ▸ HST.out)
      clear HST
      obtain ⟨L', HL'⟩ : ∃ L', Hid (runK ((ranksOf p xs).take (k + 1)) = L') := ⟨_, rfl⟩
      have HST2 : Hid (L' = stepK (runK ((ranksOf p xs).take k)) r) := by show _ = _; rw [← HL'.out]; exact HST2.out
      generalize runK ((ranksOf p xs).take k) = L at *
      have HB1 := Lib.hid (fun n => HLT.out ▸ (HBD.out n).1)
      have HB2 : Hid (bestK L ≤ k) := by show _ ≤ _; have := (HBD.out 0).2; rw [HLT.out] at this; exact this
      clear HBD HLT
      have hrd := Lib.hid (fun o => hro0.out.on (hbl.alloc hbs o))
      go_wp2_with fail
      refine (slices_IndexS _ p.order x.code _ (hrd.out _)).mono ?_
      rw [HRK.out]
      rintro e w3 ⟨rfl, rfl⟩
      by_cases hneg : r < 0
      · have HN : Hid (L' = L) := by show _ = _; rw [HST2.out, stepK_neg hneg]
        go_wp2_with fail
        go_roundw
        case rel =>
          refine ⟨k + 1, by omega, by go_num, by rw [HL'.out, HN.out], hbl.alloc hbs _, by go_simp, by simp; omega, ?_⟩
          rw [HL'.out, HN.out]
          exact OK.out.alloc _
        case measure => simp [intOf]; omega
      · obtain ⟨q, rfl⟩ := Int.eq_ofNat_of_zero_le (show 0 ≤ r by omega)
        have hq : q < p.order.length := by omega
        have HP2 : Hid (L' = L ++ [(q, topLe L q + 1)]) := by show _ = _; rw [HST2.out, stepK_pos]
        have hb3 : Below w.heap.size w (w2.alloc (Obj.cells #[Value.int IntKind.i64 x.id, Value.string x.code] 44)) := hbl.alloc hbs _
        have o4 := OK.out.alloc (Obj.cells #[Value.int IntKind.i64 x.id, Value.string x.code] 44)
        have g3 : (w2.alloc (Obj.cells #[Value.int IntKind.i64 x.id, Value.string x.code] 44)).cell? ⟨w.heap.size, 2, none⟩ = some (.slice Ao p.order.length cpo) := by go_simp
        have hz3 : gk < (w2.alloc (Obj.cells #[Value.int IntKind.i64 x.id, Value.string x.code] 44)).heap.size := by simp; omega
        generalize (w2.alloc (Obj.cells #[Value.int IntKind.i64 x.id, Value.string x.code] 44)) = w4 at *
        clear g2 hgk2 hbl hbs c1' c2' OK hlv2 hrd
        have hrt := o4.rd.take (k := q + 1) (by rw [rowK_len]; omega)
        rw [rowK_take _ _ _ (by omega)] at hrt
        have HRT := Lib.hid hrt; clear hrt
        obtain ⟨u0, hu0⟩ := o4.cellAt (j := q) (by rw [rowK_len]; show _ < _ * 1; omega)
        have hf0 := o4.freeAt q
        have hmx : maxTo (topEq L) q = topLe L q := topLe_eq L q
        have HMX := Lib.hid hmx; clear hmx
        have hb1 := HB1.out q
        have hb2 := HB2.out
        have HSI := Lib.hid (fun y hy => own_setInt o4 (k := q) (by rw [rowK_len]; exact hq) y hy)
        clear o4
        have hqi : ¬ ((q : Int) < 0) := by omega
        go_wp2_with fail
        refine (slices_MaxI _ (topEq L) q _ HRT.out).mono ?_
        rw [HMX.out]
        rintro e w5 ⟨rfl, rfl⟩
        have HROW : Hid (rowK (topEq L') p.order.length = (rowK (topEq L) p.order.length).set q ((topLe L q : Nat) + 1 : Int)) := by
          show _ = _
          rw [HP2.out, show ((topLe L q : Nat) + 1 : Int) = ((topLe L q + 1 : Nat) : Int) by omega, rowK_set]
          exact rowK_congr fun j _ => topEq_step L q j
        have HBEST : Hid (bestK L' = max (bestK L) (topLe L q + 1)) := by show _ = _; rw [HP2.out, bestK_snoc]
        generalize topLe L q = m at *
        generalize bestK L = m2 at *
        by_cases hmm : (m2 : Int) < (m : Int) + 1
        · go_wp2
          go_roundw
          case rel =>
            refine ⟨k + 1, by omega, by go_num, by rw [HL'.out, HBEST.out]; congr 1; omega, hb3.setCell (by simp; omega) _, by go_simp, by simpa using hz3, ?_⟩
            rw [HL'.out, HROW.out]
            exact HSI.out _ (by unfold isI64; omega)
          case measure => simp [intOf]; omega
        · go_wp2
          go_roundw
          case rel =>
            refine ⟨k + 1, by omega, by go_num, by rw [HL'.out, HBEST.out]; congr 1; omega, hb3.setCell (by simp; omega) _, by go_simp, by simpa using hz3, ?_⟩
            rw [HL'.out, HROW.out]
            exact HSI.out _ (by unfold isI64; omega)
          case measure => simp [intOf]; omega
    · have HE := Lib.hid (show k = xs.length by omega)
      have HF : Hid (keptI p xs = (bestK (runK ((ranksOf p xs).take k)) : Nat)) := by
        show _ = _
        unfold keptI keptN
        rw [HP.out, HX.out, HE.out, ← HRL.out, List.take_length]; rfl
      generalize bestK (runK ((ranksOf p xs).take k)) = m at *
      go_wp2
      go_ret
      exact ⟨ret_int HF.out.symm, hbl⟩

def movedI (p : Pln) (xs : List Ltr) : Int := if keptI p xs < 0 then -1 else xs.length - keptI p xs
theorem keptI_range (p : Pln) (xs : List Ltr) : -1 ≤ keptI p xs ∧ keptI p xs ≤ xs.length := by
  unfold keptI keptN
  split
  · have h := (topLe_bound (ranksOf p xs) 0).2
    rw [ranks_len] at h
    omega
  · omega

theorem impl_MovedLetters (v vb : Value) (p : Pln) (xs : List Ltr) (w : World) (hv : rdP w w.heap.size v p) (hb : rd w w.heap.size vb xs) :
    Calls Try.prog 44 #[v, vb] w fun e w' => e = .returned (.int .i64 (movedI p xs)) ∧ Below w.heap.size w w' := by
  have hv0 := Lib.hid hv
  have hb0 := Lib.hid hb
  obtain ⟨vo, rfl, hi1, hi2, Ao, no, cpo, rfl, hno, hco, hmo, hro⟩ := hv
  subst hno
  clear hco hmo hro
  obtain ⟨A, n, cp, rfl, hn, hc, hm, _⟩ := hb
  subst hn
  unfold maxLen at hm
  have hB : Below w.heap.size w (w.alloc (Obj.cells #[Value.int IntKind.i64 p.bins, Value.int IntKind.i64 p.passes, Value.slice Ao p.order.length cpo] 25)) := (Below.refl _ _).alloc (Nat.le_refl _) _
  have HB := Lib.hid hB; clear hB
  obtain ⟨k1, k2⟩ := keptI_range p xs
  have HQ : Hid (movedI p xs = if keptI p xs < 0 then -1 else xs.length - keptI p xs) := rfl
  go_enter Try.func44, Try.ntmps44
  go_wp2_with fail
  refine (impl_KeptLetters _ _ p xs _ (hv0.out.on HB.out) (hb0.out.on HB.out)).mono ?_
  rintro e w1 ⟨rfl, b1⟩
  generalize keptI p xs = q at *
  have B1 := HB.out.trans (b1.mono HB.out.size)
  by_cases h : q < 0
  · go_wp2_with fail
    go_ret
    exact ⟨ret_int (by rw [HQ.out, if_pos h]), B1⟩
  · go_wp2_with fail
    go_ret
    exact ⟨ret_int (by rw [HQ.out, if_neg (by omega)]), B1⟩

end Go.Proofs.Ytekjjgnokjhleaa
