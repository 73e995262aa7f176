/- SO -/
import Derived.Test.YtnlljekijlkigaaQ2
import Derived.Test.YtnlljekijlkigaaQ5
import Derived.Test.YtnlljekijlkigaaQ15
import Derived.Test.YtnlljekijlkigaaQ8
import Derived.Deep.RegionHeld3
namespace Go.Proofs.Ytnlljekijlkigaa
open Go.RowKit

theorem so_batch (v v' : Value) (xs : List Ltr) (w : World) (hv : rd w w.heap.size v xs) (hv' : rd w w.heap.size v' xs) :
    Calls Try.prog 23 #[v, v'] w fun e w' => e = .returned (.bool true) ∧ Below w.heap.size w w' := by
  refine (laws_soBatch _ _ _ _ _ hv hv').mono ?_
  rw [(eqBy_iff ltrEq_iff).2 rfl]
  exact fun e w' h => h

set_option maxHeartbeats 400000 in
theorem so_bins (v v' : Value) (xss : List (List Ltr)) (w : World) (hv : rd w w.heap.size v xss) (hv' : rd w w.heap.size v' xss) :
    Calls Try.prog 30 #[v, v'] w fun e w' => e = .returned (.bool true) ∧ Below w.heap.size w w' := by
  obtain ⟨A, n, c, rfl, hn, hc, hm, hr⟩ := hv
  obtain ⟨A', n', c', rfl, hn', hc', hm', hr'⟩ := hv'
  subst hn hn'
  unfold maxLen at hm hm'
  have HR := Lib.hid hr; clear hr
  have HR' := Lib.hid hr'; clear hr'
  have l0 := Below.refl w.heap.size w
  have hl1 : ((xss.length : Int) != (xss.length : Int)) = false := by simp
  go_enter Try.func30, Try.ntmps30
  go_wp2_with fail
  go_loopw [5] (fun i wr => ∃ k : Nat, k ≤ xss.length ∧ i = .int .i64 k ∧ Below w.heap.size w wr) (fun i _ => xss.length - (intOf i).toNat)
  case atStart => exact ⟨0, Nat.zero_le _, rfl, l0⟩
  case round =>
    obtain ⟨k, hk, rfl, lr⟩ := hrel
    obtain ⟨w1, rfl⟩ : ∃ w1 : World, w1 = wr := ⟨_, rfl⟩
    clear l0
    by_cases hlt : k < xss.length
    · obtain ⟨b, o, u, rfl, hb, hu, c1⟩ := HR.out.rowU k hlt
      obtain ⟨b', o', u', rfl, hb', hu', c1'⟩ := HR'.out.rowU k hlt
      generalize xss[k] = ys at *
      have HU := Lib.hid hu; have HU' := Lib.hid hu'; clear hu hu'
      have hki : (k : Int) < (xss.length : Int) := by omega
      have ld := later_drew lr
      go_wp2_with fail
      go_region_held3 (fun W => Below w.heap.size w W) (first | exact ld | exact later_trans ld b3) (first | (go_at_call 23; refine (so_batch _ _ ys _ (HU.out.on ld) (HU'.out.on ld)).mono ?_; rintro e w3 ⟨rfl, b3⟩))
      have l3 := later_trans ld b3
      clear ld b3 lr
      go_wp2_with fail
      go_roundw
      case rel => exact ⟨k + 1, by omega, by go_num, l3⟩
      case measure => simp [intOf]; omega
    · go_wp2_with fail
      go_ret
      exact ⟨rfl, lr⟩



theorem findI_cases {b : List Ltr} (h : okB b = true) (n : Int) : (findI b n = -1 ∧ ∀ x ∈ b, x.id ≠ n) ∨ ∃ k : Nat, ∃ hk : k < b.length, findI b n = k ∧ b[k].id = n := by
  unfold findI
  rw [if_pos h]
  have hr := fiI_range (fun x : Ltr => x.id == n) b
  by_cases h0 : fiI (fun x : Ltr => x.id == n) b < 0
  · exact .inl ⟨by omega, fun x hx e => by have := fiI_neg h0 x hx; simp [e] at this⟩
  · obtain ⟨k, hk⟩ := Int.eq_ofNat_of_zero_le (show 0 ≤ fiI (fun x : Ltr => x.id == n) b by omega)
    obtain ⟨h1, h2, _⟩ := fiI_spec hk
    exact .inr ⟨k, h1, hk, by simpa using h2⟩
/-- The place of a letter of a batch. -/
theorem findI_of {b : List Ltr} (h : okB b = true) {x : Ltr} (hx : x ∈ b) : ∃ k : Nat, ∃ hk : k < b.length, findI b x.id = k ∧ b[k] = x := by
  rcases findI_cases h x.id with ⟨_, h1⟩ | ⟨k, hk, h1, h2⟩
  · exact absurd rfl (h1 x hx)
  · exact ⟨k, hk, h1, pw_inj (okB_pw.1 h).2.2 _ (List.getElem_mem hk) x hx h2⟩

theorem so_place (v : Value) (b : List Ltr) (n : Int) (w : World) (hv : rd w w.heap.size v b) :
    Calls Try.prog 26 #[v, .int .i64 n] w fun e w' => e = .returned (.int .i64 (findI b n)) ∧ Below w.heap.size w w' := by
  obtain ⟨r, HRR⟩ : ∃ r, Hid (findI b n = r) := ⟨_, rfl⟩
  rw [HRR.out]
  go_enter Try.func26, Try.ntmps26
  go_wp2_with fail
  refine (impl_FindLetter _ b n _ hv).mono ?_
  rw [HRR.out]
  rintro e w1 ⟨rfl, b1⟩
  go_wp2_with fail
  go_ret
  exact ⟨ret_int rfl, b1⟩



theorem no_iff {P : Prop} (h : ¬ P) : (false = true ↔ P) := ⟨fun e => (by cases e), fun e => absurd e h⟩
theorem yes_iff {P : Prop} (h : P) : (true = true ↔ P) := ⟨fun _ => h, fun _ => rfl⟩
/-- The first k letters are in order; last is the rank of the last one. -/
structure ordTo (p : Pln) (xs : List Ltr) (k : Nat) (last : Int) : Prop where
  ord : inOrd p (xs.take k)
  le : ∀ x ∈ xs.take k, rkI p.order x.code ≤ last
  nn : 0 ≤ last
  at_ : last = 0 ∨ ∃ x ∈ xs.take k, rkI p.order x.code = last
theorem ordTo.zero (p : Pln) (xs : List Ltr) : ordTo p xs 0 0 := ⟨by unfold inOrd ordered ranksOf; simp, by simp, Int.le_refl _, .inl rfl⟩
theorem ordTo.succ {p : Pln} {xs : List Ltr} {k : Nat} {last : Int} (h : ordTo p xs k last) (hk : k < xs.length) (hr : last ≤ rkI p.order xs[k].code) : ordTo p xs (k + 1) (rkI p.order xs[k].code) := by
  obtain ⟨h1, h2, h3, _⟩ := h
  have e := List.take_succ_eq_append_getElem hk
  refine ⟨?_, fun x hx => ?_, by omega, .inr ⟨xs[k], by rw [e]; exact List.mem_append_right _ (List.mem_singleton.2 rfl), rfl⟩⟩
  · unfold inOrd ranksOf at *
    rw [e, List.map_append]
    refine ordered.snoc (r := rkI p.order xs[k].code) h1 (by omega) fun r hr' => ?_
    obtain ⟨x, hx, rfl⟩ := List.mem_map.1 hr'
    have := h2 x hx
    show rkI p.order x.code ≤ _
    omega
  · rw [e] at hx
    rcases List.mem_append.1 hx with hx | hx
    · have := h2 x hx; omega
    · rw [List.mem_singleton.1 hx]; omega
theorem ordTo.bad {p : Pln} {xs : List Ltr} {k : Nat} {last : Int} (h : ordTo p xs k last) (hk : k < xs.length) (hr : rkI p.order xs[k].code < last) : ¬ inOrd p xs := by
  intro ho
  obtain ⟨o1, o2⟩ := inOrd_iff.1 ho
  have h0 := o1 xs[k] (List.getElem_mem hk)
  rcases h.at_ with e | ⟨x, hx, e⟩
  · omega
  · rw [List.mem_take_iff_getElem] at hx
    obtain ⟨j, hj, rfl⟩ := hx
    have := (List.pairwise_iff_getElem.1 o2) j k (by omega) hk (by omega)
    omega

set_option maxHeartbeats 800000 in
theorem impl_InOrder (v vb : Value) (p : Pln) (xs : List Ltr) (w : World) (hv : rdP w w.heap.size v p) (hb : rd w w.heap.size vb xs) :
    Calls Try.prog 24 #[v, vb] w fun e w' => ∃ b : Bool, e = .returned (.bool b) ∧ (b = true ↔ rpOk p xs = true ∧ inOrd p xs) ∧ Below w.heap.size w w' := by
  obtain ⟨A0, c0, e0⟩ := openP hv
  obtain ⟨w0, hw0⟩ : ∃ w0, w0 = w.alloc (Obj.cells #[.int .i64 p.bins, .int .i64 p.passes, .slice A0 p.order.length c0] 25) := ⟨_, rfl⟩
  have q0 := box_cells hw0 0 (.int .i64 p.bins) rfl
  have q1 := box_cells hw0 1 (.int .i64 p.passes) rfl
  have q2 := box_cells hw0 2 (.slice A0 p.order.length c0) rfl
  have HT := Lib.hid (box_later hw0).1
  have HP := Lib.hid (hv.on HT.out)
  have HX := Lib.hid (hb.on HT.out)
  subst e0
  have HO := Lib.hid (ordP HP.out)
  have HW0 := Lib.hid hw0; clear hw0 hv hb
  have l0 := Below.refl w0.heap.size w0
  have hx := HX.out
  obtain ⟨A, n, c, rfl, hn, hc, hm, hr⟩ := hx
  subst hn
  unfold maxLen at hm
  have HR := Lib.hid hr; clear hr
  go_enter Try.func24, Try.ntmps24
  go_wp2_with fail
  rw [← HW0.out]
  refine (impl_PlanValid _ p _ HP.out).mono ?_
  rintro e w1 ⟨rfl, b1⟩
  have l1 := later_trans l0 b1
  clear b1 l0
  cases h1 : planOk p
  · have H1 := Lib.hid h1; clear h1
    go_wp2_with fail
    go_ret
    exact ⟨false, rfl, no_iff (fun h => by have := h.1; unfold rpOk at this; rw [H1.out] at this; cases this), later_trans HT.out l1⟩
  have H1 := Lib.hid h1; clear h1
  go_wp2_with fail
  refine (impl_BatchValid _ xs _ (HX.out.on l1)).mono ?_
  rintro e w2 ⟨rfl, b2⟩
  have l2 := later_trans l1 b2
  clear b2 l1
  cases h2 : okB xs
  · have H2 := Lib.hid h2; clear h2
    go_wp2_with fail
    go_ret
    exact ⟨false, rfl, no_iff (fun h => by have := h.1; unfold rpOk at this; rw [H1.out, H2.out] at this; cases this), later_trans HT.out l2⟩
  have HRP : Hid (rpOk p xs = true) := by show _ = _; unfold rpOk; rw [H1.out, h2]; rfl
  have hpl := (planOk_bins H1.out).2.2.2.2
  clear h2
  go_wp2_with fail
  go_loopw [5, 19] (fun t i wr => ∃ (k : Nat) (last : Int), k ≤ xs.length ∧ i = .int .i64 k ∧ t = .int .i64 last ∧ Below w0.heap.size w0 wr ∧ Hid (ordTo p xs k last)) (fun _ i _ => xs.length - (intOf i).toNat)
  case atStart => exact ⟨0, 0, Nat.zero_le _, rfl, rfl, l2, ordTo.zero p xs⟩
  case round =>
    obtain ⟨k, last, hk, rfl, rfl, lr, HG⟩ := hrel
    obtain ⟨w3, rfl⟩ : ∃ w3 : World, w3 = wr := ⟨_, rfl⟩
    clear l2
    by_cases hlt : k < xs.length
    · obtain ⟨bb, o, rfl, hbb, ⟨hxi, hxc⟩, c1, c2⟩ := HR.out.ltrU k hlt
      have HS := Lib.hid (fun h => HG.out.succ hlt h)
      have HB := Lib.hid (fun h => HG.out.bad hlt h)
      generalize xs[k] = x at *
      have hki : (k : Int) < (xs.length : Int) := by omega
      have la := later_alloc lr (Obj.cells #[.int .i64 x.id, .string x.code] 49)
      have c3 := q2 _ la
      go_wp2_with fail
      obtain ⟨r, HRR⟩ : ∃ r, Hid (rkI p.order x.code = r) := ⟨_, rfl⟩
      refine (indexS_is (HO.out.on la) HRR.out).mono ?_
      rintro e _ ⟨rfl, rfl⟩
      have HS2 := HS; have HB2 := HB
      rw [HRR.out] at HS2 HB2
      by_cases hlr : r < last
      · have hd := decide_eq_true hlr
        have HBB := Lib.hid (HB2.out hlr)
        clear hlr c3
        go_wp2_with fail
        go_ret
        exact ⟨false, rfl, no_iff (fun h => HBB.out h.2), later_trans HT.out la⟩
      · have hd := decide_eq_false hlr
        have HSS := Lib.hid (HS2.out (by omega))
        clear hlr c3
        go_wp2_with fail
        go_roundw
        case rel => exact ⟨k + 1, r, by omega, by go_num, rfl, la, HSS.out⟩
        case measure => simp [intOf]; omega
    · have HE : Hid (inOrd p xs) := by
        have := HG.out.ord
        rw [List.take_of_length_le (by omega)] at this
        exact this
      go_wp2_with fail
      go_ret
      exact ⟨true, rfl, yes_iff ⟨HRP.out, HE.out⟩, later_trans HT.out lr⟩

end Go.Proofs.Ytnlljekijlkigaa
