/- MP -/
import Derived.Test.YtekjjgnokjhleaaQ40
namespace Go.Proofs.Ytekjjgnokjhleaa
open Go.RowKit

/-! ### Missing numbers -/
theorem missR_yes {a b : List Ltr} (h : missOk a b = true) : missR a b = sortI (missT b a) := by unfold missR; rw [if_pos h]
theorem missR_mem {a b : List Ltr} (h : missOk a b = true) (n : Int) : n ∈ missR a b ↔ ∃ x ∈ a, findI b x.id < 0 ∧ x.id = n := by
  rw [missR_yes h]
  unfold sortI missT
  rw [(List.mergeSort_perm _ _).mem_iff, List.mem_map]
  constructor
  · rintro ⟨x, hx, rfl⟩
    obtain ⟨h1, h2⟩ := List.mem_filter.1 hx
    exact ⟨x, h1, by simpa using h2, rfl⟩
  · rintro ⟨x, hx, h2, rfl⟩
    exact ⟨x, List.mem_filter.2 ⟨hx, by simpa using h2⟩, rfl⟩
theorem missOk_ok {a b : List Ltr} (h : missOk a b = true) : okB a = true ∧ okB b = true := by unfold missOk at h; simpa using h
theorem missOk_sym {a b : List Ltr} (h : missOk a b = true) : missOk b a = true := by
  obtain ⟨h1, h2⟩ := missOk_ok h
  unfold missOk
  rw [h1, h2]; rfl
theorem missT_nodup {a b : List Ltr} (h : okB a = true) : (missT b a).Pairwise (· ≠ ·) := by
  unfold missT
  rw [List.pairwise_map]
  exact ((okB_pw.1 h).2.2).filter _
theorem missR_asc {a b : List Ltr} (h : missOk a b = true) : (missR a b).Pairwise (· < ·) := by
  rw [missR_yes h]
  have h1 := List.pairwise_mergeSort (le := fun x y : Int => decide (x ≤ y)) (fun a b c => by simp only [decide_eq_true_iff]; omega) (fun a b => by simp only [Bool.or_eq_true, decide_eq_true_iff]; omega) (missT b a)
  have h2 : (sortI (missT b a)).Pairwise (· ≠ ·) := ((List.mergeSort_perm (missT b a) _).pairwise_iff (fun h => Ne.symm h)).2 (missT_nodup (missOk_ok h).1)
  exact (h1.and h2).imp fun h => by
    have h3 := h.1
    have h4 := h.2
    simp only [decide_eq_true_iff] at h3
    omega
theorem missR_length {a b : List Ltr} (h : missOk a b = true) : (missR a b).length = (a.filter fun x => decide (findI b x.id < 0)).length := by
  rw [missR_yes h]
  unfold sortI missT
  rw [List.length_mergeSort, List.length_map]
theorem filter_two {α : Type} (p : α → Bool) : ∀ l : List α, (l.filter p).length + (l.filter fun x => !p x).length = l.length
  | [] => rfl
  | x :: l => by
    have := filter_two p l
    simp only [List.filter_cons]
    cases p x <;> simp <;> omega
theorem found_iff {b : List Ltr} (h : okB b = true) (n : Int) : findI b n < 0 ↔ ∀ x ∈ b, x.id ≠ n := by
  rcases findI_cases h n with ⟨h1, h2⟩ | ⟨k, hk, h1, h2⟩
  · exact ⟨fun _ => h2, fun _ => by omega⟩
  · exact ⟨fun h3 => by omega, fun h3 => absurd h2 (h3 _ (List.getElem_mem hk))⟩
theorem common_le {a b : List Ltr} (ha : okB a = true) (hb : okB b = true) : (a.filter fun x => !decide (findI b x.id < 0)).length ≤ (b.filter fun x => !decide (findI a x.id < 0)).length := by
  have h1 := len_le_of_sub (l := (a.filter fun x => !decide (findI b x.id < 0)).map Ltr.id) (m := (b.filter fun x => !decide (findI a x.id < 0)).map Ltr.id) (by rw [List.pairwise_map]; exact ((okB_pw.1 ha).2.2).filter _) ?_
  · simpa using h1
  · intro n hn
    obtain ⟨x, hx, rfl⟩ := List.mem_map.1 hn
    obtain ⟨hxa, hx2⟩ := List.mem_filter.1 hx
    have h3 : ¬ findI b x.id < 0 := by simpa using hx2
    rcases findI_cases hb x.id with ⟨h4, _⟩ | ⟨k, hk, h4, h5⟩
    · omega
    · refine List.mem_map.2 ⟨b[k], List.mem_filter.2 ⟨List.getElem_mem hk, ?_⟩, h5⟩
      have h6 : ¬ findI a b[k].id < 0 := fun h7 => (found_iff ha _).1 h7 x hxa h5.symm
      simpa using h6
/-- Both batches have as many others. -/
theorem missR_rest {a b : List Ltr} (h : missOk a b = true) : a.length + (missR b a).length = b.length + (missR a b).length := by
  obtain ⟨ha, hb⟩ := missOk_ok h
  have h1 := filter_two (fun x => decide (findI b x.id < 0)) a
  have h2 := filter_two (fun x => decide (findI a x.id < 0)) b
  have h3 := common_le ha hb
  have h4 := common_le hb ha
  rw [missR_length h, missR_length (missOk_sym h)]
  omega
theorem okB_reverse {a : List Ltr} (h : okB a = true) : okB a.reverse = true := by
  obtain ⟨h1, h2, h3⟩ := okB_pw.1 h
  refine okB_pw.2 ⟨by simpa using h1, fun x hx => h2 x (by simpa using hx), ?_⟩
  rw [List.pairwise_reverse]
  exact h3.imp fun h e => h e.symm
theorem missR_turned {a : List Ltr} (h : okB a = true) : missR a a.reverse = [] := by
  have hok : missOk a a.reverse = true := by unfold missOk; rw [h, okB_reverse h]; rfl
  rw [List.eq_nil_iff_forall_not_mem]
  intro n hn
  obtain ⟨x, hx, h1, rfl⟩ := (missR_mem hok n).1 hn
  exact (found_iff (okB_reverse h) _).1 h1 x (by simpa using hx) rfl
theorem missR_at {a b : List Ltr} (h : missOk a b = true) {n : Int} (hn : n ∈ missR a b) : 0 ≤ findI a n ∧ findI a n ≤ 60 ∧ findI b n = -1 := by
  obtain ⟨ha, hb⟩ := missOk_ok h
  obtain ⟨x, hx, h1, rfl⟩ := (missR_mem h n).1 hn
  obtain ⟨k, hk, h2, _⟩ := findI_of ha hx
  have := (okB_pw.1 ha).1
  refine ⟨by omega, by omega, ?_⟩
  rcases findI_cases hb x.id with ⟨h4, _⟩ | ⟨j, hj, h4, _⟩
  · exact h4
  · omega

set_option maxRecDepth 100000 in
set_option maxHeartbeats 800000 in
theorem so_turned (v : Value) (xs : List Ltr) (w : World) (hv : rd w w.heap.size v xs) (hl : xs.length ≤ 60) :
    Calls Try.prog 53 #[v] w fun e w' => ∃ v', e = .returned v' ∧ own 44 w.heap.size w' v' xs.reverse ∧ Below w.heap.size w w' := by
  obtain ⟨A, n, c, rfl, hn, hc, hm, hr⟩ := hv
  subst hn
  unfold maxLen at hm
  have HR := Lib.hid hr; clear hr
  obtain ⟨i0, hi, hz0, hz1, hz2⟩ := info_parts Try.infoLtr
  have ho0 : own (α := Ltr) 44 w.heap.size (w.alloc (Obj.cells #[] 44)) (.slice (some ⟨w.heap.size, 0, none⟩) 0 0) [] := own.made0 w _ (Nat.le_refl _)
  have l0 : Below w.heap.size w (w.alloc (Obj.cells #[] 44)) := (Below.refl _ _).alloc (Nat.le_refl _) _
  have hws : IntKind.i64.wrap ((xs.length : Int) - 1) = (xs.length : Int) - 1 := IntWalk.i64_in _ (by omega)
  go_enter Try.func53, Try.ntmps53
  go_wp2_with fail
  go_loopw [3, 4] (fun t i wr => ∃ (k : Nat) (I : Int), k ≤ xs.length ∧ Hid (I = (xs.length : Int) - 1 - k) ∧ i = .int .i64 I ∧ Below w.heap.size w wr ∧ Hid (own 44 w.heap.size wr t (xs.reverse.take k))) (fun _ i _ => (intOf i + 1).toNat)
  case atStart => exact ⟨0, (xs.length : Int) - 1, Nat.zero_le _, by show _ = _; simp, rfl, l0, ho0⟩
  case round =>
    obtain ⟨k, I, hk, HI, rfl, lr, HO⟩ := hrel
    obtain ⟨w1, rfl⟩ : ∃ w1 : World, w1 = wr := ⟨_, rfl⟩
    clear l0 ho0
    obtain ⟨A3, m3, c3, hv3, hm3, _, _, _⟩ := HO.out.rd
    subst hm3 hv3
    by_cases hlt : k < xs.length
    · have hI0 : 0 ≤ I := by have := HI.out; omega
      obtain ⟨j, rfl⟩ := Int.eq_ofNat_of_zero_le hI0
      have hjl : j < xs.length := by have := HI.out; omega
      obtain ⟨b, o, rfl, hb, hxok, c1, c2⟩ := HR.out.ltrU j hjl
      have HS : Hid (xs.reverse.take (k + 1) = xs.reverse.take k ++ [xs[j]]) := by
        show _ = _
        have e : xs.length - 1 - k = j := by have := HI.out; omega
        rw [List.take_succ_eq_append_getElem (by simpa using hlt), List.getElem_reverse]
        simp only [e]
      have hyl : (xs.reverse.take k).length ≤ 60 := by rw [List.length_take]; omega
      generalize xs[j] = x at *
      have hji : (j : Int) < (xs.length : Int) := by omega
      have hd : decide ((0 : Int) ≤ (j : Int)) = true := decide_eq_true (by omega)
      have hwj : IntKind.i64.wrap ((j : Int) - 1) = (j : Int) - 1 := IntWalk.i64_in _ (by omega)
      have d1 := c1 _ lr
      have d2 := c2 _ lr
      clear c1 c2
      generalize hys : xs.reverse.take k = ys at *
      have HYS := Lib.hid hys; clear hys
      have hz := lr.size
      go_wp2_with (at_builtin; refine wpList_append1 (α := Ltr) rfl (.tmp 13) (.tmp 18) _ rfl w.heap.size 44 i0 _ 24 Try.underlying34 hi hz0 hz1 hz2 rfl (by decide) (.slice A3 ys.length c3) ys x rfl (HO.out.alloc _) ⟨w1.heap.size, 0, none⟩ 1 (Ltr.cells x) rfl ⟨hxok, rfl⟩ (news_at w1 _ (Ltr.cells x)) (by unfold maxLen; omega) (by omega) (by simp; omega) ?_; intro v' w2 ho2 hg2 _)
      have l2 : Below w.heap.size w w2 := (lr.alloc hz _).trans (below_append (HO.out.alloc _) hg2 (by simp; omega))
      clear hg2
      go_wp2_with fail
      go_roundw
      case rel => exact ⟨k + 1, (j : Int) - 1, by omega, by show _ = _; have := HI.out; omega, by go_num, l2, by show own _ _ _ _ _; rw [HS.out]; exact ho2⟩
      case measure => first | (simp [intOf]; done) | (simp [intOf]; omega)
    · have hI0 : I = -1 := by have := HI.out; omega
      subst hI0
      have e : xs.reverse.take k = xs.reverse := List.take_of_length_le (by simp; omega)
      have hd : decide ((0 : Int) ≤ -1) = false := rfl
      have HO2 : Hid (own 44 w.heap.size w1 (.slice A3 (xs.reverse.take k).length c3) xs.reverse) := by have h := HO.out; rw [e] at h; show own _ _ _ _ _; rw [e]; exact h
      clear e
      go_wp2_with fail
      go_ret
      exact ⟨_, rfl, HO2.out, lr⟩

end Go.Proofs.Ytekjjgnokjhleaa
