/- KN JL -/
import Derived.Test.YtpinkbodbedajaaGreatDoorQ26
import Derived.Test.YtpinkbodbedajaaGreatDoorQ15
import Derived.Test.YtpinkbodbedajaaGreatDoorQ23
import Derived.LaidLaws
import Derived.LaidOnce
import Derived.Lib.LaidTab
namespace Go.Proofs.YtpinkbodbedajaaGreatDoor
open Go.RowKit

/-! ### Plain facts -/
theorem okB_of_perm {xs ys : List Ltr} (hp : ys.Perm xs) (h : okB xs = true) : okB ys = true := by
  obtain ⟨h1, h2, h3⟩ := okB_pw.1 h
  exact okB_pw.2 ⟨by rw [hp.length_eq]; exact h1, fun x hx => h2 x (hp.mem_iff.1 hx), (hp.pairwise_iff (fun {a b} hab => Ne.symm hab)).2 h3⟩
theorem filter_partsK {α : Type} (p : α → Bool) : ∀ xs : List α, (xs.filter p ++ xs.filter fun x => !p x).Perm xs
  | [] => List.Perm.refl _
  | x :: xs => by
    have ih := filter_partsK p xs
    by_cases h : p x = true
    · rw [List.filter_cons_of_pos h, List.filter_cons_of_neg (by simp [h])]
      exact ih.cons x
    · rw [List.filter_cons_of_neg h, List.filter_cons_of_pos (by simp [h])]
      exact List.perm_middle.trans (ih.cons x)
theorem rp_parts {p : Pln} {xs : List Ltr} (h : rpOk p xs = true) : planOk p = true ∧ okB xs = true := by
  unfold rpOk at h
  rwa [Bool.and_eq_true] at h
theorem rp_perm {p : Pln} {xs : List Ltr} (h : rpOk p xs = true) : (rpRound p xs ++ rpRest p xs).Perm xs := by
  obtain ⟨hp, hx⟩ := rp_parts h
  have hpb := planOk_bins hp
  have hn : ∀ zs : List Ltr, okB zs = true → zs.Nodup := fun zs hz => (okB_pw.1 hz).2.2.imp fun {a b} hab e => hab (by rw [e])
  have hp1 : (rpRound p xs).Perm (xs.filter fun x => decide (0 ≤ rkI p.order x.code)) := (List.perm_ext_iff_of_nodup (hn _ (okB_rp h)) ((hn _ hx).filter _)).2 fun x => by
    rw [rp_mem h, List.mem_filter, decide_eq_true_iff]
  have hp2 : rpRest p xs = xs.filter fun x => !decide (0 ≤ rkI p.order x.code) := by
    unfold rpRest restOf
    rw [if_pos h]
    congr 1
    funext x
    have hb : binI p x.code 0 < 0 ↔ rkI p.order x.code < 0 := binI_rank hpb.1
    rw [← decide_not]
    refine decide_eq_decide.2 ?_
    show binI p x.code 0 < 0 ↔ _
    omega
  rw [hp2]
  exact (hp1.append_right _).trans (filter_partsK _ xs)
theorem rp_lens {p : Pln} {xs : List Ltr} (h : rpOk p xs = true) : (rpRound p xs).length + (rpRest p xs).length = xs.length := by
  have := (rp_perm h).length_eq
  rwa [List.length_append] at this
theorem numT_nat (n : Nat) : numT (n : Int) = decB n := by
  unfold numT
  rw [if_neg (by omega), itoa_dec]
theorem sL_rng (xs : List Ltr) : ∀ n : Int, 0 ≤ n → n < 9973 → 0 ≤ xs.foldl sStep n ∧ xs.foldl sStep n < 9973 := by
  induction xs with
  | nil => exact fun n h0 h1 => ⟨h0, h1⟩
  | cons x xs ih => exact fun n h0 h1 => ih _ (by unfold sStep; omega) (by unfold sStep; omega)
theorem osL_rng (xs : List Ltr) : ∀ n : Int, 0 ≤ n → n < 9973 → 0 ≤ xs.foldl osStep n ∧ xs.foldl osStep n < 9973 := by
  induction xs with
  | nil => exact fun n h0 h1 => ⟨h0, h1⟩
  | cons x xs ih => exact fun n h0 h1 => ih _ (by unfold osStep; omega) (by unfold osStep; omega)
theorem seal_nat {xs : List Ltr} (h : okB xs = true) : ∃ n : Nat, orOf (okB xs) (sL xs) = (n : Int) ∧ n ≤ 9972 := by
  obtain ⟨h1, h2⟩ := sL_rng xs 0 (by omega) (by omega)
  refine ⟨(sL xs).toNat, ?_, ?_⟩
  · rw [h]; show sL xs = _; unfold sL; omega
  · unfold sL; omega
theorem oseal_nat {xs : List Ltr} (h : okB xs = true) : ∃ n : Nat, orOf (okB xs) (osL xs) = (n : Int) ∧ n ≤ 9972 := by
  obtain ⟨h1, h2⟩ := osL_rng xs 0 (by omega) (by omega)
  refine ⟨(osL xs).toNat, ?_, ?_⟩
  · rw [h]; show osL xs = _; unfold osL; omega
  · unfold osL; omega
theorem moved_nat {p : Pln} {xs : List Ltr} (h : rpOk p xs = true) : ∃ n : Nat, movedI p xs = (n : Int) ∧ n ≤ 60 := by
  have h1 := keptI_range p xs
  have h2 : keptI p xs = keptN p xs := by unfold keptI; rw [if_pos (by exact h)]
  have h3 := movedI_ok h
  have h4 := okB_len' (rp_parts h).2
  exact ⟨(movedI p xs).toNat, by omega, by omega⟩

set_option maxHeartbeats 400000 in
theorem so_decimal (n : Nat) (w : World) (hn : n ≤ 9999) :
    Calls Tryz.prog 15 #[.int .i64 n] w fun e w' => e = .returned (.string (decB n)) ∧ Below w.heap.size w w' := by
  have hbs := byteString
  have hL : Hid ((decB n).data.toList = decL n) := rfl
  have hz := (dec10_size (n := n) hn).1
  have HZ : Hid ((decL n).length ≤ 4) := by
    show _ ≤ _
    have h1 : (decB n).data.toList.length = (decB n).size := by simp
    rw [hL.out] at h1
    omega
  go_enter Tryz.func15, Tryz.ntmps15
  go_wp2_with fail
  go_loopw [0, 3] (fun t s wr => ∃ (m : Nat) (u : ByteArray), m ≤ n ∧ t = .int .i64 m ∧ s = .string u ∧ u.size ≤ 4 ∧ Hid (decL n = decL m ++ u.data.toList) ∧ Below w.heap.size w wr) (fun t _ _ => (intOf t).toNat)
  case atStart => exact ⟨n, _, Nat.le_refl _, rfl, rfl, Nat.zero_le _, by show _ = _; simp, Below.refl _ _⟩
  case round =>
    obtain ⟨m, u, hm, rfl, rfl, hu, HD, hbl⟩ := hrel
    obtain ⟨w1, rfl⟩ : ∃ w1 : World, w1 = wr := ⟨_, rfl⟩
    by_cases h9 : 9 < m
    · have HN : Hid (decL n = decL (m / 10) ++ ((⟨#[b8 (48 + (m : Int) % 10)]⟩ : ByteArray) ++ u).data.toList) := by
        show _ = _
        rw [HD.out, ba_append]
        show _ = decL (m / 10) ++ ([b8 (48 + (m : Int) % 10)] ++ _)
        unfold decL
        rw [if_neg (by omega), if_neg (by omega), dec10_step (n := m) (by omega), List.append_assoc]
        unfold b8
        rw [show (48 + (m : Int) % 10).toNat = 48 + m % 10 by omega]
      have hu4 : ((⟨#[b8 (48 + (m : Int) % 10)]⟩ : ByteArray) ++ u).size ≤ 4 := by
        have h1 := HZ.out
        rw [HN.out, List.length_append] at h1
        have h2 : ((⟨#[b8 (48 + (m : Int) % 10)]⟩ : ByteArray) ++ u).data.toList.length = ((⟨#[b8 (48 + (m : Int) % 10)]⟩ : ByteArray) ++ u).size := rfl
        omega
      have HU4 := Lib.hid hu4; clear hu4
      have hm10 : ((m / 10 : Nat) : Int) ≠ 0 := by omega
      have hq : (((m : Int) / 10) == 0) = false := beq_eq_false_iff_ne.2 (by omega)
      clear HD
      go_wp2_with fail
      go_roundw
      case rel => exact ⟨m / 10, _, by omega, by go_num, rfl, HU4.out, HN.out, hbl.alloc hbl.size _⟩
      case measure => simp [intOf]; omega
    · have hq : (((m : Int) / 10) == 0) = true := by simp; omega
      have HN : Hid (decL n = ((⟨#[b8 (48 + (m : Int) % 10)]⟩ : ByteArray) ++ u).data.toList) := by
        show _ = _
        rw [HD.out, ba_append]
        show _ = [b8 (48 + (m : Int) % 10)] ++ _
        congr 1
        unfold decL
        split
        · rename_i h0; subst h0; rfl
        · rw [dec10_small (by omega) (by omega), show (48 + (m : Int) % 10) = 48 + (m : Int) by omega]
      clear HD
      go_wp2_with fail
      go_ret
      exact ⟨ret_str (ba_ext HN.out.symm), hbl.alloc hbl.size _⟩

/-! ### The script -/
def sortLs (p : Pln) (b : List Ltr) (dg : Nat) : List ByteArray := [lnOne planWd (fmtPl p), lnOne lettersWd (fmtB b), movedWd, lnOne passWd (decB dg), sortWd, sequenceWd, movedWd, sealWd]
def sortS (b : List Ltr) (dg : Nat) : List Ltr := sortedL (spL b (dg : Int))
def sortAs (p : Pln) (b : List Ltr) (dg : Nat) : List ByteArray :=
  [okW, fmtB b, numT (movedI p b), fmtB (spL b (dg : Int)), fmtB (sortS b dg), fmtB (rpRound p (sortS b dg)) ++ ⟨#[47]⟩ ++ fmtB (rpRest p (sortS b dg)), numT (movedI p (rpRound p (sortS b dg))),
    numT (orOf (okB (rpRound p (sortS b dg))) (sL (rpRound p (sortS b dg)))) ++ ⟨#[32]⟩ ++ numT (orOf (okB (rpRound p (sortS b dg))) (osL (rpRound p (sortS b dg))))]
def planD (p : Pln) : Dsk := { firstD with day := { firstD.day with plan := p } }
def sortD (p : Pln) (b : List Ltr) (dg : Nat) : Nat → Dsk
  | 0 => firstD
  | 1 => planD p
  | 2 => { planD p with letters := b }
  | 3 => { planD p with letters := b }
  | 4 => { planD p with letters := spL b (dg : Int) }
  | 5 => { planD p with letters := sortS b dg }
  | _ => { planD p with letters := rpRound p (sortS b dg) }
theorem sort_facts {p : Pln} {b : List Ltr} {dg : Nat} (hr : rpOk p b = true) (hd : dg < 7) : bpOk b (dg : Int) = true ∧ okB (spL b (dg : Int)) = true ∧ (spL b (dg : Int)).length ≤ b.length ∧ okB (sortS b dg) = true ∧ rpOk p (sortS b dg) = true ∧ okB (rpRound p (sortS b dg)) = true ∧ rpOk p (rpRound p (sortS b dg)) = true ∧ movedI p (rpRound p (sortS b dg)) = 0 := by
  obtain ⟨hp, hb⟩ := rp_parts hr
  have h1 : bpOk b (dg : Int) = true := by
    unfold bpOk
    rw [hb, decide_eq_true (show (0 : Int) ≤ (dg : Int) by omega), decide_eq_true (show (dg : Int) < 7 by omega)]
    rfl
  have h2 := spL_ok h1
  have h3 : okB (sortS b dg) = true := okB_of_perm (sortedL_perm _) h2
  have h4 : rpOk p (sortS b dg) = true := by unfold rpOk; rw [hp, h3]; rfl
  have h5 := okB_rp h4
  have h6 : rpOk p (rpRound p (sortS b dg)) = true := by unfold rpOk; rw [hp, h5]; rfl
  have h7 : (spL b (dg : Int)).length ≤ b.length := by
    rw [spL_yes h1]
    exact flatten_length_binsOf _
  exact ⟨h1, h2, h7, h3, h4, h5, h6, moved_ord h6 (rp_ord h4)⟩
theorem plan_i64 {p : Pln} (h : planOk p = true) : isI64 p.bins ∧ isI64 p.passes := by
  obtain ⟨⟨x1, x2, x3, x4⟩, _⟩ := planOk_iff.1 h
  exact ⟨by unfold isI64; omega, by unfold isI64; omega⟩

theorem run_sort {p : Pln} {b : List Ltr} {dg : Nat} (hr : rpOk p b = true) (hl : b.length ≤ 14) (hd : dg < 7) (w : World) (hT : TabW w) :
    Calls Tryz.prog 20 #[.string (linesT (sortLs p b dg))] w fun e w' => e = .returned (.string (linesT (sortAs p b dg))) ∧ Below w.heap.size w w' := by
  obtain ⟨hp, hb⟩ := rp_parts hr
  obtain ⟨f1, f2, f3, f4, f5, f6, f7, f8⟩ := sort_facts hr hd
  have hpi := plan_i64 hp
  obtain ⟨mv, m1, m2⟩ := moved_nat hr
  obtain ⟨se, s1, s2⟩ := seal_nat f6
  obtain ⟨os, o1, o2⟩ := oseal_nat f6
  obtain ⟨n1, n2⟩ := decB_num (n := dg) (by omega)
  have hfd : fieldN (decB dg) = (dg : Int) := by unfold fieldN; rw [n1, if_pos rfl, n2]
  have zd := dec10_size (n := dg) (by omega)
  have zm := dec10_size (n := mv) (by omega)
  have zs := dec10_size (n := se) (by omega)
  have zo := dec10_size (n := os) (by omega)
  have z0 := dec10_size (n := 0) (by omega)
  have y1 := fmtPl_size p
  have y2 := fmtB_size b
  have y3 := fmtB_size (spL b (dg : Int))
  have y4 := fmtB_size (sortS b dg)
  have y5 := fmtB_size (rpRound p (sortS b dg))
  have y6 := fmtB_size (rpRest p (sortS b dg))
  have p2 := fmtB_pos hb
  have p3 := fmtB_pos f2
  have p4 := fmtB_pos f4
  have p5 := fmtB_pos f6
  have e7 : numT (movedI p (rpRound p (sortS b dg))) = decB 0 := by rw [f8]; exact numT_nat 0
  have k0 := lnOne_size planWd (fmtPl p)
  have k1 := lnOne_size lettersWd (fmtB b)
  have k3 := lnOne_size passWd (decB dg)
  have w0 : planWd.size = 4 := rfl
  have w1 : lettersWd.size = 7 := rfl
  have w3 : passWd.size = 4 := rfl
  refine run_lines TabW (sortLs p b dg) (sortAs p b dg) (sortD p b dg) w rfl rfl (by show 8 ≤ 100; decide) (fun l h => ?_) (fun l h => ?_) (fun a h => ?_) ?_ ?_ (fun W hW => hT.on hW) (fun k hk => ?_)
  · simp only [sortLs, List.mem_cons, List.not_mem_nil, or_false] at h
    rcases h with rfl | rfl | rfl | rfl | rfl | rfl | rfl | rfl
    · exact lnOne_10 (by decide) fmtPl_not
    · exact lnOne_10 (by decide) fmtB_not
    · decide
    · exact lnOne_10 (by decide) (decB_not (by decide))
    · decide
    · decide
    · decide
    · decide
  · simp only [sortLs, List.mem_cons, List.not_mem_nil, or_false] at h
    rcases h with rfl | rfl | rfl | rfl | rfl | rfl | rfl | rfl
    · omega
    · omega
    · decide
    · omega
    · decide
    · decide
    · decide
    · decide
  · simp only [sortAs, List.mem_cons, List.not_mem_nil, or_false] at h
    rcases h with rfl | rfl | rfl | rfl | rfl | rfl | rfl | rfl
    · decide
    · exact p2
    · rw [m1, numT_nat]; exact zm.2
    · exact p3
    · exact p4
    · simp only [ByteArray.size_append]; omega
    · rw [e7]; exact z0.2
    · rw [s1, o1, numT_nat, numT_nat]; simp only [ByteArray.size_append]; omega
  · simp only [sortLs, linesT_cons, linesT_nil, ByteArray.size_append]
    show _ + 1 + (_ + 1 + (5 + 1 + (_ + 1 + (4 + 1 + (8 + 1 + (5 + 1 + (4 + 1 + 0))))))) ≤ _
    omega
  · simp only [sortAs, linesT_cons, linesT_nil, ByteArray.size_append, e7, m1, s1, o1, numT_nat]
    show 2 + 1 + (_ + 1 + (_ + 1 + (_ + 1 + (_ + 1 + (_ + 1 + _ + 1 + (_ + 1 + (_ + 1 + _ + 1 + 0))))))) ≤ _
    omega
  · match k, hk with
    | 0, _ =>
      exact fun B d vH W hX hB hD => line_plan B d firstD vH p W hD hB hp
    | 1, _ =>
      exact fun B d vH W hX hB hD => line_letters B d (planD p) vH b W hD hB hX hb
    | 2, _ =>
      exact fun B d vH W hX hB hD => line_word B d _ vH movedWd _ W (by decide) (by decide +kernel) fun W' hW' => word_moved B d _ vH W' (hD.below hW') (hX.on hW') hpi (show isI64 (movedI p b) by rw [m1]; unfold isI64; omega)
    | 3, _ =>
      exact fun B d vH W hX hB hD => line_one B d _ vH (lnOne passWd (decB dg)) passWd (decB dg) (decB dg) _ W (by rw [k3, w3]; unfold maxLen; omega) (by omega) (cut_app (by decide)) (parts_one (decB_not (by decide)))
        (by rw [ByteArray.toList_eq]; decide) (by rw [ByteArray.toList_eq]; decide) (by rw [ByteArray.toList_eq]; decide) (by rw [ByteArray.toList_eq]; decide) fun W' hW' => by
          have h := one_pass B d { planD p with letters := b } vH (decB dg) W' (hD.below hW') (Nat.le_trans hB hW'.size) (hX.on hW') (by unfold maxLen; omega)
          rw [hfd] at h
          have h' := f1
          simp only [h', if_true] at h
          exact h
    | 4, _ =>
      exact fun B d vH W hX hB hD => line_word B d _ vH sortWd _ W (by decide) (by decide +kernel) fun W' hW' => word_sort B d { planD p with letters := spL b (dg : Int) } vH W' (hD.below hW') (Nat.le_trans hB hW'.size) (hX.on hW') (show (spL b (dg : Int)).length ≤ 19 by omega) f2
    | 5, _ =>
      exact fun B d vH W hX hB hD => line_word B d _ vH sequenceWd _ W (by decide) (by decide +kernel) fun W' hW' => word_sequence B d _ vH _ W' (desk_sequence B d { planD p with letters := sortS b dg } vH W' (hD.below hW') (Nat.le_trans hB hW'.size) (hX.on hW') hpi f5)
    | 6, _ =>
      exact fun B d vH W hX hB hD => line_word B d _ vH movedWd _ W (by decide) (by decide +kernel) fun W' hW' => word_moved B d { planD p with letters := rpRound p (sortS b dg) } vH W' (hD.below hW') (hX.on hW') hpi (show isI64 (movedI p (rpRound p (sortS b dg))) by rw [f8]; unfold isI64; omega)
    | 7, _ =>
      exact fun B d vH W hX hB hD => line_word B d _ vH sealWd _ W (by decide) (by decide +kernel) fun W' hW' => word_seal B d { planD p with letters := rpRound p (sortS b dg) } vH W' (hD.below hW') (hX.on hW') (show isI64 (orOf (okB (rpRound p (sortS b dg))) (sL (rpRound p (sortS b dg)))) by rw [s1]; unfold isI64; omega) (show isI64 (orOf (okB (rpRound p (sortS b dg))) (osL (rpRound p (sortS b dg)))) by rw [o1]; unfold isI64; omega)
        (show (numT (orOf (okB (rpRound p (sortS b dg))) (sL (rpRound p (sortS b dg))))).size ≤ 100 by rw [s1, numT_nat]; omega) (show (numT (orOf (okB (rpRound p (sortS b dg))) (osL (rpRound p (sortS b dg))))).size ≤ 100 by rw [o1, numT_nat]; omega)
    | k + 8, hk => exact absurd hk (by unfold sortLs; simp)

end Go.Proofs.YtpinkbodbedajaaGreatDoor

namespace Go.Proofs.YtpinkbodbedajaaGreatDoor
open Go.RowKit Go.ChangeShapes Go.WideShapes

end Go.Proofs.YtpinkbodbedajaaGreatDoor
