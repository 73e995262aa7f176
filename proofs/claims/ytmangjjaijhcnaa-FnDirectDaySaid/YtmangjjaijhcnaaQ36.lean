/- PD0 -/
import Derived.Test.YtmangjjaijhcnaaQ16
import Derived.Test.YtmangjjaijhcnaaQ11
namespace Go.Proofs.Ytmangjjaijhcnaa
open Go.RowKit

theorem sizeOk_iff {n : Int} : sizeOk n = true ↔ 1 ≤ n ∧ n ≤ 20 := by
  unfold sizeOk
  rw [Bool.and_eq_true, decide_eq_true_iff, decide_eq_true_iff]
/-! ### Orders that are followed -/
theorem fwdTo_code {fs : List Fwd} (h : fwdsOk fs = true) {c : ByteArray} (hi : ¬ fwdI fs c < 0) : isCode (fwdTo fs c) = true := by
  obtain ⟨k, hk⟩ := Int.eq_ofNat_of_zero_le (Int.not_lt.1 hi)
  have hr := (fiI_range (fun x => sEq x.src c) fs).2
  have hk' : fiI (fun x : Fwd => sEq x.src c) fs = k := hk
  have hl : k < fs.length := by omega
  rw [fwdTo_at hk hl]
  exact ((fwdsOk_iff.1 h).2 k hl).2.1
theorem followN_end {fs : List Fwd} (h : fwdsOk fs = true) : ∀ (f : Nat) (c : ByteArray) (n : Nat), isCode c = true → (followN fs f c n).2.2 = true → isCode (followN fs f c n).1 = true ∧ fwdI fs (followN fs f c n).1 < 0
  | 0, c, n, _, h1 => by simp [followN] at h1
  | f + 1, c, n, hc, h1 => by
    unfold followN at h1 ⊢
    by_cases hi : fwdI fs c < 0
    · rw [if_pos hi]; exact ⟨hc, hi⟩
    · rw [if_neg hi] at h1 ⊢
      exact followN_end h f _ _ (fwdTo_code h hi) h1
theorem follow_end {fs : List Fwd} (h : fwdsOk fs = true) {c : ByteArray} (hc : isCode c = true) (h1 : (follow fs c).2.2 = true) : isCode (follow fs c).1 = true ∧ fwdI fs (follow fs c).1 < 0 := followN_end h _ _ _ hc h1
/-- Where no order leads further, letters arrive at once. -/
theorem follow_stop {fs : List Fwd} {c : ByteArray} (hi : fwdI fs c < 0) : follow fs c = (c, 0, true) := by
  unfold follow followN
  rw [if_pos hi]

/-! ### The parts of a day's batch -/
theorem okB_sent {fs : List Fwd} {xs : List Ltr} (hf : fwdsOk fs = true) (hx : okB xs = true) : okB (sentL fs xs) = true := by
  obtain ⟨h1, h2, h3⟩ := okB_pw.1 hx
  refine okB_pw.2 ⟨?_, ?_, ?_⟩
  · unfold sentL
    rw [List.length_map]
    exact Nat.le_trans (List.length_filter_le _ _) h1
  · intro y hy
    unfold sentL at hy
    obtain ⟨x, hx, rfl⟩ := List.mem_map.1 hy
    obtain ⟨hx1, hx2⟩ := List.mem_filter.1 hx
    obtain ⟨a, b, c⟩ := h2 x hx1
    exact ⟨a, b, (follow_end hf c hx2).1⟩
  · unfold sentL
    rw [List.pairwise_map]
    exact (h3.sublist List.filter_sublist).imp fun h => h
theorem rdOk_iff {d : Dy} {xs : List Ltr} : rdOk d xs = true ↔ (planOk d.plan = true ∧ fwdsOk d.fwds = true ∧ heldOk d.held = true ∧ sizeOk d.size = true) ∧ okB xs = true := by
  unfold rdOk dayOk
  simp only [Bool.and_eq_true]
  constructor
  · rintro ⟨⟨⟨⟨a, b⟩, c⟩, e⟩, f⟩; exact ⟨⟨a, b, c, e⟩, f⟩
  · rintro ⟨⟨a, b, c, e⟩, f⟩; exact ⟨⟨⟨⟨a, b⟩, c⟩, e⟩, f⟩
/-- What each step of a day has. -/
theorem day_steps {d : Dy} {xs : List Ltr} (h : rdOk d xs = true) : fwOk d.fwds xs = true ∧ hbOk d.held (fwSent d.fwds xs) = true ∧ rpOk d.plan (hbFree d.held (fwSent d.fwds xs)) = true := by
  obtain ⟨⟨hp, hf, hh, _⟩, hx⟩ := rdOk_iff.1 h
  have h1 : fwOk d.fwds xs = true := by unfold fwOk; rw [hf, hx]; rfl
  have h2 : hbOk d.held (fwSent d.fwds xs) = true := by
    unfold hbOk fwSent
    rw [if_pos h1, okB_sent hf hx, hh]; rfl
  refine ⟨h1, h2, ?_⟩
  unfold rpOk hbFree
  rw [if_pos h2, hp]
  have : okB (fwSent d.fwds xs) = true := by unfold hbOk at h2; rw [Bool.and_eq_true] at h2; exact h2.1
  exact okB_sub this List.filter_sublist
theorem dayRpt_eq {d : Dy} {xs : List Ltr} (h : rdOk d xs = true) : hbFree d.held (fwSent d.fwds xs) = freeL d.held (sentL d.fwds xs) ∧ (rptOf d xs).held = heldL d.held (sentL d.fwds xs) ∧ (rptOf d xs).stuck = stuckL d.fwds xs ∧ (rptOf d xs).round = rpRound d.plan (freeL d.held (sentL d.fwds xs)) ∧ (rptOf d xs).strange = restOf (fun x => binI d.plan x.code 0) (freeL d.held (sentL d.fwds xs)) ∧ rpOk d.plan (freeL d.held (sentL d.fwds xs)) = true ∧ okB (sentL d.fwds xs) = true := by
  obtain ⟨h1, h2, h3⟩ := day_steps h
  have e1 : fwSent d.fwds xs = sentL d.fwds xs := by unfold fwSent; rw [if_pos h1]
  have e2 : hbFree d.held (fwSent d.fwds xs) = freeL d.held (sentL d.fwds xs) := by unfold hbFree; rw [if_pos h2, e1]
  unfold rptOf
  rw [if_pos h]
  refine ⟨e2, ?_, ?_, ?_, ?_, ?_, ?_⟩
  · show hbHeld _ _ = _
    unfold hbHeld; rw [if_pos h2, e1]
  · show fwStuck _ _ = _
    unfold fwStuck; rw [if_pos h1]
  · show rpRound _ _ = _
    rw [e2]
  · show rpRest _ _ = _
    unfold rpRest; rw [if_pos h3, e2]
  · rw [← e2]; exact h3
  · have := h2; unfold hbOk at this; rw [Bool.and_eq_true, e1] at this; exact this.1
theorem okB_parts {d : Dy} {xs : List Ltr} (h : rdOk d xs = true) : okB (rptOf d xs).round = true ∧ okB (rptOf d xs).strange = true ∧ okB (rptOf d xs).held = true ∧ okB (rptOf d xs).stuck = true := by
  obtain ⟨_, e1, e2, e3, e4, h1, h2⟩ := dayRpt_eq h
  rw [e1, e2, e3, e4]
  have hf : okB (freeL d.held (sentL d.fwds xs)) = true := okB_sub h2 List.filter_sublist
  exact ⟨okB_rp h1, okB_sub hf List.filter_sublist, okB_sub h2 List.filter_sublist, okB_sub (rdOk_iff.1 h).2 List.filter_sublist⟩

/-! ### The fate of each letter -/
/-- The part of the report that a fate tells. -/
def partOf (r : Rpt) (n : Nat) : List Ltr := match n with
  | 1 => r.stuck
  | 2 => r.held
  | 3 => r.round
  | _ => r.strange
theorem fate_part {d : Dy} {xs : List Ltr} (h : rdOk d xs = true) {x : Ltr} (hx : x ∈ xs) :
    ∃ (n : Nat) (c : ByteArray), (n = 1 ∨ n = 2 ∨ n = 3 ∨ n = 4) ∧ fate d x.code = (c, fateW n) ∧ (⟨x.id, c⟩ : Ltr) ∈ partOf (rptOf d xs) n := by
  obtain ⟨_, e1, e2, e3, e4, h1, h2⟩ := dayRpt_eq h
  obtain ⟨⟨hp, hf, hh, hs⟩, hb⟩ := rdOk_iff.1 h
  have hc := ((okB_pw.1 hb).2.1 x hx).2.2
  have hd : (dayOk d && isCode x.code) = true := by unfold dayOk; rw [hp, hf, hh, hs, hc]; rfl
  have hpb := planOk_bins hp
  unfold fate
  rw [if_pos hd]
  by_cases hg : (follow d.fwds x.code).2.2 = true
  · rw [if_pos hg]
    have hm : (⟨x.id, (follow d.fwds x.code).1⟩ : Ltr) ∈ sentL d.fwds xs := List.mem_map.2 ⟨x, List.mem_filter.2 ⟨hx, hg⟩, rfl⟩
    by_cases ha : 0 ≤ rkI d.held (follow d.fwds x.code).1
    · rw [if_pos ha]
      refine ⟨2, _, .inr (.inl rfl), rfl, ?_⟩
      show _ ∈ (rptOf d xs).held
      rw [e1]
      refine List.mem_filter.2 ⟨hm, ?_⟩
      have : ¬ rkI d.held (follow d.fwds x.code).1 < 0 := by omega
      simp [this]
    · rw [if_neg ha]
      have hfr : (⟨x.id, (follow d.fwds x.code).1⟩ : Ltr) ∈ freeL d.held (sentL d.fwds xs) := List.mem_filter.2 ⟨hm, decide_eq_true (Int.not_le.1 ha)⟩
      by_cases hr : 0 ≤ rkI d.plan.order (follow d.fwds x.code).1
      · rw [if_pos hr]
        refine ⟨3, _, .inr (.inr (.inl rfl)), rfl, ?_⟩
        show _ ∈ (rptOf d xs).round
        rw [e3]
        exact (rp_mem h1 _).2 ⟨hfr, hr⟩
      · rw [if_neg hr]
        refine ⟨4, _, .inr (.inr (.inr rfl)), rfl, ?_⟩
        show _ ∈ (rptOf d xs).strange
        rw [e4]
        refine List.mem_filter.2 ⟨hfr, decide_eq_true ?_⟩
        have hb : binI d.plan (follow d.fwds x.code).1 0 < 0 ↔ rkI d.plan.order (follow d.fwds x.code).1 < 0 := binI_rank hpb.1
        show binI d.plan (follow d.fwds x.code).1 0 < 0
        omega
  · rw [if_neg hg]
    refine ⟨1, _, .inl rfl, rfl, ?_⟩
    show _ ∈ (rptOf d xs).stuck
    rw [e2]
    refine List.mem_filter.2 ⟨hx, ?_⟩
    simp at hg
    simp [hg]
theorem partOf_ok {d : Dy} {xs : List Ltr} (h : rdOk d xs = true) (n : Nat) : okB (partOf (rptOf d xs) n) = true := by
  obtain ⟨a, b, c, e⟩ := okB_parts h
  unfold partOf
  split <;> assumption

/-! ### No letter is lost -/
def allL (r : Rpt) : List Ltr := r.round ++ r.strange ++ r.held ++ r.stuck
theorem filter_parts {α : Type} (p : α → Bool) (xs : List α) : (xs.filter p ++ xs.filter fun x => !p x).Perm xs := by
  induction xs with
  | nil => exact .nil
  | cons x xs ih =>
    cases hp : p x
    · simp only [List.filter_cons, hp, Bool.not_false, if_true, Bool.false_eq_true, if_false]
      exact (List.perm_middle).trans (ih.cons x)
    · simp only [List.filter_cons, hp, Bool.not_true, if_true, Bool.false_eq_true, if_false, List.cons_append]
      exact ih.cons x
theorem ids_sent {fs : List Fwd} {xs : List Ltr} : (sentL fs xs).map Ltr.id = (xs.filter fun x => (follow fs x.code).2.2).map Ltr.id := by
  unfold sentL
  rw [List.map_map]
  rfl
theorem perm_of_ids {xs ys : List Ltr} (hx : okB xs = true) (hy : okB ys = true) (h : ∀ x, x ∈ xs ↔ x ∈ ys) : xs.Perm ys := by
  have key : ∀ {zs : List Ltr}, okB zs = true → zs.Nodup := fun {zs} hz => (okB_pw.1 hz).2.2.imp fun {a b} hab e => hab (by rw [e])
  exact (List.perm_ext_iff_of_nodup (key hx) (key hy)).2 h
theorem ids_all {d : Dy} {xs : List Ltr} (h : rdOk d xs = true) : ((allL (rptOf d xs)).map Ltr.id).Perm (xs.map Ltr.id) := by
  obtain ⟨_, e1, e2, e3, e4, h1, h2⟩ := dayRpt_eq h
  obtain ⟨⟨hp, hf, hh, hs⟩, hb⟩ := rdOk_iff.1 h
  have hpb := planOk_bins hp
  have hF : okB (freeL d.held (sentL d.fwds xs)) = true := okB_sub h2 List.filter_sublist
  unfold allL
  rw [e1, e2, e3, e4]
  obtain ⟨F, hFe⟩ : ∃ F, F = freeL d.held (sentL d.fwds xs) := ⟨_, rfl⟩
  rw [← hFe] at h1 hF ⊢
  have hR : (rpRound d.plan F ++ restOf (fun x => binI d.plan x.code 0) F).Perm F := by
    have hp1 : (rpRound d.plan F).Perm (F.filter fun x => decide (0 ≤ rkI d.plan.order x.code)) := perm_of_ids (okB_rp h1) (okB_sub hF List.filter_sublist) fun x => by
      rw [rp_mem h1, List.mem_filter, decide_eq_true_iff]
    have hp2 : restOf (fun x => binI d.plan x.code 0) F = F.filter fun x => !decide (0 ≤ rkI d.plan.order x.code) := by
      unfold restOf
      congr 1
      funext x
      have hb : binI d.plan x.code 0 < 0 ↔ rkI d.plan.order x.code < 0 := binI_rank hpb.1
      rw [← decide_not]
      refine decide_eq_decide.2 ?_
      show binI d.plan x.code 0 < 0 ↔ _
      omega
    rw [hp2]
    exact (hp1.append_right _).trans (filter_parts _ F)
  have hH : (F ++ heldL d.held (sentL d.fwds xs)).Perm (sentL d.fwds xs) := by
    rw [hFe]
    exact filter_parts _ _
  have hS : ((rpRound d.plan F ++ restOf (fun x => binI d.plan x.code 0) F ++ heldL d.held (sentL d.fwds xs)).map Ltr.id).Perm ((sentL d.fwds xs).map Ltr.id) := ((hR.append_right _).trans hH).map _
  rw [List.map_append]
  refine (hS.append_right _).trans ?_
  rw [ids_sent, ← List.map_append]
  exact (filter_parts _ _).map _
theorem nodup_ids {xs : List Ltr} : (xs.Pairwise fun x y => x.id ≠ y.id) ↔ (xs.map Ltr.id).Nodup := by
  unfold List.Nodup
  rw [List.pairwise_map]
theorem okB_all {d : Dy} {xs : List Ltr} (h : rdOk d xs = true) : okB (allL (rptOf d xs)) = true := by
  have hp := ids_all h
  obtain ⟨o1, o2, o3, o4⟩ := okB_parts h
  obtain ⟨h1, h2, h3⟩ := okB_pw.1 (rdOk_iff.1 h).2
  refine okB_pw.2 ⟨?_, ?_, ?_⟩
  · have := hp.length_eq
    rw [List.length_map, List.length_map] at this
    omega
  · intro x hx
    unfold allL at hx
    rcases List.mem_append.1 hx with hx | hx
    · rcases List.mem_append.1 hx with hx | hx
      · rcases List.mem_append.1 hx with hx | hx
        · exact (okB_pw.1 o1).2.1 x hx
        · exact (okB_pw.1 o2).2.1 x hx
      · exact (okB_pw.1 o3).2.1 x hx
    · exact (okB_pw.1 o4).2.1 x hx
  · rw [nodup_ids, hp.nodup_iff, ← nodup_ids]
    exact h3
theorem all_len {d : Dy} {xs : List Ltr} (h : rdOk d xs = true) : (allL (rptOf d xs)).length = xs.length := by
  have := (ids_all h).length_eq
  rwa [List.length_map, List.length_map] at this

end Go.Proofs.Ytmangjjaijhcnaa
