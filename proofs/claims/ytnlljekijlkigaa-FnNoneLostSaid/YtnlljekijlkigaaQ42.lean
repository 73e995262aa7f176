/- PD R0 R2 -/
import Derived.Test.YtnlljekijlkigaaQ15
import Derived.Test.YtnlljekijlkigaaQ38
import Derived.Test.YtnlljekijlkigaaQ41
import Derived.Test.YtnlljekijlkigaaQ1
import Derived.ProofKit
import Derived.OpenShut
import Derived.ShutString
import Derived.ChangeOld
import Derived.Deep.Slices
import Derived.Deep.Fields
import Derived.ChangeSame
import Derived.Test.YtnlljekijlkigaaQ4
namespace Go.Proofs.Ytnlljekijlkigaa
open Go.RowKit

theorem sizeOk_iff {n : Int} : sizeOk n = true ↔ 1 ≤ n ∧ n ≤ 20 := by
  unfold sizeOk
  rw [Bool.and_eq_true, decide_eq_true_iff, decide_eq_true_iff]
/-! ### Orders that are followed -/
theorem fwdTo_code {fs : List Fwd} (h : fwdsOk fs = true) {c : ByteArray} (hi : ¬ fwdI fs c < 0) : isCode (fwdTo fs c) = true := by
  obtain ⟨k, hk⟩ := Int.eq_ofNat_of_zero_le (Int.not_lt.1 hi)
  have hr := (fiI_range (fun x => sEq x.src c) fs).2
  have hk' : fiI (fun x : Fwd => sEq x.src c) fs = k := hk
  have hl : k < fs.length := by omega
  rw [fwdTo_at hk hl]
  exact ((fwdsOk_iff.1 h).2 k hl).2.1
theorem followN_end {fs : List Fwd} (h : fwdsOk fs = true) : ∀ (f : Nat) (c : ByteArray) (n : Nat), isCode c = true → (followN fs f c n).2.2 = true → isCode (followN fs f c n).1 = true ∧ fwdI fs (followN fs f c n).1 < 0
  | 0, c, n, _, h1 => by simp [followN] at h1
  | f + 1, c, n, hc, h1 => by
    unfold followN at h1 ⊢
    by_cases hi : fwdI fs c < 0
    · rw [if_pos hi]; exact ⟨hc, hi⟩
    · rw [if_neg hi] at h1 ⊢
      exact followN_end h f _ _ (fwdTo_code h hi) h1
theorem follow_end {fs : List Fwd} (h : fwdsOk fs = true) {c : ByteArray} (hc : isCode c = true) (h1 : (follow fs c).2.2 = true) : isCode (follow fs c).1 = true ∧ fwdI fs (follow fs c).1 < 0 := followN_end h _ _ _ hc h1
/-- Where no order leads further, letters arrive at once. -/
theorem follow_stop {fs : List Fwd} {c : ByteArray} (hi : fwdI fs c < 0) : follow fs c = (c, 0, true) := by
  unfold follow followN
  rw [if_pos hi]

/-! ### The parts of a day's batch -/
theorem okB_sent {fs : List Fwd} {xs : List Ltr} (hf : fwdsOk fs = true) (hx : okB xs = true) : okB (sentL fs xs) = true := by
  obtain ⟨h1, h2, h3⟩ := okB_pw.1 hx
  refine okB_pw.2 ⟨?_, ?_, ?_⟩
  · unfold sentL
    rw [List.length_map]
    exact Nat.le_trans (List.length_filter_le _ _) h1
  · intro y hy
    unfold sentL at hy
    obtain ⟨x, hx, rfl⟩ := List.mem_map.1 hy
    obtain ⟨hx1, hx2⟩ := List.mem_filter.1 hx
    obtain ⟨a, b, c⟩ := h2 x hx1
    exact ⟨a, b, (follow_end hf c hx2).1⟩
  · unfold sentL
    rw [List.pairwise_map]
    exact (h3.sublist List.filter_sublist).imp fun h => h
theorem rdOk_iff {d : Dy} {xs : List Ltr} : rdOk d xs = true ↔ (planOk d.plan = true ∧ fwdsOk d.fwds = true ∧ heldOk d.held = true ∧ sizeOk d.size = true) ∧ okB xs = true := by
  unfold rdOk dayOk
  simp only [Bool.and_eq_true]
  constructor
  · rintro ⟨⟨⟨⟨a, b⟩, c⟩, e⟩, f⟩; exact ⟨⟨a, b, c, e⟩, f⟩
  · rintro ⟨⟨a, b, c, e⟩, f⟩; exact ⟨⟨⟨⟨a, b⟩, c⟩, e⟩, f⟩
/-- What each step of a day has. -/
theorem day_steps {d : Dy} {xs : List Ltr} (h : rdOk d xs = true) : fwOk d.fwds xs = true ∧ hbOk d.held (fwSent d.fwds xs) = true ∧ rpOk d.plan (hbFree d.held (fwSent d.fwds xs)) = true := by
  obtain ⟨⟨hp, hf, hh, _⟩, hx⟩ := rdOk_iff.1 h
  have h1 : fwOk d.fwds xs = true := by unfold fwOk; rw [hf, hx]; rfl
  have h2 : hbOk d.held (fwSent d.fwds xs) = true := by
    unfold hbOk fwSent
    rw [if_pos h1, okB_sent hf hx, hh]; rfl
  refine ⟨h1, h2, ?_⟩
  unfold rpOk hbFree
  rw [if_pos h2, hp]
  have : okB (fwSent d.fwds xs) = true := by unfold hbOk at h2; rw [Bool.and_eq_true] at h2; exact h2.1
  exact okB_sub this List.filter_sublist
theorem dayRpt_eq {d : Dy} {xs : List Ltr} (h : rdOk d xs = true) : hbFree d.held (fwSent d.fwds xs) = freeL d.held (sentL d.fwds xs) ∧ (rptOf d xs).held = heldL d.held (sentL d.fwds xs) ∧ (rptOf d xs).stuck = stuckL d.fwds xs ∧ (rptOf d xs).round = rpRound d.plan (freeL d.held (sentL d.fwds xs)) ∧ (rptOf d xs).strange = restOf (fun x => binI d.plan x.code 0) (freeL d.held (sentL d.fwds xs)) ∧ rpOk d.plan (freeL d.held (sentL d.fwds xs)) = true ∧ okB (sentL d.fwds xs) = true := by
  obtain ⟨h1, h2, h3⟩ := day_steps h
  have e1 : fwSent d.fwds xs = sentL d.fwds xs := by unfold fwSent; rw [if_pos h1]
  have e2 : hbFree d.held (fwSent d.fwds xs) = freeL d.held (sentL d.fwds xs) := by unfold hbFree; rw [if_pos h2, e1]
  unfold rptOf
  rw [if_pos h]
  refine ⟨e2, ?_, ?_, ?_, ?_, ?_, ?_⟩
  · show hbHeld _ _ = _
    unfold hbHeld; rw [if_pos h2, e1]
  · show fwStuck _ _ = _
    unfold fwStuck; rw [if_pos h1]
  · show rpRound _ _ = _
    rw [e2]
  · show rpRest _ _ = _
    unfold rpRest; rw [if_pos h3, e2]
  · rw [← e2]; exact h3
  · have := h2; unfold hbOk at this; rw [Bool.and_eq_true, e1] at this; exact this.1
theorem okB_parts {d : Dy} {xs : List Ltr} (h : rdOk d xs = true) : okB (rptOf d xs).round = true ∧ okB (rptOf d xs).strange = true ∧ okB (rptOf d xs).held = true ∧ okB (rptOf d xs).stuck = true := by
  obtain ⟨_, e1, e2, e3, e4, h1, h2⟩ := dayRpt_eq h
  rw [e1, e2, e3, e4]
  have hf : okB (freeL d.held (sentL d.fwds xs)) = true := okB_sub h2 List.filter_sublist
  exact ⟨okB_rp h1, okB_sub hf List.filter_sublist, okB_sub h2 List.filter_sublist, okB_sub (rdOk_iff.1 h).2 List.filter_sublist⟩

/-! ### The fate of each letter -/
theorem findI_mem {xs : List Ltr} (h : okB xs = true) {x : Ltr} (hx : x ∈ xs) : ∃ k : Nat, ∃ hk : k < xs.length, findI xs x.id = k ∧ xs[k] = x := by
  obtain ⟨k, hk, rfl⟩ := List.getElem_of_mem hx
  refine ⟨k, hk, ?_, rfl⟩
  unfold findI
  rw [if_pos h]
  refine fiI_at hk (fun j hj hjk => ?_) (by simp)
  have := List.pairwise_iff_getElem.1 (okB_pw.1 h).2.2 j k hj hk hjk
  simpa using this
/-- The part of the report that a fate tells. -/
def partOf (r : Rpt) (n : Nat) : List Ltr := match n with
  | 1 => r.stuck
  | 2 => r.held
  | 3 => r.round
  | _ => r.strange
theorem fate_part {d : Dy} {xs : List Ltr} (h : rdOk d xs = true) {x : Ltr} (hx : x ∈ xs) :
    ∃ (n : Nat) (c : ByteArray), (n = 1 ∨ n = 2 ∨ n = 3 ∨ n = 4) ∧ fate d x.code = (c, fateW n) ∧ (⟨x.id, c⟩ : Ltr) ∈ partOf (rptOf d xs) n := by
  obtain ⟨_, e1, e2, e3, e4, h1, h2⟩ := dayRpt_eq h
  obtain ⟨⟨hp, hf, hh, hs⟩, hb⟩ := rdOk_iff.1 h
  have hc := ((okB_pw.1 hb).2.1 x hx).2.2
  have hd : (dayOk d && isCode x.code) = true := by unfold dayOk; rw [hp, hf, hh, hs, hc]; rfl
  have hpb := planOk_bins hp
  unfold fate
  rw [if_pos hd]
  by_cases hg : (follow d.fwds x.code).2.2 = true
  · rw [if_pos hg]
    have hm : (⟨x.id, (follow d.fwds x.code).1⟩ : Ltr) ∈ sentL d.fwds xs := List.mem_map.2 ⟨x, List.mem_filter.2 ⟨hx, hg⟩, rfl⟩
    by_cases ha : 0 ≤ rkI d.held (follow d.fwds x.code).1
    · rw [if_pos ha]
      refine ⟨2, _, .inr (.inl rfl), rfl, ?_⟩
      show _ ∈ (rptOf d xs).held
      rw [e1]
      refine List.mem_filter.2 ⟨hm, ?_⟩
      have : ¬ rkI d.held (follow d.fwds x.code).1 < 0 := by omega
      simp [this]
    · rw [if_neg ha]
      have hfr : (⟨x.id, (follow d.fwds x.code).1⟩ : Ltr) ∈ freeL d.held (sentL d.fwds xs) := List.mem_filter.2 ⟨hm, decide_eq_true (Int.not_le.1 ha)⟩
      by_cases hr : 0 ≤ rkI d.plan.order (follow d.fwds x.code).1
      · rw [if_pos hr]
        refine ⟨3, _, .inr (.inr (.inl rfl)), rfl, ?_⟩
        show _ ∈ (rptOf d xs).round
        rw [e3]
        exact (rp_mem h1 _).2 ⟨hfr, hr⟩
      · rw [if_neg hr]
        refine ⟨4, _, .inr (.inr (.inr rfl)), rfl, ?_⟩
        show _ ∈ (rptOf d xs).strange
        rw [e4]
        refine List.mem_filter.2 ⟨hfr, decide_eq_true ?_⟩
        have hb : binI d.plan (follow d.fwds x.code).1 0 < 0 ↔ rkI d.plan.order (follow d.fwds x.code).1 < 0 := binI_rank hpb.1
        show binI d.plan (follow d.fwds x.code).1 0 < 0
        omega
  · rw [if_neg hg]
    refine ⟨1, _, .inl rfl, rfl, ?_⟩
    show _ ∈ (rptOf d xs).stuck
    rw [e2]
    refine List.mem_filter.2 ⟨hx, ?_⟩
    simp at hg
    simp [hg]
theorem partOf_ok {d : Dy} {xs : List Ltr} (h : rdOk d xs = true) (n : Nat) : okB (partOf (rptOf d xs) n) = true := by
  obtain ⟨a, b, c, e⟩ := okB_parts h
  unfold partOf
  split <;> assumption

/-! ### No letter is lost -/
def allL (r : Rpt) : List Ltr := r.round ++ r.strange ++ r.held ++ r.stuck
theorem filter_parts {α : Type} (p : α → Bool) (xs : List α) : (xs.filter p ++ xs.filter fun x => !p x).Perm xs := by
  induction xs with
  | nil => exact .nil
  | cons x xs ih =>
    cases hp : p x
    · simp only [List.filter_cons, hp, Bool.not_false, if_true, Bool.false_eq_true, if_false]
      exact (List.perm_middle).trans (ih.cons x)
    · simp only [List.filter_cons, hp, Bool.not_true, if_true, Bool.false_eq_true, if_false, List.cons_append]
      exact ih.cons x
theorem ids_sent {fs : List Fwd} {xs : List Ltr} : (sentL fs xs).map Ltr.id = (xs.filter fun x => (follow fs x.code).2.2).map Ltr.id := by
  unfold sentL
  rw [List.map_map]
  rfl
theorem perm_of_ids {xs ys : List Ltr} (hx : okB xs = true) (hy : okB ys = true) (h : ∀ x, x ∈ xs ↔ x ∈ ys) : xs.Perm ys := by
  have key : ∀ {zs : List Ltr}, okB zs = true → zs.Nodup := fun {zs} hz => (okB_pw.1 hz).2.2.imp fun {a b} hab e => hab (by rw [e])
  exact (List.perm_ext_iff_of_nodup (key hx) (key hy)).2 h
theorem ids_all {d : Dy} {xs : List Ltr} (h : rdOk d xs = true) : ((allL (rptOf d xs)).map Ltr.id).Perm (xs.map Ltr.id) := by
  obtain ⟨_, e1, e2, e3, e4, h1, h2⟩ := dayRpt_eq h
  obtain ⟨⟨hp, hf, hh, hs⟩, hb⟩ := rdOk_iff.1 h
  have hpb := planOk_bins hp
  have hF : okB (freeL d.held (sentL d.fwds xs)) = true := okB_sub h2 List.filter_sublist
  unfold allL
  rw [e1, e2, e3, e4]
  obtain ⟨F, hFe⟩ : ∃ F, F = freeL d.held (sentL d.fwds xs) := ⟨_, rfl⟩
  rw [← hFe] at h1 hF ⊢
  have hR : (rpRound d.plan F ++ restOf (fun x => binI d.plan x.code 0) F).Perm F := by
    have hp1 : (rpRound d.plan F).Perm (F.filter fun x => decide (0 ≤ rkI d.plan.order x.code)) := perm_of_ids (okB_rp h1) (okB_sub hF List.filter_sublist) fun x => by
      rw [rp_mem h1, List.mem_filter, decide_eq_true_iff]
    have hp2 : restOf (fun x => binI d.plan x.code 0) F = F.filter fun x => !decide (0 ≤ rkI d.plan.order x.code) := by
      unfold restOf
      congr 1
      funext x
      have hb : binI d.plan x.code 0 < 0 ↔ rkI d.plan.order x.code < 0 := binI_rank hpb.1
      rw [← decide_not]
      refine decide_eq_decide.2 ?_
      show binI d.plan x.code 0 < 0 ↔ _
      omega
    rw [hp2]
    exact (hp1.append_right _).trans (filter_parts _ F)
  have hH : (F ++ heldL d.held (sentL d.fwds xs)).Perm (sentL d.fwds xs) := by
    rw [hFe]
    exact filter_parts _ _
  have hS : ((rpRound d.plan F ++ restOf (fun x => binI d.plan x.code 0) F ++ heldL d.held (sentL d.fwds xs)).map Ltr.id).Perm ((sentL d.fwds xs).map Ltr.id) := ((hR.append_right _).trans hH).map _
  rw [List.map_append]
  refine (hS.append_right _).trans ?_
  rw [ids_sent, ← List.map_append]
  exact (filter_parts _ _).map _
theorem nodup_ids {xs : List Ltr} : (xs.Pairwise fun x y => x.id ≠ y.id) ↔ (xs.map Ltr.id).Nodup := by
  unfold List.Nodup
  rw [List.pairwise_map]
theorem okB_all {d : Dy} {xs : List Ltr} (h : rdOk d xs = true) : okB (allL (rptOf d xs)) = true := by
  have hp := ids_all h
  obtain ⟨o1, o2, o3, o4⟩ := okB_parts h
  obtain ⟨h1, h2, h3⟩ := okB_pw.1 (rdOk_iff.1 h).2
  refine okB_pw.2 ⟨?_, ?_, ?_⟩
  · have := hp.length_eq
    rw [List.length_map, List.length_map] at this
    omega
  · intro x hx
    unfold allL at hx
    rcases List.mem_append.1 hx with hx | hx
    · rcases List.mem_append.1 hx with hx | hx
      · rcases List.mem_append.1 hx with hx | hx
        · exact (okB_pw.1 o1).2.1 x hx
        · exact (okB_pw.1 o2).2.1 x hx
      · exact (okB_pw.1 o3).2.1 x hx
    · exact (okB_pw.1 o4).2.1 x hx
  · rw [nodup_ids, hp.nodup_iff, ← nodup_ids]
    exact h3
theorem all_len {d : Dy} {xs : List Ltr} (h : rdOk d xs = true) : (allL (rptOf d xs)).length = xs.length := by
  have := (ids_all h).length_eq
  rwa [List.length_map, List.length_map] at this
theorem missR_none {a b : List Ltr} (h : ∀ x ∈ a, x.id ∈ b.map Ltr.id) : missR a b = [] := by
  unfold missR
  split
  · rename_i hk
    have hb : okB b = true := by unfold missOk at hk; rw [Bool.and_eq_true] at hk; exact hk.2
    have : missT b a = [] := by
      unfold missT
      rw [List.map_eq_nil_iff, List.filter_eq_nil_iff]
      intro x hx
      obtain ⟨y, hy, e⟩ := List.mem_map.1 (h x hx)
      obtain ⟨k, hk, e2, _⟩ := findI_mem hb hy
      rw [← e, e2]
      simp
    rw [this]
    simp [sortI]
  · rfl
theorem none_lost {d : Dy} {xs : List Ltr} (h : rdOk d xs = true) : missR xs (allL (rptOf d xs)) = [] ∧ missR (allL (rptOf d xs)) xs = [] :=
  ⟨missR_none fun _ hx => (ids_all h).mem_iff.2 (List.mem_map_of_mem hx), missR_none fun _ hx => (ids_all h).mem_iff.1 (List.mem_map_of_mem hx)⟩
/-- A seal knows only the numbers, in no order. -/
def idStep (n : Int) (i : Int) : Int := (n + i * i) % 9973
theorem sL_ids (xs : List Ltr) : sL xs = (xs.map Ltr.id).foldl idStep 0 := by
  unfold sL
  rw [List.foldl_map]
  rfl
theorem idStep_comm (n i j : Int) : idStep (idStep n i) j = idStep (idStep n j) i := by
  unfold idStep
  generalize i * i = a
  generalize j * j = b
  omega
theorem seal_perm {xs ys : List Ltr} (h : (xs.map Ltr.id).Perm (ys.map Ltr.id)) : sL xs = sL ys := by
  rw [sL_ids, sL_ids]
  exact h.foldl_eq' (fun x _ y _ z => idStep_comm z x y) 0

/-! ### Trays -/
/-- Trays: the first ones are full, the last one has a letter. -/
def traysAre (s : Int) (L : List (List Ltr)) (xs : List Ltr) : Prop :=
  L.flatten = xs ∧ (L = [] ∨ ∃ F r, L = F ++ [r] ∧ (∀ t ∈ F, (t.length : Int) = s) ∧ 1 ≤ r.length ∧ (r.length : Int) ≤ s)
theorem getD_end {α : Type} (F : List (List α)) (r : List α) : (F ++ [r]).getD ((F ++ [r]).length - 1) [] = r := by
  rw [List.getD_eq_getElem?_getD]
  simp
theorem set_end {α : Type} (F : List (List α)) (r q : List α) : (F ++ [r]).set ((F ++ [r]).length - 1) q = F ++ [q] := by
  simp
theorem traysAre_put {s : Int} (hs : 1 ≤ s) {L : List (List Ltr)} {xs : List Ltr} (x : Ltr) (h : traysAre s L xs) : traysAre s (putT s L x) (xs ++ [x]) := by
  obtain ⟨hf, h⟩ := h
  rcases h with rfl | ⟨F, r, rfl, h1, h2, h3⟩
  · unfold putT
    rw [if_pos (.inl rfl)]
    refine ⟨by rw [← hf]; rfl, .inr ⟨[], [x], rfl, by simp, by simp, by simp; omega⟩⟩
  · unfold putT
    rw [getD_end, set_end]
    split
    · rename_i hc
      have hr : (r.length : Int) = s := by
        rcases hc with hc | hc
        · simp at hc
        · exact hc
      refine ⟨by rw [List.flatten_append, hf]; rfl, .inr ⟨F ++ [r], [x], rfl, ?_, by simp, by simp; omega⟩⟩
      intro t ht
      rcases List.mem_append.1 ht with ht | ht
      · exact h1 t ht
      · rw [List.mem_singleton.1 ht]; exact hr
    · rename_i hc
      refine ⟨?_, .inr ⟨F, r ++ [x], rfl, h1, by simp, ?_⟩⟩
      · rw [← hf]; simp
      · have : ¬ (r.length : Int) = s := fun e => hc (.inr e)
        simp
        omega
theorem traysAre_fold {s : Int} (hs : 1 ≤ s) : ∀ (ys : List Ltr) (L : List (List Ltr)) (xs : List Ltr), traysAre s L xs → traysAre s (ys.foldl (putT s) L) (xs ++ ys)
  | [], L, xs, h => by simpa using h
  | y :: ys, L, xs, h => by
    have := traysAre_fold hs ys _ _ (traysAre_put hs y h)
    rw [List.append_assoc] at this
    exact this
theorem trays_are {s : Int} (hs : 1 ≤ s) (xs : List Ltr) : traysAre s (trayTo s xs) xs := traysAre_fold hs xs [] [] ⟨rfl, .inl rfl⟩
theorem flat_full {s : Int} : ∀ (F : List (List Ltr)), (∀ t ∈ F, (t.length : Int) = s) → (F.flatten.length : Int) = F.length * s
  | [], _ => by simp
  | t :: F, h => by
    have := flat_full F fun u hu => h u (List.mem_cons_of_mem _ hu)
    have ht := h t List.mem_cons_self
    rw [List.flatten_cons, List.length_append, List.length_cons, Int.natCast_add, this, ht, Int.natCast_add, Int.add_mul]
    simp only [Int.natCast_one, Int.one_mul]
    omega
/-- As many trays as are needed. -/
theorem traysAre_len {s : Int} (hs : 1 ≤ s) {L : List (List Ltr)} {xs : List Ltr} (h : traysAre s L xs) : (L.length : Int) = ((xs.length : Int) + s - 1) / s := by
  obtain ⟨hf, h⟩ := h
  subst hf
  rcases h with rfl | ⟨F, r, rfl, h1, h2, h3⟩
  · simp
    rw [Int.ediv_eq_zero_of_lt (by omega) (by omega)]
  · have e : ((F ++ [r]).flatten.length : Int) = (F.length : Int) * s + r.length := by
      rw [List.flatten_append, List.length_append, Int.natCast_add, flat_full F h1]
      simp
    rw [e, show (F.length : Int) * s + r.length + s - 1 = ((r.length : Int) - 1) + (F.length + 1) * s by rw [Int.add_mul]; omega, Int.add_mul_ediv_right _ _ (by omega), Int.ediv_eq_zero_of_lt (by omega) (by omega)]
    simp
theorem traysAre_rows {s : Int} {L : List (List Ltr)} {xs : List Ltr} (h : traysAre s L xs) : ∀ t ∈ L, 1 ≤ t.length ∧ (t.length : Int) ≤ s ∨ s < 1 := by
  obtain ⟨_, h⟩ := h
  rcases h with rfl | ⟨F, r, rfl, h1, h2, h3⟩
  · simp
  · intro t ht
    rcases List.mem_append.1 ht with ht | ht
    · have := h1 t ht
      omega
    · rw [List.mem_singleton.1 ht]
      exact .inl ⟨h2, h3⟩
theorem dtOk_rd {d : Dy} {xs : List Ltr} (h : dtOk d xs = true) : rdOk d xs = true := by unfold dtOk at h; rw [Bool.and_eq_true] at h; exact h.1
theorem dt_facts {d : Dy} {xs : List Ltr} (h : dtOk d xs = true) : (dtRows d xs).flatten = (rptOf d xs).round ∧ ((dtRows d xs).length : Int) = (((rptOf d xs).round.length : Int) + d.size - 1) / d.size ∧ (∀ t ∈ dtRows d xs, 1 ≤ t.length ∧ (t.length : Int) ≤ 20) := by
  have hr := dtOk_rd h
  have hf : ftOk d.size (rptOf d xs).round = true := by unfold dtOk at h; rw [Bool.and_eq_true] at h; exact h.2
  have hs := sizeOk_iff.1 (rdOk_iff.1 hr).1.2.2.2
  have e : dtRows d xs = trayTo d.size (rptOf d xs).round := by
    unfold dtRows ftRows
    rw [if_pos hr, if_pos hf]
  have ht := trays_are hs.1 (rptOf d xs).round
  rw [← e] at ht
  refine ⟨ht.1, traysAre_len hs.1 ht, fun t h1 => ?_⟩
  have := traysAre_rows ht t h1
  omega

/-! ### The fate of a code -/
theorem fate_none {d : Dy} {c : ByteArray} (h : (dayOk d && isCode c) = false) : fate d c = (fateW 0, fateW 0) := by
  unfold fate
  rw [h]
  rfl
theorem fate_stuck {d : Dy} {c : ByteArray} (h : (dayOk d && isCode c) = true) (hf : (follow d.fwds c).2.2 = false) : fate d c = (c, fateW 1) := by
  unfold fate
  rw [if_pos h, if_neg (by rw [hf]; simp)]
/-- Behind the end of the orders a code has the same fate. -/
theorem fate_again {d : Dy} {c : ByteArray} (h : (dayOk d && isCode c) = true) (hf : (follow d.fwds c).2.2 = true) : (fate d c).1 = (follow d.fwds c).1 ∧ fate d (follow d.fwds c).1 = fate d c ∧ (dayOk d && isCode (follow d.fwds c).1) = true := by
  have h' := h
  rw [Bool.and_eq_true] at h'
  have hfw : fwdsOk d.fwds = true := by
    have := h'.1
    unfold dayOk at this
    simp only [Bool.and_eq_true] at this
    exact this.1.1.2
  obtain ⟨e1, e2⟩ := follow_end hfw h'.2 hf
  have e3 : (dayOk d && isCode (follow d.fwds c).1) = true := by rw [h'.1, e1]; rfl
  have e4 := follow_stop e2
  refine ⟨?_, ?_, e3⟩
  · unfold fate
    rw [if_pos h, if_pos hf]
    split
    · rfl
    · split <;> rfl
  · unfold fate
    rw [if_pos h, if_pos e3, if_pos hf, e4, if_pos rfl]
/-- What the word tells. -/
theorem fate_word {d : Dy} {c : ByteArray} (h : (dayOk d && isCode c) = true) (hf : (follow d.fwds c).2.2 = true) : ∃ n, (n = 2 ∨ n = 3 ∨ n = 4) ∧ fate d c = ((follow d.fwds c).1, fateW n) ∧ (n = 2 ↔ 0 ≤ rkI d.held (follow d.fwds c).1) ∧ (n = 3 ↔ ¬ 0 ≤ rkI d.held (follow d.fwds c).1 ∧ 0 ≤ rkI d.plan.order (follow d.fwds c).1) := by
  unfold fate
  rw [if_pos h, if_pos hf]
  by_cases h1 : 0 ≤ rkI d.held (follow d.fwds c).1
  · rw [if_pos h1]
    exact ⟨2, .inl rfl, rfl, by simp [h1], by simp [h1]⟩
  · rw [if_neg h1]
    by_cases h2 : 0 ≤ rkI d.plan.order (follow d.fwds c).1
    · rw [if_pos h2]
      exact ⟨3, .inr (.inl rfl), rfl, by simp [h1], by simp [h1, h2]⟩
    · rw [if_neg h2]
      exact ⟨4, .inr (.inr rfl), rfl, by simp [h1], by simp [h1, h2]⟩

end Go.Proofs.Ytnlljekijlkigaa

namespace Go.Proofs.Ytnlljekijlkigaa
open Go.RowKit Go.ChangeShapes Go.WideShapes Go.Deep

/-- Whatever reads at type t reads as some x of α. -/
def Opens (P : Program) (t : TypeId) (α : Type) [El α] : Prop :=
  ∀ {H : Type} (enc : TypeId × Value → H) (w : World) (spare : Nat → Bool) (held : Bool) (fuel : Nat) (cs : List Value) (x : DataW H × List MemPlace),
    DataW.trod enc P w 0 spare held fuel t cs = some x → ∃ y : α, El.el w w.heap.size y cs

theorem list_of {α : Type} {p : Nat → α → Prop} : ∀ {n : Nat}, (∀ i, i < n → ∃ y, p i y) → ∃ xs : List α, xs.length = n ∧ ∀ i (h : i < xs.length), p i xs[i]
  | 0, _ => ⟨[], rfl, fun i h => absurd h (Nat.not_lt_zero i)⟩
  | n + 1, h => by
    obtain ⟨xs, hl, hp⟩ := list_of (n := n) (fun i hi => h i (by omega))
    obtain ⟨y, hy⟩ := h n (by omega)
    refine ⟨xs ++ [y], by simp [hl], fun i hi => ?_⟩
    by_cases hin : i < xs.length
    · rw [List.getElem_append_left hin]
      exact hp i hin
    · have : i = n := by simp at hi; omega
      subst this
      rw [List.getElem_append_right (by omega)]
      simpa [hl] using hy

theorem opens_row {α : Type} [El α] {P : Program} {t e : TypeId} (ht : P.underlying t = some (.slice e)) (hc : P.cellsOf e = El.size α) (hs : 0 < El.size α) (ho : Opens P e α)
    {H : Type} {enc : TypeId × Value → H} {w : World} {spare : Nat → Bool} {held : Bool} {fuel : Nat} {v : Value} {x : DataW H × List MemPlace}
    (h : DataW.trod enc P w 0 spare held fuel t [v] = some x) : ∃ xs : List α, rd w w.heap.size v xs := by
  rcases open_slice ht h with ⟨h0, _⟩ | ⟨a, len, cap, m, n, D, Pl, hcs, hb, hl, hm, hmm, hx, hi⟩
  · injection h0 with h0
    subst h0
    exact ⟨[], rd.nil_⟩
  · injection hcs with hv
    subst hv
    obtain ⟨xs, hxl, hxp⟩ := list_of (n := len) (p := fun i (y : α) => ∃ cs : List Value, El.el w w.heap.size y cs ∧ ∀ j u, cs[j]? = some u → w.cell? (a.add (i * El.size α + j)) = some u) (fun i hil => by
      obtain ⟨cs', hcc, hd⟩ := hi i (by rw [hmm]; split <;> omega)
      obtain ⟨y, hy⟩ := ho enc w spare held n cs' _ hd
      obtain ⟨_, hcl, hat⟩ := World.cells?_some hcc
      refine ⟨y, cs', hy, fun j u hu => ?_⟩
      have hj : j < P.cellsOf e := by
        rw [← hcl]
        exact (List.getElem?_eq_some_iff.1 hu).1
      have := hat j hj
      rw [← add_add, ← hc, this, hu])
    refine ⟨xs, some a, len, cap, rfl, hxl.symm, hl, hm, fun k hk => ?_⟩
    obtain ⟨cs, hel, hcell⟩ := hxp k hk
    have h0 : cs[0]? = some (cs[0]'(by rw [El.len hel]; exact hs)) := List.getElem?_eq_getElem _
    obtain ⟨b, o, spot⟩ := a
    have hc0 := hcell 0 _ h0
    have hspot : spot = none := by
      have h1 := hxp 0 (by omega)
      obtain ⟨cs1, hel1, hcell1⟩ := h1
      have h01 : cs1[0]? = some (cs1[0]'(by rw [El.len hel1]; exact hs)) := List.getElem?_eq_getElem _
      have := World.cell?_spot (hcell1 0 _ h01)
      simpa [Addr.add] using this
    subst hspot
    have hlt := World.block_lt_of_cell? _ _ hc0
    rw [block_of_add] at hlt
    exact ⟨b, o, cs, rfl, hlt, hel, fun j u hu => by have := hcell j u hu; rwa [add_lit] at this⟩

/-- The cells of a struct, field by field. -/
theorem trod_fields {H : Type} {enc : TypeId × Value → H} {P : Program} {w : World} {base : Nat} {spare : Nat → Bool} {held : Bool} {t : TypeId} {fs : Array Field} {fuel : Nat} {cs : List Value} {x : DataW H × List MemPlace}
    (ht : P.underlying t = some (.struct fs)) (h : DataW.trod enc P w base spare held fuel t cs = some x) :
    cs.length = P.cellsOf t ∧ ∀ (i : Nat) (f : Field), fs[i]? = some f → ∃ n y, DataW.trod enc P w base spare held n f.type ((cs.drop f.offset).take (P.cellsOf f.type)) = some y := by
  obtain ⟨xs, n, _, _, hlen, hl, hf⟩ := DataW.trod_struct ht h
  refine ⟨hlen, fun i f hi => ?_⟩
  have hil : i < xs.length := by rw [hl]; exact (Array.getElem?_eq_some_iff.1 hi).1
  exact ⟨n, xs[i], by rw [hf i f hi]; exact List.getElem?_eq_getElem hil⟩
theorem list2 {α : Type} {l : List α} (h : l.length = 2) : ∃ a b, l = [a, b] := by
  match l, h with
  | [a, b], _ => exact ⟨a, b, rfl⟩
theorem list3 {α : Type} {l : List α} (h : l.length = 3) : ∃ a b c, l = [a, b, c] := by
  match l, h with
  | [a, b, c], _ => exact ⟨a, b, c, rfl⟩
theorem list4 {α : Type} {l : List α} (h : l.length = 4) : ∃ a b c d, l = [a, b, c, d] := by
  match l, h with
  | [a, b, c, d], _ => exact ⟨a, b, c, d, rfl⟩
theorem list6 {α : Type} {l : List α} (h : l.length = 6) : ∃ a b c d e f, l = [a, b, c, d, e, f] := by
  match l, h with
  | [a, b, c, d, e, f], _ => exact ⟨a, b, c, d, e, f, rfl⟩

end Go.Proofs.Ytnlljekijlkigaa

namespace Go.Proofs.Ytnlljekijlkigaa
open Go.ChangeShapes Go.WideShapes Go.ChangeAt Go.RowKit

theorem opensByte : Opens Try.prog 5 UInt8 := by
  intro H enc w spare held fuel cs x h
  obtain ⟨n, rfl, _, wf⟩ := DataW.trod_int Try.underlying5 h
  simp [Lit.wf, IntKind.min, IntKind.max, IntKind.signed, IntKind.bits] at wf
  refine ⟨UInt8.ofNat n.toNat, ?_⟩
  show [Value.int .u8 n] = [Value.int .u8 ((UInt8.ofNat n.toNat).toNat : Int)]
  rw [UInt8.toNat_ofNat_of_lt' (by show n.toNat < 256; omega)]
  congr 2
  omega

end Go.Proofs.Ytnlljekijlkigaa
