/- RX PD0 -/
import Derived.OrdersHeld
import Derived.Deep.RegionHeld
import Derived.Test.YtffbcfaahegglaaGreatDoorProg
import Derived.Test.YtffbcfaahegglaaGreatDoorQ17
import Derived.Test.YtffbcfaahegglaaGreatDoorQ12
namespace Go.Proofs.YtffbcfaahegglaaGreatDoor

section
variable {P : Program} {ops : Array Oper} {Q : Exit → Act → World → Prop} {md : Region.Mode} {S : World → Prop} {z : Nat}

/-- Any order; S behind each operation but number z. -/
def anyZ (P : Program) (md : Region.Mode) (ops : Array Oper) (Q : Exit → Act → World → Prop) (S : World → Prop) (z : Nat) : Nat → Array Bool → Act → World → Prop
  | 0, L, a, w => Region.ready md ops L = [] ∧ Q .normal a w
  | f + 1, L, a, w => (Region.ready md ops L = [] → Q .normal a w) ∧
      ∀ i ∈ Region.ready md ops L, wpOp P ops Q i (fun a' w' => (i ≠ z → S w') ∧ anyZ P md ops Q S z f (L.setIfInBounds i true) a' w') a w
theorem any_of_Z : ∀ (f : Nat) (L : Array Bool) (a : Act) (w : World), anyZ P md ops Q S z f L a w → wpAny P md ops Q f L a w
  | 0, _, _, _, h => h
  | f + 1, _, _, _, h => ⟨h.1, fun i hi => wpOp_mono (fun a' w' h' => any_of_Z f _ a' w' h'.2) (h.2 i hi)⟩
/-- Number z waits for number i. -/
def waitsFor (md : Region.Mode) (ops : Array Oper) (z i : Nat) : Bool :=
  match ops[z]? with
  | none => false
  | some o => o.after.any fun e => Region.binds md e && e.on == i
theorem firstZ {i : Nat} {oi : Oper} {v : Value} (hi : ops[i]? = some oi) (hiz : i ≠ z) (hz : waitsFor md ops z i = true) (hsel : ∀ (j : Nat) (o : Oper) cs b, ops[j]? = some o → o.op ≠ .select cs b)
    (hQ : ∀ c a w, Q (.panic c) (a.put oi.dst v) w → Q (.panic c) a w) : ∀ (f : Nat) (L : Array Bool) (a : Act) (w : World),
      (∀ j oj, ops[j]? = some oj → j ≠ i → L.getD j true = false → (∀ e ∈ oj.after, Region.binds md e = true → e.on ≠ i) → oi.apart ops oj = true) →
      i ∈ Region.ready md ops L → YieldsIf P ops S oi v a → S w →
      anyZ P md ops Q S z f (L.setIfInBounds i true) (a.put oi.dst v) w → anyZ P md ops Q S z (f + 1) L a w
  | 0, L, a, w, _, hr, hy, hS, H => by
    refine ⟨fun h => absurd hr (by rw [h]; simp), fun j hj => ?_⟩
    by_cases hji : j = i
    · subst hji
      exact hy.wpOp hi hS ⟨fun _ => hS, H⟩
    · have := ready_mono hj hji
      rw [H.1] at this
      cases this
  | f + 1, L, a, w, hfree, hr, hy, hS, H => by
    refine ⟨fun h => absurd hr (by rw [h]; simp), fun j hj => ?_⟩
    by_cases hji : j = i
    · subst hji
      exact hy.wpOp hi hS ⟨fun _ => hS, H⟩
    have h1 := H.2 j (ready_mono hj hji)
    obtain ⟨hjun, oj, hoj, hall⟩ := mem_ready.1 hj
    have hnot : ∀ e ∈ oj.after, Region.binds md e = true → e.on ≠ i := fun e he hb heq => by
      have h1 := hall e he hb
      have h0 := (mem_ready.1 hr).1
      rw [heq] at h1
      rcases Nat.lt_or_ge i L.size with h' | h'
      · simp [h'] at h0 h1
        rw [h0] at h1
        cases h1
      · simp [Array.getElem?_eq_none h'] at h1
    have hjz : j ≠ z := fun e => by
      subst e
      unfold waitsFor at hz
      rw [hoj] at hz
      obtain ⟨e, he, hb⟩ := Array.any_eq_true'.1 hz
      rw [Bool.and_eq_true, beq_iff_eq] at hb
      exact hnot e he hb.1 hb.2
    have h2 := wpOp_putIf hoj (hfree j oj hoj hji hjun hnot) (fun cs b => hsel i oi cs b hi) (fun cs b => hsel j oj cs b hoj) hQ hy h1
    have hfree' : ∀ k ok, ops[k]? = some ok → k ≠ i → (L.setIfInBounds j true).getD k true = false →
        (∀ e ∈ ok.after, Region.binds md e = true → e.on ≠ i) → oi.apart ops ok = true := fun k ok hk hki hun hno => by
      refine hfree k ok hk hki ?_ hno
      by_cases hjk : j = k
      · subst hjk; exact hjun
      · rw [getD_set_ne true hjk] at hun; exact hun
    refine wpOp_mono (fun a' w' h3 => ⟨fun _ => h3.2.1 hjz, firstZ hi hiz hz hsel hQ f (L.setIfInBounds j true) a' w' hfree' (ready_mono hr (Ne.symm hji)) h3.1 (h3.2.1 hjz) ?_⟩) h2
    rw [Array.setIfInBounds_comm _ _ hji]
    exact h3.2.2
theorem takeZ {i : Nat} {oi : Oper} {v : Value} {f : Nat} {L : Array Bool} {a : Act} {w : World} (hi : ops[i]? = some oi) (hiz : (i == z) = false) (hz : waitsFor md ops z i = true)
    (hs : Region.noSelect ops = true) (hf : Region.free md ops L i = true) (hr : (Region.ready md ops L).contains i = true)
    (hQ : ∀ c a w, Q (.panic c) (a.put oi.dst v) w → Q (.panic c) a w) (hy : YieldsIf P ops S oi v a) (hS : S w)
    (h : anyZ P md ops Q S z f (L.setIfInBounds i true) (a.put oi.dst v) w) : anyZ P md ops Q S z (f + 1) L a w :=
  firstZ hi (by simpa using hiz) hz (Region.noSelect_spec hs) hQ f L a w (Region.free_spec hi hf) (by simpa using hr) hy hS h
/-- Each of the operations 'rs' comes up next. -/
def AllZ (P : Program) (md : Region.Mode) (ops : Array Oper) (Q : Exit → Act → World → Prop) (S : World → Prop) (z f : Nat) (L : Array Bool) (a : Act) (w : World) (rs : List Nat) : Prop :=
  ∀ i ∈ rs, wpOp P ops Q i (fun a' w' => (i ≠ z → S w') ∧ anyZ P md ops Q S z f (L.setIfInBounds i true) a' w') a w
theorem AllZ.nil {f : Nat} {L : Array Bool} {a : Act} {w : World} : AllZ P md ops Q S z f L a w [] := fun _ h => by cases h
theorem AllZ.cons {f : Nat} {L : Array Bool} {a : Act} {w : World} {i : Nat} {o : Oper} {rs : List Nat} (ho : ops[i]? = some o)
    (h : ∀ K' : Act → World → Prop, Shut (∀ a w, (i ≠ z → S w) → ((i ≠ z → S w) → anyZ P md ops Q S z f (L.setIfInBounds i true) a w) → K' a w) → if Region.wanted o (yielded ops a.tmps) = true then Oper.wp P o a w K' Q else K' (a.put o.dst undef) w)
    (hs : AllZ P md ops Q S z f L a w rs) : AllZ P md ops Q S z f L a w (i :: rs) := fun j hj => by
  rcases List.mem_cons.1 hj with rfl | hj
  · exact wpOp_step ho (fun K' hK => h K' (fun a w hS hW => hK a w ⟨hS, hW hS⟩))
  · exact hs j hj
theorem readyZ {rs : List Nat} {f : Nat} {L : Array Bool} {a : Act} {w : World} (hr : Region.ready md ops L = rs) (hne : rs ≠ [])
    (h : AllZ P md ops Q S z f L a w rs) : anyZ P md ops Q S z (f + 1) L a w := ⟨fun h0 => absurd (hr ▸ h0) hne, hr ▸ h⟩
theorem doneZ {L : Array Bool} {a : Act} {w : World} (hr : Region.ready md ops L = []) (h : Q .normal a w) : ∀ f, anyZ P md ops Q S z f L a w
  | 0 => ⟨hr, h⟩
  | _ + 1 => ⟨fun _ => h, by rw [hr]; simp⟩
theorem regionZ (z : Nat) {id : Nat} {a : Act} {w : World} (hm : P.follows .mixedOrders = true) (hS : S w.drew)
    (h : S w.drew → anyZ P .any ops Q S z ops.size (Array.replicate ops.size false) a w.drew) : (Code.region id ops true).wp P Q a w :=
  wp_region_any hm (any_of_Z _ _ _ _ (h hS))
end

end Go.Proofs.YtffbcfaahegglaaGreatDoor

namespace Go.Proofs.YtffbcfaahegglaaGreatDoor
open Go.RowKit

theorem sizeOk_iff {n : Int} : sizeOk n = true ↔ 1 ≤ n ∧ n ≤ 20 := by
  unfold sizeOk
  rw [Bool.and_eq_true, decide_eq_true_iff, decide_eq_true_iff]
/-! ### Orders that are followed -/
theorem fwdTo_code {fs : List Fwd} (h : fwdsOk fs = true) {c : ByteArray} (hi : ¬ fwdI fs c < 0) : isCode (fwdTo fs c) = true := by
  obtain ⟨k, hk⟩ := Int.eq_ofNat_of_zero_le (Int.not_lt.1 hi)
  have hr := (fiI_range (fun x => sEq x.src c) fs).2
  have hk' : fiI (fun x : Fwd => sEq x.src c) fs = k := hk
  have hl : k < fs.length := by omega
  rw [fwdTo_at hk hl]
  exact ((fwdsOk_iff.1 h).2 k hl).2.1
theorem followN_end {fs : List Fwd} (h : fwdsOk fs = true) : ∀ (f : Nat) (c : ByteArray) (n : Nat), isCode c = true → (followN fs f c n).2.2 = true → isCode (followN fs f c n).1 = true ∧ fwdI fs (followN fs f c n).1 < 0
  | 0, c, n, _, h1 => by simp [followN] at h1
  | f + 1, c, n, hc, h1 => by
    unfold followN at h1 ⊢
    by_cases hi : fwdI fs c < 0
    · rw [if_pos hi]; exact ⟨hc, hi⟩
    · rw [if_neg hi] at h1 ⊢
      exact followN_end h f _ _ (fwdTo_code h hi) h1
theorem follow_end {fs : List Fwd} (h : fwdsOk fs = true) {c : ByteArray} (hc : isCode c = true) (h1 : (follow fs c).2.2 = true) : isCode (follow fs c).1 = true ∧ fwdI fs (follow fs c).1 < 0 := followN_end h _ _ _ hc h1
/-- Where no order leads further, letters arrive at once. -/
theorem follow_stop {fs : List Fwd} {c : ByteArray} (hi : fwdI fs c < 0) : follow fs c = (c, 0, true) := by
  unfold follow followN
  rw [if_pos hi]

/-! ### The parts of a day's batch -/
theorem okB_sent {fs : List Fwd} {xs : List Ltr} (hf : fwdsOk fs = true) (hx : okB xs = true) : okB (sentL fs xs) = true := by
  obtain ⟨h1, h2, h3⟩ := okB_pw.1 hx
  refine okB_pw.2 ⟨?_, ?_, ?_⟩
  · unfold sentL
    rw [List.length_map]
    exact Nat.le_trans (List.length_filter_le _ _) h1
  · intro y hy
    unfold sentL at hy
    obtain ⟨x, hx, rfl⟩ := List.mem_map.1 hy
    obtain ⟨hx1, hx2⟩ := List.mem_filter.1 hx
    obtain ⟨a, b, c⟩ := h2 x hx1
    exact ⟨a, b, (follow_end hf c hx2).1⟩
  · unfold sentL
    rw [List.pairwise_map]
    exact (h3.sublist List.filter_sublist).imp fun h => h
theorem rdOk_iff {d : Dy} {xs : List Ltr} : rdOk d xs = true ↔ (planOk d.plan = true ∧ fwdsOk d.fwds = true ∧ heldOk d.held = true ∧ sizeOk d.size = true) ∧ okB xs = true := by
  unfold rdOk dayOk
  simp only [Bool.and_eq_true]
  constructor
  · rintro ⟨⟨⟨⟨a, b⟩, c⟩, e⟩, f⟩; exact ⟨⟨a, b, c, e⟩, f⟩
  · rintro ⟨⟨a, b, c, e⟩, f⟩; exact ⟨⟨⟨⟨a, b⟩, c⟩, e⟩, f⟩
/-- What each step of a day has. -/
theorem day_steps {d : Dy} {xs : List Ltr} (h : rdOk d xs = true) : fwOk d.fwds xs = true ∧ hbOk d.held (fwSent d.fwds xs) = true ∧ rpOk d.plan (hbFree d.held (fwSent d.fwds xs)) = true := by
  obtain ⟨⟨hp, hf, hh, _⟩, hx⟩ := rdOk_iff.1 h
  have h1 : fwOk d.fwds xs = true := by unfold fwOk; rw [hf, hx]; rfl
  have h2 : hbOk d.held (fwSent d.fwds xs) = true := by
    unfold hbOk fwSent
    rw [if_pos h1, okB_sent hf hx, hh]; rfl
  refine ⟨h1, h2, ?_⟩
  unfold rpOk hbFree
  rw [if_pos h2, hp]
  have : okB (fwSent d.fwds xs) = true := by unfold hbOk at h2; rw [Bool.and_eq_true] at h2; exact h2.1
  exact okB_sub this List.filter_sublist
theorem dayRpt_eq {d : Dy} {xs : List Ltr} (h : rdOk d xs = true) : hbFree d.held (fwSent d.fwds xs) = freeL d.held (sentL d.fwds xs) ∧ (rptOf d xs).held = heldL d.held (sentL d.fwds xs) ∧ (rptOf d xs).stuck = stuckL d.fwds xs ∧ (rptOf d xs).round = rpRound d.plan (freeL d.held (sentL d.fwds xs)) ∧ (rptOf d xs).strange = restOf (fun x => binI d.plan x.code 0) (freeL d.held (sentL d.fwds xs)) ∧ rpOk d.plan (freeL d.held (sentL d.fwds xs)) = true ∧ okB (sentL d.fwds xs) = true := by
  obtain ⟨h1, h2, h3⟩ := day_steps h
  have e1 : fwSent d.fwds xs = sentL d.fwds xs := by unfold fwSent; rw [if_pos h1]
  have e2 : hbFree d.held (fwSent d.fwds xs) = freeL d.held (sentL d.fwds xs) := by unfold hbFree; rw [if_pos h2, e1]
  unfold rptOf
  rw [if_pos h]
  refine ⟨e2, ?_, ?_, ?_, ?_, ?_, ?_⟩
  · show hbHeld _ _ = _
    unfold hbHeld; rw [if_pos h2, e1]
  · show fwStuck _ _ = _
    unfold fwStuck; rw [if_pos h1]
  · show rpRound _ _ = _
    rw [e2]
  · show rpRest _ _ = _
    unfold rpRest; rw [if_pos h3, e2]
  · rw [← e2]; exact h3
  · have := h2; unfold hbOk at this; rw [Bool.and_eq_true, e1] at this; exact this.1
theorem okB_parts {d : Dy} {xs : List Ltr} (h : rdOk d xs = true) : okB (rptOf d xs).round = true ∧ okB (rptOf d xs).strange = true ∧ okB (rptOf d xs).held = true ∧ okB (rptOf d xs).stuck = true := by
  obtain ⟨_, e1, e2, e3, e4, h1, h2⟩ := dayRpt_eq h
  rw [e1, e2, e3, e4]
  have hf : okB (freeL d.held (sentL d.fwds xs)) = true := okB_sub h2 List.filter_sublist
  exact ⟨okB_rp h1, okB_sub hf List.filter_sublist, okB_sub h2 List.filter_sublist, okB_sub (rdOk_iff.1 h).2 List.filter_sublist⟩

/-! ### The fate of each letter -/
/-- The part of the report that a fate tells. -/
def partOf (r : Rpt) (n : Nat) : List Ltr := match n with
  | 1 => r.stuck
  | 2 => r.held
  | 3 => r.round
  | _ => r.strange
theorem fate_part {d : Dy} {xs : List Ltr} (h : rdOk d xs = true) {x : Ltr} (hx : x ∈ xs) :
    ∃ (n : Nat) (c : ByteArray), (n = 1 ∨ n = 2 ∨ n = 3 ∨ n = 4) ∧ fate d x.code = (c, fateW n) ∧ (⟨x.id, c⟩ : Ltr) ∈ partOf (rptOf d xs) n := by
  obtain ⟨_, e1, e2, e3, e4, h1, h2⟩ := dayRpt_eq h
  obtain ⟨⟨hp, hf, hh, hs⟩, hb⟩ := rdOk_iff.1 h
  have hc := ((okB_pw.1 hb).2.1 x hx).2.2
  have hd : (dayOk d && isCode x.code) = true := by unfold dayOk; rw [hp, hf, hh, hs, hc]; rfl
  have hpb := planOk_bins hp
  unfold fate
  rw [if_pos hd]
  by_cases hg : (follow d.fwds x.code).2.2 = true
  · rw [if_pos hg]
    have hm : (⟨x.id, (follow d.fwds x.code).1⟩ : Ltr) ∈ sentL d.fwds xs := List.mem_map.2 ⟨x, List.mem_filter.2 ⟨hx, hg⟩, rfl⟩
    by_cases ha : 0 ≤ rkI d.held (follow d.fwds x.code).1
    · rw [if_pos ha]
      refine ⟨2, _, .inr (.inl rfl), rfl, ?_⟩
      show _ ∈ (rptOf d xs).held
      rw [e1]
      refine List.mem_filter.2 ⟨hm, ?_⟩
      have : ¬ rkI d.held (follow d.fwds x.code).1 < 0 := by omega
      simp [this]
    · rw [if_neg ha]
      have hfr : (⟨x.id, (follow d.fwds x.code).1⟩ : Ltr) ∈ freeL d.held (sentL d.fwds xs) := List.mem_filter.2 ⟨hm, decide_eq_true (Int.not_le.1 ha)⟩
      by_cases hr : 0 ≤ rkI d.plan.order (follow d.fwds x.code).1
      · rw [if_pos hr]
        refine ⟨3, _, .inr (.inr (.inl rfl)), rfl, ?_⟩
        show _ ∈ (rptOf d xs).round
        rw [e3]
        exact (rp_mem h1 _).2 ⟨hfr, hr⟩
      · rw [if_neg hr]
        refine ⟨4, _, .inr (.inr (.inr rfl)), rfl, ?_⟩
        show _ ∈ (rptOf d xs).strange
        rw [e4]
        refine List.mem_filter.2 ⟨hfr, decide_eq_true ?_⟩
        have hb : binI d.plan (follow d.fwds x.code).1 0 < 0 ↔ rkI d.plan.order (follow d.fwds x.code).1 < 0 := binI_rank hpb.1
        show binI d.plan (follow d.fwds x.code).1 0 < 0
        omega
  · rw [if_neg hg]
    refine ⟨1, _, .inl rfl, rfl, ?_⟩
    show _ ∈ (rptOf d xs).stuck
    rw [e2]
    refine List.mem_filter.2 ⟨hx, ?_⟩
    simp at hg
    simp [hg]
theorem partOf_ok {d : Dy} {xs : List Ltr} (h : rdOk d xs = true) (n : Nat) : okB (partOf (rptOf d xs) n) = true := by
  obtain ⟨a, b, c, e⟩ := okB_parts h
  unfold partOf
  split <;> assumption

/-! ### No letter is lost -/
def allL (r : Rpt) : List Ltr := r.round ++ r.strange ++ r.held ++ r.stuck
theorem filter_parts {α : Type} (p : α → Bool) (xs : List α) : (xs.filter p ++ xs.filter fun x => !p x).Perm xs := by
  induction xs with
  | nil => exact .nil
  | cons x xs ih =>
    cases hp : p x
    · simp only [List.filter_cons, hp, Bool.not_false, if_true, Bool.false_eq_true, if_false]
      exact (List.perm_middle).trans (ih.cons x)
    · simp only [List.filter_cons, hp, Bool.not_true, if_true, Bool.false_eq_true, if_false, List.cons_append]
      exact ih.cons x
theorem ids_sent {fs : List Fwd} {xs : List Ltr} : (sentL fs xs).map Ltr.id = (xs.filter fun x => (follow fs x.code).2.2).map Ltr.id := by
  unfold sentL
  rw [List.map_map]
  rfl
theorem perm_of_ids {xs ys : List Ltr} (hx : okB xs = true) (hy : okB ys = true) (h : ∀ x, x ∈ xs ↔ x ∈ ys) : xs.Perm ys := by
  have key : ∀ {zs : List Ltr}, okB zs = true → zs.Nodup := fun {zs} hz => (okB_pw.1 hz).2.2.imp fun {a b} hab e => hab (by rw [e])
  exact (List.perm_ext_iff_of_nodup (key hx) (key hy)).2 h
theorem ids_all {d : Dy} {xs : List Ltr} (h : rdOk d xs = true) : ((allL (rptOf d xs)).map Ltr.id).Perm (xs.map Ltr.id) := by
  obtain ⟨_, e1, e2, e3, e4, h1, h2⟩ := dayRpt_eq h
  obtain ⟨⟨hp, hf, hh, hs⟩, hb⟩ := rdOk_iff.1 h
  have hpb := planOk_bins hp
  have hF : okB (freeL d.held (sentL d.fwds xs)) = true := okB_sub h2 List.filter_sublist
  unfold allL
  rw [e1, e2, e3, e4]
  obtain ⟨F, hFe⟩ : ∃ F, F = freeL d.held (sentL d.fwds xs) := ⟨_, rfl⟩
  rw [← hFe] at h1 hF ⊢
  have hR : (rpRound d.plan F ++ restOf (fun x => binI d.plan x.code 0) F).Perm F := by
    have hp1 : (rpRound d.plan F).Perm (F.filter fun x => decide (0 ≤ rkI d.plan.order x.code)) := perm_of_ids (okB_rp h1) (okB_sub hF List.filter_sublist) fun x => by
      rw [rp_mem h1, List.mem_filter, decide_eq_true_iff]
    have hp2 : restOf (fun x => binI d.plan x.code 0) F = F.filter fun x => !decide (0 ≤ rkI d.plan.order x.code) := by
      unfold restOf
      congr 1
      funext x
      have hb : binI d.plan x.code 0 < 0 ↔ rkI d.plan.order x.code < 0 := binI_rank hpb.1
      rw [← decide_not]
      refine decide_eq_decide.2 ?_
      show binI d.plan x.code 0 < 0 ↔ _
      omega
    rw [hp2]
    exact (hp1.append_right _).trans (filter_parts _ F)
  have hH : (F ++ heldL d.held (sentL d.fwds xs)).Perm (sentL d.fwds xs) := by
    rw [hFe]
    exact filter_parts _ _
  have hS : ((rpRound d.plan F ++ restOf (fun x => binI d.plan x.code 0) F ++ heldL d.held (sentL d.fwds xs)).map Ltr.id).Perm ((sentL d.fwds xs).map Ltr.id) := ((hR.append_right _).trans hH).map _
  rw [List.map_append]
  refine (hS.append_right _).trans ?_
  rw [ids_sent, ← List.map_append]
  exact (filter_parts _ _).map _
theorem nodup_ids {xs : List Ltr} : (xs.Pairwise fun x y => x.id ≠ y.id) ↔ (xs.map Ltr.id).Nodup := by
  unfold List.Nodup
  rw [List.pairwise_map]
theorem okB_all {d : Dy} {xs : List Ltr} (h : rdOk d xs = true) : okB (allL (rptOf d xs)) = true := by
  have hp := ids_all h
  obtain ⟨o1, o2, o3, o4⟩ := okB_parts h
  obtain ⟨h1, h2, h3⟩ := okB_pw.1 (rdOk_iff.1 h).2
  refine okB_pw.2 ⟨?_, ?_, ?_⟩
  · have := hp.length_eq
    rw [List.length_map, List.length_map] at this
    omega
  · intro x hx
    unfold allL at hx
    rcases List.mem_append.1 hx with hx | hx
    · rcases List.mem_append.1 hx with hx | hx
      · rcases List.mem_append.1 hx with hx | hx
        · exact (okB_pw.1 o1).2.1 x hx
        · exact (okB_pw.1 o2).2.1 x hx
      · exact (okB_pw.1 o3).2.1 x hx
    · exact (okB_pw.1 o4).2.1 x hx
  · rw [nodup_ids, hp.nodup_iff, ← nodup_ids]
    exact h3
theorem all_len {d : Dy} {xs : List Ltr} (h : rdOk d xs = true) : (allL (rptOf d xs)).length = xs.length := by
  have := (ids_all h).length_eq
  rwa [List.length_map, List.length_map] at this

end Go.Proofs.YtffbcfaahegglaaGreatDoor
