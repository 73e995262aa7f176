/- DD DF -/
import Derived.Test.YtmangjjaijhcnaaQ36
import Derived.Shelf.SlSortCmp.WholeK
import Derived.Test.YtmangjjaijhcnaaQ40
import Derived.Test.YtmangjjaijhcnaaQ32
import Derived.Test.YtmangjjaijhcnaaQ15
import Derived.Test.YtmangjjaijhcnaaQ31
namespace Go.Proofs.Ytmangjjaijhcnaa
open Go.RowKit

/-! ### Sorting again -/
theorem eq_of_filters {α : Type} (f : α → Int) : ∀ ys zs : List α, (ys.Pairwise fun x y => f x ≤ f y) → (zs.Pairwise fun x y => f x ≤ f y) →
    (∀ r : Int, ys.filter (fun x => f x == r) = zs.filter (fun x => f x == r)) → ys = zs
  | [], [], _, _, _ => rfl
  | [], z :: zs, _, _, h => by have := h (f z); simp at this
  | y :: ys, [], _, _, h => by have := h (f y); simp at this
  | y :: ys, z :: zs, h1, h2, h => by
    rw [List.pairwise_cons] at h1 h2
    have hyz : f y = f z := by
      by_cases e : f y = f z
      · exact e
      · exfalso
        have m1 : y ∈ (z :: zs).filter (fun x => f x == f y) := by rw [← h (f y)]; simp
        have m2 : z ∈ (y :: ys).filter (fun x => f x == f z) := by rw [h (f z)]; simp
        rcases List.mem_cons.1 (List.mem_filter.1 m1).1 with e1 | m1'
        · exact e (by rw [e1])
        rcases List.mem_cons.1 (List.mem_filter.1 m2).1 with e2 | m2'
        · exact e (by rw [e2])
        have := h2.1 _ m1'
        have := h1.1 _ m2'
        omega
    have h0 := h (f y)
    rw [List.filter_cons_of_pos (by simp), List.filter_cons_of_pos (by simp [hyz])] at h0
    injection h0 with e0 _
    subst e0
    rw [eq_of_filters f ys zs h1.2 h2.2 fun r => ?_]
    have hr := h r
    by_cases e : f y = r
    · rw [List.filter_cons_of_pos (by simp [e]), List.filter_cons_of_pos (by simp [e])] at hr
      injection hr
    · rwa [List.filter_cons_of_neg (by simp [e]), List.filter_cons_of_neg (by simp [e])] at hr
theorem filter_bins {f : Ltr → Int} {P : Ltr → Bool} {d : Nat} (hP : ∀ x, P x = true → f x = (d : Int)) (xs : List Ltr) : ∀ n : Nat,
    ((List.range n).map fun k : Nat => xs.filter fun x => f x == (k : Int)).flatten.filter P = if d < n then xs.filter P else []
  | 0 => by simp
  | n + 1 => by
    rw [List.range_succ, List.map_append, List.flatten_append, List.filter_append, filter_bins hP xs n]
    have h1 : (([n].map fun k : Nat => xs.filter fun x => f x == (k : Int)).flatten).filter P = if d = n then xs.filter P else [] := by
      simp only [List.map_cons, List.map_nil, List.flatten_cons, List.flatten_nil, List.append_nil, List.filter_filter]
      split
      · rename_i e
        subst e
        refine List.filter_congr fun x _ => ?_
        cases hp : P x
        · rfl
        · simp [hP x hp]
      · rename_i e
        rw [List.filter_eq_nil_iff]
        intro x _ hx
        rw [Bool.and_eq_true, beq_iff_eq] at hx
        have := hP x hx.1
        omega
    rw [h1]
    by_cases e1 : d < n
    · rw [if_pos e1, if_neg (by omega), if_pos (by omega), List.append_nil]
    · by_cases e2 : d = n
      · rw [if_neg e1, if_pos e2, if_pos (by omega), List.nil_append]
      · rw [if_neg e1, if_neg e2, if_neg (by omega), List.nil_append]
theorem pass1_filter {p : Pln} (hb : 2 ≤ p.bins) (k : Nat) (xs : List Ltr) (r : Int) (hr : 0 ≤ r) : (pass1 p k xs).filter (fun x => rkI p.order x.code == r) = xs.filter (fun x => rkI p.order x.code == r) := by
  have h1 := Int.emod_nonneg (r / powI p.bins k) (show p.bins ≠ 0 by omega)
  have h2 := Int.emod_lt_of_pos (r / powI p.bins k) (show 0 < p.bins by omega)
  unfold pass1 binsOf
  rw [filter_bins (d := (r / powI p.bins k % p.bins).toNat) (fun x hx => ?_), if_pos (by omega)]
  rw [beq_iff_eq] at hx
  rw [binI_pos (by omega), hx]
  omega
theorem passesN_filter {p : Pln} (hb : 2 ≤ p.bins) (r : Int) (hr : 0 ≤ r) : ∀ (n k : Nat) (xs : List Ltr), (passesN p k n xs).filter (fun x => rkI p.order x.code == r) = xs.filter (fun x => rkI p.order x.code == r)
  | 0, k, xs => rfl
  | n + 1, k, xs => by
    show (passesN p (k + 1) n (pass1 p k xs)).filter _ = _
    rw [passesN_filter hb r hr n, pass1_filter hb k xs r hr]
theorem again_round {p : Pln} {R S : List Ltr} (h : rpOk p (R ++ S) = true) (hb : 2 ≤ p.bins) (hR : inOrd p R) (hS : ∀ x ∈ S, rkI p.order x.code < 0) : rpRound p (R ++ S) = R := by
  have ho := rp_ord h
  have h1 := inOrd_iff.1 hR
  have h2 := inOrd_iff.1 ho
  refine eq_of_filters (fun x => rkI p.order x.code) _ _ h2.2 h1.2 fun r => ?_
  by_cases hr : 0 ≤ r
  · unfold rpRound
    rw [if_pos h, passesN_filter hb r hr, List.filter_append, show S.filter (fun x => rkI p.order x.code == r) = [] from List.filter_eq_nil_iff.2 fun x hx => ?_, List.append_nil]
    have := hS x hx
    simp only [beq_iff_eq]
    omega
  · rw [show (rpRound p (R ++ S)).filter (fun x => rkI p.order x.code == r) = [] from List.filter_eq_nil_iff.2 fun x hx => ?_, show R.filter (fun x => rkI p.order x.code == r) = [] from List.filter_eq_nil_iff.2 fun x hx => ?_]
    · have := h1.1 x hx
      simp only [beq_iff_eq]
      omega
    · have := h2.1 x hx
      simp only [beq_iff_eq]
      omega

/-! ### Direct orders -/
def dirL (fs : List Fwd) : List Fwd := (fs.filter fun x => (follow fs x.src).2.2).map fun x => ⟨x.src, (follow fs x.src).1⟩
theorem fwdI_neg_iff {fs : List Fwd} {c : ByteArray} : fwdI fs c < 0 ↔ ∀ x ∈ fs, x.src ≠ c := by
  constructor
  · intro h x hx
    exact sEq_false.1 (fiI_neg h x hx)
  · intro h
    unfold fwdI
    rw [fiI_none (p := fun x : Fwd => sEq x.src c) (xs := fs) fun j hj => sEq_false.2 (h _ (List.getElem_mem hj))]
    omega
theorem fwds_pw {fs : List Fwd} : fwdsOk fs = true ↔ fs.length ≤ 30 ∧ (∀ x ∈ fs, isCode x.src = true ∧ isCode x.dst = true) ∧ fs.Pairwise fun x y => x.src ≠ y.src := by
  rw [fwdsOk_iff, List.pairwise_iff_getElem]
  constructor
  · rintro ⟨h1, h2⟩
    refine ⟨h1, fun x hx => ?_, fun i j hi hj hij => (h2 j hj).2.2 i hij⟩
    obtain ⟨k, hk, rfl⟩ := List.getElem_of_mem hx
    exact ⟨(h2 k hk).1, (h2 k hk).2.1⟩
  · rintro ⟨h1, h2, h3⟩
    exact ⟨h1, fun k hk => ⟨(h2 _ (List.getElem_mem hk)).1, (h2 _ (List.getElem_mem hk)).2, fun j hj => h3 j k (by omega) hk hj⟩⟩
theorem fwdsOk_perm {fs gs : List Fwd} (h : fwdsOk fs = true) (hp : fs.Perm gs) : fwdsOk gs = true := by
  obtain ⟨h1, h2, h3⟩ := fwds_pw.1 h
  exact fwds_pw.2 ⟨by rw [← hp.length_eq]; exact h1, fun x hx => h2 x (hp.mem_iff.2 hx), hp.pairwise h3 (fun hab e => hab e.symm)⟩
theorem fwdsOk_dir {fs : List Fwd} (h : fwdsOk fs = true) : fwdsOk (dirL fs) = true := by
  obtain ⟨h1, h2, h3⟩ := fwds_pw.1 h
  unfold dirL
  refine fwds_pw.2 ⟨?_, ?_, ?_⟩
  · rw [List.length_map]
    exact Nat.le_trans (List.length_filter_le _ _) h1
  · intro y hy
    obtain ⟨x, hx, rfl⟩ := List.mem_map.1 hy
    obtain ⟨hx1, hx2⟩ := List.mem_filter.1 hx
    exact ⟨(h2 x hx1).1, (follow_end h (h2 x hx1).1 hx2).1⟩
  · rw [List.pairwise_map]
    exact (h3.sublist List.filter_sublist).imp fun h => h
theorem fwdTo_mem {fs : List Fwd} (h : fwdsOk fs = true) {x : Fwd} (hx : x ∈ fs) : 0 ≤ fwdI fs x.src ∧ fwdTo fs x.src = x.dst := by
  obtain ⟨k, hk, rfl⟩ := List.getElem_of_mem hx
  have : fwdI fs fs[k].src = k := fiI_at hk (fun j hj hjk => sEq_false.2 (((fwdsOk_iff.1 h).2 k hk).2.2 j hjk)) (sEq_iff.2 rfl)
  exact ⟨by omega, fwdTo_at this hk⟩
/-- Where direct orders lead. -/
theorem follow_dir {fs gs : List Fwd} (h : fwdsOk fs = true) (hp : gs.Perm (dirL fs)) (c : ByteArray) (hc : isCode c = true) :
    (follow gs c).2.2 = true ∧ ((follow fs c).2.2 = true → (follow gs c).1 = (follow fs c).1) := by
  have hg : fwdsOk gs = true := fwdsOk_perm (fwdsOk_dir h) hp.symm
  by_cases hs : ∃ x ∈ fs, x.src = c ∧ (follow fs c).2.2 = true
  · obtain ⟨x, hx, rfl, hf⟩ := hs
    have hm : (⟨x.src, (follow fs x.src).1⟩ : Fwd) ∈ gs := hp.mem_iff.2 (List.mem_map.2 ⟨x, List.mem_filter.2 ⟨hx, hf⟩, rfl⟩)
    obtain ⟨i0, i1⟩ := fwdTo_mem hg hm
    have hend := (follow_end h hc hf).2
    have hgn : fwdI gs (follow fs x.src).1 < 0 := fwdI_neg_iff.2 fun y hy => by
      obtain ⟨z, hz, rfl⟩ := List.mem_map.1 (hp.mem_iff.1 hy)
      exact fwdI_neg_iff.1 hend z (List.mem_filter.1 hz).1
    have hpos : 0 < gs.length := List.length_pos_of_mem hm
    obtain ⟨n, hn⟩ : ∃ n, gs.length = n + 1 := ⟨gs.length - 1, by omega⟩
    have e : follow gs x.src = ((follow fs x.src).1, 1, true) := by
      show followN gs (gs.length + 1) x.src 0 = _
      rw [hn]
      unfold followN
      rw [if_neg (Int.not_lt.2 i0), i1]
      unfold followN
      rw [if_pos hgn]
    rw [e]
    exact ⟨rfl, fun _ => rfl⟩
  · have hn : fwdI gs c < 0 := fwdI_neg_iff.2 fun y hy e => by
      obtain ⟨z, hz, rfl⟩ := List.mem_map.1 (hp.mem_iff.1 hy)
      obtain ⟨hz1, hz2⟩ := List.mem_filter.1 hz
      exact hs ⟨z, hz1, e, by rw [← e]; exact hz2⟩
    rw [follow_stop hn]
    refine ⟨rfl, fun hf => ?_⟩
    have : fwdI fs c < 0 := fwdI_neg_iff.2 fun x hx e => hs ⟨x, hx, e, hf⟩
    rw [follow_stop this]
theorem stuck_dir {fs gs : List Fwd} (h : fwdsOk fs = true) (hp : gs.Perm (dirL fs)) {xs : List Ltr} (hx : okB xs = true) : stuckL gs xs = [] := by
  unfold stuckL
  rw [List.filter_eq_nil_iff]
  intro x hm
  rw [(follow_dir h hp x.code ((okB_pw.1 hx).2.1 x hm).2.2).1]
  simp
theorem sent_stay {gs : List Fwd} : ∀ {xs : List Ltr}, (∀ x ∈ xs, follow gs x.code = (x.code, 0, true)) → sentL gs xs = xs
  | [], _ => rfl
  | x :: xs, h => by
    have ih := sent_stay (gs := gs) (xs := xs) fun y hy => h y (List.mem_cons_of_mem _ hy)
    have h0 := h x List.mem_cons_self
    unfold sentL at ih ⊢
    rw [List.filter_cons_of_pos (by rw [h0]), List.map_cons, ih, h0]
/-- Direct orders: the same day where no letter is stuck; letters of the report stay where they are. -/
theorem direct_day {d : Dy} {xs : List Ltr} (h : rdOk d xs = true) {gs : List Fwd} (hp : gs.Perm (dirL d.fwds)) :
    let r := rptOf d xs
    let d' : Dy := ⟨d.plan, gs, d.held, d.size⟩
    let free := r.round ++ r.strange ++ r.held
    rdOk d' free = true ∧ (rptOf d' free).round = r.round ∧ (rptOf d' free).stuck = [] ∧ (rptOf d' free).held.length = r.held.length ∧ (rptOf d' free).strange.length = r.strange.length ∧
    rdOk d' xs = true ∧ (r.stuck = [] → rptOf d' xs = r) := by
  intro r d' free
  obtain ⟨⟨a1, a2, a3, a4⟩, a5⟩ := rdOk_iff.1 h
  have hg : fwdsOk gs = true := fwdsOk_perm (fwdsOk_dir a2) hp.symm
  have hb : 2 ≤ d.plan.bins := (planOk_iff.1 a1).1.1
  have hall : okB (allL r) = true := okB_all h
  have hfree : okB free = true := okB_sub hall (List.sublist_append_left _ _)
  have hd : rdOk d' free = true := rdOk_iff.2 ⟨⟨a1, hg, a3, a4⟩, hfree⟩
  have hdx : rdOk d' xs = true := rdOk_iff.2 ⟨⟨a1, hg, a3, a4⟩, a5⟩
  obtain ⟨_, eh, es, er, et, hrp, hsn⟩ := dayRpt_eq h
  have hsub : ∀ x ∈ free, x ∈ sentL d.fwds xs := fun x hx => by
    rcases List.mem_append.1 hx with hx | hx
    · rcases List.mem_append.1 hx with hx | hx
      · rw [er] at hx
        exact (List.mem_filter.1 ((rp_mem hrp x).1 hx).1).1
      · rw [et] at hx
        exact (List.mem_filter.1 (List.mem_filter.1 hx).1).1
    · rw [eh] at hx
      exact (List.mem_filter.1 hx).1
  have hstay : ∀ x ∈ free, follow gs x.code = (x.code, 0, true) := fun x hx => by
    obtain ⟨y, hy, rfl⟩ := List.mem_map.1 (hsub x hx)
    obtain ⟨hy1, hy2⟩ := List.mem_filter.1 hy
    have hend := (follow_end a2 ((okB_pw.1 a5).2.1 y hy1).2.2 hy2).2
    refine follow_stop (fwdI_neg_iff.2 fun z hz => ?_)
    obtain ⟨u, hu, rfl⟩ := List.mem_map.1 (hp.mem_iff.1 hz)
    exact fwdI_neg_iff.1 hend u (List.mem_filter.1 hu).1
  have hsent : sentL gs free = free := sent_stay hstay
  have hfl : freeL d.held free = r.round ++ r.strange := by
    show (r.round ++ r.strange ++ r.held).filter _ = _
    rw [List.filter_append, List.filter_eq_self.2 fun x hx => ?_, List.filter_eq_nil_iff.2 fun x hx => ?_, List.append_nil]
    · rw [show r.held = _ from eh] at hx
      have := (List.mem_filter.1 hx).2
      simpa using this
    · rcases List.mem_append.1 hx with hx | hx
      · rw [show r.round = _ from er] at hx
        exact (List.mem_filter.1 ((rp_mem hrp x).1 hx).1).2
      · rw [show r.strange = _ from et] at hx
        exact (List.mem_filter.1 (List.mem_filter.1 hx).1).2
  have hhl : heldL d.held free = r.held := by
    show (r.round ++ r.strange ++ r.held).filter _ = _
    rw [List.filter_append, List.filter_eq_nil_iff.2 fun x hx => ?_, List.filter_eq_self.2 fun x hx => ?_, List.nil_append]
    · rw [show r.held = _ from eh] at hx
      exact (List.mem_filter.1 hx).2
    · have h1 : decide (rkI d.held x.code < 0) = true := by
        rcases List.mem_append.1 hx with hx | hx
        · rw [show r.round = _ from er] at hx
          exact (List.mem_filter.1 ((rp_mem hrp x).1 hx).1).2
        · rw [show r.strange = _ from et] at hx
          exact (List.mem_filter.1 (List.mem_filter.1 hx).1).2
      rw [h1]
      simp
  have hR : inOrd d.plan r.round := by rw [show r.round = _ from er]; exact rp_ord hrp
  have hS : ∀ x ∈ r.strange, rkI d.plan.order x.code < 0 := fun x hx => by
    rw [show r.strange = _ from et] at hx
    have := (List.mem_filter.1 hx).2
    rw [decide_eq_true_iff] at this
    exact (binI_rank hb).1 this
  obtain ⟨_, eh', es', er', et', hrp', _⟩ := dayRpt_eq hd
  change (rptOf d' free).held = heldL d.held (sentL gs free) at eh'
  change (rptOf d' free).stuck = stuckL gs free at es'
  change (rptOf d' free).round = rpRound d.plan (freeL d.held (sentL gs free)) at er'
  change (rptOf d' free).strange = restOf (fun x => binI d.plan x.code 0) (freeL d.held (sentL gs free)) at et'
  change rpOk d.plan (freeL d.held (sentL gs free)) = true at hrp'
  rw [hsent, hfl] at er' et' hrp'
  rw [hsent, hhl] at eh'
  have hround : (rptOf d' free).round = r.round := er'.trans (again_round hrp' hb hR hS)
  have hstrange : (rptOf d' free).strange = r.strange := by
    rw [et']
    unfold restOf
    rw [List.filter_append, List.filter_eq_nil_iff.2 fun x hx => ?_, List.filter_eq_self.2 fun x hx => ?_, List.nil_append]
    · rw [decide_eq_true_iff]
      exact (binI_rank hb).2 (hS x hx)
    · have := (inOrd_iff.1 hR).1 x hx
      rw [decide_eq_true_iff]
      intro hlt
      have := (binI_rank (k := 0) hb).1 hlt
      omega
  refine ⟨hd, hround, by rw [es', stuck_dir a2 hp hfree], by rw [eh'], by rw [hstrange], hdx, fun hst => ?_⟩
  have hns : ∀ x ∈ xs, (follow d.fwds x.code).2.2 = true := fun x hx => by
    rw [show r.stuck = _ from es] at hst
    have := List.filter_eq_nil_iff.1 hst x hx
    simpa using this
  have hse : sentL gs xs = sentL d.fwds xs := by
    unfold sentL
    rw [List.filter_eq_self.2 fun x hx => (follow_dir a2 hp x.code ((okB_pw.1 a5).2.1 x hx).2.2).1, List.filter_eq_self.2 fun x hx => hns x hx]
    refine List.map_congr_left fun x hx => ?_
    rw [(follow_dir a2 hp x.code ((okB_pw.1 a5).2.1 x hx).2.2).2 (hns x hx)]
  obtain ⟨_, eh2, es2, er2, et2, _, _⟩ := dayRpt_eq hdx
  change (rptOf d' xs).held = heldL d.held (sentL gs xs) at eh2
  change (rptOf d' xs).stuck = stuckL gs xs at es2
  change (rptOf d' xs).round = rpRound d.plan (freeL d.held (sentL gs xs)) at er2
  change (rptOf d' xs).strange = restOf (fun x => binI d.plan x.code 0) (freeL d.held (sentL gs xs)) at et2
  rw [hse] at eh2 er2 et2
  rw [stuck_dir a2 hp a5] at es2
  have b1 : (rptOf d' xs).held = r.held := eh2.trans eh.symm
  have b2 : (rptOf d' xs).round = r.round := er2.trans er.symm
  have b3 : (rptOf d' xs).strange = r.strange := et2.trans et.symm
  have b4 : (rptOf d' xs).stuck = r.stuck := es2.trans hst.symm
  show rptOf d' xs = r
  generalize rptOf d' xs = z at b1 b2 b3 b4
  obtain ⟨z1, z2, z3, z4⟩ := z
  generalize r = r' at b1 b2 b3 b4
  obtain ⟨r1, r2, r3, r4⟩ := r'
  simp only at b1 b2 b3 b4
  rw [b1, b2, b3, b4]

end Go.Proofs.Ytmangjjaijhcnaa

namespace Go.Proofs.Ytmangjjaijhcnaa
open Go.RowKit

theorem cmp_DF (x y : Fwd) (W : World) : Calls Try.prog 60 #[.agg #[.string x.src, .string x.dst], .agg #[.string y.src, .string y.dst]] W fun e w' => e = .returned (.int .i64 (Lib.compareBytes x.src.data.toList y.src.data.toList)) ∧ ∃ q os', w' = Sort.grow (W.drewN q) os' := by
  have hcon := fun W' => Any.strings_Compare Try.laysCmp x.src y.src W'
  change ∀ W', Calls Try.prog 61 _ _ _ at hcon
  generalize Lib.compareBytes x.src.data.toList y.src.data.toList = r at hcon ⊢
  go_enter Try.func60, Try.ntmps60
  go_wp2_with (go_at_call 61; refine (hcon _).mono ?_; rintro e w' ⟨rfl, rfl⟩)
  go_ret
  exact ⟨rfl, 0, _, by rw [Go.Sort.alloc_eq_grow, Go.Sort.alloc_eq_grow, Go.Sort.grow_grow]; rfl⟩
theorem ins_none (fv : Value) (w : World) : Calls Try.prog 149 #[.slice none 0 0, .int .i64 0, .int .i64 0, fv] w fun e w' => e = .returned (.tuple #[]) ∧ w' = w := by
  go_enter Try.func149, Try.ntmps149
  go_wp2
  refine wp_loop_rounds 1 ?_
  rw [rounds_succ]
  go_wp2
  go_end0
  exact ⟨rfl, rfl⟩
set_option maxHeartbeats 2000000 in
theorem pdq_none (lim : Int) (fv : Value) (w : World) : Calls Try.prog 109 #[.slice none 0 0, .int .i64 0, .int .i64 0, .int .i64 lim, fv] w fun e w' => e = .returned (.tuple #[]) ∧ w' = w := by
  go_enter Try.func109, Try.ntmps109
  go_wp2
  refine wp_loop_rounds 1 ?_
  rw [rounds_succ]
  go_wp2_with (go_at_call 149; refine (ins_none _ _).mono ?_; rintro e w' ⟨rfl, rfl⟩)
  (try simp only [Exit.inBlock, Exit.then])
  refine bodyPost_ret (results_none rfl _ _ _) rfl ?_
  exact ⟨rfl, rfl⟩
theorem sort_none (fv : Value) (w : World) : Calls Try.prog 59 #[.slice none 0 0, fv] w fun e w' => e = .returned (.tuple #[]) ∧ w' = w := by
  have hl : ∀ W, Calls Try.prog 110 #[.int .u64 0] W fun e w' => e = .returned (.int .i64 (Lib.bitLen 0 : Nat)) ∧ w' = W := fun W => by
    have h := Any.bits_Len (SlLaysF0.n15.bits (P := Try.prog) (ρ := Try.laysSF_ren) { Try.laysSF with }) 0 W (by omega) (by omega)
    exact h
  go_enter Try.func59, Try.ntmps59
  go_wp2_with (first | (go_at_call 110; refine (hl _).mono ?_; rintro e w' ⟨rfl, rfl⟩) | (go_at_call 109; refine (pdq_none _ _ _).mono ?_; rintro e w' ⟨rfl, rfl⟩))
  go_end0
  exact ⟨rfl, rfl⟩
theorem sort_F (T base : Nat) (v : Value) (xs : List Fwd) (w : World) (hv : own T base w v xs) (hl : xs.length ≤ 1048576) :
    Calls Try.prog 59 #[v, .func (.func 60) #[] #[]] w fun e w' => e = .returned (.tuple #[]) ∧ (∃ ys, ys.Perm xs ∧ own T base w' v ys) ∧ w.grownBy w' v.ownBlock := by
  rcases hv.form with ⟨rfl, rfl⟩ | ⟨g, c, rfl, hg, hgl, hc, hm⟩
  · refine (sort_none (.func (.func 60) #[] #[]) w).mono ?_
    rintro e w' ⟨rfl, rfl⟩
    exact ⟨rfl, ⟨[], List.Perm.refl _, hv⟩, World.grownBy.refl _ _⟩
  · have eg : ∀ args w, (callFunc 60 args).run Try.prog w = .ok (.enter 60 args) w := enters_of Try.func60 (by kernel_rfl) rfl
    have hc := AnyQ.slices_SortFunc Try.laysSF 2 Try.isAgg90 Try.sizeOf90 Fwd.cells (fun _ => rfl) (fun x v hv => by simp [Fwd.cells] at hv; rcases hv with rfl | rfl <;> rfl) (fun x y : Fwd => Lib.compareBytes x.src.data.toList y.src.data.toList) (swo_code Fwd.src) 60 #[] g 0 c xs.toArray w eg (fun _ _ _ _ x y => cmp_DF x y _) (own_holdsF hv) hgl (by simp; omega)
    refine Calls.mono hc ?_
    rintro e w' ⟨rfl, d', n, os, hp, _, rfl⟩
    have hp' := perm_of_in hp
    obtain ⟨h1, h2⟩ := sorted_ownF (q := n) (os := os) hv hp'
    exact ⟨rfl, ⟨_, hp', h1⟩, h2⟩

/-! ### Direct orders, step by step -/
def dirT (fs ys : List Fwd) : List Fwd := (ys.filter fun x => (follow fs x.src).2.2).map fun x => ⟨x.src, (follow fs x.src).1⟩
theorem dirT_all (fs : List Fwd) : dirT fs fs = dirL fs := rfl
theorem dirT_hit {fs ys : List Fwd} {k : Nat} (h : k < ys.length) (hf : (follow fs ys[k].src).2.2 = true) : dirT fs (ys.take (k + 1)) = dirT fs (ys.take k) ++ [⟨ys[k].src, (follow fs ys[k].src).1⟩] := by
  unfold dirT
  rw [List.take_succ_eq_append_getElem h, List.filter_append, List.map_append]
  simp [hf]
theorem dirT_miss {fs ys : List Fwd} {k : Nat} (h : k < ys.length) (hf : (follow fs ys[k].src).2.2 = false) : dirT fs (ys.take (k + 1)) = dirT fs (ys.take k) := by
  unfold dirT
  rw [List.take_succ_eq_append_getElem h, List.filter_append, List.map_append]
  simp [hf]
theorem dirT_len (fs ys : List Fwd) (k : Nat) : (dirT fs (ys.take k)).length ≤ ys.length := by
  unfold dirT
  rw [List.length_map]
  exact Nat.le_trans (List.length_filter_le _ _) (by rw [List.length_take]; omega)

set_option maxRecDepth 100000 in
set_option maxHeartbeats 1600000 in
theorem impl_DirectForwards (v : Value) (fs : List Fwd) (w : World) (hv : rd w w.heap.size v fs) (hok : fwdsOk fs = true) :
    Calls Try.prog 14 #[v] w fun e w' => ∃ v' gs, e = .returned v' ∧ own 90 w.heap.size w' v' gs ∧ gs.Perm (dirL fs) ∧ Below w.heap.size w w' := by
  have HV := Lib.hid hv
  obtain ⟨A, n, c, rfl, hn, hc, hm, hr⟩ := hv
  subst hn
  unfold maxLen at hm
  have HR := Lib.hid hr; clear hr
  have l0 := Below.refl w.heap.size w
  have H1 := Lib.hid hok
  have hfl := (fwdsOk_iff.1 hok).1
  clear hok
  obtain ⟨i1, ji, jz0, jz1, jz2⟩ := info_parts Try.infoFwd
  go_enter Try.func14, Try.ntmps14
  go_wp2_with fail
  refine (impl_ForwardsValid _ fs _ HV.out).mono ?_
  rw [H1.out]
  rintro e w1 ⟨rfl, b1⟩
  have l1 := later_trans l0 b1
  clear b1
  go_wp2_with fail
  go_loopw [3, 14] (fun a i wr => ∃ k : Nat, k ≤ fs.length ∧ i = .int .i64 k ∧ Below w.heap.size w wr ∧ own 90 w.heap.size wr a (dirT fs (fs.take k))) (fun _ i _ => fs.length - (intOf i).toNat)
  case atStart => exact ⟨0, Nat.zero_le _, rfl, l1, own.nil_ _ _ _⟩
  case round =>
    obtain ⟨k, hk, rfl, lr, hA⟩ := hrel
    obtain ⟨w3, rfl⟩ : ∃ w3 : World, w3 = wr := ⟨_, rfl⟩
    clear l0 l1
    by_cases hlt : k < fs.length
    · obtain ⟨b, o, rfl, hb, ⟨hxs, hxd⟩, c1, c2⟩ := HR.out.fwdU k hlt
      have HHIT := Lib.hid (dirT_hit (fs := fs) hlt); have HMISS := Lib.hid (dirT_miss (fs := fs) hlt)
      have HL1 := Lib.hid (dirT_len fs fs k)
      have hto : (follow fs fs[k].src).1.size ≤ maxLen := follow_len H1.out hxs
      generalize fs[k] = x at *
      generalize dirT fs (fs.take k) = sa at *
      obtain ⟨AA, mA, cA, rfl, hmA, _, _, _⟩ := hA.rd
      subst hmA
      have HA := Lib.hid hA
      clear hA
      have hl1 := HL1.out
      obtain ⟨to, HTO⟩ : ∃ z, Hid ((follow fs x.src).1 = z) := ⟨_, rfl⟩
      obtain ⟨nn, HNN⟩ : ∃ z, Hid ((follow fs x.src).2.1 = z) := ⟨_, rfl⟩
      rw [HTO.out] at hto HHIT
      have hki : (k : Int) < (fs.length : Int) := by omega
      obtain ⟨wl, hwl⟩ : ∃ wl : World, wl = w3.alloc (Obj.cells #[.string x.src, .string x.dst] 90) := ⟨_, rfl⟩
      have y0 := box_cells hwl 0 (.string x.src) rfl
      have y1 := box_cells hwl 1 (.string x.dst) rfl
      have ll := later_trans lr (box_later hwl).1
      have BL := Lib.hid (box_later hwl).1
      have HWL2 := Lib.hid hwl; clear hwl
      go_wp2_with fail
      rw [← HWL2.out]
      refine (impl_followOrders _ fs x.src _ (HV.out.on ll) hxs (by omega)).mono ?_
      rw [HTO.out, HNN.out]
      cases hf : (follow fs x.src).2.2
      · rintro e w4 ⟨rfl, b4⟩
        have l4 := later_trans ll b4
        have m4 := later_trans (Below.refl wl.heap.size wl) b4
        have B4 := BL.out.trans (m4.mono BL.out.size)
        have HA4 := Lib.hid (HA.out.below B4)
        have HS1 := Lib.hid (HMISS.out hf)
        clear b4 B4 hf
        go_wp2_with fail
        go_roundw
        case rel => exact ⟨k + 1, by omega, by go_num, l4, by rw [HS1.out]; exact HA4.out⟩
        case measure => simp [intOf]; omega
      · rintro e w4 ⟨rfl, b4⟩
        have l4 := later_trans ll b4
        have m4 := later_trans (Below.refl wl.heap.size wl) b4
        have B4 := BL.out.trans (m4.mono BL.out.size)
        have HA4 := Lib.hid (HA.out.below B4)
        have HS1 := Lib.hid (HHIT.out hf)
        have hs4 : w.heap.size ≤ w4.heap.size := l4.size
        clear b4 B4 hf
        obtain ⟨y, hy⟩ : ∃ y : Fwd, y = ⟨x.src, to⟩ := ⟨_, rfl⟩
        have hy1 : x.src = y.src := by rw [hy]
        have hy2 : to = y.dst := by rw [hy]
        rw [← hy] at HS1
        rw [hy1] at y0 hxs
        rw [hy2] at hto
        rw [hy2]
        clear hy hy1 hy2
        go_wp2_with (at_builtin; refine wpList_append1' (α := Fwd) rfl (.tmp 27) (.tmp 32) 26 rfl w.heap.size 90 i1 _ 32 Try.underlying26 ji jz0 jz1 jz2 rfl (by decide) (.slice AA sa.length cA) sa y rfl (HA4.out.alloc _) ⟨w4.heap.size, 0, none⟩ 1 (Fwd.cells y) rfl ⟨⟨hxs, hto⟩, rfl⟩ (news_at w4 _ (Fwd.cells y)) (by unfold maxLen; omega) (by omega) (by simp; omega) ?_; intro g cap w5 ho5 hg5 ha5 hl5)
        have l5 : Below w.heap.size w w5 := (later_alloc l4 (Obj.cells #[Value.string y.src, Value.string y.dst] 90)).grown hg5 (by simp; omega) fun q hq => (HA4.out.blk q hq).1
        go_wp2
        go_roundw
        case rel => exact ⟨k + 1, by omega, by go_num, l5, by rw [HS1.out]; exact ho5⟩
        case measure => simp [intOf]; omega
    · have HE := Lib.hid (show k = fs.length by omega)
      rw [HE.out, List.take_length, dirT_all] at hA
      have HL : Hid ((dirL fs).length ≤ 1048576) := by
        show _ ≤ _
        have := dirT_len fs fs fs.length
        rw [List.take_length, dirT_all] at this
        omega
      obtain ⟨D, hD⟩ : ∃ D, D = dirL fs := ⟨_, rfl⟩
      rw [← hD] at hA HL
      have HDD := Lib.hid hD
      clear hD
      have HA := Lib.hid hA
      clear hA
      go_wp2_with fail
      refine (sort_F _ _ _ D _ HA.out HL.out).mono ?_
      rintro e w4 ⟨rfl, ⟨gs, hp, o4⟩, g4⟩
      have l4 : Below w.heap.size w w4 := lr.grown g4 lr.size (fun q hq => (HA.out.blk q hq).1)
      have HP := Lib.hid hp; clear hp
      go_wp2_with fail
      go_ret
      exact ⟨_, gs, rfl, o4, by rw [← HDD.out]; exact HP.out, l4⟩

end Go.Proofs.Ytmangjjaijhcnaa
