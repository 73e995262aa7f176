/- UR UR2 BN -/
import Derived.Test.YtpinkbodbedajaaGreatDoorQ14
import Derived.Test.YtpinkbodbedajaaGreatDoorQ15
import Derived.Test.YtpinkbodbedajaaGreatDoorQ9
import Derived.Test.YtpinkbodbedajaaGreatDoorQ11
import Derived.Test.YtpinkbodbedajaaGreatDoorQ3
namespace Go.Proofs.YtpinkbodbedajaaGreatDoor
open Go.RowKit


def rptN (r : Rpt) : Nat := 2 * r.round.length + 2 * r.strange.length + 2 * r.held.length + 2 * r.stuck.length
def marksR (k : Nat) (r : Rpt) : Rpt :=
  ⟨marksL k r.round.length, marksL (k + 2 * r.round.length) r.strange.length, marksL (k + 2 * r.round.length + 2 * r.strange.length) r.held.length, marksL (k + 2 * r.round.length + 2 * r.strange.length + 2 * r.held.length) r.stuck.length⟩
def rpt60 (r : Rpt) : Prop := r.round.length ≤ 60 ∧ r.strange.length ≤ 60 ∧ r.held.length ≤ 60 ∧ r.stuck.length ≤ 60
theorem seg.grown {α : Type} [Flat α] {T lo hi : Nat} {w w' : World} {v : Value} {xs : List α} {row : Option Nat} (h : seg T lo hi w v xs) (hg : w.grownBy w' row) (hv : v.ownBlock = none ∨ v.ownBlock ≠ row) : seg T lo hi w' v xs := ⟨h.1.grown hg hv, h.2⟩


/-! ### Marks of a day -/
def segD (T1 T2 lo hi : Nat) (w : World) (v : Value) (d : Dy) : Prop :=
  ∃ vo vf vh, v = .agg #[.int .i64 d.plan.bins, .int .i64 d.plan.passes, vo, vf, vh, .int .i64 d.size] ∧ isI64 d.plan.bins ∧ isI64 d.plan.passes ∧ isI64 d.size ∧ seg T1 lo hi w vo d.plan.order ∧ seg T2 lo hi w vf d.fwds ∧ seg T1 lo hi w vh d.held ∧ (apart vo vf ∧ apart vo vh ∧ apart vf vh)
theorem segD.of {T1 T2 lo : Nat} {w : World} {v : Value} {d : Dy} (h : ownD T1 T2 lo w v d) : segD T1 T2 lo w.heap.size w v d := by
  obtain ⟨vo, vf, vh, h1, h2, h3, h4, h5, h6, h7, h8⟩ := h
  exact ⟨vo, vf, vh, h1, h2, h3, h4, seg.of h5, seg.of h6, seg.of h7, h8⟩
theorem segD.below {T1 T2 lo hi : Nat} {w w' : World} {v : Value} {d : Dy} (h : segD T1 T2 lo hi w v d) (hb : Below w.heap.size w w') : segD T1 T2 lo hi w' v d := by
  obtain ⟨vo, vf, vh, h1, h2, h3, h4, h5, h6, h7, h8⟩ := h
  exact ⟨vo, vf, vh, h1, h2, h3, h4, h5.below hb, h6.below hb, h7.below hb, h8⟩
theorem segD.out {T1 T2 lo hi a b : Nat} {w w' : World} {v : Value} {d : Dy} (h : segD T1 T2 lo hi w v d) (ho : OutI a b w w') (hd : hi ≤ a ∨ b ≤ lo) : segD T1 T2 lo hi w' v d := by
  obtain ⟨vo, vf, vh, h1, h2, h3, h4, h5, h6, h7, h8⟩ := h
  exact ⟨vo, vf, vh, h1, h2, h3, h4, h5.out ho hd, h6.out ho hd, h7.out ho hd, h8⟩
theorem segD.rd {T1 T2 lo hi : Nat} {w : World} {v : Value} {d : Dy} (h : segD T1 T2 lo hi w v d) : rdD w w.heap.size v d := by
  obtain ⟨vo, vf, vh, h1, h2, h3, h4, h5, h6, h7, h8⟩ := h
  exact ⟨vo, vf, vh, h1, h2, h3, h4, h5.rd, h6.rd, h7.rd⟩
def mkD (d : Dy) : Nat := d.plan.order.length + 2 * d.fwds.length + d.held.length
theorem mkD_le (d : Dy) : mkD d ≤ 2 * szD d := by unfold mkD szD szP; omega


end Go.Proofs.YtpinkbodbedajaaGreatDoor

namespace Go.Proofs.YtpinkbodbedajaaGreatDoor
open Go.RowKit
theorem impl_RunDay' (v vb : Value) (d : Dy) (xs : List Ltr) (w : World) (hv : rdD w w.heap.size v d) (hb : rd w w.heap.size vb xs) :
    Calls Tryz.prog 8 #[v, vb] w fun e w' => ∃ vR, e = .returned (.tuple #[vR, .bool (rdOk d xs)]) ∧ ownR 89 w.heap.size w' vR (rptOf d xs) ∧ Below w.heap.size w w' := impl_RunDay v vb d xs w hv hb
theorem spec_RunDay' (v vb : Value) (d : Dy) (xs : List Ltr) (w : World) (hv : rdD w w.heap.size v d) (hb : rd w w.heap.size vb xs) :
    Calls Tryz.prog 9 #[v, vb] w fun e w' => ∃ vR, e = .returned (.tuple #[vR, .bool (rdOk d xs)]) ∧ ownR 89 w.heap.size w' vR (rptOf d xs) ∧ Below w.heap.size w w' := spec_RunDay v vb d xs w hv hb

end Go.Proofs.YtpinkbodbedajaaGreatDoor

namespace Go.Proofs.YtpinkbodbedajaaGreatDoor
open Go.RowKit

/-! ### The missort of a letter: the first one is the last one. -/
theorem misOk_iff {p : Pln} {ms : List Mis} : misOk p ms = true ↔ planOk p = true ∧ ms.length ≤ 60 ∧ ∀ j, j < ms.length → goodM p.bins ms j = true := by
  unfold misOk
  simp only [Bool.and_eq_true, decide_eq_true_iff, List.all_eq_true, List.mem_range]
  constructor
  · rintro ⟨⟨h1, h2⟩, h3⟩; exact ⟨h1, h2, h3⟩
  · rintro ⟨h1, h2, h3⟩; exact ⟨⟨h1, h2⟩, h3⟩
theorem misOk_good' {p : Pln} {ms : List Mis} (h : misOk p ms = true) : ∀ m ∈ ms, 0 ≤ m.bin ∧ m.bin < p.bins := by
  intro m hm
  obtain ⟨k, hk, rfl⟩ := List.getElem_of_mem hm
  have h1 := (misOk_iff.1 h).2.2 k hk
  rw [goodM_of hk] at h1
  simp only [Bool.and_eq_true, decide_eq_true_iff] at h1
  exact h1.1.2
theorem misOk_ids {p : Pln} {ms : List Mis} (h : misOk p ms = true) : ∀ j k (hj : j < ms.length) (hk : k < ms.length), j < k → ms[j].id ≠ ms[k].id := by
  intro j k hj hk hjk
  have h1 := (misOk_iff.1 h).2.2 k hk
  rw [goodM_of hk] at h1
  simp only [Bool.and_eq_true, List.all_eq_true] at h1
  have := h1.2 ms[j] (by rw [List.mem_take_iff_getElem]; exact ⟨j, by omega, rfl⟩)
  simpa using this
/-- What the first missort of a letter tells. -/
def misFirst (ms : List Mis) (x : Ltr) (b : Int) : Int := if h : 0 ≤ ixI ms x.id ∧ (ixI ms x.id).toNat < ms.length then ms[(ixI ms x.id).toNat].bin else b
theorem misBin_none {ms : List Mis} {x : Ltr} (h : ∀ m ∈ ms, m.id ≠ x.id) (b : Int) : misBin ms x b = b := by
  unfold misBin
  induction ms generalizing b with
  | nil => rfl
  | cons m ms ih =>
    rw [List.foldl_cons, if_neg (h m (by simp))]
    exact ih (fun m' hm' => h m' (by simp [hm'])) b
theorem misBin_append (ms ns : List Mis) (x : Ltr) (b : Int) : misBin (ms ++ ns) x b = misBin ns x (misBin ms x b) := by unfold misBin; rw [List.foldl_append]
theorem ixI_cases (ms : List Mis) (c : Int) : (ixI ms c = -1 ∧ ∀ m ∈ ms, m.id ≠ c) ∨ ∃ k : Nat, ∃ hk : k < ms.length, ixI ms c = k ∧ ms[k].id = c := by
  unfold ixI
  by_cases h : ms.findIdx (fun y => y.id == c) < ms.length
  · rw [if_pos h]
    refine .inr ⟨_, h, rfl, ?_⟩
    have := List.findIdx_getElem (w := h)
    simpa using this
  · rw [if_neg h]
    refine .inl ⟨rfl, fun m hm e => h ?_⟩
    exact List.findIdx_lt_length.2 ⟨m, hm, by simp [e]⟩
theorem misBin_hit {ms : List Mis} {x : Ltr} {k : Nat} (hk : k < ms.length) (he : ms[k].id = x.id) (hd : ∀ j l (hj : j < ms.length) (hl : l < ms.length), j < l → ms[j].id ≠ ms[l].id) (b : Int) : misBin ms x b = ms[k].bin := by
  have e : ms = ms.take k ++ ms[k] :: ms.drop (k + 1) := by
    conv => lhs; rw [← List.take_append_drop k ms, List.drop_eq_getElem_cons hk]
  refine (congrArg (fun l => misBin l x b) e).trans ?_
  show misBin (ms.take k ++ ms[k] :: ms.drop (k + 1)) x b = _
  rw [misBin_append]
  unfold misBin
  rw [List.foldl_cons, if_pos he]
  have h2 : ∀ m ∈ ms.drop (k + 1), m.id ≠ x.id := fun m hm => by
    obtain ⟨i, hi, rfl⟩ := List.getElem_of_mem hm
    rw [List.length_drop] at hi
    rw [List.getElem_drop, ← he]
    exact Ne.symm (hd k (k + 1 + i) hk (by omega) (by omega))
  have := misBin_none h2 ms[k].bin
  unfold misBin at this
  exact this

/-! ### Valid batches -/
theorem okB_pw {xs : List Ltr} : okB xs = true ↔ xs.length ≤ 60 ∧ (∀ x ∈ xs, 1 ≤ x.id ∧ x.id ≤ 9999 ∧ isCode x.code = true) ∧ xs.Pairwise fun x y => x.id ≠ y.id := by
  rw [okB_iff, List.pairwise_iff_getElem]
  constructor
  · rintro ⟨h1, h2⟩
    refine ⟨h1, fun x hx => ?_, fun i j hi hj hij => (h2 j hj).2.2.2 i hij⟩
    obtain ⟨k, hk, rfl⟩ := List.getElem_of_mem hx
    exact ⟨(h2 k hk).1, (h2 k hk).2.1, (h2 k hk).2.2.1⟩
  · rintro ⟨h1, h2, h3⟩
    exact ⟨h1, fun k hk => ⟨(h2 _ (List.getElem_mem hk)).1, (h2 _ (List.getElem_mem hk)).2.1, (h2 _ (List.getElem_mem hk)).2.2, fun j hj => h3 j k (by omega) hk hj⟩⟩
theorem pw_inj {xs : List Ltr} (h : xs.Pairwise fun x y => x.id ≠ y.id) : ∀ x ∈ xs, ∀ y ∈ xs, x.id = y.id → x = y := by
  intro x hx y hy e
  obtain ⟨i, hi, rfl⟩ := List.getElem_of_mem hx
  obtain ⟨j, hj, rfl⟩ := List.getElem_of_mem hy
  rw [List.pairwise_iff_getElem] at h
  rcases Nat.lt_trichotomy i j with h1 | h1 | h1
  · exact absurd e (h i j hi hj h1)
  · subst h1; rfl
  · exact absurd e.symm (h j i hj hi h1)
/-- Rows that a function on letters tells apart. -/
theorem okB_rows {xs : List Ltr} {xss : List (List Ltr)} (f : Ltr → Int) (h : okB xs = true) (hl : xss.flatten.length ≤ xs.length) (hm : ∀ ys ∈ xss, ∀ x ∈ ys, x ∈ xs) (hp : ∀ ys ∈ xss, ys.Pairwise fun x y => x.id ≠ y.id)
    (hf : ∀ k (hk : k < xss.length), ∀ x ∈ xss[k], f x = (k : Int)) : okB xss.flatten = true := by
  obtain ⟨h1, h2, h3⟩ := okB_pw.1 h
  refine okB_pw.2 ⟨by omega, fun x hx => ?_, ?_⟩
  · obtain ⟨ys, hys, hxy⟩ := List.mem_flatten.1 hx
    exact h2 x (hm ys hys x hxy)
  · rw [List.pairwise_flatten]
    refine ⟨hp, ?_⟩
    rw [List.pairwise_iff_getElem]
    intro i j hi hj hij x hx y hy e
    have := pw_inj h3 x (hm _ (List.getElem_mem hi) x hx) y (hm _ (List.getElem_mem hj) y hy) e
    subst this
    have h4 := hf i hi x hx
    have h5 := hf j hj x hy
    omega
theorem okB_binsOf {xs : List Ltr} (f : Ltr → Int) (n : Nat) (h : okB xs = true) : okB (binsOf f n xs).flatten = true := by
  refine okB_rows f h (flatten_length_binsOf xs) (fun ys hys x hx => ?_) (fun ys hys => ?_) (fun k hk x hx => ?_)
  · obtain ⟨k, hk, rfl⟩ := List.getElem_of_mem hys
    rw [binsOf_get] at hx
    exact (List.mem_filter.1 hx).1
  · obtain ⟨k, hk, rfl⟩ := List.getElem_of_mem hys
    rw [binsOf_get]
    exact (okB_pw.1 h).2.2.filter _
  · rw [binsOf_get] at hx
    simpa using (List.mem_filter.1 hx).2
theorem okB_passesN (p : Pln) : ∀ (n k : Nat) (xs : List Ltr), okB xs = true → okB (passesN p k n xs) = true
  | 0, _, _, h => h
  | n + 1, k, xs, h => okB_passesN p n (k + 1) _ (okB_binsOf _ _ h)

/-! ### Repaired bins -/
def wlRow (f : Ltr → Int) (i : Nat) (ys : List Ltr) : List Ltr := ys.filter fun x => f x != (i : Int)
def kpRow (f : Ltr → Int) (i : Nat) (ys : List Ltr) : List Ltr := ys.filter fun x => f x == (i : Int)
def wlTo (f : Ltr → Int) (xss : List (List Ltr)) (n : Nat) : List Ltr := (List.range n).flatMap fun i => wlRow f i (xss.getD i [])
def keptTo (f : Ltr → Int) (xss : List (List Ltr)) (j : Nat) : List (List Ltr) := (List.range xss.length).map fun k => if k < j then kpRow f k (xss.getD k []) else []
def addTo (f : Ltr → Int) (base : List (List Ltr)) (zs : List Ltr) : List (List Ltr) := (List.range base.length).map fun k => base.getD k [] ++ kpRow f k zs
theorem keptTo_len (f : Ltr → Int) (xss : List (List Ltr)) (j : Nat) : (keptTo f xss j).length = xss.length := by simp [keptTo]
theorem addTo_len (f : Ltr → Int) (base : List (List Ltr)) (zs : List Ltr) : (addTo f base zs).length = base.length := by simp [addTo]
theorem keptTo_get (f : Ltr → Int) (xss : List (List Ltr)) (j k : Nat) (h : k < (keptTo f xss j).length) : (keptTo f xss j)[k] = if k < j then kpRow f k (xss.getD k []) else [] := by simp [keptTo]
theorem addTo_get (f : Ltr → Int) (base : List (List Ltr)) (zs : List Ltr) (k : Nat) (h : k < (addTo f base zs).length) (h' : k < base.length) : (addTo f base zs)[k] = base[k] ++ kpRow f k zs := by
  simp [addTo, h']
theorem keptTo_nil (f : Ltr → Int) (xss : List (List Ltr)) : keptTo f xss 0 = List.replicate xss.length [] := by
  apply List.ext_getElem
  · simp [keptTo]
  · intro i h1 h2; simp [keptTo]
theorem keptTo_start {f : Ltr → Int} {xss : List (List Ltr)} {j : Nat} (h : j < xss.length) : (keptTo f xss j).set j (kpRow f j []) = keptTo f xss j := by
  apply List.ext_getElem
  · simp
  · intro i h1 h2
    rw [List.getElem_set]
    split
    · rename_i e; subst e; rw [keptTo_get, if_neg (Nat.lt_irrefl _)]; rfl
    · rfl
theorem keptTo_done {f : Ltr → Int} {xss : List (List Ltr)} {j : Nat} (h : j < xss.length) : (keptTo f xss j).set j (kpRow f j xss[j]) = keptTo f xss (j + 1) := by
  apply List.ext_getElem
  · simp [keptTo_len]
  · intro i h1 h2
    rw [List.getElem_set]
    split
    · rename_i e; subst e; rw [keptTo_get, if_pos (by omega)]; simp [h]
    · rw [keptTo_get, keptTo_get]
      by_cases hi : i < j
      · rw [if_pos hi, if_pos (by omega)]
      · rw [if_neg hi, if_neg (by omega)]
theorem kpRow_hit {f : Ltr → Int} {i : Nat} {ys : List Ltr} {m : Nat} (h : m < ys.length) (hf : f ys[m] = (i : Int)) : kpRow f i (ys.take (m + 1)) = kpRow f i (ys.take m) ++ [ys[m]] := by
  unfold kpRow; rw [List.take_succ_eq_append_getElem h, List.filter_append]; simp [hf]
theorem kpRow_miss {f : Ltr → Int} {i : Nat} {ys : List Ltr} {m : Nat} (h : m < ys.length) (hf : f ys[m] ≠ (i : Int)) : kpRow f i (ys.take (m + 1)) = kpRow f i (ys.take m) := by
  unfold kpRow; rw [List.take_succ_eq_append_getElem h, List.filter_append]; simp [hf]
theorem wlRow_hit {f : Ltr → Int} {i : Nat} {ys : List Ltr} {m : Nat} (h : m < ys.length) (hf : f ys[m] = (i : Int)) : wlRow f i (ys.take (m + 1)) = wlRow f i (ys.take m) := by
  unfold wlRow; rw [List.take_succ_eq_append_getElem h, List.filter_append]; simp [hf]
theorem wlRow_miss {f : Ltr → Int} {i : Nat} {ys : List Ltr} {m : Nat} (h : m < ys.length) (hf : f ys[m] ≠ (i : Int)) : wlRow f i (ys.take (m + 1)) = wlRow f i (ys.take m) ++ [ys[m]] := by
  unfold wlRow; rw [List.take_succ_eq_append_getElem h, List.filter_append]; simp [hf]
theorem wlTo_succ {f : Ltr → Int} {xss : List (List Ltr)} {n : Nat} (h : n < xss.length) : wlTo f xss (n + 1) = wlTo f xss n ++ wlRow f n xss[n] := by
  unfold wlTo
  rw [List.range_succ, List.flatMap_append]
  simp [h]
/-- Setting a row that has been set. -/
theorem set_push {L : List (List Ltr)} {j : Nat} {r s ys : List Ltr} (h : j < (L.set j r).length) (hs : s = (L.set j r)[j] ++ ys) : (L.set j r).set j s = L.set j (r ++ ys) := by
  subst hs
  rw [List.set_set, List.getElem_set_self]
theorem addTo_hit {f : Ltr → Int} {base : List (List Ltr)} {zs : List Ltr} {i d : Nat} (h : i < zs.length) (hf : f zs[i] = (d : Int)) (hd : d < (addTo f base (zs.take i)).length) :
    addTo f base (zs.take (i + 1)) = (addTo f base (zs.take i)).set d ((addTo f base (zs.take i))[d] ++ [zs[i]]) := by
  apply List.ext_getElem
  · simp [addTo]
  · intro k h1 h2
    have hk : k < base.length := by simpa [addTo] using h1
    rw [List.getElem_set, addTo_get _ _ _ _ _ hk]
    split
    · rename_i e; subst e
      rw [addTo_get _ _ _ _ _ hk, kpRow_hit h hf, List.append_assoc]
    · rename_i e
      rw [addTo_get _ _ _ _ _ hk, kpRow_miss h (by rw [hf]; omega)]
theorem addTo_skip {f : Ltr → Int} {base : List (List Ltr)} {zs : List Ltr} {i : Nat} (h : i < zs.length) (hf : f zs[i] < 0) : addTo f base (zs.take (i + 1)) = addTo f base (zs.take i) := by
  apply List.ext_getElem
  · simp [addTo]
  · intro k h1 h2
    have hk : k < base.length := by simpa [addTo] using h1
    rw [addTo_get _ _ _ _ _ hk, addTo_get _ _ _ _ _ hk, kpRow_miss h (by omega)]
theorem addTo_nil (f : Ltr → Int) (base : List (List Ltr)) : addTo f base [] = base := by
  apply List.ext_getElem
  · simp [addTo]
  · intro k h1 h2; rw [addTo_get _ _ _ _ _ h2]; simp [kpRow]
theorem kpRow_len (f : Ltr → Int) (i : Nat) (ys : List Ltr) : (kpRow f i ys).length ≤ ys.length := List.length_filter_le _ _
theorem wlRow_len (f : Ltr → Int) (i : Nat) (ys : List Ltr) : (wlRow f i ys).length ≤ ys.length := List.length_filter_le _ _
theorem row_len (f : Ltr → Int) (i : Nat) (ys : List Ltr) : (kpRow f i ys).length + (wlRow f i ys).length = ys.length := by
  unfold kpRow wlRow
  induction ys with
  | nil => rfl
  | cons y ys ih =>
    by_cases h : f y = (i : Int)
    · simp [List.filter_cons, h] at ih ⊢; omega
    · simp [List.filter_cons, h] at ih ⊢; omega
theorem keptTo_flat (f : Ltr → Int) (xss : List (List Ltr)) : ∀ n, n ≤ xss.length → (((keptTo f xss n).flatten).length + (wlTo f xss n).length = (xss.take n).flatten.length)
  | 0, _ => by rw [keptTo_nil]; simp [wlTo]
  | n + 1, h => by
    have ih := keptTo_flat f xss n (by omega)
    rw [wlTo_succ (by omega), List.length_append, List.take_succ_eq_append_getElem (by omega), List.flatten_append, List.length_append, ← keptTo_done (by omega)]
    simp only [List.flatten_cons, List.flatten_nil, List.append_nil]
    have hn : n < (keptTo f xss n).length := by rw [keptTo_len]; omega
    have key : ∀ (L : List (List Ltr)) (n : Nat) (r : List Ltr) (h : n < L.length), ((L.set n r).flatten).length + (L[n]).length = (L.flatten).length + r.length := by
      intro L
      induction L with
      | nil => intro n r h; simp at h
      | cons a L ih =>
        intro n r h
        cases n with
        | zero => simp; omega
        | succ n =>
          simp only [List.set_cons_succ, List.flatten_cons, List.length_append, List.getElem_cons_succ]
          have := ih n r (by simpa using h)
          omega
    have h1 := key (keptTo f xss n) n (kpRow f n xss[n]) hn
    rw [keptTo_get, if_neg (Nat.lt_irrefl _)] at h1
    have h2 := row_len f n xss[n]
    simp only [List.length_nil, Nat.add_zero] at h1
    omega
theorem addTo_flat (f : Ltr → Int) (base : List (List Ltr)) (zs : List Ltr) : (addTo f base zs).flatten.length = base.flatten.length + (binsOf f base.length zs).flatten.length := by
  have key : ∀ n, n ≤ base.length → ((List.range n).map fun k => base.getD k [] ++ kpRow f k zs).flatten.length = (base.take n).flatten.length + ((List.range n).map fun (k : Nat) => zs.filter fun x => f x == (k : Int)).flatten.length := by
    intro n
    induction n with
    | zero => intro _; simp
    | succ n ih =>
      intro h
      have := ih (by omega)
      rw [List.range_succ, List.map_append, List.map_append, List.flatten_append, List.flatten_append, List.length_append, List.length_append, List.take_succ_eq_append_getElem (by omega), List.flatten_append, List.length_append, this]
      simp only [List.map_cons, List.map_nil, List.flatten_cons, List.flatten_nil, List.append_nil, List.length_append]
      rw [List.getD_eq_getElem?_getD, List.getElem?_eq_getElem (by omega)]
      simp only [Option.getD_some, kpRow]
      omega
  have := key base.length (Nat.le_refl _)
  rw [List.take_length] at this
  exact this
def repBins (f : Ltr → Int) (xss : List (List Ltr)) : List (List Ltr) := addTo f (keptTo f xss xss.length) (wlTo f xss xss.length)
def repRest (f : Ltr → Int) (xss : List (List Ltr)) : List Ltr := restOf f (wlTo f xss xss.length)
theorem repBins_len (f : Ltr → Int) (xss : List (List Ltr)) : (repBins f xss).length = xss.length := by unfold repBins; rw [addTo_len, keptTo_len]
theorem wlTo_le (f : Ltr → Int) (xss : List (List Ltr)) (n : Nat) (h : n ≤ xss.length) : (wlTo f xss n).length ≤ (xss.take n).flatten.length := by
  have := keptTo_flat f xss n h; omega
theorem wlTo_le' (f : Ltr → Int) (xss : List (List Ltr)) : (wlTo f xss xss.length).length ≤ xss.flatten.length := by
  have := wlTo_le f xss xss.length (Nat.le_refl _)
  rwa [List.take_length] at this
theorem repBins_flat (f : Ltr → Int) (xss : List (List Ltr)) : (repBins f xss).flatten.length ≤ xss.flatten.length := by
  unfold repBins
  rw [addTo_flat, keptTo_len]
  have h1 := keptTo_flat f xss xss.length (Nat.le_refl _)
  rw [List.take_length] at h1
  have h2 := flatten_length_binsOf (f := f) (n := xss.length) (wlTo f xss xss.length)
  omega
theorem wlTo_sub (f : Ltr → Int) (xss : List (List Ltr)) : ∀ n, n ≤ xss.length → (wlTo f xss n).Sublist (xss.take n).flatten
  | 0, _ => by simp [wlTo]
  | n + 1, h => by
    rw [wlTo_succ (by omega), List.take_succ_eq_append_getElem (by omega), List.flatten_append]
    refine (wlTo_sub f xss n (by omega)).append ?_
    simp only [List.flatten_cons, List.flatten_nil, List.append_nil]
    exact List.filter_sublist
theorem wlTo_sub' (f : Ltr → Int) (xss : List (List Ltr)) : (wlTo f xss xss.length).Sublist xss.flatten := by
  have := wlTo_sub f xss xss.length (Nat.le_refl _)
  rwa [List.take_length] at this
theorem repBins_get (f : Ltr → Int) (xss : List (List Ltr)) (k : Nat) (h : k < (repBins f xss).length) (h' : k < xss.length) : (repBins f xss)[k] = kpRow f k xss[k] ++ kpRow f k (wlTo f xss xss.length) := by
  have e : (repBins f xss)[k] = (addTo f (keptTo f xss xss.length) (wlTo f xss xss.length))[k]'(by rw [addTo_len, keptTo_len]; exact h') := rfl
  rw [e, addTo_get _ _ _ _ _ (by rw [keptTo_len]; exact h'), keptTo_get, if_pos h']
  simp [h']
theorem wlTo_mem {f : Ltr → Int} {xss : List (List Ltr)} {n : Nat} {x : Ltr} (h : x ∈ wlTo f xss n) (hn : n ≤ xss.length) : ∃ i, ∃ hi : i < xss.length, x ∈ xss[i] ∧ f x ≠ (i : Int) := by
  unfold wlTo at h
  rw [List.mem_flatMap] at h
  obtain ⟨i, hi, hx⟩ := h
  have hi' : i < xss.length := by have := List.mem_range.1 hi; omega
  unfold wlRow at hx
  rw [List.getD_eq_getElem?_getD, List.getElem?_eq_getElem hi'] at hx
  obtain ⟨h1, h2⟩ := List.mem_filter.1 hx
  exact ⟨i, hi', h1, by simpa using h2⟩
theorem okB_repBins (f : Ltr → Int) (xss : List (List Ltr)) (h : okB xss.flatten = true) : okB (repBins f xss).flatten = true := by
  have hpw := (okB_pw.1 h).2.2
  refine okB_rows f h (repBins_flat f xss) (fun ys hys x hx => ?_) (fun ys hys => ?_) (fun k hk x hx => ?_)
  · obtain ⟨k, hk, rfl⟩ := List.getElem_of_mem hys
    have hk' : k < xss.length := by rw [repBins_len] at hk; exact hk
    rw [repBins_get _ _ _ _ hk'] at hx
    rcases List.mem_append.1 hx with hx | hx
    · exact List.mem_flatten.2 ⟨xss[k], List.getElem_mem hk', (List.mem_filter.1 hx).1⟩
    · exact (wlTo_sub' f xss).subset (List.mem_filter.1 hx).1
  · obtain ⟨k, hk, rfl⟩ := List.getElem_of_mem hys
    have hk' : k < xss.length := by rw [repBins_len] at hk; exact hk
    rw [repBins_get _ _ _ _ hk', List.pairwise_append]
    have hp2 := List.pairwise_flatten.1 hpw
    refine ⟨(hp2.1 _ (List.getElem_mem hk')).filter _, (hpw.sublist (wlTo_sub' f xss)).filter _, fun x hx y hy e => ?_⟩
    have hx1 := (List.mem_filter.1 hx).1
    have hy1 := List.mem_filter.1 hy
    obtain ⟨i, hi, hyi, hne⟩ := wlTo_mem hy1.1 (Nat.le_refl _)
    have hyk : f y = (k : Int) := by simpa using hy1.2
    have hik : i ≠ k := fun e => by subst e; exact hne hyk
    have hp3 := List.pairwise_iff_getElem.1 hp2.2
    rcases Nat.lt_or_gt_of_ne hik with hlt | hlt
    · exact hp3 i k hi hk' hlt y hyi x hx1 e.symm
    · exact hp3 k i hk' hi hlt x hx1 y hyi e
  · have hk' : k < xss.length := by rw [repBins_len] at hk; exact hk
    rw [repBins_get _ _ _ _ hk'] at hx
    rcases List.mem_append.1 hx with hx | hx
    · simpa using (List.mem_filter.1 hx).2
    · simpa using (List.mem_filter.1 hx).2

/-! ### What the functions give -/
def fpOk (p : Pln) (xs : List Ltr) (k : Int) (ms : List Mis) : Bool := passOk p k && okB xs && misOk p ms
def fpF (p : Pln) (k : Int) (ms : List Mis) (x : Ltr) : Int := misBin ms x (binI p x.code k.toNat)
def fpBins (p : Pln) (xs : List Ltr) (k : Int) (ms : List Mis) : List (List Ltr) := if fpOk p xs k ms then binsOf (fpF p k ms) p.bins.toNat xs else []
def fpRest (p : Pln) (xs : List Ltr) (k : Int) (ms : List Mis) : List Ltr := if fpOk p xs k ms then restOf (fpF p k ms) xs else []
def rbF (p : Pln) (k : Int) (x : Ltr) : Int := binI p x.code k.toNat
def rbBins (p : Pln) (xss : List (List Ltr)) (k : Int) : List (List Ltr) := if binsOk p xss k then repBins (rbF p k) xss else []
def rbRest (p : Pln) (xss : List (List Ltr)) (k : Int) : List Ltr := if binsOk p xss k then repRest (rbF p k) xss else []
/-- The bins of a faulty pass behind all passes before it. -/
def befBins (p : Pln) (xs : List Ltr) (k : Int) (ms : List Mis) : List (List Ltr) := binsOf (fpF p k ms) p.bins.toNat (passesN p 0 k.toNat xs)
def rrRound (p : Pln) (xs : List Ltr) (k : Int) (ms : List Mis) : List Ltr := if fpOk p xs k ms then passesN p 0 p.passes.toNat (befBins p xs k ms).flatten else []
def rpdRound (p : Pln) (xs : List Ltr) (k : Int) (ms : List Mis) : List Ltr := if fpOk p xs k ms then passesN p (k.toNat + 1) (p.passes.toNat - (k.toNat + 1)) (repBins (rbF p k) (befBins p xs k ms)).flatten else []
theorem fpOk_iff {p : Pln} {xs : List Ltr} {k : Int} {ms : List Mis} : fpOk p xs k ms = true ↔ (planOk p = true ∧ 0 ≤ k ∧ k < p.passes) ∧ okB xs = true ∧ misOk p ms = true := by
  unfold fpOk
  rw [Bool.and_eq_true, Bool.and_eq_true, passOk_iff, and_assoc]
theorem okB_befBins {p : Pln} {xs : List Ltr} {k : Int} {ms : List Mis} (h : okB xs = true) : okB (befBins p xs k ms).flatten = true := okB_binsOf _ _ (okB_passesN p _ _ _ h)
theorem befBins_len (p : Pln) (xs : List Ltr) (k : Int) (ms : List Mis) : (befBins p xs k ms).length = p.bins.toNat := binsOf_len _ _ _
theorem binsOk_bef {p : Pln} {xs : List Ltr} {k : Int} {ms : List Mis} (h : fpOk p xs k ms = true) : binsOk p (befBins p xs k ms) k = true := by
  obtain ⟨h1, h2, h3⟩ := fpOk_iff.1 h
  exact binsOk_iff.2 ⟨passOk_iff.2 h1, befBins_len _ _ _ _, okB_befBins h2⟩
theorem binsOk_rep {p : Pln} {xss : List (List Ltr)} {k : Int} (h : binsOk p xss k = true) : binsOk p (repBins (rbF p k) xss) k = true := by
  obtain ⟨h1, h2, h3⟩ := binsOk_iff.1 h
  exact binsOk_iff.2 ⟨h1, by rw [repBins_len]; exact h2, okB_repBins _ _ h3⟩
theorem rr_round {p : Pln} {xs : List Ltr} {k : Int} {ms : List Mis} (h : fpOk p xs k ms = true) : rpOk p (befBins p xs k ms).flatten = true ∧ rpRound p (befBins p xs k ms).flatten = rrRound p xs k ms := by
  obtain ⟨h1, h2, h3⟩ := fpOk_iff.1 h
  have h4 : rpOk p (befBins p xs k ms).flatten = true := by unfold rpOk; rw [h1.1, okB_befBins h2]; rfl
  exact ⟨h4, by unfold rpRound rrRound; rw [if_pos h4, if_pos h]⟩
theorem rpd_round {p : Pln} {xs : List Ltr} {k : Int} {ms : List Mis} (h : fpOk p xs k ms = true) : rbBins p (befBins p xs k ms) k = repBins (rbF p k) (befBins p xs k ms) ∧ finished p (rbBins p (befBins p xs k ms) k) k = rpdRound p xs k ms ∧ binsOk p (rbBins p (befBins p xs k ms) k) k = true := by
  have h1 := binsOk_bef h
  have h2 := binsOk_rep h1
  have h3 : rbBins p (befBins p xs k ms) k = repBins (rbF p k) (befBins p xs k ms) := by unfold rbBins; rw [if_pos h1]
  refine ⟨h3, ?_, by rw [h3]; exact h2⟩
  rw [h3]
  unfold finished rpdRound
  rw [if_pos h2, if_pos h]
theorem fp_len {p : Pln} {xs : List Ltr} {k : Int} {ms : List Mis} (h : fpOk p xs k ms = true) : p.bins.toNat ≤ 16 ∧ xs.length ≤ 60 := by
  obtain ⟨h1, h2, _⟩ := fpOk_iff.1 h
  obtain ⟨g1, g2, _⟩ := planOk_bins h1.1
  exact ⟨by omega, okB_len' h2⟩
theorem fpBins_len (p : Pln) (xs : List Ltr) (k : Int) (ms : List Mis) : (fpBins p xs k ms).length ≤ 60 ∧ (fpBins p xs k ms).flatten.length ≤ 60 := by
  unfold fpBins
  split
  · obtain ⟨h1, h2⟩ := fp_len (by assumption)
    exact ⟨by rw [binsOf_len]; omega, Nat.le_trans (flatten_length_binsOf _) h2⟩
  · simp
theorem fpRest_len (p : Pln) (xs : List Ltr) (k : Int) (ms : List Mis) : (fpRest p xs k ms).length ≤ 60 := by
  unfold fpRest restOf
  split
  · exact Nat.le_trans (List.length_filter_le _ _) (fp_len (by assumption)).2
  · simp
theorem rb_len {p : Pln} {xss : List (List Ltr)} {k : Int} (h : binsOk p xss k = true) : xss.length ≤ 16 ∧ xss.flatten.length ≤ 60 := by
  obtain ⟨h1, h2, h3⟩ := binsOk_iff.1 h
  obtain ⟨g1, g2, _⟩ := planOk_bins (passOk_iff.1 h1).1
  exact ⟨by omega, okB_len' h3⟩
theorem rbBins_len (p : Pln) (xss : List (List Ltr)) (k : Int) : (rbBins p xss k).length ≤ 60 ∧ (rbBins p xss k).flatten.length ≤ 60 := by
  unfold rbBins
  split
  · obtain ⟨h1, h2⟩ := rb_len (by assumption)
    exact ⟨by rw [repBins_len]; omega, Nat.le_trans (repBins_flat _ _) h2⟩
  · simp
theorem rbRest_len (p : Pln) (xss : List (List Ltr)) (k : Int) : (rbRest p xss k).length ≤ 60 := by
  unfold rbRest repRest restOf
  split
  · exact Nat.le_trans (List.length_filter_le _ _) (Nat.le_trans (wlTo_le' _ _) (rb_len (by assumption)).2)
  · simp
theorem bef_len {p : Pln} {xs : List Ltr} {k : Int} {ms : List Mis} (h : fpOk p xs k ms = true) : (befBins p xs k ms).flatten.length ≤ 60 :=
  Nat.le_trans (flatten_length_binsOf _) (Nat.le_trans (passesN_len _ _ _ _) (fp_len h).2)
theorem rrRound_len (p : Pln) (xs : List Ltr) (k : Int) (ms : List Mis) : (rrRound p xs k ms).length ≤ 60 := by
  unfold rrRound
  split
  · exact Nat.le_trans (passesN_len _ _ _ _) (bef_len (by assumption))
  · simp
theorem rpdRound_len (p : Pln) (xs : List Ltr) (k : Int) (ms : List Mis) : (rpdRound p xs k ms).length ≤ 60 := by
  unfold rpdRound
  split
  · exact Nat.le_trans (passesN_len _ _ _ _) (Nat.le_trans (repBins_flat _ _) (bef_len (by assumption)))
  · simp

end Go.Proofs.YtpinkbodbedajaaGreatDoor
