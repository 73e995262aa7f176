/- PL -/
import Derived.Test.YtmangjjaijhcnaaQ34
import Derived.Test.YtmangjjaijhcnaaQ9
namespace Go.Proofs.Ytmangjjaijhcnaa
open Go.RowKit

/-- An ordered choice of ranks: none is below zero, and they ascend. -/
def ordered (s : List Int) : Prop := (∀ x ∈ s, 0 ≤ x) ∧ s.Pairwise (· ≤ ·)
theorem ordered.sub {s t : List Int} (h : ordered t) (hs : s.Sublist t) : ordered s := ⟨fun x hx => h.1 x (hs.subset hx), h.2.sublist hs⟩
theorem ordered.nil : ordered [] := ⟨fun x hx => by simp at hx, List.Pairwise.nil⟩
theorem ordered.snoc {s : List Int} {r : Int} (h : ordered s) (h0 : 0 ≤ r) (hr : ∀ x ∈ s, x ≤ r) : ordered (s ++ [r]) := by
  refine ⟨fun x hx => ?_, ?_⟩
  · rcases List.mem_append.1 hx with hx | hx
    · exact h.1 x hx
    · rw [List.mem_singleton.1 hx]; exact h0
  · rw [List.pairwise_append]
    exact ⟨h.2, List.pairwise_singleton _ _, fun a ha b hb => by rw [List.mem_singleton.1 hb]; exact hr a ha⟩
theorem sub_snoc {α : Type} {s l : List α} {a : α} (h : s.Sublist (l ++ [a])) : s.Sublist l ∨ ∃ t, s = t ++ [a] ∧ t.Sublist l := by
  obtain ⟨s1, s2, rfl, h1, h2⟩ := List.sublist_append_iff.1 h
  cases s2 with
  | nil => left; simpa using h1
  | cons b u =>
    right
    have hl : u.length + 1 ≤ 1 := h2.length_le
    have hu : u = [] := List.length_eq_zero_iff.1 (by omega)
    subst hu
    have : b = a := by have := h2.subset (List.mem_singleton.2 rfl); simpa using this
    subst this
    exact ⟨s1, rfl, h1⟩
theorem kept_le (rs : List Int) : (∀ (n : Nat) (s : List Int), s.Sublist rs → ordered s → (∀ x ∈ s, x ≤ (n : Int)) → s.length ≤ topLe (runK rs) n) ∧ (∀ s : List Int, s.Sublist rs → ordered s → s.length ≤ bestK (runK rs)) := by
  induction rs using snoc_ind with
  | h0 =>
    refine ⟨fun n s hs _ _ => ?_, fun s hs _ => ?_⟩
    · rw [List.sublist_nil.1 hs]; exact Nat.zero_le _
    · rw [List.sublist_nil.1 hs]; exact Nat.zero_le _
  | h1 rs r ih =>
    obtain ⟨ih1, ih2⟩ := ih
    rw [runK_snoc]
    unfold stepK
    have key : ∀ t : List Int, t.Sublist rs → ordered (t ++ [r]) → 0 ≤ r ∧ t.length ≤ topLe (runK rs) r.toNat := fun t ht ho => by
      have h0 : 0 ≤ r := ho.1 r (by simp)
      refine ⟨h0, ih1 _ t ht (ho.sub (List.sublist_append_left _ _)) fun x hx => ?_⟩
      have := (List.pairwise_append.1 ho.2).2.2 x hx r (by simp)
      omega
    constructor
    · intro n s hs ho hx
      rcases sub_snoc hs with hs | ⟨t, rfl, ht⟩
      · have := ih1 n s hs ho hx
        split
        · exact this
        · rw [topLe_snoc]; split <;> omega
      · obtain ⟨h0, hl⟩ := key t ht ho
        have hrn := hx r (by simp)
        rw [if_neg (by omega), topLe_snoc, if_pos (by show r.toNat ≤ n; omega)]
        simp only [List.length_append, List.length_cons, List.length_nil]
        omega
    · intro s hs ho
      rcases sub_snoc hs with hs | ⟨t, rfl, ht⟩
      · have := ih2 s hs ho
        split
        · exact this
        · rw [bestK_snoc]; omega
      · obtain ⟨h0, hl⟩ := key t ht ho
        rw [if_neg (by omega), bestK_snoc]
        simp only [List.length_append, List.length_cons, List.length_nil]
        omega
theorem kept_some (rs : List Int) : (∀ n : Nat, ∃ s : List Int, s.Sublist rs ∧ ordered s ∧ (∀ x ∈ s, x ≤ (n : Int)) ∧ s.length = topLe (runK rs) n) ∧ (∃ s : List Int, s.Sublist rs ∧ ordered s ∧ s.length = bestK (runK rs)) := by
  induction rs using snoc_ind with
  | h0 => exact ⟨fun n => ⟨[], List.Sublist.refl _, ordered.nil, fun x hx => by simp at hx, rfl⟩, [], List.Sublist.refl _, ordered.nil, rfl⟩
  | h1 rs r ih =>
    obtain ⟨ih1, ih2⟩ := ih
    rw [runK_snoc]
    unfold stepK
    by_cases h0 : r < 0
    · rw [if_pos h0]
      refine ⟨fun n => ?_, ?_⟩
      · obtain ⟨s, hs, h⟩ := ih1 n
        exact ⟨s, hs.trans (List.sublist_append_left _ _), h⟩
      · obtain ⟨s, hs, h⟩ := ih2
        exact ⟨s, hs.trans (List.sublist_append_left _ _), h⟩
    · rw [if_neg h0]
      obtain ⟨t, ht, hto, htx, htl⟩ := ih1 r.toNat
      have hto' : ordered (t ++ [r]) := hto.snoc (by omega) fun x hx => by have := htx x hx; omega
      have hts : (t ++ [r]).Sublist (rs ++ [r]) := ht.append (List.Sublist.refl _)
      refine ⟨fun n => ?_, ?_⟩
      · rw [topLe_snoc]
        obtain ⟨s, hs, hso, hsx, hsl⟩ := ih1 n
        by_cases hn : r.toNat ≤ n
        · rw [if_pos hn]
          by_cases hc : topLe (runK rs) r.toNat + 1 ≤ topLe (runK rs) n
          · exact ⟨s, hs.trans (List.sublist_append_left _ _), hso, hsx, by show _ = max _ (topLe (runK rs) r.toNat + 1); omega⟩
          · refine ⟨t ++ [r], hts, hto', fun x hx => ?_, ?_⟩
            · rcases List.mem_append.1 hx with hx | hx
              · have := htx x hx; omega
              · rw [List.mem_singleton.1 hx]; omega
            · show _ = max _ (topLe (runK rs) r.toNat + 1)
              simp only [List.length_append, List.length_cons, List.length_nil]
              omega
        · rw [if_neg hn]
          exact ⟨s, hs.trans (List.sublist_append_left _ _), hso, hsx, hsl⟩
      · rw [bestK_snoc]
        obtain ⟨s, hs, hso, hsl⟩ := ih2
        by_cases hc : topLe (runK rs) r.toNat + 1 ≤ bestK (runK rs)
        · exact ⟨s, hs.trans (List.sublist_append_left _ _), hso, by show _ = max _ (topLe (runK rs) r.toNat + 1); omega⟩
        · refine ⟨t ++ [r], hts, hto', ?_⟩
          show _ = max _ (topLe (runK rs) r.toNat + 1)
          simp only [List.length_append, List.length_cons, List.length_nil]
          omega
/-- How many can stay, by ranks alone. -/
def lisK (rs : List Int) : Nat := bestK (runK rs)
theorem lisK_ge {rs s : List Int} (hs : s.Sublist rs) (ho : ordered s) : s.length ≤ lisK rs := (kept_le rs).2 s hs ho
theorem lisK_some (rs : List Int) : ∃ s : List Int, s.Sublist rs ∧ ordered s ∧ s.length = lisK rs := (kept_some rs).2
theorem lisK_le (rs : List Int) : lisK rs ≤ rs.length := by
  obtain ⟨s, hs, _, hl⟩ := lisK_some rs
  have := hs.length_le
  omega
theorem lisK_full {rs : List Int} : lisK rs = rs.length ↔ ordered rs := by
  constructor
  · intro h
    obtain ⟨s, hs, ho, hl⟩ := lisK_some rs
    rw [← hs.eq_of_length (hl.trans h)]
    exact ho
  · intro h
    have := lisK_ge (List.Sublist.refl rs) h
    have := lisK_le rs
    omega
theorem lisK_mono {rs ts : List Int} (h : rs.Sublist ts) : lisK rs ≤ lisK ts := by
  obtain ⟨s, hs, ho, hl⟩ := lisK_some rs
  have := lisK_ge (hs.trans h) ho
  omega
theorem sub_eraseIdx {α : Type} : ∀ {s l : List α} (i : Nat), s.Sublist l → i < l.length → (∃ t : List α, t.Sublist (l.eraseIdx i) ∧ t.Sublist s ∧ s.length ≤ t.length + 1)
  | _, _, i, .slnil, h => by simp at h
  | s, a :: l, 0, .cons _ h, _ => ⟨s, by simpa using h, List.Sublist.refl _, by omega⟩
  | s, a :: l, i + 1, .cons _ h, hi => by
    obtain ⟨t, h1, h2, h3⟩ := sub_eraseIdx i h (by simpa using hi)
    exact ⟨t, by simpa using h1.cons a, h2, h3⟩
  | _, a :: l, 0, .cons_cons (l₁ := s) _ h, _ => ⟨s, by simpa using h, List.sublist_cons_self _ _, by simp⟩
  | _, a :: l, i + 1, .cons_cons _ h, hi => by
    obtain ⟨t, h1, h2, h3⟩ := sub_eraseIdx i h (by simpa using hi)
    exact ⟨a :: t, by simpa using h1.cons_cons a, h2.cons_cons a, by simp; omega⟩
theorem lisK_erase (rs : List Int) (i : Nat) (h : i < rs.length) : lisK (rs.eraseIdx i) = lisK rs ∨ lisK (rs.eraseIdx i) + 1 = lisK rs := by
  have h1 := lisK_mono (List.eraseIdx_sublist rs i)
  obtain ⟨s, hs, ho, hl⟩ := lisK_some rs
  obtain ⟨t, t1, t2, t3⟩ := sub_eraseIdx i hs h
  have := lisK_ge t1 (ho.sub t2)
  omega
/-- If taking out any one leaves fewer, then all are in order. -/
theorem lisK_tight {rs : List Int} (h : ∀ i, i < rs.length → lisK (rs.eraseIdx i) < lisK rs) : lisK rs = rs.length := by
  obtain ⟨s, hs, ho, hl⟩ := lisK_some rs
  have key : ∀ {s l : List Int}, s.Sublist l → s.length < l.length → ∃ i, i < l.length ∧ s.Sublist (l.eraseIdx i) := by
    intro s l h
    induction h with
    | slnil => intro h; simp at h
    | cons a h ih => intro _; exact ⟨0, by simp, by simpa using h⟩
    | cons_cons a h ih =>
      intro hlt
      obtain ⟨i, hi, h1⟩ := ih (by simpa using hlt)
      exact ⟨i + 1, by simpa using hi, by simpa using h1.cons_cons a⟩
  have h1 := lisK_le rs
  rcases Nat.lt_or_eq_of_le h1 with h2 | h2
  · obtain ⟨i, hi, h3⟩ := key hs (by omega)
    have h4 := lisK_ge h3 ho
    have h5 := h i hi
    omega
  · exact h2
/-! ### Passes sort -/
theorem map_erase {α β : Type} (f : α → β) : ∀ (xs : List α) (i : Nat), (xs.eraseIdx i).map f = (xs.map f).eraseIdx i
  | [], _ => rfl
  | x :: xs, 0 => rfl
  | x :: xs, i + 1 => by simp only [List.eraseIdx_cons_succ, List.map_cons]; rw [map_erase f xs i]
theorem powI_succ (b : Int) (n : Nat) : powI b (n + 1) = powI b n * b := rfl
theorem powI_pos {b : Int} (h : 2 ≤ b) : ∀ n, 1 ≤ powI b n
  | 0 => Int.le_refl _
  | n + 1 => by
    have := powI_pos h n
    rw [powI_succ]
    have : 1 * 2 ≤ powI b n * b := Int.mul_le_mul this h (by omega) (by omega)
    omega
/-- The last k digits of the rank. -/
def low (p : Pln) (k : Nat) (x : Ltr) : Int := rkI p.order x.code % powI p.bins k
theorem low_succ {p : Pln} (hb : 2 ≤ p.bins) (k : Nat) (x : Ltr) (h : 0 ≤ rkI p.order x.code) : low p (k + 1) x = low p k x + powI p.bins k * binI p x.code k := by
  unfold low binI
  rw [if_neg (by omega), powI_succ]
  have hp := powI_pos hb k
  have h1 := Int.emod_add_mul_ediv (rkI p.order x.code) (powI p.bins k)
  have h2 := Int.emod_add_mul_ediv (rkI p.order x.code / powI p.bins k) p.bins
  have h3 := Int.emod_add_mul_ediv (rkI p.order x.code) (powI p.bins k * p.bins)
  rw [← Int.ediv_ediv_of_nonneg (by omega)] at h3
  generalize rkI p.order x.code = r at *
  generalize powI p.bins k = B at *
  have e : B * (r / B % p.bins + p.bins * (r / B / p.bins)) = B * (r / B) := by rw [h2]
  rw [Int.mul_add, ← Int.mul_assoc] at e
  omega
theorem low_range {p : Pln} (hb : 2 ≤ p.bins) (k : Nat) (x : Ltr) : 0 ≤ low p k x ∧ low p k x < powI p.bins k := by
  have hp := powI_pos hb k
  exact ⟨Int.emod_nonneg _ (by omega), Int.emod_lt_of_pos _ (by omega)⟩
/-- Letters in bins, one bin behind the other: ascending by the bin, within a bin as they were. -/
theorem flat_pairwise {f : Ltr → Int} {n : Nat} {xs : List Ltr} {R : Ltr → Ltr → Prop} (h1 : xs.Pairwise fun x y => 0 ≤ f x → f x = f y → R x y) (h2 : ∀ x ∈ xs, ∀ y ∈ xs, 0 ≤ f x → f x < f y → R x y) : (binsOf f n xs).flatten.Pairwise R := by
  rw [List.pairwise_flatten]
  constructor
  · intro ys hys
    obtain ⟨k, hk, rfl⟩ := List.getElem_of_mem hys
    rw [binsOf_get]
    refine (h1.filter _).imp_of_mem fun hx hy h => ?_
    have e1 := (List.mem_filter.1 hx).2
    have e2 := (List.mem_filter.1 hy).2
    simp only [beq_iff_eq] at e1 e2
    exact h (by omega) (by omega)
  · rw [List.pairwise_iff_getElem]
    intro i j hi hj hij x hx y hy
    rw [binsOf_get] at hx hy
    obtain ⟨x1, e1⟩ := List.mem_filter.1 hx
    obtain ⟨y1, e2⟩ := List.mem_filter.1 hy
    simp only [beq_iff_eq] at e1 e2
    exact h2 x x1 y y1 (by omega) (by omega)
theorem pass_low {p : Pln} (hb : 2 ≤ p.bins) (k : Nat) {xs : List Ltr} (h : xs.Pairwise fun x y => low p k x ≤ low p k y) : (pass1 p k xs).Pairwise fun x y => low p (k + 1) x ≤ low p (k + 1) y := by
  have hr : ∀ x : Ltr, 0 ≤ binI p x.code k → 0 ≤ rkI p.order x.code := fun x hx => by
    have := binI_rank (p := p) (c := x.code) (k := k) hb
    omega
  refine flat_pairwise (h.imp fun {x y} h h0 he => ?_) fun x _ y _ h0 hlt => ?_
  · rw [low_succ hb k x (hr x h0), low_succ hb k y (hr y (by omega)), he]
    omega
  · rw [low_succ hb k x (hr x h0), low_succ hb k y (hr y (by omega))]
    have h1 := low_range hb k x
    have h2 := low_range hb k y
    have h3 : powI p.bins k * (binI p x.code k + 1) ≤ powI p.bins k * binI p y.code k := Int.mul_le_mul_of_nonneg_left (by omega) (by omega)
    rw [Int.mul_add] at h3
    omega
theorem passes_low {p : Pln} (hb : 2 ≤ p.bins) : ∀ (n k : Nat) (xs : List Ltr), (xs.Pairwise fun x y => low p k x ≤ low p k y) → (passesN p k n xs).Pairwise fun x y => low p (k + n) x ≤ low p (k + n) y
  | 0, k, xs, h => h
  | n + 1, k, xs, h => by
    have := passes_low hb n (k + 1) _ (pass_low hb k h)
    rwa [show k + 1 + n = k + (n + 1) by omega] at this
theorem low_zero (p : Pln) (x : Ltr) : low p 0 x = 0 := by unfold low powI; omega
theorem low_any (p : Pln) (xs : List Ltr) : xs.Pairwise fun x y => low p 0 x ≤ low p 0 y := by
  induction xs with
  | nil => exact List.Pairwise.nil
  | cons x xs ih => exact List.Pairwise.cons (fun y _ => by rw [low_zero, low_zero]; omega) ih
theorem planOk_cap {p : Pln} (h : planOk p = true) : (p.order.length : Int) ≤ powI p.bins p.passes.toNat ∧ 1 ≤ p.order.length := by
  unfold planOk at h
  simp only [Bool.and_eq_true, decide_eq_true_iff] at h
  exact ⟨h.1.2, h.1.1.2.1⟩
theorem low_full {p : Pln} (h : planOk p = true) (x : Ltr) (hx : 0 ≤ rkI p.order x.code) : low p p.passes.toNat x = rkI p.order x.code := by
  have h1 := planOk_cap h
  have h2 := rkI_range p.order x.code
  unfold low
  exact Int.emod_eq_of_lt hx (by omega)
theorem pass1_mem {p : Pln} (hb : 2 ≤ p.bins) {k : Nat} {xs : List Ltr} {x : Ltr} : x ∈ pass1 p k xs ↔ x ∈ xs ∧ 0 ≤ rkI p.order x.code := by
  unfold pass1
  rw [binsOf_mem]
  have h1 := binI_rank (p := p) (c := x.code) (k := k) hb
  have h2 := binI_range p x.code k hb
  constructor
  · rintro ⟨a, b, c⟩; exact ⟨a, by omega⟩
  · rintro ⟨a, b⟩; exact ⟨a, by omega, by omega⟩
theorem passesN_mem {p : Pln} (hb : 2 ≤ p.bins) : ∀ (n k : Nat) (xs : List Ltr) (x : Ltr), x ∈ passesN p k (n + 1) xs ↔ x ∈ xs ∧ 0 ≤ rkI p.order x.code
  | 0, k, xs, x => pass1_mem hb
  | n + 1, k, xs, x => by
    show x ∈ passesN p (k + 1) (n + 1) (pass1 p k xs) ↔ _
    rw [passesN_mem hb n, pass1_mem hb]
    exact ⟨fun h => h.1, fun h => ⟨h, h.2⟩⟩
theorem passesN_mem' {p : Pln} (hb : 2 ≤ p.bins) (n k : Nat) (xs : List Ltr) (x : Ltr) (hx : 0 ≤ rkI p.order x.code) : x ∈ passesN p k n xs ↔ x ∈ xs := by
  cases n with
  | zero => exact Iff.rfl
  | succ n => rw [passesN_mem hb]; exact ⟨fun h => h.1, fun h => ⟨h, hx⟩⟩
/-- Letters are in the order of the round: each has a rank, and the ranks ascend. -/
def inOrd (p : Pln) (xs : List Ltr) : Prop := ordered (ranksOf p xs)
theorem inOrd_iff {p : Pln} {xs : List Ltr} : inOrd p xs ↔ (∀ x ∈ xs, 0 ≤ rkI p.order x.code) ∧ xs.Pairwise fun x y => rkI p.order x.code ≤ rkI p.order y.code := by
  unfold inOrd ordered ranksOf
  rw [List.pairwise_map]
  refine and_congr ⟨fun h x hx => h _ (List.mem_map.2 ⟨x, hx, rfl⟩), fun h y hy => ?_⟩ Iff.rfl
  obtain ⟨x, hx, rfl⟩ := List.mem_map.1 hy
  exact h x hx
theorem inOrd_of_low {p : Pln} (h : planOk p = true) {xs : List Ltr} (h1 : ∀ x ∈ xs, 0 ≤ rkI p.order x.code) (h2 : xs.Pairwise fun x y => low p p.passes.toNat x ≤ low p p.passes.toNat y) : inOrd p xs := by
  refine inOrd_iff.2 ⟨h1, h2.imp_of_mem fun {x y} hx hy h3 => ?_⟩
  rwa [low_full h x (h1 x hx), low_full h y (h1 y hy)] at h3
/-- Passes from the k-th to the last sort letters that ascend by their last k digits. -/
theorem passes_sort {p : Pln} (h : planOk p = true) {k n : Nat} (hk : k + (n + 1) = p.passes.toNat) {xs : List Ltr} (hx : xs.Pairwise fun x y => low p k x ≤ low p k y) : inOrd p (passesN p k (n + 1) xs) := by
  have hb := (planOk_bins h).1
  refine inOrd_of_low h (fun x hx => ((passesN_mem hb n k xs x).1 hx).2) ?_
  have := passes_low hb (n + 1) k xs hx
  rwa [hk] at this
theorem passes_all {p : Pln} (h : planOk p = true) (xs : List Ltr) : inOrd p (passesN p 0 p.passes.toNat xs) := by
  have h1 := planOk_bins h
  obtain ⟨n, hn⟩ : ∃ n, p.passes.toNat = n + 1 := ⟨p.passes.toNat - 1, by omega⟩
  rw [hn]
  exact passes_sort h (by omega) (low_any p xs)
/-- How many letters can stay. -/
theorem keptN_lis (p : Pln) (xs : List Ltr) : keptN p xs = lisK (ranksOf p xs) := rfl
theorem ranksOf_len (p : Pln) (xs : List Ltr) : (ranksOf p xs).length = xs.length := by simp [ranksOf]
theorem keptN_full {p : Pln} {xs : List Ltr} : keptN p xs = xs.length ↔ inOrd p xs := by
  rw [keptN_lis, ← ranksOf_len p xs]; exact lisK_full
theorem keptN_le (p : Pln) (xs : List Ltr) : keptN p xs ≤ xs.length := by
  rw [keptN_lis, ← ranksOf_len p xs]; exact lisK_le _
theorem keptN_ge {p : Pln} {xs ys : List Ltr} (hs : ys.Sublist xs) (ho : inOrd p ys) : ys.length ≤ keptN p xs := by
  rw [keptN_lis, ← ranksOf_len p ys]; exact lisK_ge (hs.map _) ho
theorem keptN_erase (p : Pln) (xs : List Ltr) (i : Nat) (h : i < xs.length) : keptN p (xs.eraseIdx i) = keptN p xs ∨ keptN p (xs.eraseIdx i) + 1 = keptN p xs := by
  have e : ranksOf p (xs.eraseIdx i) = (ranksOf p xs).eraseIdx i := map_erase _ _ _
  rw [keptN_lis, keptN_lis, e]
  exact lisK_erase _ i (by rw [ranksOf_len]; exact h)
theorem keptN_tight {p : Pln} {xs : List Ltr} (h : ∀ i, i < xs.length → keptN p (xs.eraseIdx i) < keptN p xs) : keptN p xs = xs.length := by
  rw [keptN_lis, ← ranksOf_len p xs]
  refine lisK_tight fun i hi => ?_
  have e : ranksOf p (xs.eraseIdx i) = (ranksOf p xs).eraseIdx i := map_erase _ _ _
  rw [← e]
  exact h i (by rwa [ranksOf_len] at hi)
theorem keptN_mono {p : Pln} {xs ys : List Ltr} (h : ys.Sublist xs) : keptN p ys ≤ keptN p xs := lisK_mono (h.map _)
/-! ### The same letters -/
theorem erase_len {α : Type} : ∀ {l : List α} {x : α}, x ∈ l → ∃ t : List α, t.length + 1 = l.length ∧ ∀ y, y ∈ l → y ≠ x → y ∈ t
  | [], x, h => by simp at h
  | a :: l, x, h => by
    by_cases e : x = a
    · subst e
      exact ⟨l, rfl, fun y hy hne => by
        rcases List.mem_cons.1 hy with h1 | h1
        · exact absurd h1 hne
        · exact h1⟩
    · have hx : x ∈ l := by
        rcases List.mem_cons.1 h with h1 | h1
        · exact absurd h1 e
        · exact h1
      obtain ⟨t, h1, h2⟩ := erase_len hx
      refine ⟨a :: t, by simp; omega, fun y hy hne => ?_⟩
      rcases List.mem_cons.1 hy with h3 | h3
      · exact List.mem_cons.2 (.inl h3)
      · exact List.mem_cons.2 (.inr (h2 y h3 hne))
theorem len_le_of_sub {α : Type} : ∀ {l m : List α}, l.Pairwise (· ≠ ·) → (∀ x ∈ l, x ∈ m) → l.length ≤ m.length
  | [], _, _, _ => Nat.zero_le _
  | a :: l, m, hl, hm => by
    obtain ⟨t, h1, h2⟩ := erase_len (hm a (by simp))
    rw [List.pairwise_cons] at hl
    have := len_le_of_sub hl.2 (m := t) fun x hx => h2 x (hm x (by simp [hx])) (fun e => hl.1 x hx e.symm)
    simp only [List.length_cons]
    omega
theorem ids_nodup {xs : List Ltr} (h : xs.Pairwise fun x y => x.id ≠ y.id) : xs.Pairwise (· ≠ ·) := h.imp fun h e => h (by rw [e])
theorem len_same {xs ys : List Ltr} (hx : xs.Pairwise fun x y => x.id ≠ y.id) (hy : ys.Pairwise fun x y => x.id ≠ y.id) (h : ∀ x, x ∈ xs ↔ x ∈ ys) : xs.length = ys.length :=
  Nat.le_antisymm (len_le_of_sub (ids_nodup hx) fun x h1 => (h x).1 h1) (len_le_of_sub (ids_nodup hy) fun x h1 => (h x).2 h1)
/-- What soAll asks: the letters of xs are those of ys. -/
def sameL (xs ys : List Ltr) : Prop := (∀ x ∈ xs, x ∈ ys) ∧ xs.length = ys.length
theorem sameL_of {xs ys : List Ltr} (hx : okB xs = true) (hy : okB ys = true) (h : ∀ x, x ∈ xs ↔ x ∈ ys) : sameL xs ys := ⟨fun x h1 => (h x).1 h1, len_same (okB_pw.1 hx).2.2 (okB_pw.1 hy).2.2 h⟩

/-! ### Passes in two parts -/
theorem passesN_add (p : Pln) : ∀ (m n k : Nat) (xs : List Ltr), passesN p k (m + n) xs = passesN p (k + m) n (passesN p k m xs)
  | 0, n, k, xs => by rw [Nat.zero_add]; rfl
  | m + 1, n, k, xs => by
    rw [show m + 1 + n = (m + n) + 1 by omega]
    show passesN p (k + 1) (m + n) (pass1 p k xs) = passesN p (k + (m + 1)) n (passesN p (k + 1) m (pass1 p k xs))
    rw [passesN_add p m n (k + 1), show k + 1 + m = k + (m + 1) by omega]
theorem passesN_at (p : Pln) {k P : Nat} (h : k < P) (xs : List Ltr) : passesN p (k + 1) (P - (k + 1)) (pass1 p k (passesN p 0 k xs)) = passesN p 0 P xs := by
  have h1 := passesN_add p k (P - k) 0 xs
  rw [show k + (P - k) = P by omega, Nat.zero_add, show P - k = (P - (k + 1)) + 1 by omega] at h1
  exact h1.symm
/-- Passes sort, if all letters have a rank; none may be left. -/
theorem passes_sort' {p : Pln} (h : planOk p = true) {k n : Nat} (hk : k + n = p.passes.toNat) {xs : List Ltr} (h0 : ∀ x ∈ xs, 0 ≤ rkI p.order x.code) (hx : xs.Pairwise fun x y => low p k x ≤ low p k y) : inOrd p (passesN p k n xs) := by
  cases n with
  | zero =>
    refine inOrd_of_low h h0 ?_
    rw [← hk]
    exact hx
  | succ n => exact passes_sort h hk hx

/-! ### Repaired bins: laws -/
theorem rep_mem {f : Ltr → Int} {xss : List (List Ltr)} {x : Ltr} : x ∈ (repBins f xss).flatten ↔ x ∈ xss.flatten ∧ 0 ≤ f x ∧ f x < xss.length := by
  rw [List.mem_flatten]
  constructor
  · rintro ⟨ys, hys, hx⟩
    obtain ⟨k, hk, rfl⟩ := List.getElem_of_mem hys
    have hk' : k < xss.length := by rw [repBins_len] at hk; exact hk
    rw [repBins_get _ _ _ _ hk'] at hx
    have key : x ∈ xss.flatten ∧ f x = (k : Int) := by
      rcases List.mem_append.1 hx with hx | hx
      · obtain ⟨a, b⟩ := List.mem_filter.1 hx
        exact ⟨List.mem_flatten.2 ⟨_, List.getElem_mem hk', a⟩, by simpa using b⟩
      · obtain ⟨a, b⟩ := List.mem_filter.1 hx
        exact ⟨(wlTo_sub' f xss).subset a, by simpa using b⟩
    exact ⟨key.1, by omega, by omega⟩
  · rintro ⟨hx, h0, h1⟩
    obtain ⟨k, hk⟩ := Int.eq_ofNat_of_zero_le h0
    have hk' : k < xss.length := by omega
    have hkr : k < (repBins f xss).length := by rw [repBins_len]; exact hk'
    refine ⟨(repBins f xss)[k], List.getElem_mem hkr, ?_⟩
    rw [repBins_get _ _ _ _ hk']
    obtain ⟨ys, hys, hxy⟩ := List.mem_flatten.1 hx
    obtain ⟨i, hi, rfl⟩ := List.getElem_of_mem hys
    by_cases e : i = k
    · subst e
      exact List.mem_append.2 (.inl (List.mem_filter.2 ⟨hxy, by simp [hk]⟩))
    · refine List.mem_append.2 (.inr (List.mem_filter.2 ⟨?_, by simp [hk]⟩))
      unfold wlTo
      rw [List.mem_flatMap]
      refine ⟨i, List.mem_range.2 hi, ?_⟩
      unfold wlRow
      rw [List.getD_eq_getElem?_getD, List.getElem?_eq_getElem hi]
      exact List.mem_filter.2 ⟨hxy, by rw [hk]; simp; omega⟩
theorem rep_row {f : Ltr → Int} {xss : List (List Ltr)} {k : Nat} (h : k < (repBins f xss).length) {x : Ltr} (hx : x ∈ (repBins f xss)[k]) : f x = (k : Int) := by
  have hk' : k < xss.length := by rw [repBins_len] at h; exact h
  rw [repBins_get _ _ _ _ hk'] at hx
  rcases List.mem_append.1 hx with hx | hx
  · simpa using (List.mem_filter.1 hx).2
  · simpa using (List.mem_filter.1 hx).2
/-- Rows whose letters are in the right bin. -/
def rightRows (f : Ltr → Int) (xss : List (List Ltr)) : Prop := ∀ k (hk : k < xss.length), ∀ x ∈ xss[k], f x = (k : Int)
theorem rep_right (f : Ltr → Int) (xss : List (List Ltr)) : rightRows f (repBins f xss) := fun _ hk _ hx => rep_row hk hx
theorem binsOf_right (f : Ltr → Int) (n : Nat) (xs : List Ltr) : rightRows f (binsOf f n xs) := fun k hk x hx => by
  rw [binsOf_get] at hx
  simpa using (List.mem_filter.1 hx).2
theorem right_wl {f : Ltr → Int} {xss : List (List Ltr)} (h : rightRows f xss) : wlTo f xss xss.length = [] := by
  rw [List.eq_nil_iff_forall_not_mem]
  intro x hx
  obtain ⟨i, hi, hxi, hne⟩ := wlTo_mem hx (Nat.le_refl _)
  exact hne (h i hi x hxi)
theorem right_rep {f : Ltr → Int} {xss : List (List Ltr)} (h : rightRows f xss) : repBins f xss = xss ∧ repRest f xss = [] := by
  constructor
  · refine List.ext_getElem (repBins_len _ _) fun k h1 h2 => ?_
    rw [repBins_get _ _ _ _ h2, right_wl h]
    have : kpRow f k [] = [] := rfl
    rw [this, List.append_nil]
    unfold kpRow
    rw [List.filter_eq_self]
    intro x hx
    rw [h k h2 x hx]
    simp
  · unfold repRest restOf
    rw [right_wl h]; rfl
theorem right_wrong {f : Ltr → Int} {xss : List (List Ltr)} (h : rightRows f xss) : wrongTo f xss xss.length = [] := by
  rw [List.eq_nil_iff_forall_not_mem]
  intro y hy
  unfold wrongTo at hy
  obtain ⟨i, hi, hy⟩ := List.mem_flatMap.1 hy
  have hi' := List.mem_range.1 hi
  unfold wrongRow at hy
  obtain ⟨x, hx, rfl⟩ := List.mem_map.1 hy
  rw [List.getD_eq_getElem?_getD, List.getElem?_eq_getElem hi'] at hx
  obtain ⟨a, b⟩ := List.mem_filter.1 hx
  have := h i hi' x a
  simp [this] at b
theorem rows_asc {f : Ltr → Int} {xss : List (List Ltr)} (h : rightRows f xss) : xss.flatten.Pairwise fun x y => f x ≤ f y := by
  rw [List.pairwise_flatten]
  constructor
  · intro ys hys
    obtain ⟨k, hk, rfl⟩ := List.getElem_of_mem hys
    refine (List.pairwise_of_forall (fun _ _ => trivial) : xss[k].Pairwise fun _ _ => True).imp_of_mem fun hx hy _ => ?_
    rw [h k hk _ hx, h k hk _ hy]
    omega
  · rw [List.pairwise_iff_getElem]
    intro i j hi hj hij x hx y hy
    rw [h i hi x hx, h j hj y hy]
    omega
theorem wrong_mem {f : Ltr → Int} {xss : List (List Ltr)} {n : Int} : n ∈ wrongTo f xss xss.length ↔ ∃ i, ∃ hi : i < xss.length, ∃ x ∈ xss[i], f x ≠ (i : Int) ∧ x.id = n := by
  unfold wrongTo
  rw [List.mem_flatMap]
  constructor
  · rintro ⟨i, hi, hy⟩
    have hi' := List.mem_range.1 hi
    unfold wrongRow at hy
    obtain ⟨x, hx, rfl⟩ := List.mem_map.1 hy
    rw [List.getD_eq_getElem?_getD, List.getElem?_eq_getElem hi'] at hx
    obtain ⟨a, b⟩ := List.mem_filter.1 hx
    exact ⟨i, hi', x, a, by simpa using b, rfl⟩
  · rintro ⟨i, hi, x, hx, hne, rfl⟩
    refine ⟨i, List.mem_range.2 hi, ?_⟩
    unfold wrongRow
    rw [List.getD_eq_getElem?_getD, List.getElem?_eq_getElem hi]
    exact List.mem_map.2 ⟨x, List.mem_filter.2 ⟨hx, by simpa using hne⟩, rfl⟩
/-- A letter's number is among the wrong ones exactly if its bin is. -/
theorem wrong_iff {f : Ltr → Int} {xss : List (List Ltr)} (h : okB xss.flatten = true) {k : Nat} (hk : k < xss.length) {x : Ltr} (hx : x ∈ xss[k]) : x.id ∈ wrongTo f xss xss.length ↔ f x ≠ (k : Int) := by
  rw [wrong_mem]
  constructor
  · rintro ⟨i, hi, y, hy, hne, e⟩
    have hp := (okB_pw.1 h).2.2
    have exy := pw_inj hp y (List.mem_flatten.2 ⟨_, List.getElem_mem hi, hy⟩) x (List.mem_flatten.2 ⟨_, List.getElem_mem hk, hx⟩) e
    subst exy
    have hp2 := List.pairwise_iff_getElem.1 (List.pairwise_flatten.1 hp).2
    rcases Nat.lt_trichotomy i k with hlt | heq | hgt
    · exact absurd rfl (hp2 i k hi hk hlt y hy y hx)
    · subst heq; exact hne
    · exact absurd rfl (hp2 k i hk hi hgt y hx y hy)
  · intro hne
    exact ⟨k, hk, x, hx, hne, rfl⟩
/-- The right letters of a bin come first, in their order. -/
theorem rep_at {f : Ltr → Int} {xss : List (List Ltr)} {k i : Nat} (hk : k < xss.length) (hi : i < xss[k].length) (hf : f xss[k][i] = (k : Int)) (hr : k < (repBins f xss).length) :
    ∃ h : (kpRow f k (xss[k].take i)).length < (repBins f xss)[k].length, (repBins f xss)[k][(kpRow f k (xss[k].take i)).length] = xss[k][i] := by
  have e : kpRow f k xss[k] = kpRow f k (xss[k].take i) ++ xss[k][i] :: kpRow f k (xss[k].drop (i + 1)) := by
    conv => lhs; rw [← List.take_append_drop i xss[k], List.drop_eq_getElem_cons hi]
    unfold kpRow
    rw [List.filter_append, List.filter_cons, if_pos (by simp [hf])]
  have e2 : (repBins f xss)[k] = kpRow f k (xss[k].take i) ++ (xss[k][i] :: kpRow f k (xss[k].drop (i + 1)) ++ kpRow f k (wlTo f xss xss.length)) := by
    rw [repBins_get _ _ _ _ hk, e, List.append_assoc]
  refine ⟨by rw [e2]; simp, ?_⟩
  simp only [e2]
  rw [List.getElem_append_right (Nat.le_refl _)]
  simp
/-- Repairing loses no letter: what falls out is told. -/
theorem rep_same {f : Ltr → Int} {xss : List (List Ltr)} (h : okB xss.flatten = true) (hf : ∀ x, f x < xss.length) : sameL ((repBins f xss).flatten ++ repRest f xss) xss.flatten := by
  have hp := (okB_pw.1 h).2.2
  have hsub : ∀ x ∈ (repBins f xss).flatten ++ repRest f xss, x ∈ xss.flatten := fun x hx => by
    rcases List.mem_append.1 hx with hx | hx
    · exact (rep_mem.1 hx).1
    · exact (wlTo_sub' f xss).subset (List.mem_filter.1 hx).1
  refine ⟨hsub, len_same ?_ hp fun x => ⟨hsub x, fun hx => ?_⟩⟩
  · rw [List.pairwise_append]
    refine ⟨(okB_pw.1 (okB_repBins f xss h)).2.2, (hp.sublist (wlTo_sub' f xss)).filter _, fun x hx y hy e => ?_⟩
    have := pw_inj hp x (rep_mem.1 hx).1 y ((wlTo_sub' f xss).subset (List.mem_filter.1 hy).1) e
    subst this
    have h1 := (rep_mem.1 hx).2.1
    have h2 := (List.mem_filter.1 hy).2
    simp only [decide_eq_true_iff] at h2
    omega
  · by_cases h0 : 0 ≤ f x
    · exact List.mem_append.2 (.inl (rep_mem.2 ⟨hx, h0, hf x⟩))
    · refine List.mem_append.2 (.inr (List.mem_filter.2 ⟨?_, by simp; omega⟩))
      obtain ⟨ys, hys, hxy⟩ := List.mem_flatten.1 hx
      obtain ⟨i, hi, rfl⟩ := List.getElem_of_mem hys
      unfold wlTo
      rw [List.mem_flatMap]
      refine ⟨i, List.mem_range.2 hi, ?_⟩
      unfold wlRow
      rw [List.getD_eq_getElem?_getD, List.getElem?_eq_getElem hi]
      exact List.mem_filter.2 ⟨hxy, by simp; omega⟩
/-! ### Faulty passes: laws -/
theorem fpF_range {p : Pln} {k : Int} {ms : List Mis} (hm : misOk p ms = true) (x : Ltr) : -1 ≤ fpF p k ms x ∧ fpF p k ms x < p.bins :=
  misBin_range (misOk_good' hm) x _ (binI_range p x.code k.toNat (planOk_bins (misOk_iff.1 hm).1).1)
theorem rbF_range {p : Pln} (hb : 2 ≤ p.bins) (k : Int) (x : Ltr) : -1 ≤ rbF p k x ∧ rbF p k x < p.bins := binI_range p x.code k.toNat hb
theorem misBin_nonneg {ms : List Mis} (h : ∀ m ∈ ms, 0 ≤ m.bin) (x : Ltr) : ∀ b, 0 ≤ b → 0 ≤ misBin ms x b := by
  unfold misBin
  induction ms with
  | nil => intro b hb; exact hb
  | cons m ms ih =>
    intro b hb
    simp only [List.foldl_cons]
    refine ih (fun m' h' => h m' (by simp [h'])) _ ?_
    split
    · exact h m (by simp)
    · exact hb
theorem fpF_ranked {p : Pln} {k : Int} {ms : List Mis} (hm : misOk p ms = true) {x : Ltr} (hx : 0 ≤ rkI p.order x.code) : 0 ≤ fpF p k ms x := by
  refine misBin_nonneg (fun m h => (misOk_good' hm m h).1) x _ ?_
  have := binI_rank (p := p) (c := x.code) (k := k.toNat) (planOk_bins (misOk_iff.1 hm).1).1
  omega
/-- Behind the passes before and the faulty one, the letters with a rank are those that have one. -/
theorem bef_mem {p : Pln} {xs : List Ltr} {k : Int} {ms : List Mis} (hm : misOk p ms = true) {x : Ltr} (hx : 0 ≤ rkI p.order x.code) : x ∈ (befBins p xs k ms).flatten ↔ x ∈ xs := by
  have hb := planOk_bins (misOk_iff.1 hm).1
  unfold befBins
  rw [binsOf_mem, passesN_mem' hb.1 _ _ _ _ hx]
  have h1 := fpF_range (k := k) hm x
  have h2 := fpF_ranked (k := k) hm hx
  exact ⟨fun h => h.1, fun h => ⟨h, h2, by omega⟩⟩
theorem rpd_mem {p : Pln} {xs : List Ltr} {k : Int} {ms : List Mis} (h : fpOk p xs k ms = true) (x : Ltr) : x ∈ rpdRound p xs k ms ↔ x ∈ xs ∧ 0 ≤ rkI p.order x.code := by
  obtain ⟨⟨hp, k0, k1⟩, hx, hm⟩ := fpOk_iff.1 h
  have hb := planOk_bins hp
  have hk := binI_rank (p := p) (c := x.code) (k := k.toNat) hb.1
  have hr := rbF_range hb.1 k x
  unfold rpdRound
  rw [if_pos h]
  constructor
  · intro h1
    have key : x ∈ (repBins (rbF p k) (befBins p xs k ms)).flatten := by
      cases hn : p.passes.toNat - (k.toNat + 1) with
      | zero => rw [hn] at h1; exact h1
      | succ n => rw [hn] at h1; exact ((passesN_mem hb.1 n _ _ x).1 h1).1
    obtain ⟨g1, g2, _⟩ := rep_mem.1 key
    have hrk : 0 ≤ rkI p.order x.code := by
      unfold rbF at g2
      omega
    exact ⟨(bef_mem hm hrk).1 g1, hrk⟩
  · rintro ⟨h1, h2⟩
    rw [passesN_mem' hb.1 _ _ _ _ h2, rep_mem]
    refine ⟨(bef_mem hm h2).2 h1, ?_, ?_⟩
    · unfold rbF; omega
    · rw [befBins_len]; omega
theorem rp_mem {p : Pln} {xs : List Ltr} (h : rpOk p xs = true) (x : Ltr) : x ∈ rpRound p xs ↔ x ∈ xs ∧ 0 ≤ rkI p.order x.code := by
  have hp : planOk p = true := by unfold rpOk at h; simp only [Bool.and_eq_true] at h; exact h.1
  have hb := planOk_bins hp
  unfold rpRound
  rw [if_pos h]
  obtain ⟨n, hn⟩ : ∃ n, p.passes.toNat = n + 1 := ⟨p.passes.toNat - 1, by omega⟩
  rw [hn]
  exact passesN_mem hb.1 n 0 xs x
theorem rr_mem {p : Pln} {xs : List Ltr} {k : Int} {ms : List Mis} (h : fpOk p xs k ms = true) (x : Ltr) : x ∈ rrRound p xs k ms ↔ x ∈ xs ∧ 0 ≤ rkI p.order x.code := by
  obtain ⟨⟨hp, k0, k1⟩, hx, hm⟩ := fpOk_iff.1 h
  have hb := planOk_bins hp
  unfold rrRound
  rw [if_pos h]
  obtain ⟨n, hn⟩ : ∃ n, p.passes.toNat = n + 1 := ⟨p.passes.toNat - 1, by omega⟩
  rw [hn, passesN_mem hb.1 n 0 _ x]
  constructor
  · rintro ⟨a, b⟩; exact ⟨(bef_mem hm b).1 a, b⟩
  · rintro ⟨a, b⟩; exact ⟨(bef_mem hm b).2 a, b⟩
theorem fpOk_rp {p : Pln} {xs : List Ltr} {k : Int} {ms : List Mis} (h : fpOk p xs k ms = true) : rpOk p xs = true := by
  obtain ⟨⟨hp, _⟩, hx, _⟩ := fpOk_iff.1 h
  unfold rpOk
  rw [hp, hx]; rfl
theorem okB_rp {p : Pln} {xs : List Ltr} (h : rpOk p xs = true) : okB (rpRound p xs) = true := by
  unfold rpRound
  rw [if_pos h]
  unfold rpOk at h
  simp only [Bool.and_eq_true] at h
  exact okB_passesN p _ _ _ h.2
theorem okB_rpd {p : Pln} {xs : List Ltr} {k : Int} {ms : List Mis} (h : fpOk p xs k ms = true) : okB (rpdRound p xs k ms) = true := by
  unfold rpdRound
  rw [if_pos h]
  exact okB_passesN p _ _ _ (okB_repBins _ _ (okB_befBins (fpOk_iff.1 h).2.1))
theorem okB_rr {p : Pln} {xs : List Ltr} {k : Int} {ms : List Mis} (h : fpOk p xs k ms = true) : okB (rrRound p xs k ms) = true := by
  unfold rrRound
  rw [if_pos h]
  exact okB_passesN p _ _ _ (okB_befBins (fpOk_iff.1 h).2.1)
theorem rpd_same {p : Pln} {xs : List Ltr} {k : Int} {ms : List Mis} (h : fpOk p xs k ms = true) : sameL (rpdRound p xs k ms) (rpRound p xs) :=
  sameL_of (okB_rpd h) (okB_rp (fpOk_rp h)) fun x => (rpd_mem h x).trans (rp_mem (fpOk_rp h) x).symm
theorem rr_same {p : Pln} {xs : List Ltr} {k : Int} {ms : List Mis} (h : fpOk p xs k ms = true) : sameL (rrRound p xs k ms) (rpRound p xs) :=
  sameL_of (okB_rr h) (okB_rp (fpOk_rp h)) fun x => (rr_mem h x).trans (rp_mem (fpOk_rp h) x).symm
theorem rr_ord {p : Pln} {xs : List Ltr} {k : Int} {ms : List Mis} (h : fpOk p xs k ms = true) : inOrd p (rrRound p xs k ms) := by
  unfold rrRound
  rw [if_pos h]
  exact passes_all (fpOk_iff.1 h).1.1 _
theorem rp_ord {p : Pln} {xs : List Ltr} (h : rpOk p xs = true) : inOrd p (rpRound p xs) := by
  have hp : planOk p = true := by unfold rpOk at h; simp only [Bool.and_eq_true] at h; exact h.1
  unfold rpRound
  rw [if_pos h]
  exact passes_all hp _
theorem rep_ranked {p : Pln} (hb : 2 ≤ p.bins) (k : Int) (xss : List (List Ltr)) : ∀ x ∈ (repBins (rbF p k) xss).flatten, 0 ≤ rkI p.order x.code := fun x hx => by
  have h1 := (rep_mem.1 hx).2.1
  have := binI_rank (p := p) (c := x.code) (k := k.toNat) hb
  unfold rbF at h1
  omega
theorem low_one {p : Pln} (hb : 2 ≤ p.bins) (x : Ltr) (h : 0 ≤ rkI p.order x.code) : low p 1 x = binI p x.code 0 := by
  rw [low_succ hb 0 x h, low_zero, show powI p.bins 0 = 1 from rfl]
  omega
/-- If the faults of the first pass are repaired, the round is in order. -/
theorem rpd_first {p : Pln} {xs : List Ltr} {ms : List Mis} (h : fpOk p xs 0 ms = true) : inOrd p (rpdRound p xs 0 ms) := by
  obtain ⟨⟨hp, k0, k1⟩, hx, hm⟩ := fpOk_iff.1 h
  have hb := planOk_bins hp
  unfold rpdRound
  rw [if_pos h]
  have hr := rep_ranked hb.1 0 (befBins p xs 0 ms)
  refine passes_sort' hp (by show 0 + 1 + _ = _; simp only [show (0 : Int).toNat = 0 from rfl]; omega) hr ?_
  refine (rows_asc (rep_right (rbF p 0) (befBins p xs 0 ms))).imp_of_mem fun {x y} hx hy h1 => ?_
  show low p 1 x ≤ low p 1 y
  rw [low_one hb.1 x (hr x hx), low_one hb.1 y (hr y hy)]
  exact h1
/-- Without missorts the repaired round is the round. -/
theorem rpd_none {p : Pln} {xs : List Ltr} {k : Int} (h : fpOk p xs k [] = true) : rpdRound p xs k [] = rpRound p xs := by
  obtain ⟨⟨hp, k0, k1⟩, hx, hm⟩ := fpOk_iff.1 h
  have e : befBins p xs k [] = binsOf (rbF p k) p.bins.toNat (passesN p 0 k.toNat xs) := rfl
  unfold rpdRound rpRound
  rw [if_pos h, if_pos (fpOk_rp h), e, (right_rep (binsOf_right _ _ _)).1]
  exact passesN_at p (by omega) xs
theorem misOk_nil {p : Pln} (h : planOk p = true) : misOk p [] = true := misOk_iff.2 ⟨h, by simp, fun j hj => by simp at hj⟩
theorem fpOk_nil {p : Pln} {xs : List Ltr} {k : Int} {ms : List Mis} (h : fpOk p xs k ms = true) : fpOk p xs k [] = true := by
  obtain ⟨h1, hx, hm⟩ := fpOk_iff.1 h
  exact fpOk_iff.2 ⟨h1, hx, misOk_nil h1.1⟩
theorem fpOk_at {p : Pln} {xs : List Ltr} {k : Int} {ms : List Mis} (h : fpOk p xs k ms = true) {j : Int} (h0 : 0 ≤ j) (h1 : j < p.passes) : fpOk p xs j ms = true := by
  obtain ⟨h2, hx, hm⟩ := fpOk_iff.1 h
  exact fpOk_iff.2 ⟨⟨h2.1, h0, h1⟩, hx, hm⟩
/-! ### The last pass -/
theorem misBin_miss {ms : List Mis} {x : Ltr} {b : Int} (h : misBin ms x b ≠ b) : ∃ m ∈ ms, m.id = x.id := by
  refine Classical.byContradiction fun hn => h (misBin_none (fun m hm e => hn ⟨m, hm, e⟩) b)
theorem kept_rows_sub (f : Ltr → Int) (xss : List (List Ltr)) : (keptTo f xss xss.length).flatten.Sublist (repBins f xss).flatten := by
  have key : ∀ (n : Nat) (L M : List (List Ltr)), L.length = n → M.length = n → (∀ k (h1 : k < L.length) (h2 : k < M.length), (L[k]).Sublist M[k]) → L.flatten.Sublist M.flatten := by
    intro n
    induction n with
    | zero => intro L M hL hM _; rw [List.length_eq_zero_iff.1 hL, List.length_eq_zero_iff.1 hM]; exact List.Sublist.refl _
    | succ n ih =>
      intro L M hL hM h
      cases L with
      | nil => simp at hL
      | cons l L => cases M with
        | nil => simp at hM
        | cons m M =>
          simp only [List.flatten_cons]
          exact (h 0 (by simp) (by simp)).append (ih L M (by simpa using hL) (by simpa using hM) fun k h1 h2 => h (k + 1) (by simpa using h1) (by simpa using h2))
  refine key xss.length _ _ (keptTo_len _ _ _) (repBins_len _ _) fun k h1 h2 => ?_
  have hk : k < xss.length := by rw [keptTo_len] at h1; exact h1
  rw [repBins_get _ _ _ _ hk, keptTo_get, if_pos hk]
  simp only [List.getD_eq_getElem?_getD, List.getElem?_eq_getElem hk, Option.getD_some]
  exact List.sublist_append_left _ _
theorem kept_flat_len (f : Ltr → Int) (xss : List (List Ltr)) : (repBins f xss).flatten.length ≤ (keptTo f xss xss.length).flatten.length + (wlTo f xss xss.length).length := by
  unfold repBins
  rw [addTo_flat]
  have := flatten_length_binsOf (f := f) (n := (keptTo f xss xss.length).length) (wlTo f xss xss.length)
  omega
theorem wl_len_mis {p : Pln} {xs : List Ltr} {k : Int} {ms : List Mis} (h : fpOk p xs k ms = true) : (wlTo (rbF p k) (befBins p xs k ms) (befBins p xs k ms).length).length ≤ ms.length := by
  have hp := (okB_pw.1 (okB_befBins (p := p) (k := k) (ms := ms) (fpOk_iff.1 h).2.1)).2.2
  have hw := hp.sublist (wlTo_sub' (rbF p k) (befBins p xs k ms))
  have h1 := len_le_of_sub (l := (wlTo (rbF p k) (befBins p xs k ms) (befBins p xs k ms).length).map Ltr.id) (m := ms.map Mis.id) (by rw [List.pairwise_map]; exact hw) ?_
  · simpa using h1
  · intro n hn
    obtain ⟨x, hx, rfl⟩ := List.mem_map.1 hn
    obtain ⟨i, hi, hxi, hne⟩ := wlTo_mem hx (Nat.le_refl _)
    have h2 : fpF p k ms x = (i : Int) := by
      unfold befBins at hxi hi
      exact binsOf_right _ _ _ i hi x hxi
    obtain ⟨m, hm, e⟩ := misBin_miss (ms := ms) (x := x) (b := binI p x.code k.toNat) (by
      intro e
      unfold fpF at h2
      rw [e] at h2
      exact hne h2)
    exact List.mem_map.2 ⟨m, hm, e⟩
/-- The letters that the faulty last pass put right are in order. -/
theorem kept_ord {p : Pln} {xs : List Ltr} {k : Int} {ms : List Mis} (h : fpOk p xs k ms = true) (hl : k + 1 = p.passes) : inOrd p (keptTo (rbF p k) (befBins p xs k ms) (befBins p xs k ms).length).flatten := by
  obtain ⟨⟨hp, k0, k1⟩, hx, hm⟩ := fpOk_iff.1 h
  have hb := planOk_bins hp
  have hkp : p.passes.toNat = k.toNat + 1 := by omega
  have hrk : ∀ x ∈ (keptTo (rbF p k) (befBins p xs k ms) (befBins p xs k ms).length).flatten, 0 ≤ rkI p.order x.code := fun x hx => rep_ranked hb.1 k _ x ((kept_rows_sub _ _).subset hx)
  refine inOrd_of_low hp hrk ?_
  rw [hkp]
  have hlow := passes_low hb.1 k.toNat 0 xs (low_any p xs)
  rw [Nat.zero_add] at hlow
  have hget : ∀ i (hi : i < (keptTo (rbF p k) (befBins p xs k ms) (befBins p xs k ms).length).length), (keptTo (rbF p k) (befBins p xs k ms) (befBins p xs k ms).length)[i] = kpRow (rbF p k) i ((passesN p 0 k.toNat xs).filter fun x => fpF p k ms x == (i : Int)) := fun i hi => by
    have hi' : i < (befBins p xs k ms).length := by rw [keptTo_len] at hi; exact hi
    rw [keptTo_get, if_pos hi']
    simp only [List.getD_eq_getElem?_getD, List.getElem?_eq_getElem hi', Option.getD_some]
    congr 1
    exact binsOf_get _ _ _ _ hi'
  have hrow : ∀ i (hi : i < (keptTo (rbF p k) (befBins p xs k ms) (befBins p xs k ms).length).length), ∀ x ∈ (keptTo (rbF p k) (befBins p xs k ms) (befBins p xs k ms).length)[i], binI p x.code k.toNat = (i : Int) ∧ 0 ≤ rkI p.order x.code := fun i hi x hx => by
    refine ⟨?_, hrk x (List.mem_flatten.2 ⟨_, List.getElem_mem hi, hx⟩)⟩
    rw [hget i hi] at hx
    have := (List.mem_filter.1 hx).2
    simp only [beq_iff_eq] at this
    exact this
  rw [List.pairwise_flatten]
  constructor
  · intro ys hys
    obtain ⟨i, hi, rfl⟩ := List.getElem_of_mem hys
    have h1 := hrow i hi
    have h2 : ((keptTo (rbF p k) (befBins p xs k ms) (befBins p xs k ms).length)[i]).Pairwise fun x y => low p k.toNat x ≤ low p k.toNat y := by
      rw [hget i hi]
      exact (hlow.filter _).filter _
    refine h2.imp_of_mem fun {x y} hx hy h3 => ?_
    obtain ⟨a1, a2⟩ := h1 x hx
    obtain ⟨b1, b2⟩ := h1 y hy
    rw [low_succ hb.1 _ x a2, low_succ hb.1 _ y b2, a1, b1]
    omega
  · rw [List.pairwise_iff_getElem]
    intro i j hi hj hij x hx y hy
    obtain ⟨a1, a2⟩ := hrow i hi x hx
    obtain ⟨b1, b2⟩ := hrow j hj y hy
    rw [low_succ hb.1 _ x a2, low_succ hb.1 _ y b2, a1, b1]
    have l1 := low_range hb.1 k.toNat x
    have l2 := low_range hb.1 k.toNat y
    have h3 : powI p.bins k.toNat * ((i : Int) + 1) ≤ powI p.bins k.toNat * (j : Int) := Int.mul_le_mul_of_nonneg_left (by omega) (by have := powI_pos hb.1 k.toNat; omega)
    rw [Int.mul_add] at h3
    omega
theorem rpd_last {p : Pln} {xs : List Ltr} {k : Int} {ms : List Mis} (h : fpOk p xs k ms = true) (hl : k + 1 = p.passes) : rpdRound p xs k ms = (repBins (rbF p k) (befBins p xs k ms)).flatten := by
  unfold rpdRound
  rw [if_pos h, show p.passes.toNat - (k.toNat + 1) = 0 by omega]
  rfl
theorem rpd_last_moved {p : Pln} {xs : List Ltr} {k : Int} {ms : List Mis} (h : fpOk p xs k ms = true) (hl : k + 1 = p.passes) : (rpdRound p xs k ms).length ≤ keptN p (rpdRound p xs k ms) + ms.length := by
  rw [rpd_last h hl]
  have h1 := keptN_ge (kept_rows_sub (rbF p k) (befBins p xs k ms)) (kept_ord h hl)
  have h2 := kept_flat_len (rbF p k) (befBins p xs k ms)
  have h3 := wl_len_mis h
  omega
theorem rpd_last_asc {p : Pln} {xs : List Ltr} {k : Int} {ms : List Mis} (h : fpOk p xs k ms = true) (hl : k + 1 = p.passes) : (rpdRound p xs k ms).Pairwise fun x y => rbF p k x ≤ rbF p k y := by
  rw [rpd_last h hl]
  exact rows_asc (rep_right _ _)
/-! ### FnMissortsValid -/
def rngM (bins : Int) (m : Mis) : Bool := (decide (1 ≤ m.id) && decide (m.id ≤ 9999)) && (decide (0 ≤ m.bin) && decide (m.bin < bins))
theorem misOk_one {p : Pln} (h : planOk p = true) (m : Mis) : misOk p [m] = rngM p.bins m := by
  unfold misOk rngM
  rw [h]
  simp [goodM, List.range_succ]
def mvTo (p : Pln) (ms : List Mis) (i : Nat) : Bool := planOk p && decide (ms.length ≤ 60) && (List.range i).all (goodM p.bins ms)
theorem mvTo_zero (p : Pln) (ms : List Mis) : mvTo p ms 0 = (planOk p && decide (ms.length ≤ 60)) := by unfold mvTo; simp
theorem mvTo_all (p : Pln) (ms : List Mis) : mvTo p ms ms.length = misOk p ms := rfl
/-- Within round i: the first k have been looked at. -/
def mvIn (p : Pln) (ms : List Mis) (i k : Nat) : Bool := match ms[i]? with
  | none => false
  | some m => mvTo p ms i && rngM p.bins m && (ms.take k).all (fun y => y.id != m.id)
theorem mvIn_zero {p : Pln} {ms : List Mis} {i : Nat} (h : i < ms.length) : mvIn p ms i 0 = (mvTo p ms i && rngM p.bins ms[i]) := by
  unfold mvIn; rw [List.getElem?_eq_getElem h]; simp
theorem mvIn_succ {p : Pln} {ms : List Mis} {i k : Nat} (h : i < ms.length) (hk : k < ms.length) : mvIn p ms i (k + 1) = (mvIn p ms i k && (ms[k].id != ms[i].id)) := by
  unfold mvIn
  rw [List.getElem?_eq_getElem h]
  simp only []
  rw [take_all_succ _ _ hk, Bool.and_assoc, Bool.and_assoc, Bool.and_assoc]
theorem mvIn_all {p : Pln} {ms : List Mis} {i : Nat} (h : i < ms.length) : mvIn p ms i i = mvTo p ms (i + 1) := by
  unfold mvIn mvTo
  rw [List.getElem?_eq_getElem h]
  simp only [List.range_succ, List.all_append, List.all_cons, List.all_nil, Bool.and_true]
  rw [goodM_of h, rngM, Bool.and_assoc, Bool.and_assoc]
theorem mvTo_plan {p : Pln} {ms : List Mis} {i : Nat} (h : mvTo p ms i = true) : planOk p = true := by
  unfold mvTo at h
  simp only [Bool.and_eq_true] at h
  exact h.1.1

/-! ### FnFaultyPass -/
theorem fp_none (p : Pln) (k : Int) : fpF p k [] = rbF p k := rfl
theorem fp_nil_bins {p : Pln} {xs : List Ltr} {k : Int} {ms : List Mis} (h : fpOk p xs k ms = true) : fpBins p xs k [] = ppBins p xs k ∧ fpRest p xs k [] = ppRest p xs k ∧ ppOk p xs k = true := by
  have h1 := fpOk_nil h
  have h2 : ppOk p xs k = true := by
    unfold ppOk
    rw [passOk_iff.2 (fpOk_iff.1 h).1, (fpOk_iff.1 h).2.1]; rfl
  unfold fpBins fpRest ppBins ppRest
  rw [if_pos h1, if_pos h1, if_pos h2, if_pos h2]
  exact ⟨rfl, rfl, h2⟩
/-- All letters of a pass: those that fell out, and those in the bins. -/
theorem bins_same {f : Ltr → Int} {n : Nat} {xs : List Ltr} (h : okB xs = true) (hf : ∀ x, f x < n) : sameL (restOf f xs ++ (binsOf f n xs).flatten) xs := by
  have hp := (okB_pw.1 h).2.2
  have hsub : ∀ x ∈ restOf f xs ++ (binsOf f n xs).flatten, x ∈ xs := fun x hx => by
    rcases List.mem_append.1 hx with hx | hx
    · exact (List.mem_filter.1 hx).1
    · exact (binsOf_mem.1 hx).1
  refine ⟨hsub, len_same ?_ hp fun x => ⟨hsub x, fun hx => ?_⟩⟩
  · rw [List.pairwise_append]
    refine ⟨hp.filter _, (okB_pw.1 (okB_binsOf f n h)).2.2, fun x hx y hy e => ?_⟩
    have := pw_inj hp x (List.mem_filter.1 hx).1 y (binsOf_mem.1 hy).1 e
    subst this
    have h1 := (List.mem_filter.1 hx).2
    have h2 := (binsOf_mem.1 hy).2.1
    simp only [decide_eq_true_iff] at h1
    omega
  · by_cases h0 : 0 ≤ f x
    · exact List.mem_append.2 (.inr (binsOf_mem.2 ⟨hx, h0, hf x⟩))
    · exact List.mem_append.2 (.inl (List.mem_filter.2 ⟨hx, by simp; omega⟩))
theorem fp_same {p : Pln} {xs : List Ltr} {k : Int} {ms : List Mis} (h : fpOk p xs k ms = true) : sameL (fpRest p xs k ms ++ (fpBins p xs k ms).flatten) xs := by
  obtain ⟨⟨hp, _⟩, hx, hm⟩ := fpOk_iff.1 h
  have hb := planOk_bins hp
  unfold fpRest fpBins
  rw [if_pos h, if_pos h]
  exact bins_same hx fun x => by have := fpF_range (k := k) hm x; omega
theorem fp_due {p : Pln} {xs : List Ltr} {k : Int} {ms : List Mis} (h : fpOk p xs k ms = true) {j i : Nat} (hj : j < (fpBins p xs k ms).length) (hi : i < (fpBins p xs k ms)[j].length) : fpF p k ms (fpBins p xs k ms)[j][i] = (j : Int) := by
  have e : fpBins p xs k ms = binsOf (fpF p k ms) p.bins.toNat xs := by unfold fpBins; rw [if_pos h]
  have := binsOf_right (fpF p k ms) p.bins.toNat xs
  rw [← e] at this
  exact this j hj _ (List.getElem_mem hi)

/-! ### FnWrong -/
theorem wrong_wl (f : Ltr → Int) (xss : List (List Ltr)) : ∀ n, wrongTo f xss n = (wlTo f xss n).map Ltr.id
  | 0 => rfl
  | n + 1 => by
    unfold wrongTo wlTo
    rw [List.range_succ, List.flatMap_append, List.flatMap_append, List.map_append]
    have := wrong_wl f xss n
    unfold wrongTo wlTo at this
    rw [this]
    simp [wrongRow, wlRow]
def missedM (p : Pln) (xs : List Ltr) (k : Int) (m : Mis) : Bool := xs.any fun x => x.id == m.id && binI p x.code k.toNat != m.bin
theorem missedM_none {p : Pln} {xs : List Ltr} {k : Int} {m : Mis} (h : ∀ x ∈ xs, x.id ≠ m.id) : missedM p xs k m = false := by
  unfold missedM
  rw [List.any_eq_false]
  intro x hx
  simp [h x hx]
theorem missedM_at {p : Pln} {xs : List Ltr} {k : Int} {m : Mis} (hx : okB xs = true) {j : Nat} (hj : j < xs.length) (e : xs[j].id = m.id) : missedM p xs k m = (binI p xs[j].code k.toNat != m.bin) := by
  unfold missedM
  rw [Bool.eq_iff_iff, List.any_eq_true]
  constructor
  · rintro ⟨x, h1, h2⟩
    simp only [Bool.and_eq_true, beq_iff_eq] at h2
    have := pw_inj (okB_pw.1 hx).2.2 x h1 xs[j] (List.getElem_mem hj) (h2.1.trans e.symm)
    rw [← this]
    exact h2.2
  · intro h
    exact ⟨xs[j], List.getElem_mem hj, by simp only [Bool.and_eq_true, beq_iff_eq]; exact ⟨e, h⟩⟩
theorem fpF_eq {p : Pln} {k : Int} {ms : List Mis} (hm : misOk p ms = true) {m : Mis} (h : m ∈ ms) {x : Ltr} (e : m.id = x.id) : fpF p k ms x = m.bin := by
  obtain ⟨j, hj, rfl⟩ := List.getElem_of_mem h
  exact misBin_hit hj e (misOk_ids hm) _
theorem missed_iff {p : Pln} {xs : List Ltr} {k : Int} {ms : List Mis} (h : fpOk p xs k ms = true) (n : Int) : n ∈ wrongL p (fpBins p xs k ms) k ↔ n ∈ (ms.filter (missedM p xs k)).map Mis.id := by
  obtain ⟨⟨hp, k0, k1⟩, hx, hm⟩ := fpOk_iff.1 h
  have hb := planOk_bins hp
  have e : fpBins p xs k ms = binsOf (fpF p k ms) p.bins.toNat xs := by unfold fpBins; rw [if_pos h]
  have hok : binsOk p (fpBins p xs k ms) k = true := by
    rw [e]
    exact binsOk_iff.2 ⟨passOk_iff.2 ⟨hp, k0, k1⟩, binsOf_len _ _ _, okB_binsOf _ _ hx⟩
  rw [wrongL_yes hok, wrong_mem]
  constructor
  · rintro ⟨i, hi, x, hxi, hne, rfl⟩
    have h1 : x ∈ xs ∧ fpF p k ms x = (i : Int) := by
      have h2 := hxi
      simp only [e] at h2
      rw [binsOf_get] at h2
      obtain ⟨a, b⟩ := List.mem_filter.1 h2
      exact ⟨a, by simpa using b⟩
    obtain ⟨m, hmm, em⟩ := misBin_miss (ms := ms) (x := x) (b := binI p x.code k.toNat) (by
      intro e3
      have h2 := h1.2
      unfold fpF at h2
      rw [e3] at h2
      exact hne h2)
    refine List.mem_map.2 ⟨m, List.mem_filter.2 ⟨hmm, ?_⟩, em⟩
    unfold missedM
    rw [List.any_eq_true]
    refine ⟨x, h1.1, ?_⟩
    simp only [Bool.and_eq_true, beq_iff_eq, bne_iff_ne]
    refine ⟨em.symm, fun e3 => hne ?_⟩
    show binI p x.code k.toNat = _
    rw [e3, ← fpF_eq (k := k) hm hmm em]
    exact h1.2
  · intro hn
    obtain ⟨m, hmf, rfl⟩ := List.mem_map.1 hn
    obtain ⟨hmm, hms⟩ := List.mem_filter.1 hmf
    unfold missedM at hms
    rw [List.any_eq_true] at hms
    obtain ⟨x, hxx, h2⟩ := hms
    simp only [Bool.and_eq_true, beq_iff_eq, bne_iff_ne] at h2
    have h3 := fpF_eq (k := k) hm hmm h2.1.symm
    have h4 := misOk_good' hm m hmm
    obtain ⟨i, hi⟩ := Int.eq_ofNat_of_zero_le h4.1
    have hil : i < (fpBins p xs k ms).length := by rw [e, binsOf_len]; omega
    refine ⟨i, hil, x, ?_, fun e3 => h2.2 ?_, h2.1⟩
    · simp only [e]
      rw [binsOf_get]
      exact List.mem_filter.2 ⟨hxx, by rw [h3, hi]; simp⟩
    · have e4 : binI p x.code k.toNat = (i : Int) := e3
      rw [e4, hi]
theorem missed_len {p : Pln} {xs : List Ltr} {k : Int} {ms : List Mis} (h : fpOk p xs k ms = true) : (ms.filter (missedM p xs k)).length = (wrongL p (fpBins p xs k ms) k).length := by
  obtain ⟨⟨hp, k0, k1⟩, hx, hm⟩ := fpOk_iff.1 h
  have e : fpBins p xs k ms = binsOf (fpF p k ms) p.bins.toNat xs := by unfold fpBins; rw [if_pos h]
  have hok : binsOk p (fpBins p xs k ms) k = true := by
    rw [e]
    exact binsOk_iff.2 ⟨passOk_iff.2 ⟨hp, k0, k1⟩, binsOf_len _ _ _, okB_binsOf _ _ hx⟩
  have hn1 : (wrongL p (fpBins p xs k ms) k).Pairwise (· ≠ ·) := by
    rw [wrongL_yes hok, wrong_wl, List.pairwise_map]
    exact ((okB_pw.1 (binsOk_iff.1 hok).2.2).2.2).sublist (wlTo_sub' _ _)
  have hn2 : ((ms.filter (missedM p xs k)).map Mis.id).Pairwise (· ≠ ·) := by
    rw [List.pairwise_map]
    refine List.Pairwise.filter _ ?_
    rw [List.pairwise_iff_getElem]
    exact fun i j hi hj hij => misOk_ids hm i j hi hj hij
  have h1 := len_le_of_sub hn1 fun n hn => (missed_iff h n).1 hn
  have h2 := len_le_of_sub hn2 fun n hn => (missed_iff h n).2 hn
  rw [List.length_map] at h1 h2
  omega

/-! ### FnKept, FnKeptMany -/
theorem okB_sub {xs ys : List Ltr} (h : okB xs = true) (hs : ys.Sublist xs) : okB ys = true := by
  obtain ⟨h1, h2, h3⟩ := okB_pw.1 h
  have := hs.length_le
  exact okB_pw.2 ⟨by omega, fun x hx => h2 x (hs.subset hx), h3.sublist hs⟩
theorem okB_erase {xs : List Ltr} (h : okB xs = true) (i : Nat) : okB (xs.eraseIdx i) = true := okB_sub h (List.eraseIdx_sublist xs i)
theorem erase_split {α : Type} (xs : List α) (i : Nat) (_ : i < xs.length) : xs.take i ++ xs.drop (i + 1) = xs.eraseIdx i := (List.eraseIdx_eq_take_drop_succ xs i).symm
theorem kept_round {p : Pln} {xs : List Ltr} (h : rpOk p xs = true) : keptN p xs ≤ (rpRound p xs).length := by
  have hp := h
  unfold rpOk at hp
  simp only [Bool.and_eq_true] at hp
  have h1 : (rpRound p xs).length = (xs.filter fun x => decide (0 ≤ rkI p.order x.code)).length :=
    len_same (okB_pw.1 (okB_rp h)).2.2 ((okB_pw.1 hp.2).2.2.filter _) fun x => by
      rw [rp_mem h, List.mem_filter]; simp
  obtain ⟨s, hs, ho, hl⟩ := lisK_some (ranksOf p xs)
  have h2 : (s.filter fun r => decide (0 ≤ r)) = s := List.filter_eq_self.2 fun r hr => by simpa using ho.1 r hr
  have h3 := (hs.filter fun r => decide (0 ≤ r)).length_le
  rw [h2] at h3
  have h4 : ((ranksOf p xs).filter fun r => decide (0 ≤ r)).length = (xs.filter fun x => decide (0 ≤ rkI p.order x.code)).length := by
    unfold ranksOf
    rw [List.filter_map, List.length_map]; rfl
  rw [keptN_lis]
  omega
/-- What taking out letters keeps: as many can stay, and each of the first i letters is needed. -/
def tightTo (p : Pln) (K : Nat) (ys : List Ltr) (i : Nat) : Prop := keptN p ys = K ∧ ∀ j, j < i → j < ys.length → keptN p (ys.eraseIdx j) < K
theorem tight_next {p : Pln} {K : Nat} {ys : List Ltr} {i : Nat} (h : tightTo p K ys i) (hi : i < ys.length) (hk : keptN p (ys.eraseIdx i) < keptN p ys) : tightTo p K ys (i + 1) := by
  refine ⟨h.1, fun j hj hl => ?_⟩
  by_cases e : j = i
  · subst e; rw [← h.1]; exact hk
  · exact h.2 j (by omega) hl
theorem erase_erase {α : Type} : ∀ (xs : List α) (i j : Nat), j < i → ((xs.eraseIdx i).eraseIdx j).Sublist (xs.eraseIdx j)
  | [], _, _, _ => List.Sublist.refl _
  | x :: xs, 0, j, h => by omega
  | x :: xs, i + 1, 0, h => by simpa using List.eraseIdx_sublist xs i
  | x :: xs, i + 1, j + 1, h => by simpa using erase_erase xs i j (by omega)
theorem tight_drop {p : Pln} {K : Nat} {ys : List Ltr} {i : Nat} (h : tightTo p K ys i) (hi : i < ys.length) (hk : ¬ keptN p (ys.eraseIdx i) < keptN p ys) : tightTo p K (ys.eraseIdx i) i := by
  have h1 := keptN_mono (p := p) (List.eraseIdx_sublist ys i)
  refine ⟨by rw [← h.1]; omega, fun j hj hl => ?_⟩
  have h2 := keptN_mono (p := p) (erase_erase ys i j hj)
  have h3 := h.2 j hj (by omega)
  omega
theorem tight_end {p : Pln} {K : Nat} {ys : List Ltr} (h : tightTo p K ys ys.length) : ys.length = K ∧ inOrd p ys := by
  have h1 := keptN_tight (p := p) (xs := ys) fun i hi => by rw [h.1]; exact h.2 i hi hi
  exact ⟨by rw [← h1, h.1], keptN_full.1 h1⟩

end Go.Proofs.Ytmangjjaijhcnaa
