/- Ranks and bins of codes; missorts; letters that can stay. Plain facts. -/
import Derived.Test.YtiaepapdofcnjaaL1
namespace Go.Proofs.Ytiaepapdofcnjaa
open Go.RowKit

/-- The index of the first string that is c; the length if there is none. -/
def rk : List ByteArray → ByteArray → Nat
  | [], _ => 0
  | d :: ds, c => if sEq d c then 0 else rk ds c + 1
theorem rk_cons (d : ByteArray) (ds : List ByteArray) (c : ByteArray) : rk (d :: ds) c = if sEq d c then 0 else rk ds c + 1 := rfl
theorem rk_le : ∀ (cs : List ByteArray) (c : ByteArray), rk cs c ≤ cs.length
  | [], _ => Nat.le_refl _
  | d :: ds, c => by unfold rk; split; · exact Nat.zero_le _
                     · have := rk_le ds c; simp; omega
theorem rk_before : ∀ (cs : List ByteArray) (c : ByteArray) (k : Nat) (h : k < cs.length), k < rk cs c → sEq cs[k] c = false
  | [], _, k, h, _ => absurd h (Nat.not_lt_zero k)
  | d :: ds, c, 0, _, hk => by
    unfold rk at hk
    split at hk
    · omega
    · rename_i h
      simpa using h
  | d :: ds, c, k + 1, h, hk => by
    unfold rk at hk
    split at hk
    · omega
    · exact rk_before ds c k (by simpa using h) (by omega)
theorem rk_at : ∀ (cs : List ByteArray) (c : ByteArray) (h : rk cs c < cs.length), sEq cs[rk cs c] c = true
  | [], _, h => absurd h (Nat.not_lt_zero _)
  | d :: ds, c, h => by
    by_cases hd : sEq d c = true
    · have e : rk (d :: ds) c = 0 := by rw [rk_cons, if_pos hd]
      simp only [e]
      exact hd
    · have e : rk (d :: ds) c = rk ds c + 1 := by rw [rk_cons, if_neg hd]
      have h' : rk ds c < ds.length := by rw [e] at h; simpa using h
      simp only [e]
      exact rk_at ds c h'
theorem rk_eq {cs : List ByteArray} {c : ByteArray} {k : Nat} (h : k < cs.length) (h1 : ∀ j (hj : j < k), sEq cs[j] c = false) (h2 : sEq cs[k] c = true) : rk cs c = k := by
  rcases Nat.lt_trichotomy (rk cs c) k with hlt | heq | hgt
  · have := h1 _ hlt
    rw [rk_at cs c (by omega)] at this
    cases this
  · exact heq
  · have := rk_before cs c k h hgt
    rw [h2] at this
    cases this
theorem rk_none {cs : List ByteArray} {c : ByteArray} (h : ∀ j (hj : j < cs.length), sEq cs[j] c = false) : rk cs c = cs.length := by
  rcases Nat.lt_or_eq_of_le (rk_le cs c) with hlt | heq
  · have := h _ hlt
    rw [rk_at cs c hlt] at this
    cases this
  · exact heq
/-- Go's slices.Index: -1 if there is none. -/
def rkI (cs : List ByteArray) (c : ByteArray) : Int := if rk cs c < cs.length then (rk cs c : Int) else -1
theorem rkI_pos {cs : List ByteArray} {c : ByteArray} (h : rk cs c < cs.length) : rkI cs c = (rk cs c : Int) := by unfold rkI; rw [if_pos h]
theorem rkI_neg {cs : List ByteArray} {c : ByteArray} (h : ¬ rk cs c < cs.length) : rkI cs c = -1 := by unfold rkI; rw [if_neg h]
theorem rkI_range (cs : List ByteArray) (c : ByteArray) : -1 ≤ rkI cs c ∧ rkI cs c < cs.length := by
  unfold rkI
  split <;> omega
/-- The bin of a code in a pass; -1 if it has no rank. -/
def binI (p : Pln) (c : ByteArray) (pass : Nat) : Int := if rkI p.order c < 0 then -1 else rkI p.order c / powI p.bins pass % p.bins

/-! ### Missorts -/
def goodM (bins : Int) (ms : List Mis) (k : Nat) : Bool :=
  match ms[k]? with
  | none => false
  | some x => (decide (1 ≤ x.id) && decide (x.id ≤ 9999)) && (decide (0 ≤ x.bin) && decide (x.bin < bins)) && (ms.take k).all (fun y => y.id != x.id)
def misOk (p : Pln) (ms : List Mis) : Bool := planOk p && decide (ms.length ≤ 60) && (List.range ms.length).all (goodM p.bins ms)
theorem misOk_bad {p : Pln} {ms : List Mis} {k : Nat} (hk : k < ms.length) (h : goodM p.bins ms k = false) : misOk p ms = false := by
  unfold misOk
  rw [Bool.and_eq_false_iff]
  exact .inr (List.all_eq_false.2 ⟨k, by simpa using hk, by simp [h]⟩)
theorem misOk_good {p : Pln} {ms : List Mis} (hp : planOk p = true) (h60 : ms.length ≤ 60) (h : ∀ j, j < ms.length → goodM p.bins ms j = true) : misOk p ms = true := by
  unfold misOk
  rw [hp, decide_eq_true h60]
  exact List.all_eq_true.2 fun k hk => h k (by simpa using hk)
theorem misOk_plan {p : Pln} {ms : List Mis} (h : planOk p = false) : misOk p ms = false := by unfold misOk; rw [h]; rfl
theorem misOk_len {p : Pln} {ms : List Mis} (h : ¬ ms.length ≤ 60) : misOk p ms = false := by unfold misOk; rw [decide_eq_false h]; simp
theorem goodM_of {bins : Int} {ms : List Mis} {k : Nat} (hk : k < ms.length) : goodM bins ms k = ((decide (1 ≤ ms[k].id) && decide (ms[k].id ≤ 9999)) && (decide (0 ≤ ms[k].bin) && decide (ms[k].bin < bins)) && (ms.take k).all (fun y => y.id != ms[k].id)) := by
  unfold goodM
  rw [List.getElem?_eq_getElem hk]
theorem planOk_iff {p : Pln} : planOk p = true ↔ (2 ≤ p.bins ∧ p.bins ≤ 16 ∧ 1 ≤ p.passes ∧ p.passes ≤ 4) ∧ (1 ≤ p.order.length ∧ p.order.length ≤ 60) ∧ (p.order.length : Int) ≤ powI p.bins p.passes.toNat ∧ codesOk p.order = true := by
  unfold planOk
  simp only [Bool.and_eq_true, decide_eq_true_iff, shapeOk_iff]
  constructor
  · rintro ⟨⟨⟨h1, h2⟩, h3⟩, h4⟩; exact ⟨h1, h2, h3, h4⟩
  · rintro ⟨h1, h2, h3, h4⟩; exact ⟨⟨⟨h1, h2⟩, h3⟩, h4⟩

end Go.Proofs.Ytiaepapdofcnjaa
