/- SO M3 -/
import Derived.Test.YtffbcfaahegglaaGreatDoorQ27
import Derived.Test.YtffbcfaahegglaaGreatDoorQ29
import Derived.Test.YtffbcfaahegglaaGreatDoorQ11
import Derived.Deep.RegionHeld3
import Derived.Test.YtffbcfaahegglaaGreatDoorQ15
namespace Go.Proofs.YtffbcfaahegglaaGreatDoor
open Go.RowKit

theorem so_batch (v v' : Value) (xs : List Ltr) (w : World) (hv : rd w w.heap.size v xs) (hv' : rd w w.heap.size v' xs) :
    Calls Tryz.prog 30 #[v, v'] w fun e w' => e = .returned (.bool true) ∧ Below w.heap.size w w' := by
  refine (laws_soBatch _ _ _ _ _ hv hv').mono ?_
  rw [(eqBy_iff ltrEq_iff).2 rfl]
  exact fun e w' h => h




theorem findI_cases {b : List Ltr} (h : okB b = true) (n : Int) : (findI b n = -1 ∧ ∀ x ∈ b, x.id ≠ n) ∨ ∃ k : Nat, ∃ hk : k < b.length, findI b n = k ∧ b[k].id = n := by
  unfold findI
  rw [if_pos h]
  have hr := fiI_range (fun x : Ltr => x.id == n) b
  by_cases h0 : fiI (fun x : Ltr => x.id == n) b < 0
  · exact .inl ⟨by omega, fun x hx e => by have := fiI_neg h0 x hx; simp [e] at this⟩
  · obtain ⟨k, hk⟩ := Int.eq_ofNat_of_zero_le (show 0 ≤ fiI (fun x : Ltr => x.id == n) b by omega)
    obtain ⟨h1, h2, _⟩ := fiI_spec hk
    exact .inr ⟨k, h1, hk, by simpa using h2⟩
/-- The place of a letter of a batch. -/
theorem findI_of {b : List Ltr} (h : okB b = true) {x : Ltr} (hx : x ∈ b) : ∃ k : Nat, ∃ hk : k < b.length, findI b x.id = k ∧ b[k] = x := by
  rcases findI_cases h x.id with ⟨_, h1⟩ | ⟨k, hk, h1, h2⟩
  · exact absurd rfl (h1 x hx)
  · exact ⟨k, hk, h1, pw_inj (okB_pw.1 h).2.2 _ (List.getElem_mem hk) x hx h2⟩




theorem no_iff {P : Prop} (h : ¬ P) : (false = true ↔ P) := ⟨fun e => (by cases e), fun e => absurd e h⟩
theorem yes_iff {P : Prop} (h : P) : (true = true ↔ P) := ⟨fun _ => h, fun _ => rfl⟩
/-- The first k letters are in order; last is the rank of the last one. -/
structure ordTo (p : Pln) (xs : List Ltr) (k : Nat) (last : Int) : Prop where
  ord : inOrd p (xs.take k)
  le : ∀ x ∈ xs.take k, rkI p.order x.code ≤ last
  nn : 0 ≤ last
  at_ : last = 0 ∨ ∃ x ∈ xs.take k, rkI p.order x.code = last
theorem ordTo.zero (p : Pln) (xs : List Ltr) : ordTo p xs 0 0 := ⟨by unfold inOrd ordered ranksOf; simp, by simp, Int.le_refl _, .inl rfl⟩
theorem ordTo.succ {p : Pln} {xs : List Ltr} {k : Nat} {last : Int} (h : ordTo p xs k last) (hk : k < xs.length) (hr : last ≤ rkI p.order xs[k].code) : ordTo p xs (k + 1) (rkI p.order xs[k].code) := by
  obtain ⟨h1, h2, h3, _⟩ := h
  have e := List.take_succ_eq_append_getElem hk
  refine ⟨?_, fun x hx => ?_, by omega, .inr ⟨xs[k], by rw [e]; exact List.mem_append_right _ (List.mem_singleton.2 rfl), rfl⟩⟩
  · unfold inOrd ranksOf at *
    rw [e, List.map_append]
    refine ordered.snoc (r := rkI p.order xs[k].code) h1 (by omega) fun r hr' => ?_
    obtain ⟨x, hx, rfl⟩ := List.mem_map.1 hr'
    have := h2 x hx
    show rkI p.order x.code ≤ _
    omega
  · rw [e] at hx
    rcases List.mem_append.1 hx with hx | hx
    · have := h2 x hx; omega
    · rw [List.mem_singleton.1 hx]; omega
theorem ordTo.bad {p : Pln} {xs : List Ltr} {k : Nat} {last : Int} (h : ordTo p xs k last) (hk : k < xs.length) (hr : rkI p.order xs[k].code < last) : ¬ inOrd p xs := by
  intro ho
  obtain ⟨o1, o2⟩ := inOrd_iff.1 ho
  have h0 := o1 xs[k] (List.getElem_mem hk)
  rcases h.at_ with e | ⟨x, hx, e⟩
  · omega
  · rw [List.mem_take_iff_getElem] at hx
    obtain ⟨j, hj, rfl⟩ := hx
    have := (List.pairwise_iff_getElem.1 o2) j k (by omega) hk (by omega)
    omega


end Go.Proofs.YtffbcfaahegglaaGreatDoor

namespace Go.Proofs.YtffbcfaahegglaaGreatDoor
open Go.RowKit

theorem ranks_get (p : Pln) (xs : List Ltr) (k : Nat) (h : k < xs.length) : (ranksOf p xs)[k]'(by unfold ranksOf; simpa using h) = rkI p.order xs[k].code := by simp [ranksOf]
theorem ranks_len (p : Pln) (xs : List Ltr) : (ranksOf p xs).length = xs.length := by simp [ranksOf]
/-- What one letter more does to the choice. -/
theorem ranks_step (p : Pln) (xs : List Ltr) (k : Nat) (h : k < xs.length) : runK ((ranksOf p xs).take (k + 1)) = stepK (runK ((ranksOf p xs).take k)) (rkI p.order xs[k].code) := by
  rw [runK_succ _ _ (by rw [ranks_len]; exact h), ranks_get p xs k h]
theorem stepK_neg {L : List (Nat × Nat)} {r : Int} (h : r < 0) : stepK L r = L := by unfold stepK; rw [if_pos h]
theorem stepK_pos {L : List (Nat × Nat)} (r : Nat) : stepK L (r : Int) = L ++ [(r, topLe L r + 1)] := by
  unfold stepK; rw [if_neg (by omega), Int.toNat_natCast]


def movedI (p : Pln) (xs : List Ltr) : Int := if keptI p xs < 0 then -1 else xs.length - keptI p xs
theorem keptI_range (p : Pln) (xs : List Ltr) : -1 ≤ keptI p xs ∧ keptI p xs ≤ xs.length := by
  unfold keptI keptN
  split
  · have h := (topLe_bound (ranksOf p xs) 0).2
    rw [ranks_len] at h
    omega
  · omega


end Go.Proofs.YtffbcfaahegglaaGreatDoor
