/- K4 -/
import Derived.Test.YtmangjjaijhcnaaQ6
namespace Go.Proofs.Ytmangjjaijhcnaa
open Go.RowKit

/-- The index of the first missort with id c; -1 if there is none. -/
def ixI (ms : List Mis) (c : Int) : Int := if ms.findIdx (fun y => y.id == c) < ms.length then (ms.findIdx (fun y => y.id == c) : Int) else -1
theorem ixI_hit {ms : List Mis} {c : Int} {k : Nat} (hk : k < ms.length) (h1 : ∀ j (hj : j < k), (ms[j].id == c) = false) (h2 : (ms[k].id == c) = true) : ixI ms c = k := by
  have e : ms.findIdx (fun y => y.id == c) = k := (List.findIdx_eq hk).2 ⟨h2, h1⟩
  unfold ixI
  rw [e, if_pos hk]
theorem ixI_none {ms : List Mis} {c : Int} (h : ∀ j (hj : j < ms.length), (ms[j].id == c) = false) : ixI ms c = -1 := by
  have e : ms.findIdx (fun y => y.id == c) = ms.length := List.findIdx_eq_length.2 fun x hx => by
    obtain ⟨j, hj, rfl⟩ := List.getElem_of_mem hx
    exact h j hj
  unfold ixI
  rw [e, if_neg (by omega)]
/-- Its own index is found first exactly if no earlier one bears its id. -/
theorem ixI_own {ms : List Mis} {k : Nat} (hk : k < ms.length) : (ixI ms ms[k].id == (k : Int)) = (ms.take k).all (fun y => y.id != ms[k].id) := by
  rw [Bool.eq_iff_iff, List.all_eq_true]
  constructor
  · intro h x hx
    obtain ⟨j, hj, rfl⟩ := List.getElem_of_mem hx
    rw [List.length_take] at hj
    have hjk : j < k := by omega
    rw [List.getElem_take]
    have h' : ixI ms ms[k].id = (k : Int) := by simpa using h
    unfold ixI at h'
    split at h'
    · have e : ms.findIdx (fun y => y.id == ms[k].id) = k := by omega
      have := ((List.findIdx_eq hk).1 e).2 j hjk
      simpa using this
    · omega
  · intro h
    rw [ixI_hit hk (fun j hj => by
      have := h ms[j] (by rw [List.mem_take_iff_getElem]; exact ⟨j, by omega, rfl⟩)
      simpa using this) (by simp)]
    simp


theorem l1In_is {n a b : Int} {r : Bool} {w : World} (h : (decide (a ≤ n) && decide (n ≤ b)) = r) : Calls Try.prog 103 #[.int .i64 n, .int .i64 a, .int .i64 b] w fun e w' => e = .returned (.bool r) ∧ w = w' := by
  rw [← h]; exact spec_l1In n a b w
theorem misOk_of_bad {p : Pln} {ms : List Mis} {k : Nat} (hk : k < ms.length) (h : planOk p = true → goodM p.bins ms k = false) : misOk p ms = false := by
  cases hp : planOk p
  · exact misOk_plan hp
  · exact misOk_bad hk (h hp)



end Go.Proofs.Ytmangjjaijhcnaa
