/- WH -/
import Derived.Test.YtekjjgnokjhleaaQ6
import Derived.Test.YtekjjgnokjhleaaQ24
namespace Go.Proofs.Ytekjjgnokjhleaa
open Go.RowKit

theorem step_appendAll {α : Type} [Flat α] {P : Program} {w : World} {ops : Array Oper} {o : Oper} {a : Act} {K : Act → World → Prop} {Q : Exit → Act → World → Prop} {E : Prop} (hgd : o.guard = none) (s x : Operand) (t : TypeId)
    (ho : o.op = .call { callee := .builtin .append, args := #[s, x], argTypes := #[t, t] })
    (base : Nat) (e : TypeId) (i : TypeInfo) (z : Value) (bytes : Nat) (ht : P.underlying t = some (.slice e)) (hi : P.info? e = some i) (hz : i.zero = some z)
    (hsize : i.size = El.size α) (hby : i.bytes = bytes) (hzs : z.cells.size = El.size α) (hsz : 0 < El.size α)
    (v : Value) (xs : List α) (hs : a.eval s = v) (hown : own e base w v xs) (vx : Value) (ys : List α) (hx : a.eval x = vx) (B : Nat) (hr : rd w B vx ys)
    (h63 : xs.length + ys.length ≤ maxLen) (hbytes : (xs.length + ys.length) * bytes ≤ 140737488355328) (hbase : base ≤ w.heap.size)
    (h : ∀ v' w', own e base w' v' (xs ++ ys) → w.grownBy w' v.ownBlock → (v'.ownBlock = v.ownBlock ∨ v'.ownBlock = some w.heap.size) → K (a.put o.dst v') w') :
    if Region.wanted o (yielded ops a.tmps) = true then Oper.wp P o a w K Q else E := by
  have hw : Region.wanted o (yielded ops a.tmps) = true := by simp [Region.wanted, hgd]
  rw [if_pos hw]
  exact wp_appendAll s x t ho base e i z bytes ht hi hz hsize hby hzs hsz v xs hs hown vx ys hx B hr h63 hbytes hbase h

theorem rd_takeL {w : World} {B b o c k : Nat} {xs : List Ltr} (h : rd w B (.slice (some ⟨b, o, none⟩) xs.length c) xs) (hk : k ≤ xs.length) : rd w B (.slice (some ⟨b, o, none⟩) k c) (xs.take k) := by
  obtain ⟨A, n, c', hv, hn, hc, hm, hr⟩ := h
  injection hv with e1 e2 e3
  subst e1 e3
  exact ⟨_, _, _, rfl, by rw [List.length_take]; omega, by omega, hm, hr.take k⟩
theorem rd_dropL {w : World} {B b o c k : Nat} {xs : List Ltr} (h : rd w B (.slice (some ⟨b, o, none⟩) xs.length c) xs) (hk : k ≤ xs.length) : rd w B (.slice (some ⟨b, o + k * 2, none⟩) (xs.length - k) (c - k)) (xs.drop k) := by
  obtain ⟨A, n, c', hv, hn, hc, hm, hr⟩ := h
  injection hv with e1 e2 e3
  subst e1 e3
  refine ⟨_, _, _, rfl, by rw [List.length_drop], by omega, by omega, fun j hj => ?_⟩
  have hj' : k + j < xs.length := by rw [List.length_drop] at hj; omega
  obtain ⟨b', o', cs, hA, hb, hel, hcs⟩ := hr (k + j) hj'
  injection hA with hA
  injection hA with e1 e2
  subst e1 e2
  rw [List.getElem_drop]
  refine ⟨b, o + k * 2, cs, rfl, hb, hel, fun i u hu => ?_⟩
  have := hcs i u hu
  simp only [El.size] at this ⊢
  rw [show o + k * 2 + (j * 2 + i) = o + ((k + j) * 2 + i) by omega]
  exact this
theorem rd_dropAll {w : World} {B b o c k : Nat} {xs : List Ltr} (h : rd w B (.slice (some ⟨b, o, none⟩) xs.length c) xs) (hk : k ≤ xs.length) (hc : c = k) : rd w B (.slice (some ⟨b, o, none⟩) (xs.length - k) (c - k)) (xs.drop k) := by
  obtain ⟨A, n, c', hv, hn, hc', hm, hr⟩ := h
  injection hv with e1 e2 e3
  subst e1 e3
  have e : xs.length = k := by omega
  have e2 : xs.drop k = [] := List.drop_eq_nil_iff.2 (by omega)
  rw [e2]
  exact ⟨_, _, _, rfl, by simp; omega, by omega, by omega, fun j hj => absurd hj (Nat.not_lt_zero j)⟩
theorem keptI_ok {p : Pln} {xs : List Ltr} (h : rpOk p xs = true) : keptI p xs = keptN p xs := by unfold keptI; rw [if_pos (by exact h)]
theorem keptI_no {p : Pln} {xs : List Ltr} (h : rpOk p xs = false) : keptI p xs = -1 := by unfold keptI; rw [if_neg (by unfold rpOk at h; rw [h]; simp)]
theorem movedI_no {p : Pln} {xs : List Ltr} (h : rpOk p xs = false) : movedI p xs = -1 := by unfold movedI; rw [keptI_no h]; rfl
theorem rpOk_erase {p : Pln} {xs : List Ltr} (h : rpOk p xs = true) (i : Nat) : rpOk p (xs.eraseIdx i) = true := by
  unfold rpOk at h ⊢
  simp only [Bool.and_eq_true] at h ⊢
  exact ⟨h.1, okB_erase h.2 i⟩

end Go.Proofs.Ytekjjgnokjhleaa
