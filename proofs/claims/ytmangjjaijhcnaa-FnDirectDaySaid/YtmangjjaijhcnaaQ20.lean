/- DV SP WH -/
import Derived.Test.YtmangjjaijhcnaaQ19
import Derived.Test.YtmangjjaijhcnaaQ11
import Derived.Test.YtmangjjaijhcnaaQ37
import Derived.Test.YtmangjjaijhcnaaQ5
namespace Go.Proofs.Ytmangjjaijhcnaa
open Go.RowKit

/-- What l7Draw gives. -/
def l7DrawPost (T1 T2 T3 g p : Nat) (w : World) (e : Ending) (w' : World) : Prop :=
  ∃ (v vb vm : Value) (x : Pln) (xs : List Ltr) (k : Int) (ms : List Mis) (p' : Nat), e = .returned (.tuple #[v, vb, .int .i64 k, vm]) ∧ ownP T1 w.heap.size w' v x ∧ own T2 w.heap.size w' vb xs ∧ own T3 w.heap.size w' vm ms ∧ isI64 k ∧ xs.length ≤ 61 ∧ ms.length ≤ 5 ∧ x.order.length ≤ 101 ∧ rdr w' g p' ∧ p' ≤ p + 1400 ∧ w.grownBy w' (some g)

theorem planBlk_own {T base : Nat} {w : World} {v : Value} {x : Pln} (h : ownP T base w v x) : ∀ k, planBlk v k → base ≤ k ∧ k < w.heap.size := by
  rintro k ⟨a, b, vo, rfl, hk⟩
  obtain ⟨vo', e, _, _, ho⟩ := h
  injection e with e
  injection e with e
  simp only [List.cons.injEq, and_true] at e
  rw [e.2.2] at hk
  exact ho.blk k hk
theorem ownP.keepBlk {T base : Nat} {w w' : World} {v : Value} {x : Pln} (h : ownP T base w v x) (hk : ∀ k, planBlk v k → w'.heap[k]? = w.heap[k]?) : ownP T base w' v x := by
  obtain ⟨vo, rfl, h2, h3, h4⟩ := h
  exact ⟨vo, rfl, h2, h3, h4.keepBlk fun k hk' => hk k ⟨_, _, _, rfl, hk'⟩⟩

/-- The end: the plan lies in its box, the rows beside it. -/
theorem l7DrawPost_of {T T1 T2 T3 g p q h B : _} {u0 u1 u2 : Value} {w W : World} {v vb vm a b d : Value} {x : Pln} {xs : List Ltr} {k : Int} {ms : List Mis} (hh : w.heap.size ≤ h) (hg : g < w.heap.size) (hbase : h < B) (hv : ownP T1 B W v x) (hvb : own T2 B W vb xs) (hvm : own T3 B W vm ms)
    (hk : isI64 k) (h1 : xs.length ≤ 61) (h2 : ms.length ≤ 5) (h3 : x.order.length ≤ 101) (hr : rdr W g q) (hq : q ≤ p + 1400) (hG : w.grownBy W (some g)) (he : v = .agg #[a, b, d]) (_ : W.heap[h]? = some (.cells #[u0, u1, u2] T (0, 0))) :
    l7DrawPost T1 T2 T3 g p w (.returned (.tuple #[.agg #[a, b, d], vb, .int .i64 k, vm])) (((W.setCell ⟨h, 0, none⟩ a).setCell ⟨h, 1, none⟩ b).setCell ⟨h, 2, none⟩ d) := by
  have HG := grown_setCell (p := ⟨h, 2, none⟩) (grown_setCell (p := ⟨h, 1, none⟩) (grown_setCell (p := ⟨h, 0, none⟩) (World.grownBy.refl W (some h)) (.inl rfl) a) (.inl rfl) b) (.inl rfl) d
  have HS := (((Below.refl w.heap.size W).setCell (p := ⟨h, 0, none⟩) hh a).setCell (p := ⟨h, 1, none⟩) hh b).setCell (p := ⟨h, 2, none⟩) hh d
  rw [← he]
  exact ⟨v, vb, vm, x, xs, k, ms, q, rfl, (hv.grown HG (fun r e => by injection e with e; omega)).base_ (by omega), (hvb.grown HG (own_ne hvb hbase)).base_ (by omega), (hvm.grown HG (own_ne hvm hbase)).base_ (by omega), hk, h1, h2, h3, hr.grown HG (by omega), hq, grown_of_below hG HS⟩


end Go.Proofs.Ytmangjjaijhcnaa

namespace Go.Proofs.Ytmangjjaijhcnaa
open Go.RowKit

theorem ownP.rdp {T base : Nat} {w : World} {v : Value} {p : Pln} (h : ownP T base w v p) : rdP w w.heap.size v p := by
  obtain ⟨vo, h1, h2, h3, h4⟩ := h
  exact ⟨vo, h1, h2, h3, h4.rd⟩
theorem movedI_ok {p : Pln} {xs : List Ltr} (h : rpOk p xs = true) : movedI p xs = (xs.length : Int) - keptN p xs := by
  have e : keptI p xs = keptN p xs := by unfold keptI; rw [if_pos (by exact h)]
  unfold movedI
  rw [e, if_neg (by omega)]
theorem moved_ord {p : Pln} {xs : List Ltr} (h : rpOk p xs = true) (ho : inOrd p xs) : movedI p xs = 0 := by
  rw [movedI_ok h, keptN_full.2 ho]; omega
theorem rr_rp {p : Pln} {xs : List Ltr} {k : Int} {ms : List Mis} (h : fpOk p xs k ms = true) : rpOk p (rrRound p xs k ms) = true := by
  unfold rpOk; rw [(fpOk_iff.1 h).1.1, okB_rr h]; rfl
theorem rpd_rp {p : Pln} {xs : List Ltr} {k : Int} {ms : List Mis} (h : fpOk p xs k ms = true) : rpOk p (rpdRound p xs k ms) = true := by
  unfold rpOk; rw [(fpOk_iff.1 h).1.1, okB_rpd h]; rfl
theorem fpOk_first {p : Pln} {xs : List Ltr} {k : Int} {ms : List Mis} (h : fpOk p xs k ms = true) : fpOk p xs 0 ms = true :=
  fpOk_at h (Int.le_refl _) (by have := (fpOk_iff.1 h).1; omega)
theorem fpOk_lastP {p : Pln} {xs : List Ltr} {k : Int} {ms : List Mis} (h : fpOk p xs k ms = true) : fpOk p xs (p.passes - 1) ms = true :=
  fpOk_at h (by have := (fpOk_iff.1 h).1; omega) (by omega)

end Go.Proofs.Ytmangjjaijhcnaa

namespace Go.Proofs.Ytmangjjaijhcnaa
open Go.RowKit

theorem step_appendAll {α : Type} [Flat α] {P : Program} {w : World} {ops : Array Oper} {o : Oper} {a : Act} {K : Act → World → Prop} {Q : Exit → Act → World → Prop} {E : Prop} (hgd : o.guard = none) (s x : Operand) (t : TypeId)
    (ho : o.op = .call { callee := .builtin .append, args := #[s, x], argTypes := #[t, t] })
    (base : Nat) (e : TypeId) (i : TypeInfo) (z : Value) (bytes : Nat) (ht : P.underlying t = some (.slice e)) (hi : P.info? e = some i) (hz : i.zero = some z)
    (hsize : i.size = El.size α) (hby : i.bytes = bytes) (hzs : z.cells.size = El.size α) (hsz : 0 < El.size α)
    (v : Value) (xs : List α) (hs : a.eval s = v) (hown : own e base w v xs) (vx : Value) (ys : List α) (hx : a.eval x = vx) (B : Nat) (hr : rd w B vx ys)
    (h63 : xs.length + ys.length ≤ maxLen) (hbytes : (xs.length + ys.length) * bytes ≤ 140737488355328) (hbase : base ≤ w.heap.size)
    (h : ∀ v' w', own e base w' v' (xs ++ ys) → w.grownBy w' v.ownBlock → (v'.ownBlock = v.ownBlock ∨ v'.ownBlock = some w.heap.size) → K (a.put o.dst v') w') :
    if Region.wanted o (yielded ops a.tmps) = true then Oper.wp P o a w K Q else E := by
  have hw : Region.wanted o (yielded ops a.tmps) = true := by simp [Region.wanted, hgd]
  rw [if_pos hw]
  exact wp_appendAll s x t ho base e i z bytes ht hi hz hsize hby hzs hsz v xs hs hown vx ys hx B hr h63 hbytes hbase h

theorem rd_takeL {w : World} {B b o c k : Nat} {xs : List Ltr} (h : rd w B (.slice (some ⟨b, o, none⟩) xs.length c) xs) (hk : k ≤ xs.length) : rd w B (.slice (some ⟨b, o, none⟩) k c) (xs.take k) := by
  obtain ⟨A, n, c', hv, hn, hc, hm, hr⟩ := h
  injection hv with e1 e2 e3
  subst e1 e3
  exact ⟨_, _, _, rfl, by rw [List.length_take]; omega, by omega, hm, hr.take k⟩
theorem rd_dropL {w : World} {B b o c k : Nat} {xs : List Ltr} (h : rd w B (.slice (some ⟨b, o, none⟩) xs.length c) xs) (hk : k ≤ xs.length) : rd w B (.slice (some ⟨b, o + k * 2, none⟩) (xs.length - k) (c - k)) (xs.drop k) := by
  obtain ⟨A, n, c', hv, hn, hc, hm, hr⟩ := h
  injection hv with e1 e2 e3
  subst e1 e3
  refine ⟨_, _, _, rfl, by rw [List.length_drop], by omega, by omega, fun j hj => ?_⟩
  have hj' : k + j < xs.length := by rw [List.length_drop] at hj; omega
  obtain ⟨b', o', cs, hA, hb, hel, hcs⟩ := hr (k + j) hj'
  injection hA with hA
  injection hA with e1 e2
  subst e1 e2
  rw [List.getElem_drop]
  refine ⟨b, o + k * 2, cs, rfl, hb, hel, fun i u hu => ?_⟩
  have := hcs i u hu
  simp only [El.size] at this ⊢
  rw [show o + k * 2 + (j * 2 + i) = o + ((k + j) * 2 + i) by omega]
  exact this
theorem rd_dropAll {w : World} {B b o c k : Nat} {xs : List Ltr} (h : rd w B (.slice (some ⟨b, o, none⟩) xs.length c) xs) (hk : k ≤ xs.length) (hc : c = k) : rd w B (.slice (some ⟨b, o, none⟩) (xs.length - k) (c - k)) (xs.drop k) := by
  obtain ⟨A, n, c', hv, hn, hc', hm, hr⟩ := h
  injection hv with e1 e2 e3
  subst e1 e3
  have e : xs.length = k := by omega
  have e2 : xs.drop k = [] := List.drop_eq_nil_iff.2 (by omega)
  rw [e2]
  exact ⟨_, _, _, rfl, by simp; omega, by omega, by omega, fun j hj => absurd hj (Nat.not_lt_zero j)⟩
theorem keptI_ok {p : Pln} {xs : List Ltr} (h : rpOk p xs = true) : keptI p xs = keptN p xs := by unfold keptI; rw [if_pos (by exact h)]
theorem keptI_no {p : Pln} {xs : List Ltr} (h : rpOk p xs = false) : keptI p xs = -1 := by unfold keptI; rw [if_neg (by unfold rpOk at h; rw [h]; simp)]
theorem movedI_no {p : Pln} {xs : List Ltr} (h : rpOk p xs = false) : movedI p xs = -1 := by unfold movedI; rw [keptI_no h]; rfl
theorem rpOk_erase {p : Pln} {xs : List Ltr} (h : rpOk p xs = true) (i : Nat) : rpOk p (xs.eraseIdx i) = true := by
  unfold rpOk at h ⊢
  simp only [Bool.and_eq_true] at h ⊢
  exact ⟨h.1, okB_erase h.2 i⟩

end Go.Proofs.Ytmangjjaijhcnaa
