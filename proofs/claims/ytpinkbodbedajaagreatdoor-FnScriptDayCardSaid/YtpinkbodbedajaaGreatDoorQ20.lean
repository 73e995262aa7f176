/- PQ -/
import Derived.Maps.AppendAt
import Derived.Test.YtpinkbodbedajaaGreatDoorQ19
import Derived.Test.YtpinkbodbedajaaGreatDoorQ16
import Derived.Test.YtpinkbodbedajaaGreatDoorQ10
namespace Go.Proofs.YtpinkbodbedajaaGreatDoor
open Go.RowKit Go.Shelf
attribute [local go_sem] Oper.semAt_some

/-- 'append' under a fence, of one element, to a row of the call's own. -/
theorem wpListIn_append1 {α : Type} [Flat α] {F : Fence} {n : Nat} {P : Program} {w : World} {ops : Array Oper} {rest : List Oper} {o : Oper} {a : Act} {Q : Exit → Act → World → Prop} (hgd : o.guard = none) (s x : Operand) (t : TypeId)
    (ho : o.op = .call { callee := .builtin .append, args := #[s, x], argTypes := #[t, t] })
    (base : Nat) (e : TypeId) (i : TypeInfo) (z : Value) (bytes : Nat) (ht : P.underlying t = some (.slice e)) (hi : P.info? e = some i) (hz : i.zero = some z)
    (hsize : i.size = El.size α) (hby : i.bytes = bytes) (hzs : z.cells.size = El.size α) (hsz : 0 < El.size α)
    (v : Value) (xs : List α) (y : α) (hs : a.eval s = v) (hown : own e base w v xs)
    (ad : Addr) (c : Nat) (cs : List Value) (hx : a.eval x = .slice (some ad) 1 c) (hel : El.el w w.heap.size y cs) (hnews : ∀ j u, cs[j]? = some u → w.cell? (ad.add j) = some u)
    (h63 : xs.length + 1 ≤ maxLen) (hbytes : (xs.length + 1) * bytes ≤ 140737488355328) (hbase : base ≤ w.heap.size)
    (h : ∀ v' w', own e base w' v' (xs ++ [y]) → w.grownBy w' v.ownBlock → wpListIn F n P ops Q rest (a.put o.dst v') w') : wpListIn F n P ops Q (o :: rest) a w := by
  obtain ⟨css, hrow, hl, he⟩ := hown
  refine wpListIn_append_own (F := F) (n := n) w hgd s x t ho base e i z (El.size α) bytes ht hi hz hsize hby hzs hsz v xs.length css.flatten hs hrow ad 1 c cs hx (by rw [El.len hel, Nat.one_mul]) hnews (El.one hel) h63 hbytes hbase ?_
  intro v' w' h2 h3 _
  refine h v' w' ⟨css ++ [cs], by simpa using h2, by simp [hl], fun k h1 h2 => ?_⟩ h3
  by_cases hk : k < xs.length
  · rw [List.getElem_append_left hk, List.getElem_append_left (by omega)]
    exact Flat.free (he k hk (by omega))
  · have hke : k = xs.length := by simp at h1; omega
    subst hke
    rw [List.getElem_append_right (Nat.le_refl _), List.getElem_append_right (by omega)]
    simpa [hl] using Flat.free hel
theorem own_isCells {α : Type} [El α] {T base : Nat} {w : World} {v : Value} {xs : List α} (h : own T base w v xs) {k : Nat} (hk : v.ownBlock = some k) : ∃ o : Obj, w.heap[k]? = some o ∧ o.isCells = true := by
  obtain ⟨css, ⟨h1, h2⟩, _⟩ := h
  rcases h2 with ⟨rfl, _⟩ | ⟨g, cap, cur, rfl, hg, hh, _⟩
  · cases hk
  · injection hk with hk
    subst hk
    exact ⟨_, hh, rfl⟩

/-! ### What is parsed -/
def partR (x : ByteArray) : Option Fwd := (cutAt 62 x).map fun p => ⟨p.1, p.2⟩
def allR (ps : List ByteArray) : Bool := ps.all fun x => (partR x).isSome
def gotR (ps : List ByteArray) : List Fwd := ps.filterMap partR
theorem gotR_len : ∀ ps : List ByteArray, allR ps = true → (gotR ps).length = ps.length
  | [], _ => rfl
  | x :: ps, h => by
    unfold allR at h
    rw [List.all_cons, Bool.and_eq_true] at h
    obtain ⟨y, hy⟩ := Option.isSome_iff_exists.1 h.1
    unfold gotR
    rw [List.filterMap_cons, hy]
    show (gotR ps).length + 1 = _
    rw [gotR_len ps h.2]
    rfl
theorem gotR_snoc {ps : List ByteArray} {x : ByteArray} {y : Fwd} (h : partR x = some y) : gotR (ps ++ [x]) = gotR ps ++ [y] := by
  unfold gotR
  rw [List.filterMap_append]
  simp [h]
theorem allR_snoc (ps : List ByteArray) (x : ByteArray) : allR (ps ++ [x]) = (allR ps && (partR x).isSome) := by
  unfold allR
  rw [List.all_append]
  simp
theorem allR_prefix {ps qs : List ByteArray} (h : ps <+: qs) (hf : allR ps = false) : allR qs = false := by
  obtain ⟨r, rfl⟩ := h
  unfold allR at *
  rw [List.all_append, hf]
  rfl

theorem keeps_below {W W2 : World} (hb : Below W.heap.size W W2) : KeepsOthers W W2 :=
  ⟨hb.size, fun k o h _ => (hb.block k (Array.getElem?_eq_some_iff.1 h).1).trans h⟩
theorem set_two {W : World} {h : Nat} {T T' : TypeId} {u0 u1 : Value} (z0 : Boxed W h T u0) (z1 : Boxed W (h + 1) T' u1) (a b : Value) :
    Boxed ((W.setCell ⟨h, 0, none⟩ a).setCell ⟨h + 1, 0, none⟩ b) h T a ∧ Boxed ((W.setCell ⟨h, 0, none⟩ a).setCell ⟨h + 1, 0, none⟩ b) (h + 1) T' b ∧
      KeepsOthers W ((W.setCell ⟨h, 0, none⟩ a).setCell ⟨h + 1, 0, none⟩ b) ∧ ∀ B, B ≤ h → Below B W ((W.setCell ⟨h, 0, none⟩ a).setCell ⟨h + 1, 0, none⟩ b) := by
  refine ⟨(z0.set a).kept (grownBy_setCell' _ _ _) (by simp), Boxed.set b (z1.kept (grownBy_setCell' W h a) (by simp)), (KeepsOthers.setCell _ _ _).trans (KeepsOthers.setCell _ _ _), fun B hB => ?_⟩
  exact ((Below.refl B W).setCell (p := ⟨h, 0, none⟩) hB a).setCell (p := ⟨h + 1, 0, none⟩) (show B ≤ h + 1 by omega) b
theorem own_notD {α : Type} [El α] {T base D : Nat} {w : World} {v : Value} {xs : List α} (h : own T base w v xs) {ds : Option (List Deferred)} (hD : w.heap[D]? = some (.deferred ds)) : v.ownBlock = none ∨ v.ownBlock ≠ some D := by
  cases hb : v.ownBlock with
  | none => exact .inl rfl
  | some k =>
    refine .inr fun e => ?_
    injection e with e
    subst e
    obtain ⟨o, h1, h2⟩ := own_isCells h hb
    rw [hD] at h1
    injection h1 with h1
    rw [← h1] at h2
    cases h2
theorem cut_sizes {c : UInt8} {s p q : ByteArray} (h : cutAt c s = some (p, q)) : p.size ≤ s.size ∧ q.size ≤ s.size := by
  unfold cutAt at h
  split at h
  · cases h
  · injection h with h
    injection h with h1 h2
    rw [← h1, ← h2, ByteArray.size_extract, ByteArray.size_extract]
    omega

end Go.Proofs.YtpinkbodbedajaaGreatDoor
