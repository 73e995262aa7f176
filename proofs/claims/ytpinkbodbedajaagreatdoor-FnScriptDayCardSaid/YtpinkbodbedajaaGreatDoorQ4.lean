/- N0 -/
import Derived.Test.YtpinkbodbedajaaGreatDoorQ3
import Derived.Test.YtpinkbodbedajaaGreatDoorQ2
namespace Go.Proofs.YtpinkbodbedajaaGreatDoor
open Go.RowKit

instance elVal : El Value where
  size := 1
  el _ _ x cs := cs = [x] ∧ x.oneCell' = true
  len h := by rw [h.1]; rfl
  more h _ := h
  keep h _ := h
  one h := by rw [h.1]; intro u hu; simp at hu; rw [hu]; exact h.2
instance flatVal : Flat Value where
  free h := h
instance elRow {α : Type} [El α] : El (List α) where
  size := 1
  el w B x cs := ∃ v, cs = [v] ∧ rd w B v x
  len h := by obtain ⟨v, rfl, _⟩ := h; rfl
  more h hB := by obtain ⟨v, h1, h2⟩ := h; exact ⟨v, h1, h2.more hB⟩
  keep h hk := by obtain ⟨v, h1, h2⟩ := h; exact ⟨v, h1, h2.keep hk⟩
  one h := by
    obtain ⟨v, rfl, A, n, c, rfl, _⟩ := h
    intro u hu
    simp at hu
    rw [hu]; rfl
theorem rdA.rowU {α : Type} [El α] {w : World} {A : Option Addr} {xss : List (List α)} (h : rdA w w.heap.size A xss) (k : Nat) (hk : k < xss.length) :
    ∃ b o v, A = some ⟨b, o, none⟩ ∧ b < w.heap.size ∧ rd w w.heap.size v xss[k] ∧ (∀ W, Below w.heap.size w W → W.cell? ⟨b, o + k, none⟩ = some v) := by
  obtain ⟨b, o, cs, hA, hb, ⟨v, rfl, hv⟩, hc⟩ := h k hk
  have c1 : w.cell? ⟨b, o + k, none⟩ = some v := by simpa [El.size] using hc 0 _ rfl
  exact ⟨b, o, v, hA, hb, hv, fun W hW => (hW.cell (p := ⟨b, o + k, none⟩) hb).trans c1⟩

theorem apart_symm {v v' : Value} (h : apart v v') : apart v' v := by
  unfold apart at *
  rcases h with h | h
  · rw [h]
    cases v'.ownBlock with
    | none => exact .inl rfl
    | some k => exact .inr (by simp)
  · exact .inr (Ne.symm h)

/-- A row of rows that a call owns: vs are the slices of its rows; no two of them lie in one block. -/
def isLL {α : Type} [El α] (T1 T2 : TypeId) (base : Nat) (w : World) (v : Value) (xss : List (List α)) (vs : List Value) : Prop :=
  own T1 base w v vs ∧ vs.length = xss.length ∧ (∀ k (h : k < vs.length) (h' : k < xss.length), own T2 base w vs[k] xss[k]) ∧ (∀ j k (hj : j < vs.length) (hk : k < vs.length), j ≠ k → apart vs[j] vs[k]) ∧ (∀ k (h : k < vs.length), apart vs[k] v)
def ownLL {α : Type} [El α] (T1 T2 : TypeId) (base : Nat) (w : World) (v : Value) (xss : List (List α)) : Prop := ∃ vs : List Value, isLL T1 T2 base w v xss vs
/-- A value that lies in no block of a row of rows. -/
def farLL (u v : Value) (vs : List Value) : Prop := apart u v ∧ ∀ k (h : k < vs.length), apart u vs[k]
section
variable {α : Type} [Flat α] {T1 T2 : TypeId} {base : Nat} {w w' : World} {v : Value} {xss : List (List α)}
theorem isLL.below {vs : List Value} (h : isLL T1 T2 base w v xss vs) (hb : Below w.heap.size w w') : isLL T1 T2 base w' v xss vs := by
  obtain ⟨h1, h2, h3, h4, h5⟩ := h
  exact ⟨h1.below hb, h2, fun k a b => (h3 k a b).below hb, h4, h5⟩
theorem isLL.grown {vs : List Value} {row : Option Nat} (h : isLL T1 T2 base w v xss vs) (hg : w.grownBy w' row) (hv : v.ownBlock = none ∨ v.ownBlock ≠ row) (hvs : ∀ k (h : k < vs.length), vs[k].ownBlock = none ∨ vs[k].ownBlock ≠ row) : isLL T1 T2 base w' v xss vs := by
  obtain ⟨h1, h2, h3, h4, h5⟩ := h
  exact ⟨h1.grown hg hv, h2, fun k a b => (h3 k a b).grown hg (hvs k a), h4, h5⟩
theorem isLL.base_ {base' : Nat} {vs : List Value} (h : isLL T1 T2 base w v xss vs) (hb : base' ≤ base) : isLL T1 T2 base' w v xss vs := by
  obtain ⟨h1, h2, h3, h4, h5⟩ := h
  exact ⟨h1.base_ hb, h2, fun k a b => (h3 k a b).base_ hb, h4, h5⟩
theorem ownLL.below (h : ownLL T1 T2 base w v xss) (hb : Below w.heap.size w w') : ownLL T1 T2 base w' v xss := by
  obtain ⟨vs, h1, h2, h3, h4, h5⟩ := h
  exact ⟨vs, h1.below hb, h2, fun k a b => (h3 k a b).below hb, h4, h5⟩
theorem ownLL.base_ {base' : Nat} (h : ownLL T1 T2 base w v xss) (hb : base' ≤ base) : ownLL T1 T2 base' w v xss := by
  obtain ⟨vs, h1, h2, h3, h4, h5⟩ := h
  exact ⟨vs, h1.base_ hb, h2, fun k a b => (h3 k a b).base_ hb, h4, h5⟩
theorem ownLL.form (h : ownLL T1 T2 base w v xss) : v = .slice none 0 0 ∧ xss = [] ∨ ∃ g c, v = .slice (some ⟨g, 0, none⟩) xss.length c ∧ base ≤ g ∧ g < w.heap.size ∧ xss.length ≤ c ∧ c ≤ maxLen := by
  obtain ⟨vs, h1, h2, _⟩ := h
  rcases h1.form with ⟨a, b⟩ | ⟨g, c, a, b⟩
  · subst b
    exact .inl ⟨a, List.eq_nil_of_length_eq_zero h2.symm⟩
  · rw [h2] at a b
    exact .inr ⟨g, c, a, b⟩
theorem own_cellv {g n c : Nat} {vs : List Value} (h : own T1 base w (.slice (some ⟨g, 0, none⟩) n c) vs) (k : Nat) (hk : k < vs.length) : w.cell? ⟨g, k, none⟩ = some vs[k] := by
  obtain ⟨A, n', c', hv, _, _, _, hrd⟩ := h.rd
  obtain ⟨b, o, cs, hA, _, ⟨rfl, _⟩, hc⟩ := hrd k hk
  injection hv with e1 _ _
  subst e1
  injection hA with hA
  injection hA with hA1 hA2
  subst hA1 hA2
  simpa [El.size] using hc 0 _ rfl
theorem ownLL.rd (h : ownLL T1 T2 base w v xss) : rd w w.heap.size v xss := by
  rcases h.form with ⟨rfl, rfl⟩ | ⟨g, c, rfl, hg, hlt, hc, hm⟩
  · exact rd.nil_
  · obtain ⟨vs, h1, h2, h3, _⟩ := h
    refine ⟨_, _, _, rfl, rfl, hc, hm, fun k hk => ⟨g, 0, [vs[k]'(by omega)], rfl, hlt, ⟨_, rfl, (h3 k (by omega) hk).rd⟩, fun j u hu => ?_⟩⟩
    have hj : j = 0 := by
      cases j with
      | zero => rfl
      | succ j => simp at hu
    subst hj
    simp at hu
    subst hu
    have := own_cellv h1 k (by omega)
    rw [show 0 + (k * El.size (List α) + 0) = k by show 0 + (k * 1 + 0) = k; omega]
    exact this
end

theorem made_nil_row {α : Type} [Flat α] (w : World) (T1 T2 : TypeId) (n base : Nat) (hb : base ≤ w.heap.size) (hn : n ≤ maxLen) : ownLL (α := α) T1 T2 base (w.alloc (.cells (madeCells #[.slice none 0 0] n) T1)) (.slice (some ⟨w.heap.size, 0, none⟩) n n) (List.replicate n []) := by
  have hf : filled T1 (w.alloc (.cells (madeCells #[.slice none 0 0] n) T1)) w.heap.size n n (List.replicate n (Value.slice none 0 0)) := by
    refine ⟨madeCells #[.slice none 0 0] n, heap_alloc_new w _, by rw [size_madeCells]; exact (Nat.mul_one _).symm, fun i hi hin => ⟨[.slice none 0 0], ⟨by simp, by rw [List.getElem_replicate]; rfl⟩, fun j u hu => ?_⟩⟩
    have hj : j = 0 := by
      cases j with
      | zero => rfl
      | succ j => simp at hu
    subst hj
    simp at hu
    subst hu
    rw [show i * El.size Value + 0 = i from Nat.mul_one i]
    simp [madeCells, Nat.mod_one, show i < n by simpa using hi]
  refine ⟨List.replicate n (.slice none 0 0), hf.own (by simp) hb hn, by simp, fun k h h' => ?_, fun j k hj hk _ => .inl ?_, fun k h => .inl ?_⟩
  · simp only [List.getElem_replicate]; exact own.nil_ _ _ _
  · simp only [List.getElem_replicate]; rfl
  · simp only [List.getElem_replicate]; rfl

/-- One element more in one of the rows: the row is stored back. -/
theorem isLL.push {α : Type} [Flat α] {T1 T2 base G n c : Nat} {w w1 : World} {vs : List Value} {xss : List (List α)} {y : α} {v' : Value} {d : Nat}
    (h : isLL T1 T2 base w (.slice (some ⟨G, 0, none⟩) n c) xss vs)
    (hd : d < vs.length) (hd' : d < xss.length) (ho : own T2 base w1 v' (xss[d] ++ [y])) (hg : w.grownBy w1 vs[d].ownBlock) (ha : v'.ownBlock = vs[d].ownBlock ∨ v'.ownBlock = some w.heap.size) :
    isLL T1 T2 base (w1.setCell ⟨G, d, none⟩ v') (.slice (some ⟨G, 0, none⟩) n c) (xss.set d (xss[d] ++ [y])) (vs.set d v') := by
  obtain ⟨h1, h2, h3, h4, h5⟩ := h
  have hv1 : v'.oneCell' = true := by
    rcases ho.form with ⟨rfl, _⟩ | ⟨g, c, rfl, _⟩ <;> rfl
  have hbG : (Value.slice (some ⟨G, 0, none⟩) n c).ownBlock = some G := rfl
  have hG := h1.blk G rfl
  have q1 : own T1 base w1 (.slice (some ⟨G, 0, none⟩) n c) vs := h1.grown hg (.inr (by
    have := h5 d hd
    unfold apart at this
    rcases this with h | h
    · rw [h, hbG]; simp
    · exact Ne.symm h))
  have q2 := q1.setCell (k := d) (j := 0) hd (by decide) v' v' (fun ecs he => by
    obtain ⟨rfl, _⟩ := he
    exact ⟨rfl, hv1⟩)
  rw [show d * El.size Value + 0 = d from Nat.mul_one d] at q2
  have hset : w1.grownBy (w1.setCell ⟨G, d, none⟩ v') (some G) := grown_setCell (World.grownBy.refl _ _) (.inl rfl) _
  have hvG : apart v' (.slice (some ⟨G, 0, none⟩) n c) := by
    unfold apart
    rcases ha with h | h
    · rw [h]; exact h5 d hd
    · rw [h, hbG]; refine .inr fun e => ?_
      injection e; omega
  refine ⟨q2, by simp [h2], fun k h h' => ?_, fun j k hj hk hne => ?_, fun k h => ?_⟩
  · by_cases hkd : k = d
    · subst hkd
      simp only [List.getElem_set_self]
      exact ho.grown hset hvG
    · rw [List.getElem_set_ne (by omega), List.getElem_set_ne (by omega)]
      have hk1 : k < vs.length := by simpa using h
      have hk2 : k < xss.length := by simpa using h'
      exact ((h3 k hk1 hk2).grown hg (h4 k d hk1 hd hkd)).grown hset (h5 k hk1)
  · have hj' : j < vs.length := by simpa using hj
    have hk' : k < vs.length := by simpa using hk
    have hfar : ∀ i (hi : i < vs.length), i ≠ d → apart vs[i] v' := fun i hi hid => by
      rcases ha with h | h
      · have := h4 i d hi hd hid
        unfold apart at *
        rw [h]; exact this
      · unfold apart
        cases hb : vs[i].ownBlock with
        | none => exact .inl rfl
        | some b =>
          refine .inr fun e => ?_
          rw [h] at e
          injection e with e
          have := ((h3 i hi (by omega)).blk b hb).2
          omega
    by_cases hjd : j = d
    · subst hjd
      simp only [List.getElem_set_self]
      rw [List.getElem_set_ne (by omega)]
      exact apart_symm (hfar k hk' (by omega))
    · by_cases hkd : k = d
      · subst hkd
        simp only [List.getElem_set_self]
        rw [List.getElem_set_ne (by omega)]
        exact hfar j hj' hjd
      · rw [List.getElem_set_ne (by omega), List.getElem_set_ne (by omega)]
        exact h4 j k hj' hk' hne
  · by_cases hkd : k = d
    · subst hkd; simp only [List.getElem_set_self]; exact hvG
    · rw [List.getElem_set_ne (by omega)]; exact h5 k (by simpa using h)

theorem apart_new {v : Value} {g n c : Nat} (h : some g ≠ v.ownBlock) : apart (.slice (some ⟨g, 0, none⟩) n c) v := .inr h
theorem apart_app {u v : Value} {g n c : Nat} {B : Nat} (h : apart u v) (hg : some g = u.ownBlock ∨ g = B) (hv : ∀ j, v.ownBlock = some j → j < B) : apart (.slice (some ⟨g, 0, none⟩) n c) v := by
  refine apart_new fun e => ?_
  rcases hg with hg | hg
  · unfold apart at h
    rcases h with h | h
    · rw [h] at hg; cases hg
    · exact h (hg.symm.trans e)
  · have := hv g e.symm
    omega
/-- A value that an append has made lies apart, as the elder one did. -/
theorem farLL_app {α : Type} [Flat α] {T1 T2 base : Nat} {w : World} {v u : Value} {xss : List (List α)} {vs : List Value} {g n c B : Nat} (h : isLL T1 T2 base w v xss vs) (hf : farLL u v vs) (hg : some g = u.ownBlock ∨ g = B) (hB : w.heap.size ≤ B) : farLL (.slice (some ⟨g, 0, none⟩) n c) v vs := by
  obtain ⟨h1, h2, h3, h4, h5⟩ := h
  exact ⟨apart_app hf.1 hg fun j hj => Nat.lt_of_lt_of_le (h1.blk j hj).2 hB, fun k hk => apart_app (hf.2 k hk) hg fun j hj => Nat.lt_of_lt_of_le ((h3 k hk (by omega)).blk j hj).2 hB⟩
theorem farLL_set {u v : Value} {vs : List Value} {d : Nat} {v' : Value} (hf : farLL u v vs) (h : apart u v') : farLL u v (vs.set d v') := by
  refine ⟨hf.1, fun k hk => ?_⟩
  by_cases hkd : d = k
  · subst hkd; simp only [List.getElem_set_self]; exact h
  · rw [List.getElem_set_ne hkd]; exact hf.2 k (by simpa using hk)

/-- A row pushed onto one of the rows, another value of the call's own beside. -/
theorem place_step {α : Type} [Flat α] {T1 T2 base G n c d g m cap : Nat} {w3 W w4 : World} {vs : List Value} {xss : List (List α)} {zs rest : List α} {x : α} {u o : Value}
    (hB : isLL T1 T2 base w3 (.slice (some ⟨G, 0, none⟩) n c) xss vs) (hO : own T2 base w3 o rest) (hF : farLL o (.slice (some ⟨G, 0, none⟩) n c) vs) (hW : Below w3.heap.size w3 W)
    (hd : d < vs.length) (hd' : d < xss.length) (hu : u = vs[d]) (hz : zs = xss[d]) (ho : own T2 base w4 (.slice (some ⟨g, 0, none⟩) m cap) (zs ++ [x])) (hg : W.grownBy w4 u.ownBlock) (ha : some g = u.ownBlock ∨ g = W.heap.size) :
    isLL T1 T2 base (w4.setCell ⟨G, d, none⟩ (.slice (some ⟨g, 0, none⟩) m cap)) (.slice (some ⟨G, 0, none⟩) n c) (xss.set d (xss[d] ++ [x])) (vs.set d (.slice (some ⟨g, 0, none⟩) m cap))
    ∧ own T2 base (w4.setCell ⟨G, d, none⟩ (.slice (some ⟨g, 0, none⟩) m cap)) o rest ∧ farLL o (.slice (some ⟨G, 0, none⟩) n c) (vs.set d (.slice (some ⟨g, 0, none⟩) m cap)) := by
  subst hu hz
  have hBW := hB.below hW
  have hOW := hO.below hW
  refine ⟨hBW.push hd hd' ho hg ?_, ?_, ?_⟩
  · rcases ha with h | h
    · exact .inl h
    · exact .inr (by rw [h]; rfl)
  · exact (hOW.grown hg (hF.2 d hd)).grown (grown_setCell (World.grownBy.refl _ _) (.inl rfl) _) hF.1
  · exact farLL_set hF (apart_symm (apart_app (apart_symm (hF.2 d hd)) ha fun j hj => (hOW.blk j hj).2))
theorem place_later {a W w4 : World} {G d g m cap : Nat} {row : Option Nat} (hW : Below a.heap.size a W) (hg : W.grownBy w4 row) (hr : ∀ k, row = some k → a.heap.size ≤ k) (hG : a.heap.size ≤ G) : Below a.heap.size a (w4.setCell ⟨G, d, none⟩ (.slice (some ⟨g, 0, none⟩) m cap)) :=
  (hW.grown hg hW.size hr).setCell (p := ⟨G, d, none⟩) hG _
theorem news_drew (w : World) (T : TypeId) (cs : List Value) : ∀ j u, cs[j]? = some u → (w.alloc (.cells cs.toArray T)).drew.cell? ((⟨w.heap.size, 0, none⟩ : Addr).add j) = some u := news_at w T cs

/-! append, the new value written out: in a plain region, in one that draws its order. -/
section
variable {α : Type} [Flat α] {P : Program} {w : World}
theorem run_append1 (base : Nat) (t ty e : TypeId) (i : TypeInfo) (z : Value) (bytes : Nat) (ht : P.underlying t = some (.slice e)) (hi : P.info? e = some i) (hz : i.zero = some z)
    (hsize : i.size = El.size α) (hby : i.bytes = bytes) (hzs : z.cells.size = El.size α) (hsz : 0 < El.size α)
    (v : Value) (xs : List α) (y : α) (hown : own e base w v xs)
    (ad : Addr) (c : Nat) (cs : List Value) (hel : El.el w w.heap.size y cs) (hnews : ∀ j u, cs[j]? = some u → w.cell? (ad.add j) = some u)
    (h63 : xs.length + 1 ≤ maxLen) (hbytes : (xs.length + 1) * bytes ≤ 140737488355328) (hbase : base ≤ w.heap.size) :
    ∃ g cap w', (Builtin.append_ #[t, t] ty #[v, .slice (some ad) 1 c]).run P w = .ok (.slice (some ⟨g, 0, none⟩) (xs.length + 1) cap) w' ∧ own e base w' (.slice (some ⟨g, 0, none⟩) (xs.length + 1) cap) (xs ++ [y]) ∧ w.grownBy w' v.ownBlock ∧ (some g = v.ownBlock ∨ g = w.heap.size) ∧ g < w'.heap.size := by
  obtain ⟨css, hrow, hl, he⟩ := hown
  obtain ⟨v', w', hrun, h2, h3, _, h5⟩ := run_append_own_at (P := P) w base t ty e i z (El.size α) bytes ht hi hz hsize hby hzs hsz v xs.length css.flatten hrow ad 1 c cs (by rw [El.len hel, Nat.one_mul]) hnews (El.one hel) h63 hbytes hbase
  have ho : own e base w' v' (xs ++ [y]) := ⟨css ++ [cs], by simpa using h2, by simp [hl], fun k h1 h2 => by
    by_cases hk : k < xs.length
    · rw [List.getElem_append_left hk, List.getElem_append_left (by omega)]
      exact Flat.free (he k hk (by omega))
    · have hke : k = xs.length := by simp at h1; omega
      subst hke
      rw [List.getElem_append_right (Nat.le_refl _), List.getElem_append_right (by omega)]
      simpa [hl] using Flat.free hel⟩
  rcases ho.form with ⟨_, hx⟩ | ⟨g, cap, hv, _, hlt, _⟩
  · simp at hx
  · rw [List.length_append, List.length_singleton] at hv
    subst hv
    refine ⟨g, cap, w', hrun, ho, h3, ?_, hlt⟩
    rcases h5 with h | h
    · exact .inl h
    · injection h with h; exact .inr h
theorem wp_append1 {o : Oper} {a : Act} {K : Act → World → Prop} {Q : Exit → Act → World → Prop} (s x : Operand) (t : TypeId)
    (ho : o.op = .call { callee := .builtin .append, args := #[s, x], argTypes := #[t, t] })
    (base : Nat) (e : TypeId) (i : TypeInfo) (z : Value) (bytes : Nat) (ht : P.underlying t = some (.slice e)) (hi : P.info? e = some i) (hz : i.zero = some z)
    (hsize : i.size = El.size α) (hby : i.bytes = bytes) (hzs : z.cells.size = El.size α) (hsz : 0 < El.size α)
    (v : Value) (xs : List α) (y : α) (hs : a.eval s = v) (hown : own e base w v xs)
    (ad : Addr) (c : Nat) (cs : List Value) (hx : a.eval x = .slice (some ad) 1 c) (hel : El.el w w.heap.size y cs) (hnews : ∀ j u, cs[j]? = some u → w.cell? (ad.add j) = some u)
    (h63 : xs.length + 1 ≤ maxLen) (hbytes : (xs.length + 1) * bytes ≤ 140737488355328) (hbase : base ≤ w.heap.size)
    (h : ∀ g cap w', own e base w' (.slice (some ⟨g, 0, none⟩) (xs.length + 1) cap) (xs ++ [y]) → w.grownBy w' v.ownBlock → (some g = v.ownBlock ∨ g = w.heap.size) → g < w'.heap.size → K (a.put o.dst (.slice (some ⟨g, 0, none⟩) (xs.length + 1) cap)) w') : o.wp P a w K Q := by
  obtain ⟨g, cap, w', hrun, h2, h3, h4, h5⟩ := run_append1 (P := P) base t o.type e i z bytes ht hi hz hsize hby hzs hsz v xs y hown ad c cs hel hnews h63 hbytes hbase
  unfold Oper.wp execOp
  simp only [ho, resolve, invoke, builtin, Sem.run_bind, Sem.run_pure, Result.andThen_ok, List.map_toArray, List.map_cons, List.map_nil, hs, hx, hrun]
  exact h g cap w' h2 h3 h4 h5
theorem step_append1 {ops : Array Oper} {o : Oper} {a : Act} {K : Act → World → Prop} {Q : Exit → Act → World → Prop} {E : Prop} (hgd : o.guard = none) (s x : Operand) (t : TypeId)
    (ho : o.op = .call { callee := .builtin .append, args := #[s, x], argTypes := #[t, t] })
    (base : Nat) (e : TypeId) (i : TypeInfo) (z : Value) (bytes : Nat) (ht : P.underlying t = some (.slice e)) (hi : P.info? e = some i) (hz : i.zero = some z)
    (hsize : i.size = El.size α) (hby : i.bytes = bytes) (hzs : z.cells.size = El.size α) (hsz : 0 < El.size α)
    (v : Value) (xs : List α) (y : α) (hs : a.eval s = v) (hown : own e base w v xs)
    (ad : Addr) (c : Nat) (cs : List Value) (hx : a.eval x = .slice (some ad) 1 c) (hel : El.el w w.heap.size y cs) (hnews : ∀ j u, cs[j]? = some u → w.cell? (ad.add j) = some u)
    (h63 : xs.length + 1 ≤ maxLen) (hbytes : (xs.length + 1) * bytes ≤ 140737488355328) (hbase : base ≤ w.heap.size)
    (h : ∀ g cap w', own e base w' (.slice (some ⟨g, 0, none⟩) (xs.length + 1) cap) (xs ++ [y]) → w.grownBy w' v.ownBlock → (some g = v.ownBlock ∨ g = w.heap.size) → g < w'.heap.size → K (a.put o.dst (.slice (some ⟨g, 0, none⟩) (xs.length + 1) cap)) w') :
    if Region.wanted o (yielded ops a.tmps) = true then Oper.wp P o a w K Q else E := by
  have hw : Region.wanted o (yielded ops a.tmps) = true := by simp [Region.wanted, hgd]
  rw [if_pos hw]
  exact wp_append1 s x t ho base e i z bytes ht hi hz hsize hby hzs hsz v xs y hs hown ad c cs hx hel hnews h63 hbytes hbase h
theorem wpList_append1' {ops : Array Oper} {rest : List Oper} {o : Oper} {a : Act} {Q : Exit → Act → World → Prop} (hgd : o.guard = none) (s x : Operand) (t : TypeId)
    (ho : o.op = .call { callee := .builtin .append, args := #[s, x], argTypes := #[t, t] })
    (base : Nat) (e : TypeId) (i : TypeInfo) (z : Value) (bytes : Nat) (ht : P.underlying t = some (.slice e)) (hi : P.info? e = some i) (hz : i.zero = some z)
    (hsize : i.size = El.size α) (hby : i.bytes = bytes) (hzs : z.cells.size = El.size α) (hsz : 0 < El.size α)
    (v : Value) (xs : List α) (y : α) (hs : a.eval s = v) (hown : own e base w v xs)
    (ad : Addr) (c : Nat) (cs : List Value) (hx : a.eval x = .slice (some ad) 1 c) (hel : El.el w w.heap.size y cs) (hnews : ∀ j u, cs[j]? = some u → w.cell? (ad.add j) = some u)
    (h63 : xs.length + 1 ≤ maxLen) (hbytes : (xs.length + 1) * bytes ≤ 140737488355328) (hbase : base ≤ w.heap.size)
    (h : ∀ g cap w', own e base w' (.slice (some ⟨g, 0, none⟩) (xs.length + 1) cap) (xs ++ [y]) → w.grownBy w' v.ownBlock → (some g = v.ownBlock ∨ g = w.heap.size) → g < w'.heap.size → wpList P ops Q rest (a.put o.dst (.slice (some ⟨g, 0, none⟩) (xs.length + 1) cap)) w') : wpList P ops Q (o :: rest) a w :=
  wpList_plain hgd fun _ hK => wp_append1 s x t ho base e i z bytes ht hi hz hsize hby hzs hsz v xs y hs hown ad c cs hx hel hnews h63 hbytes hbase fun g cap w' h2 h3 h4 h5 => hK _ _ (h g cap w' h2 h3 h4 h5)
end

end Go.Proofs.YtpinkbodbedajaaGreatDoor
