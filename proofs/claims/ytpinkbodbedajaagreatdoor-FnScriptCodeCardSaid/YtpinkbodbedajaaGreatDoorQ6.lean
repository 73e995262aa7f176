/- N0 NR NO -/
import Derived.Test.YtpinkbodbedajaaGreatDoorQ5
import Derived.Test.YtpinkbodbedajaaGreatDoorQ4
import Derived.Test.YtpinkbodbedajaaGreatDoorQ2
namespace Go.Proofs.YtpinkbodbedajaaGreatDoor
open Go.RowKit

instance elVal : El Value where
  size := 1
  el _ _ x cs := cs = [x] ∧ x.oneCell' = true
  len h := by rw [h.1]; rfl
  more h _ := h
  keep h _ := h
  one h := by rw [h.1]; intro u hu; simp at hu; rw [hu]; exact h.2
instance flatVal : Flat Value where
  free h := h
instance elRow {α : Type} [El α] : El (List α) where
  size := 1
  el w B x cs := ∃ v, cs = [v] ∧ rd w B v x
  len h := by obtain ⟨v, rfl, _⟩ := h; rfl
  more h hB := by obtain ⟨v, h1, h2⟩ := h; exact ⟨v, h1, h2.more hB⟩
  keep h hk := by obtain ⟨v, h1, h2⟩ := h; exact ⟨v, h1, h2.keep hk⟩
  one h := by
    obtain ⟨v, rfl, A, n, c, rfl, _⟩ := h
    intro u hu
    simp at hu
    rw [hu]; rfl
theorem rdA.rowU {α : Type} [El α] {w : World} {A : Option Addr} {xss : List (List α)} (h : rdA w w.heap.size A xss) (k : Nat) (hk : k < xss.length) :
    ∃ b o v, A = some ⟨b, o, none⟩ ∧ b < w.heap.size ∧ rd w w.heap.size v xss[k] ∧ (∀ W, Below w.heap.size w W → W.cell? ⟨b, o + k, none⟩ = some v) := by
  obtain ⟨b, o, cs, hA, hb, ⟨v, rfl, hv⟩, hc⟩ := h k hk
  have c1 : w.cell? ⟨b, o + k, none⟩ = some v := by simpa [El.size] using hc 0 _ rfl
  exact ⟨b, o, v, hA, hb, hv, fun W hW => (hW.cell (p := ⟨b, o + k, none⟩) hb).trans c1⟩

theorem apart_symm {v v' : Value} (h : apart v v') : apart v' v := by
  unfold apart at *
  rcases h with h | h
  · rw [h]
    cases v'.ownBlock with
    | none => exact .inl rfl
    | some k => exact .inr (by simp)
  · exact .inr (Ne.symm h)

/-- A row of rows that a call owns: vs are the slices of its rows; no two of them lie in one block. -/
def isLL {α : Type} [El α] (T1 T2 : TypeId) (base : Nat) (w : World) (v : Value) (xss : List (List α)) (vs : List Value) : Prop :=
  own T1 base w v vs ∧ vs.length = xss.length ∧ (∀ k (h : k < vs.length) (h' : k < xss.length), own T2 base w vs[k] xss[k]) ∧ (∀ j k (hj : j < vs.length) (hk : k < vs.length), j ≠ k → apart vs[j] vs[k]) ∧ (∀ k (h : k < vs.length), apart vs[k] v)
def ownLL {α : Type} [El α] (T1 T2 : TypeId) (base : Nat) (w : World) (v : Value) (xss : List (List α)) : Prop := ∃ vs : List Value, isLL T1 T2 base w v xss vs
/-- A value that lies in no block of a row of rows. -/
def farLL (u v : Value) (vs : List Value) : Prop := apart u v ∧ ∀ k (h : k < vs.length), apart u vs[k]
section
variable {α : Type} [Flat α] {T1 T2 : TypeId} {base : Nat} {w w' : World} {v : Value} {xss : List (List α)}
theorem isLL.below {vs : List Value} (h : isLL T1 T2 base w v xss vs) (hb : Below w.heap.size w w') : isLL T1 T2 base w' v xss vs := by
  obtain ⟨h1, h2, h3, h4, h5⟩ := h
  exact ⟨h1.below hb, h2, fun k a b => (h3 k a b).below hb, h4, h5⟩
theorem isLL.grown {vs : List Value} {row : Option Nat} (h : isLL T1 T2 base w v xss vs) (hg : w.grownBy w' row) (hv : v.ownBlock = none ∨ v.ownBlock ≠ row) (hvs : ∀ k (h : k < vs.length), vs[k].ownBlock = none ∨ vs[k].ownBlock ≠ row) : isLL T1 T2 base w' v xss vs := by
  obtain ⟨h1, h2, h3, h4, h5⟩ := h
  exact ⟨h1.grown hg hv, h2, fun k a b => (h3 k a b).grown hg (hvs k a), h4, h5⟩
theorem isLL.base_ {base' : Nat} {vs : List Value} (h : isLL T1 T2 base w v xss vs) (hb : base' ≤ base) : isLL T1 T2 base' w v xss vs := by
  obtain ⟨h1, h2, h3, h4, h5⟩ := h
  exact ⟨h1.base_ hb, h2, fun k a b => (h3 k a b).base_ hb, h4, h5⟩
theorem ownLL.below (h : ownLL T1 T2 base w v xss) (hb : Below w.heap.size w w') : ownLL T1 T2 base w' v xss := by
  obtain ⟨vs, h1, h2, h3, h4, h5⟩ := h
  exact ⟨vs, h1.below hb, h2, fun k a b => (h3 k a b).below hb, h4, h5⟩
theorem ownLL.base_ {base' : Nat} (h : ownLL T1 T2 base w v xss) (hb : base' ≤ base) : ownLL T1 T2 base' w v xss := by
  obtain ⟨vs, h1, h2, h3, h4, h5⟩ := h
  exact ⟨vs, h1.base_ hb, h2, fun k a b => (h3 k a b).base_ hb, h4, h5⟩
theorem ownLL.form (h : ownLL T1 T2 base w v xss) : v = .slice none 0 0 ∧ xss = [] ∨ ∃ g c, v = .slice (some ⟨g, 0, none⟩) xss.length c ∧ base ≤ g ∧ g < w.heap.size ∧ xss.length ≤ c ∧ c ≤ maxLen := by
  obtain ⟨vs, h1, h2, _⟩ := h
  rcases h1.form with ⟨a, b⟩ | ⟨g, c, a, b⟩
  · subst b
    exact .inl ⟨a, List.eq_nil_of_length_eq_zero h2.symm⟩
  · rw [h2] at a b
    exact .inr ⟨g, c, a, b⟩
theorem own_cellv {g n c : Nat} {vs : List Value} (h : own T1 base w (.slice (some ⟨g, 0, none⟩) n c) vs) (k : Nat) (hk : k < vs.length) : w.cell? ⟨g, k, none⟩ = some vs[k] := by
  obtain ⟨A, n', c', hv, _, _, _, hrd⟩ := h.rd
  obtain ⟨b, o, cs, hA, _, ⟨rfl, _⟩, hc⟩ := hrd k hk
  injection hv with e1 _ _
  subst e1
  injection hA with hA
  injection hA with hA1 hA2
  subst hA1 hA2
  simpa [El.size] using hc 0 _ rfl
theorem ownLL.rd (h : ownLL T1 T2 base w v xss) : rd w w.heap.size v xss := by
  rcases h.form with ⟨rfl, rfl⟩ | ⟨g, c, rfl, hg, hlt, hc, hm⟩
  · exact rd.nil_
  · obtain ⟨vs, h1, h2, h3, _⟩ := h
    refine ⟨_, _, _, rfl, rfl, hc, hm, fun k hk => ⟨g, 0, [vs[k]'(by omega)], rfl, hlt, ⟨_, rfl, (h3 k (by omega) hk).rd⟩, fun j u hu => ?_⟩⟩
    have hj : j = 0 := by
      cases j with
      | zero => rfl
      | succ j => simp at hu
    subst hj
    simp at hu
    subst hu
    have := own_cellv h1 k (by omega)
    rw [show 0 + (k * El.size (List α) + 0) = k by show 0 + (k * 1 + 0) = k; omega]
    exact this
/-- All blocks of a row of rows. -/
def footLL (vs : List Value) (v : Value) (k : Nat) : Prop := v.ownBlock = some k ∨ ∃ u ∈ vs, u.ownBlock = some k
end

theorem made_nil_row {α : Type} [Flat α] (w : World) (T1 T2 : TypeId) (n base : Nat) (hb : base ≤ w.heap.size) (hn : n ≤ maxLen) : ownLL (α := α) T1 T2 base (w.alloc (.cells (madeCells #[.slice none 0 0] n) T1)) (.slice (some ⟨w.heap.size, 0, none⟩) n n) (List.replicate n []) := by
  have hf : filled T1 (w.alloc (.cells (madeCells #[.slice none 0 0] n) T1)) w.heap.size n n (List.replicate n (Value.slice none 0 0)) := by
    refine ⟨madeCells #[.slice none 0 0] n, heap_alloc_new w _, by rw [size_madeCells]; exact (Nat.mul_one _).symm, fun i hi hin => ⟨[.slice none 0 0], ⟨by simp, by rw [List.getElem_replicate]; rfl⟩, fun j u hu => ?_⟩⟩
    have hj : j = 0 := by
      cases j with
      | zero => rfl
      | succ j => simp at hu
    subst hj
    simp at hu
    subst hu
    rw [show i * El.size Value + 0 = i from Nat.mul_one i]
    simp [madeCells, Nat.mod_one, show i < n by simpa using hi]
  refine ⟨List.replicate n (.slice none 0 0), hf.own (by simp) hb hn, by simp, fun k h h' => ?_, fun j k hj hk _ => .inl ?_, fun k h => .inl ?_⟩
  · simp only [List.getElem_replicate]; exact own.nil_ _ _ _
  · simp only [List.getElem_replicate]; rfl
  · simp only [List.getElem_replicate]; rfl

theorem own_slice1 {α : Type} [El α] {T base : Nat} {w : World} {v : Value} {xs : List α} (h : own T base w v xs) (h0 : 0 < xs.length) : ∃ g c, v = .slice (some ⟨g, 0, none⟩) xs.length c ∧ v.ownBlock = some g := by
  rcases h.form with ⟨_, h1⟩ | ⟨g, c, h1, _⟩
  · subst h1; simp at h0
  · exact ⟨g, c, h1, by rw [h1]; rfl⟩

/-- One element more in one of the rows: the row is stored back. -/
theorem isLL.push {α : Type} [Flat α] {T1 T2 base G n c : Nat} {w w1 : World} {vs : List Value} {xss : List (List α)} {y : α} {v' : Value} {d : Nat}
    (h : isLL T1 T2 base w (.slice (some ⟨G, 0, none⟩) n c) xss vs)
    (hd : d < vs.length) (hd' : d < xss.length) (ho : own T2 base w1 v' (xss[d] ++ [y])) (hg : w.grownBy w1 vs[d].ownBlock) (ha : v'.ownBlock = vs[d].ownBlock ∨ v'.ownBlock = some w.heap.size) :
    isLL T1 T2 base (w1.setCell ⟨G, d, none⟩ v') (.slice (some ⟨G, 0, none⟩) n c) (xss.set d (xss[d] ++ [y])) (vs.set d v') := by
  obtain ⟨h1, h2, h3, h4, h5⟩ := h
  have hv1 : v'.oneCell' = true := by
    rcases ho.form with ⟨rfl, _⟩ | ⟨g, c, rfl, _⟩ <;> rfl
  have hbG : (Value.slice (some ⟨G, 0, none⟩) n c).ownBlock = some G := rfl
  have hG := h1.blk G rfl
  have q1 : own T1 base w1 (.slice (some ⟨G, 0, none⟩) n c) vs := h1.grown hg (.inr (by
    have := h5 d hd
    unfold apart at this
    rcases this with h | h
    · rw [h, hbG]; simp
    · exact Ne.symm h))
  have q2 := q1.setCell (k := d) (j := 0) hd (by decide) v' v' (fun ecs he => by
    obtain ⟨rfl, _⟩ := he
    exact ⟨rfl, hv1⟩)
  rw [show d * El.size Value + 0 = d from Nat.mul_one d] at q2
  have hset : w1.grownBy (w1.setCell ⟨G, d, none⟩ v') (some G) := grown_setCell (World.grownBy.refl _ _) (.inl rfl) _
  have hvG : apart v' (.slice (some ⟨G, 0, none⟩) n c) := by
    unfold apart
    rcases ha with h | h
    · rw [h]; exact h5 d hd
    · rw [h, hbG]; refine .inr fun e => ?_
      injection e; omega
  refine ⟨q2, by simp [h2], fun k h h' => ?_, fun j k hj hk hne => ?_, fun k h => ?_⟩
  · by_cases hkd : k = d
    · subst hkd
      simp only [List.getElem_set_self]
      exact ho.grown hset hvG
    · rw [List.getElem_set_ne (by omega), List.getElem_set_ne (by omega)]
      have hk1 : k < vs.length := by simpa using h
      have hk2 : k < xss.length := by simpa using h'
      exact ((h3 k hk1 hk2).grown hg (h4 k d hk1 hd hkd)).grown hset (h5 k hk1)
  · have hj' : j < vs.length := by simpa using hj
    have hk' : k < vs.length := by simpa using hk
    have hfar : ∀ i (hi : i < vs.length), i ≠ d → apart vs[i] v' := fun i hi hid => by
      rcases ha with h | h
      · have := h4 i d hi hd hid
        unfold apart at *
        rw [h]; exact this
      · unfold apart
        cases hb : vs[i].ownBlock with
        | none => exact .inl rfl
        | some b =>
          refine .inr fun e => ?_
          rw [h] at e
          injection e with e
          have := ((h3 i hi (by omega)).blk b hb).2
          omega
    by_cases hjd : j = d
    · subst hjd
      simp only [List.getElem_set_self]
      rw [List.getElem_set_ne (by omega)]
      exact apart_symm (hfar k hk' (by omega))
    · by_cases hkd : k = d
      · subst hkd
        simp only [List.getElem_set_self]
        rw [List.getElem_set_ne (by omega)]
        exact hfar j hj' hjd
      · rw [List.getElem_set_ne (by omega), List.getElem_set_ne (by omega)]
        exact h4 j k hj' hk' hne
  · by_cases hkd : k = d
    · subst hkd; simp only [List.getElem_set_self]; exact hvG
    · rw [List.getElem_set_ne (by omega)]; exact h5 k (by simpa using h)

theorem apart_new {v : Value} {g n c : Nat} (h : some g ≠ v.ownBlock) : apart (.slice (some ⟨g, 0, none⟩) n c) v := .inr h
theorem apart_app {u v : Value} {g n c : Nat} {B : Nat} (h : apart u v) (hg : some g = u.ownBlock ∨ g = B) (hv : ∀ j, v.ownBlock = some j → j < B) : apart (.slice (some ⟨g, 0, none⟩) n c) v := by
  refine apart_new fun e => ?_
  rcases hg with hg | hg
  · unfold apart at h
    rcases h with h | h
    · rw [h] at hg; cases hg
    · exact h (hg.symm.trans e)
  · have := hv g e.symm
    omega
/-- A value that an append has made lies apart, as the elder one did. -/
theorem farLL_app {α : Type} [Flat α] {T1 T2 base : Nat} {w : World} {v u : Value} {xss : List (List α)} {vs : List Value} {g n c B : Nat} (h : isLL T1 T2 base w v xss vs) (hf : farLL u v vs) (hg : some g = u.ownBlock ∨ g = B) (hB : w.heap.size ≤ B) : farLL (.slice (some ⟨g, 0, none⟩) n c) v vs := by
  obtain ⟨h1, h2, h3, h4, h5⟩ := h
  exact ⟨apart_app hf.1 hg fun j hj => Nat.lt_of_lt_of_le (h1.blk j hj).2 hB, fun k hk => apart_app (hf.2 k hk) hg fun j hj => Nat.lt_of_lt_of_le ((h3 k hk (by omega)).blk j hj).2 hB⟩
theorem farLL_set {u v : Value} {vs : List Value} {d : Nat} {v' : Value} (hf : farLL u v vs) (h : apart u v') : farLL u v (vs.set d v') := by
  refine ⟨hf.1, fun k hk => ?_⟩
  by_cases hkd : d = k
  · subst hkd; simp only [List.getElem_set_self]; exact h
  · rw [List.getElem_set_ne hkd]; exact hf.2 k (by simpa using hk)

/-- A row pushed onto one of the rows, another value of the call's own beside. -/
theorem place_step {α : Type} [Flat α] {T1 T2 base G n c d g m cap : Nat} {w3 W w4 : World} {vs : List Value} {xss : List (List α)} {zs rest : List α} {x : α} {u o : Value}
    (hB : isLL T1 T2 base w3 (.slice (some ⟨G, 0, none⟩) n c) xss vs) (hO : own T2 base w3 o rest) (hF : farLL o (.slice (some ⟨G, 0, none⟩) n c) vs) (hW : Below w3.heap.size w3 W)
    (hd : d < vs.length) (hd' : d < xss.length) (hu : u = vs[d]) (hz : zs = xss[d]) (ho : own T2 base w4 (.slice (some ⟨g, 0, none⟩) m cap) (zs ++ [x])) (hg : W.grownBy w4 u.ownBlock) (ha : some g = u.ownBlock ∨ g = W.heap.size) :
    isLL T1 T2 base (w4.setCell ⟨G, d, none⟩ (.slice (some ⟨g, 0, none⟩) m cap)) (.slice (some ⟨G, 0, none⟩) n c) (xss.set d (xss[d] ++ [x])) (vs.set d (.slice (some ⟨g, 0, none⟩) m cap))
    ∧ own T2 base (w4.setCell ⟨G, d, none⟩ (.slice (some ⟨g, 0, none⟩) m cap)) o rest ∧ farLL o (.slice (some ⟨G, 0, none⟩) n c) (vs.set d (.slice (some ⟨g, 0, none⟩) m cap)) := by
  subst hu hz
  have hBW := hB.below hW
  have hOW := hO.below hW
  refine ⟨hBW.push hd hd' ho hg ?_, ?_, ?_⟩
  · rcases ha with h | h
    · exact .inl h
    · exact .inr (by rw [h]; rfl)
  · exact (hOW.grown hg (hF.2 d hd)).grown (grown_setCell (World.grownBy.refl _ _) (.inl rfl) _) hF.1
  · exact farLL_set hF (apart_symm (apart_app (apart_symm (hF.2 d hd)) ha fun j hj => (hOW.blk j hj).2))
theorem place_later {a W w4 : World} {G d g m cap : Nat} {row : Option Nat} (hW : Below a.heap.size a W) (hg : W.grownBy w4 row) (hr : ∀ k, row = some k → a.heap.size ≤ k) (hG : a.heap.size ≤ G) : Below a.heap.size a (w4.setCell ⟨G, d, none⟩ (.slice (some ⟨g, 0, none⟩) m cap)) :=
  (hW.grown hg hW.size hr).setCell (p := ⟨G, d, none⟩) hG _
theorem news_drew (w : World) (T : TypeId) (cs : List Value) : ∀ j u, cs[j]? = some u → (w.alloc (.cells cs.toArray T)).drew.cell? ((⟨w.heap.size, 0, none⟩ : Addr).add j) = some u := news_at w T cs

/-! append, the new value written out: in a plain region, in one that draws its order. -/
section
variable {α : Type} [Flat α] {P : Program} {w : World}
theorem run_append1 (base : Nat) (t ty e : TypeId) (i : TypeInfo) (z : Value) (bytes : Nat) (ht : P.underlying t = some (.slice e)) (hi : P.info? e = some i) (hz : i.zero = some z)
    (hsize : i.size = El.size α) (hby : i.bytes = bytes) (hzs : z.cells.size = El.size α) (hsz : 0 < El.size α)
    (v : Value) (xs : List α) (y : α) (hown : own e base w v xs)
    (ad : Addr) (c : Nat) (cs : List Value) (hel : El.el w w.heap.size y cs) (hnews : ∀ j u, cs[j]? = some u → w.cell? (ad.add j) = some u)
    (h63 : xs.length + 1 ≤ maxLen) (hbytes : (xs.length + 1) * bytes ≤ 140737488355328) (hbase : base ≤ w.heap.size) :
    ∃ g cap w', (Builtin.append_ #[t, t] ty #[v, .slice (some ad) 1 c]).run P w = .ok (.slice (some ⟨g, 0, none⟩) (xs.length + 1) cap) w' ∧ own e base w' (.slice (some ⟨g, 0, none⟩) (xs.length + 1) cap) (xs ++ [y]) ∧ w.grownBy w' v.ownBlock ∧ (some g = v.ownBlock ∨ g = w.heap.size) ∧ g < w'.heap.size := by
  obtain ⟨css, hrow, hl, he⟩ := hown
  obtain ⟨v', w', hrun, h2, h3, _, h5⟩ := run_append_own_at (P := P) w base t ty e i z (El.size α) bytes ht hi hz hsize hby hzs hsz v xs.length css.flatten hrow ad 1 c cs (by rw [El.len hel, Nat.one_mul]) hnews (El.one hel) h63 hbytes hbase
  have ho : own e base w' v' (xs ++ [y]) := ⟨css ++ [cs], by simpa using h2, by simp [hl], fun k h1 h2 => by
    by_cases hk : k < xs.length
    · rw [List.getElem_append_left hk, List.getElem_append_left (by omega)]
      exact Flat.free (he k hk (by omega))
    · have hke : k = xs.length := by simp at h1; omega
      subst hke
      rw [List.getElem_append_right (Nat.le_refl _), List.getElem_append_right (by omega)]
      simpa [hl] using Flat.free hel⟩
  rcases ho.form with ⟨_, hx⟩ | ⟨g, cap, hv, _, hlt, _⟩
  · simp at hx
  · rw [List.length_append, List.length_singleton] at hv
    subst hv
    refine ⟨g, cap, w', hrun, ho, h3, ?_, hlt⟩
    rcases h5 with h | h
    · exact .inl h
    · injection h with h; exact .inr h
theorem wp_append1 {o : Oper} {a : Act} {K : Act → World → Prop} {Q : Exit → Act → World → Prop} (s x : Operand) (t : TypeId)
    (ho : o.op = .call { callee := .builtin .append, args := #[s, x], argTypes := #[t, t] })
    (base : Nat) (e : TypeId) (i : TypeInfo) (z : Value) (bytes : Nat) (ht : P.underlying t = some (.slice e)) (hi : P.info? e = some i) (hz : i.zero = some z)
    (hsize : i.size = El.size α) (hby : i.bytes = bytes) (hzs : z.cells.size = El.size α) (hsz : 0 < El.size α)
    (v : Value) (xs : List α) (y : α) (hs : a.eval s = v) (hown : own e base w v xs)
    (ad : Addr) (c : Nat) (cs : List Value) (hx : a.eval x = .slice (some ad) 1 c) (hel : El.el w w.heap.size y cs) (hnews : ∀ j u, cs[j]? = some u → w.cell? (ad.add j) = some u)
    (h63 : xs.length + 1 ≤ maxLen) (hbytes : (xs.length + 1) * bytes ≤ 140737488355328) (hbase : base ≤ w.heap.size)
    (h : ∀ g cap w', own e base w' (.slice (some ⟨g, 0, none⟩) (xs.length + 1) cap) (xs ++ [y]) → w.grownBy w' v.ownBlock → (some g = v.ownBlock ∨ g = w.heap.size) → g < w'.heap.size → K (a.put o.dst (.slice (some ⟨g, 0, none⟩) (xs.length + 1) cap)) w') : o.wp P a w K Q := by
  obtain ⟨g, cap, w', hrun, h2, h3, h4, h5⟩ := run_append1 (P := P) base t o.type e i z bytes ht hi hz hsize hby hzs hsz v xs y hown ad c cs hel hnews h63 hbytes hbase
  unfold Oper.wp execOp
  simp only [ho, resolve, invoke, builtin, Sem.run_bind, Sem.run_pure, Result.andThen_ok, List.map_toArray, List.map_cons, List.map_nil, hs, hx, hrun]
  exact h g cap w' h2 h3 h4 h5
theorem step_append1 {ops : Array Oper} {o : Oper} {a : Act} {K : Act → World → Prop} {Q : Exit → Act → World → Prop} {E : Prop} (hgd : o.guard = none) (s x : Operand) (t : TypeId)
    (ho : o.op = .call { callee := .builtin .append, args := #[s, x], argTypes := #[t, t] })
    (base : Nat) (e : TypeId) (i : TypeInfo) (z : Value) (bytes : Nat) (ht : P.underlying t = some (.slice e)) (hi : P.info? e = some i) (hz : i.zero = some z)
    (hsize : i.size = El.size α) (hby : i.bytes = bytes) (hzs : z.cells.size = El.size α) (hsz : 0 < El.size α)
    (v : Value) (xs : List α) (y : α) (hs : a.eval s = v) (hown : own e base w v xs)
    (ad : Addr) (c : Nat) (cs : List Value) (hx : a.eval x = .slice (some ad) 1 c) (hel : El.el w w.heap.size y cs) (hnews : ∀ j u, cs[j]? = some u → w.cell? (ad.add j) = some u)
    (h63 : xs.length + 1 ≤ maxLen) (hbytes : (xs.length + 1) * bytes ≤ 140737488355328) (hbase : base ≤ w.heap.size)
    (h : ∀ g cap w', own e base w' (.slice (some ⟨g, 0, none⟩) (xs.length + 1) cap) (xs ++ [y]) → w.grownBy w' v.ownBlock → (some g = v.ownBlock ∨ g = w.heap.size) → g < w'.heap.size → K (a.put o.dst (.slice (some ⟨g, 0, none⟩) (xs.length + 1) cap)) w') :
    if Region.wanted o (yielded ops a.tmps) = true then Oper.wp P o a w K Q else E := by
  have hw : Region.wanted o (yielded ops a.tmps) = true := by simp [Region.wanted, hgd]
  rw [if_pos hw]
  exact wp_append1 s x t ho base e i z bytes ht hi hz hsize hby hzs hsz v xs y hs hown ad c cs hx hel hnews h63 hbytes hbase h
theorem wpList_append1' {ops : Array Oper} {rest : List Oper} {o : Oper} {a : Act} {Q : Exit → Act → World → Prop} (hgd : o.guard = none) (s x : Operand) (t : TypeId)
    (ho : o.op = .call { callee := .builtin .append, args := #[s, x], argTypes := #[t, t] })
    (base : Nat) (e : TypeId) (i : TypeInfo) (z : Value) (bytes : Nat) (ht : P.underlying t = some (.slice e)) (hi : P.info? e = some i) (hz : i.zero = some z)
    (hsize : i.size = El.size α) (hby : i.bytes = bytes) (hzs : z.cells.size = El.size α) (hsz : 0 < El.size α)
    (v : Value) (xs : List α) (y : α) (hs : a.eval s = v) (hown : own e base w v xs)
    (ad : Addr) (c : Nat) (cs : List Value) (hx : a.eval x = .slice (some ad) 1 c) (hel : El.el w w.heap.size y cs) (hnews : ∀ j u, cs[j]? = some u → w.cell? (ad.add j) = some u)
    (h63 : xs.length + 1 ≤ maxLen) (hbytes : (xs.length + 1) * bytes ≤ 140737488355328) (hbase : base ≤ w.heap.size)
    (h : ∀ g cap w', own e base w' (.slice (some ⟨g, 0, none⟩) (xs.length + 1) cap) (xs ++ [y]) → w.grownBy w' v.ownBlock → (some g = v.ownBlock ∨ g = w.heap.size) → g < w'.heap.size → wpList P ops Q rest (a.put o.dst (.slice (some ⟨g, 0, none⟩) (xs.length + 1) cap)) w') : wpList P ops Q (o :: rest) a w :=
  wpList_plain hgd fun _ hK => wp_append1 s x t ho base e i z bytes ht hi hz hsize hby hzs hsz v xs y hs hown ad c cs hx hel hnews h63 hbytes hbase fun g cap w' h2 h3 h4 h5 => hK _ _ (h g cap w' h2 h3 h4 h5)
end

end Go.Proofs.YtpinkbodbedajaaGreatDoor

namespace Go.Proofs.YtpinkbodbedajaaGreatDoor
open Go.RowKit

instance elOfc : El Ofc where
  size := 2
  el w B x cs := x.name.size ≤ maxLen ∧ ∃ v, cs = [.string x.name, v] ∧ rd w B v x.rules
  len h := by obtain ⟨_, v, rfl, _⟩ := h; rfl
  more h hB := by obtain ⟨h0, v, h1, h2⟩ := h; exact ⟨h0, v, h1, h2.more hB⟩
  keep h hk := by obtain ⟨h0, v, h1, h2⟩ := h; exact ⟨h0, v, h1, h2.keep hk⟩
  one h := by
    obtain ⟨_, v, rfl, A, n, c, rfl, _⟩ := h
    intro u hu
    simp at hu
    rcases hu with rfl | rfl <;> rfl
theorem rdA.ofcU {w : World} {A : Option Addr} {net : List Ofc} (h : rdA w w.heap.size A net) (k : Nat) (hk : k < net.length) :
    ∃ b o A' c', A = some ⟨b, o, none⟩ ∧ b < w.heap.size ∧ net[k].name.size ≤ maxLen ∧ rd w w.heap.size (.slice A' net[k].rules.length c') net[k].rules ∧ (∀ W, Below w.heap.size w W → W.cell? ⟨b, o + k * 2, none⟩ = some (.string net[k].name)) ∧ (∀ W, Below w.heap.size w W → W.cell? ⟨b, o + k * 2 + 1, none⟩ = some (.slice A' net[k].rules.length c')) := by
  obtain ⟨b, o, cs, hA, hb, ⟨hn, v, rfl, hv⟩, hc⟩ := h k hk
  have hv0 := hv
  obtain ⟨A', n', c', rfl, hn', _⟩ := hv
  subst hn'
  have c1 : w.cell? ⟨b, o + k * 2, none⟩ = some (.string net[k].name) := by simpa [El.size] using hc 0 _ rfl
  have c2 : w.cell? ⟨b, o + k * 2 + 1, none⟩ = some (.slice A' net[k].rules.length c') := by simpa [El.size, Nat.add_assoc] using hc 1 _ rfl
  exact ⟨b, o, A', c', hA, hb, hn, hv0, fun W hW => (hW.cell (p := ⟨b, o + k * 2, none⟩) hb).trans c1, fun W hW => (hW.cell (p := ⟨b, o + k * 2 + 1, none⟩) hb).trans c2⟩

/-- An office with its rules' slice as it lies. -/
structure OfV where
  name : ByteArray
  val : Value
instance elOfV : El OfV where
  size := 2
  el _ _ x cs := cs = [.string x.name, x.val] ∧ x.name.size ≤ maxLen ∧ x.val.oneCell' = true
  len h := by rw [h.1]; rfl
  more h _ := h
  keep h _ := h
  one h := by
    rw [h.1]
    intro u hu
    simp at hu
    rcases hu with rfl | rfl
    · rfl
    · exact h.2.2
instance flatOfV : Flat OfV where
  free h := h
/-- A network that a call owns. -/
def isN (T1 T2 : TypeId) (base : Nat) (w : World) (v : Value) (net : List Ofc) (os : List OfV) : Prop :=
  own T1 base w v os ∧ os.length = net.length ∧ (∀ k (h : k < os.length) (h' : k < net.length), os[k].name = net[k].name ∧ own T2 base w os[k].val net[k].rules) ∧ (∀ j k (hj : j < os.length) (hk : k < os.length), j ≠ k → apart os[j].val os[k].val) ∧ (∀ k (h : k < os.length), apart os[k].val v)
def ownN (T1 T2 : TypeId) (base : Nat) (w : World) (v : Value) (net : List Ofc) : Prop := ∃ os : List OfV, isN T1 T2 base w v net os
section
variable {T1 T2 : TypeId} {base : Nat} {w w' : World} {v : Value} {net : List Ofc} {os : List OfV}
theorem isN.below (h : isN T1 T2 base w v net os) (hb : Below w.heap.size w w') : isN T1 T2 base w' v net os := by
  obtain ⟨h1, h2, h3, h4, h5⟩ := h
  exact ⟨h1.below hb, h2, fun k a b => ⟨(h3 k a b).1, (h3 k a b).2.below hb⟩, h4, h5⟩
theorem isN.grown {row : Option Nat} (h : isN T1 T2 base w v net os) (hg : w.grownBy w' row) (hv : v.ownBlock = none ∨ v.ownBlock ≠ row) (hvs : ∀ k (h : k < os.length), os[k].val.ownBlock = none ∨ os[k].val.ownBlock ≠ row) : isN T1 T2 base w' v net os := by
  obtain ⟨h1, h2, h3, h4, h5⟩ := h
  exact ⟨h1.grown hg hv, h2, fun k a b => ⟨(h3 k a b).1, (h3 k a b).2.grown hg (hvs k a)⟩, h4, h5⟩
theorem isN.base_ {base' : Nat} (h : isN T1 T2 base w v net os) (hb : base' ≤ base) : isN T1 T2 base' w v net os := by
  obtain ⟨h1, h2, h3, h4, h5⟩ := h
  exact ⟨h1.base_ hb, h2, fun k a b => ⟨(h3 k a b).1, (h3 k a b).2.base_ hb⟩, h4, h5⟩
theorem ownN.below (h : ownN T1 T2 base w v net) (hb : Below w.heap.size w w') : ownN T1 T2 base w' v net := by
  obtain ⟨os, h⟩ := h; exact ⟨os, h.below hb⟩
theorem ownN.base_ {base' : Nat} (h : ownN T1 T2 base w v net) (hb : base' ≤ base) : ownN T1 T2 base' w v net := by
  obtain ⟨os, h⟩ := h; exact ⟨os, h.base_ hb⟩
theorem own_ofv {g n c : Nat} (h : own T1 base w (.slice (some ⟨g, 0, none⟩) n c) os) (k : Nat) (hk : k < os.length) :
    os[k].name.size ≤ maxLen ∧ w.cell? ⟨g, k * 2, none⟩ = some (.string os[k].name) ∧ w.cell? ⟨g, k * 2 + 1, none⟩ = some os[k].val := by
  obtain ⟨A, n', c', hv, _, _, _, hrd⟩ := h.rd
  obtain ⟨b, o, cs, hA, _, ⟨rfl, hz, _⟩, hc⟩ := hrd k hk
  injection hv with e1 _ _
  subst e1
  injection hA with hA
  injection hA with hA1 hA2
  subst hA1 hA2
  refine ⟨hz, ?_, ?_⟩
  · have := hc 0 _ rfl
    rw [show 0 + (k * El.size OfV + 0) = k * 2 by show 0 + (k * 2 + 0) = k * 2; omega] at this
    exact this
  · have := hc 1 _ rfl
    rw [show 0 + (k * El.size OfV + 1) = k * 2 + 1 by show 0 + (k * 2 + 1) = k * 2 + 1; omega] at this
    exact this
theorem isN.form (h : isN T1 T2 base w v net os) : v = .slice none 0 0 ∧ net = [] ∨ ∃ g c, v = .slice (some ⟨g, 0, none⟩) net.length c ∧ base ≤ g ∧ g < w.heap.size ∧ net.length ≤ c ∧ c ≤ maxLen := by
  obtain ⟨h1, h2, _⟩ := h
  rcases h1.form with ⟨a, b⟩ | ⟨g, c, a, b⟩
  · subst b
    exact .inl ⟨a, List.eq_nil_of_length_eq_zero h2.symm⟩
  · rw [h2] at a b
    exact .inr ⟨g, c, a, b⟩
theorem isN.rd (h : isN T1 T2 base w v net os) : rd w w.heap.size v net := by
  rcases h.form with ⟨rfl, rfl⟩ | ⟨g, c, rfl, hg, hlt, hc, hm⟩
  · exact rd.nil_
  · obtain ⟨h1, h2, h3, _⟩ := h
    refine ⟨_, _, _, rfl, rfl, hc, hm, fun k hk => ?_⟩
    have hk' : k < os.length := by omega
    obtain ⟨e1, e2⟩ := h3 k hk' hk
    obtain ⟨z0, z1, z2⟩ := own_ofv h1 k hk'
    refine ⟨g, 0, [.string net[k].name, os[k].val], rfl, hlt, ⟨by rw [← e1]; exact z0, _, rfl, e2.rd⟩, fun j u hu => ?_⟩
    match j, hu with
    | 0, hu =>
      simp at hu
      subst hu
      rw [show 0 + (k * El.size Ofc + 0) = k * 2 by show 0 + (k * 2 + 0) = k * 2; omega, z1, e1]
    | 1, hu =>
      simp at hu
      subst hu
      rw [show 0 + (k * El.size Ofc + 1) = k * 2 + 1 by show 0 + (k * 2 + 1) = k * 2 + 1; omega, z2]
    | j + 2, hu => simp at hu
theorem ownN.rd (h : ownN T1 T2 base w v net) : rd w w.heap.size v net := by
  obtain ⟨os, h⟩ := h; exact h.rd
end
theorem own_setOfV {T base g n c : Nat} {w : World} {os : List OfV} (h : own T base w (.slice (some ⟨g, 0, none⟩) n c) os) {k : Nat} (hk : k < os.length) {y : OfV} (hy : y.name.size ≤ maxLen) (hy' : y.val.oneCell' = true) :
    own T base ((w.setCell ⟨g, k * 2, none⟩ (.string y.name)).setCell ⟨g, k * 2 + 1, none⟩ y.val) (.slice (some ⟨g, 0, none⟩) n c) (os.set k y) := by
  have h1 := h.setCell (k := k) (j := 0) hk (by decide) (.string y.name) ⟨y.name, os[k].val⟩ (fun ecs he => by
    obtain ⟨rfl, _, q⟩ := he
    exact ⟨rfl, hy, q⟩)
  have h2 := h1.setCell (k := k) (j := 1) (by simpa using hk) (by decide) y.val y (fun ecs he => by
    obtain ⟨rfl, _⟩ := he
    refine ⟨?_, hy, hy'⟩
    simp)
  rw [List.set_set] at h2
  exact h2
/-- An office put in a place. -/
theorem isN.put {T1 T2 base G n c : Nat} {w w1 : World} {os : List OfV} {net : List Ofc} {nm : ByteArray} {ys : List Fwd} {v' : Value} {d B : Nat}
    (h : isN T1 T2 base w (.slice (some ⟨G, 0, none⟩) n c) net os) (hb : Below w.heap.size w w1)
    (hd : d < os.length) (hnm : nm.size ≤ maxLen) (ho : own T2 B w1 v' ys) (hB : w.heap.size ≤ B) (hbase : base ≤ w.heap.size) :
    isN T1 T2 base ((w1.setCell ⟨G, d * 2, none⟩ (.string nm)).setCell ⟨G, d * 2 + 1, none⟩ v') (.slice (some ⟨G, 0, none⟩) n c) (net.set d ⟨nm, ys⟩) (os.set d ⟨nm, v'⟩) := by
  obtain ⟨h1, h2, h3, h4, h5⟩ := h
  have hv1 : v'.oneCell' = true := by
    rcases ho.form with ⟨rfl, _⟩ | ⟨g, c, rfl, _⟩ <;> rfl
  have q2 : own T1 base ((w1.setCell ⟨G, d * 2, none⟩ (.string nm)).setCell ⟨G, d * 2 + 1, none⟩ v') (.slice (some ⟨G, 0, none⟩) n c) (os.set d ⟨nm, v'⟩) := own_setOfV (y := ⟨nm, v'⟩) (h1.below hb) hd hnm hv1
  have hset : w1.grownBy ((w1.setCell ⟨G, d * 2, none⟩ (.string nm)).setCell ⟨G, d * 2 + 1, none⟩ v') (some G) := grown_setCell (p := ⟨G, d * 2 + 1, none⟩) (grown_setCell (p := ⟨G, d * 2, none⟩) (World.grownBy.refl w1 (some G)) (.inl rfl) (.string nm)) (.inl rfl) v'
  have hG := h1.blk G rfl
  have hvG : apart v' (.slice (some ⟨G, 0, none⟩) n c) := apart_gt ho h1 hB
  have hfar : ∀ i (hi : i < os.length), apart v' os[i].val := fun i hi => apart_gt ho (h3 i hi (by omega)).2 hB
  have g3 : ∀ k (h : k < (os.set d ⟨nm, v'⟩).length) (h' : k < (net.set d ⟨nm, ys⟩).length), (os.set d ⟨nm, v'⟩)[k].name = (net.set d ⟨nm, ys⟩)[k].name ∧ own T2 base ((w1.setCell ⟨G, d * 2, none⟩ (.string nm)).setCell ⟨G, d * 2 + 1, none⟩ v') (os.set d ⟨nm, v'⟩)[k].val (net.set d ⟨nm, ys⟩)[k].rules := fun k h h' => by
    by_cases hkd : k = d
    · subst hkd
      rw [List.getElem_set_self, List.getElem_set_self]
      exact ⟨rfl, (ho.grown hset hvG).base_ (Nat.le_trans hbase hB)⟩
    · rw [List.getElem_set_ne (by omega), List.getElem_set_ne (by omega)]
      have hk1 : k < os.length := by simpa using h
      have hk2 : k < net.length := by simpa using h'
      exact ⟨(h3 k hk1 hk2).1, ((h3 k hk1 hk2).2.below hb).grown hset (h5 k hk1)⟩
  have g4 : ∀ j k (hj : j < (os.set d ⟨nm, v'⟩).length) (hk : k < (os.set d ⟨nm, v'⟩).length), j ≠ k → apart (os.set d ⟨nm, v'⟩)[j].val (os.set d ⟨nm, v'⟩)[k].val := fun j k hj hk hne => by
    have hj' : j < os.length := by simpa using hj
    have hk' : k < os.length := by simpa using hk
    by_cases hjd : j = d
    · subst hjd
      rw [List.getElem_set_self, List.getElem_set_ne (by omega)]
      exact hfar k hk'
    · by_cases hkd : k = d
      · subst hkd
        rw [List.getElem_set_self, List.getElem_set_ne (by omega)]
        exact apart_symm (hfar j hj')
      · rw [List.getElem_set_ne (by omega), List.getElem_set_ne (by omega)]
        exact h4 j k hj' hk' hne
  have g5 : ∀ k (h : k < (os.set d ⟨nm, v'⟩).length), apart (os.set d ⟨nm, v'⟩)[k].val (.slice (some ⟨G, 0, none⟩) n c) := fun k h => by
    by_cases hkd : k = d
    · subst hkd; rw [List.getElem_set_self]; exact hvG
    · rw [List.getElem_set_ne (by omega)]; exact h5 k (by simpa using h)
  exact ⟨q2, by rw [List.length_set, List.length_set]; exact h2, g3, g4, g5⟩

theorem madeCells2 (a b : Value) (m : Nat) (i : Nat) (hi : i < m) : (madeCells #[a, b] (m * 2))[i * 2]? = some a ∧ (madeCells #[a, b] (m * 2))[i * 2 + 1]? = some b := by
  constructor
  · simp [madeCells, show i * 2 < m * 2 by omega]
  · simp [madeCells, show i * 2 + 1 < m * 2 by omega, Nat.add_mod]
def noOfc : Ofc := ⟨⟨#[]⟩, []⟩
theorem made_offices (w : World) (T1 T2 : TypeId) (n base : Nat) (hb : base ≤ w.heap.size) (hn : n ≤ maxLen) : ∃ os, isN T1 T2 base (w.alloc (.cells (madeCells #[.string ⟨#[]⟩, .slice none 0 0] (n * 2)) T1)) (.slice (some ⟨w.heap.size, 0, none⟩) n n) (List.replicate n noOfc) os := by
  have hf : filled T1 (w.alloc (.cells (madeCells #[.string ⟨#[]⟩, .slice none 0 0] (n * 2)) T1)) w.heap.size n n (List.replicate n (OfV.mk ⟨#[]⟩ (.slice none 0 0))) := by
    refine ⟨madeCells #[.string ⟨#[]⟩, .slice none 0 0] (n * 2), heap_alloc_new w _, by rw [size_madeCells]; rfl, fun i hi hin => ⟨[.string ⟨#[]⟩, .slice none 0 0], ⟨by rw [List.getElem_replicate], by rw [List.getElem_replicate]; exact Nat.zero_le _, by rw [List.getElem_replicate]; rfl⟩, fun j u hu => ?_⟩⟩
    obtain ⟨m1, m2⟩ := madeCells2 (.string ⟨#[]⟩) (.slice none 0 0) n i (by simpa using hi)
    match j, hu with
    | 0, hu => simp at hu; subst hu; exact m1
    | 1, hu => simp at hu; subst hu; exact m2
    | j + 2, hu => simp at hu
  refine ⟨List.replicate n (OfV.mk ⟨#[]⟩ (.slice none 0 0)), hf.own (by simp) hb hn, by simp, fun k h h' => ?_, fun j k hj hk _ => .inl ?_, fun k h => .inl ?_⟩
  · simp only [List.getElem_replicate]; exact ⟨rfl, own.nil_ _ _ _⟩
  · simp only [List.getElem_replicate]; rfl
  · simp only [List.getElem_replicate]; rfl

/-- The first k offices laid, the others empty. -/
def laidN (net : List Ofc) (k : Nat) : List Ofc := net.take k ++ List.replicate (net.length - k) noOfc
theorem laidN_len {net : List Ofc} {k : Nat} (h : k ≤ net.length) : (laidN net k).length = net.length := by
  simp [laidN]; omega
theorem laidN_step {net : List Ofc} {k : Nat} (h : k < net.length) : (laidN net k).set k net[k] = laidN net (k + 1) := by
  unfold laidN
  have hl : (net.take k).length = k := by rw [List.length_take]; omega
  rw [List.set_append_right _ _ (by omega), hl, Nat.sub_self, show net.length - k = (net.length - (k + 1)) + 1 by omega, List.replicate_succ, List.set_cons_zero, List.take_succ_eq_append_getElem h, List.append_assoc]
  rfl
theorem laidN_all (net : List Ofc) : laidN net net.length = net := by simp [laidN]
theorem laidN_nil (net : List Ofc) : laidN net 0 = List.replicate net.length noOfc := by simp [laidN]

end Go.Proofs.YtpinkbodbedajaaGreatDoor

namespace Go.Proofs.YtpinkbodbedajaaGreatDoor
open Go.RowKit

theorem sHere (s : ByteArray) : sEq s hereW = (s.toList == [104, 101, 114, 101]) := by
  unfold sEq
  rw [ByteArray.toList_eq hereW]
  rfl
theorem offI_ge (net : List Ofc) (k : Nat) (c : ByteArray) {r : Int} (h : offI (net.take k) c = r) : (net.take k).all (fun y => !sEq y.name c) = !decide (0 ≤ r) := by
  have := fiI_ge (fun y : Ofc => sEq y.name c) (net.take k)
  rw [← h]
  unfold offI
  rw [this, Bool.not_not]
theorem offI_is {net : List Ofc} {k : Nat} (h : k < net.length) : (offI net net[k].name == (k : Int)) = (net.take k).all (fun y => !sEq y.name net[k].name) :=
  fiI_self (p := fun y : Ofc => sEq y.name net[k].name) h (sEq_refl _)

set_option maxHeartbeats 400000 in
theorem impl_officeOf (v : Value) (fs : List Ofc) (c : ByteArray) (w : World) (hv : rd w w.heap.size v fs) :
    Calls Tryz.prog 83 #[v, .string c] w fun e w' => e = .returned (.int .i64 (offI fs c)) ∧ Below w.heap.size w w' := by
  obtain ⟨A, n, cp, rfl, hn, hc, hm, hr⟩ := hv
  subst hn
  unfold maxLen at hm
  have HR := Lib.hid hr; clear hr
  have l0 := Below.refl w.heap.size w
  go_enter Tryz.func83, Tryz.ntmps83
  go_wp2
  go_loopw [9] (fun i wr => ∃ k : Nat, k ≤ fs.length ∧ i = .int .i64 k ∧ Below w.heap.size w wr ∧ Hid (∀ j (h : j < fs.length), j < k → sEq fs[j].name c = false)) (fun i _ => fs.length - (intOf i).toNat)
  case atStart => exact ⟨0, Nat.zero_le _, rfl, l0, fun j _ hj => absurd hj (Nat.not_lt_zero j)⟩
  case round =>
    obtain ⟨k, hk, rfl, lr, HG⟩ := hrel
    obtain ⟨w1, rfl⟩ : ∃ w1 : World, w1 = wr := ⟨_, rfl⟩
    by_cases hlt : k < fs.length
    · obtain ⟨b, o, A2, k2, rfl, hb, hok, hu, c1, c2⟩ := HR.out.ofcU k hlt
      have HX : Hid (∀ h : sEq fs[k].name c = false, ∀ j (h1 : j < fs.length), j < k + 1 → sEq fs[j].name c = false) := fun h j h1 hj => by
        by_cases hjk : j < k
        · exact HG.out j h1 hjk
        · obtain rfl : j = k := by omega
          exact h
      have HY : Hid (∀ h : sEq fs[k].name c = true, offI fs c = k) := fun h => fiI_at hlt (fun j hj hjk => HG.out j hj hjk) h
      clear hu
      generalize fs[k] = x at *
      cases he : sEq x.name c
      · have he' := Lib.hid he
        have hq : (x.name.toList == c.toList) = false := he
        clear he
        go_wp2
        go_roundw
        case rel => exact ⟨k + 1, by omega, by go_num, later_alloc lr _, HX.out he'.out⟩
        case measure => simp [intOf]; omega
      · have he' := Lib.hid he
        have hq : (x.name.toList == c.toList) = true := he
        clear he
        go_wp2
        go_ret
        exact ⟨ret_int (HY.out he'.out).symm, later_alloc lr _⟩
    · have HE : Hid (offI fs c = -1) := fiI_none fun j hj => HG.out j hj (by omega)
      go_wp2
      go_ret
      exact ⟨ret_int HE.out.symm, lr⟩

set_option maxHeartbeats 400000 in
theorem spec_l6Office (v : Value) (fs : List Ofc) (c : ByteArray) (w : World) (hv : rd w w.heap.size v fs) :
    Calls Tryz.prog 87 #[v, .string c] w fun e w' => e = .returned (.int .i64 (offI fs c)) ∧ w = w' := by
  obtain ⟨A, n, cp, rfl, hn, hc, hm, hr⟩ := hv
  subst hn
  unfold maxLen at hm
  have HR := Lib.hid hr; clear hr
  have l0 := Below.refl w.heap.size w
  go_enter Tryz.func87, Tryz.ntmps87
  go_wp2
  go_loop [5] (fun i => ∃ k : Nat, k ≤ fs.length ∧ i = .int .i64 k ∧ Hid (∀ j (h : j < fs.length), j < k → sEq fs[j].name c = false)) (fun i => fs.length - (intOf i).toNat)
  case atStart => exact ⟨0, Nat.zero_le _, rfl, fun j _ hj => absurd hj (Nat.not_lt_zero j)⟩
  case round =>
    obtain ⟨k, hk, rfl, HG⟩ := hrel
    by_cases hlt : k < fs.length
    · obtain ⟨b, o, A2, k2, rfl, hb, hok, hu, c1, c2⟩ := HR.out.ofcU k hlt
      have HX : Hid (∀ h : sEq fs[k].name c = false, ∀ j (h1 : j < fs.length), j < k + 1 → sEq fs[j].name c = false) := fun h j h1 hj => by
        by_cases hjk : j < k
        · exact HG.out j h1 hjk
        · obtain rfl : j = k := by omega
          exact h
      have HY : Hid (∀ h : sEq fs[k].name c = true, offI fs c = k) := fun h => fiI_at hlt (fun j hj hjk => HG.out j hj hjk) h
      clear hu
      generalize fs[k] = x at *
      cases he : sEq x.name c
      · have he' := Lib.hid he
        have hq : (x.name.toList == c.toList) = false := he
        clear he
        go_wp2
        go_round
        case rel => exact ⟨k + 1, by omega, by go_num, HX.out he'.out⟩
        case measure => simp [intOf]; omega
      · have he' := Lib.hid he
        have hq : (x.name.toList == c.toList) = true := he
        clear he
        go_wp2
        go_ret
        exact ⟨ret_int (HY.out he'.out).symm, rfl⟩
    · have HE : Hid (offI fs c = -1) := fiI_none fun j hj => HG.out j hj (by omega)
      go_wp2
      go_ret
      exact ⟨ret_int HE.out.symm, rfl⟩

set_option maxRecDepth 100000 in
set_option maxHeartbeats 1600000 in
theorem spec_NetworkValid (v : Value) (net : List Ofc) (w : World) (hv : rd w w.heap.size v net) :
    Calls Tryz.prog 86 #[v] w fun e w' => e = .returned (.bool (netOk net)) ∧ w = w' := by
  obtain ⟨A, n, cp, rfl, hn, hc, hm, hr⟩ := hv
  have hv0 := Lib.hid (show rd w w.heap.size (.slice A n cp) net from ⟨A, n, cp, rfl, hn, hc, hm, hr⟩)
  subst hn
  unfold maxLen at hm
  have HR := Lib.hid hr; clear hr
  have l0 := Below.refl w.heap.size w
  go_enter Tryz.func86, Tryz.ntmps86
  go_wp2
  go_loop [3] (fun i => ∃ k : Nat, k ≤ net.length ∧ i = .int .i64 k ∧ Hid (∀ j, j < k → goodO net j = true)) (fun i => net.length - (intOf i).toNat)
  case atStart => exact ⟨0, Nat.zero_le _, rfl, fun j hj => absurd hj (Nat.not_lt_zero j)⟩
  case round =>
    obtain ⟨k, hk, rfl, HG⟩ := hrel
    by_cases hlt : k < net.length
    · obtain ⟨b, o, A2, k2, rfl, hb, hok, hu, c1, c2⟩ := HR.out.ofcU k hlt
      have hG := Lib.hid (goodO_of hlt)
      have hS := Lib.hid (offI_is hlt)
      have hbad := Lib.hid (fun h => netOk_bad hlt h)
      generalize net[k] = x at *
      have HU := Lib.hid hu; clear hu
      have hki : (k : Int) < (net.length : Int) := by omega
      go_wp2_with fail
      refine (spec_l6Name x.name _ hok).mono ?_
      rintro e w1 ⟨rfl, rfl⟩
      cases h1 : isName x.name
      · have H1 := Lib.hid h1; clear h1
        go_wp2_with fail
        go_ret
        exact ⟨ret_bool (hbad.out (by rw [hG.out, H1.out]; rfl)).symm, rfl⟩
      have H1 := Lib.hid h1; clear h1
      cases h2 : sEq x.name hereW
      case true =>
        have H2 := Lib.hid h2
        rw [sHere] at h2
        go_wp2_with fail
        go_ret
        exact ⟨ret_bool (hbad.out (by rw [hG.out, H1.out, H2.out]; rfl)).symm, rfl⟩
      have H2 := Lib.hid h2
      rw [sHere] at h2
      obtain ⟨r, HRR⟩ : ∃ r, Hid (offI net x.name = r) := ⟨_, rfl⟩
      go_wp2_with fail
      refine (spec_l6Office _ net x.name _ hv0.out).mono ?_
      rw [HRR.out]
      rintro e w1 ⟨rfl, rfl⟩
      cases h3 : (r == (k : Int))
      · have H3 := Lib.hid h3
        have h3' : (r != (k : Int)) = true := by rw [bne, h3]; rfl
        clear h3
        go_wp2_with fail
        go_ret
        exact ⟨ret_bool (hbad.out (by rw [hG.out, ← hS.out, HRR.out, H3.out]; simp)).symm, rfl⟩
      have H3 := Lib.hid h3
      have h3' : (r != (k : Int)) = false := by rw [bne, h3]; rfl
      clear h3
      go_wp2_with fail
      refine (spec_RulesValid _ x.rules _ HU.out).mono ?_
      rintro e w1 ⟨rfl, rfl⟩
      cases h4 : rulesOk x.rules
      · have H4 := Lib.hid h4; clear h4
        go_wp2_with fail
        go_ret
        exact ⟨ret_bool (hbad.out (by rw [hG.out, H4.out]; simp)).symm, rfl⟩
      have H4 := Lib.hid h4; clear h4
      have hrl := (rulesOk_iff.1 H4.out).1
      have HGD : Hid (∀ b, x.rules.all (goodN net) = b → goodO net k = b) := fun b hb => by rw [hG.out, H1.out, H2.out, ← hS.out, HRR.out, H3.out, H4.out, hb]; rfl
      obtain ⟨A2', n2', c2', e2, _, _, hmm2, hr2⟩ := HU.out
      injection e2 with e21 e22 e23
      subst e21 e22 e23
      have HUR := Lib.hid hr2; clear hr2
      go_wp2_with fail
      go_loop [4] (fun i => ∃ m : Nat, m ≤ x.rules.length ∧ i = .int .i64 m ∧ Hid ((x.rules.take m).all (goodN net) = true)) (fun i => x.rules.length - (intOf i).toNat)
      case atStart => exact ⟨0, Nat.zero_le _, rfl, rfl⟩
      case round =>
        obtain ⟨m, hm', rfl, HA⟩ := hrel
        by_cases hmt : m < x.rules.length
        · obtain ⟨b', o', rfl, hb', ⟨ok1, ok2⟩, d1, d2⟩ := HUR.out.fwdU m hmt
          have hT := Lib.hid (take_all_succ (p := goodN net) x.rules m hmt)
          have hI : Hid (goodN net x.rules[m] = false → x.rules.all (goodN net) = false) := fun h => List.all_eq_false.2 ⟨_, List.getElem_mem hmt, by simp [h]⟩
          generalize x.rules[m] = y at *
          have hmi : (m : Int) < (x.rules.length : Int) := by omega
          cases h5 : sEq y.dst hereW
          case true =>
            have H5 := Lib.hid h5
            rw [sHere] at h5
            go_wp2_with fail
            go_round
            case rel => exact ⟨m + 1, by omega, by go_num, by show _ = true; rw [hT.out, HA.out]; unfold goodN; rw [H5.out]; rfl⟩
            case measure => simp [intOf]; omega
          have H5 := Lib.hid h5
          rw [sHere] at h5
          obtain ⟨q, HQQ⟩ : ∃ q, Hid (offI net y.dst = q) := ⟨_, rfl⟩
          go_wp2_with fail
          refine (spec_l6Office _ net y.dst _ hv0.out).mono ?_
          rw [HQQ.out]
          rintro e w1 ⟨rfl, rfl⟩
          by_cases hq : q < 0
          · have H6 : Hid (goodN net y = false) := by show _ = _; unfold goodN; rw [H5.out, HQQ.out, decide_eq_false (by omega)]; rfl
            go_wp2_with fail
            go_ret
            exact ⟨ret_bool (hbad.out (HGD.out _ (hI.out H6.out))).symm, rfl⟩
          · have H6 : Hid (goodN net y = true) := by show _ = _; unfold goodN; rw [H5.out, HQQ.out, decide_eq_true (by omega)]; rfl
            go_wp2_with fail
            go_round
            case rel => exact ⟨m + 1, by omega, by go_num, by show _ = true; rw [hT.out, HA.out, H6.out]; rfl⟩
            case measure => simp [intOf]; omega
        · have HE := Lib.hid (show m = x.rules.length by omega)
          have HA2 : Hid (x.rules.all (goodN net) = true) := by have := HA.out; rw [HE.out, List.take_length] at this; exact this
          go_wp2_with fail
          go_round
          case rel =>
            refine ⟨k + 1, by omega, by go_num, fun j hj => ?_⟩
            by_cases hjk : j < k
            · exact HG.out j hjk
            · obtain rfl : j = k := by omega
              exact HGD.out _ HA2.out
          case measure => simp [intOf]; omega
    · have HE := Lib.hid (show k = net.length by omega)
      have HN : Hid (netOk net = (decide (1 ≤ (net.length : Int)) && decide ((net.length : Int) ≤ 8))) := netOk_good (by rw [← HE.out]; exact HG.out)
      go_wp2_with fail
      refine (spec_l1In net.length 1 8 _).mono ?_
      rintro e w1 ⟨rfl, rfl⟩
      obtain ⟨r, hr⟩ : ∃ r, (decide (1 ≤ (net.length : Int)) && decide ((net.length : Int) ≤ 8)) = r := ⟨_, rfl⟩
      rw [hr] at HN ⊢
      clear hr
      go_wp2_with fail
      go_ret
      exact ⟨ret_bool HN.out.symm, rfl⟩

set_option maxRecDepth 100000 in
set_option maxHeartbeats 1600000 in
theorem impl_NetworkValid (v : Value) (net : List Ofc) (w : World) (hv : rd w w.heap.size v net) :
    Calls Tryz.prog 84 #[v] w fun e w' => e = .returned (.bool (netOk net)) ∧ Below w.heap.size w w' := by
  obtain ⟨A, n, cp, rfl, hn, hc, hm, hr⟩ := hv
  have hv0 := Lib.hid (show rd w w.heap.size (.slice A n cp) net from ⟨A, n, cp, rfl, hn, hc, hm, hr⟩)
  subst hn
  unfold maxLen at hm
  have HR := Lib.hid hr; clear hr
  have l0 := Below.refl w.heap.size w
  go_enter Tryz.func84, Tryz.ntmps84
  by_cases h1 : (net.length : Int) < 1
  · have HF := Lib.hid (netOk_len (net := net) (by omega))
    go_wp2
    go_ret
    exact ⟨ret_bool HF.out.symm, l0⟩
  by_cases h8 : (8 : Int) < (net.length : Int)
  · have HF := Lib.hid (netOk_len (net := net) (by omega))
    go_wp2
    go_ret
    exact ⟨ret_bool HF.out.symm, l0⟩
  have HL : Hid ((decide (1 ≤ (net.length : Int)) && decide ((net.length : Int) ≤ 8)) = true) := by show _ = _; rw [decide_eq_true (by omega), decide_eq_true (by omega)]; rfl
  have hl8 : net.length ≤ 8 := by omega
  go_wp2
  go_loopw [17] (fun i wr => ∃ k : Nat, k ≤ net.length ∧ i = .int .i64 k ∧ Below w.heap.size w wr ∧ Hid (∀ j, j < k → goodO net j = true)) (fun i _ => net.length - (intOf i).toNat)
  case atStart => exact ⟨0, Nat.zero_le _, rfl, l0, fun j hj => absurd hj (Nat.not_lt_zero j)⟩
  case round =>
    obtain ⟨k, hk, rfl, lr, HG⟩ := hrel
    obtain ⟨w1, rfl⟩ : ∃ w1 : World, w1 = wr := ⟨_, rfl⟩
    clear l0
    by_cases hlt : k < net.length
    · obtain ⟨b, o, A2, k2, rfl, hb, hok, hu, c1, c2⟩ := HR.out.ofcU k hlt
      have hG := Lib.hid (goodO_of hlt)
      have hbad := Lib.hid (fun h => netOk_bad hlt h)
      generalize net[k] = x at *
      have hki : (k : Int) < (net.length : Int) := by omega
      obtain ⟨wo, hwo⟩ : ∃ wo : World, wo = w1.alloc (Obj.cells #[.string x.name, .slice A2 x.rules.length k2] 102) := ⟨_, rfl⟩
      have lo : Below w.heap.size w wo := later_trans lr (box_later hwo).1
      have y0 := box_cells hwo 0 (.string x.name) rfl
      have y1 := box_cells hwo 1 (.slice A2 x.rules.length k2) rfl
      have lb := Below.refl wo.heap.size wo
      have hv1 := Lib.hid (hv0.out.on lo)
      have HU := Lib.hid (hu.on lo)
      have hbo : b < wo.heap.size := Nat.lt_of_lt_of_le hb lo.size
      have HWO := Lib.hid hwo; clear hwo hu
      cases h1 : isName x.name
      · have H1 := Lib.hid h1; clear h1
        have C1 := Lib.hid (fun w => nameI_is (w := w) hok H1.out)
        go_wp2
        rw [← HWO.out]
        go_quiet (first | (go_at_call 149; refine quiet_c (C1.out _)))
        go_wp2
        go_ret
        exact ⟨ret_bool (hbad.out (by rw [hG.out, H1.out]; rfl)).symm, below_drewN lo _⟩
      have H1 := Lib.hid h1; clear h1
      have C1 := Lib.hid (fun w => nameI_is (w := w) hok H1.out)
      cases h2 : sEq x.name hereW
      case true =>
        have H2 := Lib.hid h2
        rw [sHere] at h2
        go_wp2
        rw [← HWO.out]
        go_quiet (first | (go_at_call 149; refine quiet_c (C1.out _)))
        go_wp2
        go_ret
        exact ⟨ret_bool (hbad.out (by rw [hG.out, H1.out, H2.out]; rfl)).symm, below_drewN lo _⟩
      have H2 := Lib.hid h2
      rw [sHere] at h2
      obtain ⟨r, HRR⟩ : ∃ r, Hid (offI (net.take k) x.name = r) := ⟨_, rfl⟩
      have HGE := Lib.hid (offI_ge net k x.name HRR.out)
      have C3 : Hid (∀ W, Below wo.heap.size wo W → Calls Tryz.prog 83 #[.slice (some ⟨b, o, none⟩) k cp, .string x.name] W fun e w' => e = .returned (.int .i64 r) ∧ Below W.heap.size W w') := fun W hW => by
        have h := impl_officeOf (.slice (some ⟨b, o, none⟩) k cp) (net.take k) x.name W ((hv1.out.on hW).take hk)
        rw [HRR.out] at h
        exact h
      have ld := later_drew lb
      have hkc : k ≤ cp := by omega
      have hkci : (k : Int) ≤ (cp : Int) := by omega
      by_cases hr0 : 0 ≤ r
      · have HD := Lib.hid (decide_eq_true hr0)
        go_wp2
        rw [← HWO.out]
        go_region_held3 (fun W => Below wo.heap.size wo W) (first | exact ld | exact later_trans ld b3) (first | (go_at_call 149; refine (C1.out _).mono ?_; rintro e w' ⟨rfl, rfl⟩) | (go_at_call 83; refine (C3.out _ ld).mono ?_; rintro e w3 ⟨rfl, b3⟩))
        have l3 := later_trans lo (later_trans ld b3)
        go_wp2
        go_ret
        exact ⟨ret_bool (hbad.out (by rw [hG.out, HGE.out, HD.out]; simp)).symm, l3⟩
      · have HD := Lib.hid (decide_eq_false hr0)
        go_wp2
        rw [← HWO.out]
        go_region_held3 (fun W => Below wo.heap.size wo W) (first | exact ld | exact later_trans ld b3) (first | (go_at_call 149; refine (C1.out _).mono ?_; rintro e w' ⟨rfl, rfl⟩) | (go_at_call 83; refine (C3.out _ ld).mono ?_; rintro e w3 ⟨rfl, b3⟩))
        have l3 := later_trans ld b3
        clear C1 C3 ld b3
        go_wp2_with fail
        refine (impl_RulesValid _ x.rules _ (HU.out.on l3)).mono ?_
        rintro e w4 ⟨rfl, b4⟩
        have l4 := later_trans l3 b4
        clear b4 l3
        cases h4 : rulesOk x.rules
        · have H4 := Lib.hid h4; clear h4
          go_wp2_with fail
          go_ret
          exact ⟨ret_bool (hbad.out (by rw [hG.out, H4.out]; simp)).symm, later_trans lo l4⟩
        have H4 := Lib.hid h4; clear h4
        have hrl := (rulesOk_iff.1 H4.out).1
        have HGD : Hid (∀ b, x.rules.all (goodN net) = b → goodO net k = b) := fun b hb => by rw [hG.out, H1.out, H2.out, HGE.out, HD.out, H4.out, hb]; rfl
        obtain ⟨A2', n2', c2', e2, _, _, hmm2, hr2⟩ := HU.out
        injection e2 with e21 e22 e23
        subst e21 e22 e23
        have HUR := Lib.hid hr2; clear hr2
        go_wp2_with fail
        go_loopw [47] (fun i wi => ∃ m : Nat, m ≤ x.rules.length ∧ i = .int .i64 m ∧ Below wo.heap.size wo wi ∧ Hid ((x.rules.take m).all (goodN net) = true)) (fun i _ => x.rules.length - (intOf i).toNat)
        case atStart => exact ⟨0, Nat.zero_le _, rfl, l4, rfl⟩
        case round =>
          obtain ⟨m, hm', rfl, li, HA⟩ := hrel
          obtain ⟨w5, rfl⟩ : ∃ w5 : World, w5 = wr := ⟨_, rfl⟩
          clear l4
          by_cases hmt : m < x.rules.length
          · obtain ⟨b', o', rfl, hb', ⟨ok1, ok2⟩, d1, d2⟩ := HUR.out.fwdU m hmt
            have hT := Lib.hid (take_all_succ (p := goodN net) x.rules m hmt)
            have hI : Hid (goodN net x.rules[m] = false → x.rules.all (goodN net) = false) := fun h => List.all_eq_false.2 ⟨_, List.getElem_mem hmt, by simp [h]⟩
            generalize x.rules[m] = y at *
            have hmi : (m : Int) < (x.rules.length : Int) := by omega
            cases h5 : sEq y.dst hereW
            case true =>
              have H5 := Lib.hid h5
              rw [sHere] at h5
              go_wp2_with fail
              go_roundw
              case rel => exact ⟨m + 1, by omega, by go_num, later_alloc li _, by show _ = true; rw [hT.out, HA.out]; unfold goodN; rw [H5.out]; rfl⟩
              case measure => simp [intOf]; omega
            have H5 := Lib.hid h5
            rw [sHere] at h5
            obtain ⟨q, HQQ⟩ : ∃ q, Hid (offI net y.dst = q) := ⟨_, rfl⟩
            have lj := later_alloc li (Obj.cells #[.string y.src, .string y.dst] 174)
            go_wp2_with fail
            refine (impl_officeOf _ net y.dst _ (hv1.out.on lj)).mono ?_
            rw [HQQ.out]
            rintro e w6 ⟨rfl, b6⟩
            have l6 := later_trans lj b6
            by_cases hq : q < 0
            · have H6 : Hid (goodN net y = false) := by show _ = _; unfold goodN; rw [H5.out, HQQ.out, decide_eq_false (by omega)]; rfl
              go_wp2_with fail
              go_ret
              exact ⟨ret_bool (hbad.out (HGD.out _ (hI.out H6.out))).symm, later_trans lo l6⟩
            · have H6 : Hid (goodN net y = true) := by show _ = _; unfold goodN; rw [H5.out, HQQ.out, decide_eq_true (by omega)]; rfl
              go_wp2_with fail
              go_roundw
              case rel => exact ⟨m + 1, by omega, by go_num, l6, by show _ = true; rw [hT.out, HA.out, H6.out]; rfl⟩
              case measure => simp [intOf]; omega
          · have HE := Lib.hid (show m = x.rules.length by omega)
            have HA2 : Hid (x.rules.all (goodN net) = true) := by have := HA.out; rw [HE.out, List.take_length] at this; exact this
            go_wp2_with fail
            go_roundw
            case rel =>
              refine ⟨k + 1, by omega, by go_num, later_trans lo li, fun j hj => ?_⟩
              by_cases hjk : j < k
              · exact HG.out j hjk
              · obtain rfl : j = k := by omega
                exact HGD.out _ HA2.out
            case measure => simp [intOf]; omega
    · have HE := Lib.hid (show k = net.length by omega)
      have HN : Hid (netOk net = true) := by show _ = _; rw [netOk_good (by rw [← HE.out]; exact HG.out), HL.out]
      go_wp2_with fail
      go_ret
      exact ⟨ret_bool HN.out.symm, lr⟩

end Go.Proofs.YtpinkbodbedajaaGreatDoor
