/- W2 -/
import Derived.Test.YtpinkbodbedajaaGreatDoorQ1
namespace Go.Proofs.YtpinkbodbedajaaGreatDoor
open Go.RowKit

theorem listOf {α : Type} {p : Nat → α → Prop} : ∀ {n : Nat}, (∀ i, i < n → ∃ y, p i y) → ∃ xs : List α, xs.length = n ∧ ∀ i (h : i < xs.length), p i xs[i]
  | 0, _ => ⟨[], rfl, fun i h => absurd h (Nat.not_lt_zero i)⟩
  | n + 1, h => by
    obtain ⟨xs, hl, hp⟩ := listOf (n := n) (fun i hi => h i (by omega))
    obtain ⟨y, hy⟩ := h n (by omega)
    refine ⟨xs ++ [y], by simp [hl], fun i hi => ?_⟩
    by_cases hin : i < xs.length
    · rw [List.getElem_append_left hin]
      exact hp i hin
    · have : i = n := by simp at hi; omega
      subst this
      rw [List.getElem_append_right (by omega)]
      simpa [hl] using hy

theorem run_append_of_nil {P : Program} (w : World) (base : Nat) (t ty e : TypeId) (i : TypeInfo) (size : Nat) (ht : P.underlying t = some (.slice e)) (hi : P.info? e = some i)
    (v : Value) (n : Nat) (xs : List Value) (hown : w.ownsRow base e size v n xs) (c : Nat) : (Builtin.append_ #[t, t] ty #[v, .slice none 0 c]).run P w = .ok v w := by
  rcases hown.2 with ⟨rfl, rfl⟩ | ⟨g, cap, cur, rfl, _, _, hnc, _⟩
  · simp [Builtin.append_, run_underlying ht, sizeOf, typeInfo, hi, Builtin.lenOf, Builtin.firstCells]
  · simp [Builtin.append_, run_underlying ht, sizeOf, typeInfo, hi, Builtin.lenOf, Builtin.firstCells, hnc, storeCells]

/-- 'out = append(out, xs...)': what the builtin does. -/
theorem run_appendAll {α : Type} [Flat α] {P : Program} (w : World) (base : Nat) (t ty e : TypeId) (i : TypeInfo) (z : Value) (bytes : Nat) (ht : P.underlying t = some (.slice e)) (hi : P.info? e = some i) (hz : i.zero = some z)
    (hsize : i.size = El.size α) (hby : i.bytes = bytes) (hzs : z.cells.size = El.size α) (hsz : 0 < El.size α)
    (v : Value) (xs : List α) (hown : own e base w v xs) (vx : Value) (ys : List α) (B : Nat) (hr : rd w B vx ys)
    (h63 : xs.length + ys.length ≤ maxLen) (hbytes : (xs.length + ys.length) * bytes ≤ 140737488355328) (hbase : base ≤ w.heap.size) :
    ∃ v' w', (Builtin.append_ #[t, t] ty #[v, vx]).run P w = .ok v' w' ∧ own e base w' v' (xs ++ ys) ∧ w.grownBy w' v.ownBlock ∧ (v'.ownBlock = v.ownBlock ∨ v'.ownBlock = some w.heap.size) := by
  obtain ⟨css, hrow, hl, he⟩ := hown
  obtain ⟨A, n, c, rfl, hn, hc, hm, hrd⟩ := hr
  subst hn
  have hex := listOf (n := ys.length) (p := fun k (cs : List Value) => ∀ h : k < ys.length, ∃ b o, A = some ⟨b, o, none⟩ ∧ El.el w B ys[k] cs ∧ ∀ j u, cs[j]? = some u → w.cell? ⟨b, o + (k * El.size α + j), none⟩ = some u) (fun k hk => by
    obtain ⟨b, o, cs, h1, _, h3, h4⟩ := hrd k hk
    exact ⟨cs, fun _ => ⟨b, o, h1, h3, h4⟩⟩)
  obtain ⟨dss, hdl, hds⟩ := hex
  have hdlen : ∀ x ∈ dss, x.length = El.size α := fun x hx => by
    obtain ⟨k, hk, rfl⟩ := List.getElem_of_mem hx
    obtain ⟨_, _, _, h, _⟩ := hds k hk (by omega)
    exact El.len h
  have hownew : ∀ v' w', w'.ownsRow base e (El.size α) v' (xs.length + ys.length) (css.flatten ++ dss.flatten) → own e base w' v' (xs ++ ys) := fun v' w' ho => by
    refine ⟨css ++ dss, by simpa using ho, by simp [hl, hdl], fun k h1 h2 => ?_⟩
    by_cases hk : k < xs.length
    · rw [List.getElem_append_left hk, List.getElem_append_left (by omega)]
      exact Flat.free (he k hk (by omega))
    · have hkl : k - xs.length < ys.length := by simp at h1; omega
      rw [List.getElem_append_right (by omega), List.getElem_append_right (by omega)]
      obtain ⟨_, _, _, h, _⟩ := hds (k - xs.length) (by omega) hkl
      simp only [hl]
      exact Flat.free h
  cases A with
  | none =>
    have h0 : ys.length = 0 := by
      rcases Nat.eq_zero_or_pos ys.length with h | h
      · exact h
      · obtain ⟨_, _, _, h1, _⟩ := hrd 0 h
        cases h1
    have hy : ys = [] := List.eq_nil_of_length_eq_zero h0
    subst hy
    have hd : dss = [] := List.eq_nil_of_length_eq_zero (by simpa using hdl)
    subst hd
    exact ⟨v, w, run_append_of_nil w base t ty e i _ ht hi v _ _ hrow c, hownew v w (by simpa using hrow), World.grownBy.refl w _, .inl rfl⟩
  | some ad =>
    have hcells : ∀ j u, dss.flatten[j]? = some u → w.cell? (ad.add j) = some u := fun j u hu => by
      have hjl : j < dss.flatten.length := (List.getElem?_eq_some_iff.1 hu).1
      rw [flatten_length hdlen, hdl] at hjl
      have hk : j / El.size α < ys.length := Nat.div_lt_of_lt_mul (by rw [Nat.mul_comm]; exact hjl)
      have hr' : j % El.size α < El.size α := Nat.mod_lt _ hsz
      have hj : j = j / El.size α * El.size α + j % El.size α := by rw [Nat.mul_comm]; exact (Nat.div_add_mod j _).symm
      obtain ⟨b, o, hA, _, hcc⟩ := hds (j / El.size α) (by omega) hk
      injection hA with hA
      subst hA
      rw [add_lit, hj]
      refine hcc _ u ?_
      rw [hj] at hu
      rw [← hu, flatten_get hdlen (by omega) hr']
    obtain ⟨v', w', hrun, h2, h3, _, h5⟩ := run_append_own_at (P := P) w base t ty e i z (El.size α) bytes ht hi hz hsize hby hzs hsz v xs.length css.flatten hrow ad ys.length c dss.flatten (by rw [flatten_length hdlen, hdl]) hcells
      (fun u hu => by
        obtain ⟨cs, hcs, hu'⟩ := List.mem_flatten.1 hu
        obtain ⟨k, hk, rfl⟩ := List.getElem_of_mem hcs
        obtain ⟨_, _, _, h, _⟩ := hds k hk (by omega)
        exact El.one h u hu') h63 hbytes hbase
    exact ⟨v', w', hrun, hownew v' w' h2, h3, h5⟩

theorem wp_appendAll {α : Type} [Flat α] {P : Program} {w : World} {o : Oper} {a : Act} {K : Act → World → Prop} {Q : Exit → Act → World → Prop} (s x : Operand) (t : TypeId)
    (ho : o.op = .call { callee := .builtin .append, args := #[s, x], argTypes := #[t, t] })
    (base : Nat) (e : TypeId) (i : TypeInfo) (z : Value) (bytes : Nat) (ht : P.underlying t = some (.slice e)) (hi : P.info? e = some i) (hz : i.zero = some z)
    (hsize : i.size = El.size α) (hby : i.bytes = bytes) (hzs : z.cells.size = El.size α) (hsz : 0 < El.size α)
    (v : Value) (xs : List α) (hs : a.eval s = v) (hown : own e base w v xs) (vx : Value) (ys : List α) (hx : a.eval x = vx) (B : Nat) (hr : rd w B vx ys)
    (h63 : xs.length + ys.length ≤ maxLen) (hbytes : (xs.length + ys.length) * bytes ≤ 140737488355328) (hbase : base ≤ w.heap.size)
    (h : ∀ v' w', own e base w' v' (xs ++ ys) → w.grownBy w' v.ownBlock → (v'.ownBlock = v.ownBlock ∨ v'.ownBlock = some w.heap.size) → K (a.put o.dst v') w') : o.wp P a w K Q := by
  obtain ⟨v', w', hrun, h2, h3, h4⟩ := run_appendAll (P := P) w base t o.type e i z bytes ht hi hz hsize hby hzs hsz v xs hown vx ys B hr h63 hbytes hbase
  unfold Oper.wp execOp
  simp only [ho, resolve, invoke, builtin, Sem.run_bind, Sem.run_pure, Result.andThen_ok, List.map_toArray, List.map_cons, List.map_nil, hs, hx, hrun]
  exact h v' w' h2 h3 h4

theorem wpList_appendAll {α : Type} [Flat α] {P : Program} {w : World} {ops : Array Oper} {rest : List Oper} {o : Oper} {a : Act} {Q : Exit → Act → World → Prop} (hgd : o.guard = none) (s x : Operand) (t : TypeId)
    (ho : o.op = .call { callee := .builtin .append, args := #[s, x], argTypes := #[t, t] })
    (base : Nat) (e : TypeId) (i : TypeInfo) (z : Value) (bytes : Nat) (ht : P.underlying t = some (.slice e)) (hi : P.info? e = some i) (hz : i.zero = some z)
    (hsize : i.size = El.size α) (hby : i.bytes = bytes) (hzs : z.cells.size = El.size α) (hsz : 0 < El.size α)
    (v : Value) (xs : List α) (hs : a.eval s = v) (hown : own e base w v xs) (vx : Value) (ys : List α) (hx : a.eval x = vx) (B : Nat) (hr : rd w B vx ys)
    (h63 : xs.length + ys.length ≤ maxLen) (hbytes : (xs.length + ys.length) * bytes ≤ 140737488355328) (hbase : base ≤ w.heap.size)
    (h : ∀ v' w', own e base w' v' (xs ++ ys) → w.grownBy w' v.ownBlock → (v'.ownBlock = v.ownBlock ∨ v'.ownBlock = some w.heap.size) → wpList P ops Q rest (a.put o.dst v') w') : wpList P ops Q (o :: rest) a w :=
  wpList_plain hgd fun _ hK => wp_appendAll s x t ho base e i z bytes ht hi hz hsize hby hzs hsz v xs hs hown vx ys hx B hr h63 hbytes hbase fun v' w' h2 h3 h4 => hK _ _ (h v' w' h2 h3 h4)

theorem own_some {α : Type} [El α] {T base n c : Nat} {A : Option Addr} {w : World} {xs : List α} (h : own T base w (.slice A n c) xs) (h0 : 0 < xs.length) :
    ∃ g, A = some ⟨g, 0, none⟩ ∧ base ≤ g ∧ g < w.heap.size ∧ xs.length ≤ c ∧ c ≤ maxLen := by
  rcases h.form with ⟨_, h1⟩ | ⟨g, c', h1, h2, h3, h4, h5⟩
  · subst h1; simp at h0
  · injection h1 with e1 e2 e3
    subst e1 e3
    exact ⟨g, rfl, h2, h3, h4, h5⟩

end Go.Proofs.YtpinkbodbedajaaGreatDoor
