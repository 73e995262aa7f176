/- N3 -/
import Derived.Test.YtpinkbodbedajaaGreatDoorQ4
import Derived.Laws.CopyRow
import Derived.Laws.CopyOwn
namespace Go.Proofs.YtpinkbodbedajaaGreatDoor
open Go.RowKit

theorem grown_trans' {a b c : World} {row : Option Nat} (h : a.grownBy b row) (k : b.grownBy c row) : a.grownBy c row :=
  ⟨k.os.trans h.os, k.tape.trans h.tape, k.output.trans h.output, Nat.le_trans h.size k.size, fun i hi hne => (k.block i (Nat.lt_of_lt_of_le hi h.size) hne).trans (h.block i hi hne)⟩

theorem run_copyAll {α : Type} [Flat α] {P : Program} (w : World) (g base : Nat) (dT sT ty e : TypeId) (i : TypeInfo) (hu : P.underlying dT = some (.slice e)) (hi : P.info? e = some i) (hsize : i.size = El.size α) (hsz : 0 < El.size α)
    (cur : Array Value) (vx : Value) (ys : List α) (B : Nat) (hr : rd w B vx ys) (hg : w.heap[g]? = some (.cells cur e (0, 0))) (hcur : cur.size = ys.length * El.size α) (hbase : base ≤ g) (hm : ys.length ≤ maxLen) :
    ∃ w', (Builtin.copy_ #[dT, sT] ty #[.slice (some ⟨g, 0, none⟩) ys.length ys.length, vx]).run P w = .ok (goInt ys.length) w' ∧ own e base w' (.slice (some ⟨g, 0, none⟩) ys.length ys.length) ys ∧ w.grownBy w' (some g) := by
  obtain ⟨A, n, c, rfl, hn, hc, hmx, hrd⟩ := hr
  subst hn
  have hex := listOf (n := ys.length) (p := fun k (cs : List Value) => ∀ h : k < ys.length, ∃ b o, A = some ⟨b, o, none⟩ ∧ El.el w B ys[k] cs ∧ ∀ j u, cs[j]? = some u → w.cell? ⟨b, o + (k * El.size α + j), none⟩ = some u) (fun k hk => by
    obtain ⟨b, o, cs, h1, _, h3, h4⟩ := hrd k hk
    exact ⟨cs, fun _ => ⟨b, o, h1, h3, h4⟩⟩)
  obtain ⟨dss, hdl, hds⟩ := hex
  have hdlen : ∀ x ∈ dss, x.length = El.size α := fun x hx => by
    obtain ⟨k, hk, rfl⟩ := List.getElem_of_mem hx
    obtain ⟨_, _, _, h, _⟩ := hds k hk (by omega)
    exact El.len h
  have hone : ∀ u ∈ dss.flatten, u.oneCell' = true := fun u hu => by
    obtain ⟨cs, hcs, hu'⟩ := List.mem_flatten.1 hu
    obtain ⟨k, hk, rfl⟩ := List.getElem_of_mem hcs
    obtain ⟨_, _, _, h, _⟩ := hds k hk (by omega)
    exact El.one h u hu'
  have hfl : dss.flatten.length = ys.length * El.size α := by rw [flatten_length hdlen, hdl]
  have hlen : dss.flatten.length = cur.size := by rw [hfl, hcur]
  have hst := run_storeCells_at P g 0 e dss.flatten 0 cur w hg (by omega) hone
  have hrow : (cur.toList.take (0 + 0) ++ dss.flatten ++ cur.toList.drop (0 + 0 + dss.flatten.length)).toArray = dss.flatten.toArray := by
    rw [hlen]; simp
  rw [hrow] at hst
  have hown : own e base (w.setRow g dss.flatten.toArray) (.slice (some ⟨g, 0, none⟩) ys.length ys.length) ys := by
    refine ⟨dss, ⟨hfl, .inr ⟨g, ys.length, dss.flatten.toArray, rfl, hbase, setRow_heap w g cur _ e _ hg, Nat.le_refl _, hm, by simp [hfl], ?_⟩⟩, hdl, fun k h1 h2 => ?_⟩
    · rw [← hfl]; exact List.take_length (l := dss.flatten)
    · obtain ⟨_, _, _, h, _⟩ := hds k h2 h1
      exact Flat.free h
  have hgr : w.grownBy (w.setRow g dss.flatten.toArray) (some g) := ⟨rfl, rfl, rfl, by simp [World.setRow], fun k hk hne => setRow_other w g k _ (fun e => hne (by rw [e]))⟩
  cases A with
  | none =>
    have h0 : ys.length = 0 := by
      rcases Nat.eq_zero_or_pos ys.length with h | h
      · exact h
      · obtain ⟨_, _, _, h1, _⟩ := hrd 0 h
        cases h1
    have hy : ys = [] := List.eq_nil_of_length_eq_zero h0
    subst hy
    have hd : dss = [] := List.eq_nil_of_length_eq_zero (by simpa using hdl)
    subst hd
    refine ⟨_, ?_, hown, hgr⟩
    simp only [List.flatten_nil] at hst
    simp [Builtin.copy_, run_underlying hu, Builtin.lenOf, Builtin.firstCells, sizeOf, typeInfo, hi, hst]
  | some ad =>
    have hcells : ∀ j u, dss.flatten[j]? = some u → w.cell? (ad.add j) = some u := fun j u hu => by
      have hjl : j < dss.flatten.length := (List.getElem?_eq_some_iff.1 hu).1
      rw [flatten_length hdlen, hdl] at hjl
      have hk : j / El.size α < ys.length := Nat.div_lt_of_lt_mul (by rw [Nat.mul_comm]; exact hjl)
      have hr' : j % El.size α < El.size α := Nat.mod_lt _ hsz
      have hj : j = j / El.size α * El.size α + j % El.size α := by rw [Nat.mul_comm]; exact (Nat.div_add_mod j _).symm
      obtain ⟨b, o, hA, _, hcc⟩ := hds (j / El.size α) (by omega) hk
      injection hA with hA
      subst hA
      rw [add_lit, hj]
      refine hcc _ u ?_
      rw [hj] at hu
      rw [← hu, flatten_get hdlen (by omega) hr']
    have hl := run_loadCells_list (P := P) w ad dss.flatten hcells
    rw [hfl] at hl
    refine ⟨_, ?_, hown, hgr⟩
    simp [Builtin.copy_, run_underlying hu, Builtin.lenOf, Builtin.firstCells, sizeOf, typeInfo, hi, hsize, hl, hst]

theorem wpList_copyAll {α : Type} [Flat α] {P : Program} {w : World} {ops : Array Oper} {rest : List Oper} {o : Oper} {a : Act} {Q : Exit → Act → World → Prop} (hgd : o.guard = none) (d s : Operand) (dT sT : TypeId)
    (ho : o.op = .call { callee := .builtin .copy, args := #[d, s], argTypes := #[dT, sT] })
    (g base : Nat) (e : TypeId) (i : TypeInfo) (hu : P.underlying dT = some (.slice e)) (hi : P.info? e = some i) (hsize : i.size = El.size α) (hsz : 0 < El.size α)
    (cur : Array Value) (vx : Value) (ys : List α) (B : Nat) (hr : rd w B vx ys) (hd : a.eval d = .slice (some ⟨g, 0, none⟩) ys.length ys.length) (hs : a.eval s = vx)
    (hg : w.heap[g]? = some (.cells cur e (0, 0))) (hcur : cur.size = ys.length * El.size α) (hbase : base ≤ g) (hm : ys.length ≤ maxLen)
    (h : ∀ w', own e base w' (.slice (some ⟨g, 0, none⟩) ys.length ys.length) ys → w.grownBy w' (some g) → wpList P ops Q rest (a.put o.dst (goInt ys.length)) w') : wpList P ops Q (o :: rest) a w := by
  refine wpList_plain hgd fun K hK => ?_
  obtain ⟨w', hrun, h2, h3⟩ := run_copyAll (P := P) w g base dT sT o.type e i hu hi hsize hsz cur vx ys B hr hg hcur hbase hm
  unfold Oper.wp execOp
  simp only [ho, resolve, invoke, builtin, Sem.run_bind, Sem.run_pure, Result.andThen_ok, List.map_toArray, List.map_cons, List.map_nil, hd, hs, hrun]
  exact hK _ _ (h w' h2 h3)

end Go.Proofs.YtpinkbodbedajaaGreatDoor
