/- D1 W2 L1 -/
import Derived.Test.YtmangjjaijhcnaaQ3
import Derived.Test.YtmangjjaijhcnaaQ2
namespace Go.Proofs.Ytmangjjaijhcnaa
open Go.RowKit

theorem list_own (T base : Nat) (w : World) (xs : List Int) (hx : ∀ x ∈ xs, isI64 x) (hm : xs.length ≤ maxLen) (hb : base ≤ w.heap.size) :
    own T base (w.alloc (.cells (xs.map (Value.int .i64)).toArray T)) (.slice (some ⟨w.heap.size, 0, none⟩) xs.length xs.length) xs := by
  have h1 : (xs.map fun x => [Value.int .i64 x]).flatten = xs.map (Value.int .i64) := by
    clear hm hx
    induction xs with
    | nil => rfl
    | cons x xs ih => simp [ih]
  refine ⟨xs.map fun x => [Value.int .i64 x], ⟨?_, .inr ⟨w.heap.size, xs.length, _, rfl, hb, heap_alloc_new w _, Nat.le_refl _, hm, by simp [El.size], ?_⟩⟩, by simp, fun k hk hk' => ?_⟩
  · rw [h1]
    simp [El.size]
  · rw [h1]
    simp only [El.size, Nat.mul_one]
    exact List.take_of_length_le (by simp)
  · simp only [List.getElem_map]
    exact ⟨hx _ (List.getElem_mem hk), rfl⟩

theorem rd_open (v : Value) (bs : List UInt8) (w : World) (hv : rd w w.heap.size v bs) :
    Calls Try.prog 43 #[v] w fun e w' => ∃ g, e = .returned (.pointer (some ⟨g, 0, none⟩)) ∧ w.heap.size ≤ g ∧ rdr w' g 0 ∧ Below w.heap.size w w' := by
  obtain ⟨A, n, c, rfl, hn, hc, hm, hr⟩ := hv
  subst hn
  have HM := hm
  unfold maxLen at hm
  have HR := Lib.hid hr; clear hr
  have HMM := Lib.hid HM; clear HM
  go_enter Try.func43, Try.ntmps43
  by_cases h : 2000 < bs.length
  · have HH : Hid (rdr (w.alloc (Obj.cells #[Value.slice A 2000 c, Value.int IntKind.i64 0] 123)) w.heap.size 0) :=
      ⟨A, 2000, c, bs.take 2000, heap_alloc_new w _, by simp; omega, Nat.le_refl _, by omega, HMM.out, (HR.out.take 2000).keep fun p hp => World.cell?_alloc_lt w _ p hp⟩
    go_wp2
    go_ret
    exact ⟨w.heap.size, rfl, Nat.le_refl _, HH.out, (Below.refl _ _).alloc (Nat.le_refl _) _⟩
  · have HH : Hid (rdr (w.alloc (Obj.cells #[Value.slice A bs.length c, Value.int IntKind.i64 0] 123)) w.heap.size 0) :=
      ⟨A, bs.length, c, bs, heap_alloc_new w _, rfl, by omega, hc, HMM.out, HR.out.keep fun p hp => World.cell?_alloc_lt w _ p hp⟩
    go_wp2
    go_ret
    exact ⟨w.heap.size, rfl, Nat.le_refl _, HH.out, (Below.refl _ _).alloc (Nat.le_refl _) _⟩

set_option maxHeartbeats 400000 in
theorem rd_num (T g p : Nat) (v : Value) (xs : List Int) (w : World) (hr : rdr w g p) (hp : p ≤ 1099511627776) (hv : own T (g + 1) w v xs) (h0 : 0 < xs.length) :
    Calls Try.prog 88 #[.pointer (some ⟨g, 0, none⟩), v] w fun e w' => ∃ x ∈ xs, e = .returned (.int .i64 x) ∧ rdr w' g (p + 1) ∧ w.grownBy w' (some g) := by
  have hlen : xs.length ≤ maxLen := by
    obtain ⟨A, n, c, _, hn, hc, hm, _⟩ := hv.rd
    omega
  have hne : v.ownBlock = none ∨ v.ownBlock ≠ some g := by
    cases hb : v.ownBlock with
    | none => exact .inl rfl
    | some k => exact .inr fun e => by have := (hv.blk k hb).1; injection e; omega
  have HV := Lib.hid (fun (W : World) (hg : w.grownBy W (some g)) => (hv.grown hg hne).rd)
  obtain ⟨A, n, c, rfl, hn, hc, hm, _⟩ := hv.rd
  subst hn
  unfold maxLen at hm
  clear hne hv
  go_enter Try.func88, Try.ntmps88
  go_wp2_with fail
  refine (rd_pick g p _ w hr hp ⟨by omega, by omega⟩).mono ?_
  rintro e w1 ⟨x, rfl, hx, hr1, hg⟩
  obtain ⟨x0, x1⟩ := hx.2 (by omega)
  obtain ⟨q, rfl⟩ := Int.eq_ofNat_of_zero_le x0
  obtain ⟨A', n', c', e1, _, _, _, hrd⟩ := HV.out w1 hg
  injection e1 with e1 e2 e3
  subst e1
  obtain ⟨b, o, rfl, hb, hi, c1⟩ := hrd.int q (by omega)
  have hmem : xs[q]'(by omega) ∈ xs := List.getElem_mem _
  generalize xs[q] = y at *
  have HM := Lib.hid hmem; clear hmem hx e2 e3
  go_wp2
  go_ret
  exact ⟨y, HM.out, rfl, hr1, hg⟩

/-- The decimal text of a number that is not negative. -/
def decL (n : Nat) : List UInt8 := if n = 0 then [48] else dec10 n
def decB (n : Nat) : ByteArray := ⟨(decL n).toArray⟩
theorem dec10_small {m : Nat} (h0 : 0 < m) (h : m ≤ 9) : dec10 m = [b8 (48 + m)] := by
  rw [dec10_step h0, show m / 10 = 0 by omega, show m % 10 = m by omega, show dec10 0 = [] by rw [dec10]]
  unfold b8
  rw [show (48 + (m : Int)).toNat = 48 + m by omega]
  rfl

set_option maxHeartbeats 400000 in
theorem spec_l9Dec (n : Nat) (w : World) (hn : n ≤ 9223372036854775807) :
    Calls Try.prog 125 #[.int .i64 n] w fun e w' => e = .returned (.string (decB n)) ∧ Below w.heap.size w w' := by
  have hbs := byteString
  have h0 : (0 : Int) ≤ (n : Int) := by omega
  go_enter Try.func125, Try.ntmps125
  go_wp2
  go_loopw [0, 3] (fun t s wr => ∃ (m : Nat) (u : ByteArray), m ≤ n ∧ t = .int .i64 m ∧ s = .string u ∧ u.size ≤ 20 ∧ Hid (n = 0 ∧ m = 0 ∧ u = ⟨#[]⟩ ∨ 0 < m ∧ dec10 n = dec10 m ++ u.data.toList) ∧ Hid (m * 10 ^ u.size ≤ n) ∧ Below w.heap.size w wr) (fun t _ _ => (intOf t).toNat)
  case atStart =>
    refine ⟨n, _, Nat.le_refl _, rfl, rfl, Nat.zero_le _, ?_, (by show n * 10 ^ 0 ≤ n; omega), Below.refl _ _⟩
    by_cases h : n = 0
    · exact .inl ⟨h, h, rfl⟩
    · exact .inr ⟨by omega, by simp⟩
  case round =>
    obtain ⟨m, u, hm, rfl, rfl, hu, HD, HP, hbl⟩ := hrel
    obtain ⟨w1, rfl⟩ : ∃ w1 : World, w1 = wr := ⟨_, rfl⟩
    by_cases h9 : 9 < m
    · have hu19 : u.size ≤ 19 := by
        apply Classical.byContradiction
        intro hc
        have h1 := HP.out
        have h2 : 10 ^ 20 ≤ 10 ^ u.size := Nat.pow_le_pow_right (by omega) (by omega)
        have h3 : 10 * 10 ^ 20 ≤ m * 10 ^ u.size := Nat.mul_le_mul (by omega) h2
        omega
      go_wp2
      go_roundw
      case rel =>
        refine ⟨m / 10, _, by omega, by go_num, rfl, by rw [ByteArray.size_append]; show 1 + _ ≤ 20; omega, .inr ⟨by omega, ?_⟩, ?_, hbl.alloc hbl.size _⟩
        · rcases HD.out with ⟨_, h, _⟩ | ⟨_, h⟩
          · omega
          · rw [h, ba_append, dec10_step (n := m) (by omega), List.append_assoc]
            show _ = dec10 (m / 10) ++ ([b8 (48 + (m : Int) % 10)] ++ _)
            unfold b8
            rw [show (48 + (m : Int) % 10).toNat = 48 + m % 10 by omega]
        · show _ ≤ _
          have h1 := HP.out
          have h2 : (m / 10) * 10 ≤ m := Nat.div_mul_le_self _ _
          rw [ByteArray.size_append, show (ByteArray.mk #[b8 (48 + (m : Int) % 10)]).size = 1 from rfl, Nat.pow_add, Nat.pow_one, ← Nat.mul_assoc]
          exact Nat.le_trans (Nat.mul_le_mul_right _ h2) h1
      case measure => simp [intOf]; omega
    · go_wp2
      go_ret
      refine ⟨ret_str ?_, hbl.alloc hbl.size _⟩
      apply ba_ext
      rw [ba_append]
      rcases HD.out with ⟨h1, h2, h3⟩ | ⟨h1, h2⟩
      · subst h1 h2 h3
        rfl
      · show _ = decL n
        unfold decL
        rw [if_neg (by omega), h2, dec10_small h1 (by omega)]

/-- The last k decimal digits of a number. -/
def showL : Nat → Nat → List UInt8
  | _, 0 => []
  | n, k + 1 => showL (n / 10) k ++ [b8 (48 + (n : Int) % 10)]
def showB (n k : Nat) : ByteArray := ⟨(showL n k).toArray⟩
theorem showL_len : ∀ (k n : Nat), (showL n k).length = k
  | 0, _ => rfl
  | k + 1, n => by rw [showL, List.length_append, showL_len k]; rfl
theorem showB_size (n k : Nat) : (showB n k).size = k := by
  show (showL n k).toArray.size = k
  rw [List.size_toArray, showL_len]

set_option maxHeartbeats 400000 in
theorem spec_l1Show (n k : Nat) (w : World) (hn : n ≤ 9223372036854775807) (hk : k ≤ 60) :
    Calls Try.prog 134 #[.int .i64 n, .int .i64 k] w fun e w' => e = .returned (.string (showB n k)) ∧ Below w.heap.size w w' := by
  go_enter Try.func134, Try.ntmps134
  go_wp2_with fail
  go_loopw [0, 5, 6] (fun t s i wr => ∃ (m j : Nat) (u : ByteArray), m ≤ n ∧ j ≤ k ∧ t = .int .i64 m ∧ s = .string u ∧ i = .int .i64 j ∧ u.size ≤ j ∧ Hid (showL n k = showL m (k - j) ++ u.data.toList) ∧ Below w.heap.size w wr) (fun _ _ i _ => k - (intOf i).toNat)
  case atStart => exact ⟨n, 0, _, Nat.le_refl _, Nat.zero_le _, rfl, rfl, rfl, Nat.le_refl _, by show _ = _; simp, Below.refl _ _⟩
  case round =>
    obtain ⟨m, j, u, hm, hj, rfl, rfl, rfl, hu, HD, hbl⟩ := hrel
    obtain ⟨w1, rfl⟩ : ∃ w1 : World, w1 = wr := ⟨_, rfl⟩
    by_cases hlt : j < k
    · go_wp2_with fail
      refine (spec_l9Dec (m % 10) _ (by omega)).mono ?_
      rintro e w2 ⟨rfl, hb⟩
      have hd1 : (decB (m % 10)).size = 1 := by
        show (decL _).toArray.size = 1
        unfold decL
        split
        · rfl
        · rw [dec10_small (by omega) (by omega)]; rfl
      have HDD : Hid ((decB (m % 10)).data.toList = [b8 (48 + (m : Int) % 10)]) := by
        show decL _ = _
        unfold decL
        split
        · rename_i h
          rw [show (m : Int) % 10 = 0 by omega]; rfl
        · rw [dec10_small (by omega) (by omega)]; rfl
      generalize decB (m % 10) = d at *
      go_wp2_with fail
      go_roundw
      case rel =>
        refine ⟨m / 10, j + 1, _, by omega, by omega, by go_num, rfl, by go_num, by rw [ByteArray.size_append]; omega, ?_, hbl.trans (hb.mono hbl.size)⟩
        show _ = _
        rw [HD.out, ba_append, HDD.out, show k - j = (k - (j + 1)) + 1 by omega, showL, List.append_assoc]
      case measure => simp [intOf]; omega
    · have HE := Lib.hid (show k - j = 0 by omega)
      go_wp2_with fail
      go_ret
      refine ⟨ret_str ?_, hbl⟩
      apply ba_ext
      show _ = showL n k
      rw [HD.out, HE.out, showL]
      rfl

end Go.Proofs.Ytmangjjaijhcnaa

namespace Go.Proofs.Ytmangjjaijhcnaa
open Go.RowKit

theorem listOf {α : Type} {p : Nat → α → Prop} : ∀ {n : Nat}, (∀ i, i < n → ∃ y, p i y) → ∃ xs : List α, xs.length = n ∧ ∀ i (h : i < xs.length), p i xs[i]
  | 0, _ => ⟨[], rfl, fun i h => absurd h (Nat.not_lt_zero i)⟩
  | n + 1, h => by
    obtain ⟨xs, hl, hp⟩ := listOf (n := n) (fun i hi => h i (by omega))
    obtain ⟨y, hy⟩ := h n (by omega)
    refine ⟨xs ++ [y], by simp [hl], fun i hi => ?_⟩
    by_cases hin : i < xs.length
    · rw [List.getElem_append_left hin]
      exact hp i hin
    · have : i = n := by simp at hi; omega
      subst this
      rw [List.getElem_append_right (by omega)]
      simpa [hl] using hy

theorem run_append_of_nil {P : Program} (w : World) (base : Nat) (t ty e : TypeId) (i : TypeInfo) (size : Nat) (ht : P.underlying t = some (.slice e)) (hi : P.info? e = some i)
    (v : Value) (n : Nat) (xs : List Value) (hown : w.ownsRow base e size v n xs) (c : Nat) : (Builtin.append_ #[t, t] ty #[v, .slice none 0 c]).run P w = .ok v w := by
  rcases hown.2 with ⟨rfl, rfl⟩ | ⟨g, cap, cur, rfl, _, _, hnc, _⟩
  · simp [Builtin.append_, run_underlying ht, sizeOf, typeInfo, hi, Builtin.lenOf, Builtin.firstCells]
  · simp [Builtin.append_, run_underlying ht, sizeOf, typeInfo, hi, Builtin.lenOf, Builtin.firstCells, hnc, storeCells]

/-- 'out = append(out, xs...)': what the builtin does. -/
theorem run_appendAll {α : Type} [Flat α] {P : Program} (w : World) (base : Nat) (t ty e : TypeId) (i : TypeInfo) (z : Value) (bytes : Nat) (ht : P.underlying t = some (.slice e)) (hi : P.info? e = some i) (hz : i.zero = some z)
    (hsize : i.size = El.size α) (hby : i.bytes = bytes) (hzs : z.cells.size = El.size α) (hsz : 0 < El.size α)
    (v : Value) (xs : List α) (hown : own e base w v xs) (vx : Value) (ys : List α) (B : Nat) (hr : rd w B vx ys)
    (h63 : xs.length + ys.length ≤ maxLen) (hbytes : (xs.length + ys.length) * bytes ≤ 140737488355328) (hbase : base ≤ w.heap.size) :
    ∃ v' w', (Builtin.append_ #[t, t] ty #[v, vx]).run P w = .ok v' w' ∧ own e base w' v' (xs ++ ys) ∧ w.grownBy w' v.ownBlock ∧ (v'.ownBlock = v.ownBlock ∨ v'.ownBlock = some w.heap.size) := by
  obtain ⟨css, hrow, hl, he⟩ := hown
  obtain ⟨A, n, c, rfl, hn, hc, hm, hrd⟩ := hr
  subst hn
  have hex := listOf (n := ys.length) (p := fun k (cs : List Value) => ∀ h : k < ys.length, ∃ b o, A = some ⟨b, o, none⟩ ∧ El.el w B ys[k] cs ∧ ∀ j u, cs[j]? = some u → w.cell? ⟨b, o + (k * El.size α + j), none⟩ = some u) (fun k hk => by
    obtain ⟨b, o, cs, h1, _, h3, h4⟩ := hrd k hk
    exact ⟨cs, fun _ => ⟨b, o, h1, h3, h4⟩⟩)
  obtain ⟨dss, hdl, hds⟩ := hex
  have hdlen : ∀ x ∈ dss, x.length = El.size α := fun x hx => by
    obtain ⟨k, hk, rfl⟩ := List.getElem_of_mem hx
    obtain ⟨_, _, _, h, _⟩ := hds k hk (by omega)
    exact El.len h
  have hownew : ∀ v' w', w'.ownsRow base e (El.size α) v' (xs.length + ys.length) (css.flatten ++ dss.flatten) → own e base w' v' (xs ++ ys) := fun v' w' ho => by
    refine ⟨css ++ dss, by simpa using ho, by simp [hl, hdl], fun k h1 h2 => ?_⟩
    by_cases hk : k < xs.length
    · rw [List.getElem_append_left hk, List.getElem_append_left (by omega)]
      exact Flat.free (he k hk (by omega))
    · have hkl : k - xs.length < ys.length := by simp at h1; omega
      rw [List.getElem_append_right (by omega), List.getElem_append_right (by omega)]
      obtain ⟨_, _, _, h, _⟩ := hds (k - xs.length) (by omega) hkl
      simp only [hl]
      exact Flat.free h
  cases A with
  | none =>
    have h0 : ys.length = 0 := by
      rcases Nat.eq_zero_or_pos ys.length with h | h
      · exact h
      · obtain ⟨_, _, _, h1, _⟩ := hrd 0 h
        cases h1
    have hy : ys = [] := List.eq_nil_of_length_eq_zero h0
    subst hy
    have hd : dss = [] := List.eq_nil_of_length_eq_zero (by simpa using hdl)
    subst hd
    exact ⟨v, w, run_append_of_nil w base t ty e i _ ht hi v _ _ hrow c, hownew v w (by simpa using hrow), World.grownBy.refl w _, .inl rfl⟩
  | some ad =>
    have hcells : ∀ j u, dss.flatten[j]? = some u → w.cell? (ad.add j) = some u := fun j u hu => by
      have hjl : j < dss.flatten.length := (List.getElem?_eq_some_iff.1 hu).1
      rw [flatten_length hdlen, hdl] at hjl
      have hk : j / El.size α < ys.length := Nat.div_lt_of_lt_mul (by rw [Nat.mul_comm]; exact hjl)
      have hr' : j % El.size α < El.size α := Nat.mod_lt _ hsz
      have hj : j = j / El.size α * El.size α + j % El.size α := by rw [Nat.mul_comm]; exact (Nat.div_add_mod j _).symm
      obtain ⟨b, o, hA, _, hcc⟩ := hds (j / El.size α) (by omega) hk
      injection hA with hA
      subst hA
      rw [add_lit, hj]
      refine hcc _ u ?_
      rw [hj] at hu
      rw [← hu, flatten_get hdlen (by omega) hr']
    obtain ⟨v', w', hrun, h2, h3, _, h5⟩ := run_append_own_at (P := P) w base t ty e i z (El.size α) bytes ht hi hz hsize hby hzs hsz v xs.length css.flatten hrow ad ys.length c dss.flatten (by rw [flatten_length hdlen, hdl]) hcells
      (fun u hu => by
        obtain ⟨cs, hcs, hu'⟩ := List.mem_flatten.1 hu
        obtain ⟨k, hk, rfl⟩ := List.getElem_of_mem hcs
        obtain ⟨_, _, _, h, _⟩ := hds k hk (by omega)
        exact El.one h u hu') h63 hbytes hbase
    exact ⟨v', w', hrun, hownew v' w' h2, h3, h5⟩

theorem wp_appendAll {α : Type} [Flat α] {P : Program} {w : World} {o : Oper} {a : Act} {K : Act → World → Prop} {Q : Exit → Act → World → Prop} (s x : Operand) (t : TypeId)
    (ho : o.op = .call { callee := .builtin .append, args := #[s, x], argTypes := #[t, t] })
    (base : Nat) (e : TypeId) (i : TypeInfo) (z : Value) (bytes : Nat) (ht : P.underlying t = some (.slice e)) (hi : P.info? e = some i) (hz : i.zero = some z)
    (hsize : i.size = El.size α) (hby : i.bytes = bytes) (hzs : z.cells.size = El.size α) (hsz : 0 < El.size α)
    (v : Value) (xs : List α) (hs : a.eval s = v) (hown : own e base w v xs) (vx : Value) (ys : List α) (hx : a.eval x = vx) (B : Nat) (hr : rd w B vx ys)
    (h63 : xs.length + ys.length ≤ maxLen) (hbytes : (xs.length + ys.length) * bytes ≤ 140737488355328) (hbase : base ≤ w.heap.size)
    (h : ∀ v' w', own e base w' v' (xs ++ ys) → w.grownBy w' v.ownBlock → (v'.ownBlock = v.ownBlock ∨ v'.ownBlock = some w.heap.size) → K (a.put o.dst v') w') : o.wp P a w K Q := by
  obtain ⟨v', w', hrun, h2, h3, h4⟩ := run_appendAll (P := P) w base t o.type e i z bytes ht hi hz hsize hby hzs hsz v xs hown vx ys B hr h63 hbytes hbase
  unfold Oper.wp execOp
  simp only [ho, resolve, invoke, builtin, Sem.run_bind, Sem.run_pure, Result.andThen_ok, List.map_toArray, List.map_cons, List.map_nil, hs, hx, hrun]
  exact h v' w' h2 h3 h4

theorem wpList_appendAll {α : Type} [Flat α] {P : Program} {w : World} {ops : Array Oper} {rest : List Oper} {o : Oper} {a : Act} {Q : Exit → Act → World → Prop} (hgd : o.guard = none) (s x : Operand) (t : TypeId)
    (ho : o.op = .call { callee := .builtin .append, args := #[s, x], argTypes := #[t, t] })
    (base : Nat) (e : TypeId) (i : TypeInfo) (z : Value) (bytes : Nat) (ht : P.underlying t = some (.slice e)) (hi : P.info? e = some i) (hz : i.zero = some z)
    (hsize : i.size = El.size α) (hby : i.bytes = bytes) (hzs : z.cells.size = El.size α) (hsz : 0 < El.size α)
    (v : Value) (xs : List α) (hs : a.eval s = v) (hown : own e base w v xs) (vx : Value) (ys : List α) (hx : a.eval x = vx) (B : Nat) (hr : rd w B vx ys)
    (h63 : xs.length + ys.length ≤ maxLen) (hbytes : (xs.length + ys.length) * bytes ≤ 140737488355328) (hbase : base ≤ w.heap.size)
    (h : ∀ v' w', own e base w' v' (xs ++ ys) → w.grownBy w' v.ownBlock → (v'.ownBlock = v.ownBlock ∨ v'.ownBlock = some w.heap.size) → wpList P ops Q rest (a.put o.dst v') w') : wpList P ops Q (o :: rest) a w :=
  wpList_plain hgd fun _ hK => wp_appendAll s x t ho base e i z bytes ht hi hz hsize hby hzs hsz v xs hs hown vx ys hx B hr h63 hbytes hbase fun v' w' h2 h3 h4 => hK _ _ (h v' w' h2 h3 h4)

theorem own_some {α : Type} [El α] {T base n c : Nat} {A : Option Addr} {w : World} {xs : List α} (h : own T base w (.slice A n c) xs) (h0 : 0 < xs.length) :
    ∃ g, A = some ⟨g, 0, none⟩ ∧ base ≤ g ∧ g < w.heap.size ∧ xs.length ≤ c ∧ c ≤ maxLen := by
  rcases h.form with ⟨_, h1⟩ | ⟨g, c', h1, h2, h3, h4, h5⟩
  · subst h1; simp at h0
  · injection h1 with e1 e2 e3
    subst e1 e3
    exact ⟨g, rfl, h2, h3, h4, h5⟩

end Go.Proofs.Ytmangjjaijhcnaa

namespace Go.Proofs.Ytmangjjaijhcnaa
open Go.RowKit

instance elStr : El ByteArray where
  size := 1
  el _ _ x cs := x.size ≤ maxLen ∧ cs = [.string x]
  len h := by rw [h.2]; rfl
  more h _ := h
  keep h _ := h
  one h := by rw [h.2]; intro u hu; simp at hu; rw [hu]; rfl
instance flatStr : Flat ByteArray where
  free h := h
theorem rdA.str {w : World} {B : Nat} {A : Option Addr} {xs : List ByteArray} (h : rdA w B A xs) (k : Nat) (hk : k < xs.length) :
    ∃ b o, A = some ⟨b, o, none⟩ ∧ b < B ∧ (xs[k]).size ≤ maxLen ∧ w.cell? ⟨b, o + k, none⟩ = some (.string xs[k]) := by
  obtain ⟨b, o, cs, hA, hb, ⟨hi, rfl⟩, hc⟩ := h k hk
  exact ⟨b, o, hA, hb, hi, by simpa [El.size] using hc 0 _ rfl⟩

structure Mis where
  id : Int
  bin : Int
def Mis.ok (x : Mis) : Prop := isI64 x.id ∧ isI64 x.bin
def Mis.cells (x : Mis) : List Value := [.int .i64 x.id, .int .i64 x.bin]
instance elMis : El Mis where
  size := 2
  el _ _ x cs := x.ok ∧ cs = x.cells
  len h := by rw [h.2]; rfl
  more h _ := h
  keep h _ := h
  one h := by rw [h.2]; intro u hu; simp [Mis.cells] at hu; rcases hu with rfl | rfl <;> rfl
instance flatMis : Flat Mis where
  free h := h
theorem rdA.mis {w : World} {B : Nat} {A : Option Addr} {xs : List Mis} (h : rdA w B A xs) (k : Nat) (hk : k < xs.length) :
    ∃ b o, A = some ⟨b, o, none⟩ ∧ b < B ∧ (xs[k]).ok ∧ w.cell? ⟨b, o + k * 2, none⟩ = some (.int .i64 (xs[k]).id) ∧ w.cell? ⟨b, o + k * 2 + 1, none⟩ = some (.int .i64 (xs[k]).bin) := by
  obtain ⟨b, o, cs, hA, hb, ⟨hok, rfl⟩, hc⟩ := h k hk
  exact ⟨b, o, hA, hb, hok, by simpa [Mis.cells, El.size] using hc 0 _ rfl, by simpa [Mis.cells, El.size, Nat.add_assoc] using hc 1 _ rfl⟩

structure Fwd where
  src : ByteArray
  dst : ByteArray
def Fwd.ok (x : Fwd) : Prop := x.src.size ≤ maxLen ∧ x.dst.size ≤ maxLen
def Fwd.cells (x : Fwd) : List Value := [.string x.src, .string x.dst]
instance elFwd : El Fwd where
  size := 2
  el _ _ x cs := x.ok ∧ cs = x.cells
  len h := by rw [h.2]; rfl
  more h _ := h
  keep h _ := h
  one h := by rw [h.2]; intro u hu; simp [Fwd.cells] at hu; rcases hu with rfl | rfl <;> rfl
instance flatFwd : Flat Fwd where
  free h := h
theorem rdA.fwd {w : World} {B : Nat} {A : Option Addr} {xs : List Fwd} (h : rdA w B A xs) (k : Nat) (hk : k < xs.length) :
    ∃ b o, A = some ⟨b, o, none⟩ ∧ b < B ∧ (xs[k]).ok ∧ w.cell? ⟨b, o + k * 2, none⟩ = some (.string (xs[k]).src) ∧ w.cell? ⟨b, o + k * 2 + 1, none⟩ = some (.string (xs[k]).dst) := by
  obtain ⟨b, o, cs, hA, hb, ⟨hok, rfl⟩, hc⟩ := h k hk
  exact ⟨b, o, hA, hb, hok, by simpa [Fwd.cells, El.size] using hc 0 _ rfl, by simpa [Fwd.cells, El.size, Nat.add_assoc] using hc 1 _ rfl⟩

/-- A plan: bins, passes, the codes of the round. -/
structure Pln where
  bins : Int
  passes : Int
  order : List ByteArray
/-- The value v is the plan p, its codes read below block B. -/
def rdP (w : World) (B : Nat) (v : Value) (p : Pln) : Prop :=
  ∃ vo, v = .agg #[.int .i64 p.bins, .int .i64 p.passes, vo] ∧ isI64 p.bins ∧ isI64 p.passes ∧ rd w B vo p.order
theorem rdP.keep {w w' : World} {B : Nat} {v : Value} {p : Pln} (h : rdP w B v p) (hk : ∀ q : Addr, q.block < B → w'.cell? q = w.cell? q) : rdP w' B v p := by
  obtain ⟨vo, h1, h2, h3, h4⟩ := h
  exact ⟨vo, h1, h2, h3, h4.keep hk⟩
theorem rdP.below {w w' : World} {B : Nat} {v : Value} {p : Pln} (h : rdP w B v p) (hb : Below B w w') : rdP w' B v p := h.keep fun _ hp => hb.cell hp
theorem rdP.more {w : World} {B B' : Nat} {v : Value} {p : Pln} (h : rdP w B v p) (hB : B ≤ B') : rdP w B' v p := by
  obtain ⟨vo, h1, h2, h3, h4⟩ := h
  exact ⟨vo, h1, h2, h3, h4.more hB⟩
theorem rdP.on {w w' : World} {v : Value} {p : Pln} (h : rdP w w.heap.size v p) (hb : Below w.heap.size w w') : rdP w' w'.heap.size v p := (h.below hb).more hb.size
/-- A plan whose codes lie in memory of the call's own. -/
def ownP (T base : Nat) (w : World) (v : Value) (p : Pln) : Prop :=
  ∃ vo, v = .agg #[.int .i64 p.bins, .int .i64 p.passes, vo] ∧ isI64 p.bins ∧ isI64 p.passes ∧ own T base w vo p.order
theorem ownP.rd {T base : Nat} {w : World} {v : Value} {p : Pln} (h : ownP T base w v p) : rdP w w.heap.size v p := by
  obtain ⟨vo, h1, h2, h3, h4⟩ := h
  exact ⟨vo, h1, h2, h3, h4.rd⟩
theorem ownP.below {T base : Nat} {w w' : World} {v : Value} {p : Pln} (h : ownP T base w v p) (hb : Below w.heap.size w w') : ownP T base w' v p := by
  obtain ⟨vo, h1, h2, h3, h4⟩ := h
  exact ⟨vo, h1, h2, h3, h4.below hb⟩

/-! ### What makes a plan valid -/
def goodC (cs : List ByteArray) (k : Nat) : Bool :=
  match cs[k]? with
  | none => false
  | some c => isCode c && (cs.take k).all (fun d => !sEq d c)
def codesOk (cs : List ByteArray) : Bool := (List.range cs.length).all (goodC cs)
theorem codesOk_bad {cs : List ByteArray} {k : Nat} (hk : k < cs.length) (h : goodC cs k = false) : codesOk cs = false :=
  List.all_eq_false.2 ⟨k, by simpa using hk, by simp [h]⟩
theorem codesOk_good {cs : List ByteArray} (h : ∀ j, j < cs.length → goodC cs j = true) : codesOk cs = true :=
  List.all_eq_true.2 fun k hk => h k (by simpa using hk)
theorem goodC_of {cs : List ByteArray} {k : Nat} (hk : k < cs.length) : goodC cs k = (isCode cs[k] && (cs.take k).all (fun d => !sEq d cs[k])) := by
  unfold goodC
  rw [List.getElem?_eq_getElem hk]
/-- bins to the power of passes. -/
def powI (b : Int) : Nat → Int
  | 0 => 1
  | n + 1 => powI b n * b
def shapeOk (b p : Int) : Bool := decide (2 ≤ b) && decide (b ≤ 16) && (decide (1 ≤ p) && decide (p ≤ 4))
def planOk (p : Pln) : Bool :=
  shapeOk p.bins p.passes && (decide (1 ≤ p.order.length) && decide (p.order.length ≤ 60)) && decide ((p.order.length : Int) ≤ powI p.bins p.passes.toNat) && codesOk p.order
theorem shapeOk_iff {b p : Int} : shapeOk b p = true ↔ 2 ≤ b ∧ b ≤ 16 ∧ 1 ≤ p ∧ p ≤ 4 := by
  unfold shapeOk
  simp only [Bool.and_eq_true, decide_eq_true_iff]
  omega
theorem powI_bounds {b : Int} (h1 : 2 ≤ b) (h2 : b ≤ 16) : ∀ n : Nat, n ≤ 4 → 1 ≤ powI b n ∧ powI b n ≤ 65536 := by
  have h0 : powI b 0 = 1 := rfl
  have e1 : powI b 1 = powI b 0 * b := rfl
  have e2 : powI b 2 = powI b 1 * b := rfl
  have e3 : powI b 3 = powI b 2 * b := rfl
  have e4 : powI b 4 = powI b 3 * b := rfl
  have st : ∀ x y M : Int, 1 ≤ x → x ≤ M → y = x * b → 1 ≤ y ∧ y ≤ M * 16 := fun x y M hx hM hy => by
    subst hy
    have l1 : 1 * 2 ≤ x * b := Int.mul_le_mul hx h1 (by omega) (by omega)
    have l2 : x * b ≤ M * 16 := Int.mul_le_mul hM h2 (by omega) (by omega)
    omega
  have s1 := st _ _ 1 (by omega) (by omega) e1
  have s2 := st _ _ (1 * 16) s1.1 s1.2 e2
  have s3 := st _ _ (1 * 16 * 16) s2.1 s2.2 e3
  have s4 := st _ _ (1 * 16 * 16 * 16) s3.1 s3.2 e4
  intro n hn
  match n, hn with
  | 0, _ => omega
  | 1, _ => omega
  | 2, _ => omega
  | 3, _ => omega
  | 4, _ => omega

end Go.Proofs.Ytmangjjaijhcnaa
