/- D1 NR -/
import Derived.Test.YtffbcfaahegglaaDoorQ5
import Derived.Test.YtffbcfaahegglaaDoorQ3
import Derived.Test.YtffbcfaahegglaaDoorQ8
namespace Go.Proofs.YtffbcfaahegglaaDoor
open Go.RowKit

theorem list_own (T base : Nat) (w : World) (xs : List Int) (hx : ∀ x ∈ xs, isI64 x) (hm : xs.length ≤ maxLen) (hb : base ≤ w.heap.size) :
    own T base (w.alloc (.cells (xs.map (Value.int .i64)).toArray T)) (.slice (some ⟨w.heap.size, 0, none⟩) xs.length xs.length) xs := by
  have h1 : (xs.map fun x => [Value.int .i64 x]).flatten = xs.map (Value.int .i64) := by
    clear hm hx
    induction xs with
    | nil => rfl
    | cons x xs ih => simp [ih]
  refine ⟨xs.map fun x => [Value.int .i64 x], ⟨?_, .inr ⟨w.heap.size, xs.length, _, rfl, hb, heap_alloc_new w _, Nat.le_refl _, hm, by simp [El.size], ?_⟩⟩, by simp, fun k hk hk' => ?_⟩
  · rw [h1]
    simp [El.size]
  · rw [h1]
    simp only [El.size, Nat.mul_one]
    exact List.take_of_length_le (by simp)
  · simp only [List.getElem_map]
    exact ⟨hx _ (List.getElem_mem hk), rfl⟩

theorem rd_open (v : Value) (bs : List UInt8) (w : World) (hv : rd w w.heap.size v bs) :
    Calls Tryd.prog 50 #[v] w fun e w' => ∃ g, e = .returned (.pointer (some ⟨g, 0, none⟩)) ∧ w.heap.size ≤ g ∧ rdr w' g 0 ∧ Below w.heap.size w w' := by
  obtain ⟨A, n, c, rfl, hn, hc, hm, hr⟩ := hv
  subst hn
  have HM := hm
  unfold maxLen at hm
  have HR := Lib.hid hr; clear hr
  have HMM := Lib.hid HM; clear HM
  go_enter Tryd.func50, Tryd.ntmps50
  by_cases h : 2000 < bs.length
  · have HH : Hid (rdr (w.alloc (Obj.cells #[Value.slice A 2000 c, Value.int IntKind.i64 0] 116)) w.heap.size 0) :=
      ⟨A, 2000, c, bs.take 2000, heap_alloc_new w _, by simp; omega, Nat.le_refl _, by omega, HMM.out, (HR.out.take 2000).keep fun p hp => World.cell?_alloc_lt w _ p hp⟩
    go_wp2
    go_ret
    exact ⟨w.heap.size, rfl, Nat.le_refl _, HH.out, (Below.refl _ _).alloc (Nat.le_refl _) _⟩
  · have HH : Hid (rdr (w.alloc (Obj.cells #[Value.slice A bs.length c, Value.int IntKind.i64 0] 116)) w.heap.size 0) :=
      ⟨A, bs.length, c, bs, heap_alloc_new w _, rfl, by omega, hc, HMM.out, HR.out.keep fun p hp => World.cell?_alloc_lt w _ p hp⟩
    go_wp2
    go_ret
    exact ⟨w.heap.size, rfl, Nat.le_refl _, HH.out, (Below.refl _ _).alloc (Nat.le_refl _) _⟩

set_option maxHeartbeats 400000 in
theorem rd_num (T g p : Nat) (v : Value) (xs : List Int) (w : World) (hr : rdr w g p) (hp : p ≤ 1099511627776) (hv : own T (g + 1) w v xs) (h0 : 0 < xs.length) :
    Calls Tryd.prog 86 #[.pointer (some ⟨g, 0, none⟩), v] w fun e w' => ∃ x ∈ xs, e = .returned (.int .i64 x) ∧ rdr w' g (p + 1) ∧ w.grownBy w' (some g) := by
  have hlen : xs.length ≤ maxLen := by
    obtain ⟨A, n, c, _, hn, hc, hm, _⟩ := hv.rd
    omega
  have hne : v.ownBlock = none ∨ v.ownBlock ≠ some g := by
    cases hb : v.ownBlock with
    | none => exact .inl rfl
    | some k => exact .inr fun e => by have := (hv.blk k hb).1; injection e; omega
  have HV := Lib.hid (fun (W : World) (hg : w.grownBy W (some g)) => (hv.grown hg hne).rd)
  obtain ⟨A, n, c, rfl, hn, hc, hm, _⟩ := hv.rd
  subst hn
  unfold maxLen at hm
  clear hne hv
  go_enter Tryd.func86, Tryd.ntmps86
  go_wp2_with fail
  refine (rd_pick g p _ w hr hp ⟨by omega, by omega⟩).mono ?_
  rintro e w1 ⟨x, rfl, hx, hr1, hg⟩
  obtain ⟨x0, x1⟩ := hx.2 (by omega)
  obtain ⟨q, rfl⟩ := Int.eq_ofNat_of_zero_le x0
  obtain ⟨A', n', c', e1, _, _, _, hrd⟩ := HV.out w1 hg
  injection e1 with e1 e2 e3
  subst e1
  obtain ⟨b, o, rfl, hb, hi, c1⟩ := hrd.int q (by omega)
  have hmem : xs[q]'(by omega) ∈ xs := List.getElem_mem _
  generalize xs[q] = y at *
  have HM := Lib.hid hmem; clear hmem hx e2 e3
  go_wp2
  go_ret
  exact ⟨y, HM.out, rfl, hr1, hg⟩

/-- The decimal text of a number that is not negative. -/
def decL (n : Nat) : List UInt8 := if n = 0 then [48] else dec10 n
def decB (n : Nat) : ByteArray := ⟨(decL n).toArray⟩
theorem dec10_small {m : Nat} (h0 : 0 < m) (h : m ≤ 9) : dec10 m = [b8 (48 + m)] := by
  rw [dec10_step h0, show m / 10 = 0 by omega, show m % 10 = m by omega, show dec10 0 = [] by rw [dec10]]
  unfold b8
  rw [show (48 + (m : Int)).toNat = 48 + m by omega]
  rfl

set_option maxHeartbeats 400000 in
theorem spec_l9Dec (n : Nat) (w : World) (hn : n ≤ 9223372036854775807) :
    Calls Tryd.prog 73 #[.int .i64 n] w fun e w' => e = .returned (.string (decB n)) ∧ Below w.heap.size w w' := by
  have hbs := byteString
  have h0 : (0 : Int) ≤ (n : Int) := by omega
  go_enter Tryd.func73, Tryd.ntmps73
  go_wp2
  go_loopw [0, 3] (fun t s wr => ∃ (m : Nat) (u : ByteArray), m ≤ n ∧ t = .int .i64 m ∧ s = .string u ∧ u.size ≤ 20 ∧ Hid (n = 0 ∧ m = 0 ∧ u = ⟨#[]⟩ ∨ 0 < m ∧ dec10 n = dec10 m ++ u.data.toList) ∧ Hid (m * 10 ^ u.size ≤ n) ∧ Below w.heap.size w wr) (fun t _ _ => (intOf t).toNat)
  case atStart =>
    refine ⟨n, _, Nat.le_refl _, rfl, rfl, Nat.zero_le _, ?_, (by show n * 10 ^ 0 ≤ n; omega), Below.refl _ _⟩
    by_cases h : n = 0
    · exact .inl ⟨h, h, rfl⟩
    · exact .inr ⟨by omega, by simp⟩
  case round =>
    obtain ⟨m, u, hm, rfl, rfl, hu, HD, HP, hbl⟩ := hrel
    obtain ⟨w1, rfl⟩ : ∃ w1 : World, w1 = wr := ⟨_, rfl⟩
    by_cases h9 : 9 < m
    · have hu19 : u.size ≤ 19 := by
        apply Classical.byContradiction
        intro hc
        have h1 := HP.out
        have h2 : 10 ^ 20 ≤ 10 ^ u.size := Nat.pow_le_pow_right (by omega) (by omega)
        have h3 : 10 * 10 ^ 20 ≤ m * 10 ^ u.size := Nat.mul_le_mul (by omega) h2
        omega
      go_wp2
      go_roundw
      case rel =>
        refine ⟨m / 10, _, by omega, by go_num, rfl, by rw [ByteArray.size_append]; show 1 + _ ≤ 20; omega, .inr ⟨by omega, ?_⟩, ?_, hbl.alloc hbl.size _⟩
        · rcases HD.out with ⟨_, h, _⟩ | ⟨_, h⟩
          · omega
          · rw [h, ba_append, dec10_step (n := m) (by omega), List.append_assoc]
            show _ = dec10 (m / 10) ++ ([b8 (48 + (m : Int) % 10)] ++ _)
            unfold b8
            rw [show (48 + (m : Int) % 10).toNat = 48 + m % 10 by omega]
        · show _ ≤ _
          have h1 := HP.out
          have h2 : (m / 10) * 10 ≤ m := Nat.div_mul_le_self _ _
          rw [ByteArray.size_append, show (ByteArray.mk #[b8 (48 + (m : Int) % 10)]).size = 1 from rfl, Nat.pow_add, Nat.pow_one, ← Nat.mul_assoc]
          exact Nat.le_trans (Nat.mul_le_mul_right _ h2) h1
      case measure => simp [intOf]; omega
    · go_wp2
      go_ret
      refine ⟨ret_str ?_, hbl.alloc hbl.size _⟩
      apply ba_ext
      rw [ba_append]
      rcases HD.out with ⟨h1, h2, h3⟩ | ⟨h1, h2⟩
      · subst h1 h2 h3
        rfl
      · show _ = decL n
        unfold decL
        rw [if_neg (by omega), h2, dec10_small h1 (by omega)]

/-- The last k decimal digits of a number. -/
def showL : Nat → Nat → List UInt8
  | _, 0 => []
  | n, k + 1 => showL (n / 10) k ++ [b8 (48 + (n : Int) % 10)]
def showB (n k : Nat) : ByteArray := ⟨(showL n k).toArray⟩
theorem showL_len : ∀ (k n : Nat), (showL n k).length = k
  | 0, _ => rfl
  | k + 1, n => by rw [showL, List.length_append, showL_len k]; rfl
theorem showB_size (n k : Nat) : (showB n k).size = k := by
  show (showL n k).toArray.size = k
  rw [List.size_toArray, showL_len]

set_option maxHeartbeats 400000 in
theorem spec_l1Show (n k : Nat) (w : World) (hn : n ≤ 9223372036854775807) (hk : k ≤ 60) :
    Calls Tryd.prog 104 #[.int .i64 n, .int .i64 k] w fun e w' => e = .returned (.string (showB n k)) ∧ Below w.heap.size w w' := by
  go_enter Tryd.func104, Tryd.ntmps104
  go_wp2_with fail
  go_loopw [0, 5, 6] (fun t s i wr => ∃ (m j : Nat) (u : ByteArray), m ≤ n ∧ j ≤ k ∧ t = .int .i64 m ∧ s = .string u ∧ i = .int .i64 j ∧ u.size ≤ j ∧ Hid (showL n k = showL m (k - j) ++ u.data.toList) ∧ Below w.heap.size w wr) (fun _ _ i _ => k - (intOf i).toNat)
  case atStart => exact ⟨n, 0, _, Nat.le_refl _, Nat.zero_le _, rfl, rfl, rfl, Nat.le_refl _, by show _ = _; simp, Below.refl _ _⟩
  case round =>
    obtain ⟨m, j, u, hm, hj, rfl, rfl, rfl, hu, HD, hbl⟩ := hrel
    obtain ⟨w1, rfl⟩ : ∃ w1 : World, w1 = wr := ⟨_, rfl⟩
    by_cases hlt : j < k
    · go_wp2_with fail
      refine (spec_l9Dec (m % 10) _ (by omega)).mono ?_
      rintro e w2 ⟨rfl, hb⟩
      have hd1 : (decB (m % 10)).size = 1 := by
        show (decL _).toArray.size = 1
        unfold decL
        split
        · rfl
        · rw [dec10_small (by omega) (by omega)]; rfl
      have HDD : Hid ((decB (m % 10)).data.toList = [b8 (48 + (m : Int) % 10)]) := by
        show decL _ = _
        unfold decL
        split
        · rename_i h
          rw [show (m : Int) % 10 = 0 by omega]; rfl
        · rw [dec10_small (by omega) (by omega)]; rfl
      generalize decB (m % 10) = d at *
      go_wp2_with fail
      go_roundw
      case rel =>
        refine ⟨m / 10, j + 1, _, by omega, by omega, by go_num, rfl, by go_num, by rw [ByteArray.size_append]; omega, ?_, hbl.trans (hb.mono hbl.size)⟩
        show _ = _
        rw [HD.out, ba_append, HDD.out, show k - j = (k - (j + 1)) + 1 by omega, showL, List.append_assoc]
      case measure => simp [intOf]; omega
    · have HE := Lib.hid (show k - j = 0 by omega)
      go_wp2_with fail
      go_ret
      refine ⟨ret_str ?_, hbl⟩
      apply ba_ext
      show _ = showL n k
      rw [HD.out, HE.out, showL]
      rfl

end Go.Proofs.YtffbcfaahegglaaDoor

namespace Go.Proofs.YtffbcfaahegglaaDoor
open Go.RowKit

instance elOfc : El Ofc where
  size := 2
  el w B x cs := x.name.size ≤ maxLen ∧ ∃ v, cs = [.string x.name, v] ∧ rd w B v x.rules
  len h := by obtain ⟨_, v, rfl, _⟩ := h; rfl
  more h hB := by obtain ⟨h0, v, h1, h2⟩ := h; exact ⟨h0, v, h1, h2.more hB⟩
  keep h hk := by obtain ⟨h0, v, h1, h2⟩ := h; exact ⟨h0, v, h1, h2.keep hk⟩
  one h := by
    obtain ⟨_, v, rfl, A, n, c, rfl, _⟩ := h
    intro u hu
    simp at hu
    rcases hu with rfl | rfl <;> rfl
theorem rdA.ofcU {w : World} {A : Option Addr} {net : List Ofc} (h : rdA w w.heap.size A net) (k : Nat) (hk : k < net.length) :
    ∃ b o A' c', A = some ⟨b, o, none⟩ ∧ b < w.heap.size ∧ net[k].name.size ≤ maxLen ∧ rd w w.heap.size (.slice A' net[k].rules.length c') net[k].rules ∧ (∀ W, Below w.heap.size w W → W.cell? ⟨b, o + k * 2, none⟩ = some (.string net[k].name)) ∧ (∀ W, Below w.heap.size w W → W.cell? ⟨b, o + k * 2 + 1, none⟩ = some (.slice A' net[k].rules.length c')) := by
  obtain ⟨b, o, cs, hA, hb, ⟨hn, v, rfl, hv⟩, hc⟩ := h k hk
  have hv0 := hv
  obtain ⟨A', n', c', rfl, hn', _⟩ := hv
  subst hn'
  have c1 : w.cell? ⟨b, o + k * 2, none⟩ = some (.string net[k].name) := by simpa [El.size] using hc 0 _ rfl
  have c2 : w.cell? ⟨b, o + k * 2 + 1, none⟩ = some (.slice A' net[k].rules.length c') := by simpa [El.size, Nat.add_assoc] using hc 1 _ rfl
  exact ⟨b, o, A', c', hA, hb, hn, hv0, fun W hW => (hW.cell (p := ⟨b, o + k * 2, none⟩) hb).trans c1, fun W hW => (hW.cell (p := ⟨b, o + k * 2 + 1, none⟩) hb).trans c2⟩

/-- An office with its rules' slice as it lies. -/
structure OfV where
  name : ByteArray
  val : Value
instance elOfV : El OfV where
  size := 2
  el _ _ x cs := cs = [.string x.name, x.val] ∧ x.name.size ≤ maxLen ∧ x.val.oneCell' = true
  len h := by rw [h.1]; rfl
  more h _ := h
  keep h _ := h
  one h := by
    rw [h.1]
    intro u hu
    simp at hu
    rcases hu with rfl | rfl
    · rfl
    · exact h.2.2
instance flatOfV : Flat OfV where
  free h := h
/-- A network that a call owns. -/
def isN (T1 T2 : TypeId) (base : Nat) (w : World) (v : Value) (net : List Ofc) (os : List OfV) : Prop :=
  own T1 base w v os ∧ os.length = net.length ∧ (∀ k (h : k < os.length) (h' : k < net.length), os[k].name = net[k].name ∧ own T2 base w os[k].val net[k].rules) ∧ (∀ j k (hj : j < os.length) (hk : k < os.length), j ≠ k → apart os[j].val os[k].val) ∧ (∀ k (h : k < os.length), apart os[k].val v)
def ownN (T1 T2 : TypeId) (base : Nat) (w : World) (v : Value) (net : List Ofc) : Prop := ∃ os : List OfV, isN T1 T2 base w v net os
section
variable {T1 T2 : TypeId} {base : Nat} {w w' : World} {v : Value} {net : List Ofc} {os : List OfV}
theorem isN.below (h : isN T1 T2 base w v net os) (hb : Below w.heap.size w w') : isN T1 T2 base w' v net os := by
  obtain ⟨h1, h2, h3, h4, h5⟩ := h
  exact ⟨h1.below hb, h2, fun k a b => ⟨(h3 k a b).1, (h3 k a b).2.below hb⟩, h4, h5⟩
theorem isN.grown {row : Option Nat} (h : isN T1 T2 base w v net os) (hg : w.grownBy w' row) (hv : v.ownBlock = none ∨ v.ownBlock ≠ row) (hvs : ∀ k (h : k < os.length), os[k].val.ownBlock = none ∨ os[k].val.ownBlock ≠ row) : isN T1 T2 base w' v net os := by
  obtain ⟨h1, h2, h3, h4, h5⟩ := h
  exact ⟨h1.grown hg hv, h2, fun k a b => ⟨(h3 k a b).1, (h3 k a b).2.grown hg (hvs k a)⟩, h4, h5⟩
theorem isN.base_ {base' : Nat} (h : isN T1 T2 base w v net os) (hb : base' ≤ base) : isN T1 T2 base' w v net os := by
  obtain ⟨h1, h2, h3, h4, h5⟩ := h
  exact ⟨h1.base_ hb, h2, fun k a b => ⟨(h3 k a b).1, (h3 k a b).2.base_ hb⟩, h4, h5⟩
theorem ownN.below (h : ownN T1 T2 base w v net) (hb : Below w.heap.size w w') : ownN T1 T2 base w' v net := by
  obtain ⟨os, h⟩ := h; exact ⟨os, h.below hb⟩
theorem ownN.base_ {base' : Nat} (h : ownN T1 T2 base w v net) (hb : base' ≤ base) : ownN T1 T2 base' w v net := by
  obtain ⟨os, h⟩ := h; exact ⟨os, h.base_ hb⟩
theorem own_ofv {g n c : Nat} (h : own T1 base w (.slice (some ⟨g, 0, none⟩) n c) os) (k : Nat) (hk : k < os.length) :
    os[k].name.size ≤ maxLen ∧ w.cell? ⟨g, k * 2, none⟩ = some (.string os[k].name) ∧ w.cell? ⟨g, k * 2 + 1, none⟩ = some os[k].val := by
  obtain ⟨A, n', c', hv, _, _, _, hrd⟩ := h.rd
  obtain ⟨b, o, cs, hA, _, ⟨rfl, hz, _⟩, hc⟩ := hrd k hk
  injection hv with e1 _ _
  subst e1
  injection hA with hA
  injection hA with hA1 hA2
  subst hA1 hA2
  refine ⟨hz, ?_, ?_⟩
  · have := hc 0 _ rfl
    rw [show 0 + (k * El.size OfV + 0) = k * 2 by show 0 + (k * 2 + 0) = k * 2; omega] at this
    exact this
  · have := hc 1 _ rfl
    rw [show 0 + (k * El.size OfV + 1) = k * 2 + 1 by show 0 + (k * 2 + 1) = k * 2 + 1; omega] at this
    exact this
theorem isN.form (h : isN T1 T2 base w v net os) : v = .slice none 0 0 ∧ net = [] ∨ ∃ g c, v = .slice (some ⟨g, 0, none⟩) net.length c ∧ base ≤ g ∧ g < w.heap.size ∧ net.length ≤ c ∧ c ≤ maxLen := by
  obtain ⟨h1, h2, _⟩ := h
  rcases h1.form with ⟨a, b⟩ | ⟨g, c, a, b⟩
  · subst b
    exact .inl ⟨a, List.eq_nil_of_length_eq_zero h2.symm⟩
  · rw [h2] at a b
    exact .inr ⟨g, c, a, b⟩
theorem isN.rd (h : isN T1 T2 base w v net os) : rd w w.heap.size v net := by
  rcases h.form with ⟨rfl, rfl⟩ | ⟨g, c, rfl, hg, hlt, hc, hm⟩
  · exact rd.nil_
  · obtain ⟨h1, h2, h3, _⟩ := h
    refine ⟨_, _, _, rfl, rfl, hc, hm, fun k hk => ?_⟩
    have hk' : k < os.length := by omega
    obtain ⟨e1, e2⟩ := h3 k hk' hk
    obtain ⟨z0, z1, z2⟩ := own_ofv h1 k hk'
    refine ⟨g, 0, [.string net[k].name, os[k].val], rfl, hlt, ⟨by rw [← e1]; exact z0, _, rfl, e2.rd⟩, fun j u hu => ?_⟩
    match j, hu with
    | 0, hu =>
      simp at hu
      subst hu
      rw [show 0 + (k * El.size Ofc + 0) = k * 2 by show 0 + (k * 2 + 0) = k * 2; omega, z1, e1]
    | 1, hu =>
      simp at hu
      subst hu
      rw [show 0 + (k * El.size Ofc + 1) = k * 2 + 1 by show 0 + (k * 2 + 1) = k * 2 + 1; omega, z2]
    | j + 2, hu => simp at hu
theorem ownN.rd (h : ownN T1 T2 base w v net) : rd w w.heap.size v net := by
  obtain ⟨os, h⟩ := h; exact h.rd
end
theorem own_setOfV {T base g n c : Nat} {w : World} {os : List OfV} (h : own T base w (.slice (some ⟨g, 0, none⟩) n c) os) {k : Nat} (hk : k < os.length) {y : OfV} (hy : y.name.size ≤ maxLen) (hy' : y.val.oneCell' = true) :
    own T base ((w.setCell ⟨g, k * 2, none⟩ (.string y.name)).setCell ⟨g, k * 2 + 1, none⟩ y.val) (.slice (some ⟨g, 0, none⟩) n c) (os.set k y) := by
  have h1 := h.setCell (k := k) (j := 0) hk (by decide) (.string y.name) ⟨y.name, os[k].val⟩ (fun ecs he => by
    obtain ⟨rfl, _, q⟩ := he
    exact ⟨rfl, hy, q⟩)
  have h2 := h1.setCell (k := k) (j := 1) (by simpa using hk) (by decide) y.val y (fun ecs he => by
    obtain ⟨rfl, _⟩ := he
    refine ⟨?_, hy, hy'⟩
    simp)
  rw [List.set_set] at h2
  exact h2
/-- An office put in a place. -/
theorem isN.put {T1 T2 base G n c : Nat} {w w1 : World} {os : List OfV} {net : List Ofc} {nm : ByteArray} {ys : List Fwd} {v' : Value} {d B : Nat}
    (h : isN T1 T2 base w (.slice (some ⟨G, 0, none⟩) n c) net os) (hb : Below w.heap.size w w1)
    (hd : d < os.length) (hnm : nm.size ≤ maxLen) (ho : own T2 B w1 v' ys) (hB : w.heap.size ≤ B) (hbase : base ≤ w.heap.size) :
    isN T1 T2 base ((w1.setCell ⟨G, d * 2, none⟩ (.string nm)).setCell ⟨G, d * 2 + 1, none⟩ v') (.slice (some ⟨G, 0, none⟩) n c) (net.set d ⟨nm, ys⟩) (os.set d ⟨nm, v'⟩) := by
  obtain ⟨h1, h2, h3, h4, h5⟩ := h
  have hv1 : v'.oneCell' = true := by
    rcases ho.form with ⟨rfl, _⟩ | ⟨g, c, rfl, _⟩ <;> rfl
  have q2 : own T1 base ((w1.setCell ⟨G, d * 2, none⟩ (.string nm)).setCell ⟨G, d * 2 + 1, none⟩ v') (.slice (some ⟨G, 0, none⟩) n c) (os.set d ⟨nm, v'⟩) := own_setOfV (y := ⟨nm, v'⟩) (h1.below hb) hd hnm hv1
  have hset : w1.grownBy ((w1.setCell ⟨G, d * 2, none⟩ (.string nm)).setCell ⟨G, d * 2 + 1, none⟩ v') (some G) := grown_setCell (p := ⟨G, d * 2 + 1, none⟩) (grown_setCell (p := ⟨G, d * 2, none⟩) (World.grownBy.refl w1 (some G)) (.inl rfl) (.string nm)) (.inl rfl) v'
  have hG := h1.blk G rfl
  have hvG : apart v' (.slice (some ⟨G, 0, none⟩) n c) := apart_gt ho h1 hB
  have hfar : ∀ i (hi : i < os.length), apart v' os[i].val := fun i hi => apart_gt ho (h3 i hi (by omega)).2 hB
  have g3 : ∀ k (h : k < (os.set d ⟨nm, v'⟩).length) (h' : k < (net.set d ⟨nm, ys⟩).length), (os.set d ⟨nm, v'⟩)[k].name = (net.set d ⟨nm, ys⟩)[k].name ∧ own T2 base ((w1.setCell ⟨G, d * 2, none⟩ (.string nm)).setCell ⟨G, d * 2 + 1, none⟩ v') (os.set d ⟨nm, v'⟩)[k].val (net.set d ⟨nm, ys⟩)[k].rules := fun k h h' => by
    by_cases hkd : k = d
    · subst hkd
      rw [List.getElem_set_self, List.getElem_set_self]
      exact ⟨rfl, (ho.grown hset hvG).base_ (Nat.le_trans hbase hB)⟩
    · rw [List.getElem_set_ne (by omega), List.getElem_set_ne (by omega)]
      have hk1 : k < os.length := by simpa using h
      have hk2 : k < net.length := by simpa using h'
      exact ⟨(h3 k hk1 hk2).1, ((h3 k hk1 hk2).2.below hb).grown hset (h5 k hk1)⟩
  have g4 : ∀ j k (hj : j < (os.set d ⟨nm, v'⟩).length) (hk : k < (os.set d ⟨nm, v'⟩).length), j ≠ k → apart (os.set d ⟨nm, v'⟩)[j].val (os.set d ⟨nm, v'⟩)[k].val := fun j k hj hk hne => by
    have hj' : j < os.length := by simpa using hj
    have hk' : k < os.length := by simpa using hk
    by_cases hjd : j = d
    · subst hjd
      rw [List.getElem_set_self, List.getElem_set_ne (by omega)]
      exact hfar k hk'
    · by_cases hkd : k = d
      · subst hkd
        rw [List.getElem_set_self, List.getElem_set_ne (by omega)]
        exact apart_symm (hfar j hj')
      · rw [List.getElem_set_ne (by omega), List.getElem_set_ne (by omega)]
        exact h4 j k hj' hk' hne
  have g5 : ∀ k (h : k < (os.set d ⟨nm, v'⟩).length), apart (os.set d ⟨nm, v'⟩)[k].val (.slice (some ⟨G, 0, none⟩) n c) := fun k h => by
    by_cases hkd : k = d
    · subst hkd; rw [List.getElem_set_self]; exact hvG
    · rw [List.getElem_set_ne (by omega)]; exact h5 k (by simpa using h)
  exact ⟨q2, by rw [List.length_set, List.length_set]; exact h2, g3, g4, g5⟩

theorem madeCells2 (a b : Value) (m : Nat) (i : Nat) (hi : i < m) : (madeCells #[a, b] (m * 2))[i * 2]? = some a ∧ (madeCells #[a, b] (m * 2))[i * 2 + 1]? = some b := by
  constructor
  · simp [madeCells, show i * 2 < m * 2 by omega]
  · simp [madeCells, show i * 2 + 1 < m * 2 by omega, Nat.add_mod]
def noOfc : Ofc := ⟨⟨#[]⟩, []⟩
theorem made_offices (w : World) (T1 T2 : TypeId) (n base : Nat) (hb : base ≤ w.heap.size) (hn : n ≤ maxLen) : ∃ os, isN T1 T2 base (w.alloc (.cells (madeCells #[.string ⟨#[]⟩, .slice none 0 0] (n * 2)) T1)) (.slice (some ⟨w.heap.size, 0, none⟩) n n) (List.replicate n noOfc) os := by
  have hf : filled T1 (w.alloc (.cells (madeCells #[.string ⟨#[]⟩, .slice none 0 0] (n * 2)) T1)) w.heap.size n n (List.replicate n (OfV.mk ⟨#[]⟩ (.slice none 0 0))) := by
    refine ⟨madeCells #[.string ⟨#[]⟩, .slice none 0 0] (n * 2), heap_alloc_new w _, by rw [size_madeCells]; rfl, fun i hi hin => ⟨[.string ⟨#[]⟩, .slice none 0 0], ⟨by rw [List.getElem_replicate], by rw [List.getElem_replicate]; exact Nat.zero_le _, by rw [List.getElem_replicate]; rfl⟩, fun j u hu => ?_⟩⟩
    obtain ⟨m1, m2⟩ := madeCells2 (.string ⟨#[]⟩) (.slice none 0 0) n i (by simpa using hi)
    match j, hu with
    | 0, hu => simp at hu; subst hu; exact m1
    | 1, hu => simp at hu; subst hu; exact m2
    | j + 2, hu => simp at hu
  refine ⟨List.replicate n (OfV.mk ⟨#[]⟩ (.slice none 0 0)), hf.own (by simp) hb hn, by simp, fun k h h' => ?_, fun j k hj hk _ => .inl ?_, fun k h => .inl ?_⟩
  · simp only [List.getElem_replicate]; exact ⟨rfl, own.nil_ _ _ _⟩
  · simp only [List.getElem_replicate]; rfl
  · simp only [List.getElem_replicate]; rfl

/-- The first k offices laid, the others empty. -/
def laidN (net : List Ofc) (k : Nat) : List Ofc := net.take k ++ List.replicate (net.length - k) noOfc
theorem laidN_len {net : List Ofc} {k : Nat} (h : k ≤ net.length) : (laidN net k).length = net.length := by
  simp [laidN]; omega
theorem laidN_step {net : List Ofc} {k : Nat} (h : k < net.length) : (laidN net k).set k net[k] = laidN net (k + 1) := by
  unfold laidN
  have hl : (net.take k).length = k := by rw [List.length_take]; omega
  rw [List.set_append_right _ _ (by omega), hl, Nat.sub_self, show net.length - k = (net.length - (k + 1)) + 1 by omega, List.replicate_succ, List.set_cons_zero, List.take_succ_eq_append_getElem h, List.append_assoc]
  rfl
theorem laidN_all (net : List Ofc) : laidN net net.length = net := by simp [laidN]
theorem laidN_nil (net : List Ofc) : laidN net 0 = List.replicate net.length noOfc := by simp [laidN]

end Go.Proofs.YtffbcfaahegglaaDoor
