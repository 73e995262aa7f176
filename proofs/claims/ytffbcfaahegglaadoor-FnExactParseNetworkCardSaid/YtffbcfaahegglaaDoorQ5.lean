/- NR E3 L3 L4 UM W4 -/
import Derived.Test.YtffbcfaahegglaaDoorQ4
import Derived.Test.YtffbcfaahegglaaDoorQ3
import Derived.Test.YtffbcfaahegglaaDoorQ2
import Derived.Test.YtffbcfaahegglaaDoorQ1
namespace Go.Proofs.YtffbcfaahegglaaDoor
open Go.RowKit

instance elOfc : El Ofc where
  size := 2
  el w B x cs := x.name.size ≤ maxLen ∧ ∃ v, cs = [.string x.name, v] ∧ rd w B v x.rules
  len h := by obtain ⟨_, v, rfl, _⟩ := h; rfl
  more h hB := by obtain ⟨h0, v, h1, h2⟩ := h; exact ⟨h0, v, h1, h2.more hB⟩
  keep h hk := by obtain ⟨h0, v, h1, h2⟩ := h; exact ⟨h0, v, h1, h2.keep hk⟩
  one h := by
    obtain ⟨_, v, rfl, A, n, c, rfl, _⟩ := h
    intro u hu
    simp at hu
    rcases hu with rfl | rfl <;> rfl
theorem rdA.ofcU {w : World} {A : Option Addr} {net : List Ofc} (h : rdA w w.heap.size A net) (k : Nat) (hk : k < net.length) :
    ∃ b o A' c', A = some ⟨b, o, none⟩ ∧ b < w.heap.size ∧ net[k].name.size ≤ maxLen ∧ rd w w.heap.size (.slice A' net[k].rules.length c') net[k].rules ∧ (∀ W, Below w.heap.size w W → W.cell? ⟨b, o + k * 2, none⟩ = some (.string net[k].name)) ∧ (∀ W, Below w.heap.size w W → W.cell? ⟨b, o + k * 2 + 1, none⟩ = some (.slice A' net[k].rules.length c')) := by
  obtain ⟨b, o, cs, hA, hb, ⟨hn, v, rfl, hv⟩, hc⟩ := h k hk
  have hv0 := hv
  obtain ⟨A', n', c', rfl, hn', _⟩ := hv
  subst hn'
  have c1 : w.cell? ⟨b, o + k * 2, none⟩ = some (.string net[k].name) := by simpa [El.size] using hc 0 _ rfl
  have c2 : w.cell? ⟨b, o + k * 2 + 1, none⟩ = some (.slice A' net[k].rules.length c') := by simpa [El.size, Nat.add_assoc] using hc 1 _ rfl
  exact ⟨b, o, A', c', hA, hb, hn, hv0, fun W hW => (hW.cell (p := ⟨b, o + k * 2, none⟩) hb).trans c1, fun W hW => (hW.cell (p := ⟨b, o + k * 2 + 1, none⟩) hb).trans c2⟩

/-- An office with its rules' slice as it lies. -/
structure OfV where
  name : ByteArray
  val : Value
instance elOfV : El OfV where
  size := 2
  el _ _ x cs := cs = [.string x.name, x.val] ∧ x.name.size ≤ maxLen ∧ x.val.oneCell' = true
  len h := by rw [h.1]; rfl
  more h _ := h
  keep h _ := h
  one h := by
    rw [h.1]
    intro u hu
    simp at hu
    rcases hu with rfl | rfl
    · rfl
    · exact h.2.2
instance flatOfV : Flat OfV where
  free h := h
/-- A network that a call owns. -/
def isN (T1 T2 : TypeId) (base : Nat) (w : World) (v : Value) (net : List Ofc) (os : List OfV) : Prop :=
  own T1 base w v os ∧ os.length = net.length ∧ (∀ k (h : k < os.length) (h' : k < net.length), os[k].name = net[k].name ∧ own T2 base w os[k].val net[k].rules) ∧ (∀ j k (hj : j < os.length) (hk : k < os.length), j ≠ k → apart os[j].val os[k].val) ∧ (∀ k (h : k < os.length), apart os[k].val v)
def ownN (T1 T2 : TypeId) (base : Nat) (w : World) (v : Value) (net : List Ofc) : Prop := ∃ os : List OfV, isN T1 T2 base w v net os
section
variable {T1 T2 : TypeId} {base : Nat} {w w' : World} {v : Value} {net : List Ofc} {os : List OfV}
theorem isN.below (h : isN T1 T2 base w v net os) (hb : Below w.heap.size w w') : isN T1 T2 base w' v net os := by
  obtain ⟨h1, h2, h3, h4, h5⟩ := h
  exact ⟨h1.below hb, h2, fun k a b => ⟨(h3 k a b).1, (h3 k a b).2.below hb⟩, h4, h5⟩
theorem isN.grown {row : Option Nat} (h : isN T1 T2 base w v net os) (hg : w.grownBy w' row) (hv : v.ownBlock = none ∨ v.ownBlock ≠ row) (hvs : ∀ k (h : k < os.length), os[k].val.ownBlock = none ∨ os[k].val.ownBlock ≠ row) : isN T1 T2 base w' v net os := by
  obtain ⟨h1, h2, h3, h4, h5⟩ := h
  exact ⟨h1.grown hg hv, h2, fun k a b => ⟨(h3 k a b).1, (h3 k a b).2.grown hg (hvs k a)⟩, h4, h5⟩
theorem isN.base_ {base' : Nat} (h : isN T1 T2 base w v net os) (hb : base' ≤ base) : isN T1 T2 base' w v net os := by
  obtain ⟨h1, h2, h3, h4, h5⟩ := h
  exact ⟨h1.base_ hb, h2, fun k a b => ⟨(h3 k a b).1, (h3 k a b).2.base_ hb⟩, h4, h5⟩
theorem ownN.below (h : ownN T1 T2 base w v net) (hb : Below w.heap.size w w') : ownN T1 T2 base w' v net := by
  obtain ⟨os, h⟩ := h; exact ⟨os, h.below hb⟩
theorem ownN.base_ {base' : Nat} (h : ownN T1 T2 base w v net) (hb : base' ≤ base) : ownN T1 T2 base' w v net := by
  obtain ⟨os, h⟩ := h; exact ⟨os, h.base_ hb⟩
theorem own_ofv {g n c : Nat} (h : own T1 base w (.slice (some ⟨g, 0, none⟩) n c) os) (k : Nat) (hk : k < os.length) :
    os[k].name.size ≤ maxLen ∧ w.cell? ⟨g, k * 2, none⟩ = some (.string os[k].name) ∧ w.cell? ⟨g, k * 2 + 1, none⟩ = some os[k].val := by
  obtain ⟨A, n', c', hv, _, _, _, hrd⟩ := h.rd
  obtain ⟨b, o, cs, hA, _, ⟨rfl, hz, _⟩, hc⟩ := hrd k hk
  injection hv with e1 _ _
  subst e1
  injection hA with hA
  injection hA with hA1 hA2
  subst hA1 hA2
  refine ⟨hz, ?_, ?_⟩
  · have := hc 0 _ rfl
    rw [show 0 + (k * El.size OfV + 0) = k * 2 by show 0 + (k * 2 + 0) = k * 2; omega] at this
    exact this
  · have := hc 1 _ rfl
    rw [show 0 + (k * El.size OfV + 1) = k * 2 + 1 by show 0 + (k * 2 + 1) = k * 2 + 1; omega] at this
    exact this
theorem isN.form (h : isN T1 T2 base w v net os) : v = .slice none 0 0 ∧ net = [] ∨ ∃ g c, v = .slice (some ⟨g, 0, none⟩) net.length c ∧ base ≤ g ∧ g < w.heap.size ∧ net.length ≤ c ∧ c ≤ maxLen := by
  obtain ⟨h1, h2, _⟩ := h
  rcases h1.form with ⟨a, b⟩ | ⟨g, c, a, b⟩
  · subst b
    exact .inl ⟨a, List.eq_nil_of_length_eq_zero h2.symm⟩
  · rw [h2] at a b
    exact .inr ⟨g, c, a, b⟩
theorem isN.rd (h : isN T1 T2 base w v net os) : rd w w.heap.size v net := by
  rcases h.form with ⟨rfl, rfl⟩ | ⟨g, c, rfl, hg, hlt, hc, hm⟩
  · exact rd.nil_
  · obtain ⟨h1, h2, h3, _⟩ := h
    refine ⟨_, _, _, rfl, rfl, hc, hm, fun k hk => ?_⟩
    have hk' : k < os.length := by omega
    obtain ⟨e1, e2⟩ := h3 k hk' hk
    obtain ⟨z0, z1, z2⟩ := own_ofv h1 k hk'
    refine ⟨g, 0, [.string net[k].name, os[k].val], rfl, hlt, ⟨by rw [← e1]; exact z0, _, rfl, e2.rd⟩, fun j u hu => ?_⟩
    match j, hu with
    | 0, hu =>
      simp at hu
      subst hu
      rw [show 0 + (k * El.size Ofc + 0) = k * 2 by show 0 + (k * 2 + 0) = k * 2; omega, z1, e1]
    | 1, hu =>
      simp at hu
      subst hu
      rw [show 0 + (k * El.size Ofc + 1) = k * 2 + 1 by show 0 + (k * 2 + 1) = k * 2 + 1; omega, z2]
    | j + 2, hu => simp at hu
theorem ownN.rd (h : ownN T1 T2 base w v net) : rd w w.heap.size v net := by
  obtain ⟨os, h⟩ := h; exact h.rd
end
theorem own_setOfV {T base g n c : Nat} {w : World} {os : List OfV} (h : own T base w (.slice (some ⟨g, 0, none⟩) n c) os) {k : Nat} (hk : k < os.length) {y : OfV} (hy : y.name.size ≤ maxLen) (hy' : y.val.oneCell' = true) :
    own T base ((w.setCell ⟨g, k * 2, none⟩ (.string y.name)).setCell ⟨g, k * 2 + 1, none⟩ y.val) (.slice (some ⟨g, 0, none⟩) n c) (os.set k y) := by
  have h1 := h.setCell (k := k) (j := 0) hk (by decide) (.string y.name) ⟨y.name, os[k].val⟩ (fun ecs he => by
    obtain ⟨rfl, _, q⟩ := he
    exact ⟨rfl, hy, q⟩)
  have h2 := h1.setCell (k := k) (j := 1) (by simpa using hk) (by decide) y.val y (fun ecs he => by
    obtain ⟨rfl, _⟩ := he
    refine ⟨?_, hy, hy'⟩
    simp)
  rw [List.set_set] at h2
  exact h2
/-- An office put in a place. -/
theorem isN.put {T1 T2 base G n c : Nat} {w w1 : World} {os : List OfV} {net : List Ofc} {nm : ByteArray} {ys : List Fwd} {v' : Value} {d B : Nat}
    (h : isN T1 T2 base w (.slice (some ⟨G, 0, none⟩) n c) net os) (hb : Below w.heap.size w w1)
    (hd : d < os.length) (hnm : nm.size ≤ maxLen) (ho : own T2 B w1 v' ys) (hB : w.heap.size ≤ B) (hbase : base ≤ w.heap.size) :
    isN T1 T2 base ((w1.setCell ⟨G, d * 2, none⟩ (.string nm)).setCell ⟨G, d * 2 + 1, none⟩ v') (.slice (some ⟨G, 0, none⟩) n c) (net.set d ⟨nm, ys⟩) (os.set d ⟨nm, v'⟩) := by
  obtain ⟨h1, h2, h3, h4, h5⟩ := h
  have hv1 : v'.oneCell' = true := by
    rcases ho.form with ⟨rfl, _⟩ | ⟨g, c, rfl, _⟩ <;> rfl
  have q2 : own T1 base ((w1.setCell ⟨G, d * 2, none⟩ (.string nm)).setCell ⟨G, d * 2 + 1, none⟩ v') (.slice (some ⟨G, 0, none⟩) n c) (os.set d ⟨nm, v'⟩) := own_setOfV (y := ⟨nm, v'⟩) (h1.below hb) hd hnm hv1
  have hset : w1.grownBy ((w1.setCell ⟨G, d * 2, none⟩ (.string nm)).setCell ⟨G, d * 2 + 1, none⟩ v') (some G) := grown_setCell (p := ⟨G, d * 2 + 1, none⟩) (grown_setCell (p := ⟨G, d * 2, none⟩) (World.grownBy.refl w1 (some G)) (.inl rfl) (.string nm)) (.inl rfl) v'
  have hG := h1.blk G rfl
  have hvG : apart v' (.slice (some ⟨G, 0, none⟩) n c) := apart_gt ho h1 hB
  have hfar : ∀ i (hi : i < os.length), apart v' os[i].val := fun i hi => apart_gt ho (h3 i hi (by omega)).2 hB
  have g3 : ∀ k (h : k < (os.set d ⟨nm, v'⟩).length) (h' : k < (net.set d ⟨nm, ys⟩).length), (os.set d ⟨nm, v'⟩)[k].name = (net.set d ⟨nm, ys⟩)[k].name ∧ own T2 base ((w1.setCell ⟨G, d * 2, none⟩ (.string nm)).setCell ⟨G, d * 2 + 1, none⟩ v') (os.set d ⟨nm, v'⟩)[k].val (net.set d ⟨nm, ys⟩)[k].rules := fun k h h' => by
    by_cases hkd : k = d
    · subst hkd
      rw [List.getElem_set_self, List.getElem_set_self]
      exact ⟨rfl, (ho.grown hset hvG).base_ (Nat.le_trans hbase hB)⟩
    · rw [List.getElem_set_ne (by omega), List.getElem_set_ne (by omega)]
      have hk1 : k < os.length := by simpa using h
      have hk2 : k < net.length := by simpa using h'
      exact ⟨(h3 k hk1 hk2).1, ((h3 k hk1 hk2).2.below hb).grown hset (h5 k hk1)⟩
  have g4 : ∀ j k (hj : j < (os.set d ⟨nm, v'⟩).length) (hk : k < (os.set d ⟨nm, v'⟩).length), j ≠ k → apart (os.set d ⟨nm, v'⟩)[j].val (os.set d ⟨nm, v'⟩)[k].val := fun j k hj hk hne => by
    have hj' : j < os.length := by simpa using hj
    have hk' : k < os.length := by simpa using hk
    by_cases hjd : j = d
    · subst hjd
      rw [List.getElem_set_self, List.getElem_set_ne (by omega)]
      exact hfar k hk'
    · by_cases hkd : k = d
      · subst hkd
        rw [List.getElem_set_self, List.getElem_set_ne (by omega)]
        exact apart_symm (hfar j hj')
      · rw [List.getElem_set_ne (by omega), List.getElem_set_ne (by omega)]
        exact h4 j k hj' hk' hne
  have g5 : ∀ k (h : k < (os.set d ⟨nm, v'⟩).length), apart (os.set d ⟨nm, v'⟩)[k].val (.slice (some ⟨G, 0, none⟩) n c) := fun k h => by
    by_cases hkd : k = d
    · subst hkd; rw [List.getElem_set_self]; exact hvG
    · rw [List.getElem_set_ne (by omega)]; exact h5 k (by simpa using h)
  exact ⟨q2, by rw [List.length_set, List.length_set]; exact h2, g3, g4, g5⟩

theorem madeCells2 (a b : Value) (m : Nat) (i : Nat) (hi : i < m) : (madeCells #[a, b] (m * 2))[i * 2]? = some a ∧ (madeCells #[a, b] (m * 2))[i * 2 + 1]? = some b := by
  constructor
  · simp [madeCells, show i * 2 < m * 2 by omega]
  · simp [madeCells, show i * 2 + 1 < m * 2 by omega, Nat.add_mod]
def noOfc : Ofc := ⟨⟨#[]⟩, []⟩
theorem made_offices (w : World) (T1 T2 : TypeId) (n base : Nat) (hb : base ≤ w.heap.size) (hn : n ≤ maxLen) : ∃ os, isN T1 T2 base (w.alloc (.cells (madeCells #[.string ⟨#[]⟩, .slice none 0 0] (n * 2)) T1)) (.slice (some ⟨w.heap.size, 0, none⟩) n n) (List.replicate n noOfc) os := by
  have hf : filled T1 (w.alloc (.cells (madeCells #[.string ⟨#[]⟩, .slice none 0 0] (n * 2)) T1)) w.heap.size n n (List.replicate n (OfV.mk ⟨#[]⟩ (.slice none 0 0))) := by
    refine ⟨madeCells #[.string ⟨#[]⟩, .slice none 0 0] (n * 2), heap_alloc_new w _, by rw [size_madeCells]; rfl, fun i hi hin => ⟨[.string ⟨#[]⟩, .slice none 0 0], ⟨by rw [List.getElem_replicate], by rw [List.getElem_replicate]; exact Nat.zero_le _, by rw [List.getElem_replicate]; rfl⟩, fun j u hu => ?_⟩⟩
    obtain ⟨m1, m2⟩ := madeCells2 (.string ⟨#[]⟩) (.slice none 0 0) n i (by simpa using hi)
    match j, hu with
    | 0, hu => simp at hu; subst hu; exact m1
    | 1, hu => simp at hu; subst hu; exact m2
    | j + 2, hu => simp at hu
  refine ⟨List.replicate n (OfV.mk ⟨#[]⟩ (.slice none 0 0)), hf.own (by simp) hb hn, by simp, fun k h h' => ?_, fun j k hj hk _ => .inl ?_, fun k h => .inl ?_⟩
  · simp only [List.getElem_replicate]; exact ⟨rfl, own.nil_ _ _ _⟩
  · simp only [List.getElem_replicate]; rfl
  · simp only [List.getElem_replicate]; rfl

/-- The first k offices laid, the others empty. -/
def laidN (net : List Ofc) (k : Nat) : List Ofc := net.take k ++ List.replicate (net.length - k) noOfc
theorem laidN_len {net : List Ofc} {k : Nat} (h : k ≤ net.length) : (laidN net k).length = net.length := by
  simp [laidN]; omega
theorem laidN_step {net : List Ofc} {k : Nat} (h : k < net.length) : (laidN net k).set k net[k] = laidN net (k + 1) := by
  unfold laidN
  have hl : (net.take k).length = k := by rw [List.length_take]; omega
  rw [List.set_append_right _ _ (by omega), hl, Nat.sub_self, show net.length - k = (net.length - (k + 1)) + 1 by omega, List.replicate_succ, List.set_cons_zero, List.take_succ_eq_append_getElem h, List.append_assoc]
  rfl
theorem laidN_all (net : List Ofc) : laidN net net.length = net := by simp [laidN]
theorem laidN_nil (net : List Ofc) : laidN net 0 = List.replicate net.length noOfc := by simp [laidN]

end Go.Proofs.YtffbcfaahegglaaDoor

namespace Go.Proofs.YtffbcfaahegglaaDoor
open Go.RowKit

/-- The marks that 'markLetterS' leaves in n letters. -/
def marksL (k n : Nat) : List Ltr := (List.range n).map fun i => ⟨((k + 2 * i : Nat) : Int), markB (k + 2 * i + 1)⟩
theorem marksL_len (k n : Nat) : (marksL k n).length = n := by simp [marksL]
theorem marksL_get (k n i : Nat) (h : i < (marksL k n).length) : (marksL k n)[i] = ⟨((k + 2 * i : Nat) : Int), markB (k + 2 * i + 1)⟩ := by simp [marksL]
theorem markB_size (k : Nat) (hk : k ≤ 1099511627776) : (markB k).size ≤ maxLen := by
  unfold markB
  have := dec10_len k
  split
  · show 2 ≤ maxLen
    unfold maxLen; omega
  · show (109 :: dec10 k).toArray.size ≤ maxLen
    rw [List.size_toArray, List.length_cons]
    unfold maxLen; omega

/-- The first k letters marked. -/
def markedTo (k0 : Nat) (xs : List Ltr) (k : Nat) : List Ltr := marksL k0 k ++ xs.drop k
theorem markedTo_len {k0 : Nat} {xs : List Ltr} {k : Nat} (h : k ≤ xs.length) : (markedTo k0 xs k).length = xs.length := by
  simp [markedTo, marksL_len]; omega
theorem markedTo_step {k0 : Nat} {xs : List Ltr} {k : Nat} (h : k < xs.length) : (markedTo k0 xs k).set k ⟨((k0 + 2 * k : Nat) : Int), markB (k0 + 2 * k + 1)⟩ = markedTo k0 xs (k + 1) := by
  unfold markedTo
  rw [List.set_append_right _ _ (by rw [marksL_len]; exact Nat.le_refl _), marksL_len, Nat.sub_self, List.drop_eq_getElem_cons h, List.set_cons_zero]
  unfold marksL
  rw [List.range_succ, List.map_append]
  simp



end Go.Proofs.YtffbcfaahegglaaDoor

namespace Go.Proofs.YtffbcfaahegglaaDoor
open Go.RowKit

/-- The greatest length among those whose rank is at most n. -/
def topLe (L : List (Nat × Nat)) (n : Nat) : Nat := L.foldl (fun a x => if x.1 ≤ n then max a x.2 else a) 0
/-- The greatest length among those of rank n. -/
def topEq (L : List (Nat × Nat)) (n : Nat) : Nat := L.foldl (fun a x => if x.1 = n then max a x.2 else a) 0
def bestK (L : List (Nat × Nat)) : Nat := L.foldl (fun a x => max a x.2) 0
def stepK (L : List (Nat × Nat)) (r : Int) : List (Nat × Nat) := if r < 0 then L else L ++ [(r.toNat, topLe L r.toNat + 1)]
def runK (rs : List Int) : List (Nat × Nat) := rs.foldl stepK []
theorem topLe_snoc (L : List (Nat × Nat)) (x : Nat × Nat) (n : Nat) : topLe (L ++ [x]) n = if x.1 ≤ n then max (topLe L n) x.2 else topLe L n := by
  unfold topLe; rw [List.foldl_append]; rfl
theorem topEq_snoc (L : List (Nat × Nat)) (x : Nat × Nat) (n : Nat) : topEq (L ++ [x]) n = if x.1 = n then max (topEq L n) x.2 else topEq L n := by
  unfold topEq; rw [List.foldl_append]; rfl
theorem bestK_snoc (L : List (Nat × Nat)) (x : Nat × Nat) : bestK (L ++ [x]) = max (bestK L) x.2 := by
  unfold bestK; rw [List.foldl_append]; rfl
theorem runK_snoc (rs : List Int) (r : Int) : runK (rs ++ [r]) = stepK (runK rs) r := by
  unfold runK; rw [List.foldl_append]; rfl
theorem runK_succ (rs : List Int) (k : Nat) (h : k < rs.length) : runK (rs.take (k + 1)) = stepK (runK (rs.take k)) rs[k] := by
  rw [List.take_succ_eq_append_getElem h, runK_snoc]
/-- The greatest of g 0 .. g n. -/
def maxTo (g : Nat → Nat) : Nat → Nat
  | 0 => g 0
  | n + 1 => max (maxTo g n) (g (n + 1))
theorem maxTo_congr {g g' : Nat → Nat} : ∀ n, (∀ j, j ≤ n → g j = g' j) → maxTo g n = maxTo g' n
  | 0, h => h 0 (Nat.le_refl _)
  | n + 1, h => by unfold maxTo; rw [maxTo_congr n fun j hj => h j (by omega), h (n + 1) (Nat.le_refl _)]
theorem maxTo_set (g : Nat → Nat) (r f : Nat) : ∀ n, maxTo (fun j => if r = j then max (g j) f else g j) n = if r ≤ n then max (maxTo g n) f else maxTo g n
  | 0 => by
    unfold maxTo
    by_cases h : r = 0
    · simp [h]
    · simp [h]
  | n + 1 => by
    unfold maxTo
    rw [maxTo_set g r f n]
    by_cases h1 : r ≤ n
    · rw [if_pos h1, if_neg (by omega), if_pos (by omega)]; omega
    · rw [if_neg h1]
      by_cases h2 : r = n + 1
      · rw [if_pos h2, if_pos (by omega)]; omega
      · rw [if_neg h2, if_neg (by omega)]
theorem maxTo_zero : ∀ n, maxTo (fun _ => 0) n = 0
  | 0 => rfl
  | n + 1 => by unfold maxTo; rw [maxTo_zero n]; rfl
theorem snoc_ind {α : Type} {p : List α → Prop} (h0 : p []) (h1 : ∀ l a, p l → p (l ++ [a])) (l : List α) : p l := by
  have : ∀ n (l : List α), l.length = n → p l := fun n => by
    induction n with
    | zero => intro l hl; rw [List.length_eq_zero_iff.1 hl]; exact h0
    | succ n ih =>
      intro l hl
      have hne : l ≠ [] := by intro h; rw [h] at hl; simp at hl
      rw [← List.dropLast_concat_getLast hne]
      exact h1 _ _ (ih _ (by simp [hl]))
  exact this _ l rfl
theorem topLe_eq (L : List (Nat × Nat)) (n : Nat) : maxTo (topEq L) n = topLe L n := by
  induction L using snoc_ind with
  | h0 => exact maxTo_zero n
  | h1 L x ih =>
    rw [topLe_snoc, ← ih, ← maxTo_set]
    exact maxTo_congr n fun j _ => topEq_snoc L x j
theorem topEq_le_maxTo (g : Nat → Nat) : ∀ n j, j ≤ n → g j ≤ maxTo g n
  | 0, j, h => by obtain rfl : j = 0 := by omega
                  exact Nat.le_refl _
  | n + 1, j, h => by
    unfold maxTo
    by_cases hj : j = n + 1
    · rw [hj]; omega
    · have := topEq_le_maxTo g n j (by omega); omega
theorem topEq_step (L : List (Nat × Nat)) (r j : Nat) : topEq (L ++ [(r, topLe L r + 1)]) j = if r = j then topLe L r + 1 else topEq L j := by
  rw [topEq_snoc]
  by_cases h : r = j
  · subst h
    simp only [if_true]
    have := topEq_le_maxTo (topEq L) r r (Nat.le_refl _)
    rw [topLe_eq] at this
    omega
  · rw [if_neg h, if_neg h]
theorem runK_len (rs : List Int) : (runK rs).length ≤ rs.length := by
  induction rs using snoc_ind with
  | h0 => exact Nat.le_refl _
  | h1 rs r ih =>
    rw [runK_snoc]
    unfold stepK
    split
    · simp; omega
    · simp; omega
theorem topLe_bound (rs : List Int) (n : Nat) : topLe (runK rs) n ≤ rs.length ∧ bestK (runK rs) ≤ rs.length := by
  induction rs using snoc_ind generalizing n with
  | h0 => exact ⟨Nat.le_refl _, Nat.le_refl _⟩
  | h1 rs r ih =>
    rw [runK_snoc]
    unfold stepK
    have h1 := ih n
    split
    · simp; omega
    · have h2 := ih r.toNat
      rw [topLe_snoc, bestK_snoc]
      simp only [List.length_append, List.length_cons, List.length_nil]
      split <;> omega

/-- How many letters can stay: all ranks in their order. -/
def ranksOf (p : Pln) (xs : List Ltr) : List Int := xs.map fun x => rkI p.order x.code
def keptN (p : Pln) (xs : List Ltr) : Nat := bestK (runK (ranksOf p xs))
def keptI (p : Pln) (xs : List Ltr) : Int := if planOk p && okB xs then keptN p xs else -1

end Go.Proofs.YtffbcfaahegglaaDoor

namespace Go.Proofs.YtffbcfaahegglaaDoor
open Go.RowKit

/-- The row g 0, .., g (n - 1). -/
def rowK (g : Nat → Nat) (n : Nat) : List Int := (List.range n).map fun j => ((g j : Nat) : Int)
theorem rowK_len (g : Nat → Nat) (n : Nat) : (rowK g n).length = n := by simp [rowK]
theorem rowK_get (g : Nat → Nat) (n k : Nat) (h : k < (rowK g n).length) : (rowK g n)[k] = ((g k : Nat) : Int) := by simp [rowK]
theorem rowK_take (g : Nat → Nat) (n k : Nat) (h : k ≤ n) : (rowK g n).take k = rowK g k := by
  apply List.ext_getElem
  · simp [rowK_len]; omega
  · intro i h1 h2
    rw [List.getElem_take, rowK_get, rowK_get]
theorem rowK_set (g : Nat → Nat) (n r f : Nat) : (rowK g n).set r (f : Int) = rowK (fun j => if r = j then f else g j) n := by
  apply List.ext_getElem
  · simp [rowK_len]
  · intro i h1 h2
    rw [List.getElem_set, rowK_get, rowK_get]
    split <;> rfl
theorem rowK_congr {g g' : Nat → Nat} {n : Nat} (h : ∀ j, j < n → g j = g' j) : rowK g n = rowK g' n := by
  apply List.ext_getElem
  · simp [rowK_len]
  · intro i h1 h2
    rw [rowK_get, rowK_get, h i (by simpa [rowK_len] using h1)]

theorem own_setInt {T base g n c : Nat} {w : World} {xs : List Int} (h : own T base w (.slice (some ⟨g, 0, none⟩) n c) xs) {k : Nat} (hk : k < xs.length) (y : Int) (hy : isI64 y) :
    own T base (w.setCell ⟨g, k, none⟩ (.int .i64 y)) (.slice (some ⟨g, 0, none⟩) n c) (xs.set k y) := by
  have h1 := h.setCell (k := k) (j := 0) hk (by decide) (.int .i64 y) y (fun ecs he => by
    obtain ⟨_, rfl⟩ := he
    exact ⟨hy, rfl⟩)
  rw [show k * El.size Int + 0 = k from Nat.mul_one k] at h1
  exact h1

theorem Tryd.infoInt : (Tryd.prog.info? 3).map (fun i => (i.zero, i.size, i.bytes)) = some (some (.int .i64 0), 1, 8) := by kernel_rfl

theorem own_zeros (w : World) (n base : Nat) (hb : base ≤ w.heap.size) (hn : n ≤ maxLen) : own 3 base (w.alloc (.cells (madeCells #[.int .i64 0] n) 3)) (.slice (some ⟨w.heap.size, 0, none⟩) n n) (rowK (fun _ => 0) n) := by
  have hf : filled 3 (w.alloc (.cells (madeCells #[.int .i64 0] n) 3)) w.heap.size n n (rowK (fun _ => 0) n) := by
    refine ⟨madeCells #[.int .i64 0] n, heap_alloc_new w _, by rw [size_madeCells]; exact (Nat.mul_one _).symm, fun i hi hin => ⟨[.int .i64 0], ⟨?_, ?_⟩, fun j u hu => ?_⟩⟩
    · rw [rowK_get]; unfold isI64; omega
    · rw [rowK_get]; rfl
    · have hj : j = 0 := by
        cases j with
        | zero => rfl
        | succ j => simp at hu
      subst hj
      simp at hu
      subst hu
      rw [show i * El.size Int + 0 = i from Nat.mul_one i]
      simp [madeCells, Nat.mod_one, show i < n by simpa [rowK_len] using hi]
  exact hf.own (by rw [rowK_len]) hb hn


end Go.Proofs.YtffbcfaahegglaaDoor

namespace Go.Proofs.YtffbcfaahegglaaDoor
open Go.RowKit


/-! Frames of what marks: only blocks from lo on, before hi, turn. -/
structure OutI (lo hi : Nat) (w w' : World) : Prop where
  os : w'.os = w.os
  tape : w'.tape = w.tape
  output : w'.output = w.output
  size : w.heap.size ≤ w'.heap.size
  block : ∀ k, k < w.heap.size → k < lo ∨ hi ≤ k → w'.heap[k]? = w.heap[k]?
theorem OutI.refl (lo hi : Nat) (w : World) : OutI lo hi w w := ⟨rfl, rfl, rfl, Nat.le_refl _, fun _ _ _ => rfl⟩
theorem OutI.trans {lo hi : Nat} {a b c : World} (h : OutI lo hi a b) (k : OutI lo hi b c) : OutI lo hi a c :=
  ⟨k.os.trans h.os, k.tape.trans h.tape, k.output.trans h.output, Nat.le_trans h.size k.size, fun i hi hne => (k.block i (Nat.lt_of_lt_of_le hi h.size) hne).trans (h.block i hi hne)⟩
theorem OutI.of_below {lo hi : Nat} {w w' : World} (h : Below w.heap.size w w') : OutI lo hi w w' := ⟨h.os, h.tape, h.output, h.size, fun k hk _ => h.block k hk⟩
theorem OutI.of_grown {lo hi : Nat} {w w' : World} {row : Option Nat} (h : w.grownBy w' row) (hr : ∀ k, row = some k → lo ≤ k ∧ k < hi) : OutI lo hi w w' :=
  ⟨h.os, h.tape, h.output, h.size, fun k hk hne => h.block k hk (fun e => by have := hr k e.symm; omega)⟩
theorem OutI.later {lo hi : Nat} {a w w' : World} (h : OutI lo hi w w') (hb : Below a.heap.size a w) (hlo : a.heap.size ≤ lo) : Below a.heap.size a w' :=
  ⟨h.os.trans hb.os, h.tape.trans hb.tape, h.output.trans hb.output, Nat.le_trans hb.size h.size, fun k hk => (h.block k (Nat.lt_of_lt_of_le hk hb.size) (.inl (by omega))).trans (hb.block k hk)⟩
theorem own.keepBlk {α : Type} [Flat α] {T base : Nat} {w w' : World} {v : Value} {xs : List α} (h : own T base w v xs) (hk : ∀ k, v.ownBlock = some k → w'.heap[k]? = w.heap[k]?) : own T base w' v xs := by
  obtain ⟨css, ⟨h1, h2⟩, hl, he⟩ := h
  refine ⟨css, ⟨h1, ?_⟩, hl, fun k a b => Flat.free (he k a b)⟩
  rcases h2 with h2 | ⟨g, cap, cur, hv, hg, hh, r⟩
  · exact .inl h2
  · exact .inr ⟨g, cap, cur, hv, hg, by rw [hk g (by rw [hv]; rfl)]; exact hh, r⟩
/-- A row of the call's own, in blocks before hi. -/
def seg {α : Type} [El α] (T lo hi : Nat) (w : World) (v : Value) (xs : List α) : Prop := own T lo w v xs ∧ ∀ k, v.ownBlock = some k → k < hi
theorem seg.of {α : Type} [El α] {T lo : Nat} {w : World} {v : Value} {xs : List α} (h : own T lo w v xs) : seg T lo w.heap.size w v xs := ⟨h, fun k hk => (h.blk k hk).2⟩
theorem seg.below {α : Type} [El α] {T lo hi : Nat} {w w' : World} {v : Value} {xs : List α} (h : seg T lo hi w v xs) (hb : Below w.heap.size w w') : seg T lo hi w' v xs := ⟨h.1.below hb, h.2⟩
theorem seg.out {α : Type} [Flat α] {T lo hi a b : Nat} {w w' : World} {v : Value} {xs : List α} (h : seg T lo hi w v xs) (ho : OutI a b w w') (hd : hi ≤ a ∨ b ≤ lo) : seg T lo hi w' v xs :=
  ⟨h.1.keepBlk fun k hk => ho.block k (h.1.blk k hk).2 (by have h1 := (h.1.blk k hk).1; have h2 := h.2 k hk; omega), h.2⟩
theorem seg.rd {α : Type} [El α] {T lo hi : Nat} {w : World} {v : Value} {xs : List α} (h : seg T lo hi w v xs) : rd w w.heap.size v xs := h.1.rd
def segP (T lo hi : Nat) (w : World) (v : Value) (p : Pln) : Prop := ∃ vo, v = .agg #[.int .i64 p.bins, .int .i64 p.passes, vo] ∧ isI64 p.bins ∧ isI64 p.passes ∧ seg T lo hi w vo p.order
theorem segP.of {T lo : Nat} {w : World} {v : Value} {p : Pln} (h : ownP T lo w v p) : segP T lo w.heap.size w v p := by
  obtain ⟨vo, h1, h2, h3, h4⟩ := h
  exact ⟨vo, h1, h2, h3, seg.of h4⟩
theorem segP.below {T lo hi : Nat} {w w' : World} {v : Value} {p : Pln} (h : segP T lo hi w v p) (hb : Below w.heap.size w w') : segP T lo hi w' v p := by
  obtain ⟨vo, h1, h2, h3, h4⟩ := h
  exact ⟨vo, h1, h2, h3, h4.below hb⟩
theorem segP.out {T lo hi a b : Nat} {w w' : World} {v : Value} {p : Pln} (h : segP T lo hi w v p) (ho : OutI a b w w') (hd : hi ≤ a ∨ b ≤ lo) : segP T lo hi w' v p := by
  obtain ⟨vo, h1, h2, h3, h4⟩ := h
  exact ⟨vo, h1, h2, h3, h4.out ho hd⟩
theorem segP.rd {T lo hi : Nat} {w : World} {v : Value} {p : Pln} (h : segP T lo hi w v p) : rdP w w.heap.size v p := by
  obtain ⟨vo, h1, h2, h3, h4⟩ := h
  exact ⟨vo, h1, h2, h3, h4.rd⟩



end Go.Proofs.YtffbcfaahegglaaDoor

namespace Go.Proofs.YtffbcfaahegglaaDoor
open Go.RowKit

section
variable {P : Program} {fn : Func} {R : Ending → World → Prop} {a : Act} {w : World} {p u v r : Tmp} {ty : TypeId} {g : Nat} {t : TypeId} {cs : Array Value} {d : TypeDesc}
theorem load_box (hg : w.heap[g]? = some (.cells cs t (0, 0))) (hu : P.underlying ty = some d) (hd : (match d with | .struct _ | .array _ _ => true | _ => false) = true) (hi : (P.info? ty).map (·.size) = some cs.size) :
    (loadVar ty ⟨g, 0, none⟩).run P w = .ok (.agg cs) w := run_loadVar_row w g t ty cs (0, 0) d hg hu hd hi
theorem out_box (h : fn.results = #[.cell p ty]) (hp : a.tmps.getD p undef = .pointer (some ⟨g, 0, none⟩)) (hg : w.heap[g]? = some (.cells cs t (0, 0)))
    (hu : P.underlying ty = some d) (hd : (match d with | .struct _ | .array _ _ => true | _ => false) = true) (hi : (P.info? ty).map (·.size) = some cs.size) (hf : a.defers = [])
    (hR : R (.returned (.agg cs)) w) : bodyPost P fn R .ret a w :=
  bodyPost_ret (results_cell_row h a.tmps w g t cs (0, 0) d hp hg hu hd hi) hf hR
theorem out_box1 (h : fn.results = #[.cell p ty, .tmp u]) (hp : a.tmps.getD p undef = .pointer (some ⟨g, 0, none⟩)) (hg : w.heap[g]? = some (.cells cs t (0, 0)))
    (hu : P.underlying ty = some d) (hd : (match d with | .struct _ | .array _ _ => true | _ => false) = true) (hi : (P.info? ty).map (·.size) = some cs.size) (hf : a.defers = [])
    (hR : R (.returned (.tuple #[.agg cs, a.tmps.getD u undef])) w) : bodyPost P fn R .ret a w := by
  refine bodyPost_ret ?_ hf hR
  have hp' : a.tmps[p]?.getD undef = .pointer (some ⟨g, 0, none⟩) := by simpa using hp
  simp [results, h, hp', asAddr, load_box hg hu hd hi, Sem.run_bind, Result.andThen]
theorem out_box2 (h : fn.results = #[.cell p ty, .tmp u, .tmp v]) (hp : a.tmps.getD p undef = .pointer (some ⟨g, 0, none⟩)) (hg : w.heap[g]? = some (.cells cs t (0, 0)))
    (hu : P.underlying ty = some d) (hd : (match d with | .struct _ | .array _ _ => true | _ => false) = true) (hi : (P.info? ty).map (·.size) = some cs.size) (hf : a.defers = [])
    (hR : R (.returned (.tuple #[.agg cs, a.tmps.getD u undef, a.tmps.getD v undef])) w) : bodyPost P fn R .ret a w := by
  refine bodyPost_ret ?_ hf hR
  have hp' : a.tmps[p]?.getD undef = .pointer (some ⟨g, 0, none⟩) := by simpa using hp
  simp [results, h, hp', asAddr, load_box hg hu hd hi, Sem.run_bind, Result.andThen]
theorem out_box3 (h : fn.results = #[.cell p ty, .tmp u, .tmp v, .tmp r]) (hp : a.tmps.getD p undef = .pointer (some ⟨g, 0, none⟩)) (hg : w.heap[g]? = some (.cells cs t (0, 0)))
    (hu : P.underlying ty = some d) (hd : (match d with | .struct _ | .array _ _ => true | _ => false) = true) (hi : (P.info? ty).map (·.size) = some cs.size) (hf : a.defers = [])
    (hR : R (.returned (.tuple #[.agg cs, a.tmps.getD u undef, a.tmps.getD v undef, a.tmps.getD r undef])) w) : bodyPost P fn R .ret a w := by
  refine bodyPost_ret ?_ hf hR
  have hp' : a.tmps[p]?.getD undef = .pointer (some ⟨g, 0, none⟩) := by simpa using hp
  simp [results, h, hp', asAddr, load_box hg hu hd hi, Sem.run_bind, Result.andThen]
end

theorem four_set {w : World} {g : Nat} {T : TypeId} {u0 u1 u2 u3 a b c d : Value} (h : w.heap[g]? = some (.cells #[u0, u1, u2, u3] T (0, 0))) :
    ((((w.setCell ⟨g, 0, none⟩ a).setCell ⟨g, 1, none⟩ b).setCell ⟨g, 2, none⟩ c).setCell ⟨g, 3, none⟩ d).heap[g]? = some (.cells #[a, b, c, d] T (0, 0)) :=
  heap_setCell_same _ _ _ _ _ _ (heap_setCell_same _ _ _ _ _ _ (heap_setCell_same _ _ _ _ _ _ (heap_setCell_same _ _ _ _ _ _ h)))
/-- A box of four cells. -/
structure box4 (g : Nat) (a b c d : Value) (w : World) : Prop where
  lt : g < w.heap.size
  c0 : w.cell? ⟨g, 0, none⟩ = some a
  c1 : w.cell? ⟨g, 1, none⟩ = some b
  c2 : w.cell? ⟨g, 2, none⟩ = some c
  c3 : w.cell? ⟨g, 3, none⟩ = some d
theorem box4.of {w u : World} {a b c d : Value} {T : TypeId} (h : u = w.alloc (Obj.cells #[a, b, c, d] T)) : box4 w.heap.size a b c d u :=
  ⟨(box_later h).2, box_cells h 0 a rfl u (Below.refl _ _), box_cells h 1 b rfl u (Below.refl _ _), box_cells h 2 c rfl u (Below.refl _ _), box_cells h 3 d rfl u (Below.refl _ _)⟩
theorem box4.below {g : Nat} {a b c d : Value} {w w' : World} (h : box4 g a b c d w) (hb : Below w.heap.size w w') : box4 g a b c d w' :=
  ⟨Nat.lt_of_lt_of_le h.lt hb.size, (hb.cell (p := ⟨g, 0, none⟩) h.lt).trans h.c0, (hb.cell (p := ⟨g, 1, none⟩) h.lt).trans h.c1, (hb.cell (p := ⟨g, 2, none⟩) h.lt).trans h.c2, (hb.cell (p := ⟨g, 3, none⟩) h.lt).trans h.c3⟩
theorem OutI.cell {lo hi g i : Nat} {w w' : World} (h : OutI lo hi w w') (hg : g < w.heap.size) (hd : g < lo ∨ hi ≤ g) : w'.cell? ⟨g, i, none⟩ = w.cell? ⟨g, i, none⟩ := by
  unfold World.cell?
  simp only [h.block g hg hd]
theorem box4.out {g lo hi : Nat} {a b c d : Value} {w w' : World} (h : box4 g a b c d w) (ho : OutI lo hi w w') (hd : g < lo ∨ hi ≤ g) : box4 g a b c d w' :=
  ⟨Nat.lt_of_lt_of_le h.lt ho.size, (ho.cell h.lt hd).trans h.c0, (ho.cell h.lt hd).trans h.c1, (ho.cell h.lt hd).trans h.c2, (ho.cell h.lt hd).trans h.c3⟩
theorem box4.grown {g : Nat} {a b c d : Value} {w w' : World} {row : Option Nat} (h : box4 g a b c d w) (hg : w.grownBy w' row) (hne : some g ≠ row) : box4 g a b c d w' :=
  ⟨Nat.lt_of_lt_of_le h.lt hg.size, (hg.cell_far ⟨g, 0, none⟩ h.lt hne).trans h.c0, (hg.cell_far ⟨g, 1, none⟩ h.lt hne).trans h.c1, (hg.cell_far ⟨g, 2, none⟩ h.lt hne).trans h.c2, (hg.cell_far ⟨g, 3, none⟩ h.lt hne).trans h.c3⟩

end Go.Proofs.YtffbcfaahegglaaDoor
