/- NR NO NP B1 K5 -/
import Derived.Test.YtpinkbodbedajaaGreatDoorQ2
import Derived.Test.YtpinkbodbedajaaGreatDoorQ6
import Derived.Test.YtpinkbodbedajaaGreatDoorQ4
import Derived.Test.YtpinkbodbedajaaGreatDoorQ1
namespace Go.Proofs.YtpinkbodbedajaaGreatDoor
open Go.RowKit

instance elOfc : El Ofc where
  size := 2
  el w B x cs := x.name.size ≤ maxLen ∧ ∃ v, cs = [.string x.name, v] ∧ rd w B v x.rules
  len h := by obtain ⟨_, v, rfl, _⟩ := h; rfl
  more h hB := by obtain ⟨h0, v, h1, h2⟩ := h; exact ⟨h0, v, h1, h2.more hB⟩
  keep h hk := by obtain ⟨h0, v, h1, h2⟩ := h; exact ⟨h0, v, h1, h2.keep hk⟩
  one h := by
    obtain ⟨_, v, rfl, A, n, c, rfl, _⟩ := h
    intro u hu
    simp at hu
    rcases hu with rfl | rfl <;> rfl
theorem rdA.ofcU {w : World} {A : Option Addr} {net : List Ofc} (h : rdA w w.heap.size A net) (k : Nat) (hk : k < net.length) :
    ∃ b o A' c', A = some ⟨b, o, none⟩ ∧ b < w.heap.size ∧ net[k].name.size ≤ maxLen ∧ rd w w.heap.size (.slice A' net[k].rules.length c') net[k].rules ∧ (∀ W, Below w.heap.size w W → W.cell? ⟨b, o + k * 2, none⟩ = some (.string net[k].name)) ∧ (∀ W, Below w.heap.size w W → W.cell? ⟨b, o + k * 2 + 1, none⟩ = some (.slice A' net[k].rules.length c')) := by
  obtain ⟨b, o, cs, hA, hb, ⟨hn, v, rfl, hv⟩, hc⟩ := h k hk
  have hv0 := hv
  obtain ⟨A', n', c', rfl, hn', _⟩ := hv
  subst hn'
  have c1 : w.cell? ⟨b, o + k * 2, none⟩ = some (.string net[k].name) := by simpa [El.size] using hc 0 _ rfl
  have c2 : w.cell? ⟨b, o + k * 2 + 1, none⟩ = some (.slice A' net[k].rules.length c') := by simpa [El.size, Nat.add_assoc] using hc 1 _ rfl
  exact ⟨b, o, A', c', hA, hb, hn, hv0, fun W hW => (hW.cell (p := ⟨b, o + k * 2, none⟩) hb).trans c1, fun W hW => (hW.cell (p := ⟨b, o + k * 2 + 1, none⟩) hb).trans c2⟩

/-- An office with its rules' slice as it lies. -/
structure OfV where
  name : ByteArray
  val : Value
instance elOfV : El OfV where
  size := 2
  el _ _ x cs := cs = [.string x.name, x.val] ∧ x.name.size ≤ maxLen ∧ x.val.oneCell' = true
  len h := by rw [h.1]; rfl
  more h _ := h
  keep h _ := h
  one h := by
    rw [h.1]
    intro u hu
    simp at hu
    rcases hu with rfl | rfl
    · rfl
    · exact h.2.2
instance flatOfV : Flat OfV where
  free h := h
/-- A network that a call owns. -/
def isN (T1 T2 : TypeId) (base : Nat) (w : World) (v : Value) (net : List Ofc) (os : List OfV) : Prop :=
  own T1 base w v os ∧ os.length = net.length ∧ (∀ k (h : k < os.length) (h' : k < net.length), os[k].name = net[k].name ∧ own T2 base w os[k].val net[k].rules) ∧ (∀ j k (hj : j < os.length) (hk : k < os.length), j ≠ k → apart os[j].val os[k].val) ∧ (∀ k (h : k < os.length), apart os[k].val v)
def ownN (T1 T2 : TypeId) (base : Nat) (w : World) (v : Value) (net : List Ofc) : Prop := ∃ os : List OfV, isN T1 T2 base w v net os
section
variable {T1 T2 : TypeId} {base : Nat} {w w' : World} {v : Value} {net : List Ofc} {os : List OfV}
theorem isN.below (h : isN T1 T2 base w v net os) (hb : Below w.heap.size w w') : isN T1 T2 base w' v net os := by
  obtain ⟨h1, h2, h3, h4, h5⟩ := h
  exact ⟨h1.below hb, h2, fun k a b => ⟨(h3 k a b).1, (h3 k a b).2.below hb⟩, h4, h5⟩
theorem isN.grown {row : Option Nat} (h : isN T1 T2 base w v net os) (hg : w.grownBy w' row) (hv : v.ownBlock = none ∨ v.ownBlock ≠ row) (hvs : ∀ k (h : k < os.length), os[k].val.ownBlock = none ∨ os[k].val.ownBlock ≠ row) : isN T1 T2 base w' v net os := by
  obtain ⟨h1, h2, h3, h4, h5⟩ := h
  exact ⟨h1.grown hg hv, h2, fun k a b => ⟨(h3 k a b).1, (h3 k a b).2.grown hg (hvs k a)⟩, h4, h5⟩
theorem isN.base_ {base' : Nat} (h : isN T1 T2 base w v net os) (hb : base' ≤ base) : isN T1 T2 base' w v net os := by
  obtain ⟨h1, h2, h3, h4, h5⟩ := h
  exact ⟨h1.base_ hb, h2, fun k a b => ⟨(h3 k a b).1, (h3 k a b).2.base_ hb⟩, h4, h5⟩
theorem ownN.below (h : ownN T1 T2 base w v net) (hb : Below w.heap.size w w') : ownN T1 T2 base w' v net := by
  obtain ⟨os, h⟩ := h; exact ⟨os, h.below hb⟩
theorem ownN.base_ {base' : Nat} (h : ownN T1 T2 base w v net) (hb : base' ≤ base) : ownN T1 T2 base' w v net := by
  obtain ⟨os, h⟩ := h; exact ⟨os, h.base_ hb⟩
theorem own_ofv {g n c : Nat} (h : own T1 base w (.slice (some ⟨g, 0, none⟩) n c) os) (k : Nat) (hk : k < os.length) :
    os[k].name.size ≤ maxLen ∧ w.cell? ⟨g, k * 2, none⟩ = some (.string os[k].name) ∧ w.cell? ⟨g, k * 2 + 1, none⟩ = some os[k].val := by
  obtain ⟨A, n', c', hv, _, _, _, hrd⟩ := h.rd
  obtain ⟨b, o, cs, hA, _, ⟨rfl, hz, _⟩, hc⟩ := hrd k hk
  injection hv with e1 _ _
  subst e1
  injection hA with hA
  injection hA with hA1 hA2
  subst hA1 hA2
  refine ⟨hz, ?_, ?_⟩
  · have := hc 0 _ rfl
    rw [show 0 + (k * El.size OfV + 0) = k * 2 by show 0 + (k * 2 + 0) = k * 2; omega] at this
    exact this
  · have := hc 1 _ rfl
    rw [show 0 + (k * El.size OfV + 1) = k * 2 + 1 by show 0 + (k * 2 + 1) = k * 2 + 1; omega] at this
    exact this
theorem isN.form (h : isN T1 T2 base w v net os) : v = .slice none 0 0 ∧ net = [] ∨ ∃ g c, v = .slice (some ⟨g, 0, none⟩) net.length c ∧ base ≤ g ∧ g < w.heap.size ∧ net.length ≤ c ∧ c ≤ maxLen := by
  obtain ⟨h1, h2, _⟩ := h
  rcases h1.form with ⟨a, b⟩ | ⟨g, c, a, b⟩
  · subst b
    exact .inl ⟨a, List.eq_nil_of_length_eq_zero h2.symm⟩
  · rw [h2] at a b
    exact .inr ⟨g, c, a, b⟩
theorem isN.rd (h : isN T1 T2 base w v net os) : rd w w.heap.size v net := by
  rcases h.form with ⟨rfl, rfl⟩ | ⟨g, c, rfl, hg, hlt, hc, hm⟩
  · exact rd.nil_
  · obtain ⟨h1, h2, h3, _⟩ := h
    refine ⟨_, _, _, rfl, rfl, hc, hm, fun k hk => ?_⟩
    have hk' : k < os.length := by omega
    obtain ⟨e1, e2⟩ := h3 k hk' hk
    obtain ⟨z0, z1, z2⟩ := own_ofv h1 k hk'
    refine ⟨g, 0, [.string net[k].name, os[k].val], rfl, hlt, ⟨by rw [← e1]; exact z0, _, rfl, e2.rd⟩, fun j u hu => ?_⟩
    match j, hu with
    | 0, hu =>
      simp at hu
      subst hu
      rw [show 0 + (k * El.size Ofc + 0) = k * 2 by show 0 + (k * 2 + 0) = k * 2; omega, z1, e1]
    | 1, hu =>
      simp at hu
      subst hu
      rw [show 0 + (k * El.size Ofc + 1) = k * 2 + 1 by show 0 + (k * 2 + 1) = k * 2 + 1; omega, z2]
    | j + 2, hu => simp at hu
theorem ownN.rd (h : ownN T1 T2 base w v net) : rd w w.heap.size v net := by
  obtain ⟨os, h⟩ := h; exact h.rd
end
theorem own_setOfV {T base g n c : Nat} {w : World} {os : List OfV} (h : own T base w (.slice (some ⟨g, 0, none⟩) n c) os) {k : Nat} (hk : k < os.length) {y : OfV} (hy : y.name.size ≤ maxLen) (hy' : y.val.oneCell' = true) :
    own T base ((w.setCell ⟨g, k * 2, none⟩ (.string y.name)).setCell ⟨g, k * 2 + 1, none⟩ y.val) (.slice (some ⟨g, 0, none⟩) n c) (os.set k y) := by
  have h1 := h.setCell (k := k) (j := 0) hk (by decide) (.string y.name) ⟨y.name, os[k].val⟩ (fun ecs he => by
    obtain ⟨rfl, _, q⟩ := he
    exact ⟨rfl, hy, q⟩)
  have h2 := h1.setCell (k := k) (j := 1) (by simpa using hk) (by decide) y.val y (fun ecs he => by
    obtain ⟨rfl, _⟩ := he
    refine ⟨?_, hy, hy'⟩
    simp)
  rw [List.set_set] at h2
  exact h2
/-- An office put in a place. -/
theorem isN.put {T1 T2 base G n c : Nat} {w w1 : World} {os : List OfV} {net : List Ofc} {nm : ByteArray} {ys : List Fwd} {v' : Value} {d B : Nat}
    (h : isN T1 T2 base w (.slice (some ⟨G, 0, none⟩) n c) net os) (hb : Below w.heap.size w w1)
    (hd : d < os.length) (hnm : nm.size ≤ maxLen) (ho : own T2 B w1 v' ys) (hB : w.heap.size ≤ B) (hbase : base ≤ w.heap.size) :
    isN T1 T2 base ((w1.setCell ⟨G, d * 2, none⟩ (.string nm)).setCell ⟨G, d * 2 + 1, none⟩ v') (.slice (some ⟨G, 0, none⟩) n c) (net.set d ⟨nm, ys⟩) (os.set d ⟨nm, v'⟩) := by
  obtain ⟨h1, h2, h3, h4, h5⟩ := h
  have hv1 : v'.oneCell' = true := by
    rcases ho.form with ⟨rfl, _⟩ | ⟨g, c, rfl, _⟩ <;> rfl
  have q2 : own T1 base ((w1.setCell ⟨G, d * 2, none⟩ (.string nm)).setCell ⟨G, d * 2 + 1, none⟩ v') (.slice (some ⟨G, 0, none⟩) n c) (os.set d ⟨nm, v'⟩) := own_setOfV (y := ⟨nm, v'⟩) (h1.below hb) hd hnm hv1
  have hset : w1.grownBy ((w1.setCell ⟨G, d * 2, none⟩ (.string nm)).setCell ⟨G, d * 2 + 1, none⟩ v') (some G) := grown_setCell (p := ⟨G, d * 2 + 1, none⟩) (grown_setCell (p := ⟨G, d * 2, none⟩) (World.grownBy.refl w1 (some G)) (.inl rfl) (.string nm)) (.inl rfl) v'
  have hG := h1.blk G rfl
  have hvG : apart v' (.slice (some ⟨G, 0, none⟩) n c) := apart_gt ho h1 hB
  have hfar : ∀ i (hi : i < os.length), apart v' os[i].val := fun i hi => apart_gt ho (h3 i hi (by omega)).2 hB
  have g3 : ∀ k (h : k < (os.set d ⟨nm, v'⟩).length) (h' : k < (net.set d ⟨nm, ys⟩).length), (os.set d ⟨nm, v'⟩)[k].name = (net.set d ⟨nm, ys⟩)[k].name ∧ own T2 base ((w1.setCell ⟨G, d * 2, none⟩ (.string nm)).setCell ⟨G, d * 2 + 1, none⟩ v') (os.set d ⟨nm, v'⟩)[k].val (net.set d ⟨nm, ys⟩)[k].rules := fun k h h' => by
    by_cases hkd : k = d
    · subst hkd
      rw [List.getElem_set_self, List.getElem_set_self]
      exact ⟨rfl, (ho.grown hset hvG).base_ (Nat.le_trans hbase hB)⟩
    · rw [List.getElem_set_ne (by omega), List.getElem_set_ne (by omega)]
      have hk1 : k < os.length := by simpa using h
      have hk2 : k < net.length := by simpa using h'
      exact ⟨(h3 k hk1 hk2).1, ((h3 k hk1 hk2).2.below hb).grown hset (h5 k hk1)⟩
  have g4 : ∀ j k (hj : j < (os.set d ⟨nm, v'⟩).length) (hk : k < (os.set d ⟨nm, v'⟩).length), j ≠ k → apart (os.set d ⟨nm, v'⟩)[j].val (os.set d ⟨nm, v'⟩)[k].val := fun j k hj hk hne => by
    have hj' : j < os.length := by simpa using hj
    have hk' : k < os.length := by simpa using hk
    by_cases hjd : j = d
    · subst hjd
      rw [List.getElem_set_self, List.getElem_set_ne (by omega)]
      exact hfar k hk'
    · by_cases hkd : k = d
      · subst hkd
        rw [List.getElem_set_self, List.getElem_set_ne (by omega)]
        exact apart_symm (hfar j hj')
      · rw [List.getElem_set_ne (by omega), List.getElem_set_ne (by omega)]
        exact h4 j k hj' hk' hne
  have g5 : ∀ k (h : k < (os.set d ⟨nm, v'⟩).length), apart (os.set d ⟨nm, v'⟩)[k].val (.slice (some ⟨G, 0, none⟩) n c) := fun k h => by
    by_cases hkd : k = d
    · subst hkd; rw [List.getElem_set_self]; exact hvG
    · rw [List.getElem_set_ne (by omega)]; exact h5 k (by simpa using h)
  exact ⟨q2, by rw [List.length_set, List.length_set]; exact h2, g3, g4, g5⟩

theorem madeCells2 (a b : Value) (m : Nat) (i : Nat) (hi : i < m) : (madeCells #[a, b] (m * 2))[i * 2]? = some a ∧ (madeCells #[a, b] (m * 2))[i * 2 + 1]? = some b := by
  constructor
  · simp [madeCells, show i * 2 < m * 2 by omega]
  · simp [madeCells, show i * 2 + 1 < m * 2 by omega, Nat.add_mod]
def noOfc : Ofc := ⟨⟨#[]⟩, []⟩
theorem made_offices (w : World) (T1 T2 : TypeId) (n base : Nat) (hb : base ≤ w.heap.size) (hn : n ≤ maxLen) : ∃ os, isN T1 T2 base (w.alloc (.cells (madeCells #[.string ⟨#[]⟩, .slice none 0 0] (n * 2)) T1)) (.slice (some ⟨w.heap.size, 0, none⟩) n n) (List.replicate n noOfc) os := by
  have hf : filled T1 (w.alloc (.cells (madeCells #[.string ⟨#[]⟩, .slice none 0 0] (n * 2)) T1)) w.heap.size n n (List.replicate n (OfV.mk ⟨#[]⟩ (.slice none 0 0))) := by
    refine ⟨madeCells #[.string ⟨#[]⟩, .slice none 0 0] (n * 2), heap_alloc_new w _, by rw [size_madeCells]; rfl, fun i hi hin => ⟨[.string ⟨#[]⟩, .slice none 0 0], ⟨by rw [List.getElem_replicate], by rw [List.getElem_replicate]; exact Nat.zero_le _, by rw [List.getElem_replicate]; rfl⟩, fun j u hu => ?_⟩⟩
    obtain ⟨m1, m2⟩ := madeCells2 (.string ⟨#[]⟩) (.slice none 0 0) n i (by simpa using hi)
    match j, hu with
    | 0, hu => simp at hu; subst hu; exact m1
    | 1, hu => simp at hu; subst hu; exact m2
    | j + 2, hu => simp at hu
  refine ⟨List.replicate n (OfV.mk ⟨#[]⟩ (.slice none 0 0)), hf.own (by simp) hb hn, by simp, fun k h h' => ?_, fun j k hj hk _ => .inl ?_, fun k h => .inl ?_⟩
  · simp only [List.getElem_replicate]; exact ⟨rfl, own.nil_ _ _ _⟩
  · simp only [List.getElem_replicate]; rfl
  · simp only [List.getElem_replicate]; rfl

/-- The first k offices laid, the others empty. -/
def laidN (net : List Ofc) (k : Nat) : List Ofc := net.take k ++ List.replicate (net.length - k) noOfc
theorem laidN_len {net : List Ofc} {k : Nat} (h : k ≤ net.length) : (laidN net k).length = net.length := by
  simp [laidN]; omega
theorem laidN_step {net : List Ofc} {k : Nat} (h : k < net.length) : (laidN net k).set k net[k] = laidN net (k + 1) := by
  unfold laidN
  have hl : (net.take k).length = k := by rw [List.length_take]; omega
  rw [List.set_append_right _ _ (by omega), hl, Nat.sub_self, show net.length - k = (net.length - (k + 1)) + 1 by omega, List.replicate_succ, List.set_cons_zero, List.take_succ_eq_append_getElem h, List.append_assoc]
  rfl
theorem laidN_all (net : List Ofc) : laidN net net.length = net := by simp [laidN]
theorem laidN_nil (net : List Ofc) : laidN net 0 = List.replicate net.length noOfc := by simp [laidN]

end Go.Proofs.YtpinkbodbedajaaGreatDoor

namespace Go.Proofs.YtpinkbodbedajaaGreatDoor
open Go.RowKit

theorem sHere (s : ByteArray) : sEq s hereW = (s.toList == [104, 101, 114, 101]) := by
  unfold sEq
  rw [ByteArray.toList_eq hereW]
  rfl
theorem offI_ge (net : List Ofc) (k : Nat) (c : ByteArray) {r : Int} (h : offI (net.take k) c = r) : (net.take k).all (fun y => !sEq y.name c) = !decide (0 ≤ r) := by
  have := fiI_ge (fun y : Ofc => sEq y.name c) (net.take k)
  rw [← h]
  unfold offI
  rw [this, Bool.not_not]
theorem offI_is {net : List Ofc} {k : Nat} (h : k < net.length) : (offI net net[k].name == (k : Int)) = (net.take k).all (fun y => !sEq y.name net[k].name) :=
  fiI_self (p := fun y : Ofc => sEq y.name net[k].name) h (sEq_refl _)

set_option maxHeartbeats 400000 in
theorem impl_officeOf (v : Value) (fs : List Ofc) (c : ByteArray) (w : World) (hv : rd w w.heap.size v fs) :
    Calls Tryz.prog 83 #[v, .string c] w fun e w' => e = .returned (.int .i64 (offI fs c)) ∧ Below w.heap.size w w' := by
  obtain ⟨A, n, cp, rfl, hn, hc, hm, hr⟩ := hv
  subst hn
  unfold maxLen at hm
  have HR := Lib.hid hr; clear hr
  have l0 := Below.refl w.heap.size w
  go_enter Tryz.func83, Tryz.ntmps83
  go_wp2
  go_loopw [9] (fun i wr => ∃ k : Nat, k ≤ fs.length ∧ i = .int .i64 k ∧ Below w.heap.size w wr ∧ Hid (∀ j (h : j < fs.length), j < k → sEq fs[j].name c = false)) (fun i _ => fs.length - (intOf i).toNat)
  case atStart => exact ⟨0, Nat.zero_le _, rfl, l0, fun j _ hj => absurd hj (Nat.not_lt_zero j)⟩
  case round =>
    obtain ⟨k, hk, rfl, lr, HG⟩ := hrel
    obtain ⟨w1, rfl⟩ : ∃ w1 : World, w1 = wr := ⟨_, rfl⟩
    by_cases hlt : k < fs.length
    · obtain ⟨b, o, A2, k2, rfl, hb, hok, hu, c1, c2⟩ := HR.out.ofcU k hlt
      have HX : Hid (∀ h : sEq fs[k].name c = false, ∀ j (h1 : j < fs.length), j < k + 1 → sEq fs[j].name c = false) := fun h j h1 hj => by
        by_cases hjk : j < k
        · exact HG.out j h1 hjk
        · obtain rfl : j = k := by omega
          exact h
      have HY : Hid (∀ h : sEq fs[k].name c = true, offI fs c = k) := fun h => fiI_at hlt (fun j hj hjk => HG.out j hj hjk) h
      clear hu
      generalize fs[k] = x at *
      cases he : sEq x.name c
      · have he' := Lib.hid he
        have hq : (x.name.toList == c.toList) = false := he
        clear he
        go_wp2
        go_roundw
        case rel => exact ⟨k + 1, by omega, by go_num, later_alloc lr _, HX.out he'.out⟩
        case measure => simp [intOf]; omega
      · have he' := Lib.hid he
        have hq : (x.name.toList == c.toList) = true := he
        clear he
        go_wp2
        go_ret
        exact ⟨ret_int (HY.out he'.out).symm, later_alloc lr _⟩
    · have HE : Hid (offI fs c = -1) := fiI_none fun j hj => HG.out j hj (by omega)
      go_wp2
      go_ret
      exact ⟨ret_int HE.out.symm, lr⟩

set_option maxHeartbeats 400000 in
theorem spec_l6Office (v : Value) (fs : List Ofc) (c : ByteArray) (w : World) (hv : rd w w.heap.size v fs) :
    Calls Tryz.prog 87 #[v, .string c] w fun e w' => e = .returned (.int .i64 (offI fs c)) ∧ w = w' := by
  obtain ⟨A, n, cp, rfl, hn, hc, hm, hr⟩ := hv
  subst hn
  unfold maxLen at hm
  have HR := Lib.hid hr; clear hr
  have l0 := Below.refl w.heap.size w
  go_enter Tryz.func87, Tryz.ntmps87
  go_wp2
  go_loop [5] (fun i => ∃ k : Nat, k ≤ fs.length ∧ i = .int .i64 k ∧ Hid (∀ j (h : j < fs.length), j < k → sEq fs[j].name c = false)) (fun i => fs.length - (intOf i).toNat)
  case atStart => exact ⟨0, Nat.zero_le _, rfl, fun j _ hj => absurd hj (Nat.not_lt_zero j)⟩
  case round =>
    obtain ⟨k, hk, rfl, HG⟩ := hrel
    by_cases hlt : k < fs.length
    · obtain ⟨b, o, A2, k2, rfl, hb, hok, hu, c1, c2⟩ := HR.out.ofcU k hlt
      have HX : Hid (∀ h : sEq fs[k].name c = false, ∀ j (h1 : j < fs.length), j < k + 1 → sEq fs[j].name c = false) := fun h j h1 hj => by
        by_cases hjk : j < k
        · exact HG.out j h1 hjk
        · obtain rfl : j = k := by omega
          exact h
      have HY : Hid (∀ h : sEq fs[k].name c = true, offI fs c = k) := fun h => fiI_at hlt (fun j hj hjk => HG.out j hj hjk) h
      clear hu
      generalize fs[k] = x at *
      cases he : sEq x.name c
      · have he' := Lib.hid he
        have hq : (x.name.toList == c.toList) = false := he
        clear he
        go_wp2
        go_round
        case rel => exact ⟨k + 1, by omega, by go_num, HX.out he'.out⟩
        case measure => simp [intOf]; omega
      · have he' := Lib.hid he
        have hq : (x.name.toList == c.toList) = true := he
        clear he
        go_wp2
        go_ret
        exact ⟨ret_int (HY.out he'.out).symm, rfl⟩
    · have HE : Hid (offI fs c = -1) := fiI_none fun j hj => HG.out j hj (by omega)
      go_wp2
      go_ret
      exact ⟨ret_int HE.out.symm, rfl⟩

set_option maxRecDepth 100000 in
set_option maxHeartbeats 1600000 in
theorem spec_NetworkValid (v : Value) (net : List Ofc) (w : World) (hv : rd w w.heap.size v net) :
    Calls Tryz.prog 86 #[v] w fun e w' => e = .returned (.bool (netOk net)) ∧ w = w' := by
  obtain ⟨A, n, cp, rfl, hn, hc, hm, hr⟩ := hv
  have hv0 := Lib.hid (show rd w w.heap.size (.slice A n cp) net from ⟨A, n, cp, rfl, hn, hc, hm, hr⟩)
  subst hn
  unfold maxLen at hm
  have HR := Lib.hid hr; clear hr
  have l0 := Below.refl w.heap.size w
  go_enter Tryz.func86, Tryz.ntmps86
  go_wp2
  go_loop [3] (fun i => ∃ k : Nat, k ≤ net.length ∧ i = .int .i64 k ∧ Hid (∀ j, j < k → goodO net j = true)) (fun i => net.length - (intOf i).toNat)
  case atStart => exact ⟨0, Nat.zero_le _, rfl, fun j hj => absurd hj (Nat.not_lt_zero j)⟩
  case round =>
    obtain ⟨k, hk, rfl, HG⟩ := hrel
    by_cases hlt : k < net.length
    · obtain ⟨b, o, A2, k2, rfl, hb, hok, hu, c1, c2⟩ := HR.out.ofcU k hlt
      have hG := Lib.hid (goodO_of hlt)
      have hS := Lib.hid (offI_is hlt)
      have hbad := Lib.hid (fun h => netOk_bad hlt h)
      generalize net[k] = x at *
      have HU := Lib.hid hu; clear hu
      have hki : (k : Int) < (net.length : Int) := by omega
      go_wp2_with fail
      refine (spec_l6Name x.name _ hok).mono ?_
      rintro e w1 ⟨rfl, rfl⟩
      cases h1 : isName x.name
      · have H1 := Lib.hid h1; clear h1
        go_wp2_with fail
        go_ret
        exact ⟨ret_bool (hbad.out (by rw [hG.out, H1.out]; rfl)).symm, rfl⟩
      have H1 := Lib.hid h1; clear h1
      cases h2 : sEq x.name hereW
      case true =>
        have H2 := Lib.hid h2
        rw [sHere] at h2
        go_wp2_with fail
        go_ret
        exact ⟨ret_bool (hbad.out (by rw [hG.out, H1.out, H2.out]; rfl)).symm, rfl⟩
      have H2 := Lib.hid h2
      rw [sHere] at h2
      obtain ⟨r, HRR⟩ : ∃ r, Hid (offI net x.name = r) := ⟨_, rfl⟩
      go_wp2_with fail
      refine (spec_l6Office _ net x.name _ hv0.out).mono ?_
      rw [HRR.out]
      rintro e w1 ⟨rfl, rfl⟩
      cases h3 : (r == (k : Int))
      · have H3 := Lib.hid h3
        have h3' : (r != (k : Int)) = true := by rw [bne, h3]; rfl
        clear h3
        go_wp2_with fail
        go_ret
        exact ⟨ret_bool (hbad.out (by rw [hG.out, ← hS.out, HRR.out, H3.out]; simp)).symm, rfl⟩
      have H3 := Lib.hid h3
      have h3' : (r != (k : Int)) = false := by rw [bne, h3]; rfl
      clear h3
      go_wp2_with fail
      refine (spec_RulesValid _ x.rules _ HU.out).mono ?_
      rintro e w1 ⟨rfl, rfl⟩
      cases h4 : rulesOk x.rules
      · have H4 := Lib.hid h4; clear h4
        go_wp2_with fail
        go_ret
        exact ⟨ret_bool (hbad.out (by rw [hG.out, H4.out]; simp)).symm, rfl⟩
      have H4 := Lib.hid h4; clear h4
      have hrl := (rulesOk_iff.1 H4.out).1
      have HGD : Hid (∀ b, x.rules.all (goodN net) = b → goodO net k = b) := fun b hb => by rw [hG.out, H1.out, H2.out, ← hS.out, HRR.out, H3.out, H4.out, hb]; rfl
      obtain ⟨A2', n2', c2', e2, _, _, hmm2, hr2⟩ := HU.out
      injection e2 with e21 e22 e23
      subst e21 e22 e23
      have HUR := Lib.hid hr2; clear hr2
      go_wp2_with fail
      go_loop [4] (fun i => ∃ m : Nat, m ≤ x.rules.length ∧ i = .int .i64 m ∧ Hid ((x.rules.take m).all (goodN net) = true)) (fun i => x.rules.length - (intOf i).toNat)
      case atStart => exact ⟨0, Nat.zero_le _, rfl, rfl⟩
      case round =>
        obtain ⟨m, hm', rfl, HA⟩ := hrel
        by_cases hmt : m < x.rules.length
        · obtain ⟨b', o', rfl, hb', ⟨ok1, ok2⟩, d1, d2⟩ := HUR.out.fwdU m hmt
          have hT := Lib.hid (take_all_succ (p := goodN net) x.rules m hmt)
          have hI : Hid (goodN net x.rules[m] = false → x.rules.all (goodN net) = false) := fun h => List.all_eq_false.2 ⟨_, List.getElem_mem hmt, by simp [h]⟩
          generalize x.rules[m] = y at *
          have hmi : (m : Int) < (x.rules.length : Int) := by omega
          cases h5 : sEq y.dst hereW
          case true =>
            have H5 := Lib.hid h5
            rw [sHere] at h5
            go_wp2_with fail
            go_round
            case rel => exact ⟨m + 1, by omega, by go_num, by show _ = true; rw [hT.out, HA.out]; unfold goodN; rw [H5.out]; rfl⟩
            case measure => simp [intOf]; omega
          have H5 := Lib.hid h5
          rw [sHere] at h5
          obtain ⟨q, HQQ⟩ : ∃ q, Hid (offI net y.dst = q) := ⟨_, rfl⟩
          go_wp2_with fail
          refine (spec_l6Office _ net y.dst _ hv0.out).mono ?_
          rw [HQQ.out]
          rintro e w1 ⟨rfl, rfl⟩
          by_cases hq : q < 0
          · have H6 : Hid (goodN net y = false) := by show _ = _; unfold goodN; rw [H5.out, HQQ.out, decide_eq_false (by omega)]; rfl
            go_wp2_with fail
            go_ret
            exact ⟨ret_bool (hbad.out (HGD.out _ (hI.out H6.out))).symm, rfl⟩
          · have H6 : Hid (goodN net y = true) := by show _ = _; unfold goodN; rw [H5.out, HQQ.out, decide_eq_true (by omega)]; rfl
            go_wp2_with fail
            go_round
            case rel => exact ⟨m + 1, by omega, by go_num, by show _ = true; rw [hT.out, HA.out, H6.out]; rfl⟩
            case measure => simp [intOf]; omega
        · have HE := Lib.hid (show m = x.rules.length by omega)
          have HA2 : Hid (x.rules.all (goodN net) = true) := by have := HA.out; rw [HE.out, List.take_length] at this; exact this
          go_wp2_with fail
          go_round
          case rel =>
            refine ⟨k + 1, by omega, by go_num, fun j hj => ?_⟩
            by_cases hjk : j < k
            · exact HG.out j hjk
            · obtain rfl : j = k := by omega
              exact HGD.out _ HA2.out
          case measure => simp [intOf]; omega
    · have HE := Lib.hid (show k = net.length by omega)
      have HN : Hid (netOk net = (decide (1 ≤ (net.length : Int)) && decide ((net.length : Int) ≤ 8))) := netOk_good (by rw [← HE.out]; exact HG.out)
      go_wp2_with fail
      refine (spec_l1In net.length 1 8 _).mono ?_
      rintro e w1 ⟨rfl, rfl⟩
      obtain ⟨r, hr⟩ : ∃ r, (decide (1 ≤ (net.length : Int)) && decide ((net.length : Int) ≤ 8)) = r := ⟨_, rfl⟩
      rw [hr] at HN ⊢
      clear hr
      go_wp2_with fail
      go_ret
      exact ⟨ret_bool HN.out.symm, rfl⟩

set_option maxRecDepth 100000 in
set_option maxHeartbeats 1600000 in
theorem impl_NetworkValid (v : Value) (net : List Ofc) (w : World) (hv : rd w w.heap.size v net) :
    Calls Tryz.prog 84 #[v] w fun e w' => e = .returned (.bool (netOk net)) ∧ Below w.heap.size w w' := by
  obtain ⟨A, n, cp, rfl, hn, hc, hm, hr⟩ := hv
  have hv0 := Lib.hid (show rd w w.heap.size (.slice A n cp) net from ⟨A, n, cp, rfl, hn, hc, hm, hr⟩)
  subst hn
  unfold maxLen at hm
  have HR := Lib.hid hr; clear hr
  have l0 := Below.refl w.heap.size w
  go_enter Tryz.func84, Tryz.ntmps84
  by_cases h1 : (net.length : Int) < 1
  · have HF := Lib.hid (netOk_len (net := net) (by omega))
    go_wp2
    go_ret
    exact ⟨ret_bool HF.out.symm, l0⟩
  by_cases h8 : (8 : Int) < (net.length : Int)
  · have HF := Lib.hid (netOk_len (net := net) (by omega))
    go_wp2
    go_ret
    exact ⟨ret_bool HF.out.symm, l0⟩
  have HL : Hid ((decide (1 ≤ (net.length : Int)) && decide ((net.length : Int) ≤ 8)) = true) := by show _ = _; rw [decide_eq_true (by omega), decide_eq_true (by omega)]; rfl
  have hl8 : net.length ≤ 8 := by omega
  go_wp2
  go_loopw [17] (fun i wr => ∃ k : Nat, k ≤ net.length ∧ i = .int .i64 k ∧ Below w.heap.size w wr ∧ Hid (∀ j, j < k → goodO net j = true)) (fun i _ => net.length - (intOf i).toNat)
  case atStart => exact ⟨0, Nat.zero_le _, rfl, l0, fun j hj => absurd hj (Nat.not_lt_zero j)⟩
  case round =>
    obtain ⟨k, hk, rfl, lr, HG⟩ := hrel
    obtain ⟨w1, rfl⟩ : ∃ w1 : World, w1 = wr := ⟨_, rfl⟩
    clear l0
    by_cases hlt : k < net.length
    · obtain ⟨b, o, A2, k2, rfl, hb, hok, hu, c1, c2⟩ := HR.out.ofcU k hlt
      have hG := Lib.hid (goodO_of hlt)
      have hbad := Lib.hid (fun h => netOk_bad hlt h)
      generalize net[k] = x at *
      have hki : (k : Int) < (net.length : Int) := by omega
      obtain ⟨wo, hwo⟩ : ∃ wo : World, wo = w1.alloc (Obj.cells #[.string x.name, .slice A2 x.rules.length k2] 102) := ⟨_, rfl⟩
      have lo : Below w.heap.size w wo := later_trans lr (box_later hwo).1
      have y0 := box_cells hwo 0 (.string x.name) rfl
      have y1 := box_cells hwo 1 (.slice A2 x.rules.length k2) rfl
      have lb := Below.refl wo.heap.size wo
      have hv1 := Lib.hid (hv0.out.on lo)
      have HU := Lib.hid (hu.on lo)
      have hbo : b < wo.heap.size := Nat.lt_of_lt_of_le hb lo.size
      have HWO := Lib.hid hwo; clear hwo hu
      cases h1 : isName x.name
      · have H1 := Lib.hid h1; clear h1
        have C1 := Lib.hid (fun w => nameI_is (w := w) hok H1.out)
        go_wp2
        rw [← HWO.out]
        go_quiet (first | (go_at_call 149; refine quiet_c (C1.out _)))
        go_wp2
        go_ret
        exact ⟨ret_bool (hbad.out (by rw [hG.out, H1.out]; rfl)).symm, below_drewN lo _⟩
      have H1 := Lib.hid h1; clear h1
      have C1 := Lib.hid (fun w => nameI_is (w := w) hok H1.out)
      cases h2 : sEq x.name hereW
      case true =>
        have H2 := Lib.hid h2
        rw [sHere] at h2
        go_wp2
        rw [← HWO.out]
        go_quiet (first | (go_at_call 149; refine quiet_c (C1.out _)))
        go_wp2
        go_ret
        exact ⟨ret_bool (hbad.out (by rw [hG.out, H1.out, H2.out]; rfl)).symm, below_drewN lo _⟩
      have H2 := Lib.hid h2
      rw [sHere] at h2
      obtain ⟨r, HRR⟩ : ∃ r, Hid (offI (net.take k) x.name = r) := ⟨_, rfl⟩
      have HGE := Lib.hid (offI_ge net k x.name HRR.out)
      have C3 : Hid (∀ W, Below wo.heap.size wo W → Calls Tryz.prog 83 #[.slice (some ⟨b, o, none⟩) k cp, .string x.name] W fun e w' => e = .returned (.int .i64 r) ∧ Below W.heap.size W w') := fun W hW => by
        have h := impl_officeOf (.slice (some ⟨b, o, none⟩) k cp) (net.take k) x.name W ((hv1.out.on hW).take hk)
        rw [HRR.out] at h
        exact h
      have ld := later_drew lb
      have hkc : k ≤ cp := by omega
      have hkci : (k : Int) ≤ (cp : Int) := by omega
      by_cases hr0 : 0 ≤ r
      · have HD := Lib.hid (decide_eq_true hr0)
        go_wp2
        rw [← HWO.out]
        go_region_held3 (fun W => Below wo.heap.size wo W) (first | exact ld | exact later_trans ld b3) (first | (go_at_call 149; refine (C1.out _).mono ?_; rintro e w' ⟨rfl, rfl⟩) | (go_at_call 83; refine (C3.out _ ld).mono ?_; rintro e w3 ⟨rfl, b3⟩))
        have l3 := later_trans lo (later_trans ld b3)
        go_wp2
        go_ret
        exact ⟨ret_bool (hbad.out (by rw [hG.out, HGE.out, HD.out]; simp)).symm, l3⟩
      · have HD := Lib.hid (decide_eq_false hr0)
        go_wp2
        rw [← HWO.out]
        go_region_held3 (fun W => Below wo.heap.size wo W) (first | exact ld | exact later_trans ld b3) (first | (go_at_call 149; refine (C1.out _).mono ?_; rintro e w' ⟨rfl, rfl⟩) | (go_at_call 83; refine (C3.out _ ld).mono ?_; rintro e w3 ⟨rfl, b3⟩))
        have l3 := later_trans ld b3
        clear C1 C3 ld b3
        go_wp2_with fail
        refine (impl_RulesValid _ x.rules _ (HU.out.on l3)).mono ?_
        rintro e w4 ⟨rfl, b4⟩
        have l4 := later_trans l3 b4
        clear b4 l3
        cases h4 : rulesOk x.rules
        · have H4 := Lib.hid h4; clear h4
          go_wp2_with fail
          go_ret
          exact ⟨ret_bool (hbad.out (by rw [hG.out, H4.out]; simp)).symm, later_trans lo l4⟩
        have H4 := Lib.hid h4; clear h4
        have hrl := (rulesOk_iff.1 H4.out).1
        have HGD : Hid (∀ b, x.rules.all (goodN net) = b → goodO net k = b) := fun b hb => by rw [hG.out, H1.out, H2.out, HGE.out, HD.out, H4.out, hb]; rfl
        obtain ⟨A2', n2', c2', e2, _, _, hmm2, hr2⟩ := HU.out
        injection e2 with e21 e22 e23
        subst e21 e22 e23
        have HUR := Lib.hid hr2; clear hr2
        go_wp2_with fail
        go_loopw [47] (fun i wi => ∃ m : Nat, m ≤ x.rules.length ∧ i = .int .i64 m ∧ Below wo.heap.size wo wi ∧ Hid ((x.rules.take m).all (goodN net) = true)) (fun i _ => x.rules.length - (intOf i).toNat)
        case atStart => exact ⟨0, Nat.zero_le _, rfl, l4, rfl⟩
        case round =>
          obtain ⟨m, hm', rfl, li, HA⟩ := hrel
          obtain ⟨w5, rfl⟩ : ∃ w5 : World, w5 = wr := ⟨_, rfl⟩
          clear l4
          by_cases hmt : m < x.rules.length
          · obtain ⟨b', o', rfl, hb', ⟨ok1, ok2⟩, d1, d2⟩ := HUR.out.fwdU m hmt
            have hT := Lib.hid (take_all_succ (p := goodN net) x.rules m hmt)
            have hI : Hid (goodN net x.rules[m] = false → x.rules.all (goodN net) = false) := fun h => List.all_eq_false.2 ⟨_, List.getElem_mem hmt, by simp [h]⟩
            generalize x.rules[m] = y at *
            have hmi : (m : Int) < (x.rules.length : Int) := by omega
            cases h5 : sEq y.dst hereW
            case true =>
              have H5 := Lib.hid h5
              rw [sHere] at h5
              go_wp2_with fail
              go_roundw
              case rel => exact ⟨m + 1, by omega, by go_num, later_alloc li _, by show _ = true; rw [hT.out, HA.out]; unfold goodN; rw [H5.out]; rfl⟩
              case measure => simp [intOf]; omega
            have H5 := Lib.hid h5
            rw [sHere] at h5
            obtain ⟨q, HQQ⟩ : ∃ q, Hid (offI net y.dst = q) := ⟨_, rfl⟩
            have lj := later_alloc li (Obj.cells #[.string y.src, .string y.dst] 174)
            go_wp2_with fail
            refine (impl_officeOf _ net y.dst _ (hv1.out.on lj)).mono ?_
            rw [HQQ.out]
            rintro e w6 ⟨rfl, b6⟩
            have l6 := later_trans lj b6
            by_cases hq : q < 0
            · have H6 : Hid (goodN net y = false) := by show _ = _; unfold goodN; rw [H5.out, HQQ.out, decide_eq_false (by omega)]; rfl
              go_wp2_with fail
              go_ret
              exact ⟨ret_bool (hbad.out (HGD.out _ (hI.out H6.out))).symm, later_trans lo l6⟩
            · have H6 : Hid (goodN net y = true) := by show _ = _; unfold goodN; rw [H5.out, HQQ.out, decide_eq_true (by omega)]; rfl
              go_wp2_with fail
              go_roundw
              case rel => exact ⟨m + 1, by omega, by go_num, l6, by show _ = true; rw [hT.out, HA.out, H6.out]; rfl⟩
              case measure => simp [intOf]; omega
          · have HE := Lib.hid (show m = x.rules.length by omega)
            have HA2 : Hid (x.rules.all (goodN net) = true) := by have := HA.out; rw [HE.out, List.take_length] at this; exact this
            go_wp2_with fail
            go_roundw
            case rel =>
              refine ⟨k + 1, by omega, by go_num, later_trans lo li, fun j hj => ?_⟩
              by_cases hjk : j < k
              · exact HG.out j hjk
              · obtain rfl : j = k := by omega
                exact HGD.out _ HA2.out
            case measure => simp [intOf]; omega
    · have HE := Lib.hid (show k = net.length by omega)
      have HN : Hid (netOk net = true) := by show _ = _; rw [netOk_good (by rw [← HE.out]; exact HG.out), HL.out]
      go_wp2_with fail
      go_ret
      exact ⟨ret_bool HN.out.symm, lr⟩

end Go.Proofs.YtpinkbodbedajaaGreatDoor

namespace Go.Proofs.YtpinkbodbedajaaGreatDoor
open Go.RowKit

theorem pre_short {c p : ByteArray} (h : ¬ p.size ≤ c.size) : pre c p = false := by unfold pre; rw [decide_eq_false h]; rfl
theorem pre_long {c p : ByteArray} (h : p.size ≤ c.size) {b : Bool} (hb : sEq (c.extract 0 p.size) p = b) : pre c p = b := by unfold pre; rw [decide_eq_true h, hb]; rfl

theorem lite_HasPrefix (c p : ByteArray) (w : World) (hc : c.size ≤ maxLen) (hp : p.size ≤ maxLen) :
    Calls Tryz.prog 263 #[.string c, .string p] w fun e w' => e = .returned (.bool (pre c p)) ∧ w = w' := by
  unfold maxLen at hc hp
  go_enter Tryz.func263, Tryz.ntmps263
  by_cases h : p.size ≤ c.size
  · have h' : (p.size : Int) ≤ (c.size : Int) := by omega
    cases hb : sEq (c.extract 0 p.size) p
    · have HB := Lib.hid (pre_long h hb)
      unfold sEq at hb
      go_wp2
      go_ret
      exact ⟨ret_bool HB.out.symm, rfl⟩
    · have HB := Lib.hid (pre_long h hb)
      unfold sEq at hb
      go_wp2
      go_ret
      exact ⟨ret_bool HB.out.symm, rfl⟩
  · have h' : ¬ (p.size : Int) ≤ (c.size : Int) := by omega
    have HB := Lib.hid (pre_short h)
    go_wp2
    go_ret
    exact ⟨ret_bool HB.out.symm, rfl⟩
theorem strings_HasPrefix (c p : ByteArray) (w : World) (hc : c.size ≤ maxLen) (hp : p.size ≤ maxLen) :
    Calls Tryz.prog 225 #[.string c, .string p] w fun e w' => e = .returned (.bool (pre c p)) ∧ w = w' := by
  go_enter Tryz.func225, Tryz.ntmps225
  go_wp2_with fail
  refine (lite_HasPrefix c p _ hc hp).mono ?_
  rintro e w1 ⟨rfl, rfl⟩
  obtain ⟨r, HR⟩ : ∃ r, Hid (pre c p = r) := ⟨_, rfl⟩
  rw [HR.out]
  go_wp2_with fail
  go_ret
  exact ⟨ret_bool HR.out.symm, rfl⟩
theorem spec_l2Begins (c p : ByteArray) (w : World) (hc : c.size ≤ maxLen) (hp : p.size ≤ maxLen) :
    Calls Tryz.prog 262 #[.string c, .string p] w fun e w' => e = .returned (.bool (pre c p)) ∧ w = w' := by
  unfold maxLen at hc hp
  go_enter Tryz.func262, Tryz.ntmps262
  by_cases h : p.size ≤ c.size
  · have h' : (p.size : Int) ≤ (c.size : Int) := by omega
    cases hb : sEq (c.extract 0 p.size) p
    · have HB := Lib.hid (pre_long h hb)
      unfold sEq at hb
      go_wp2
      go_ret
      exact ⟨ret_bool HB.out.symm, rfl⟩
    · have HB := Lib.hid (pre_long h hb)
      unfold sEq at hb
      go_wp2
      go_ret
      exact ⟨ret_bool HB.out.symm, rfl⟩
  · have h' : ¬ (p.size : Int) ≤ (c.size : Int) := by omega
    have HB := Lib.hid (pre_short h)
    go_wp2
    go_ret
    exact ⟨ret_bool HB.out.symm, rfl⟩

set_option maxRecDepth 100000 in
set_option maxHeartbeats 1600000 in
theorem impl_longestRule (v : Value) (rs : List Fwd) (c : ByteArray) (w : World) (hv : rd w w.heap.size v rs) (hcz : c.size ≤ maxLen) :
    Calls Tryz.prog 221 #[v, .string c, .int .i64 (-1)] w fun e w' => e = .returned (.int .i64 (bestI rs c)) ∧ Below w.heap.size w w' := by
  obtain ⟨A, n, cp, rfl, hn, hc, hm, hr⟩ := hv
  subst hn
  unfold maxLen at hm
  have HR := Lib.hid hr; clear hr
  have l0 := Below.refl w.heap.size w
  go_enter Tryz.func221, Tryz.ntmps221
  go_wp2
  go_loopw [7, 12] (fun t i wr => ∃ k : Nat, k ≤ rs.length ∧ i = .int .i64 k ∧ t = .int .i64 (bestN rs c k) ∧ Below w.heap.size w wr) (fun _ i _ => rs.length - (intOf i).toNat)
  case atStart => exact ⟨0, Nat.zero_le _, rfl, rfl, l0⟩
  case round =>
    obtain ⟨k, hk, rfl, rfl, lr⟩ := hrel
    obtain ⟨w1, rfl⟩ : ∃ w1 : World, w1 = wr := ⟨_, rfl⟩
    clear l0
    have hbr := bestN_range rs c k
    obtain ⟨q, hq⟩ : ∃ q, bestN rs c k = q := ⟨_, rfl⟩
    rw [hq] at hbr
    have HQ := Lib.hid hq
    rw [HQ.out]
    clear hq
    by_cases hlt : k < rs.length
    · obtain ⟨b, o, rfl, hb, ⟨ok1, ok2⟩, y1, y2⟩ := HR.out.fwdU k hlt
      have HM := Lib.hid (fun h => bestN_miss (c := c) hlt HQ.out h)
      have HT := Lib.hid (fun h h' => bestN_take (c := c) hlt h h')
      have HKP := Lib.hid (fun (u : Nat) (hu : u < rs.length) (e : q = u) (h : ¬ rs[u].src.size < rs[k].src.size) => bestN_keep (c := c) hlt hu (HQ.out.trans e) h)
      generalize hxe : rs[k] = x at *
      have HXE := Lib.hid hxe; clear hxe
      have ok1z := ok1
      unfold maxLen at ok1
      obtain ⟨wo, hwo⟩ : ∃ wo : World, wo = w1.alloc (Obj.cells #[.string x.src, .string x.dst] 174) := ⟨_, rfl⟩
      have lo : Below w.heap.size w wo := later_trans lr (box_later hwo).1
      have z0 := box_cells hwo 0 (.string x.src) rfl
      have z1 := box_cells hwo 1 (.string x.dst) rfl
      have lb := Below.refl wo.heap.size wo
      have HWO := Lib.hid hwo; clear hwo
      have hkn : ((k : Int) == -1) = false := by simp
      go_wp2_with fail
      rw [← HWO.out]
      refine (strings_HasPrefix c x.src _ hcz ok1z).mono ?_
      rintro e w2 ⟨rfl, rfl⟩
      cases hp : pre c x.src
      · have HP := Lib.hid hp; clear hp
        go_wp2_with fail
        go_roundw
        case rel => exact ⟨k + 1, by omega, by go_num, by rw [HM.out HP.out], lo⟩
        case measure => simp [intOf]; omega
      have HP := Lib.hid hp; clear hp
      by_cases hneg : q < 0
      · have hnegb : decide (q < 0) = true := decide_eq_true hneg
        have HNG := Lib.hid hneg
        go_wp2
        go_quiet (fail)
        go_wp2
        go_roundw
        case rel => exact ⟨k + 1, by omega, by go_num, by rw [HT.out HP.out (.inl (by rw [HQ.out]; exact HNG.out))], below_drewN lo _⟩
        case measure => simp [intOf]; omega
      obtain ⟨u, hu⟩ := Int.eq_ofNat_of_zero_le (show 0 ≤ q by omega)
      have hul : u < rs.length := by omega
      obtain ⟨b', o', hA, _, ⟨ok1', _⟩, d1, d2⟩ := HR.out.fwdU u hul
      injection hA with hA
      injection hA with hA1 hA2
      subst hA1 hA2
      subst hu
      have HT2 : Hid (rs[u].src.size < x.src.size → bestN rs c (k + 1) = k) := fun h => HT.out HP.out (.inr ⟨u, hul, HQ.out, h⟩)
      have HK2 := Lib.hid (HKP.out u hul rfl)
      clear HT HKP HM
      generalize rs[u] = y at *
      unfold maxLen at ok1'
      have hui : (u : Int) < (rs.length : Int) := by omega
      have hnegb : decide ((u : Int) < 0) = false := decide_eq_false (by omega)
      by_cases hs : y.src.size < x.src.size
      · have hs' : (y.src.size : Int) < (x.src.size : Int) := by omega
        have HS := Lib.hid hs
        go_wp2
        go_quiet (fail)
        go_wp2
        go_roundw
        case rel => exact ⟨k + 1, by omega, by go_num, by rw [HT2.out HS.out], below_drewN lo _⟩
        case measure => simp [intOf]; omega
      · have hs' : ¬ (y.src.size : Int) < (x.src.size : Int) := by omega
        have HS := Lib.hid hs
        go_wp2
        go_quiet (fail)
        go_wp2
        go_roundw
        case rel => exact ⟨k + 1, by omega, by go_num, by rw [HK2.out HS.out], below_drewN lo _⟩
        case measure => simp [intOf]; omega
    · have HE : Hid (bestI rs c = q) := by show _ = _; rw [← HQ.out, show k = rs.length by omega]; rfl
      go_wp2_with fail
      go_ret
      exact ⟨ret_int HE.out.symm, lr⟩

theorem beginsS_is {c p : ByteArray} {r : Bool} {w : World} (hc : c.size ≤ maxLen) (hp : p.size ≤ maxLen) (h : pre c p = r) : Calls Tryz.prog 262 #[.string c, .string p] w fun e w' => e = .returned (.bool r) ∧ w = w' := by
  rw [← h]; exact spec_l2Begins c p w hc hp
set_option maxRecDepth 100000 in
set_option maxHeartbeats 1600000 in
theorem spec_l6Best (v : Value) (rs : List Fwd) (c : ByteArray) (w : World) (hv : rd w w.heap.size v rs) (hcz : c.size ≤ maxLen) :
    Calls Tryz.prog 224 #[v, .string c] w fun e w' => e = .returned (.int .i64 (bestI rs c)) ∧ Below w.heap.size w w' := by
  obtain ⟨A, n, cp, rfl, hn, hc, hm, hr⟩ := hv
  subst hn
  unfold maxLen at hm
  have HR := Lib.hid hr; clear hr
  have l0 := Below.refl w.heap.size w
  go_enter Tryz.func224, Tryz.ntmps224
  go_wp2
  go_loopw [5, 6] (fun t i wr => ∃ k : Nat, k ≤ rs.length ∧ i = .int .i64 k ∧ t = .int .i64 (bestN rs c k) ∧ Below w.heap.size w wr) (fun _ i _ => rs.length - (intOf i).toNat)
  case atStart => exact ⟨0, Nat.zero_le _, rfl, rfl, l0⟩
  case round =>
    obtain ⟨k, hk, rfl, rfl, lr⟩ := hrel
    obtain ⟨w1, rfl⟩ : ∃ w1 : World, w1 = wr := ⟨_, rfl⟩
    clear l0
    have hbr := bestN_range rs c k
    obtain ⟨q, hq⟩ : ∃ q, bestN rs c k = q := ⟨_, rfl⟩
    rw [hq] at hbr
    have HQ := Lib.hid hq
    rw [HQ.out]
    clear hq
    by_cases hlt : k < rs.length
    · obtain ⟨b, o, rfl, hb, ⟨ok1, ok2⟩, y1, y2⟩ := HR.out.fwdU k hlt
      have HM := Lib.hid (fun h => bestN_miss (c := c) hlt HQ.out h)
      have HT := Lib.hid (fun h h' => bestN_take (c := c) hlt h h')
      have HKP := Lib.hid (fun (u : Nat) (hu : u < rs.length) (e : q = u) (h : ¬ rs[u].src.size < rs[k].src.size) => bestN_keep (c := c) hlt hu (HQ.out.trans e) h)
      generalize hxe : rs[k] = x at *
      have HXE := Lib.hid hxe; clear hxe
      have ok1z := ok1
      unfold maxLen at ok1
      have hki : (k : Int) < (rs.length : Int) := by omega
      cases hp : pre c x.src
      · have HP := Lib.hid hp; clear hp
        have CB := Lib.hid (fun w => beginsS_is (w := w) hcz ok1z HP.out)
        go_wp2
        go_quiet (first | (go_at_call 262; refine quiet_c (CB.out _)))
        go_wp2
        go_roundw
        case rel => exact ⟨k + 1, by omega, by go_num, by rw [HM.out HP.out], below_drewN lr _⟩
        case measure => simp [intOf]; omega
      have HP := Lib.hid hp; clear hp
      have CB := Lib.hid (fun w => beginsS_is (w := w) hcz ok1z HP.out)
      by_cases hneg : q < 0
      · have hnegb : decide (q < 0) = true := decide_eq_true hneg
        have HNG := Lib.hid hneg
        go_wp2
        go_quiet (first | (go_at_call 262; refine quiet_c (CB.out _)))
        go_wp2
        go_roundw
        case rel => exact ⟨k + 1, by omega, by go_num, by rw [HT.out HP.out (.inl (by rw [HQ.out]; exact HNG.out))], below_drewN lr _⟩
        case measure => simp [intOf]; omega
      obtain ⟨u, hu⟩ := Int.eq_ofNat_of_zero_le (show 0 ≤ q by omega)
      have hul : u < rs.length := by omega
      obtain ⟨b', o', hA, _, ⟨ok1', _⟩, d1, d2⟩ := HR.out.fwdU u hul
      injection hA with hA
      injection hA with hA1 hA2
      subst hA1 hA2
      subst hu
      have HT2 : Hid (rs[u].src.size < x.src.size → bestN rs c (k + 1) = k) := fun h => HT.out HP.out (.inr ⟨u, hul, HQ.out, h⟩)
      have HK2 := Lib.hid (HKP.out u hul rfl)
      clear HT HKP HM
      generalize rs[u] = y at *
      unfold maxLen at ok1'
      have hui : (u : Int) < (rs.length : Int) := by omega
      have hnegb : decide ((u : Int) < 0) = false := decide_eq_false (by omega)
      by_cases hs : y.src.size < x.src.size
      · have hs' : (y.src.size : Int) < (x.src.size : Int) := by omega
        have HS := Lib.hid hs
        go_wp2
        go_quiet (first | (go_at_call 262; refine quiet_c (CB.out _)))
        go_wp2
        go_roundw
        case rel => exact ⟨k + 1, by omega, by go_num, by rw [HT2.out HS.out], below_drewN lr _⟩
        case measure => simp [intOf]; omega
      · have hs' : ¬ (y.src.size : Int) < (x.src.size : Int) := by omega
        have HS := Lib.hid hs
        go_wp2
        go_quiet (first | (go_at_call 262; refine quiet_c (CB.out _)))
        go_wp2
        go_roundw
        case rel => exact ⟨k + 1, by omega, by go_num, by rw [HK2.out HS.out], below_drewN lr _⟩
        case measure => simp [intOf]; omega
    · have HE : Hid (bestI rs c = q) := by show _ = _; rw [← HQ.out, show k = rs.length by omega]; rfl
      go_wp2_with fail
      go_ret
      exact ⟨ret_int HE.out.symm, lr⟩

theorem impl_nextOf (v : Value) (rs : List Fwd) (c : ByteArray) (w : World) (hv : rd w w.heap.size v rs) (hcz : c.size ≤ maxLen) :
    Calls Tryz.prog 151 #[v, .string c] w fun e w' => e = .returned (.tuple #[.string (nextS rs c), .bool (decide (0 ≤ bestI rs c))]) ∧ Below w.heap.size w w' := by
  obtain ⟨A, n, cp, rfl, hn, hc, hm, hr⟩ := hv
  have hv0 := Lib.hid (show rd w w.heap.size (.slice A n cp) rs from ⟨A, n, cp, rfl, hn, hc, hm, hr⟩)
  subst hn
  unfold maxLen at hm
  have HR := Lib.hid hr; clear hr
  have hbr := bestN_range rs c rs.length
  obtain ⟨q, hq⟩ : ∃ q, bestI rs c = q := ⟨_, rfl⟩
  have hq' : bestN rs c rs.length = q := hq
  rw [hq'] at hbr
  have HQ := Lib.hid hq; clear hq hq'
  rw [HQ.out]
  go_enter Tryz.func151, Tryz.ntmps151
  go_wp2_with fail
  refine (impl_longestRule _ rs c _ hv0.out hcz).mono ?_
  rw [HQ.out]
  rintro e w1 ⟨rfl, b1⟩
  by_cases hneg : q < 0
  · have HS : Hid (nextS rs c = ⟨#[]⟩) := nextS_none (by rw [HQ.out]; exact hneg)
    have HD : Hid (decide (0 ≤ q) = false) := decide_eq_false (by omega)
    go_wp2_with fail
    go_ret2
    exact ⟨ret_tup (by rw [HS.out, HD.out] <;> rfl), b1⟩
  · obtain ⟨u, hu⟩ := Int.eq_ofNat_of_zero_le (show 0 ≤ q by omega)
    subst hu
    have hul : u < rs.length := by omega
    obtain ⟨b, o, rfl, hb, ⟨ok1, ok2⟩, y1, y2⟩ := HR.out.fwdU u hul
    have HS := Lib.hid (nextS_at HQ.out hul)
    have HD : Hid (decide (0 ≤ (u : Int)) = true) := decide_eq_true (by omega)
    generalize rs[u] = y at *
    have hui : (u : Int) < (rs.length : Int) := by omega
    go_wp2_with fail
    go_ret2
    exact ⟨ret_tup (by rw [HS.out, HD.out] <;> rfl), b1⟩
theorem spec_l6Next (v : Value) (rs : List Fwd) (c : ByteArray) (w : World) (hv : rd w w.heap.size v rs) (hcz : c.size ≤ maxLen) :
    Calls Tryz.prog 156 #[v, .string c] w fun e w' => e = .returned (.string (nextS rs c)) ∧ Below w.heap.size w w' := by
  obtain ⟨A, n, cp, rfl, hn, hc, hm, hr⟩ := hv
  have hv0 := Lib.hid (show rd w w.heap.size (.slice A n cp) rs from ⟨A, n, cp, rfl, hn, hc, hm, hr⟩)
  subst hn
  unfold maxLen at hm
  have HR := Lib.hid hr; clear hr
  have lr := Below.refl w.heap.size w
  have hbr := bestN_range rs c rs.length
  obtain ⟨q, hq⟩ : ∃ q, bestI rs c = q := ⟨_, rfl⟩
  have hq' : bestN rs c rs.length = q := hq
  rw [hq'] at hbr
  have HQ := Lib.hid hq; clear hq hq'
  go_enter Tryz.func156, Tryz.ntmps156
  go_wp2_with fail
  refine (spec_l6Best _ rs c _ hv0.out hcz).mono ?_
  rw [HQ.out]
  rintro e w1 ⟨rfl, b1⟩
  by_cases hneg : q < 0
  · have HS : Hid (nextS rs c = ⟨#[]⟩) := nextS_none (by rw [HQ.out]; exact hneg)
    go_wp2_with fail
    go_ret
    exact ⟨ret_str HS.out.symm, b1⟩
  · obtain ⟨u, hu⟩ := Int.eq_ofNat_of_zero_le (show 0 ≤ q by omega)
    subst hu
    have hul : u < rs.length := by omega
    obtain ⟨b, o, rfl, hb, ⟨ok1, ok2⟩, y1, y2⟩ := HR.out.fwdU u hul
    have HS := Lib.hid (nextS_at HQ.out hul)
    generalize rs[u] = y at *
    have hui : (u : Int) < (rs.length : Int) := by omega
    go_wp2_with fail
    go_ret
    exact ⟨ret_str HS.out.symm, b1⟩

end Go.Proofs.YtpinkbodbedajaaGreatDoor

namespace Go.Proofs.YtpinkbodbedajaaGreatDoor
open Go.RowKit

set_option maxHeartbeats 400000 in
theorem impl_BatchValid (v : Value) (xs : List Ltr) (w : World) (hv : rd w w.heap.size v xs) :
    Calls Tryz.prog 48 #[v] w fun e w' => e = .returned (.bool (okB xs)) ∧ Below w.heap.size w w' := by
  obtain ⟨A, n, c, rfl, hn, hc, hm, hr⟩ := hv
  subst hn
  unfold maxLen at hm
  have HR := Lib.hid hr; clear hr
  go_enter Tryz.func48, Tryz.ntmps48
  by_cases h60 : 60 < xs.length
  · go_wp2
    go_ret
    exact ⟨ret_bool (by unfold okB; simp; omega), Below.refl _ _⟩
  · go_wp2
    go_loopw [12] (fun i wr => ∃ k : Nat, k ≤ xs.length ∧ i = .int .i64 k ∧ Below w.heap.size w wr ∧ Hid (∀ j, j < k → goodL xs j = true)) (fun i _ => xs.length - (intOf i).toNat)
    case atStart => exact ⟨0, Nat.zero_le _, rfl, Below.refl _ _, fun j hj => absurd hj (Nat.not_lt_zero j)⟩
    case round =>
      obtain ⟨k, hk, rfl, hbl, HG⟩ := hrel
      obtain ⟨w1, rfl⟩ : ∃ w1 : World, w1 = wr := ⟨_, rfl⟩
      have hsz := hbl.size
      by_cases hlt : k < xs.length
      · obtain ⟨b, o, rfl, hb, ⟨⟨o1, o2⟩, o3⟩, c1, c2⟩ := HR.out.ltr k hlt
        have hG := Lib.hid (goodL_of hlt)
        have hbad := Lib.hid (fun h => okB_bad hlt h)
        have HX : Hid (∀ j (h : j < k), xs[j] = xs[j]'(by omega)) := fun _ _ => rfl
        have HT : Hid (xs.take k = xs.take k) := rfl
        generalize hx : xs[k] = x at *
        have HXK := Lib.hid hx; clear hx
        have c1' : w1.cell? ⟨b, o + k * 2, none⟩ = some (.int .i64 x.id) := (hbl.cell (p := ⟨b, o + k * 2, none⟩) hb).trans c1
        have c2' : w1.cell? ⟨b, o + k * 2 + 1, none⟩ = some (.string x.code) := (hbl.cell (p := ⟨b, o + k * 2 + 1, none⟩) hb).trans c2
        clear c1 c2
        by_cases h1 : x.id < 1
        · go_wp2
          go_ret
          exact ⟨ret_bool (hbad.out (by rw [hG.out]; simp; omega)).symm, hbl.alloc hsz _⟩
        by_cases h2 : 9999 < x.id
        · go_wp2
          go_ret
          exact ⟨ret_bool (hbad.out (by rw [hG.out]; simp; omega)).symm, hbl.alloc hsz _⟩
        cases hcd : isCode x.code
        · have hcd' := Lib.hid hcd; clear hcd
          go_wp2_with (go_at_call 75; refine (impl_CodeValid _ _ o3).mono ?_; rw [hcd'.out]; rintro e w' ⟨rfl, rfl⟩)
          go_ret
          exact ⟨ret_bool (hbad.out (by rw [hG.out, hcd'.out]; simp)).symm, hbl.alloc hsz _⟩
        · have hcd' := Lib.hid hcd; clear hcd
          go_wp2_with (go_at_call 75; refine (impl_CodeValid _ _ o3).mono ?_; rw [hcd'.out]; rintro e w' ⟨rfl, rfl⟩)
          obtain ⟨wo, hwo⟩ : ∃ wo : World, wo = w1.alloc (Obj.cells #[Value.int IntKind.i64 x.id, Value.string x.code] 89) := ⟨_, rfl⟩
          have g1 : wo.cell? ⟨w1.heap.size, 0, none⟩ = some (.int .i64 x.id) := by subst hwo; simp [go_sem]
          have hwz : wo.heap.size = w1.heap.size + 1 := by subst hwo; simp
          have hbo : Below w.heap.size w wo := by subst hwo; exact hbl.alloc hsz _
          rw [← hwo]
          have HZ := Lib.hid hwz
          have hwz2 : w1.heap.size < wo.heap.size := by omega
          clear hwo hwz
          go_loopw [35] (fun i wi => ∃ m : Nat, m ≤ k ∧ i = .int .i64 m ∧ Below wo.heap.size wo wi ∧ Hid ((xs.take m).all (fun y => y.id != x.id) = true)) (fun i _ => k - (intOf i).toNat)
          case atStart => exact ⟨0, Nat.zero_le _, rfl, Below.refl _ _, rfl⟩
          case round =>
            obtain ⟨m, hm, rfl, hbi, HA⟩ := hrel
            have hsi := hbi.size
            have hw2 := hbo.size
            have hw3 : w1.heap.size < wr.heap.size := by omega
            have hbw : Below w.heap.size w wr := hbo.trans (hbi.mono hw2)
            have g1' : wr.cell? ⟨w1.heap.size, 0, none⟩ = some (.int .i64 x.id) := (hbi.cell (p := ⟨w1.heap.size, 0, none⟩) hwz2).trans g1
            clear g1
            by_cases hmk : m < k
            · obtain ⟨b', o', hA, _, ⟨⟨p1, p2⟩, p3⟩, d1, d2⟩ := HR.out.ltr m (by omega)
              have hT := Lib.hid (take_all_succ (p := fun y : Ltr => y.id != x.id) xs m (by omega))
              have hI := Lib.hid (take_all_bad (p := fun y : Ltr => y.id != x.id) xs m k (by omega) hmk)
              generalize xs[m] = y at *
              injection hA with hA
              injection hA with hA1 hA2
              subst hA1 hA2
              have d1' : wr.cell? ⟨b, o + m * 2, none⟩ = some (.int .i64 y.id) := (hbw.cell (p := ⟨b, o + m * 2, none⟩) hb).trans d1
              have d2' : wr.cell? ⟨b, o + m * 2 + 1, none⟩ = some (.string y.code) := (hbw.cell (p := ⟨b, o + m * 2 + 1, none⟩) hb).trans d2
              clear d1 d2
              by_cases hyx : y.id = x.id
              · have hyx' : (y.id == x.id) = true := by simpa using hyx
                have HY := Lib.hid hyx; clear hyx
                go_wp2
                go_ret
                exact ⟨ret_bool (hbad.out (by rw [hG.out, hI.out (by simp [HY.out])]; simp)).symm, hbw.alloc (by omega) _⟩
              · have hyx' : (y.id == x.id) = false := by simpa using hyx
                have HY := Lib.hid hyx; clear hyx
                go_wp2
                go_roundw
                case rel => exact ⟨m + 1, by omega, by go_num, hbi.alloc hsi _, by show _ = true; rw [hT.out, HA.out]; simpa using HY.out⟩
                case measure => simp [intOf]; omega
            · have hme : m = k := by omega
              have HE := Lib.hid hme; clear hme
              go_wp2
              go_roundw
              case rel =>
                refine ⟨k + 1, by omega, by go_num, hbw, fun j hj => ?_⟩
                by_cases hjk : j < k
                · exact HG.out j hjk
                · obtain rfl : j = k := by omega
                  rw [hG.out, hcd'.out, ← HE.out, HA.out]; simp; omega
              case measure => simp [intOf]; omega
      · have hke : k = xs.length := by omega
        have HE := Lib.hid hke; clear hke
        go_wp2
        go_ret
        exact ⟨ret_bool (okB_good (by omega) (by rw [← HE.out]; exact HG.out)).symm, hbl⟩

set_option maxHeartbeats 400000 in
theorem spec_BatchValid (v : Value) (xs : List Ltr) (w : World) (hv : rd w w.heap.size v xs) :
    Calls Tryz.prog 52 #[v] w fun e w' => e = .returned (.bool (okB xs)) ∧ Below w.heap.size w w' := by
  obtain ⟨A, n, c, rfl, hn, hc, hm, hr⟩ := hv
  subst hn
  unfold maxLen at hm
  have HR := Lib.hid hr; clear hr
  go_enter Tryz.func52, Tryz.ntmps52
  go_wp2
  go_loopw [3] (fun i wr => ∃ k : Nat, k ≤ xs.length ∧ i = .int .i64 k ∧ Below w.heap.size w wr ∧ Hid (∀ j, j < k → goodL xs j = true)) (fun i _ => xs.length - (intOf i).toNat)
  case atStart => exact ⟨0, Nat.zero_le _, rfl, Below.refl _ _, fun j hj => absurd hj (Nat.not_lt_zero j)⟩
  case round =>
    obtain ⟨k, hk, rfl, hbl, HG⟩ := hrel
    obtain ⟨w1, rfl⟩ : ∃ w1 : World, w1 = wr := ⟨_, rfl⟩
    have hsz := hbl.size
    by_cases hlt : k < xs.length
    · obtain ⟨b, o, rfl, hb, ⟨⟨o1, o2⟩, o3⟩, c1, c2⟩ := HR.out.ltr k hlt
      have hG := Lib.hid (goodL_of hlt)
      have hbad := Lib.hid (fun h => okB_bad hlt h)
      generalize hx : xs[k] = x at *
      have HXK := Lib.hid hx; clear hx
      have c1' : w1.cell? ⟨b, o + k * 2, none⟩ = some (.int .i64 x.id) := (hbl.cell (p := ⟨b, o + k * 2, none⟩) hb).trans c1
      have c2' : w1.cell? ⟨b, o + k * 2 + 1, none⟩ = some (.string x.code) := (hbl.cell (p := ⟨b, o + k * 2 + 1, none⟩) hb).trans c2
      cases hcd : isCode x.code
      · have hcd' := Lib.hid hcd; clear hcd
        go_wp2_with (go_at_call 88; refine (spec_CodeValid _ _ o3).mono ?_; rw [hcd'.out]; rintro e w' ⟨rfl, rfl⟩)
        go_ret
        exact ⟨ret_bool (hbad.out (by rw [hG.out, hcd'.out]; simp)).symm, hbl⟩
      have hcd' := Lib.hid hcd; clear hcd
      cases hid : (decide (1 ≤ x.id) && decide (x.id ≤ 9999))
      · have hid' := Lib.hid hid; clear hid
        go_wp2_with (first | (go_at_call 88; refine (spec_CodeValid _ _ o3).mono ?_; rw [hcd'.out]; rintro e w' ⟨rfl, rfl⟩) | (go_at_call 115; refine (spec_l1In _ _ _ _).mono ?_; rw [hid'.out]; rintro e w' ⟨rfl, rfl⟩))
        go_ret
        exact ⟨ret_bool (hbad.out (by rw [hG.out, hid'.out]; simp)).symm, hbl⟩
      have hid' := Lib.hid hid; clear hid
      go_wp2_with (first | (go_at_call 88; refine (spec_CodeValid _ _ o3).mono ?_; rw [hcd'.out]; rintro e w' ⟨rfl, rfl⟩) | (go_at_call 115; refine (spec_l1In _ _ _ _).mono ?_; rw [hid'.out]; rintro e w' ⟨rfl, rfl⟩))
      go_loopw [4] (fun i wr => ∃ m : Nat, m ≤ k ∧ i = .int .i64 m ∧ Below w.heap.size w wr ∧ Hid ((xs.take m).all (fun y => y.id != x.id) = true)) (fun i _ => k - (intOf i).toNat)
      case atStart => exact ⟨0, Nat.zero_le _, rfl, hbl, rfl⟩
      case round =>
        obtain ⟨m, hm', rfl, hbw, HA⟩ := hrel
        have hsi := hbw.size
        clear c1' c2'
        have c1' : wr.cell? ⟨b, o + k * 2, none⟩ = some (.int .i64 x.id) := (hbw.cell (p := ⟨b, o + k * 2, none⟩) hb).trans c1
        by_cases hmk : m < k
        · obtain ⟨b', o', hA, _, _, d1, d2⟩ := HR.out.ltr m (by omega)
          have hT := Lib.hid (take_all_succ (p := fun y : Ltr => y.id != x.id) xs m (by omega))
          have hI := Lib.hid (take_all_bad (p := fun y : Ltr => y.id != x.id) xs m k (by omega) hmk)
          generalize xs[m] = y at *
          injection hA with hA
          injection hA with hA1 hA2
          subst hA1 hA2
          have d1' : wr.cell? ⟨b, o + m * 2, none⟩ = some (.int .i64 y.id) := (hbw.cell (p := ⟨b, o + m * 2, none⟩) hb).trans d1
          clear d1 d2 c1 c2
          have hml : (m : Int) < (xs.length : Int) := by omega
          have hkl : (k : Int) < (xs.length : Int) := by omega
          by_cases hyx : y.id = x.id
          · have hyx' : (y.id == x.id) = true := by simpa using hyx
            have HY := Lib.hid hyx; clear hyx
            go_wp2
            go_quiet (fail)
            go_wp2
            go_ret
            exact ⟨ret_bool (hbad.out (by rw [hG.out, hI.out (by simp [HY.out])]; simp)).symm, below_drewN hbw _⟩
          · have hyx' : (y.id == x.id) = false := by simpa using hyx
            have HY := Lib.hid hyx; clear hyx
            go_wp2
            go_quiet (fail)
            go_wp2
            go_roundw
            case rel => exact ⟨m + 1, by omega, by go_num, below_drewN hbw _, by show _ = true; rw [hT.out, HA.out]; simpa using HY.out⟩
            case measure => simp [intOf]; omega
        · have hme : m = k := by omega
          have HE := Lib.hid hme; clear hme
          go_wp2
          go_roundw
          case rel =>
            refine ⟨k + 1, by omega, by go_num, hbw, fun j hj => ?_⟩
            by_cases hjk : j < k
            · exact HG.out j hjk
            · obtain rfl : j = k := by omega
              rw [hG.out, hcd'.out, ← HE.out, HA.out, hid'.out]; rfl
          case measure => simp [intOf]; omega
    · have hke : k = xs.length := by omega
      have HE := Lib.hid hke; clear hke
      go_wp2
      go_ret
      exact ⟨ret_bool (by
        by_cases h60 : xs.length ≤ 60
        · rw [okB_good h60 (by rw [← HE.out]; exact HG.out), decide_eq_true (by omega)]
        · rw [decide_eq_false (by omega)]; unfold okB; rw [decide_eq_false h60]; rfl), hbl⟩

end Go.Proofs.YtpinkbodbedajaaGreatDoor

namespace Go.Proofs.YtpinkbodbedajaaGreatDoor
open Go.RowKit

set_option maxHeartbeats 400000 in
theorem spec_l3Rank (v : Value) (xs : List ByteArray) (c : ByteArray) (w : World) (hv : rd w w.heap.size v xs) :
    Calls Tryz.prog 107 #[v, .string c] w fun e w' => e = .returned (.int .i64 (rkI xs c)) ∧ w = w' := by
  obtain ⟨A, n, cp, rfl, hn, hc, hm, hr⟩ := hv
  subst hn
  unfold maxLen at hm
  have HR := Lib.hid hr; clear hr
  go_enter Tryz.func107, Tryz.ntmps107
  go_wp2
  go_loop [5] (fun i => ∃ k : Nat, k ≤ xs.length ∧ i = .int .i64 k ∧ Hid (∀ j (h : j < xs.length), j < k → sEq xs[j] c = false)) (fun i => xs.length - (intOf i).toNat)
  case atStart => exact ⟨0, Nat.zero_le _, rfl, fun j _ hj => absurd hj (Nat.not_lt_zero j)⟩
  case round =>
    obtain ⟨k, hk, rfl, HG⟩ := hrel
    by_cases hlt : k < xs.length
    · obtain ⟨b, o, rfl, hb, hok, c1⟩ := HR.out.str k hlt
      have HX : Hid (∀ h : sEq xs[k] c = false, ∀ j (h1 : j < xs.length), j < k + 1 → sEq xs[j] c = false) := fun h j h1 hj => by
        by_cases hjk : j < k
        · exact HG.out j h1 hjk
        · obtain rfl : j = k := by omega
          exact h
      have HY : Hid (∀ h : sEq xs[k] c = true, rkI xs c = k) := fun h => by
        have e := rk_eq hlt (fun j hj => HG.out j (by omega) hj) h
        rw [rkI_pos (by omega), e]
      generalize xs[k] = x at *
      cases he : sEq x c
      · have he' := Lib.hid he
        have hq : (x.toList == c.toList) = false := he
        clear he
        go_wp2
        go_round
        case rel => exact ⟨k + 1, by omega, by go_num, HX.out he'.out⟩
        case measure => simp [intOf]; omega
      · have he' := Lib.hid he
        have hq : (x.toList == c.toList) = true := he
        clear he
        go_wp2
        go_ret
        exact ⟨ret_int (HY.out he'.out).symm, rfl⟩
    · have HE : Hid (rkI xs c = -1) := by
        have e := rk_none (cs := xs) (c := c) (fun j hj => HG.out j hj (by omega))
        exact rkI_neg (by omega)
      go_wp2
      go_ret
      exact ⟨ret_int HE.out.symm, rfl⟩

theorem spec_l3Ready (v vb : Value) (p : Pln) (xs : List Ltr) (w : World) (hv : rdP w w.heap.size v p) (hb : rd w w.heap.size vb xs) :
    Calls Tryz.prog 94 #[v, vb] w fun e w' => e = .returned (.bool (planOk p && okB xs)) ∧ Below w.heap.size w w' := by
  have hv0 := Lib.hid hv
  have hb0 := Lib.hid hb
  obtain ⟨vo, rfl, hi1, hi2, Ao, no, cpo, rfl, hno, hco, hmo, hro⟩ := hv
  subst hno
  clear hco hmo hro
  have hB : Below w.heap.size w (w.alloc (Obj.cells #[Value.int IntKind.i64 p.bins, Value.int IntKind.i64 p.passes, Value.slice Ao p.order.length cpo] 25)) := (Below.refl _ _).alloc (Nat.le_refl _) _
  have HB := Lib.hid hB; clear hB
  go_enter Tryz.func94, Tryz.ntmps94
  go_wp2_with fail
  refine (spec_PlanValid _ p _ (hv0.out.on HB.out)).mono ?_
  rintro e w1 ⟨rfl, b1⟩
  have B1 := HB.out.trans (b1.mono HB.out.size)
  cases hp : planOk p
  · have HP := Lib.hid hp; clear hp
    go_wp2_with fail
    go_ret
    exact ⟨ret_bool (by rw [HP.out]; rfl), B1⟩
  · have HP := Lib.hid hp; clear hp
    obtain ⟨r, HRR⟩ : ∃ r, Hid (okB xs = r) := ⟨_, rfl⟩
    go_wp2_with fail
    refine (spec_BatchValid _ xs _ (hb0.out.on B1)).mono ?_
    rintro e w2 ⟨rfl, b2⟩
    rw [HRR.out]
    go_wp2_with fail
    go_ret
    exact ⟨ret_bool (by rw [HP.out, HRR.out]; rfl), B1.trans (b2.mono B1.size)⟩

end Go.Proofs.YtpinkbodbedajaaGreatDoor
