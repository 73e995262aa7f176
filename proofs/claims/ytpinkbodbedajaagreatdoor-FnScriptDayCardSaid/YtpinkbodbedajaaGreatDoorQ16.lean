/- YH NW NV GR NR NO NP NQ NT NU NF NG NH NI PV NY NZ GO NA NX NE JA JB M1 M2 N1 M3 PD0 ZE R0 R2 -/
import Derived.Test.YtpinkbodbedajaaGreatDoorQ15
import Derived.Test.YtpinkbodbedajaaGreatDoorQ2
import Derived.Test.YtpinkbodbedajaaGreatDoorQ9
import Derived.Test.YtpinkbodbedajaaGreatDoorQ8
import Derived.Test.YtpinkbodbedajaaGreatDoorQ4
import Derived.Test.YtpinkbodbedajaaGreatDoorQ5
import Derived.Test.YtpinkbodbedajaaGreatDoorQ10
import Derived.Test.YtpinkbodbedajaaGreatDoorQ12
import Derived.Test.YtpinkbodbedajaaGreatDoorQ3
import Derived.Test.YtpinkbodbedajaaGreatDoorQ13
import Derived.Test.YtpinkbodbedajaaGreatDoorQ14
import Derived.Deep.RegionHeld3
import Derived.Test.YtpinkbodbedajaaGreatDoorQ11
import Derived.Laws.IdiomStrings
import Derived.Test.YtpinkbodbedajaaGreatDoorQ1
import Derived.StillTailTactics
import Derived.ProofKit
import Derived.OpenShut
import Derived.ShutString
import Derived.ChangeOld
import Derived.Deep.Slices
import Derived.Deep.Fields
import Derived.ChangeSame
namespace Go.Proofs.YtpinkbodbedajaaGreatDoor
open Go.RowKit

/-- Drawn: a day, letters. -/
def drawDPost (T1 T2 T3 : Nat) (w : World) (e : Ending) (w' : World) : Prop :=
  ∃ (v vb : Value) (d : Dy) (xs : List Ltr), e = .returned (.tuple #[v, vb]) ∧ ownDz T1 T2 w.heap.size w' v d ∧ own T3 w.heap.size w' vb xs ∧ xs.length ≤ 61 ∧ d.plan.order.length ≤ 101 ∧ d.fwds.length ≤ 31 ∧ d.held.length ≤ 3 ∧ Below w.heap.size w w'
theorem ownDz.rd {T1 T2 base : Nat} {w : World} {v : Value} {d : Dy} (h : ownDz T1 T2 base w v d) : rdD w w.heap.size v d := by
  obtain ⟨vo, vf, vh, e, i1, i2, i3, ho, hf, hh⟩ := h
  exact ⟨vo, vf, vh, e, i1, i2, i3, ho.rd, hf.rd, hh.rd⟩
theorem ownDz.base_ {T1 T2 base base' : Nat} {w : World} {v : Value} {d : Dy} (h : ownDz T1 T2 base w v d) (hb : base' ≤ base) : ownDz T1 T2 base' w v d := by
  obtain ⟨vo, vf, vh, e, i1, i2, i3, ho, hf, hh⟩ := h
  exact ⟨vo, vf, vh, e, i1, i2, i3, ho.base_ hb, hf.base_ hb, hh.base_ hb⟩
theorem drawDPost_of {T1 T2 T3 h B : _} {w W : World} {vo vf vh vb a b c : Value} {d : Dy} {xs : List Ltr} (hh : w.heap.size ≤ h) (hbase : h < B) (hv : ownDz T1 T2 B W (.agg #[a, b, vo, vf, vh, c]) d) (hvb : own T3 B W vb xs)
    (h1 : xs.length ≤ 61) (h2 : d.plan.order.length ≤ 101) (h3 : d.fwds.length ≤ 31) (h4 : d.held.length ≤ 3) (hG : Below w.heap.size w W) :
    drawDPost T1 T2 T3 w (.returned (.tuple #[.agg #[a, b, vo, vf, vh, c], vb])) ((((((W.setCell ⟨h, 0, none⟩ a).setCell ⟨h, 1, none⟩ b).setCell ⟨h, 2, none⟩ vo).setCell ⟨h, 3, none⟩ vf).setCell ⟨h, 4, none⟩ vh).setCell ⟨h, 5, none⟩ c) := by
  have HG := six_grown W h a b vo vf vh c
  obtain ⟨vo', vf', vh', e, i1, i2, i3, ho, hf, hd⟩ := hv
  have hz : ownDz T1 T2 B ((((((W.setCell ⟨h, 0, none⟩ a).setCell ⟨h, 1, none⟩ b).setCell ⟨h, 2, none⟩ vo).setCell ⟨h, 3, none⟩ vf).setCell ⟨h, 4, none⟩ vh).setCell ⟨h, 5, none⟩ c) (.agg #[a, b, vo, vf, vh, c]) d := ⟨vo', vf', vh', e, i1, i2, i3, ho.grown HG (own_ne ho hbase), hf.grown HG (own_ne hf hbase), hd.grown HG (own_ne hd hbase)⟩
  have HS := (((((hG.setCell (p := ⟨h, 0, none⟩) hh a).setCell (p := ⟨h, 1, none⟩) hh b).setCell (p := ⟨h, 2, none⟩) hh vo).setCell (p := ⟨h, 3, none⟩) hh vf).setCell (p := ⟨h, 4, none⟩) hh vh).setCell (p := ⟨h, 5, none⟩) hh c
  exact ⟨_, vb, d, xs, rfl, hz.base_ (by omega), (hvb.grown HG (own_ne hvb hbase)).base_ (by omega), h1, h2, h3, h4, HS⟩

set_option maxRecDepth 100000 in
set_option maxHeartbeats 1000000 in
theorem draw_DrawRunDay (v : Value) (bs : List UInt8) (w : World) (hv : rd w w.heap.size v bs) :
    Calls Tryz.prog 7 #[v] w (drawDPost 9 94 89 w) := by
  obtain ⟨wA, hwA⟩ : ∃ u, u = w.alloc (Obj.cells #[.int .i64 0, .int .i64 0, .slice none 0 0, .slice none 0 0, .slice none 0 0, .int .i64 0] 28) := ⟨_, rfl⟩
  have hBA : Below w.heap.size w wA := by rw [hwA]; exact (Below.refl _ _).alloc (Nat.le_refl _) _
  have hzA : wA.heap.size = w.heap.size + 1 := by rw [hwA]; simp
  have hbA : wA.heap[w.heap.size]? = some (.cells #[.int .i64 0, .int .i64 0, .slice none 0 0, .slice none 0 0, .slice none 0 0, .int .i64 0] 28 (0, 0)) := by rw [hwA]; exact heap_alloc_new w _
  have hvA := hv.on hBA
  have HWA := Lib.hid hwA; clear hwA
  go_enter Tryz.func7, Tryz.ntmps7
  go_wp2_with fail
  rw [← HWA.out]
  refine (rd_open _ bs _ hvA).mono ?_
  rintro e w1 ⟨g, rfl, hg, hr1, b1⟩
  have hlt := hr1.lt
  have hb1 := (b1.block w.heap.size (by omega)).trans hbA
  have hB1 : Below w.heap.size w w1 := hBA.trans (b1.mono (by omega))
  have hz1 := b1.size
  clear hvA hv hBA b1 hbA
  go_wp2_with fail
  refine (rd_l8Day g 0 _ hr1 (by omega)).mono ?_
  rintro e w2 ⟨v2, d2, p2, rfl, hd2, hP2, hF8, hFD, hH2, hr2, hp2, hg2⟩
  have hb2 := (hg2.block w.heap.size (by omega) (fun e => by injection e; omega)).trans hb1
  have hB2 : Below w.heap.size w w2 := hB1.trans (below_of_grown hg2 hB1.size (fun r e => by injection e; omega))
  have hz2 := hg2.size
  have HP2 := Lib.hid hP2
  have HFD := Lib.hid hFD
  have HD2 := Lib.hid hd2
  clear hb1 hB1 hg2 hr1 hP2 hFD hd2
  go_wp2_with fail
  refine (rd_l8Bad g p2 w1.heap.size _ d2 _ hr2 (by omega) HD2.out (by omega) HP2.out hF8 HFD.out hH2).mono ?_
  rintro e w3 ⟨v3, d, p3, rfl, hd3, l3o, l3f, l3h, hr3, hp3, hk3⟩
  have hz3 := hk3.size
  have hb3 := (hk3.block w.heap.size (by omega) (by omega)).trans hb2
  have hB3 : Below w.heap.size w w3 := hB2.trans ⟨hk3.os, hk3.tape, hk3.output, hk3.size, fun k hk => hk3.block k (by omega) (by omega)⟩
  clear HP2 HFD HD2 hk3 hb2 hB2 hr2
  obtain ⟨vo, vf, vh, rfl, i1, i2, i3, ho, hf, hh⟩ := hd3
  have HO3 := Lib.hid ho; have HF3 := Lib.hid hf; have HH3 := Lib.hid hh
  obtain ⟨Ao, no, co, rfl, rfl, _, _, _⟩ := ho.rd
  obtain ⟨Af, nf, cf, rfl, rfl, _, _, _⟩ := hf.rd
  obtain ⟨Ah, nh, ch, rfl, rfl, _, _, _⟩ := hh.rd
  clear ho hf hh
  obtain ⟨wC, hwC⟩ : ∃ u, u = w3.alloc (Obj.cells #[.int .i64 d.plan.bins, .int .i64 d.plan.passes, .slice Ao d.plan.order.length co, .slice Af d.fwds.length cf, .slice Ah d.held.length ch, .int .i64 d.size] 28) := ⟨_, rfl⟩
  have hBC : Below w3.heap.size w3 wC := by rw [hwC]; exact (Below.refl _ _).alloc (Nat.le_refl _) _
  have hzC : wC.heap.size = w3.heap.size + 1 := by rw [hwC]; simp
  have hrC : rdr wC g p3 := by rw [hwC]; exact hr3.alloc _
  have hbC : wC.heap[w3.heap.size]? = some (.cells #[.int .i64 d.plan.bins, .int .i64 d.plan.passes, .slice Ao d.plan.order.length co, .slice Af d.fwds.length cf, .slice Ah d.held.length ch, .int .i64 d.size] 28 (0, 0)) := by rw [hwC]; exact heap_alloc_new w3 _
  have hHC := (hBC.block w.heap.size (by omega)).trans hb3
  have hB4 : Below w.heap.size w wC := hB3.trans (hBC.mono (by omega))
  have HOC := Lib.hid (HO3.out.below hBC); have HFC := Lib.hid (HF3.out.below hBC); have HHC := Lib.hid (HH3.out.below hBC)
  -- what every later world keeps
  have HKD : Hid (∀ W, kept2 g wC.heap.size wC W → ownDz 9 94 w1.heap.size W (.agg #[.int .i64 d.plan.bins, .int .i64 d.plan.passes, .slice Ao d.plan.order.length co, .slice Af d.fwds.length cf, .slice Ah d.held.length ch, .int .i64 d.size]) d) := fun W h => by
    have key : ∀ {α : Type} [Flat α] {T : Nat} {u : Value} {ys : List α}, own T w1.heap.size wC u ys → own T w1.heap.size W u ys := fun ho => ho.keepBlk fun j hj => h.block j (ho.blk j hj).2 (by have := (ho.blk j hj).1; omega)
    exact ⟨_, _, _, rfl, i1, i2, i3, key HOC.out, key HFC.out, key HHC.out⟩
  have HKA : Hid (∀ W, kept2 g wC.heap.size wC W → W.heap[w.heap.size]? = some (.cells #[.int .i64 0, .int .i64 0, .slice none 0 0, .slice none 0 0, .slice none 0 0, .int .i64 0] 28 (0, 0))) := fun W h => (h.block w.heap.size (by omega) (by omega)).trans hHC
  have HKC : Hid (∀ W, kept2 g wC.heap.size wC W → W.heap[w3.heap.size]? = some (.cells #[.int .i64 d.plan.bins, .int .i64 d.plan.passes, .slice Ao d.plan.order.length co, .slice Af d.fwds.length cf, .slice Ah d.held.length ch, .int .i64 d.size] 28 (0, 0))) := fun W h => (h.block w3.heap.size (by omega) (by omega)).trans hbC
  have HKB : Hid (∀ W, kept2 g wC.heap.size wC W → Below w.heap.size w W) := fun W h => hB4.trans ⟨h.os, h.tape, h.output, h.size, fun k hk => h.block k (by omega) (by omega)⟩
  have HW3 : Hid (w.heap.size ≠ w3.heap.size) := by show _ ≠ _; omega
  have HWC := Lib.hid hwC
  have kD : kept2 g wC.heap.size wC wC.drew := ⟨rfl, rfl, rfl, Nat.le_refl _, fun _ _ _ => rfl⟩
  have HC1 : Hid (Calls Tryz.prog 46 #[.pointer (some ⟨g, 0, none⟩)] wC.drew fun e w' => ∃ (v' : Value) (xs : List Ltr) (p' : Nat), e = .returned v' ∧ own 89 wC.heap.size w' v' xs ∧ xs.length ≤ 14 ∧ Hid (∀ y ∈ xs, y.code.size = 7) ∧ rdr w' g p' ∧ p' ≤ p3 + 300 ∧ kept2 g wC.heap.size wC w') := by
    refine (rd_l4Mail g p3 _ (hrC.below ((Below.refl _ _).drew)) (by omega)).mono ?_
    rintro e w' ⟨v', xs, p', rfl, h1, h2, h3, h4, h5, h6⟩
    exact ⟨v', xs, p', rfl, h1, h2, h3, h4, h5, kD.step h6 (Nat.le_refl _)⟩
  have HPT : Hid (∀ (W : World) (vb : Value) (xs : List Ltr), kept2 g wC.heap.size wC W → own 89 wC.heap.size W vb xs → xs.length ≤ 61 →
      drawDPost 9 94 89 w (.returned (.tuple #[.agg #[.int .i64 d.plan.bins, .int .i64 d.plan.passes, .slice Ao d.plan.order.length co, .slice Af d.fwds.length cf, .slice Ah d.held.length ch, .int .i64 d.size], vb])) ((((((W.setCell ⟨w.heap.size, 0, none⟩ (.int .i64 d.plan.bins)).setCell ⟨w.heap.size, 1, none⟩ (.int .i64 d.plan.passes)).setCell ⟨w.heap.size, 2, none⟩ (.slice Ao d.plan.order.length co)).setCell ⟨w.heap.size, 3, none⟩ (.slice Af d.fwds.length cf)).setCell ⟨w.heap.size, 4, none⟩ (.slice Ah d.held.length ch)).setCell ⟨w.heap.size, 5, none⟩ (.int .i64 d.size))) := fun W vb xs hk ho hl =>
    drawDPost_of (B := w1.heap.size) (Nat.le_refl _) (by omega) (HKD.out W hk) (ho.base_ (by omega)) hl l3o l3f l3h (HKB.out W hk)
  have HLT : Hid (g < wC.heap.size) := by show _ < _; omega
  have hp3' : p3 ≤ 2000 := by omega
  have cC := HKC.out _ kD
  clear hbC hHC hB4 hB3 hb3 hBC hr3 hrC HO3 HF3 HH3 HOC HFC HHC hwC
  have HI1 := Lib.hid i1; have HI2 := Lib.hid i2; have HI3 := Lib.hid i3
  clear i1 i2 i3
  go_wp2_with fail
  rw [← HWC.out]
  obtain ⟨d0, d1, d2, d3, d4, d5⟩ := cells6 cC
  clear cC
  go_region_law (first | (go_simp; go_at_call 46; (with_reducible refine HC1.out.mono ?_); rintro e w6 ⟨vb, xs, q, rfl, ob6, hl6, HX6, hr6, hq6, k6⟩; obtain ⟨e0, e1, e2, e3, e4, e5⟩ := cells6 (HKC.out _ k6)) | (go_simp; go_at_call 45; (with_reducible refine (rd_l2Bad g q wC.heap.size _ xs _ hr6 (by omega) ob6 HLT.out (by omega) HX6.out).mono ?_); rintro e w7 ⟨vb7, xs7, q7, rfl, ob7, hl7, hr7, hq7, hk7, _⟩; have k7 := k6.trans hk7; obtain ⟨a0, a1, a2, a3, a4, a5⟩ := cells6 (HKA.out _ k7); obtain ⟨b0, b1, b2, b3, b4, b5⟩ := cells6 (HKC.out _ k7); have f0 := unfrozen6 (HKA.out _ k7) 0; have f1 := unfrozen6 (HKA.out _ k7) 1; have f2 := unfrozen6 (HKA.out _ k7) 2; have f3 := unfrozen6 (HKA.out _ k7) 3; have f4 := unfrozen6 (HKA.out _ k7) 4; have f5 := unfrozen6 (HKA.out _ k7) 5))
  all_goals
    have hA7 := HKA.out _ k7
    go_wp2_with fail
    refine ret_box1 rfl rfl (six_set hA7) Tryz.underlying28 rfl Tryz.sizeDay rfl ?_
    exact HPT.out _ _ _ k7 ob7 hl7

end Go.Proofs.YtpinkbodbedajaaGreatDoor

namespace Go.Proofs.YtpinkbodbedajaaGreatDoor
open Go.RowKit

def low (c : UInt8) : Bool := 97 ≤ c.toNat && c.toNat ≤ 122
def lows (l : List UInt8) : Bool := l.all low
def isName (s : ByteArray) : Bool := lows s.data.toList && (decide (1 ≤ (s.size : Int)) && decide ((s.size : Int) ≤ 8))
def isPfx (s : ByteArray) : Bool := digs s.data.toList && decide (s.size ≤ 7)
def hereW : ByteArray := ⟨#[104, 101, 114, 101]⟩
/-- c begins with p. -/
def pre (c p : ByteArray) : Bool := decide (p.size ≤ c.size) && sEq (c.extract 0 p.size) p
def goodR (rs : List Fwd) (k : Nat) : Bool :=
  match rs[k]? with
  | none => false
  | some x => isPfx x.src && isName x.dst && (rs.take k).all (fun y => !sEq y.src x.src)
def rulesOk (rs : List Fwd) : Bool := decide (rs.length ≤ 20) && (List.range rs.length).all (goodR rs)
theorem goodR_of {fs : List Fwd} {k : Nat} (hk : k < fs.length) : goodR fs k = (isPfx fs[k].src && isName fs[k].dst && (fs.take k).all (fun y => !sEq y.src fs[k].src)) := by
  unfold goodR; rw [List.getElem?_eq_getElem hk]
theorem rulesOk_iff {fs : List Fwd} : rulesOk fs = true ↔ fs.length ≤ 20 ∧ ∀ k (h : k < fs.length), isPfx fs[k].src = true ∧ isName fs[k].dst = true ∧ ∀ j (hj : j < k), fs[j].src ≠ fs[k].src := by
  unfold rulesOk
  rw [Bool.and_eq_true, decide_eq_true_iff, List.all_eq_true]
  refine and_congr Iff.rfl ⟨fun h k hk => ?_, fun h k hk => ?_⟩
  · have := h k (by simpa using hk)
    rw [goodR_of hk] at this
    simp only [Bool.and_eq_true] at this
    refine ⟨this.1.1, this.1.2, fun j hj => ?_⟩
    have hh := List.all_eq_true.1 this.2 fs[j] (by rw [List.mem_take_iff_getElem]; exact ⟨j, by omega, rfl⟩)
    simp only [Bool.not_eq_true'] at hh
    exact sEq_false.1 hh
  · have hk' : k < fs.length := by simpa using hk
    obtain ⟨h1, h2, h3⟩ := h k hk'
    rw [goodR_of hk']
    simp only [Bool.and_eq_true]
    refine ⟨⟨h1, h2⟩, List.all_eq_true.2 fun y hy => ?_⟩
    rw [List.mem_take_iff_getElem] at hy
    obtain ⟨j, hj, rfl⟩ := hy
    simp only [Bool.not_eq_true']
    exact sEq_false.2 (h3 j (by omega))

/-! ### The rule with the longest prefix -/
/-! ### Offices -/
structure Ofc where
  name : ByteArray
  rules : List Fwd
def offI (net : List Ofc) (s : ByteArray) : Int := fiI (fun o => sEq o.name s) net
def goodN (net : List Ofc) (r : Fwd) : Bool := sEq r.dst hereW || decide (0 ≤ offI net r.dst)
def goodO (net : List Ofc) (k : Nat) : Bool :=
  match net[k]? with
  | none => false
  | some o => (isName o.name && !sEq o.name hereW && (net.take k).all (fun y => !sEq y.name o.name) && rulesOk o.rules) && o.rules.all (goodN net)
def netOk (net : List Ofc) : Bool := (decide (1 ≤ (net.length : Int)) && decide ((net.length : Int) ≤ 8)) && (List.range net.length).all (goodO net)
theorem goodO_of {net : List Ofc} {k : Nat} (hk : k < net.length) : goodO net k = ((isName net[k].name && !sEq net[k].name hereW && (net.take k).all (fun y => !sEq y.name net[k].name) && rulesOk net[k].rules) && net[k].rules.all (goodN net)) := by
  unfold goodO; rw [List.getElem?_eq_getElem hk]
theorem netOk_iff {net : List Ofc} : netOk net = true ↔ (1 ≤ net.length ∧ net.length ≤ 8) ∧ ∀ k (h : k < net.length), isName net[k].name = true ∧ net[k].name ≠ hereW ∧ (∀ j (hj : j < k), net[j].name ≠ net[k].name) ∧ rulesOk net[k].rules = true ∧ ∀ r ∈ net[k].rules, r.dst = hereW ∨ 0 ≤ offI net r.dst := by
  unfold netOk
  rw [Bool.and_eq_true, Bool.and_eq_true, decide_eq_true_iff, decide_eq_true_iff, List.all_eq_true]
  refine and_congr (by omega) ⟨fun h k hk => ?_, fun h k hk => ?_⟩
  · have := h k (by simpa using hk)
    rw [goodO_of hk] at this
    simp only [Bool.and_eq_true, Bool.not_eq_true', sEq_false] at this
    obtain ⟨⟨⟨⟨a, b⟩, c⟩, d⟩, e⟩ := this
    refine ⟨a, b, fun j hj => ?_, d, fun r hr => ?_⟩
    · have hh := List.all_eq_true.1 c net[j] (by rw [List.mem_take_iff_getElem]; exact ⟨j, by omega, rfl⟩)
      simp only [Bool.not_eq_true'] at hh
      exact sEq_false.1 hh
    · have hh := List.all_eq_true.1 e r hr
      unfold goodN at hh
      rw [Bool.or_eq_true, sEq_iff, decide_eq_true_iff] at hh
      exact hh
  · have hk' : k < net.length := by simpa using hk
    obtain ⟨h1, h2, h3, h4, h5⟩ := h k hk'
    rw [goodO_of hk']
    simp only [Bool.and_eq_true, Bool.not_eq_true', sEq_false]
    refine ⟨⟨⟨⟨h1, h2⟩, List.all_eq_true.2 fun y hy => ?_⟩, h4⟩, List.all_eq_true.2 fun r hr => ?_⟩
    · rw [List.mem_take_iff_getElem] at hy
      obtain ⟨j, hj, rfl⟩ := hy
      simp only [Bool.not_eq_true']
      exact sEq_false.2 (h3 j (by omega))
    · unfold goodN
      rw [Bool.or_eq_true, sEq_iff, decide_eq_true_iff]
      exact h5 r hr
/-! ### Paths -/
/-! ### Transits -/
end Go.Proofs.YtpinkbodbedajaaGreatDoor

namespace Go.Proofs.YtpinkbodbedajaaGreatDoor
open Go.RowKit






end Go.Proofs.YtpinkbodbedajaaGreatDoor

namespace Go.Proofs.YtpinkbodbedajaaGreatDoor
open Go.RowKit







end Go.Proofs.YtpinkbodbedajaaGreatDoor

namespace Go.Proofs.YtpinkbodbedajaaGreatDoor
open Go.RowKit

instance elOfc : El Ofc where
  size := 2
  el w B x cs := x.name.size ≤ maxLen ∧ ∃ v, cs = [.string x.name, v] ∧ rd w B v x.rules
  len h := by obtain ⟨_, v, rfl, _⟩ := h; rfl
  more h hB := by obtain ⟨h0, v, h1, h2⟩ := h; exact ⟨h0, v, h1, h2.more hB⟩
  keep h hk := by obtain ⟨h0, v, h1, h2⟩ := h; exact ⟨h0, v, h1, h2.keep hk⟩
  one h := by
    obtain ⟨_, v, rfl, A, n, c, rfl, _⟩ := h
    intro u hu
    simp at hu
    rcases hu with rfl | rfl <;> rfl
/-- An office with its rules' slice as it lies. -/
structure OfV where
  name : ByteArray
  val : Value
instance elOfV : El OfV where
  size := 2
  el _ _ x cs := cs = [.string x.name, x.val] ∧ x.name.size ≤ maxLen ∧ x.val.oneCell' = true
  len h := by rw [h.1]; rfl
  more h _ := h
  keep h _ := h
  one h := by
    rw [h.1]
    intro u hu
    simp at hu
    rcases hu with rfl | rfl
    · rfl
    · exact h.2.2
instance flatOfV : Flat OfV where
  free h := h
/-- A network that a call owns. -/
def isN (T1 T2 : TypeId) (base : Nat) (w : World) (v : Value) (net : List Ofc) (os : List OfV) : Prop :=
  own T1 base w v os ∧ os.length = net.length ∧ (∀ k (h : k < os.length) (h' : k < net.length), os[k].name = net[k].name ∧ own T2 base w os[k].val net[k].rules) ∧ (∀ j k (hj : j < os.length) (hk : k < os.length), j ≠ k → apart os[j].val os[k].val) ∧ (∀ k (h : k < os.length), apart os[k].val v)
def ownN (T1 T2 : TypeId) (base : Nat) (w : World) (v : Value) (net : List Ofc) : Prop := ∃ os : List OfV, isN T1 T2 base w v net os
section
variable {T1 T2 : TypeId} {base : Nat} {w w' : World} {v : Value} {net : List Ofc} {os : List OfV}
theorem isN.below (h : isN T1 T2 base w v net os) (hb : Below w.heap.size w w') : isN T1 T2 base w' v net os := by
  obtain ⟨h1, h2, h3, h4, h5⟩ := h
  exact ⟨h1.below hb, h2, fun k a b => ⟨(h3 k a b).1, (h3 k a b).2.below hb⟩, h4, h5⟩
theorem isN.grown {row : Option Nat} (h : isN T1 T2 base w v net os) (hg : w.grownBy w' row) (hv : v.ownBlock = none ∨ v.ownBlock ≠ row) (hvs : ∀ k (h : k < os.length), os[k].val.ownBlock = none ∨ os[k].val.ownBlock ≠ row) : isN T1 T2 base w' v net os := by
  obtain ⟨h1, h2, h3, h4, h5⟩ := h
  exact ⟨h1.grown hg hv, h2, fun k a b => ⟨(h3 k a b).1, (h3 k a b).2.grown hg (hvs k a)⟩, h4, h5⟩
theorem isN.base_ {base' : Nat} (h : isN T1 T2 base w v net os) (hb : base' ≤ base) : isN T1 T2 base' w v net os := by
  obtain ⟨h1, h2, h3, h4, h5⟩ := h
  exact ⟨h1.base_ hb, h2, fun k a b => ⟨(h3 k a b).1, (h3 k a b).2.base_ hb⟩, h4, h5⟩
theorem ownN.below (h : ownN T1 T2 base w v net) (hb : Below w.heap.size w w') : ownN T1 T2 base w' v net := by
  obtain ⟨os, h⟩ := h; exact ⟨os, h.below hb⟩
theorem ownN.base_ {base' : Nat} (h : ownN T1 T2 base w v net) (hb : base' ≤ base) : ownN T1 T2 base' w v net := by
  obtain ⟨os, h⟩ := h; exact ⟨os, h.base_ hb⟩
theorem own_ofv {g n c : Nat} (h : own T1 base w (.slice (some ⟨g, 0, none⟩) n c) os) (k : Nat) (hk : k < os.length) :
    os[k].name.size ≤ maxLen ∧ w.cell? ⟨g, k * 2, none⟩ = some (.string os[k].name) ∧ w.cell? ⟨g, k * 2 + 1, none⟩ = some os[k].val := by
  obtain ⟨A, n', c', hv, _, _, _, hrd⟩ := h.rd
  obtain ⟨b, o, cs, hA, _, ⟨rfl, hz, _⟩, hc⟩ := hrd k hk
  injection hv with e1 _ _
  subst e1
  injection hA with hA
  injection hA with hA1 hA2
  subst hA1 hA2
  refine ⟨hz, ?_, ?_⟩
  · have := hc 0 _ rfl
    rw [show 0 + (k * El.size OfV + 0) = k * 2 by show 0 + (k * 2 + 0) = k * 2; omega] at this
    exact this
  · have := hc 1 _ rfl
    rw [show 0 + (k * El.size OfV + 1) = k * 2 + 1 by show 0 + (k * 2 + 1) = k * 2 + 1; omega] at this
    exact this
theorem isN.form (h : isN T1 T2 base w v net os) : v = .slice none 0 0 ∧ net = [] ∨ ∃ g c, v = .slice (some ⟨g, 0, none⟩) net.length c ∧ base ≤ g ∧ g < w.heap.size ∧ net.length ≤ c ∧ c ≤ maxLen := by
  obtain ⟨h1, h2, _⟩ := h
  rcases h1.form with ⟨a, b⟩ | ⟨g, c, a, b⟩
  · subst b
    exact .inl ⟨a, List.eq_nil_of_length_eq_zero h2.symm⟩
  · rw [h2] at a b
    exact .inr ⟨g, c, a, b⟩
theorem isN.rd (h : isN T1 T2 base w v net os) : rd w w.heap.size v net := by
  rcases h.form with ⟨rfl, rfl⟩ | ⟨g, c, rfl, hg, hlt, hc, hm⟩
  · exact rd.nil_
  · obtain ⟨h1, h2, h3, _⟩ := h
    refine ⟨_, _, _, rfl, rfl, hc, hm, fun k hk => ?_⟩
    have hk' : k < os.length := by omega
    obtain ⟨e1, e2⟩ := h3 k hk' hk
    obtain ⟨z0, z1, z2⟩ := own_ofv h1 k hk'
    refine ⟨g, 0, [.string net[k].name, os[k].val], rfl, hlt, ⟨by rw [← e1]; exact z0, _, rfl, e2.rd⟩, fun j u hu => ?_⟩
    match j, hu with
    | 0, hu =>
      simp at hu
      subst hu
      rw [show 0 + (k * El.size Ofc + 0) = k * 2 by show 0 + (k * 2 + 0) = k * 2; omega, z1, e1]
    | 1, hu =>
      simp at hu
      subst hu
      rw [show 0 + (k * El.size Ofc + 1) = k * 2 + 1 by show 0 + (k * 2 + 1) = k * 2 + 1; omega, z2]
    | j + 2, hu => simp at hu
theorem ownN.rd (h : ownN T1 T2 base w v net) : rd w w.heap.size v net := by
  obtain ⟨os, h⟩ := h; exact h.rd
end
theorem own_setOfV {T base g n c : Nat} {w : World} {os : List OfV} (h : own T base w (.slice (some ⟨g, 0, none⟩) n c) os) {k : Nat} (hk : k < os.length) {y : OfV} (hy : y.name.size ≤ maxLen) (hy' : y.val.oneCell' = true) :
    own T base ((w.setCell ⟨g, k * 2, none⟩ (.string y.name)).setCell ⟨g, k * 2 + 1, none⟩ y.val) (.slice (some ⟨g, 0, none⟩) n c) (os.set k y) := by
  have h1 := h.setCell (k := k) (j := 0) hk (by decide) (.string y.name) ⟨y.name, os[k].val⟩ (fun ecs he => by
    obtain ⟨rfl, _, q⟩ := he
    exact ⟨rfl, hy, q⟩)
  have h2 := h1.setCell (k := k) (j := 1) (by simpa using hk) (by decide) y.val y (fun ecs he => by
    obtain ⟨rfl, _⟩ := he
    refine ⟨?_, hy, hy'⟩
    simp)
  rw [List.set_set] at h2
  exact h2
/-- An office put in a place. -/
theorem isN.put {T1 T2 base G n c : Nat} {w w1 : World} {os : List OfV} {net : List Ofc} {nm : ByteArray} {ys : List Fwd} {v' : Value} {d B : Nat}
    (h : isN T1 T2 base w (.slice (some ⟨G, 0, none⟩) n c) net os) (hb : Below w.heap.size w w1)
    (hd : d < os.length) (hnm : nm.size ≤ maxLen) (ho : own T2 B w1 v' ys) (hB : w.heap.size ≤ B) (hbase : base ≤ w.heap.size) :
    isN T1 T2 base ((w1.setCell ⟨G, d * 2, none⟩ (.string nm)).setCell ⟨G, d * 2 + 1, none⟩ v') (.slice (some ⟨G, 0, none⟩) n c) (net.set d ⟨nm, ys⟩) (os.set d ⟨nm, v'⟩) := by
  obtain ⟨h1, h2, h3, h4, h5⟩ := h
  have hv1 : v'.oneCell' = true := by
    rcases ho.form with ⟨rfl, _⟩ | ⟨g, c, rfl, _⟩ <;> rfl
  have q2 : own T1 base ((w1.setCell ⟨G, d * 2, none⟩ (.string nm)).setCell ⟨G, d * 2 + 1, none⟩ v') (.slice (some ⟨G, 0, none⟩) n c) (os.set d ⟨nm, v'⟩) := own_setOfV (y := ⟨nm, v'⟩) (h1.below hb) hd hnm hv1
  have hset : w1.grownBy ((w1.setCell ⟨G, d * 2, none⟩ (.string nm)).setCell ⟨G, d * 2 + 1, none⟩ v') (some G) := grown_setCell (p := ⟨G, d * 2 + 1, none⟩) (grown_setCell (p := ⟨G, d * 2, none⟩) (World.grownBy.refl w1 (some G)) (.inl rfl) (.string nm)) (.inl rfl) v'
  have hG := h1.blk G rfl
  have hvG : apart v' (.slice (some ⟨G, 0, none⟩) n c) := apart_gt ho h1 hB
  have hfar : ∀ i (hi : i < os.length), apart v' os[i].val := fun i hi => apart_gt ho (h3 i hi (by omega)).2 hB
  have g3 : ∀ k (h : k < (os.set d ⟨nm, v'⟩).length) (h' : k < (net.set d ⟨nm, ys⟩).length), (os.set d ⟨nm, v'⟩)[k].name = (net.set d ⟨nm, ys⟩)[k].name ∧ own T2 base ((w1.setCell ⟨G, d * 2, none⟩ (.string nm)).setCell ⟨G, d * 2 + 1, none⟩ v') (os.set d ⟨nm, v'⟩)[k].val (net.set d ⟨nm, ys⟩)[k].rules := fun k h h' => by
    by_cases hkd : k = d
    · subst hkd
      rw [List.getElem_set_self, List.getElem_set_self]
      exact ⟨rfl, (ho.grown hset hvG).base_ (Nat.le_trans hbase hB)⟩
    · rw [List.getElem_set_ne (by omega), List.getElem_set_ne (by omega)]
      have hk1 : k < os.length := by simpa using h
      have hk2 : k < net.length := by simpa using h'
      exact ⟨(h3 k hk1 hk2).1, ((h3 k hk1 hk2).2.below hb).grown hset (h5 k hk1)⟩
  have g4 : ∀ j k (hj : j < (os.set d ⟨nm, v'⟩).length) (hk : k < (os.set d ⟨nm, v'⟩).length), j ≠ k → apart (os.set d ⟨nm, v'⟩)[j].val (os.set d ⟨nm, v'⟩)[k].val := fun j k hj hk hne => by
    have hj' : j < os.length := by simpa using hj
    have hk' : k < os.length := by simpa using hk
    by_cases hjd : j = d
    · subst hjd
      rw [List.getElem_set_self, List.getElem_set_ne (by omega)]
      exact hfar k hk'
    · by_cases hkd : k = d
      · subst hkd
        rw [List.getElem_set_self, List.getElem_set_ne (by omega)]
        exact apart_symm (hfar j hj')
      · rw [List.getElem_set_ne (by omega), List.getElem_set_ne (by omega)]
        exact h4 j k hj' hk' hne
  have g5 : ∀ k (h : k < (os.set d ⟨nm, v'⟩).length), apart (os.set d ⟨nm, v'⟩)[k].val (.slice (some ⟨G, 0, none⟩) n c) := fun k h => by
    by_cases hkd : k = d
    · subst hkd; rw [List.getElem_set_self]; exact hvG
    · rw [List.getElem_set_ne (by omega)]; exact h5 k (by simpa using h)
  exact ⟨q2, by rw [List.length_set, List.length_set]; exact h2, g3, g4, g5⟩

end Go.Proofs.YtpinkbodbedajaaGreatDoor

namespace Go.Proofs.YtpinkbodbedajaaGreatDoor
open Go.RowKit





end Go.Proofs.YtpinkbodbedajaaGreatDoor

namespace Go.Proofs.YtpinkbodbedajaaGreatDoor
open Go.RowKit





end Go.Proofs.YtpinkbodbedajaaGreatDoor

namespace Go.Proofs.YtpinkbodbedajaaGreatDoor
open Go.RowKit

/-! ### Paths: how a step is told -/
end Go.Proofs.YtpinkbodbedajaaGreatDoor

namespace Go.Proofs.YtpinkbodbedajaaGreatDoor
open Go.RowKit




end Go.Proofs.YtpinkbodbedajaaGreatDoor

namespace Go.Proofs.YtpinkbodbedajaaGreatDoor
open Go.RowKit



end Go.Proofs.YtpinkbodbedajaaGreatDoor

namespace Go.Proofs.YtpinkbodbedajaaGreatDoor
open Go.RowKit

/-! ### Faulty prefixes -/
/-! ### A prefix that no rule continues goes the way of its first code -/
/-! ### All of them -/
end Go.Proofs.YtpinkbodbedajaaGreatDoor

namespace Go.Proofs.YtpinkbodbedajaaGreatDoor
open Go.RowKit

theorem Tryz.infoByte : (Tryz.prog.info? 5).map (fun i => (i.zero, i.size, i.bytes)) = some (some (.int .u8 0), 1, 1) := by kernel_rfl

end Go.Proofs.YtpinkbodbedajaaGreatDoor

namespace Go.Proofs.YtpinkbodbedajaaGreatDoor
open Go.RowKit





end Go.Proofs.YtpinkbodbedajaaGreatDoor

namespace Go.Proofs.YtpinkbodbedajaaGreatDoor
open Go.RowKit




end Go.Proofs.YtpinkbodbedajaaGreatDoor

namespace Go.Proofs.YtpinkbodbedajaaGreatDoor
open Go.RowKit

/-- Drawn rules: beginnings of codes, all of them different, and names out of a list. -/
def drawnR (ns : List ByteArray) (rs : List Fwd) : Prop := (∀ x ∈ rs, isPfx x.src = true ∧ x.dst ∈ ns) ∧ rs.Pairwise fun x y => x.src ≠ y.src
theorem drawnR.nil (ns : List ByteArray) : drawnR ns [] := ⟨fun _ h => by simp at h, List.Pairwise.nil⟩
theorem drawnR.snoc {ns : List ByteArray} {rs : List Fwd} {s t : ByteArray} (h : drawnR ns rs) (hs : isPfx s = true) (ht : t ∈ ns) (hn : fwdI rs s < 0) : drawnR ns (rs ++ [⟨s, t⟩]) := by
  refine ⟨fun x hx => ?_, List.pairwise_append.2 ⟨h.2, List.pairwise_singleton _ _, fun x hx y hy => ?_⟩⟩
  · rcases List.mem_append.1 hx with hx | hx
    · exact h.1 x hx
    · simp at hx; subst hx; exact ⟨hs, ht⟩
  · simp at hy; subst hy; exact sEq_false.1 (fiI_neg hn x hx)
theorem drawnR.ok {ns : List ByteArray} {rs : List Fwd} (h : drawnR ns rs) (hl : rs.length ≤ 20) (hns : ∀ x ∈ ns, isName x = true) : rulesOk rs = true :=
  rulesOk_iff.2 ⟨hl, fun k hk => ⟨(h.1 _ (List.getElem_mem hk)).1, hns _ (h.1 _ (List.getElem_mem hk)).2, fun j hj => List.pairwise_iff_getElem.1 h.2 j k (by omega) hk hj⟩⟩
def abcd : List ByteArray := [⟨#[97]⟩, ⟨#[98]⟩, ⟨#[99]⟩, ⟨#[100]⟩]
def netNs (n : Nat) : List ByteArray := ([hereW, hereW] : List ByteArray) ++ abcd.take n
theorem netNs_name (n : Nat) : ∀ x ∈ netNs n, isName x = true := fun x hx => by
  have h1 : x ∈ [hereW, hereW] ++ abcd := by
    rcases List.mem_append.1 hx with h | h
    · exact List.mem_append.2 (.inl h)
    · exact List.mem_append.2 (.inr (List.mem_of_mem_take h))
  have h2 : ∀ x ∈ [hereW, hereW] ++ abcd, isName x = true := by decide
  exact h2 x h1
/-- A drawn network: office j is called a, b, c, d, and its rules send to the offices or home. -/
def drawnN (n : Nat) (net : List Ofc) : Prop := ∀ j (h : j < net.length), net[j].name = abcd[j]?.getD ⟨#[]⟩ ∧ drawnR (netNs n) net[j].rules ∧ net[j].rules.length ≤ 6
theorem drawnN.nil (n : Nat) : drawnN n [] := fun j h => absurd h (Nat.not_lt_zero j)
theorem drawnN.snoc {n : Nat} {net : List Ofc} {nm : ByteArray} {rs : List Fwd} (h : drawnN n net) (hnm : nm = abcd[net.length]?.getD ⟨#[]⟩) (hr : drawnR (netNs n) rs) (hl : rs.length ≤ 6) : drawnN n (net ++ [⟨nm, rs⟩]) := fun j hj => by
  by_cases hj2 : j < net.length
  · rw [List.getElem_append_left hj2]; exact h j hj2
  · rw [List.getElem_append_right (by omega)]
    have e : j - net.length = 0 := by simp at hj; omega
    have e2 : j = net.length := by simp at hj; omega
    simp only [e, List.getElem_cons_zero]
    rw [e2]
    exact ⟨hnm, hr, hl⟩
theorem abcd_good {j : Nat} (h : j < 4) : isName (abcd[j]?.getD ⟨#[]⟩) = true ∧ abcd[j]?.getD ⟨#[]⟩ ≠ hereW ∧ ∀ i, i < j → abcd[i]?.getD ⟨#[]⟩ ≠ abcd[j]?.getD ⟨#[]⟩ := by
  have : ∀ j, j < 4 → isName (abcd[j]?.getD ⟨#[]⟩) = true ∧ abcd[j]?.getD ⟨#[]⟩ ≠ hereW ∧ ∀ i, i < j → abcd[i]?.getD ⟨#[]⟩ ≠ abcd[j]?.getD ⟨#[]⟩ := by decide
  exact this j h
theorem abcd_mem {n : Nat} {x : ByteArray} (hn : n ≤ 4) (h : x ∈ abcd.take n) : ∃ j, j < n ∧ abcd[j]?.getD ⟨#[]⟩ = x := by
  obtain ⟨j, hj, rfl⟩ := List.mem_take_iff_getElem.1 h
  exact ⟨j, by omega, by rw [List.getElem?_eq_getElem (by omega)]; rfl⟩
theorem drawnN.ok {net : List Ofc} (h : drawnN net.length net) (h1 : 1 ≤ net.length) (h4 : net.length ≤ 4) : netOk net = true := by
  refine netOk_iff.2 ⟨⟨h1, by omega⟩, fun k hk => ?_⟩
  obtain ⟨a, b, c⟩ := h k hk
  obtain ⟨g1, g2, g3⟩ := abcd_good (j := k) (by omega)
  refine ⟨by rw [a]; exact g1, by rw [a]; exact g2, fun j hj => by rw [(h j (by omega)).1, a]; exact g3 j hj, b.ok (by omega) (netNs_name _), fun r hr => ?_⟩
  rcases List.mem_append.1 (b.1 r hr).2 with h | hm
  · left; simp at h; exact h
  · right
    obtain ⟨i, hi, e⟩ := abcd_mem h4 hm
    have hx : ¬ offI net r.dst < 0 := fun hneg => by
      have := sEq_false.1 (fiI_neg hneg net[i] (List.getElem_mem hi))
      exact this ((h i hi).1.trans e)
    omega

end Go.Proofs.YtpinkbodbedajaaGreatDoor

namespace Go.Proofs.YtpinkbodbedajaaGreatDoor
open Go.RowKit

/-- Behind the drawing of a rule: it lies in a block B of its own. -/
structure midR (T g q : Nat) (w0 : World) (s t : ByteArray) (B : Nat) (W : World) : Prop where
  hB : w0.heap.size ≤ B
  hrow : W.heap[B]? = some (.cells #[.string s, .string t] T (0, 0))
  hr : rdr W g q
  hk : kept2 g w0.heap.size w0 W
end Go.Proofs.YtpinkbodbedajaaGreatDoor

namespace Go.Proofs.YtpinkbodbedajaaGreatDoor
open Go.RowKit

section
variable {T1 T2 base G n c : Nat} {w w1 : World} {net : List Ofc} {os : List OfV}
/-- An office more. -/
theorem isN.snoc {v u : Value} {g m cap : Nat} {nm : ByteArray} {ys : List Fwd} (h : isN T1 T2 base w v net os) (ho : own T2 base w u ys) (hf : apart u v) (hfs : ∀ k (hk : k < os.length), apart u os[k].val)
    (hn : own T1 base w1 (.slice (some ⟨g, 0, none⟩) m cap) (os ++ [⟨nm, u⟩])) (hg : w.grownBy w1 v.ownBlock) (ha : some g = v.ownBlock ∨ g = w.heap.size) :
    isN T1 T2 base w1 (.slice (some ⟨g, 0, none⟩) m cap) (net ++ [⟨nm, ys⟩]) (os ++ [⟨nm, u⟩]) := by
  obtain ⟨h1, h2, h3, h4, h5⟩ := h
  have hfu : ∀ k (hk : k < (os ++ [(⟨nm, u⟩ : OfV)]).length), apart (os ++ [(⟨nm, u⟩ : OfV)])[k].val v := fun k hk => by
    by_cases hkv : k < os.length
    · rw [List.getElem_append_left hkv]; exact h5 k hkv
    · rw [List.getElem_append_right (by omega)]
      have : k - os.length = 0 := by simp at hk; omega
      simp only [this, List.getElem_cons_zero]; exact hf
  have hlt : ∀ k (hk : k < (os ++ [(⟨nm, u⟩ : OfV)]).length) j, (os ++ [(⟨nm, u⟩ : OfV)])[k].val.ownBlock = some j → j < w.heap.size := fun k hk j => by
    by_cases hkv : k < os.length
    · rw [List.getElem_append_left hkv]; exact fun e => ((h3 k hkv (by omega)).2.blk j e).2
    · rw [List.getElem_append_right (by omega)]
      have : k - os.length = 0 := by simp at hk; omega
      simp only [this, List.getElem_cons_zero]; exact fun e => (ho.blk j e).2
  refine ⟨hn, by simp [h2], fun k hk hk' => ?_, fun j k hj hk hne => ?_, fun k hk => ?_⟩
  · by_cases hkv : k < os.length
    · rw [List.getElem_append_left hkv, List.getElem_append_left (by omega)]
      exact ⟨(h3 k hkv (by omega)).1, (h3 k hkv (by omega)).2.grown hg (h5 k hkv)⟩
    · have e1 : k - os.length = 0 := by simp at hk; omega
      have e2 : k - net.length = 0 := by omega
      rw [List.getElem_append_right (by omega), List.getElem_append_right (by omega)]
      simp only [e1, e2, List.getElem_cons_zero]
      exact ⟨trivial, ho.grown hg hf⟩
  · by_cases hjv : j < os.length
    · by_cases hkv : k < os.length
      · rw [List.getElem_append_left hjv, List.getElem_append_left hkv]; exact h4 j k hjv hkv hne
      · have e1 : k - os.length = 0 := by simp at hk; omega
        rw [List.getElem_append_left hjv, List.getElem_append_right (by omega)]
        simp only [e1, List.getElem_cons_zero]; exact apart_symm (hfs j hjv)
    · have e1 : j - os.length = 0 := by simp at hj; omega
      by_cases hkv : k < os.length
      · rw [List.getElem_append_right (by omega), List.getElem_append_left hkv]
        simp only [e1, List.getElem_cons_zero]; exact hfs k hkv
      · exfalso; simp at hj hk; omega
  · exact apart_symm (apart_app (apart_symm (hfu k hk)) ha fun j hj => hlt k hk j hj)
end

end Go.Proofs.YtpinkbodbedajaaGreatDoor

namespace Go.Proofs.YtpinkbodbedajaaGreatDoor
open Go.RowKit







end Go.Proofs.YtpinkbodbedajaaGreatDoor

namespace Go.Proofs.YtpinkbodbedajaaGreatDoor
open Go.RowKit

theorem kept2.mono {g b b' : Nat} {u w : World} (h : kept2 g b' u w) (hb : b ≤ b') : kept2 g b u w := ⟨h.os, h.tape, h.output, h.size, fun k hk hne => h.block k (by omega) hne⟩
theorem isN.keepBlk {T1 T2 base : Nat} {w w' : World} {v : Value} {net : List Ofc} {os : List OfV} (h : isN T1 T2 base w v net os) (hk : ∀ k, base ≤ k → k < w.heap.size → w'.heap[k]? = w.heap[k]?) : isN T1 T2 base w' v net os :=
  ⟨h.1.keepBlk fun k e => hk k (h.1.blk k e).1 (h.1.blk k e).2, h.2.1, fun k a b => ⟨(h.2.2.1 k a b).1, (h.2.2.1 k a b).2.keepBlk fun j e => hk j ((h.2.2.1 k a b).2.blk j e).1 ((h.2.2.1 k a b).2.blk j e).2⟩, h.2.2.2.1, h.2.2.2.2⟩
theorem isN.none_ {T1 T2 base : Nat} {w : World} {v : Value} (h : own (α := OfV) T1 base w v []) : isN T1 T2 base w v [] [] :=
  ⟨h, rfl, fun k h => absurd h (Nat.not_lt_zero k), fun j _ h => absurd h (Nat.not_lt_zero j), fun k h => absurd h (Nat.not_lt_zero k)⟩

end Go.Proofs.YtpinkbodbedajaaGreatDoor

namespace Go.Proofs.YtpinkbodbedajaaGreatDoor
open Go.RowKit

/-! ### Who comes home -/
end Go.Proofs.YtpinkbodbedajaaGreatDoor

namespace Go.Proofs.YtpinkbodbedajaaGreatDoor
open Go.RowKit


/-! ### Paths -/



end Go.Proofs.YtpinkbodbedajaaGreatDoor

namespace Go.Proofs.YtpinkbodbedajaaGreatDoor
open Go.RowKit

/-- A row of bytes: all of block g. -/
def byteRow (w : World) (g : Nat) (l : List UInt8) : Prop := w.heap[g]? = some (.cells (l.map fun b => Value.int .u8 b.toNat).toArray 5 (0, 0))
theorem byteRow.cell {w : World} {g : Nat} {l : List UInt8} (h : byteRow w g l) (i : Nat) (hi : i < l.length) : w.cell? ⟨g, i, none⟩ = some (.int .u8 (l[i].toNat : Int)) :=
  blk_cell h i _ (by simp [hi])
theorem byteRow.free {w : World} {g : Nat} {l : List UInt8} (h : byteRow w g l) (i : Nat) : w.frozen? ⟨g, i, none⟩ = false := blk_free h i
theorem byteRow.set {w : World} {g : Nat} {l : List UInt8} (h : byteRow w g l) (i : Nat) (b : UInt8) : byteRow (w.setCell ⟨g, i, none⟩ (.int .u8 (b.toNat : Int))) g (l.set i b) := by
  have h1 := blk_set h i (.int .u8 (b.toNat : Int))
  unfold byteRow
  rw [h1, List.map_set]
  simp
theorem byteRow.below {w w' : World} {g : Nat} {l : List UInt8} (h : byteRow w g l) (hb : Below w.heap.size w w') : byteRow w' g l := blk_below h hb
theorem byteRow.str {w : World} {g c m : Nat} {l : List UInt8} (h : byteRow w g l) (hm : m ≤ l.length) : (convert 22 9 (.slice (some ⟨g, 0, none⟩) m c)).run Tryz.prog w = .ok (.string ⟨(l.take m).toArray⟩) w := by
  have h1 := run_convert_bytes_back (P := Tryz.prog) w 22 9 5 ⟨g, 0, none⟩ c (l.take m) Tryz.underlying22 Tryz.underlying5 Tryz.underlying9 (fun j hj => by
    have hj2 : j < l.length := by rw [List.length_take] at hj; omega
    rw [List.getElem_take]
    have := h.cell j hj2
    rw [add_lit]
    simpa using this)
  have hl : (l.take m).length = m := by rw [List.length_take]; omega
  rw [hl] at h1
  exact h1

end Go.Proofs.YtpinkbodbedajaaGreatDoor

namespace Go.Proofs.YtpinkbodbedajaaGreatDoor
open Go.RowKit

structure Plc where
  area : Int
  walk : Int
  point : Int
end Go.Proofs.YtpinkbodbedajaaGreatDoor

namespace Go.Proofs.YtpinkbodbedajaaGreatDoor
open Go.RowKit



end Go.Proofs.YtpinkbodbedajaaGreatDoor

namespace Go.Proofs.YtpinkbodbedajaaGreatDoor
open Go.RowKit

/-- Every element whose index is a multiple of k + 1, behind n that are passed over. -/
def every (k : Nat) : List Ltr → Nat → List Ltr
  | [], _ => []
  | x :: xs, 0 => x :: every k xs k
  | _ :: xs, n + 1 => every k xs n
end Go.Proofs.YtpinkbodbedajaaGreatDoor

namespace Go.Proofs.YtpinkbodbedajaaGreatDoor
open Go.RowKit

end Go.Proofs.YtpinkbodbedajaaGreatDoor

namespace Go.Proofs.YtpinkbodbedajaaGreatDoor
open Go.RowKit



end Go.Proofs.YtpinkbodbedajaaGreatDoor

namespace Go.Proofs.YtpinkbodbedajaaGreatDoor
open Go.RowKit

theorem sizeOk_iff {n : Int} : sizeOk n = true ↔ 1 ≤ n ∧ n ≤ 20 := by
  unfold sizeOk
  rw [Bool.and_eq_true, decide_eq_true_iff, decide_eq_true_iff]
/-! ### Orders that are followed -/
theorem fwdTo_code {fs : List Fwd} (h : fwdsOk fs = true) {c : ByteArray} (hi : ¬ fwdI fs c < 0) : isCode (fwdTo fs c) = true := by
  obtain ⟨k, hk⟩ := Int.eq_ofNat_of_zero_le (Int.not_lt.1 hi)
  have hr := (fiI_range (fun x => sEq x.src c) fs).2
  have hk' : fiI (fun x : Fwd => sEq x.src c) fs = k := hk
  have hl : k < fs.length := by omega
  rw [fwdTo_at hk hl]
  exact ((fwdsOk_iff.1 h).2 k hl).2.1
theorem followN_end {fs : List Fwd} (h : fwdsOk fs = true) : ∀ (f : Nat) (c : ByteArray) (n : Nat), isCode c = true → (followN fs f c n).2.2 = true → isCode (followN fs f c n).1 = true ∧ fwdI fs (followN fs f c n).1 < 0
  | 0, c, n, _, h1 => by simp [followN] at h1
  | f + 1, c, n, hc, h1 => by
    unfold followN at h1 ⊢
    by_cases hi : fwdI fs c < 0
    · rw [if_pos hi]; exact ⟨hc, hi⟩
    · rw [if_neg hi] at h1 ⊢
      exact followN_end h f _ _ (fwdTo_code h hi) h1
theorem follow_end {fs : List Fwd} (h : fwdsOk fs = true) {c : ByteArray} (hc : isCode c = true) (h1 : (follow fs c).2.2 = true) : isCode (follow fs c).1 = true ∧ fwdI fs (follow fs c).1 < 0 := followN_end h _ _ _ hc h1
/-! ### The parts of a day's batch -/
theorem okB_sent {fs : List Fwd} {xs : List Ltr} (hf : fwdsOk fs = true) (hx : okB xs = true) : okB (sentL fs xs) = true := by
  obtain ⟨h1, h2, h3⟩ := okB_pw.1 hx
  refine okB_pw.2 ⟨?_, ?_, ?_⟩
  · unfold sentL
    rw [List.length_map]
    exact Nat.le_trans (List.length_filter_le _ _) h1
  · intro y hy
    unfold sentL at hy
    obtain ⟨x, hx, rfl⟩ := List.mem_map.1 hy
    obtain ⟨hx1, hx2⟩ := List.mem_filter.1 hx
    obtain ⟨a, b, c⟩ := h2 x hx1
    exact ⟨a, b, (follow_end hf c hx2).1⟩
  · unfold sentL
    rw [List.pairwise_map]
    exact (h3.sublist List.filter_sublist).imp fun h => h
theorem rdOk_iff {d : Dy} {xs : List Ltr} : rdOk d xs = true ↔ (planOk d.plan = true ∧ fwdsOk d.fwds = true ∧ heldOk d.held = true ∧ sizeOk d.size = true) ∧ okB xs = true := by
  unfold rdOk dayOk
  simp only [Bool.and_eq_true]
  constructor
  · rintro ⟨⟨⟨⟨a, b⟩, c⟩, e⟩, f⟩; exact ⟨⟨a, b, c, e⟩, f⟩
  · rintro ⟨⟨a, b, c, e⟩, f⟩; exact ⟨⟨⟨⟨a, b⟩, c⟩, e⟩, f⟩
/-- What each step of a day has. -/
theorem day_steps {d : Dy} {xs : List Ltr} (h : rdOk d xs = true) : fwOk d.fwds xs = true ∧ hbOk d.held (fwSent d.fwds xs) = true ∧ rpOk d.plan (hbFree d.held (fwSent d.fwds xs)) = true := by
  obtain ⟨⟨hp, hf, hh, _⟩, hx⟩ := rdOk_iff.1 h
  have h1 : fwOk d.fwds xs = true := by unfold fwOk; rw [hf, hx]; rfl
  have h2 : hbOk d.held (fwSent d.fwds xs) = true := by
    unfold hbOk fwSent
    rw [if_pos h1, okB_sent hf hx, hh]; rfl
  refine ⟨h1, h2, ?_⟩
  unfold rpOk hbFree
  rw [if_pos h2, hp]
  have : okB (fwSent d.fwds xs) = true := by unfold hbOk at h2; rw [Bool.and_eq_true] at h2; exact h2.1
  exact okB_sub this List.filter_sublist
theorem dayRpt_eq {d : Dy} {xs : List Ltr} (h : rdOk d xs = true) : hbFree d.held (fwSent d.fwds xs) = freeL d.held (sentL d.fwds xs) ∧ (rptOf d xs).held = heldL d.held (sentL d.fwds xs) ∧ (rptOf d xs).stuck = stuckL d.fwds xs ∧ (rptOf d xs).round = rpRound d.plan (freeL d.held (sentL d.fwds xs)) ∧ (rptOf d xs).strange = restOf (fun x => binI d.plan x.code 0) (freeL d.held (sentL d.fwds xs)) ∧ rpOk d.plan (freeL d.held (sentL d.fwds xs)) = true ∧ okB (sentL d.fwds xs) = true := by
  obtain ⟨h1, h2, h3⟩ := day_steps h
  have e1 : fwSent d.fwds xs = sentL d.fwds xs := by unfold fwSent; rw [if_pos h1]
  have e2 : hbFree d.held (fwSent d.fwds xs) = freeL d.held (sentL d.fwds xs) := by unfold hbFree; rw [if_pos h2, e1]
  unfold rptOf
  rw [if_pos h]
  refine ⟨e2, ?_, ?_, ?_, ?_, ?_, ?_⟩
  · show hbHeld _ _ = _
    unfold hbHeld; rw [if_pos h2, e1]
  · show fwStuck _ _ = _
    unfold fwStuck; rw [if_pos h1]
  · show rpRound _ _ = _
    rw [e2]
  · show rpRest _ _ = _
    unfold rpRest; rw [if_pos h3, e2]
  · rw [← e2]; exact h3
  · have := h2; unfold hbOk at this; rw [Bool.and_eq_true, e1] at this; exact this.1
theorem okB_parts {d : Dy} {xs : List Ltr} (h : rdOk d xs = true) : okB (rptOf d xs).round = true ∧ okB (rptOf d xs).strange = true ∧ okB (rptOf d xs).held = true ∧ okB (rptOf d xs).stuck = true := by
  obtain ⟨_, e1, e2, e3, e4, h1, h2⟩ := dayRpt_eq h
  rw [e1, e2, e3, e4]
  have hf : okB (freeL d.held (sentL d.fwds xs)) = true := okB_sub h2 List.filter_sublist
  exact ⟨okB_rp h1, okB_sub hf List.filter_sublist, okB_sub h2 List.filter_sublist, okB_sub (rdOk_iff.1 h).2 List.filter_sublist⟩

/-! ### The fate of each letter -/
/-! ### No letter is lost -/
def allL (r : Rpt) : List Ltr := r.round ++ r.strange ++ r.held ++ r.stuck
theorem filter_parts {α : Type} (p : α → Bool) (xs : List α) : (xs.filter p ++ xs.filter fun x => !p x).Perm xs := by
  induction xs with
  | nil => exact .nil
  | cons x xs ih =>
    cases hp : p x
    · simp only [List.filter_cons, hp, Bool.not_false, if_true, Bool.false_eq_true, if_false]
      exact (List.perm_middle).trans (ih.cons x)
    · simp only [List.filter_cons, hp, Bool.not_true, if_true, Bool.false_eq_true, if_false, List.cons_append]
      exact ih.cons x
theorem ids_sent {fs : List Fwd} {xs : List Ltr} : (sentL fs xs).map Ltr.id = (xs.filter fun x => (follow fs x.code).2.2).map Ltr.id := by
  unfold sentL
  rw [List.map_map]
  rfl
theorem perm_of_ids {xs ys : List Ltr} (hx : okB xs = true) (hy : okB ys = true) (h : ∀ x, x ∈ xs ↔ x ∈ ys) : xs.Perm ys := by
  have key : ∀ {zs : List Ltr}, okB zs = true → zs.Nodup := fun {zs} hz => (okB_pw.1 hz).2.2.imp fun {a b} hab e => hab (by rw [e])
  exact (List.perm_ext_iff_of_nodup (key hx) (key hy)).2 h
theorem ids_all {d : Dy} {xs : List Ltr} (h : rdOk d xs = true) : ((allL (rptOf d xs)).map Ltr.id).Perm (xs.map Ltr.id) := by
  obtain ⟨_, e1, e2, e3, e4, h1, h2⟩ := dayRpt_eq h
  obtain ⟨⟨hp, hf, hh, hs⟩, hb⟩ := rdOk_iff.1 h
  have hpb := planOk_bins hp
  have hF : okB (freeL d.held (sentL d.fwds xs)) = true := okB_sub h2 List.filter_sublist
  unfold allL
  rw [e1, e2, e3, e4]
  obtain ⟨F, hFe⟩ : ∃ F, F = freeL d.held (sentL d.fwds xs) := ⟨_, rfl⟩
  rw [← hFe] at h1 hF ⊢
  have hR : (rpRound d.plan F ++ restOf (fun x => binI d.plan x.code 0) F).Perm F := by
    have hp1 : (rpRound d.plan F).Perm (F.filter fun x => decide (0 ≤ rkI d.plan.order x.code)) := perm_of_ids (okB_rp h1) (okB_sub hF List.filter_sublist) fun x => by
      rw [rp_mem h1, List.mem_filter, decide_eq_true_iff]
    have hp2 : restOf (fun x => binI d.plan x.code 0) F = F.filter fun x => !decide (0 ≤ rkI d.plan.order x.code) := by
      unfold restOf
      congr 1
      funext x
      have hb : binI d.plan x.code 0 < 0 ↔ rkI d.plan.order x.code < 0 := binI_rank hpb.1
      rw [← decide_not]
      refine decide_eq_decide.2 ?_
      show binI d.plan x.code 0 < 0 ↔ _
      omega
    rw [hp2]
    exact (hp1.append_right _).trans (filter_parts _ F)
  have hH : (F ++ heldL d.held (sentL d.fwds xs)).Perm (sentL d.fwds xs) := by
    rw [hFe]
    exact filter_parts _ _
  have hS : ((rpRound d.plan F ++ restOf (fun x => binI d.plan x.code 0) F ++ heldL d.held (sentL d.fwds xs)).map Ltr.id).Perm ((sentL d.fwds xs).map Ltr.id) := ((hR.append_right _).trans hH).map _
  rw [List.map_append]
  refine (hS.append_right _).trans ?_
  rw [ids_sent, ← List.map_append]
  exact (filter_parts _ _).map _
theorem nodup_ids {xs : List Ltr} : (xs.Pairwise fun x y => x.id ≠ y.id) ↔ (xs.map Ltr.id).Nodup := by
  unfold List.Nodup
  rw [List.pairwise_map]
theorem okB_all {d : Dy} {xs : List Ltr} (h : rdOk d xs = true) : okB (allL (rptOf d xs)) = true := by
  have hp := ids_all h
  obtain ⟨o1, o2, o3, o4⟩ := okB_parts h
  obtain ⟨h1, h2, h3⟩ := okB_pw.1 (rdOk_iff.1 h).2
  refine okB_pw.2 ⟨?_, ?_, ?_⟩
  · have := hp.length_eq
    rw [List.length_map, List.length_map] at this
    omega
  · intro x hx
    unfold allL at hx
    rcases List.mem_append.1 hx with hx | hx
    · rcases List.mem_append.1 hx with hx | hx
      · rcases List.mem_append.1 hx with hx | hx
        · exact (okB_pw.1 o1).2.1 x hx
        · exact (okB_pw.1 o2).2.1 x hx
      · exact (okB_pw.1 o3).2.1 x hx
    · exact (okB_pw.1 o4).2.1 x hx
  · rw [nodup_ids, hp.nodup_iff, ← nodup_ids]
    exact h3
end Go.Proofs.YtpinkbodbedajaaGreatDoor

namespace Go.Proofs.YtpinkbodbedajaaGreatDoor
open Go.RowKit


end Go.Proofs.YtpinkbodbedajaaGreatDoor

namespace Go.Proofs.YtpinkbodbedajaaGreatDoor
open Go.RowKit Go.ChangeShapes Go.WideShapes Go.Deep

/-- Whatever reads at type t reads as some x of α. -/
def Opens (P : Program) (t : TypeId) (α : Type) [El α] : Prop :=
  ∀ {H : Type} (enc : TypeId × Value → H) (w : World) (spare : Nat → Bool) (held : Bool) (fuel : Nat) (cs : List Value) (x : DataW H × List MemPlace),
    DataW.trod enc P w 0 spare held fuel t cs = some x → ∃ y : α, El.el w w.heap.size y cs

theorem list_of {α : Type} {p : Nat → α → Prop} : ∀ {n : Nat}, (∀ i, i < n → ∃ y, p i y) → ∃ xs : List α, xs.length = n ∧ ∀ i (h : i < xs.length), p i xs[i]
  | 0, _ => ⟨[], rfl, fun i h => absurd h (Nat.not_lt_zero i)⟩
  | n + 1, h => by
    obtain ⟨xs, hl, hp⟩ := list_of (n := n) (fun i hi => h i (by omega))
    obtain ⟨y, hy⟩ := h n (by omega)
    refine ⟨xs ++ [y], by simp [hl], fun i hi => ?_⟩
    by_cases hin : i < xs.length
    · rw [List.getElem_append_left hin]
      exact hp i hin
    · have : i = n := by simp at hi; omega
      subst this
      rw [List.getElem_append_right (by omega)]
      simpa [hl] using hy

theorem opens_row {α : Type} [El α] {P : Program} {t e : TypeId} (ht : P.underlying t = some (.slice e)) (hc : P.cellsOf e = El.size α) (hs : 0 < El.size α) (ho : Opens P e α)
    {H : Type} {enc : TypeId × Value → H} {w : World} {spare : Nat → Bool} {held : Bool} {fuel : Nat} {v : Value} {x : DataW H × List MemPlace}
    (h : DataW.trod enc P w 0 spare held fuel t [v] = some x) : ∃ xs : List α, rd w w.heap.size v xs := by
  rcases open_slice ht h with ⟨h0, _⟩ | ⟨a, len, cap, m, n, D, Pl, hcs, hb, hl, hm, hmm, hx, hi⟩
  · injection h0 with h0
    subst h0
    exact ⟨[], rd.nil_⟩
  · injection hcs with hv
    subst hv
    obtain ⟨xs, hxl, hxp⟩ := list_of (n := len) (p := fun i (y : α) => ∃ cs : List Value, El.el w w.heap.size y cs ∧ ∀ j u, cs[j]? = some u → w.cell? (a.add (i * El.size α + j)) = some u) (fun i hil => by
      obtain ⟨cs', hcc, hd⟩ := hi i (by rw [hmm]; split <;> omega)
      obtain ⟨y, hy⟩ := ho enc w spare held n cs' _ hd
      obtain ⟨_, hcl, hat⟩ := World.cells?_some hcc
      refine ⟨y, cs', hy, fun j u hu => ?_⟩
      have hj : j < P.cellsOf e := by
        rw [← hcl]
        exact (List.getElem?_eq_some_iff.1 hu).1
      have := hat j hj
      rw [← add_add, ← hc, this, hu])
    refine ⟨xs, some a, len, cap, rfl, hxl.symm, hl, hm, fun k hk => ?_⟩
    obtain ⟨cs, hel, hcell⟩ := hxp k hk
    have h0 : cs[0]? = some (cs[0]'(by rw [El.len hel]; exact hs)) := List.getElem?_eq_getElem _
    obtain ⟨b, o, spot⟩ := a
    have hc0 := hcell 0 _ h0
    have hspot : spot = none := by
      have h1 := hxp 0 (by omega)
      obtain ⟨cs1, hel1, hcell1⟩ := h1
      have h01 : cs1[0]? = some (cs1[0]'(by rw [El.len hel1]; exact hs)) := List.getElem?_eq_getElem _
      have := World.cell?_spot (hcell1 0 _ h01)
      simpa [Addr.add] using this
    subst hspot
    have hlt := World.block_lt_of_cell? _ _ hc0
    rw [block_of_add] at hlt
    exact ⟨b, o, cs, rfl, hlt, hel, fun j u hu => by have := hcell j u hu; rwa [add_lit] at this⟩

end Go.Proofs.YtpinkbodbedajaaGreatDoor

namespace Go.Proofs.YtpinkbodbedajaaGreatDoor
open Go.ChangeShapes Go.WideShapes Go.ChangeAt Go.RowKit

theorem opensByte : Opens Tryz.prog 5 UInt8 := by
  intro H enc w spare held fuel cs x h
  obtain ⟨n, rfl, _, wf⟩ := DataW.trod_int Tryz.underlying5 h
  simp [Lit.wf, IntKind.min, IntKind.max, IntKind.signed, IntKind.bits] at wf
  refine ⟨UInt8.ofNat n.toNat, ?_⟩
  show [Value.int .u8 n] = [Value.int .u8 ((UInt8.ofNat n.toNat).toNat : Int)]
  rw [UInt8.toNat_ofNat_of_lt' (by show n.toNat < 256; omega)]
  congr 2
  omega

end Go.Proofs.YtpinkbodbedajaaGreatDoor
