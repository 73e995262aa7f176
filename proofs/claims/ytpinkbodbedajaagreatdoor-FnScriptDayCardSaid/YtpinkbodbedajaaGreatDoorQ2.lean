/- F0 B1 E2 D0 W3 FL BM -/
import Derived.Test.YtpinkbodbedajaaGreatDoorQ1
import Derived.Laws.BitsAllLaws
import Derived.Laws.BitsLemmas
import Derived.Deep.RegionHeld3
import Derived.StillTailTactics
import Derived.Handy
namespace Go.Proofs.YtpinkbodbedajaaGreatDoor
open Go.RowKit

/-- The index of the first element with p; -1 if there is none. -/
def fiI {α : Type} (p : α → Bool) (xs : List α) : Int := if xs.findIdx p < xs.length then (xs.findIdx p : Int) else -1
theorem fiI_at {α : Type} {p : α → Bool} {xs : List α} {k : Nat} (h : k < xs.length) (h1 : ∀ j (hj : j < xs.length), j < k → p xs[j] = false) (h2 : p xs[k] = true) : fiI p xs = k := by
  have e : xs.findIdx p = k := (List.findIdx_eq h).2 ⟨h2, fun j hj => by simpa using h1 j (by omega) hj⟩
  unfold fiI
  rw [e, if_pos h]
theorem fiI_none {α : Type} {p : α → Bool} {xs : List α} (h : ∀ j (hj : j < xs.length), p xs[j] = false) : fiI p xs = -1 := by
  have e : xs.findIdx p = xs.length := List.findIdx_eq_length.2 fun x hx => by
    obtain ⟨j, hj, rfl⟩ := List.getElem_of_mem hx
    exact h j hj
  unfold fiI
  rw [e, if_neg (by omega)]
theorem fiI_range {α : Type} (p : α → Bool) (xs : List α) : -1 ≤ fiI p xs ∧ fiI p xs < xs.length := by
  unfold fiI; split <;> omega
theorem fiI_spec {α : Type} {p : α → Bool} {xs : List α} {k : Nat} (h : fiI p xs = k) : ∃ hk : k < xs.length, p xs[k] = true ∧ ∀ j (hj : j < xs.length), j < k → p xs[j] = false := by
  unfold fiI at h
  split at h
  · rename_i hlt
    have e : xs.findIdx p = k := by omega
    subst e
    exact ⟨hlt, by simpa using List.findIdx_getElem (w := hlt), fun j hj hjk => by simpa using List.not_of_lt_findIdx hjk⟩
  · omega
theorem fiI_neg {α : Type} {p : α → Bool} {xs : List α} (h : fiI p xs < 0) : ∀ x ∈ xs, p x = false := by
  unfold fiI at h
  split at h
  · omega
  · rename_i hlt
    intro x hx
    cases hp : p x
    · rfl
    · exact absurd (List.findIdx_lt_length_of_exists ⟨x, hx, hp⟩) hlt
theorem fiI_ge {α : Type} (p : α → Bool) (xs : List α) : decide (0 ≤ fiI p xs) = !xs.all (fun y => !p y) := by
  by_cases h : fiI p xs < 0
  · rw [decide_eq_false (by omega), List.all_eq_true.2 (fun x hx => by rw [fiI_neg h x hx]; rfl)]; rfl
  · replace h : 0 ≤ fiI p xs := by omega
    obtain ⟨k, hk⟩ := Int.eq_ofNat_of_zero_le h
    obtain ⟨h1, h2, _⟩ := fiI_spec hk
    rw [decide_eq_true h, List.all_eq_false.2 ⟨xs[k], List.getElem_mem _, by simp [h2]⟩]; rfl
theorem fiI_self {α : Type} {p : α → Bool} {xs : List α} {k : Nat} (h : k < xs.length) (hp : p xs[k] = true) : (fiI p xs == (k : Int)) = (xs.take k).all (fun y => !p y) := by
  by_cases ha : (xs.take k).all (fun y => !p y) = true
  · rw [ha, beq_iff_eq]
    refine fiI_at h (fun j hj hjk => ?_) hp
    have := List.all_eq_true.1 ha xs[j] (by rw [List.mem_take_iff_getElem]; exact ⟨j, by omega, rfl⟩)
    simpa using this
  · rw [Bool.not_eq_true] at ha
    rw [ha, beq_eq_false_iff_ne]
    intro e
    obtain ⟨_, _, h3⟩ := fiI_spec e
    obtain ⟨x, hx, hpx⟩ := List.all_eq_false.1 ha
    rw [List.mem_take_iff_getElem] at hx
    obtain ⟨j, hj, rfl⟩ := hx
    rw [h3 j (by omega) (by omega)] at hpx
    simp at hpx

/-- The order for a code. -/
def fwdI (fs : List Fwd) (c : ByteArray) : Int := fiI (fun x => sEq x.src c) fs
def fwdTo (fs : List Fwd) (c : ByteArray) : ByteArray := ((fs[(fwdI fs c).toNat]?).map Fwd.dst).getD ⟨#[]⟩
/-- Orders followed: where letters arrive, behind how many orders, whether. -/
def followN (fs : List Fwd) : Nat → ByteArray → Nat → ByteArray × Nat × Bool
  | 0, _, _ => (⟨#[]⟩, 0, false)
  | f + 1, c, n => if fwdI fs c < 0 then (c, n, true) else followN fs f (fwdTo fs c) (n + 1)
def follow (fs : List Fwd) (c : ByteArray) : ByteArray × Nat × Bool := followN fs (fs.length + 1) c 0
theorem fwdTo_at {fs : List Fwd} {c : ByteArray} {k : Nat} (h : fwdI fs c = k) (hk : k < fs.length) : fwdTo fs c = fs[k].dst := by
  unfold fwdTo; rw [h, Int.toNat_natCast, List.getElem?_eq_getElem hk]; rfl
theorem followN_size {fs : List Fwd} (hf : ∀ x ∈ fs, x.dst.size ≤ maxLen) : ∀ (f : Nat) (c : ByteArray) (n : Nat), c.size ≤ maxLen → (followN fs f c n).1.size ≤ maxLen ∧ (followN fs f c n).2.1 ≤ n + f
  | 0, c, n, _ => ⟨Nat.zero_le _, Nat.zero_le _⟩
  | f + 1, c, n, hc => by
    unfold followN
    split
    · exact ⟨hc, by simp⟩
    · have h := followN_size hf f (fwdTo fs c) (n + 1) (by
        unfold fwdTo
        cases hx : fs[(fwdI fs c).toNat]? with
        | none => exact Nat.zero_le _
        | some x => exact hf x (List.mem_of_getElem? hx))
      exact ⟨h.1, by omega⟩

def goodF (fs : List Fwd) (k : Nat) : Bool :=
  match fs[k]? with
  | none => false
  | some x => isCode x.src && isCode x.dst && (fs.take k).all (fun y => !sEq y.src x.src)
def fwdsOk (fs : List Fwd) : Bool := decide (fs.length ≤ 30) && (List.range fs.length).all (goodF fs)
theorem goodF_of {fs : List Fwd} {k : Nat} (hk : k < fs.length) : goodF fs k = (isCode fs[k].src && isCode fs[k].dst && (fs.take k).all (fun y => !sEq y.src fs[k].src)) := by
  unfold goodF; rw [List.getElem?_eq_getElem hk]
theorem fwdsOk_bad {fs : List Fwd} {k : Nat} (hk : k < fs.length) (h : goodF fs k = false) : fwdsOk fs = false := by
  unfold fwdsOk
  rw [Bool.and_eq_false_iff]
  exact .inr (List.all_eq_false.2 ⟨k, by simpa using hk, by simp [h]⟩)
theorem fwdsOk_good {fs : List Fwd} (h30 : fs.length ≤ 30) (h : ∀ j, j < fs.length → goodF fs j = true) : fwdsOk fs = true := by
  unfold fwdsOk
  rw [decide_eq_true h30]
  exact List.all_eq_true.2 fun k hk => h k (by simpa using hk)
theorem fwdsOk_len {fs : List Fwd} (h : ¬ fs.length ≤ 30) : fwdsOk fs = false := by unfold fwdsOk; rw [decide_eq_false h]; rfl
theorem fwdsOk_iff {fs : List Fwd} : fwdsOk fs = true ↔ fs.length ≤ 30 ∧ ∀ k (h : k < fs.length), isCode fs[k].src = true ∧ isCode fs[k].dst = true ∧ ∀ j (hj : j < k), fs[j].src ≠ fs[k].src := by
  unfold fwdsOk
  rw [Bool.and_eq_true, decide_eq_true_iff, List.all_eq_true]
  refine and_congr Iff.rfl ⟨fun h k hk => ?_, fun h k hk => ?_⟩
  · have := h k (by simpa using hk)
    rw [goodF_of hk] at this
    simp only [Bool.and_eq_true] at this
    refine ⟨this.1.1, this.1.2, fun j hj => ?_⟩
    have hh := List.all_eq_true.1 this.2 fs[j] (by rw [List.mem_take_iff_getElem]; exact ⟨j, by omega, rfl⟩)
    simp only [Bool.not_eq_true'] at hh
    exact sEq_false.1 hh
  · have hk' : k < fs.length := by simpa using hk
    obtain ⟨h1, h2, h3⟩ := h k hk'
    rw [goodF_of hk']
    simp only [Bool.and_eq_true]
    refine ⟨⟨h1, h2⟩, List.all_eq_true.2 fun y hy => ?_⟩
    rw [List.mem_take_iff_getElem] at hy
    obtain ⟨j, hj, rfl⟩ := hy
    simp only [Bool.not_eq_true']
    exact sEq_false.2 (h3 j (by omega))
/-- Held codes. -/
def heldOk (hs : List ByteArray) : Bool := decide (hs.length ≤ 30) && hs.all isCode
def sizeOk (n : Int) : Bool := decide (1 ≤ n) && decide (n ≤ 20)
structure Dy where
  plan : Pln
  fwds : List Fwd
  held : List ByteArray
  size : Int
def dayOk (d : Dy) : Bool := planOk d.plan && fwdsOk d.fwds && heldOk d.held && sizeOk d.size
def rdD (w : World) (B : Nat) (v : Value) (d : Dy) : Prop :=
  ∃ vo vf vh, v = .agg #[.int .i64 d.plan.bins, .int .i64 d.plan.passes, vo, vf, vh, .int .i64 d.size] ∧ isI64 d.plan.bins ∧ isI64 d.plan.passes ∧ isI64 d.size ∧ rd w B vo d.plan.order ∧ rd w B vf d.fwds ∧ rd w B vh d.held
theorem rdD.below {w w' : World} {B : Nat} {v : Value} {d : Dy} (h : rdD w B v d) (hb : Below B w w') : rdD w' B v d := by
  obtain ⟨vo, vf, vh, h1, h2, h3, h4, h5, h6, h7⟩ := h
  exact ⟨vo, vf, vh, h1, h2, h3, h4, h5.below hb, h6.below hb, h7.below hb⟩
theorem rdD.more {w : World} {B B' : Nat} {v : Value} {d : Dy} (h : rdD w B v d) (hB : B ≤ B') : rdD w B' v d := by
  obtain ⟨vo, vf, vh, h1, h2, h3, h4, h5, h6, h7⟩ := h
  exact ⟨vo, vf, vh, h1, h2, h3, h4, h5.more hB, h6.more hB, h7.more hB⟩
theorem rdD.on {w w' : World} {v : Value} {d : Dy} (h : rdD w w.heap.size v d) (hb : Below w.heap.size w w') : rdD w' w'.heap.size v d := (h.below hb).more hb.size
theorem openD {w : World} {B : Nat} {v : Value} {d : Dy} (h : rdD w B v d) : ∃ A0 c0 A1 c1 A2 c2, v = .agg #[.int .i64 d.plan.bins, .int .i64 d.plan.passes, .slice A0 d.plan.order.length c0, .slice A1 d.fwds.length c1, .slice A2 d.held.length c2, .int .i64 d.size] := by
  obtain ⟨vo, vf, vh, rfl, _, _, _, ⟨A, n, c, rfl, rfl, _⟩, ⟨A', n', c', rfl, rfl, _⟩, ⟨A'', n'', c'', rfl, rfl, _⟩⟩ := h
  exact ⟨A, c, A', c', A'', c'', rfl⟩
/-- The parts of a day whose value is written out. -/
theorem partsD {w : World} {B : Nat} {d : Dy} {A0 A1 A2 : Option Addr} {c0 c1 c2 : Nat} (h : rdD w B (.agg #[.int .i64 d.plan.bins, .int .i64 d.plan.passes, .slice A0 d.plan.order.length c0, .slice A1 d.fwds.length c1, .slice A2 d.held.length c2, .int .i64 d.size]) d) :
    rdP w B (.agg #[.int .i64 d.plan.bins, .int .i64 d.plan.passes, .slice A0 d.plan.order.length c0]) d.plan ∧ rd w B (.slice A0 d.plan.order.length c0) d.plan.order ∧ rd w B (.slice A1 d.fwds.length c1) d.fwds ∧ rd w B (.slice A2 d.held.length c2) d.held ∧ isI64 d.size := by
  obtain ⟨vo, vf, vh, h1, h2, h3, h4, h5, h6, h7⟩ := h
  injection h1 with h1
  injection h1 with h1
  simp only [List.cons.injEq, and_true, true_and] at h1
  obtain ⟨rfl, rfl, rfl⟩ := h1
  exact ⟨⟨_, rfl, h2, h3, h5⟩, h5, h6, h7, h4⟩
def ownD (T1 T2 base : Nat) (w : World) (v : Value) (d : Dy) : Prop :=
  ∃ vo vf vh, v = .agg #[.int .i64 d.plan.bins, .int .i64 d.plan.passes, vo, vf, vh, .int .i64 d.size] ∧ isI64 d.plan.bins ∧ isI64 d.plan.passes ∧ isI64 d.size ∧ own T1 base w vo d.plan.order ∧ own T2 base w vf d.fwds ∧ own T1 base w vh d.held ∧ (apart vo vf ∧ apart vo vh ∧ apart vf vh)
theorem ownD.rd {T1 T2 base : Nat} {w : World} {v : Value} {d : Dy} (h : ownD T1 T2 base w v d) : rdD w w.heap.size v d := by
  obtain ⟨vo, vf, vh, h1, h2, h3, h4, h5, h6, h7, _⟩ := h
  exact ⟨vo, vf, vh, h1, h2, h3, h4, h5.rd, h6.rd, h7.rd⟩
theorem ownD.below {T1 T2 base : Nat} {w w' : World} {v : Value} {d : Dy} (h : ownD T1 T2 base w v d) (hb : Below w.heap.size w w') : ownD T1 T2 base w' v d := by
  obtain ⟨vo, vf, vh, h1, h2, h3, h4, h5, h6, h7, h8⟩ := h
  exact ⟨vo, vf, vh, h1, h2, h3, h4, h5.below hb, h6.below hb, h7.below hb, h8⟩

end Go.Proofs.YtpinkbodbedajaaGreatDoor

namespace Go.Proofs.YtpinkbodbedajaaGreatDoor
open Go.RowKit

set_option maxHeartbeats 400000 in
theorem impl_BatchValid (v : Value) (xs : List Ltr) (w : World) (hv : rd w w.heap.size v xs) :
    Calls Tryz.prog 48 #[v] w fun e w' => e = .returned (.bool (okB xs)) ∧ Below w.heap.size w w' := by
  obtain ⟨A, n, c, rfl, hn, hc, hm, hr⟩ := hv
  subst hn
  unfold maxLen at hm
  have HR := Lib.hid hr; clear hr
  go_enter Tryz.func48, Tryz.ntmps48
  by_cases h60 : 60 < xs.length
  · go_wp2
    go_ret
    exact ⟨ret_bool (by unfold okB; simp; omega), Below.refl _ _⟩
  · go_wp2
    go_loopw [12] (fun i wr => ∃ k : Nat, k ≤ xs.length ∧ i = .int .i64 k ∧ Below w.heap.size w wr ∧ Hid (∀ j, j < k → goodL xs j = true)) (fun i _ => xs.length - (intOf i).toNat)
    case atStart => exact ⟨0, Nat.zero_le _, rfl, Below.refl _ _, fun j hj => absurd hj (Nat.not_lt_zero j)⟩
    case round =>
      obtain ⟨k, hk, rfl, hbl, HG⟩ := hrel
      obtain ⟨w1, rfl⟩ : ∃ w1 : World, w1 = wr := ⟨_, rfl⟩
      have hsz := hbl.size
      by_cases hlt : k < xs.length
      · obtain ⟨b, o, rfl, hb, ⟨⟨o1, o2⟩, o3⟩, c1, c2⟩ := HR.out.ltr k hlt
        have hG := Lib.hid (goodL_of hlt)
        have hbad := Lib.hid (fun h => okB_bad hlt h)
        have HX : Hid (∀ j (h : j < k), xs[j] = xs[j]'(by omega)) := fun _ _ => rfl
        have HT : Hid (xs.take k = xs.take k) := rfl
        generalize hx : xs[k] = x at *
        have HXK := Lib.hid hx; clear hx
        have c1' : w1.cell? ⟨b, o + k * 2, none⟩ = some (.int .i64 x.id) := (hbl.cell (p := ⟨b, o + k * 2, none⟩) hb).trans c1
        have c2' : w1.cell? ⟨b, o + k * 2 + 1, none⟩ = some (.string x.code) := (hbl.cell (p := ⟨b, o + k * 2 + 1, none⟩) hb).trans c2
        clear c1 c2
        by_cases h1 : x.id < 1
        · go_wp2
          go_ret
          exact ⟨ret_bool (hbad.out (by rw [hG.out]; simp; omega)).symm, hbl.alloc hsz _⟩
        by_cases h2 : 9999 < x.id
        · go_wp2
          go_ret
          exact ⟨ret_bool (hbad.out (by rw [hG.out]; simp; omega)).symm, hbl.alloc hsz _⟩
        cases hcd : isCode x.code
        · have hcd' := Lib.hid hcd; clear hcd
          go_wp2_with (go_at_call 75; refine (impl_CodeValid _ _ o3).mono ?_; rw [hcd'.out]; rintro e w' ⟨rfl, rfl⟩)
          go_ret
          exact ⟨ret_bool (hbad.out (by rw [hG.out, hcd'.out]; simp)).symm, hbl.alloc hsz _⟩
        · have hcd' := Lib.hid hcd; clear hcd
          go_wp2_with (go_at_call 75; refine (impl_CodeValid _ _ o3).mono ?_; rw [hcd'.out]; rintro e w' ⟨rfl, rfl⟩)
          obtain ⟨wo, hwo⟩ : ∃ wo : World, wo = w1.alloc (Obj.cells #[Value.int IntKind.i64 x.id, Value.string x.code] 89) := ⟨_, rfl⟩
          have g1 : wo.cell? ⟨w1.heap.size, 0, none⟩ = some (.int .i64 x.id) := by subst hwo; simp [go_sem]
          have hwz : wo.heap.size = w1.heap.size + 1 := by subst hwo; simp
          have hbo : Below w.heap.size w wo := by subst hwo; exact hbl.alloc hsz _
          rw [← hwo]
          have HZ := Lib.hid hwz
          have hwz2 : w1.heap.size < wo.heap.size := by omega
          clear hwo hwz
          go_loopw [35] (fun i wi => ∃ m : Nat, m ≤ k ∧ i = .int .i64 m ∧ Below wo.heap.size wo wi ∧ Hid ((xs.take m).all (fun y => y.id != x.id) = true)) (fun i _ => k - (intOf i).toNat)
          case atStart => exact ⟨0, Nat.zero_le _, rfl, Below.refl _ _, rfl⟩
          case round =>
            obtain ⟨m, hm, rfl, hbi, HA⟩ := hrel
            have hsi := hbi.size
            have hw2 := hbo.size
            have hw3 : w1.heap.size < wr.heap.size := by omega
            have hbw : Below w.heap.size w wr := hbo.trans (hbi.mono hw2)
            have g1' : wr.cell? ⟨w1.heap.size, 0, none⟩ = some (.int .i64 x.id) := (hbi.cell (p := ⟨w1.heap.size, 0, none⟩) hwz2).trans g1
            clear g1
            by_cases hmk : m < k
            · obtain ⟨b', o', hA, _, ⟨⟨p1, p2⟩, p3⟩, d1, d2⟩ := HR.out.ltr m (by omega)
              have hT := Lib.hid (take_all_succ (p := fun y : Ltr => y.id != x.id) xs m (by omega))
              have hI := Lib.hid (take_all_bad (p := fun y : Ltr => y.id != x.id) xs m k (by omega) hmk)
              generalize xs[m] = y at *
              injection hA with hA
              injection hA with hA1 hA2
              subst hA1 hA2
              have d1' : wr.cell? ⟨b, o + m * 2, none⟩ = some (.int .i64 y.id) := (hbw.cell (p := ⟨b, o + m * 2, none⟩) hb).trans d1
              have d2' : wr.cell? ⟨b, o + m * 2 + 1, none⟩ = some (.string y.code) := (hbw.cell (p := ⟨b, o + m * 2 + 1, none⟩) hb).trans d2
              clear d1 d2
              by_cases hyx : y.id = x.id
              · have hyx' : (y.id == x.id) = true := by simpa using hyx
                have HY := Lib.hid hyx; clear hyx
                go_wp2
                go_ret
                exact ⟨ret_bool (hbad.out (by rw [hG.out, hI.out (by simp [HY.out])]; simp)).symm, hbw.alloc (by omega) _⟩
              · have hyx' : (y.id == x.id) = false := by simpa using hyx
                have HY := Lib.hid hyx; clear hyx
                go_wp2
                go_roundw
                case rel => exact ⟨m + 1, by omega, by go_num, hbi.alloc hsi _, by show _ = true; rw [hT.out, HA.out]; simpa using HY.out⟩
                case measure => simp [intOf]; omega
            · have hme : m = k := by omega
              have HE := Lib.hid hme; clear hme
              go_wp2
              go_roundw
              case rel =>
                refine ⟨k + 1, by omega, by go_num, hbw, fun j hj => ?_⟩
                by_cases hjk : j < k
                · exact HG.out j hjk
                · obtain rfl : j = k := by omega
                  rw [hG.out, hcd'.out, ← HE.out, HA.out]; simp; omega
              case measure => simp [intOf]; omega
      · have hke : k = xs.length := by omega
        have HE := Lib.hid hke; clear hke
        go_wp2
        go_ret
        exact ⟨ret_bool (okB_good (by omega) (by rw [← HE.out]; exact HG.out)).symm, hbl⟩

set_option maxHeartbeats 400000 in
theorem spec_BatchValid (v : Value) (xs : List Ltr) (w : World) (hv : rd w w.heap.size v xs) :
    Calls Tryz.prog 52 #[v] w fun e w' => e = .returned (.bool (okB xs)) ∧ Below w.heap.size w w' := by
  obtain ⟨A, n, c, rfl, hn, hc, hm, hr⟩ := hv
  subst hn
  unfold maxLen at hm
  have HR := Lib.hid hr; clear hr
  go_enter Tryz.func52, Tryz.ntmps52
  go_wp2
  go_loopw [3] (fun i wr => ∃ k : Nat, k ≤ xs.length ∧ i = .int .i64 k ∧ Below w.heap.size w wr ∧ Hid (∀ j, j < k → goodL xs j = true)) (fun i _ => xs.length - (intOf i).toNat)
  case atStart => exact ⟨0, Nat.zero_le _, rfl, Below.refl _ _, fun j hj => absurd hj (Nat.not_lt_zero j)⟩
  case round =>
    obtain ⟨k, hk, rfl, hbl, HG⟩ := hrel
    obtain ⟨w1, rfl⟩ : ∃ w1 : World, w1 = wr := ⟨_, rfl⟩
    have hsz := hbl.size
    by_cases hlt : k < xs.length
    · obtain ⟨b, o, rfl, hb, ⟨⟨o1, o2⟩, o3⟩, c1, c2⟩ := HR.out.ltr k hlt
      have hG := Lib.hid (goodL_of hlt)
      have hbad := Lib.hid (fun h => okB_bad hlt h)
      generalize hx : xs[k] = x at *
      have HXK := Lib.hid hx; clear hx
      have c1' : w1.cell? ⟨b, o + k * 2, none⟩ = some (.int .i64 x.id) := (hbl.cell (p := ⟨b, o + k * 2, none⟩) hb).trans c1
      have c2' : w1.cell? ⟨b, o + k * 2 + 1, none⟩ = some (.string x.code) := (hbl.cell (p := ⟨b, o + k * 2 + 1, none⟩) hb).trans c2
      cases hcd : isCode x.code
      · have hcd' := Lib.hid hcd; clear hcd
        go_wp2_with (go_at_call 88; refine (spec_CodeValid _ _ o3).mono ?_; rw [hcd'.out]; rintro e w' ⟨rfl, rfl⟩)
        go_ret
        exact ⟨ret_bool (hbad.out (by rw [hG.out, hcd'.out]; simp)).symm, hbl⟩
      have hcd' := Lib.hid hcd; clear hcd
      cases hid : (decide (1 ≤ x.id) && decide (x.id ≤ 9999))
      · have hid' := Lib.hid hid; clear hid
        go_wp2_with (first | (go_at_call 88; refine (spec_CodeValid _ _ o3).mono ?_; rw [hcd'.out]; rintro e w' ⟨rfl, rfl⟩) | (go_at_call 115; refine (spec_l1In _ _ _ _).mono ?_; rw [hid'.out]; rintro e w' ⟨rfl, rfl⟩))
        go_ret
        exact ⟨ret_bool (hbad.out (by rw [hG.out, hid'.out]; simp)).symm, hbl⟩
      have hid' := Lib.hid hid; clear hid
      go_wp2_with (first | (go_at_call 88; refine (spec_CodeValid _ _ o3).mono ?_; rw [hcd'.out]; rintro e w' ⟨rfl, rfl⟩) | (go_at_call 115; refine (spec_l1In _ _ _ _).mono ?_; rw [hid'.out]; rintro e w' ⟨rfl, rfl⟩))
      go_loopw [4] (fun i wr => ∃ m : Nat, m ≤ k ∧ i = .int .i64 m ∧ Below w.heap.size w wr ∧ Hid ((xs.take m).all (fun y => y.id != x.id) = true)) (fun i _ => k - (intOf i).toNat)
      case atStart => exact ⟨0, Nat.zero_le _, rfl, hbl, rfl⟩
      case round =>
        obtain ⟨m, hm', rfl, hbw, HA⟩ := hrel
        have hsi := hbw.size
        clear c1' c2'
        have c1' : wr.cell? ⟨b, o + k * 2, none⟩ = some (.int .i64 x.id) := (hbw.cell (p := ⟨b, o + k * 2, none⟩) hb).trans c1
        by_cases hmk : m < k
        · obtain ⟨b', o', hA, _, _, d1, d2⟩ := HR.out.ltr m (by omega)
          have hT := Lib.hid (take_all_succ (p := fun y : Ltr => y.id != x.id) xs m (by omega))
          have hI := Lib.hid (take_all_bad (p := fun y : Ltr => y.id != x.id) xs m k (by omega) hmk)
          generalize xs[m] = y at *
          injection hA with hA
          injection hA with hA1 hA2
          subst hA1 hA2
          have d1' : wr.cell? ⟨b, o + m * 2, none⟩ = some (.int .i64 y.id) := (hbw.cell (p := ⟨b, o + m * 2, none⟩) hb).trans d1
          clear d1 d2 c1 c2
          have hml : (m : Int) < (xs.length : Int) := by omega
          have hkl : (k : Int) < (xs.length : Int) := by omega
          by_cases hyx : y.id = x.id
          · have hyx' : (y.id == x.id) = true := by simpa using hyx
            have HY := Lib.hid hyx; clear hyx
            go_wp2
            go_quiet (fail)
            go_wp2
            go_ret
            exact ⟨ret_bool (hbad.out (by rw [hG.out, hI.out (by simp [HY.out])]; simp)).symm, below_drewN hbw _⟩
          · have hyx' : (y.id == x.id) = false := by simpa using hyx
            have HY := Lib.hid hyx; clear hyx
            go_wp2
            go_quiet (fail)
            go_wp2
            go_roundw
            case rel => exact ⟨m + 1, by omega, by go_num, below_drewN hbw _, by show _ = true; rw [hT.out, HA.out]; simpa using HY.out⟩
            case measure => simp [intOf]; omega
        · have hme : m = k := by omega
          have HE := Lib.hid hme; clear hme
          go_wp2
          go_roundw
          case rel =>
            refine ⟨k + 1, by omega, by go_num, hbw, fun j hj => ?_⟩
            by_cases hjk : j < k
            · exact HG.out j hjk
            · obtain rfl : j = k := by omega
              rw [hG.out, hcd'.out, ← HE.out, HA.out, hid'.out]; rfl
          case measure => simp [intOf]; omega
    · have hke : k = xs.length := by omega
      have HE := Lib.hid hke; clear hke
      go_wp2
      go_ret
      exact ⟨ret_bool (by
        by_cases h60 : xs.length ≤ 60
        · rw [okB_good h60 (by rw [← HE.out]; exact HG.out), decide_eq_true (by omega)]
        · rw [decide_eq_false (by omega)]; unfold okB; rw [decide_eq_false h60]; rfl), hbl⟩

end Go.Proofs.YtpinkbodbedajaaGreatDoor

namespace Go.Proofs.YtpinkbodbedajaaGreatDoor
open Go.RowKit

theorem Tryz.infoLtr : (Tryz.prog.info? 89).map (fun i => (i.zero, i.size, i.bytes)) = some (some (.agg #[.int .i64 0, .string ⟨#[]⟩]), 2, 24) := by kernel_rfl


/-- The decimal digits of a number; none of 0. -/
def dec10 : Nat → List UInt8
  | 0 => []
  | n + 1 => dec10 ((n + 1) / 10) ++ [UInt8.ofNat (48 + (n + 1) % 10)]
  decreasing_by omega
theorem dec10_step {n : Nat} (h : 0 < n) : dec10 n = dec10 (n / 10) ++ [UInt8.ofNat (48 + n % 10)] := by
  cases n with
  | zero => omega
  | succ n => rw [dec10]
/-- 'byte(n)' -/
def b8 (n : Int) : UInt8 := UInt8.ofNat n.toNat
/-- 'string([]byte{x})' -/
theorem byteString (W : World) (n : Int) : (convert 22 9 (.slice (some ⟨W.heap.size, 0, none⟩) 1 1)).run Tryz.prog (W.alloc (.cells #[.int .u8 n] 5)) = .ok (.string ⟨#[b8 n]⟩) (W.alloc (.cells #[.int .u8 n] 5)) := by
  rw [run_convert_bytes_string _ _ _ 5 _ _ _ Tryz.underlying22 Tryz.underlying5 Tryz.underlying9]
  rw [run_bytesToString _ _ _ _ [n] (by
    refine run_loadCells_list _ _ [Value.int .u8 n] fun j v hj => ?_
    rw [add_lit, Nat.zero_add, cell_new]
    simpa using hj)]
  rfl
theorem ba_ext {a b : ByteArray} (h : a.data.toList = b.data.toList) : a = b := WideShapes.bytes_inj h
theorem ba_append (a b : ByteArray) : (a ++ b).data.toList = a.data.toList ++ b.data.toList := by simp


end Go.Proofs.YtpinkbodbedajaaGreatDoor

namespace Go.Proofs.YtpinkbodbedajaaGreatDoor
open Go.RowKit

instance elByte : El UInt8 where
  size := 1
  el _ _ x cs := cs = [.int .u8 x.toNat]
  len h := by rw [h]; rfl
  more h _ := h
  keep h _ := h
  one h := by rw [h]; intro u hu; simp at hu; rw [hu]; rfl
instance flatByte : Flat UInt8 where
  free h := h
instance elInt : El Int where
  size := 1
  el _ _ x cs := isI64 x ∧ cs = [.int .i64 x]
  len h := by rw [h.2]; rfl
  more h _ := h
  keep h _ := h
  one h := by rw [h.2]; intro u hu; simp at hu; rw [hu]; rfl
instance flatInt : Flat Int where
  free h := h
theorem rdA.byte {w : World} {B : Nat} {A : Option Addr} {xs : List UInt8} (h : rdA w B A xs) (k : Nat) (hk : k < xs.length) :
    ∃ b o, A = some ⟨b, o, none⟩ ∧ b < B ∧ w.cell? ⟨b, o + k, none⟩ = some (.int .u8 (xs[k]).toNat) := by
  obtain ⟨b, o, cs, hA, hb, rfl, hc⟩ := h k hk
  exact ⟨b, o, hA, hb, by simpa [El.size] using hc 0 _ rfl⟩
theorem rdA.int {w : World} {B : Nat} {A : Option Addr} {xs : List Int} (h : rdA w B A xs) (k : Nat) (hk : k < xs.length) :
    ∃ b o, A = some ⟨b, o, none⟩ ∧ b < B ∧ isI64 xs[k] ∧ w.cell? ⟨b, o + k, none⟩ = some (.int .i64 xs[k]) := by
  obtain ⟨b, o, cs, hA, hb, ⟨hi, rfl⟩, hc⟩ := h k hk
  exact ⟨b, o, hA, hb, hi, by simpa [El.size] using hc 0 _ rfl⟩

/-- Block g is a source at its place p, over at most 2000 bytes that lie below g. -/
def rdr (w : World) (g p : Nat) : Prop :=
  ∃ (A : Option Addr) (n c : Nat) (bs : List UInt8), w.heap[g]? = some (.cells #[.slice A n c, .int .i64 (p : Int)] 140 (0, 0)) ∧ n = bs.length ∧ n ≤ 2000 ∧ n ≤ c ∧ c ≤ maxLen ∧ rdA w g A bs
theorem rdr.lt {w : World} {g p : Nat} (h : rdr w g p) : g < w.heap.size := by
  obtain ⟨_, _, _, _, h1, _⟩ := h
  exact (Array.getElem?_eq_some_iff.1 h1).1
theorem rdr.below {w w' : World} {g p : Nat} (h : rdr w g p) (hb : Below w.heap.size w w') : rdr w' g p := by
  have hlt := h.lt
  obtain ⟨A, n, c, bs, h1, h2, h3, h4, h5, h6⟩ := h
  exact ⟨A, n, c, bs, (hb.block g hlt).trans h1, h2, h3, h4, h5, h6.keep fun p hp => hb.cell (Nat.lt_trans hp hlt)⟩
/-- Only the source, and what is new, has turned. -/
theorem rdr.grown {w w' : World} {g p g' : Nat} (h : rdr w g p) (hg : w.grownBy w' (some g')) (hlt : g < g') : rdr w' g p := by
  have hlt' := h.lt
  obtain ⟨A, n, c, bs, h1, h2, h3, h4, h5, h6⟩ := h
  refine ⟨A, n, c, bs, (hg.block g hlt' (fun e => by injection e; omega)).trans h1, h2, h3, h4, h5, h6.keep fun q hq => ?_⟩
  exact World.cell?_of_block (hg.block q.block (by omega) (fun e => by injection e; omega))

theorem xor_nonneg (a b : Nat) (ha : a < 9223372036854775808) (hb : b < 9223372036854775808) : ∃ c : Nat, bits .xor .i64 (a : Int) (b : Int) = (c : Int) ∧ c < 9223372036854775808 := by
  have hx : a ^^^ b < 2 ^ 63 := Nat.xor_lt_two_pow (by omega) (by omega)
  have h1 : ∀ a : Nat, a < 9223372036854775808 → (BitVec.ofInt 64 (a : Int)).toNat = a := fun a ha => by
    rw [BitVec.ofInt_natCast, BitVec.toNat_ofNat]; exact Nat.mod_eq_of_lt (by omega)
  refine ⟨a ^^^ b, ?_, by omega⟩
  show IntKind.i64.wrap ((BitVec.ofInt 64 (a : Int) ^^^ BitVec.ofInt 64 (b : Int)).toNat : Int) = _
  rw [BitVec.toNat_xor, h1 a ha, h1 b hb, IntKind.wrap_i64]
  omega

/-- What 'pick' gives. -/
def picked (n x : Int) : Prop := (n < 1 → x = 0) ∧ (1 ≤ n → 0 ≤ x ∧ x < n)

set_option maxHeartbeats 1000000 in
theorem rd_pick (g p : Nat) (n : Int) (w : World) (hr : rdr w g p) (hp : p ≤ 1099511627776) (hn : isI64 n) :
    Calls Tryz.prog 100 #[.pointer (some ⟨g, 0, none⟩), .int .i64 n] w fun e w' => ∃ x : Int, e = .returned (.int .i64 x) ∧ picked n x ∧ rdr w' g (p + 1) ∧ w.grownBy w' (some g) := by
  have hlt := hr.lt
  obtain ⟨n1, n2⟩ := hn
  obtain ⟨A, m, c, bs, h1, rfl, h3, h4, h5, h6⟩ := hr
  have g0 : w.cell? ⟨g, 0, none⟩ = some (.slice A bs.length c) := by rw [cell_of_row _ _ _ _ _ _ h1]; rfl
  have g1 : w.cell? ⟨g, 1, none⟩ = some (.int .i64 p) := by rw [cell_of_row _ _ _ _ _ _ h1]; rfl
  have f0 : w.frozen? ⟨g, 1, none⟩ = false := by simp [World.frozen?, h1]
  have hr1 : rdr (w.setCell ⟨g, 1, none⟩ (.int .i64 ((p : Int) + 1))) g (p + 1) :=
    ⟨A, bs.length, c, bs, by simp [World.setCell, Array.getElem?_modify, h1], rfl, h3, h4, h5, h6.keep fun q hq => World.cell?_setCell_other _ _ _ _ (fun e => by subst e; simp at hq)⟩
  have hgr : w.grownBy (w.setCell ⟨g, 1, none⟩ (.int .i64 ((p : Int) + 1))) (some g) := grown_setCell (World.grownBy.refl _ _) (.inl rfl) _
  have HR := Lib.hid hr1; clear hr1
  have H6 := Lib.hid h6; clear h6
  have H1 := Lib.hid h1; clear h1
  have HG := Lib.hid hgr; clear hgr
  unfold maxLen at h5
  go_enter Tryz.func100, Tryz.ntmps100
  by_cases hn0 : n < 1
  · have HP : Hid (picked n 0) := ⟨fun _ => rfl, fun h => absurd hn0 (Int.not_lt.2 h)⟩
    go_wp2
    go_ret
    exact ⟨0, rfl, HP.out, HR.out, HG.out⟩
  by_cases hl0 : bs.length = 0
  · have hl0' : ((bs.length : Int) == 0) = true := by simp [hl0]
    have HL := Lib.hid hl0; clear hl0
    have HP : Hid (picked n 0) := ⟨fun _ => rfl, fun h => ⟨Int.le_refl _, Int.lt_of_lt_of_le (by decide) h⟩⟩
    go_wp2
    go_ret
    exact ⟨0, rfl, HP.out, HR.out, HG.out⟩
  have hl0' : ((bs.length : Int) == 0) = false := beq_eq_false_iff_ne.2 (by omega)
  by_cases hpl : p < bs.length
  · obtain ⟨b, o, rfl, hb, c1⟩ := H6.out.byte p hpl
    have hby : (bs[p].toNat : Int) ≤ 255 := by have := bs[p].toNat_lt; omega
    generalize bs[p] = u at *
    have c2 : (w.setCell ⟨g, 1, none⟩ (.int .i64 ((p : Int) + 1))).cell? ⟨b, o + p, none⟩ = some (.int .u8 u.toNat) := (World.cell?_setCell_other _ _ _ _ (fun e => by injection e; omega)).trans c1
    have hmod : 0 ≤ (u.toNat : Int) % n ∧ (u.toNat : Int) % n < n := ⟨Int.emod_nonneg _ (by omega), Int.emod_lt_of_pos _ (by omega)⟩
    have HM := Lib.hid hmod; clear hmod
    have HN := Lib.hid (Int.not_lt.1 hn0)
    go_wp2
    go_ret
    exact ⟨(u.toNat : Int) % n, rfl, ⟨fun h => absurd h (Int.not_lt.2 HN.out), fun _ => HM.out⟩, HR.out, HG.out⟩
  · have hL : 0 < bs.length := by omega
    have hm1 := Nat.mod_lt p hL
    have hm2 := Nat.mod_lt (p * 7 + 3) hL
    obtain ⟨b, o, rfl, hb, c1⟩ := H6.out.byte _ hm1
    obtain ⟨b', o', hA, _, d1⟩ := H6.out.byte _ hm2
    injection hA with hA
    injection hA with hA1 hA2
    subst hA1 hA2
    have hby1 : (bs[p % bs.length].toNat : Int) ≤ 255 := by have := bs[p % bs.length].toNat_lt; omega
    have hby2 : (bs[(p * 7 + 3) % bs.length].toNat : Int) ≤ 255 := by have := bs[(p * 7 + 3) % bs.length].toNat_lt; omega
    generalize bs[p % bs.length] = u at *
    generalize bs[(p * 7 + 3) % bs.length] = u' at *
    have hdv : p / bs.length ≤ p := Nat.div_le_self _ _
    have r1 : (p : Int).tmod (bs.length : Int) = ((p % bs.length : Nat) : Int) := by rw [Int.tmod_eq_emod_of_nonneg (by omega)]; rfl
    have r2 : ((p : Int) * 7 + 3).tmod (bs.length : Int) = (((p * 7 + 3) % bs.length : Nat) : Int) := by rw [Int.tmod_eq_emod_of_nonneg (by omega)]; rfl
    have r3 : (p : Int).tdiv (bs.length : Int) = ((p / bs.length : Nat) : Int) := by rw [Int.tdiv_eq_ediv_of_nonneg (by omega)]; rfl
    generalize hi1 : p % bs.length = i1 at *
    generalize hi2 : (p * 7 + 3) % bs.length = i2 at *
    generalize hi3 : p / bs.length = i3 at *
    clear hi1 hi2 hi3
    have c2 : (w.setCell ⟨g, 1, none⟩ (.int .i64 ((p : Int) + 1))).cell? ⟨b, o + i1, none⟩ = some (.int .u8 u.toNat) := (World.cell?_setCell_other _ _ _ _ (fun e => by injection e; omega)).trans c1
    have d2 : (w.setCell ⟨g, 1, none⟩ (.int .i64 ((p : Int) + 1))).cell? ⟨b, o + i2, none⟩ = some (.int .u8 u'.toNat) := (World.cell?_setCell_other _ _ _ _ (fun e => by injection e; omega)).trans d1
    have q1 : (i1 : Int) < (bs.length : Int) := by omega
    have q2 : (i2 : Int) < (bs.length : Int) := by omega
    go_wp2
    go_quiet (fail)
    have HN := Lib.hid (show 1 ≤ n by omega)
    go_wp2
    go_ret
    obtain ⟨y, hy, _⟩ := xor_nonneg (u.toNat * 131 + u'.toNat * 1117 + p * 29 + i3 * 53) ((u.toNat * 131 + u'.toNat * 1117 + p * 29 + i3 * 53) / 64) (by omega) (by omega)
    have hy' : bits BinOp.xor IntKind.i64 ((u.toNat : Int) * 131 + (u'.toNat : Int) * 1117 + (p : Int) * 29 + (i3 : Int) * 53) (((u.toNat : Int) * 131 + (u'.toNat : Int) * 1117 + (p : Int) * 29 + (i3 : Int) * 53) / 64) = (y : Int) := by
      rw [← hy]; congr 1
    refine ⟨_, rfl, ⟨fun h => absurd h (Int.not_lt.2 HN.out), fun h => ?_⟩, rdr.below HR.out (below_drewN (Below.refl _ _) nq), grown_drewN HG.out nq⟩
    rw [hy', Int.tmod_eq_emod_of_nonneg (by omega)]
    exact ⟨Int.emod_nonneg _ (by omega), Int.emod_lt_of_pos _ (by omega)⟩

end Go.Proofs.YtpinkbodbedajaaGreatDoor

namespace Go.Proofs.YtpinkbodbedajaaGreatDoor
open Go.RowKit

theorem later_trans {a b c : World} (h : Below a.heap.size a b) (k : Below b.heap.size b c) : Below a.heap.size a c := h.trans (k.mono h.size)
theorem later_alloc {a b : World} (h : Below a.heap.size a b) (o : Obj) : Below a.heap.size a (b.alloc o) := h.alloc h.size o
theorem later_drew {a b : World} (h : Below a.heap.size a b) : Below a.heap.size a b.drew := h.drew
theorem later_drewN {a b : World} (h : Below a.heap.size a b) (n : Nat) : Below a.heap.size a (b.drewN n) := below_drewN h n
theorem later_set {a b : World} (h : Below a.heap.size a b) {p : Addr} (hp : a.heap.size ≤ p.block) (u : Value) : Below a.heap.size a (b.setCell p u) := h.setCell hp u
attribute [go_sem] later_alloc later_drew later_drewN

/-- A cell that holds u in the world a and in every later one. -/
def stays (a : World) (p : Addr) (u : Value) : Prop := ∀ W, Below a.heap.size a W → W.cell? p = some u
theorem stays.on {a b : World} {p : Addr} {u : Value} (h : stays a p u) (hb : Below a.heap.size a b) : stays b p u := fun W hW => h W (later_trans hb hW)
/-- The cells of a block just made. -/
theorem box_cells {w w0 : World} {cs : Array Value} {T : TypeId} (h : w0 = w.alloc (.cells cs T)) (i : Nat) (u : Value) (hu : cs[i]? = some u) : ∀ W, Below w0.heap.size w0 W → W.cell? ⟨w.heap.size, i, none⟩ = some u := fun W hW => by
  have h1 : w.heap.size < w0.heap.size := by subst h; simp
  rw [hW.cell (p := ⟨w.heap.size, i, none⟩) h1]
  subst h
  rw [cell_new]
  exact hu
theorem box_later {w w0 : World} {o : Obj} (h : w0 = w.alloc o) : Below w.heap.size w w0 ∧ w.heap.size < w0.heap.size := by
  subst h
  exact ⟨(Below.refl _ _).alloc (Nat.le_refl _) _, by simp⟩

theorem rdA.ltrU {w : World} {A : Option Addr} {xs : List Ltr} (h : rdA w w.heap.size A xs) (k : Nat) (hk : k < xs.length) :
    ∃ b o, A = some ⟨b, o, none⟩ ∧ b < w.heap.size ∧ (xs[k]).ok ∧ (∀ W, Below w.heap.size w W → W.cell? ⟨b, o + k * 2, none⟩ = some (.int .i64 (xs[k]).id)) ∧ (∀ W, Below w.heap.size w W → W.cell? ⟨b, o + k * 2 + 1, none⟩ = some (.string (xs[k]).code)) := by
  obtain ⟨b, o, hA, hb, hok, c1, c2⟩ := h.ltr k hk
  exact ⟨b, o, hA, hb, hok, fun W hW => (hW.cell (p := ⟨b, o + k * 2, none⟩) hb).trans c1, fun W hW => (hW.cell (p := ⟨b, o + k * 2 + 1, none⟩) hb).trans c2⟩
theorem rdA.misU {w : World} {A : Option Addr} {xs : List Mis} (h : rdA w w.heap.size A xs) (k : Nat) (hk : k < xs.length) :
    ∃ b o, A = some ⟨b, o, none⟩ ∧ b < w.heap.size ∧ (xs[k]).ok ∧ (∀ W, Below w.heap.size w W → W.cell? ⟨b, o + k * 2, none⟩ = some (.int .i64 (xs[k]).id)) ∧ (∀ W, Below w.heap.size w W → W.cell? ⟨b, o + k * 2 + 1, none⟩ = some (.int .i64 (xs[k]).bin)) := by
  obtain ⟨b, o, hA, hb, hok, c1, c2⟩ := h.mis k hk
  exact ⟨b, o, hA, hb, hok, fun W hW => (hW.cell (p := ⟨b, o + k * 2, none⟩) hb).trans c1, fun W hW => (hW.cell (p := ⟨b, o + k * 2 + 1, none⟩) hb).trans c2⟩
theorem rdA.fwdU {w : World} {A : Option Addr} {xs : List Fwd} (h : rdA w w.heap.size A xs) (k : Nat) (hk : k < xs.length) :
    ∃ b o, A = some ⟨b, o, none⟩ ∧ b < w.heap.size ∧ (xs[k]).ok ∧ (∀ W, Below w.heap.size w W → W.cell? ⟨b, o + k * 2, none⟩ = some (.string (xs[k]).src)) ∧ (∀ W, Below w.heap.size w W → W.cell? ⟨b, o + k * 2 + 1, none⟩ = some (.string (xs[k]).dst)) := by
  obtain ⟨b, o, hA, hb, hok, c1, c2⟩ := h.fwd k hk
  exact ⟨b, o, hA, hb, hok, fun W hW => (hW.cell (p := ⟨b, o + k * 2, none⟩) hb).trans c1, fun W hW => (hW.cell (p := ⟨b, o + k * 2 + 1, none⟩) hb).trans c2⟩
theorem rdA.strU {w : World} {A : Option Addr} {xs : List ByteArray} (h : rdA w w.heap.size A xs) (k : Nat) (hk : k < xs.length) :
    ∃ b o, A = some ⟨b, o, none⟩ ∧ b < w.heap.size ∧ (xs[k]).size ≤ maxLen ∧ (∀ W, Below w.heap.size w W → W.cell? ⟨b, o + k, none⟩ = some (.string xs[k])) := by
  obtain ⟨b, o, hA, hb, hok, c1⟩ := h.str k hk
  exact ⟨b, o, hA, hb, hok, fun W hW => (hW.cell (p := ⟨b, o + k, none⟩) hb).trans c1⟩
theorem openP {w : World} {B : Nat} {v : Value} {p : Pln} (h : rdP w B v p) : ∃ A c, v = .agg #[.int .i64 p.bins, .int .i64 p.passes, .slice A p.order.length c] := by
  obtain ⟨vo, rfl, _, _, A, n, c, rfl, rfl, _⟩ := h
  exact ⟨A, c, rfl⟩

/-! A block known whole. -/
theorem blk_cell {w : World} {g : Nat} {cs : Array Value} {T : TypeId} (h : w.heap[g]? = some (.cells cs T (0, 0))) (i : Nat) (u : Value) (hu : cs[i]? = some u) : w.cell? ⟨g, i, none⟩ = some u := by
  rw [cell_of_row _ _ _ _ _ _ h]; exact hu
theorem blk_free {w : World} {g : Nat} {cs : Array Value} {T : TypeId} (h : w.heap[g]? = some (.cells cs T (0, 0))) (i : Nat) : w.frozen? ⟨g, i, none⟩ = false := by
  simp [World.frozen?, h]
theorem blk_lt {w : World} {g : Nat} {o : Obj} (h : w.heap[g]? = some o) : g < w.heap.size := (Array.getElem?_eq_some_iff.1 h).1
theorem blk_below {w w' : World} {g : Nat} {o : Obj} (h : w.heap[g]? = some o) (hb : Below w.heap.size w w') : w'.heap[g]? = some o := (hb.block g (blk_lt h)).trans h
theorem blk_set {w : World} {g : Nat} {cs : Array Value} {T : TypeId} (h : w.heap[g]? = some (.cells cs T (0, 0))) (i : Nat) (u : Value) : (w.setCell ⟨g, i, none⟩ u).heap[g]? = some (.cells (cs.setIfInBounds i u) T (0, 0)) := by
  simp [World.setCell, Array.getElem?_modify, h]
/-- A store elsewhere leaves a row alone. -/
theorem own_out {α : Type} [Flat α] {T : TypeId} {base : Nat} {w : World} {v : Value} {xs : List α} (h : own T base w v xs) (p : Addr) (u : Value) (hp : p.block < base) : own T base (w.setCell p u) v xs :=
  h.grown (grown_setCell (World.grownBy.refl w (some p.block)) (.inl rfl) u) (by
    cases hv : v.ownBlock with
    | none => exact .inl rfl
    | some k =>
      refine .inr fun e => ?_
      have := (h.blk k hv).1
      injection e
      omega)

end Go.Proofs.YtpinkbodbedajaaGreatDoor

namespace Go.Proofs.YtpinkbodbedajaaGreatDoor
open Go.RowKit

/-! ### FindLetter -/

end Go.Proofs.YtpinkbodbedajaaGreatDoor

namespace Go.Proofs.YtpinkbodbedajaaGreatDoor
open Go.RowKit

/-- The bin of the last missort of a letter; b if there is none. -/
def misBin (ms : List Mis) (x : Ltr) (b : Int) : Int := ms.foldl (fun b m => if m.id = x.id then m.bin else b) b
def binsOf (f : Ltr → Int) (n : Nat) (xs : List Ltr) : List (List Ltr) := (List.range n).map fun (k : Nat) => xs.filter fun x => f x == (k : Int)
def restOf (f : Ltr → Int) (xs : List Ltr) : List Ltr := xs.filter fun x => decide (f x < 0)
theorem binsOf_len (f : Ltr → Int) (n : Nat) (xs : List Ltr) : (binsOf f n xs).length = n := by simp [binsOf]
theorem binsOf_get (f : Ltr → Int) (n : Nat) (xs : List Ltr) (k : Nat) (h : k < (binsOf f n xs).length) : (binsOf f n xs)[k] = xs.filter fun x => f x == (k : Int) := by simp [binsOf]
theorem binsOf_nil (f : Ltr → Int) (n : Nat) : binsOf f n [] = List.replicate n [] := by
  apply List.ext_getElem
  · simp [binsOf]
  · intro i h1 h2; simp [binsOf]
theorem binsOf_step {f : Ltr → Int} {n : Nat} {xs : List Ltr} {k d : Nat} (h : k < xs.length) (hf : f xs[k] = (d : Int)) (hd : d < (binsOf f n (xs.take k)).length) :
    binsOf f n (xs.take (k + 1)) = (binsOf f n (xs.take k)).set d ((binsOf f n (xs.take k))[d] ++ [xs[k]]) := by
  apply List.ext_getElem
  · simp [binsOf]
  · intro i h1 h2
    simp only [List.getElem_set, binsOf_get]
    rw [List.take_succ_eq_append_getElem h, List.filter_append]
    by_cases hi : d = i
    · subst hi
      rw [if_pos rfl]
      simp [hf]
    · rw [if_neg hi]
      have : (f xs[k] == (i : Int)) = false := beq_eq_false_iff_ne.2 (by omega)
      simp [this]
theorem binsOf_skip {f : Ltr → Int} {n : Nat} {xs : List Ltr} {k : Nat} (h : k < xs.length) (hf : f xs[k] < 0) : binsOf f n (xs.take (k + 1)) = binsOf f n (xs.take k) := by
  apply List.ext_getElem
  · simp [binsOf]
  · intro i h1 h2
    rw [binsOf_get, binsOf_get, List.take_succ_eq_append_getElem h, List.filter_append]
    have : (f xs[k] == (i : Int)) = false := beq_eq_false_iff_ne.2 (by omega)
    simp [this]
theorem restOf_step {f : Ltr → Int} {xs : List Ltr} {k : Nat} (h : k < xs.length) (hf : f xs[k] < 0) : restOf f (xs.take (k + 1)) = restOf f (xs.take k) ++ [xs[k]] := by
  unfold restOf
  rw [List.take_succ_eq_append_getElem h, List.filter_append]
  simp [hf]
theorem restOf_skip {f : Ltr → Int} {xs : List Ltr} {k : Nat} (h : k < xs.length) (hf : 0 ≤ f xs[k]) : restOf f (xs.take (k + 1)) = restOf f (xs.take k) := by
  unfold restOf
  rw [List.take_succ_eq_append_getElem h, List.filter_append]
  simp
  omega
theorem filter_len_le {α : Type} (p : α → Bool) (xs : List α) (k : Nat) : ((xs.take k).filter p).length ≤ k := by
  have h1 := List.length_filter_le p (xs.take k)
  have h2 := List.length_take_le k xs
  omega
theorem binI_neg {p : Pln} {c : ByteArray} {k : Nat} (h : rkI p.order c < 0) : binI p c k = -1 := by unfold binI; rw [if_pos h]
theorem binI_pos {p : Pln} {c : ByteArray} {k : Nat} (h : ¬ rkI p.order c < 0) : binI p c k = rkI p.order c / powI p.bins k % p.bins := by unfold binI; rw [if_neg h]
theorem binI_range (p : Pln) (c : ByteArray) (k : Nat) (hb : 2 ≤ p.bins) : -1 ≤ binI p c k ∧ binI p c k < p.bins := by
  unfold binI
  split
  · omega
  · have h1 := Int.emod_nonneg (rkI p.order c / powI p.bins k) (show p.bins ≠ 0 by omega)
    have h2 := Int.emod_lt_of_pos (rkI p.order c / powI p.bins k) (show 0 < p.bins by omega)
    omega
theorem misBin_range {ms : List Mis} {n : Int} (h : ∀ m ∈ ms, 0 ≤ m.bin ∧ m.bin < n) (x : Ltr) : ∀ b, -1 ≤ b ∧ b < n → -1 ≤ misBin ms x b ∧ misBin ms x b < n := by
  unfold misBin
  induction ms with
  | nil => intro b hb; exact hb
  | cons m ms ih =>
    intro b hb
    simp only [List.foldl_cons]
    refine ih (fun m' hm' => h m' (List.mem_cons_of_mem _ hm')) _ ?_
    split
    · have := h m (List.mem_cons_self ..); omega
    · exact hb
theorem misBin_take {ms : List Mis} {k : Nat} (h : k < ms.length) (x : Ltr) (b : Int) : misBin (ms.take (k + 1)) x b = if ms[k].id = x.id then ms[k].bin else misBin (ms.take k) x b := by
  unfold misBin
  rw [List.take_succ_eq_append_getElem h, List.foldl_append]; rfl
/-- One pass. -/
def pass1 (p : Pln) (k : Nat) (xs : List Ltr) : List Ltr := (binsOf (fun x => binI p x.code k) p.bins.toNat xs).flatten
/-- The passes from k on, n of them. -/
def passesN (p : Pln) : Nat → Nat → List Ltr → List Ltr
  | _, 0, xs => xs
  | k, n + 1, xs => passesN p (k + 1) n (pass1 p k xs)
theorem passesN_succ (p : Pln) : ∀ (n k : Nat) (xs : List Ltr), passesN p k (n + 1) xs = pass1 p (k + n) (passesN p k n xs)
  | 0, k, xs => rfl
  | n + 1, k, xs => by
    show passesN p (k + 1) (n + 1) (pass1 p k xs) = pass1 p (k + (n + 1)) (passesN p (k + 1) n (pass1 p k xs))
    rw [passesN_succ p n (k + 1), show k + 1 + n = k + (n + 1) by omega]
/-- What falls out. -/
def outN (p : Pln) : Nat → Nat → List Ltr → List Ltr
  | _, 0, _ => []
  | k, n + 1, xs => restOf (fun x => binI p x.code k) xs ++ outN p (k + 1) n (pass1 p k xs)
theorem outN_succ (p : Pln) : ∀ (n k : Nat) (xs : List Ltr), outN p k (n + 1) xs = outN p k n xs ++ restOf (fun x => binI p x.code (k + n)) (passesN p k n xs)
  | 0, k, xs => by show restOf _ xs ++ [] = [] ++ restOf _ xs; simp
  | n + 1, k, xs => by
    show restOf _ xs ++ outN p (k + 1) (n + 1) (pass1 p k xs) = (restOf _ xs ++ outN p (k + 1) n (pass1 p k xs)) ++ restOf (fun x => binI p x.code (k + (n + 1))) (passesN p (k + 1) n (pass1 p k xs))
    rw [outN_succ p n (k + 1), show k + 1 + n = k + (n + 1) by omega, List.append_assoc]
theorem binsOf_mem {f : Ltr → Int} {n : Nat} {xs : List Ltr} {x : Ltr} : x ∈ (binsOf f n xs).flatten ↔ x ∈ xs ∧ 0 ≤ f x ∧ f x < n := by
  simp only [binsOf, List.mem_flatten, List.mem_map, List.mem_range]
  constructor
  · rintro ⟨l, ⟨k, hk, rfl⟩, hx⟩
    simp only [List.mem_filter, beq_iff_eq] at hx
    exact ⟨hx.1, by omega, by omega⟩
  · rintro ⟨h1, h2, h3⟩
    obtain ⟨k, hk⟩ := Int.eq_ofNat_of_zero_le h2
    exact ⟨_, ⟨k, by omega, rfl⟩, by simp [h1, hk]⟩
theorem binI_rank {p : Pln} {c : ByteArray} {k : Nat} (hb : 2 ≤ p.bins) : binI p c k < 0 ↔ rkI p.order c < 0 := by
  unfold binI
  split
  · rename_i h; simp [h]
  · rename_i h
    have h1 := Int.emod_nonneg (rkI p.order c / powI p.bins k) (show p.bins ≠ 0 by omega)
    omega
theorem flatten_length_binsOf {f : Ltr → Int} {n : Nat} (xs : List Ltr) : (binsOf f n xs).flatten.length ≤ xs.length := by
  induction xs with
  | nil => rw [binsOf_nil]; simp
  | cons x xs ih =>
    have key : ∀ m, ((List.range m).map fun (k : Nat) => ((x :: xs).filter fun y => f y == (k : Int))).flatten.length = ((List.range m).map fun (k : Nat) => (xs.filter fun y => f y == (k : Int))).flatten.length + (if 0 ≤ f x ∧ f x < m then 1 else 0) := fun m => by
      induction m with
      | zero => simp
      | succ m ihm =>
        rw [List.range_succ, List.map_append, List.map_append, List.flatten_append, List.flatten_append, List.length_append, List.length_append, ihm]
        simp only [List.map_cons, List.map_nil, List.flatten_cons, List.flatten_nil, List.append_nil, List.filter_cons]
        by_cases h : f x = (m : Int)
        · simp only [h, beq_self_eq_true, if_true, List.length_cons]
          rw [if_neg (by omega), if_pos (by omega)]; omega
        · have hb : (f x == (m : Int)) = false := beq_eq_false_iff_ne.2 h
          simp only [hb, Bool.false_eq_true, if_false]
          by_cases h2 : 0 ≤ f x ∧ f x < m
          · rw [if_pos h2, if_pos (by omega)]; omega
          · rw [if_neg h2, if_neg (by omega)]; omega
    unfold binsOf at *
    rw [key n, List.length_cons]
    split <;> omega
theorem pass1_len (p : Pln) (k : Nat) (xs : List Ltr) : (pass1 p k xs).length ≤ xs.length := flatten_length_binsOf xs
theorem passesN_len (p : Pln) : ∀ (n k : Nat) (xs : List Ltr), (passesN p k n xs).length ≤ xs.length
  | 0, _, _ => Nat.le_refl _
  | n + 1, k, xs => Nat.le_trans (passesN_len p n (k + 1) _) (pass1_len p k xs)
/-- Behind a pass all letters have a rank: none falls out any more. -/
theorem rest_after {p : Pln} (hb : 2 ≤ p.bins) (j k : Nat) (xs : List Ltr) : restOf (fun x => binI p x.code j) (pass1 p k xs) = [] := by
  unfold restOf
  rw [List.filter_eq_nil_iff]
  intro x hx
  have h := (binsOf_mem.1 hx).2.1
  have h2 := (binI_rank (p := p) (c := x.code) (k := j) hb)
  have h3 := (binI_rank (p := p) (c := x.code) (k := k) hb)
  simp only [decide_eq_true_eq]
  intro h4
  have := h3.2 (h2.1 h4)
  omega
theorem outN_first {p : Pln} (hb : 2 ≤ p.bins) (k n : Nat) (xs : List Ltr) : outN p k (n + 1) xs = restOf (fun x => binI p x.code k) xs := by
  have h : ∀ (n j k : Nat) (ys : List Ltr), outN p j n (pass1 p k ys) = [] := by
    intro n
    induction n with
    | zero => intro j k ys; rfl
    | succ n ih =>
      intro j k ys
      show restOf _ (pass1 p k ys) ++ outN p (j + 1) n (pass1 p j (pass1 p k ys)) = []
      rw [rest_after hb, ih]; rfl
  show restOf _ xs ++ outN p (k + 1) n (pass1 p k xs) = _
  rw [h, List.append_nil]
theorem planOk_bins {p : Pln} (h : planOk p = true) : 2 ≤ p.bins ∧ p.bins ≤ 16 ∧ 1 ≤ p.passes ∧ p.passes ≤ 4 ∧ p.order.length ≤ 60 := by
  unfold planOk shapeOk at h
  simp only [Bool.and_eq_true, decide_eq_true_iff] at h
  omega

end Go.Proofs.YtpinkbodbedajaaGreatDoor
