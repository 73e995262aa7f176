/- F0 B1 -/
import Derived.Test.YtiaepapdofcnjaaQ2
import Derived.Test.YtiaepapdofcnjaaQ3
namespace Go.Proofs.Ytiaepapdofcnjaa
open Go.RowKit

/-- The index of the first element with p; -1 if there is none. -/
def fiI {α : Type} (p : α → Bool) (xs : List α) : Int := if xs.findIdx p < xs.length then (xs.findIdx p : Int) else -1
theorem fiI_at {α : Type} {p : α → Bool} {xs : List α} {k : Nat} (h : k < xs.length) (h1 : ∀ j (hj : j < xs.length), j < k → p xs[j] = false) (h2 : p xs[k] = true) : fiI p xs = k := by
  have e : xs.findIdx p = k := (List.findIdx_eq h).2 ⟨h2, fun j hj => by simpa using h1 j (by omega) hj⟩
  unfold fiI
  rw [e, if_pos h]
theorem fiI_none {α : Type} {p : α → Bool} {xs : List α} (h : ∀ j (hj : j < xs.length), p xs[j] = false) : fiI p xs = -1 := by
  have e : xs.findIdx p = xs.length := List.findIdx_eq_length.2 fun x hx => by
    obtain ⟨j, hj, rfl⟩ := List.getElem_of_mem hx
    exact h j hj
  unfold fiI
  rw [e, if_neg (by omega)]
theorem fiI_range {α : Type} (p : α → Bool) (xs : List α) : -1 ≤ fiI p xs ∧ fiI p xs < xs.length := by
  unfold fiI; split <;> omega
theorem fiI_spec {α : Type} {p : α → Bool} {xs : List α} {k : Nat} (h : fiI p xs = k) : ∃ hk : k < xs.length, p xs[k] = true ∧ ∀ j (hj : j < xs.length), j < k → p xs[j] = false := by
  unfold fiI at h
  split at h
  · rename_i hlt
    have e : xs.findIdx p = k := by omega
    subst e
    exact ⟨hlt, by simpa using List.findIdx_getElem (w := hlt), fun j hj hjk => by simpa using List.not_of_lt_findIdx hjk⟩
  · omega
theorem fiI_neg {α : Type} {p : α → Bool} {xs : List α} (h : fiI p xs < 0) : ∀ x ∈ xs, p x = false := by
  unfold fiI at h
  split at h
  · omega
  · rename_i hlt
    intro x hx
    cases hp : p x
    · rfl
    · exact absurd (List.findIdx_lt_length_of_exists ⟨x, hx, hp⟩) hlt
theorem fiI_ge {α : Type} (p : α → Bool) (xs : List α) : decide (0 ≤ fiI p xs) = !xs.all (fun y => !p y) := by
  by_cases h : fiI p xs < 0
  · rw [decide_eq_false (by omega), List.all_eq_true.2 (fun x hx => by rw [fiI_neg h x hx]; rfl)]; rfl
  · replace h : 0 ≤ fiI p xs := by omega
    obtain ⟨k, hk⟩ := Int.eq_ofNat_of_zero_le h
    obtain ⟨h1, h2, _⟩ := fiI_spec hk
    rw [decide_eq_true h, List.all_eq_false.2 ⟨xs[k], List.getElem_mem _, by simp [h2]⟩]; rfl
theorem fiI_self {α : Type} {p : α → Bool} {xs : List α} {k : Nat} (h : k < xs.length) (hp : p xs[k] = true) : (fiI p xs == (k : Int)) = (xs.take k).all (fun y => !p y) := by
  by_cases ha : (xs.take k).all (fun y => !p y) = true
  · rw [ha, beq_iff_eq]
    refine fiI_at h (fun j hj hjk => ?_) hp
    have := List.all_eq_true.1 ha xs[j] (by rw [List.mem_take_iff_getElem]; exact ⟨j, by omega, rfl⟩)
    simpa using this
  · rw [Bool.not_eq_true] at ha
    rw [ha, beq_eq_false_iff_ne]
    intro e
    obtain ⟨_, _, h3⟩ := fiI_spec e
    obtain ⟨x, hx, hpx⟩ := List.all_eq_false.1 ha
    rw [List.mem_take_iff_getElem] at hx
    obtain ⟨j, hj, rfl⟩ := hx
    rw [h3 j (by omega) (by omega)] at hpx
    simp at hpx

/-- The order for a code. -/
def fwdI (fs : List Fwd) (c : ByteArray) : Int := fiI (fun x => sEq x.src c) fs
def fwdTo (fs : List Fwd) (c : ByteArray) : ByteArray := ((fs[(fwdI fs c).toNat]?).map Fwd.dst).getD ⟨#[]⟩
/-- Orders followed: where letters arrive, behind how many orders, whether. -/
def followN (fs : List Fwd) : Nat → ByteArray → Nat → ByteArray × Nat × Bool
  | 0, _, _ => (⟨#[]⟩, 0, false)
  | f + 1, c, n => if fwdI fs c < 0 then (c, n, true) else followN fs f (fwdTo fs c) (n + 1)
def follow (fs : List Fwd) (c : ByteArray) : ByteArray × Nat × Bool := followN fs (fs.length + 1) c 0
theorem fwdTo_at {fs : List Fwd} {c : ByteArray} {k : Nat} (h : fwdI fs c = k) (hk : k < fs.length) : fwdTo fs c = fs[k].dst := by
  unfold fwdTo; rw [h, Int.toNat_natCast, List.getElem?_eq_getElem hk]; rfl
theorem followN_size {fs : List Fwd} (hf : ∀ x ∈ fs, x.dst.size ≤ maxLen) : ∀ (f : Nat) (c : ByteArray) (n : Nat), c.size ≤ maxLen → (followN fs f c n).1.size ≤ maxLen ∧ (followN fs f c n).2.1 ≤ n + f
  | 0, c, n, _ => ⟨Nat.zero_le _, Nat.zero_le _⟩
  | f + 1, c, n, hc => by
    unfold followN
    split
    · exact ⟨hc, by simp⟩
    · have h := followN_size hf f (fwdTo fs c) (n + 1) (by
        unfold fwdTo
        cases hx : fs[(fwdI fs c).toNat]? with
        | none => exact Nat.zero_le _
        | some x => exact hf x (List.mem_of_getElem? hx))
      exact ⟨h.1, by omega⟩

def goodF (fs : List Fwd) (k : Nat) : Bool :=
  match fs[k]? with
  | none => false
  | some x => isCode x.src && isCode x.dst && (fs.take k).all (fun y => !sEq y.src x.src)
def fwdsOk (fs : List Fwd) : Bool := decide (fs.length ≤ 30) && (List.range fs.length).all (goodF fs)
theorem goodF_of {fs : List Fwd} {k : Nat} (hk : k < fs.length) : goodF fs k = (isCode fs[k].src && isCode fs[k].dst && (fs.take k).all (fun y => !sEq y.src fs[k].src)) := by
  unfold goodF; rw [List.getElem?_eq_getElem hk]
theorem fwdsOk_bad {fs : List Fwd} {k : Nat} (hk : k < fs.length) (h : goodF fs k = false) : fwdsOk fs = false := by
  unfold fwdsOk
  rw [Bool.and_eq_false_iff]
  exact .inr (List.all_eq_false.2 ⟨k, by simpa using hk, by simp [h]⟩)
theorem fwdsOk_good {fs : List Fwd} (h30 : fs.length ≤ 30) (h : ∀ j, j < fs.length → goodF fs j = true) : fwdsOk fs = true := by
  unfold fwdsOk
  rw [decide_eq_true h30]
  exact List.all_eq_true.2 fun k hk => h k (by simpa using hk)
theorem fwdsOk_len {fs : List Fwd} (h : ¬ fs.length ≤ 30) : fwdsOk fs = false := by unfold fwdsOk; rw [decide_eq_false h]; rfl
theorem fwdsOk_iff {fs : List Fwd} : fwdsOk fs = true ↔ fs.length ≤ 30 ∧ ∀ k (h : k < fs.length), isCode fs[k].src = true ∧ isCode fs[k].dst = true ∧ ∀ j (hj : j < k), fs[j].src ≠ fs[k].src := by
  unfold fwdsOk
  rw [Bool.and_eq_true, decide_eq_true_iff, List.all_eq_true]
  refine and_congr Iff.rfl ⟨fun h k hk => ?_, fun h k hk => ?_⟩
  · have := h k (by simpa using hk)
    rw [goodF_of hk] at this
    simp only [Bool.and_eq_true] at this
    refine ⟨this.1.1, this.1.2, fun j hj => ?_⟩
    have hh := List.all_eq_true.1 this.2 fs[j] (by rw [List.mem_take_iff_getElem]; exact ⟨j, by omega, rfl⟩)
    simp only [Bool.not_eq_true'] at hh
    exact sEq_false.1 hh
  · have hk' : k < fs.length := by simpa using hk
    obtain ⟨h1, h2, h3⟩ := h k hk'
    rw [goodF_of hk']
    simp only [Bool.and_eq_true]
    refine ⟨⟨h1, h2⟩, List.all_eq_true.2 fun y hy => ?_⟩
    rw [List.mem_take_iff_getElem] at hy
    obtain ⟨j, hj, rfl⟩ := hy
    simp only [Bool.not_eq_true']
    exact sEq_false.2 (h3 j (by omega))
/-- Held codes. -/
def heldOk (hs : List ByteArray) : Bool := decide (hs.length ≤ 30) && hs.all isCode
def sizeOk (n : Int) : Bool := decide (1 ≤ n) && decide (n ≤ 20)
structure Dy where
  plan : Pln
  fwds : List Fwd
  held : List ByteArray
  size : Int
def dayOk (d : Dy) : Bool := planOk d.plan && fwdsOk d.fwds && heldOk d.held && sizeOk d.size
/-- What becomes of letters for a code. -/
def fateW (n : Nat) : ByteArray := match n with
  | 0 => ⟨#[]⟩
  | 1 => ⟨#[115, 116, 117, 99, 107]⟩
  | 2 => ⟨#[104, 101, 108, 100]⟩
  | 3 => ⟨#[114, 111, 117, 110, 100]⟩
  | _ => ⟨#[115, 116, 114, 97, 110, 103, 101]⟩
def fate (d : Dy) (c : ByteArray) : ByteArray × ByteArray :=
  if dayOk d && isCode c then
    if (follow d.fwds c).2.2 = true then
      if 0 ≤ rkI d.held (follow d.fwds c).1 then ((follow d.fwds c).1, fateW 2)
      else if 0 ≤ rkI d.plan.order (follow d.fwds c).1 then ((follow d.fwds c).1, fateW 3)
      else ((follow d.fwds c).1, fateW 4)
    else (c, fateW 1)
  else (⟨#[]⟩, ⟨#[]⟩)

def rdD (w : World) (B : Nat) (v : Value) (d : Dy) : Prop :=
  ∃ vo vf vh, v = .agg #[.int .i64 d.plan.bins, .int .i64 d.plan.passes, vo, vf, vh, .int .i64 d.size] ∧ isI64 d.plan.bins ∧ isI64 d.plan.passes ∧ isI64 d.size ∧ rd w B vo d.plan.order ∧ rd w B vf d.fwds ∧ rd w B vh d.held
theorem rdD.below {w w' : World} {B : Nat} {v : Value} {d : Dy} (h : rdD w B v d) (hb : Below B w w') : rdD w' B v d := by
  obtain ⟨vo, vf, vh, h1, h2, h3, h4, h5, h6, h7⟩ := h
  exact ⟨vo, vf, vh, h1, h2, h3, h4, h5.below hb, h6.below hb, h7.below hb⟩
theorem rdD.more {w : World} {B B' : Nat} {v : Value} {d : Dy} (h : rdD w B v d) (hB : B ≤ B') : rdD w B' v d := by
  obtain ⟨vo, vf, vh, h1, h2, h3, h4, h5, h6, h7⟩ := h
  exact ⟨vo, vf, vh, h1, h2, h3, h4, h5.more hB, h6.more hB, h7.more hB⟩
theorem rdD.on {w w' : World} {v : Value} {d : Dy} (h : rdD w w.heap.size v d) (hb : Below w.heap.size w w') : rdD w' w'.heap.size v d := (h.below hb).more hb.size
theorem openD {w : World} {B : Nat} {v : Value} {d : Dy} (h : rdD w B v d) : ∃ A0 c0 A1 c1 A2 c2, v = .agg #[.int .i64 d.plan.bins, .int .i64 d.plan.passes, .slice A0 d.plan.order.length c0, .slice A1 d.fwds.length c1, .slice A2 d.held.length c2, .int .i64 d.size] := by
  obtain ⟨vo, vf, vh, rfl, _, _, _, ⟨A, n, c, rfl, rfl, _⟩, ⟨A', n', c', rfl, rfl, _⟩, ⟨A'', n'', c'', rfl, rfl, _⟩⟩ := h
  exact ⟨A, c, A', c', A'', c'', rfl⟩
/-- The parts of a day whose value is written out. -/
theorem partsD {w : World} {B : Nat} {d : Dy} {A0 A1 A2 : Option Addr} {c0 c1 c2 : Nat} (h : rdD w B (.agg #[.int .i64 d.plan.bins, .int .i64 d.plan.passes, .slice A0 d.plan.order.length c0, .slice A1 d.fwds.length c1, .slice A2 d.held.length c2, .int .i64 d.size]) d) :
    rdP w B (.agg #[.int .i64 d.plan.bins, .int .i64 d.plan.passes, .slice A0 d.plan.order.length c0]) d.plan ∧ rd w B (.slice A0 d.plan.order.length c0) d.plan.order ∧ rd w B (.slice A1 d.fwds.length c1) d.fwds ∧ rd w B (.slice A2 d.held.length c2) d.held ∧ isI64 d.size := by
  obtain ⟨vo, vf, vh, h1, h2, h3, h4, h5, h6, h7⟩ := h
  injection h1 with h1
  injection h1 with h1
  simp only [List.cons.injEq, and_true, true_and] at h1
  obtain ⟨rfl, rfl, rfl⟩ := h1
  exact ⟨⟨_, rfl, h2, h3, h5⟩, h5, h6, h7, h4⟩
def ownD (T1 T2 base : Nat) (w : World) (v : Value) (d : Dy) : Prop :=
  ∃ vo vf vh, v = .agg #[.int .i64 d.plan.bins, .int .i64 d.plan.passes, vo, vf, vh, .int .i64 d.size] ∧ isI64 d.plan.bins ∧ isI64 d.plan.passes ∧ isI64 d.size ∧ own T1 base w vo d.plan.order ∧ own T2 base w vf d.fwds ∧ own T1 base w vh d.held ∧ (apart vo vf ∧ apart vo vh ∧ apart vf vh)
theorem ownD.rd {T1 T2 base : Nat} {w : World} {v : Value} {d : Dy} (h : ownD T1 T2 base w v d) : rdD w w.heap.size v d := by
  obtain ⟨vo, vf, vh, h1, h2, h3, h4, h5, h6, h7, _⟩ := h
  exact ⟨vo, vf, vh, h1, h2, h3, h4, h5.rd, h6.rd, h7.rd⟩
theorem ownD.below {T1 T2 base : Nat} {w w' : World} {v : Value} {d : Dy} (h : ownD T1 T2 base w v d) (hb : Below w.heap.size w w') : ownD T1 T2 base w' v d := by
  obtain ⟨vo, vf, vh, h1, h2, h3, h4, h5, h6, h7, h8⟩ := h
  exact ⟨vo, vf, vh, h1, h2, h3, h4, h5.below hb, h6.below hb, h7.below hb, h8⟩

end Go.Proofs.Ytiaepapdofcnjaa

namespace Go.Proofs.Ytiaepapdofcnjaa
open Go.RowKit

set_option maxHeartbeats 400000 in
theorem impl_BatchValid (v : Value) (xs : List Ltr) (w : World) (hv : rd w w.heap.size v xs) :
    Calls Try.prog 102 #[v] w fun e w' => e = .returned (.bool (okB xs)) ∧ Below w.heap.size w w' := by
  obtain ⟨A, n, c, rfl, hn, hc, hm, hr⟩ := hv
  subst hn
  unfold maxLen at hm
  have HR := Lib.hid hr; clear hr
  go_enter Try.func102, Try.ntmps102
  by_cases h60 : 60 < xs.length
  · go_wp2
    go_ret
    exact ⟨ret_bool (by unfold okB; simp; omega), Below.refl _ _⟩
  · go_wp2
    go_loopw [12] (fun i wr => ∃ k : Nat, k ≤ xs.length ∧ i = .int .i64 k ∧ Below w.heap.size w wr ∧ Hid (∀ j, j < k → goodL xs j = true)) (fun i _ => xs.length - (intOf i).toNat)
    case atStart => exact ⟨0, Nat.zero_le _, rfl, Below.refl _ _, fun j hj => absurd hj (Nat.not_lt_zero j)⟩
    case round =>
      obtain ⟨k, hk, rfl, hbl, HG⟩ := hrel
      obtain ⟨w1, rfl⟩ : ∃ w1 : World, w1 = wr := ⟨_, rfl⟩
      have hsz := hbl.size
      by_cases hlt : k < xs.length
      · obtain ⟨b, o, rfl, hb, ⟨⟨o1, o2⟩, o3⟩, c1, c2⟩ := HR.out.ltr k hlt
        have hG := Lib.hid (goodL_of hlt)
        have hbad := Lib.hid (fun h => okB_bad hlt h)
        have HX : Hid (∀ j (h : j < k), xs[j] = xs[j]'(by omega)) := fun _ _ => rfl
        have HT : Hid (xs.take k = xs.take k) := rfl
        generalize hx : xs[k] = x at *
        have HXK := Lib.hid hx; clear hx
        have c1' : w1.cell? ⟨b, o + k * 2, none⟩ = some (.int .i64 x.id) := (hbl.cell (p := ⟨b, o + k * 2, none⟩) hb).trans c1
        have c2' : w1.cell? ⟨b, o + k * 2 + 1, none⟩ = some (.string x.code) := (hbl.cell (p := ⟨b, o + k * 2 + 1, none⟩) hb).trans c2
        clear c1 c2
        by_cases h1 : x.id < 1
        · go_wp2
          go_ret
          exact ⟨ret_bool (hbad.out (by rw [hG.out]; simp; omega)).symm, hbl.alloc hsz _⟩
        by_cases h2 : 9999 < x.id
        · go_wp2
          go_ret
          exact ⟨ret_bool (hbad.out (by rw [hG.out]; simp; omega)).symm, hbl.alloc hsz _⟩
        cases hcd : isCode x.code
        · have hcd' := Lib.hid hcd; clear hcd
          go_wp2_with (go_at_call 154; refine (impl_CodeValid _ _ o3).mono ?_; rw [hcd'.out]; rintro e w' ⟨rfl, rfl⟩)
          go_ret
          exact ⟨ret_bool (hbad.out (by rw [hG.out, hcd'.out]; simp)).symm, hbl.alloc hsz _⟩
        · have hcd' := Lib.hid hcd; clear hcd
          go_wp2_with (go_at_call 154; refine (impl_CodeValid _ _ o3).mono ?_; rw [hcd'.out]; rintro e w' ⟨rfl, rfl⟩)
          obtain ⟨wo, hwo⟩ : ∃ wo : World, wo = w1.alloc (Obj.cells #[Value.int IntKind.i64 x.id, Value.string x.code] 103) := ⟨_, rfl⟩
          have g1 : wo.cell? ⟨w1.heap.size, 0, none⟩ = some (.int .i64 x.id) := by subst hwo; simp [go_sem]
          have hwz : wo.heap.size = w1.heap.size + 1 := by subst hwo; simp
          have hbo : Below w.heap.size w wo := by subst hwo; exact hbl.alloc hsz _
          rw [← hwo]
          have HZ := Lib.hid hwz
          have hwz2 : w1.heap.size < wo.heap.size := by omega
          clear hwo hwz
          go_loopw [35] (fun i wi => ∃ m : Nat, m ≤ k ∧ i = .int .i64 m ∧ Below wo.heap.size wo wi ∧ Hid ((xs.take m).all (fun y => y.id != x.id) = true)) (fun i _ => k - (intOf i).toNat)
          case atStart => exact ⟨0, Nat.zero_le _, rfl, Below.refl _ _, rfl⟩
          case round =>
            obtain ⟨m, hm, rfl, hbi, HA⟩ := hrel
            have hsi := hbi.size
            have hw2 := hbo.size
            have hw3 : w1.heap.size < wr.heap.size := by omega
            have hbw : Below w.heap.size w wr := hbo.trans (hbi.mono hw2)
            have g1' : wr.cell? ⟨w1.heap.size, 0, none⟩ = some (.int .i64 x.id) := (hbi.cell (p := ⟨w1.heap.size, 0, none⟩) hwz2).trans g1
            clear g1
            by_cases hmk : m < k
            · obtain ⟨b', o', hA, _, ⟨⟨p1, p2⟩, p3⟩, d1, d2⟩ := HR.out.ltr m (by omega)
              have hT := Lib.hid (take_all_succ (p := fun y : Ltr => y.id != x.id) xs m (by omega))
              have hI := Lib.hid (take_all_bad (p := fun y : Ltr => y.id != x.id) xs m k (by omega) hmk)
              generalize xs[m] = y at *
              injection hA with hA
              injection hA with hA1 hA2
              subst hA1 hA2
              have d1' : wr.cell? ⟨b, o + m * 2, none⟩ = some (.int .i64 y.id) := (hbw.cell (p := ⟨b, o + m * 2, none⟩) hb).trans d1
              have d2' : wr.cell? ⟨b, o + m * 2 + 1, none⟩ = some (.string y.code) := (hbw.cell (p := ⟨b, o + m * 2 + 1, none⟩) hb).trans d2
              clear d1 d2
              by_cases hyx : y.id = x.id
              · have hyx' : (y.id == x.id) = true := by simpa using hyx
                have HY := Lib.hid hyx; clear hyx
                go_wp2
                go_ret
                exact ⟨ret_bool (hbad.out (by rw [hG.out, hI.out (by simp [HY.out])]; simp)).symm, hbw.alloc (by omega) _⟩
              · have hyx' : (y.id == x.id) = false := by simpa using hyx
                have HY := Lib.hid hyx; clear hyx
                go_wp2
                go_roundw
                case rel => exact ⟨m + 1, by omega, by go_num, hbi.alloc hsi _, by show _ = true; rw [hT.out, HA.out]; simpa using HY.out⟩
                case measure => simp [intOf]; omega
            · have hme : m = k := by omega
              have HE := Lib.hid hme; clear hme
              go_wp2
              go_roundw
              case rel =>
                refine ⟨k + 1, by omega, by go_num, hbw, fun j hj => ?_⟩
                by_cases hjk : j < k
                · exact HG.out j hjk
                · obtain rfl : j = k := by omega
                  rw [hG.out, hcd'.out, ← HE.out, HA.out]; simp; omega
              case measure => simp [intOf]; omega
      · have hke : k = xs.length := by omega
        have HE := Lib.hid hke; clear hke
        go_wp2
        go_ret
        exact ⟨ret_bool (okB_good (by omega) (by rw [← HE.out]; exact HG.out)).symm, hbl⟩

set_option maxHeartbeats 400000 in
theorem spec_BatchValid (v : Value) (xs : List Ltr) (w : World) (hv : rd w w.heap.size v xs) :
    Calls Try.prog 97 #[v] w fun e w' => e = .returned (.bool (okB xs)) ∧ Below w.heap.size w w' := by
  obtain ⟨A, n, c, rfl, hn, hc, hm, hr⟩ := hv
  subst hn
  unfold maxLen at hm
  have HR := Lib.hid hr; clear hr
  go_enter Try.func97, Try.ntmps97
  go_wp2
  go_loopw [3] (fun i wr => ∃ k : Nat, k ≤ xs.length ∧ i = .int .i64 k ∧ Below w.heap.size w wr ∧ Hid (∀ j, j < k → goodL xs j = true)) (fun i _ => xs.length - (intOf i).toNat)
  case atStart => exact ⟨0, Nat.zero_le _, rfl, Below.refl _ _, fun j hj => absurd hj (Nat.not_lt_zero j)⟩
  case round =>
    obtain ⟨k, hk, rfl, hbl, HG⟩ := hrel
    obtain ⟨w1, rfl⟩ : ∃ w1 : World, w1 = wr := ⟨_, rfl⟩
    have hsz := hbl.size
    by_cases hlt : k < xs.length
    · obtain ⟨b, o, rfl, hb, ⟨⟨o1, o2⟩, o3⟩, c1, c2⟩ := HR.out.ltr k hlt
      have hG := Lib.hid (goodL_of hlt)
      have hbad := Lib.hid (fun h => okB_bad hlt h)
      generalize hx : xs[k] = x at *
      have HXK := Lib.hid hx; clear hx
      have c1' : w1.cell? ⟨b, o + k * 2, none⟩ = some (.int .i64 x.id) := (hbl.cell (p := ⟨b, o + k * 2, none⟩) hb).trans c1
      have c2' : w1.cell? ⟨b, o + k * 2 + 1, none⟩ = some (.string x.code) := (hbl.cell (p := ⟨b, o + k * 2 + 1, none⟩) hb).trans c2
      cases hcd : isCode x.code
      · have hcd' := Lib.hid hcd; clear hcd
        go_wp2_with (go_at_call 145; refine (spec_CodeValid _ _ o3).mono ?_; rw [hcd'.out]; rintro e w' ⟨rfl, rfl⟩)
        go_ret
        exact ⟨ret_bool (hbad.out (by rw [hG.out, hcd'.out]; simp)).symm, hbl⟩
      have hcd' := Lib.hid hcd; clear hcd
      cases hid : (decide (1 ≤ x.id) && decide (x.id ≤ 9999))
      · have hid' := Lib.hid hid; clear hid
        go_wp2_with (first | (go_at_call 145; refine (spec_CodeValid _ _ o3).mono ?_; rw [hcd'.out]; rintro e w' ⟨rfl, rfl⟩) | (go_at_call 127; refine (spec_l1In _ _ _ _).mono ?_; rw [hid'.out]; rintro e w' ⟨rfl, rfl⟩))
        go_ret
        exact ⟨ret_bool (hbad.out (by rw [hG.out, hid'.out]; simp)).symm, hbl⟩
      have hid' := Lib.hid hid; clear hid
      go_wp2_with (first | (go_at_call 145; refine (spec_CodeValid _ _ o3).mono ?_; rw [hcd'.out]; rintro e w' ⟨rfl, rfl⟩) | (go_at_call 127; refine (spec_l1In _ _ _ _).mono ?_; rw [hid'.out]; rintro e w' ⟨rfl, rfl⟩))
      go_loopw [4] (fun i wr => ∃ m : Nat, m ≤ k ∧ i = .int .i64 m ∧ Below w.heap.size w wr ∧ Hid ((xs.take m).all (fun y => y.id != x.id) = true)) (fun i _ => k - (intOf i).toNat)
      case atStart => exact ⟨0, Nat.zero_le _, rfl, hbl, rfl⟩
      case round =>
        obtain ⟨m, hm', rfl, hbw, HA⟩ := hrel
        have hsi := hbw.size
        clear c1' c2'
        have c1' : wr.cell? ⟨b, o + k * 2, none⟩ = some (.int .i64 x.id) := (hbw.cell (p := ⟨b, o + k * 2, none⟩) hb).trans c1
        by_cases hmk : m < k
        · obtain ⟨b', o', hA, _, _, d1, d2⟩ := HR.out.ltr m (by omega)
          have hT := Lib.hid (take_all_succ (p := fun y : Ltr => y.id != x.id) xs m (by omega))
          have hI := Lib.hid (take_all_bad (p := fun y : Ltr => y.id != x.id) xs m k (by omega) hmk)
          generalize xs[m] = y at *
          injection hA with hA
          injection hA with hA1 hA2
          subst hA1 hA2
          have d1' : wr.cell? ⟨b, o + m * 2, none⟩ = some (.int .i64 y.id) := (hbw.cell (p := ⟨b, o + m * 2, none⟩) hb).trans d1
          clear d1 d2 c1 c2
          have hml : (m : Int) < (xs.length : Int) := by omega
          have hkl : (k : Int) < (xs.length : Int) := by omega
          by_cases hyx : y.id = x.id
          · have hyx' : (y.id == x.id) = true := by simpa using hyx
            have HY := Lib.hid hyx; clear hyx
            go_wp2
            go_quiet (fail)
            go_wp2
            go_ret
            exact ⟨ret_bool (hbad.out (by rw [hG.out, hI.out (by simp [HY.out])]; simp)).symm, below_drewN hbw _⟩
          · have hyx' : (y.id == x.id) = false := by simpa using hyx
            have HY := Lib.hid hyx; clear hyx
            go_wp2
            go_quiet (fail)
            go_wp2
            go_roundw
            case rel => exact ⟨m + 1, by omega, by go_num, below_drewN hbw _, by show _ = true; rw [hT.out, HA.out]; simpa using HY.out⟩
            case measure => simp [intOf]; omega
        · have hme : m = k := by omega
          have HE := Lib.hid hme; clear hme
          go_wp2
          go_roundw
          case rel =>
            refine ⟨k + 1, by omega, by go_num, hbw, fun j hj => ?_⟩
            by_cases hjk : j < k
            · exact HG.out j hjk
            · obtain rfl : j = k := by omega
              rw [hG.out, hcd'.out, ← HE.out, HA.out, hid'.out]; rfl
          case measure => simp [intOf]; omega
    · have hke : k = xs.length := by omega
      have HE := Lib.hid hke; clear hke
      go_wp2
      go_ret
      exact ⟨ret_bool (by
        by_cases h60 : xs.length ≤ 60
        · rw [okB_good h60 (by rw [← HE.out]; exact HG.out), decide_eq_true (by omega)]
        · rw [decide_eq_false (by omega)]; unfold okB; rw [decide_eq_false h60]; rfl), hbl⟩

end Go.Proofs.Ytiaepapdofcnjaa
