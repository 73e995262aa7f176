/- FL QA NC R0 R2 -/
import Derived.Test.YtffbcfaahegglaaDoorQ2
import Derived.Test.YtffbcfaahegglaaDoorQ6
import Derived.Test.YtffbcfaahegglaaDoorQ3
import Derived.Test.YtffbcfaahegglaaDoorQ23
import Derived.Test.YtffbcfaahegglaaDoorQ4
import Derived.Deep.RegionHeld3
import Derived.Test.YtffbcfaahegglaaDoorQ1
import Derived.ProofKit
import Derived.OpenShut
import Derived.ShutString
import Derived.ChangeOld
import Derived.Deep.Slices
import Derived.Deep.Fields
import Derived.ChangeSame
namespace Go.Proofs.YtffbcfaahegglaaDoor
open Go.RowKit

def findI (b : List Ltr) (n : Int) : Int := if okB b then fiI (fun x => x.id == n) b else -1
/-! ### FindLetter -/
end Go.Proofs.YtffbcfaahegglaaDoor

namespace Go.Proofs.YtffbcfaahegglaaDoor
open Go.RowKit

theorem rul_equalIn (a b : ByteArray) (w : World) : (Op.equalIn 10000 65 (.agg #[.string a, .string b]) (.agg #[.string a, .string b])).run Tryd.prog w = .ok true w := by
  have u9 := Tryd.underlying9
  have a9 := Tryd.isAgg9
  have z9 := Tryd.sizeOf9
  have hS : Tryd.prog.underlying 65 = some (.struct (Tryd.prog.fieldsOf 65)) := by kernel_rfl
  rw [show (10000 : Nat) = 9999 + 1 from rfl, run_equalIn_agg w 9999 65 _ _ hS (by kernel_rfl)]
  simp only [Program.fieldsOf, Tryd.underlying65]
  go_simp
theorem rul_neq (a b : ByteArray) (w : World) : (binOp .neq 65 (.agg #[.string a, .string b]) (.agg #[.string a, .string b])).run Tryd.prog w = .ok (.bool false) w := by
  rw [run_neq_struct, rul_equalIn]; rfl
theorem rul_guard (op : BinOp) (x y : Operand) (xs ys : Array Value) (w : World) : (eqGuard op 65 x y (.agg xs) (.agg ys)).run Tryd.prog w = .ok () w := run_eqGuard_agg w op _ x y xs ys (by kernel_rfl)

set_option maxHeartbeats 400000 in
theorem so_rules (v v' : Value) (xs : List Fwd) (w : World) (hv : rd w w.heap.size v xs) (hv' : rd w w.heap.size v' xs) :
    Calls Tryd.prog 18 #[v, v'] w fun e w' => e = .returned (.bool true) ∧ Below w.heap.size w w' := by
  obtain ⟨A, n, c, rfl, hn, hc, hm, hr⟩ := hv
  obtain ⟨A', n', c', rfl, hn', hc', hm', hr'⟩ := hv'
  subst hn hn'
  unfold maxLen at hm hm'
  have HR := Lib.hid hr; clear hr
  have HR' := Lib.hid hr'; clear hr'
  have l0 := Below.refl w.heap.size w
  have hl1 : ((xs.length : Int) != (xs.length : Int)) = false := by simp
  go_enter Tryd.func18, Tryd.ntmps18
  go_wp2_with fail
  go_loopw [5] (fun i wr => ∃ k : Nat, k ≤ xs.length ∧ i = .int .i64 k ∧ Below w.heap.size w wr) (fun i _ => xs.length - (intOf i).toNat)
  case atStart => exact ⟨0, Nat.zero_le _, rfl, l0⟩
  case round =>
    obtain ⟨k, hk, rfl, lr⟩ := hrel
    obtain ⟨w1, rfl⟩ : ∃ w1 : World, w1 = wr := ⟨_, rfl⟩
    clear l0
    by_cases hlt : k < xs.length
    · obtain ⟨b, o, rfl, hb, _, c1, c2⟩ := HR.out.fwdU k hlt
      obtain ⟨b', o', rfl, hb', _, d1, d2⟩ := HR'.out.fwdU k hlt
      generalize xs[k] = x at *
      have c1' := c1 w1 lr
      have c2' := c2 w1 lr
      have d1' := d1 w1 lr
      have d2' := d2 w1 lr
      clear c1 c2 d1 d2
      have hki : (k : Int) < (xs.length : Int) := by omega
      have q1 := rul_neq x.src x.dst
      have q2 := rul_guard
      go_wp2
      go_quiet (fail)
      go_wp2
      go_roundw
      case rel => exact ⟨k + 1, by omega, by go_num, below_drewN lr _⟩
      case measure => simp [intOf]; omega
    · go_wp2
      go_ret
      exact ⟨rfl, lr⟩

end Go.Proofs.YtffbcfaahegglaaDoor

namespace Go.Proofs.YtffbcfaahegglaaDoor
open Go.RowKit

/-- A network that was drawn: of the call's own, or nothing. -/
def drN (T1 T2 b0 : Nat) (w : World) (v : Value) (net : List Ofc) : Prop := (∃ os, isN T1 T2 b0 w v net os) ∨ (net = [] ∧ ∃ A c, v = .slice A 0 c ∧ c ≤ maxLen)
section
variable {T1 T2 b0 : Nat} {w w' : World} {v : Value} {net : List Ofc}
theorem drN.rd (h : drN T1 T2 b0 w v net) : rd w w.heap.size v net := by
  rcases h with ⟨os, h⟩ | ⟨rfl, A, c, rfl, hc⟩
  · exact h.rd
  · exact ⟨A, 0, c, rfl, rfl, Nat.zero_le _, hc, fun k h => absurd h (Nat.not_lt_zero k)⟩
theorem drN.keepBlk (h : drN T1 T2 b0 w v net) (hk : ∀ k, b0 ≤ k → k < w.heap.size → w'.heap[k]? = w.heap[k]?) : drN T1 T2 b0 w' v net := by
  rcases h with ⟨os, h⟩ | h
  · exact .inl ⟨os, h.keepBlk hk⟩
  · exact .inr h
theorem drN.grown {g : Nat} (h : drN T1 T2 b0 w v net) (hg : w.grownBy w' (some g)) (hlt : g < b0) : drN T1 T2 b0 w' v net :=
  h.keepBlk fun k h1 h2 => hg.block k h2 (fun e => by injection e; omega)
theorem drN.below (h : drN T1 T2 b0 w v net) (hb : Below w.heap.size w w') : drN T1 T2 b0 w' v net := h.keepBlk fun k _ h2 => hb.block k h2
theorem drN.base_ {b1 : Nat} (h : drN T1 T2 b0 w v net) (hb : b1 ≤ b0) : drN T1 T2 b1 w v net := by
  rcases h with ⟨os, h⟩ | h
  · exact .inl ⟨os, h.base_ hb⟩
  · exact .inr h
end
theorem kept2.toBelow {g b a : Nat} {u w : World} (h : kept2 g b u w) (h1 : a ≤ g) (h2 : a ≤ b) : Below a u w := ⟨h.os, h.tape, h.output, h.size, fun k hk => h.block k (by omega) (by omega)⟩

def l6BadNPost (T1 T2 g p b0 : Nat) (w : World) (e : Ending) (w' : World) : Prop :=
  ∃ (v' : Value) (net' : List Ofc) (p' : Nat), e = .returned v' ∧ drN T1 T2 b0 w' v' net' ∧ net'.length ≤ 4 ∧ (∀ k (h : k < net'.length), net'[k].rules.length ≤ 40) ∧ rdr w' g p' ∧ p' ≤ p + 12 ∧ kept2 g b0 w w'

set_option maxRecDepth 100000 in
set_option maxHeartbeats 2000000 in
theorem rd_l6Bad (g p b0 : Nat) (v : Value) (net : List Ofc) (os : List OfV) (w : World) (hr : rdr w g p) (hp : p ≤ 10000000000) (hv : isN 82 65 b0 w v net os) (hb0 : g < b0) (h2 : 2 ≤ net.length) (h4 : net.length ≤ 4) (h6 : ∀ k (h : k < net.length), net[k].rules.length ≤ 6) :
    Calls Tryd.prog 90 #[.pointer (some ⟨g, 0, none⟩), v] w (l6BadNPost 82 65 g p b0 w) := by
  have hlt := hr.lt
  obtain ⟨i0, hi, hz0, hzz1, hzz2⟩ := info_parts Tryd.infoRul
  rcases hv.form with ⟨_, h0⟩ | ⟨G, c, rfl, hG, hGl, hc, hm⟩
  · rw [h0] at h2; simp at h2
  have hon : os.length = net.length := hv.2.1
  unfold maxLen at hm
  have H6 := Lib.hid h6; clear h6
  have HV := Lib.hid hv; clear hv
  have hbw : b0 ≤ w.heap.size := by omega
  go_enter Tryd.func90, Tryd.ntmps90
  go_wp2_with fail
  refine (rd_pick g p net.length _ hr (by omega) (by unfold isI64; omega)).mono ?_
  rintro e w1 ⟨y, rfl, hy, hr1, hg1⟩
  obtain ⟨y0, y1⟩ := hy.2 (by omega)
  obtain ⟨k, rfl⟩ := Int.eq_ofNat_of_zero_le y0
  have k1 : kept2 g b0 w w1 := kept2.grown hg1 hbw
  have HV1 := Lib.hid (HV.out.keepBlk (w' := w1) fun j h1 h2 => hg1.block j h2 (fun e => by injection e; omega))
  have hz1 := hg1.size
  clear hy hg1
  go_wp2_with fail
  refine (rd_pick g (p + 1) 30 _ hr1 (by omega) (by unfold isI64; omega)).mono ?_
  rintro e w2 ⟨x, rfl, hx, hr2, hg2⟩
  have k2 := k1.step hg2 hbw
  have HV2 := Lib.hid (HV1.out.keepBlk (w' := w2) fun j h1 h2 => hg2.block j h2 (fun e => by injection e; omega))
  have hz2 := hg2.size
  have hlt2 := hr2.lt
  clear hx hg2 hr1 k1
  have hkl : k < net.length := by omega
  have hko : k < os.length := by omega
  have h6' : Hid (∀ j (h : j < net.length), net[j].rules.length ≤ 40) := fun j h => Nat.le_trans (H6.out j h) (by omega)
  by_cases c0 : x = 0
  · have d0 : (x == 0) = true := by simp [c0]
    clear c0
    go_wp2_with fail
    refine (rd_of 9 g (p + 1 + 1) _ [⟨#[]⟩, ⟨#[65]⟩, ⟨#[104, 101, 114, 101]⟩, ⟨#[97]⟩, ⟨#[122]⟩] _ (hr2.alloc _) (by omega) (list_str 9 (g + 1) w2 [⟨#[]⟩, ⟨#[65]⟩, ⟨#[104, 101, 114, 101]⟩, ⟨#[97]⟩, ⟨#[122]⟩] (by intro x hx; simp at hx; rcases hx with rfl | rfl | rfl | rfl | rfl <;> decide) (by decide) (by omega)) (by decide)).mono ?_
    rintro e w3 ⟨t, _, rfl, ht, hr3, hg3⟩
    replace hg3 := grown_trans (World.grownBy_alloc w2 _ _) hg3
    have HV3 := Lib.hid (HV2.out.keepBlk (w' := w3) fun j h1 h2 => hg3.block j h2 (fun e => by injection e; omega))
    obtain ⟨u1, g1⟩ := HV3.out.1.cellAt (j := k * 2) (by show _ < _ * 2; omega)
    have f1 := HV3.out.1.freeAt (k * 2)
    have HN := Lib.hid (HV3.out.setName (d := k) hko hkl ht)
    have HR : Hid (rdr (w3.setCell ⟨G, k * 2, none⟩ (.string t)) g (p + 1 + 1 + 1)) := hr3.grown (g' := G) (grown_setCell (World.grownBy.refl _ _) (.inl rfl) _) (by omega)
    have HB : Hid (kept2 g b0 w (w3.setCell ⟨G, k * 2, none⟩ (.string t))) := (k2.step hg3 hbw).trans (kept2.below ((Below.refl _ _).setCell (p := ⟨G, k * 2, none⟩) hG _))
    clear hg3 ht
    go_wp2_with fail
    go_ret
    refine ⟨_, _, _, rfl, .inl ⟨_, HN.out⟩, by simp; omega, fun j hj => ?_, HR.out, by omega, HB.out⟩
    rw [List.getElem_set]
    split
    · rename_i e; subst e; exact h6'.out k hkl
    · exact h6'.out j (by simpa using hj)
  have d0 : (x == 0) = false := by simp [c0]
  by_cases c1 : x = 1
  · have d1 : (x == 1) = true := by simp [c1]
    clear c1 c0
    obtain ⟨nm, hrow⟩ := HV2.out.2.2.1 k hko hkl
    obtain ⟨Ak, nk, ck, hvk, hnk, hck1, hck2, _⟩ := hrow.rd
    have hc1 := (own_ofv HV2.out.1 k hko).2.2
    rw [hvk] at hc1 hrow
    have hnk6 : nk ≤ 6 := by rw [hnk]; exact H6.out k hkl
    have HROW := Lib.hid hrow
    obtain ⟨ys, hys⟩ : ∃ ys, ys = net[k].rules := ⟨_, rfl⟩
    rw [← hys] at HROW hnk
    subst hnk
    have o1 : own 65 w2.heap.size (w2.alloc (Obj.cells #[.string ⟨#[57]⟩, .string ⟨#[122]⟩] 65)) (.slice (some ⟨w2.heap.size, 0, none⟩) 1 1) [(⟨⟨#[57]⟩, ⟨#[122]⟩⟩ : Fwd)] := own.made1 w2 65 [.string ⟨#[57]⟩, .string ⟨#[122]⟩] (⟨⟨#[57]⟩, ⟨#[122]⟩⟩ : Fwd) ⟨⟨by decide, by decide⟩, rfl⟩ (Nat.le_refl _)
    have HO1 := Lib.hid o1
    have hc1a : (w2.alloc (Obj.cells #[.string ⟨#[57]⟩, .string ⟨#[122]⟩] 65)).cell? ⟨G, k * 2 + 1, none⟩ = some (.slice Ak ys.length ck) := (World.cell?_alloc_lt w2 _ ⟨G, k * 2 + 1, none⟩ (by show G < w2.heap.size; omega)).trans hc1
    have hki : (0 : Int) ≤ (k : Int) := by omega
    have hkn : (k : Int) < (net.length : Int) := by omega
    clear o1 hrow nm hys
    go_wp2_with (at_builtin; refine wpList_appendAll (α := Fwd) rfl (.tmp 27) (.tmp 32) _ rfl w2.heap.size 65 i0 _ 32 Tryd.underlying34 hi hz0 hzz1 hzz2 rfl (by decide) (.slice (some ⟨w2.heap.size, 0, none⟩) 1 1) [(⟨⟨#[57]⟩, ⟨#[122]⟩⟩ : Fwd)] rfl HO1.out (.slice Ak ys.length ck) ys rfl _ (HROW.out.alloc _).rd (by unfold maxLen; simp; omega) (by simp; omega) (by simp) ?_; intro v5 w5 o5 g5 _)
    have c5 : kept2 g w2.heap.size w2 w5 := kept2.below (((Below.refl _ _).alloc (Nat.le_refl _) _).trans (below_append HO1.out g5 (by simp)))
    have hr5 : rdr w5 g (p + 1 + 1) := (hr2.alloc _).append HO1.out g5 hlt2
    clear g5
    go_wp2_with fail
    refine (rd_l6BadRules g (p + 1 + 1) w2.heap.size v5 _ w5 hr5 (by omega) o5 hlt2 (by simp; omega)).mono ?_
    rintro e w6 ⟨v6, zs, p6, rfl, o6, hl6, hr6, hp6, k6⟩
    have c6 := c5.trans k6
    have hz6 := c6.size
    have HV6 := Lib.hid (HV2.out.keepBlk (w' := w6) fun j h1 h2 => c6.block j h2 (by omega))
    obtain ⟨A6, n6, c6', hv6, hn6, _, _, _⟩ := o6.rd
    subst hn6 hv6
    obtain ⟨u1, g1⟩ := HV6.out.1.cellAt (j := k * 2 + 1) (by show _ < _ * 2; omega)
    have f1 := HV6.out.1.freeAt (k * 2 + 1)
    have hap : ∀ j, (Value.slice A6 zs.length c6').ownBlock = some j → w2.heap.size ≤ j := fun j hj => (o6.blk j hj).1
    have HN := Lib.hid (HV6.out.setRules (d := k) hko hkl (o6.base_ (show b0 ≤ w2.heap.size by omega)) (apart_ne fun j h1 h2 => by have := hap j h1; have := (HV2.out.1.blk j h2).2; omega) (fun i hi => apart_ne fun j h1 h2 => by have := hap j h1; have := ((HV2.out.2.2.1 i hi (by omega)).2.blk j h2).2; omega))
    have HR : Hid (rdr (w6.setCell ⟨G, k * 2 + 1, none⟩ (.slice A6 zs.length c6')) g p6) := hr6.grown (g' := G) (grown_setCell (World.grownBy.refl _ _) (.inl rfl) _) (by omega)
    have HB : Hid (kept2 g b0 w (w6.setCell ⟨G, k * 2 + 1, none⟩ (.slice A6 zs.length c6'))) := (k2.trans (c6.mono (by omega))).trans (kept2.below ((Below.refl _ _).setCell (p := ⟨G, k * 2 + 1, none⟩) hG _))
    clear hap o6 k6 c5 o5 hc1 hc1a
    go_wp2_with fail
    go_ret
    refine ⟨_, _, _, rfl, .inl ⟨_, HN.out⟩, by simp; omega, fun j hj => ?_, HR.out, by omega, HB.out⟩
    rw [List.getElem_set]
    split
    · exact hl6
    · exact h6'.out j (by simpa using hj)
  have d1 : (x == 1) = false := by simp [c1]
  by_cases c2 : x = 2
  · have d2 : (x == 2) = true := by simp [c2]
    clear c2 c1 c0
    go_wp2_with fail
    go_ret
    exact ⟨_, [], _, rfl, .inr ⟨rfl, _, _, rfl, by unfold maxLen; omega⟩, by simp, fun k h => absurd h (Nat.not_lt_zero k), hr2, by omega, k2⟩
  have d2 : (x == 2) = false := by simp [c2]
  clear c0 c1 c2
  go_wp2_with fail
  go_ret
  exact ⟨_, net, _, rfl, .inl ⟨os, HV2.out⟩, h4, h6'.out, hr2, by omega, k2⟩

/-- Drawn: a network, an office's name, a code. -/
def drawRPost (T1 T2 : Nat) (w : World) (e : Ending) (w' : World) : Prop :=
  ∃ (v : Value) (net : List Ofc) (s t : ByteArray), e = .returned (.tuple #[v, .string s, .string t]) ∧ drN T1 T2 w.heap.size w' v net ∧ net.length ≤ 4 ∧ (∀ k (h : k < net.length), net[k].rules.length ≤ 40) ∧ s.size ≤ maxLen ∧ t.size ≤ maxLen ∧ Below w.heap.size w w'

def drawNPost (T1 T2 : Nat) (w : World) (e : Ending) (w' : World) : Prop :=
  ∃ (v : Value) (net : List Ofc) (s : ByteArray), e = .returned (.tuple #[v, .string s]) ∧ drN T1 T2 w.heap.size w' v net ∧ net.length ≤ 4 ∧ (∀ k (h : k < net.length), net[k].rules.length ≤ 40) ∧ s.size ≤ maxLen ∧ Below w.heap.size w w'
end Go.Proofs.YtffbcfaahegglaaDoor

namespace Go.Proofs.YtffbcfaahegglaaDoor
open Go.RowKit Go.ChangeShapes Go.WideShapes Go.Deep

/-- Whatever reads at type t reads as some x of α. -/
def Opens (P : Program) (t : TypeId) (α : Type) [El α] : Prop :=
  ∀ {H : Type} (enc : TypeId × Value → H) (w : World) (spare : Nat → Bool) (held : Bool) (fuel : Nat) (cs : List Value) (x : DataW H × List MemPlace),
    DataW.trod enc P w 0 spare held fuel t cs = some x → ∃ y : α, El.el w w.heap.size y cs

theorem list_of {α : Type} {p : Nat → α → Prop} : ∀ {n : Nat}, (∀ i, i < n → ∃ y, p i y) → ∃ xs : List α, xs.length = n ∧ ∀ i (h : i < xs.length), p i xs[i]
  | 0, _ => ⟨[], rfl, fun i h => absurd h (Nat.not_lt_zero i)⟩
  | n + 1, h => by
    obtain ⟨xs, hl, hp⟩ := list_of (n := n) (fun i hi => h i (by omega))
    obtain ⟨y, hy⟩ := h n (by omega)
    refine ⟨xs ++ [y], by simp [hl], fun i hi => ?_⟩
    by_cases hin : i < xs.length
    · rw [List.getElem_append_left hin]
      exact hp i hin
    · have : i = n := by simp at hi; omega
      subst this
      rw [List.getElem_append_right (by omega)]
      simpa [hl] using hy

theorem opens_row {α : Type} [El α] {P : Program} {t e : TypeId} (ht : P.underlying t = some (.slice e)) (hc : P.cellsOf e = El.size α) (hs : 0 < El.size α) (ho : Opens P e α)
    {H : Type} {enc : TypeId × Value → H} {w : World} {spare : Nat → Bool} {held : Bool} {fuel : Nat} {v : Value} {x : DataW H × List MemPlace}
    (h : DataW.trod enc P w 0 spare held fuel t [v] = some x) : ∃ xs : List α, rd w w.heap.size v xs := by
  rcases open_slice ht h with ⟨h0, _⟩ | ⟨a, len, cap, m, n, D, Pl, hcs, hb, hl, hm, hmm, hx, hi⟩
  · injection h0 with h0
    subst h0
    exact ⟨[], rd.nil_⟩
  · injection hcs with hv
    subst hv
    obtain ⟨xs, hxl, hxp⟩ := list_of (n := len) (p := fun i (y : α) => ∃ cs : List Value, El.el w w.heap.size y cs ∧ ∀ j u, cs[j]? = some u → w.cell? (a.add (i * El.size α + j)) = some u) (fun i hil => by
      obtain ⟨cs', hcc, hd⟩ := hi i (by rw [hmm]; split <;> omega)
      obtain ⟨y, hy⟩ := ho enc w spare held n cs' _ hd
      obtain ⟨_, hcl, hat⟩ := World.cells?_some hcc
      refine ⟨y, cs', hy, fun j u hu => ?_⟩
      have hj : j < P.cellsOf e := by
        rw [← hcl]
        exact (List.getElem?_eq_some_iff.1 hu).1
      have := hat j hj
      rw [← add_add, ← hc, this, hu])
    refine ⟨xs, some a, len, cap, rfl, hxl.symm, hl, hm, fun k hk => ?_⟩
    obtain ⟨cs, hel, hcell⟩ := hxp k hk
    have h0 : cs[0]? = some (cs[0]'(by rw [El.len hel]; exact hs)) := List.getElem?_eq_getElem _
    obtain ⟨b, o, spot⟩ := a
    have hc0 := hcell 0 _ h0
    have hspot : spot = none := by
      have h1 := hxp 0 (by omega)
      obtain ⟨cs1, hel1, hcell1⟩ := h1
      have h01 : cs1[0]? = some (cs1[0]'(by rw [El.len hel1]; exact hs)) := List.getElem?_eq_getElem _
      have := World.cell?_spot (hcell1 0 _ h01)
      simpa [Addr.add] using this
    subst hspot
    have hlt := World.block_lt_of_cell? _ _ hc0
    rw [block_of_add] at hlt
    exact ⟨b, o, cs, rfl, hlt, hel, fun j u hu => by have := hcell j u hu; rwa [add_lit] at this⟩

/-- The cells of a struct, field by field. -/
theorem trod_fields {H : Type} {enc : TypeId × Value → H} {P : Program} {w : World} {base : Nat} {spare : Nat → Bool} {held : Bool} {t : TypeId} {fs : Array Field} {fuel : Nat} {cs : List Value} {x : DataW H × List MemPlace}
    (ht : P.underlying t = some (.struct fs)) (h : DataW.trod enc P w base spare held fuel t cs = some x) :
    cs.length = P.cellsOf t ∧ ∀ (i : Nat) (f : Field), fs[i]? = some f → ∃ n y, DataW.trod enc P w base spare held n f.type ((cs.drop f.offset).take (P.cellsOf f.type)) = some y := by
  obtain ⟨xs, n, _, _, hlen, hl, hf⟩ := DataW.trod_struct ht h
  refine ⟨hlen, fun i f hi => ?_⟩
  have hil : i < xs.length := by rw [hl]; exact (Array.getElem?_eq_some_iff.1 hi).1
  exact ⟨n, xs[i], by rw [hf i f hi]; exact List.getElem?_eq_getElem hil⟩
theorem list2 {α : Type} {l : List α} (h : l.length = 2) : ∃ a b, l = [a, b] := by
  match l, h with
  | [a, b], _ => exact ⟨a, b, rfl⟩
theorem list3 {α : Type} {l : List α} (h : l.length = 3) : ∃ a b c, l = [a, b, c] := by
  match l, h with
  | [a, b, c], _ => exact ⟨a, b, c, rfl⟩
theorem list4 {α : Type} {l : List α} (h : l.length = 4) : ∃ a b c d, l = [a, b, c, d] := by
  match l, h with
  | [a, b, c, d], _ => exact ⟨a, b, c, d, rfl⟩
theorem list6 {α : Type} {l : List α} (h : l.length = 6) : ∃ a b c d e f, l = [a, b, c, d, e, f] := by
  match l, h with
  | [a, b, c, d, e, f], _ => exact ⟨a, b, c, d, e, f, rfl⟩

end Go.Proofs.YtffbcfaahegglaaDoor

namespace Go.Proofs.YtffbcfaahegglaaDoor
open Go.ChangeShapes Go.WideShapes Go.ChangeAt Go.RowKit

theorem opensByte : Opens Tryd.prog 5 UInt8 := by
  intro H enc w spare held fuel cs x h
  obtain ⟨n, rfl, _, wf⟩ := DataW.trod_int Tryd.underlying5 h
  simp [Lit.wf, IntKind.min, IntKind.max, IntKind.signed, IntKind.bits] at wf
  refine ⟨UInt8.ofNat n.toNat, ?_⟩
  show [Value.int .u8 n] = [Value.int .u8 ((UInt8.ofNat n.toNat).toNat : Int)]
  rw [UInt8.toNat_ofNat_of_lt' (by show n.toNat < 256; omega)]
  congr 2
  omega

end Go.Proofs.YtffbcfaahegglaaDoor
