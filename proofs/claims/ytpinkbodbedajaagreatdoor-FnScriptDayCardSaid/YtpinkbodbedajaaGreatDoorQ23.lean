/- ZA ZN ZG JC JD JE JF JG JH ZC ZD ZB ZI -/
import Derived.Lib.OthersKept
import Derived.Test.YtpinkbodbedajaaGreatDoorQ21
import Derived.Test.YtpinkbodbedajaaGreatDoorQ22
import Derived.Test.YtpinkbodbedajaaGreatDoorQ15
import Derived.Test.YtpinkbodbedajaaGreatDoorQ16
import Derived.Test.YtpinkbodbedajaaGreatDoorQ13
import Derived.Deep.RegionHeld3
import Derived.Lib.LaidTab
import Derived.Shelf.Strings.Split
import Derived.Test.YtpinkbodbedajaaGreatDoorQ18
import Derived.Test.YtpinkbodbedajaaGreatDoorQ14
namespace Go.Proofs.YtpinkbodbedajaaGreatDoor
open Go.RowKit

theorem own_obj {α : Type} [El α] {T base : Nat} {w : World} {v : Value} {xs : List α} (h : own T base w v xs) {k : Nat} (hk : v.ownBlock = some k) : ∃ cur : Array Value, w.heap[k]? = some (.cells cur T (0, 0)) := by
  obtain ⟨css, ⟨h1, h2⟩, _⟩ := h
  rcases h2 with ⟨rfl, _⟩ | ⟨g, cap, cur, rfl, hg, hh, _⟩
  · cases hk
  · injection hk with hk
    subst hk
    exact ⟨_, hh⟩
theorem own.keepT {α : Type} [Flat α] {T base : Nat} {w w' : World} {v : Value} {xs : List α} (h : own T base w v xs) (hk : ∀ (k : Nat) (cur : Array Value), w.heap[k]? = some (.cells cur T (0, 0)) → w'.heap[k]? = w.heap[k]?) : own T base w' v xs :=
  h.keepBlk fun k e => by
    obtain ⟨cur, hc⟩ := own_obj h e
    exact hk k cur hc
theorem isN.keepT {T1 T2 base : Nat} {w w' : World} {v : Value} {net : List Ofc} {os : List OfV} (h : isN T1 T2 base w v net os) (h1 : ∀ (k : Nat) (cur : Array Value), w.heap[k]? = some (.cells cur T1 (0, 0)) → w'.heap[k]? = w.heap[k]?)
    (h2 : ∀ (k : Nat) (cur : Array Value), w.heap[k]? = some (.cells cur T2 (0, 0)) → w'.heap[k]? = w.heap[k]?) : isN T1 T2 base w' v net os :=
  ⟨h.1.keepT h1, h.2.1, fun k a b => ⟨(h.2.2.1 k a b).1, (h.2.2.1 k a b).2.keepT h2⟩, h.2.2.2.1, h.2.2.2.2⟩

structure Dsk where
  letters : List Ltr
  day : Dy
  net : List Ofc

/-- The desk lies in block d; the value of the held codes beside it. -/
def dskAt (B : Nat) (w : World) (d : Nat) (s : Dsk) (vH : Value) : Prop :=
  ∃ (vL vO vF vN : Value) (os : List OfV), w.heap[d]? = some (.cells #[vL, .int .i64 s.day.plan.bins, .int .i64 s.day.plan.passes, vO, vF, vH, .int .i64 s.day.size, vN] 104 (0, 0)) ∧
    own 89 B w vL s.letters ∧ own 9 B w vO s.day.plan.order ∧ own 94 B w vF s.day.fwds ∧ own 9 B w vH s.day.held ∧ isN 102 174 B w vN s.net os ∧ apart vO vH
theorem dskAt.lt {B d : Nat} {w : World} {s : Dsk} {vH : Value} (h : dskAt B w d s vH) : d < w.heap.size := by
  obtain ⟨_, _, _, _, _, h, _⟩ := h
  exact (Array.getElem?_eq_some_iff.1 h).1
theorem dskAt.obj {B d : Nat} {w : World} {s : Dsk} {vH : Value} (h : dskAt B w d s vH) : ∃ cur : Array Value, w.heap[d]? = some (.cells cur 104 (0, 0)) := by
  obtain ⟨_, _, _, _, _, h, _⟩ := h
  exact ⟨_, h⟩
theorem dskAt.held {B d : Nat} {w : World} {s : Dsk} {vH : Value} (h : dskAt B w d s vH) : own 9 B w vH s.day.held := by
  obtain ⟨_, _, _, _, _, _, _, _, _, h, _⟩ := h
  exact h
theorem dskAt.keep {B d : Nat} {w w' : World} {s : Dsk} {vH : Value} (h : dskAt B w d s vH) (hk : ∀ (k : Nat) (cur : Array Value) (e : TypeId), w.heap[k]? = some (.cells cur e (0, 0)) → e ≠ 5 → e ≠ 107 → w'.heap[k]? = w.heap[k]?) : dskAt B w' d s vH := by
  obtain ⟨vL, vO, vF, vN, os, h0, h1, h2, h3, h4, h5, h6⟩ := h
  exact ⟨vL, vO, vF, vN, os, (hk _ _ _ h0 (by decide) (by decide)).trans h0, h1.keepT fun k cur hc => hk k cur _ hc (by decide) (by decide), h2.keepT fun k cur hc => hk k cur _ hc (by decide) (by decide), h3.keepT fun k cur hc => hk k cur _ hc (by decide) (by decide), h4.keepT fun k cur hc => hk k cur _ hc (by decide) (by decide),
    h5.keepT (fun k cur hc => hk k cur _ hc (by decide) (by decide)) fun k cur hc => hk k cur _ hc (by decide) (by decide), h6⟩
theorem dskAt.below {B d : Nat} {w w' : World} {s : Dsk} {vH : Value} (h : dskAt B w d s vH) (hb : Below w.heap.size w w') : dskAt B w' d s vH :=
  h.keep fun k cur e hc _ _ => hb.block k (Array.getElem?_eq_some_iff.1 hc).1

/-- What a line turns of what lay there: the desk, and the row of the held codes. -/
structure Kd (d : Nat) (vH : Value) (w w' : World) : Prop where
  os : w'.os = w.os
  tape : w'.tape = w.tape
  output : w'.output = w.output
  size : w.heap.size ≤ w'.heap.size
  block : ∀ k, k < w.heap.size → k ≠ d → some k ≠ vH.ownBlock → w'.heap[k]? = w.heap[k]?
theorem Kd.of_below {d : Nat} {vH : Value} {w w' : World} (h : Below w.heap.size w w') : Kd d vH w w' := ⟨h.os, h.tape, h.output, h.size, fun k hk _ _ => h.block k hk⟩
theorem Kd.trans {d : Nat} {vH : Value} {a b c : World} (h : Kd d vH a b) (k : Kd d vH b c) : Kd d vH a c :=
  ⟨k.os.trans h.os, k.tape.trans h.tape, k.output.trans h.output, Nat.le_trans h.size k.size, fun i hi h1 h2 => (k.block i (Nat.lt_of_lt_of_le hi h.size) h1 h2).trans (h.block i hi h1 h2)⟩
theorem Kd.set {d : Nat} {vH : Value} {a w : World} (h : Kd d vH a w) (i : Nat) (u : Value) : Kd d vH a (w.setCell ⟨d, i, none⟩ u) :=
  ⟨h.os, h.tape, h.output, by have := h.size; simpa using this, fun k hk h1 h2 => (Below.heap_setCell _ _ _ _ (fun e => h1 e)).trans (h.block k hk h1 h2)⟩
theorem Kd.toBelow {d B : Nat} {vH : Value} {w w' : World} (h : Kd d vH w w') (hd : B ≤ d) (hdl : d < w.heap.size) (hH : ∀ k, vH.ownBlock = some k → B ≤ k) : Below B w w' :=
  ⟨h.os, h.tape, h.output, h.size, fun k hk => h.block k (by omega) (by omega) fun e => by have := hH k e.symm; omega⟩
/-- The held codes lie where they lay, or in a new row. -/
def heldN (w : World) (vH vH' : Value) : Prop := vH'.ownBlock = vH.ownBlock ∨ ∀ k, vH'.ownBlock = some k → w.heap.size ≤ k
theorem heldN.refl (w : World) (vH : Value) : heldN w vH vH := .inl rfl

theorem builder_keep {T e B b : Nat} {bs : List Value} {w w' : World} (h : Lib.IsBuilderF T e B b bs w) (hk : ∀ (k : Nat) (cur : Array Value) (e' : TypeId) (fz : Nat × Nat), w.heap[k]? = some (.cells cur e' fz) → (e' = T ∨ e' = e) → w'.heap[k]? = w.heap[k]?) : Lib.IsBuilderF T e B b bs w' := by
  have key : ∀ p, Lib.BuilderAtF T e B b p bs w → Lib.BuilderAtF T e B b p bs w' := fun p h => by
    obtain ⟨hB, v, hb, ⟨h1, h2⟩, hne⟩ := h
    refine ⟨hB, v, (hk _ _ _ _ hb (.inl rfl)).trans hb, ⟨h1, ?_⟩, hne⟩
    rcases h2 with h2 | ⟨g, cap, cur, fz, hv, hg, hh, rest⟩
    · exact .inl h2
    · exact .inr ⟨g, cap, cur, fz, hv, hg, (hk _ _ _ _ hh (.inr rfl)).trans hh, rest⟩
  rcases h with h | h
  · exact .inl (key _ h)
  · exact .inr (key _ h)
theorem builder_kd {B0 B b d : Nat} {bs : List Value} {w w' : World} {s : Dsk} {vH : Value} (h : Lib.IsBuilderF 107 5 B b bs w) (hD : dskAt B0 w d s vH) (hK : Kd d vH w w') : Lib.IsBuilderF 107 5 B b bs w' := by
  refine builder_keep h fun k cur e' fz hc he => hK.block k (Array.getElem?_eq_some_iff.1 hc).1 (fun e => ?_) fun e => ?_
  · subst e
    obtain ⟨c, h0⟩ := hD.obj
    rw [h0] at hc
    injection hc with hc
    injection hc with _ hc _
    rcases he with he | he <;> rw [← hc] at he <;> exact absurd he (by decide)
  · obtain ⟨c, h0⟩ := own_obj hD.held e.symm
    rw [h0] at hc
    injection hc with hc
    injection hc with _ hc _
    rcases he with he | he <;> rw [← hc] at he <;> exact absurd he (by decide)
theorem dsk_others {B b d : Nat} {w w' : World} {s : Dsk} {vH : Value} (hD : dskAt B w d s vH) (hO : Lib.OthersKept 5 (some b) w w') (hb : ∃ cur fz, w.heap[b]? = some (.cells cur 107 fz)) : dskAt B w' d s vH :=
  hD.keep fun k cur e hc h1 h2 => by
    obtain ⟨cb, fb, hb⟩ := hb
    rw [hO k _ hc (fun e' => by
      injection e' with e'
      subst e'
      rw [hb] at hc
      injection hc with hc
      injection hc with _ hc _
      exact h2 hc.symm) fun c fz e' => by
        injection e' with _ e' _
        exact h1 e', hc]

/-- One line. X: what is said of tables, and stands throughout. -/
def StepOk (X : World → Prop) (line : ByteArray) (s s' : Dsk) (a : ByteArray) : Prop :=
  ∀ (B d : Nat) (vH : Value) (w : World), X w → B ≤ w.heap.size → dskAt B w d s vH →
    Calls Tryz.prog 68 #[.pointer (some ⟨d, 0, none⟩), .string line] w fun e w' => e = .returned (.string a) ∧ ∃ vH', dskAt B w' d s' vH' ∧ Kd d vH w w' ∧ heldN w vH vH'
def orNo (a : ByteArray) : ByteArray := if sEq a ⟨#[]⟩ then ⟨#[110, 111]⟩ else a
/-- What a script tells, from line k on. -/
def outA (ans : Nat → ByteArray) : Nat → ByteArray → List ByteArray → ByteArray
  | _, o, [] => o
  | k, o, l :: ls => if sEq l ⟨#[]⟩ then outA ans (k + 1) o ls else if 100 ≤ k ∨ 40000 < o.size then o ++ ⟨#[102, 117, 108, 108, 10]⟩ else outA ans (k + 1) (o ++ (orNo (ans k) ++ ⟨#[10]⟩)) ls
/-- What is told ahead of line k. -/
def outK (ans : Nat → ByteArray) (ls : List ByteArray) : Nat → ByteArray
  | 0 => ⟨#[]⟩
  | k + 1 => if sEq (ls.getD k ⟨#[]⟩) ⟨#[]⟩ then outK ans ls k else outK ans ls k ++ (orNo (ans k) ++ ⟨#[10]⟩)

theorem sEq_empty {a : ByteArray} : sEq a ⟨#[]⟩ = true ↔ a.size = 0 := by
  rw [sEq_iff]
  constructor
  · rintro rfl; rfl
  · intro h; exact ByteArray.ext (Array.eq_empty_of_size_eq_zero h)
theorem sEq_nonempty {a : ByteArray} (h : a.size ≠ 0) : sEq a ⟨#[]⟩ = false := by
  cases hq : sEq a ⟨#[]⟩
  · rfl
  · exact absurd (sEq_empty.1 hq) h
theorem orNo_pos {a : ByteArray} (h : 1 ≤ a.size) : orNo a = a := by
  unfold orNo; rw [sEq_nonempty (by omega)]; rfl
theorem outA_skip {ans : Nat → ByteArray} {k : Nat} {o l : ByteArray} {ls : List ByteArray} (h : l.size = 0) : outA ans k o (l :: ls) = outA ans (k + 1) o ls := by
  rw [outA, sEq_empty.2 h, if_pos rfl]
theorem outA_full {ans : Nat → ByteArray} {k : Nat} {o l : ByteArray} {ls : List ByteArray} (h : l.size ≠ 0) (hf : 100 ≤ k ∨ 40000 < o.size) : outA ans k o (l :: ls) = o ++ ⟨#[102, 117, 108, 108, 10]⟩ := by
  rw [outA, sEq_nonempty h, if_neg (by simp), if_pos hf]
theorem outA_step {ans : Nat → ByteArray} {k : Nat} {o l : ByteArray} {ls : List ByteArray} (h : l.size ≠ 0) (hk : k < 100) (ho : o.size ≤ 40000) : outA ans k o (l :: ls) = outA ans (k + 1) (o ++ (orNo (ans k) ++ ⟨#[10]⟩)) ls := by
  rw [outA, sEq_nonempty h, if_neg (by simp), if_neg (by omega)]
theorem outK_skip {ans : Nat → ByteArray} {ls : List ByteArray} {k : Nat} (h : k < ls.length) (he : ls[k].size = 0) : outK ans ls (k + 1) = outK ans ls k := by
  rw [outK, List.getD_eq_getElem?_getD, List.getElem?_eq_getElem h, Option.getD_some, sEq_empty.2 he, if_pos rfl]
theorem outK_step {ans : Nat → ByteArray} {ls : List ByteArray} {k : Nat} (h : k < ls.length) (he : ls[k].size ≠ 0) : outK ans ls (k + 1) = outK ans ls k ++ (orNo (ans k) ++ ⟨#[10]⟩) := by
  rw [outK, List.getD_eq_getElem?_getD, List.getElem?_eq_getElem h, Option.getD_some, sEq_nonempty he, if_neg (by simp)]

end Go.Proofs.YtpinkbodbedajaaGreatDoor

namespace Go.Proofs.YtpinkbodbedajaaGreatDoor
open Go.RowKit

theorem parts_one {c : UInt8} {p : ByteArray} (h : c ∉ p.data.toList) : partsB c p = [p] := by
  unfold partsB; rw [spl_nosep h]; rfl
theorem code_mem {c : ByteArray} (h : isCode c = true) : c.size = 7 ∧ ∀ b ∈ c.data.toList, 48 ≤ b.toNat ∧ b.toNat ≤ 57 := by
  unfold isCode at h
  rw [Bool.and_eq_true, beq_iff_eq] at h
  exact ⟨h.1, digs_mem h.2⟩

/-- Texts with single spaces between them, or a dash. -/
def listT (ps : List ByteArray) : ByteArray := if ps.length = 0 then ⟨#[45]⟩ else joinT ps spT
theorem joinT_nn {ps : List ByteArray} {sep : ByteArray} (h0 : ps.length ≠ 0) (h : ∀ p ∈ ps, 1 ≤ p.size) : 1 ≤ (joinT ps sep).size := by
  obtain ⟨k, hk⟩ : ∃ k, ps.length = k + 1 := ⟨ps.length - 1, by omega⟩
  have e : ps = ps.take k ++ [ps[k]] := by
    conv => lhs; rw [← List.take_append_drop k ps, List.drop_eq_getElem_cons (by omega)]
    rw [List.drop_eq_nil_of_le (by omega)]
  have hp := h ps[k] (List.getElem_mem _)
  rw [e]
  by_cases hn : ps.take k = []
  · rw [hn, List.nil_append, joinT_one]; exact hp
  · rw [joinT_snoc _ _ _ hn, ByteArray.size_append]; omega
theorem listT_pos {ps : List ByteArray} (h : ∀ p ∈ ps, 1 ≤ p.size) : 1 ≤ (listT ps).size := by
  unfold listT
  split
  · decide
  · rename_i h0
    exact joinT_nn h0 h

/-! ### The lines -/
def okW : ByteArray := ⟨#[111, 107]⟩
end Go.Proofs.YtpinkbodbedajaaGreatDoor

namespace Go.Proofs.YtpinkbodbedajaaGreatDoor
open Go.RowKit

theorem listT_join {ps : List ByteArray} (h : ∀ p ∈ ps, 1 ≤ p.size) : listT ps = if (joinT ps spT).size = 0 then ⟨#[45]⟩ else joinT ps spT := by
  unfold listT
  by_cases h0 : ps.length = 0
  · rw [if_pos h0, List.eq_nil_of_length_eq_zero h0, joinT_nil]; rfl
  · have := joinT_nn (sep := spT) h0 h
    rw [if_neg h0, if_neg (by omega)]
set_option maxRecDepth 100000 in
set_option maxHeartbeats 800000 in
theorem so_list (v : Value) (ps : List ByteArray) (w : World) (hv : rd w w.heap.size v ps) (hN : ps.length ≤ 1000000000) (hz : ∀ p ∈ ps, 1 ≤ p.size ∧ p.size ≤ 1000) :
    Calls Tryz.prog 16 #[v] w fun e w' => e = .returned (.string (listT ps)) ∧ w = w' := by
  obtain ⟨A, n, c, rfl, hn, hc, hm, hr⟩ := hv
  subst hn
  unfold maxLen at hm
  have HR := Lib.hid hr; clear hr
  have HL := Lib.hid (listT_join fun p hp => (hz p hp).1)
  have HZ := Lib.hid hz
  have HPS := Lib.hid (fun k => Nat.le_trans (pre_size (sep := spT) (fun p hp => (hz p hp).2) k) (Nat.mul_le_mul hN (show 1000 + spT.size ≤ 1001 by decide)))
  clear hz
  go_enter Tryz.func16, Tryz.ntmps16
  go_wp2_with fail
  go_loop [3, 4] (fun t i => ∃ k : Nat, k ≤ ps.length ∧ i = .int .i64 k ∧ t = .string (joinT (ps.take k) spT)) (fun _ i => ps.length - (intOf i).toNat)
  case atStart => exact ⟨0, Nat.zero_le _, rfl, by rw [pre_zero]⟩
  case round =>
    obtain ⟨k, hk, rfl, rfl⟩ := hrel
    have hps := HPS.out k
    by_cases hlt : k < ps.length
    · obtain ⟨b, o, rfl, hb, hx, y1⟩ := HR.out.str k hlt
      have HP0 : Hid (k = 0 → joinT (ps.take (k + 1)) spT = ps[k]) := fun h => by subst h; rw [pre_one hlt]
      have HP1 : Hid (0 < k → joinT (ps.take (k + 1)) spT = joinT (ps.take k) spT ++ spT ++ ps[k]) := fun h => pre_succ hlt h
      have hZ : Hid (k = 0 → joinT (ps.take k) spT = ⟨#[]⟩) := fun h => by subst h; exact pre_zero _ _
      have hxz := (HZ.out _ (List.getElem_mem hlt)).2
      obtain ⟨PN, hPN⟩ : ∃ P, joinT (ps.take (k + 1)) spT = P := ⟨_, rfl⟩
      obtain ⟨P, hP⟩ : ∃ P, joinT (ps.take k) spT = P := ⟨_, rfl⟩
      rw [hPN] at HP1 HP0
      rw [hP] at HP1 hps hZ ⊢
      have HPN := Lib.hid hPN
      clear hPN hP
      generalize ps[k] = x at *
      have hki : (k : Int) < (ps.length : Int) := by omega
      by_cases hk0 : k = 0
      · subst hk0
        simp only [Nat.zero_mul, Nat.zero_add, Nat.add_zero] at y1
        have HEQ : Hid (Value.string (P ++ x) = .string (joinT (ps.take (0 + 1)) spT)) := by
          show _ = _
          rw [HPN.out, HP0.out rfl, hZ.out rfl]
          all_goals congr 1
          all_goals refine ba_ext ?_
          all_goals simp
        clear hki
        have hki : (0 : Int) < (ps.length : Int) := by omega
        have ha1 : ¬ 9223372036854775807 < P.size + x.size := by omega
        go_wp2_with fail
        go_round
        case rel => exact ⟨0 + 1, by omega, by go_num, HEQ.out⟩
        case measure => simp [intOf]; omega
      · have hki1 : (0 : Int) < (k : Int) := by omega
        have HEQ : Hid (Value.string (P ++ ⟨#[32]⟩ ++ x) = .string (joinT (ps.take (k + 1)) spT)) := by
          show _ = _
          rw [HPN.out, HP1.out (by omega)]
          rfl
        have ha1 : ¬ 9223372036854775807 < P.size + 1 + x.size := by omega
        have ha2 : ¬ 9223372036854775807 < P.size + 1 := by omega
        go_wp2_with fail
        go_round
        case rel => exact ⟨k + 1, by omega, by go_num, HEQ.out⟩
        case measure => simp [intOf]; omega
    · have HE := Lib.hid (show k = ps.length by omega)
      have HPE : Hid (joinT (ps.take k) spT = joinT ps spT) := by show _ = _; rw [HE.out, List.take_length]
      generalize joinT (ps.take k) spT = P at *
      by_cases hz : P.size = 0
      · have HZ2 : Hid (listT ps = ⟨#[45]⟩) := by show _ = _; rw [HL.out, ← HPE.out, if_pos hz]
        have he : P.toList.isEmpty = true := by rw [ByteArray.toList_eq, List.isEmpty_iff_length_eq_zero]; simpa using hz
        have he2 : (P.toList == []) = true := by rw [List.isEmpty_iff.1 he]; rfl
        clear hz
        go_wp2_with fail
        go_ret
        exact ⟨ret_str HZ2.out.symm, rfl⟩
      · have HZ2 : Hid (listT ps = P) := by show _ = _; rw [HL.out, ← HPE.out, if_neg hz]
        have he : P.toList.isEmpty = false := by rw [ByteArray.toList_eq, Bool.eq_false_iff, Ne, List.isEmpty_iff_length_eq_zero]; simpa using hz
        have he2 : (P.toList == []) = false := by
          cases hq : (P.toList == [])
          · rfl
          · rw [beq_iff_eq] at hq; rw [hq] at he; cases he
        clear hz
        go_wp2_with fail
        go_ret
        exact ⟨ret_str HZ2.out.symm, rfl⟩

end Go.Proofs.YtpinkbodbedajaaGreatDoor

namespace Go.Proofs.YtpinkbodbedajaaGreatDoor
open Go.RowKit

def numL (l : List UInt8) : Nat := l.foldl (fun n b => 10 * n + (b.toNat - 48)) 0
theorem numL_snoc (l : List UInt8) (b : UInt8) : numL (l ++ [b]) = 10 * numL l + (b.toNat - 48) := by
  unfold numL; rw [List.foldl_append]; rfl
theorem digs_take {l : List UInt8} (h : digs l = true) (k : Nat) : digs (l.take k) = true := by
  unfold digs at *
  exact List.all_eq_true.2 fun b hb => List.all_eq_true.1 h b (List.mem_of_mem_take hb)
theorem numL_lt : ∀ (k : Nat) (l : List UInt8), digs l = true → l.length = k → numL l < 10 ^ k
  | 0, l, _, hl => by rw [List.eq_nil_of_length_eq_zero hl]; decide
  | k + 1, l, h, hl => by
    have e : l = l.take k ++ [l[k]] := by
      conv => lhs; rw [← List.take_append_drop k l, List.drop_eq_getElem_cons (by omega)]
      rw [List.drop_eq_nil_of_le (by omega)]
    have ih := numL_lt k (l.take k) (digs_take h k) (by rw [List.length_take]; omega)
    have hb := digs_mem h _ (List.getElem_mem (show k < l.length by omega))
    rw [e, numL_snoc, Nat.pow_succ]
    omega

set_option maxRecDepth 100000 in
set_option maxHeartbeats 800000 in
theorem impl_digitsNumber (s : ByteArray) (w : World) (hd : digs s.data.toList = true) (hz : s.size ≤ 17) :
    Calls Tryz.prog 248 #[.string s] w fun e w' => e = .returned (.int .i64 (numL s.data.toList : Int)) ∧ w = w' := by
  have HD := Lib.hid hd; clear hd
  go_enter Tryz.func248, Tryz.ntmps248
  go_wp2_with fail
  go_loop [3, 4] (fun t i => ∃ k : Nat, k ≤ s.size ∧ i = .int .i64 k ∧ t = .int .i64 (numL (s.data.toList.take k) : Int)) (fun _ i => s.size - (intOf i).toNat)
  case atStart => exact ⟨0, Nat.zero_le _, rfl, rfl⟩
  case round =>
    obtain ⟨k, hk, rfl, rfl⟩ := hrel
    by_cases hlt : k < s.size
    · have hlt' : k < s.data.toList.length := by simpa using hlt
      have hb := digs_mem HD.out s[k] (by
        have := List.getElem_mem hlt'
        exact this)
      have HS0 : numL (s.data.toList.take (k + 1)) = 10 * numL (s.data.toList.take k) + (s[k].toNat - 48) := by
        rw [List.take_succ_eq_append_getElem hlt', numL_snoc]
        rfl
      have hn := numL_lt k (s.data.toList.take k) (digs_take HD.out k) (by rw [List.length_take]; omega)
      have hp : 10 ^ k ≤ 10 ^ 16 := Nat.pow_le_pow_right (by decide) (by omega)
      obtain ⟨n, hnn⟩ : ∃ n, numL (s.data.toList.take k) = n := ⟨_, rfl⟩
      rw [hnn] at HS0 hn ⊢
      have hn16 : n ≤ 10000000000000000 := by omega
      clear hnn hn hp
      obtain ⟨b, hbe⟩ : ∃ b, s[k] = b := ⟨_, rfl⟩
      rw [hbe] at hb HS0
      obtain ⟨hb1, hb2⟩ := hb
      have HS := Lib.hid HS0; clear HS0
      have hki : (k : Int) < (s.size : Int) := by omega
      have w1 : IntKind.wrap .u8 ((b.toNat : Int) - 48) = (b.toNat : Int) - 48 := by simp [IntKind.wrap, IntKind.bits, IntKind.signed]; omega
      have w2 : IntKind.i64.wrap ((b.toNat : Int) - 48) = (b.toNat : Int) - 48 := IntWalk.i64_in _ (by omega)
      have w3 : IntKind.i64.wrap (10 * (n : Int)) = 10 * (n : Int) := IntWalk.i64_in _ (by omega)
      have w4 : IntKind.i64.wrap (10 * (n : Int) + ((b.toNat : Int) - 48)) = 10 * (n : Int) + ((b.toNat : Int) - 48) := IntWalk.i64_in _ (by omega)
      have hb1' : (48 : Int) ≤ (b.toNat : Int) := by omega
      have hb2' : (b.toNat : Int) ≤ 57 := by omega
      go_wp2_with fail
      go_round
      case rel => exact ⟨k + 1, by omega, by go_num, by rw [HS.out]; congr 1; omega⟩
      case measure => simp [intOf]; omega
    · have HE : Hid (s.data.toList.take k = s.data.toList) := List.take_of_length_le (by simp; omega)
      go_wp2_with fail
      go_ret
      exact ⟨ret_int (by rw [HE.out]), rfl⟩

end Go.Proofs.YtpinkbodbedajaaGreatDoor

namespace Go.Proofs.YtpinkbodbedajaaGreatDoor
open Go.RowKit

theorem threeF {w : World} {g : Nat} {T : TypeId} {a b d : Value} (h : w.heap[g]? = some (.cells #[a, b, d] T (0, 0))) :
    w.cell? ⟨g, 0, none⟩ = some a ∧ w.cell? ⟨g, 1, none⟩ = some b ∧ w.cell? ⟨g, 2, none⟩ = some d ∧ w.frozen? ⟨g, 0, none⟩ = false ∧ w.frozen? ⟨g, 1, none⟩ = false ∧ w.frozen? ⟨g, 2, none⟩ = false :=
  ⟨by rw [cell_of_row _ _ _ _ _ _ h]; rfl, by rw [cell_of_row _ _ _ _ _ _ h]; rfl, by rw [cell_of_row _ _ _ _ _ _ h]; rfl, by simp [World.frozen?, h], by simp [World.frozen?, h], by simp [World.frozen?, h]⟩

end Go.Proofs.YtpinkbodbedajaaGreatDoor

namespace Go.Proofs.YtpinkbodbedajaaGreatDoor
open Go.RowKit

def barTab : List ByteArray := [⟨#[124, 124, 46, 46, 46]⟩, ⟨#[46, 46, 46, 124, 124]⟩, ⟨#[46, 46, 124, 46, 124]⟩, ⟨#[46, 46, 124, 124, 46]⟩, ⟨#[46, 124, 46, 46, 124]⟩, ⟨#[46, 124, 46, 124, 46]⟩, ⟨#[46, 124, 124, 46, 46]⟩, ⟨#[124, 46, 46, 46, 124]⟩, ⟨#[124, 46, 46, 124, 46]⟩, ⟨#[124, 46, 124, 46, 46]⟩]
def barB (k : Nat) : ByteArray := barTab.getD k ⟨#[]⟩
theorem barB_inj : ∀ j, j < 10 → ∀ k, k < 10 → barB j = barB k → j = k := by decide
/-- The program's table of bars lies where it lay. -/
def BarsW (w : World) : Prop := w.var? Tryz.prog "loop.example/sortingoffice/impl.digitBars" = some (barTab.map fun b => Value.string b).toArray
theorem Tryz.gBars : Tryz.prog.globalNamed "loop.example/sortingoffice/impl.digitBars" = some 0 := by kernel_rfl
theorem BarsW.cell {w : World} (h : BarsW w) (i : Nat) (hi : i < 10) : w.cell? ⟨0, i, none⟩ = some (.string (barB i)) := by
  have h1 := World.var?_cell Tryz.gBars h i
  rw [h1]
  have hl : i < barTab.length := hi
  simp [barB, List.getD, hl]
theorem BarsW.on {w w' : World} (h : BarsW w) (hb : Below w.heap.size w w') : BarsW w' :=
  Go.Joins.var_stays Tryz.gBars h hb (Nat.le_refl _)
theorem BarsW.alloc {w : World} (h : BarsW w) (o : Obj) : BarsW (w.alloc o) := h.on ((Below.refl _ _).alloc (Nat.le_refl _) o)

/-- What BarsDigit answers. -/
def barIs (b : ByteArray) (d : Int) : Prop := (∃ k : Nat, k < 10 ∧ d = k ∧ barB k = b) ∨ (d = -1 ∧ ∀ k, k < 10 → barB k ≠ b)
end Go.Proofs.YtpinkbodbedajaaGreatDoor

namespace Go.Proofs.YtpinkbodbedajaaGreatDoor
open Go.RowKit

end Go.Proofs.YtpinkbodbedajaaGreatDoor

namespace Go.Proofs.YtpinkbodbedajaaGreatDoor
open Go.RowKit

/-- The sum of the first k digits but that at u. -/
def sumD (ds : Nat → Nat) (u : Nat) : Nat → Nat
  | 0 => 0
  | k + 1 => sumD ds u k + if k = u then 0 else ds k
structure Bars (b : ByteArray) (ds : Nat → Nat) (u : Nat) : Prop where
  size : b.size = 42
  ten : ∀ k, k < 8 → ds k < 10
  read : ∀ k, k < 8 → k ≠ u → barB (ds k) = b.extract (1 + 5 * k) (6 + 5 * k)
  not : u < 8 → ∀ j, j < 10 → barB j ≠ b.extract (1 + 5 * u) (6 + 5 * u)
  sum : (sumD ds 8 8) % 10 = 0
theorem sumD_without (ds : Nat → Nat) (u : Nat) : ∀ k, sumD ds 8 k = sumD ds u k + (if u < k ∧ u ≠ 8 then ds u else 0) ∨ 8 < k
  | 0 => Or.inl (by simp [sumD])
  | k + 1 => by
    rcases sumD_without ds u k with h | h
    · by_cases h8 : k = 8
      · exact Or.inr (by omega)
      · left
        unfold sumD
        rw [h, if_neg h8]
        by_cases hk : k = u
        · subst hk
          simp [h8]
        · rw [if_neg hk]
          by_cases h2 : u < k ∧ u ≠ 8
          · rw [if_pos h2, if_pos (by omega)]; omega
          · rw [if_neg h2, if_neg (by omega)]; omega
    · exact Or.inr (by omega)
theorem Bars.last {b : ByteArray} {ds : Nat → Nat} {u : Nat} (h : Bars b ds u) (hu : u < 8) : (10 - sumD ds u 8 % 10) % 10 = ds u := by
  have h1 := h.sum
  have h2 := h.ten u hu
  rcases sumD_without ds u 8 with h3 | h3
  · rw [if_pos (by omega)] at h3; omega
  · omega
theorem Bars.all {b : ByteArray} {ds : Nat → Nat} {u : Nat} (h : Bars b ds u) (hu : u = 8) : sumD ds u 8 % 10 = 0 := by
  subst hu; exact h.sum
theorem Bars.is {b : ByteArray} {ds : Nat → Nat} {u k : Nat} {d : Int} (h : Bars b ds u) (hk : k < 8) (hd : barIs (b.extract (1 + 5 * k) (6 + 5 * k)) d) : d = if k = u then -1 else (ds k : Int) := by
  by_cases hu : k = u
  · subst hu
    rw [if_pos rfl]
    rcases hd with ⟨j, hj, _, h2⟩ | ⟨h1, _⟩
    · exact absurd h2 (h.not hk j hj)
    · exact h1
  · rw [if_neg hu]
    rcases hd with ⟨j, hj, h1, h2⟩ | ⟨_, h2⟩
    · have := barB_inj _ hj _ (h.ten k hk) (h2.trans (h.read k hk hu).symm)
      rw [h1, this]
    · exact absurd (h.read k hk hu) (h2 _ (h.ten k hk))
end Go.Proofs.YtpinkbodbedajaaGreatDoor

namespace Go.Proofs.YtpinkbodbedajaaGreatDoor
open Go.RowKit

/-! ### Bars of a code -/
/-! ### A byte put -/
end Go.Proofs.YtpinkbodbedajaaGreatDoor

namespace Go.Proofs.YtpinkbodbedajaaGreatDoor
open Go.RowKit Go.Shelf

set_option maxHeartbeats 1000000 in
theorem split_any {P : Program} {ρ : Ren} (L : Go.Proofs.Lays.n146 P ρ) (hi9 : (P.info? (ρ.t 9)).map (fun i => (i.zero, i.size, i.bytes)) = some (some (.string ByteArray.empty), 1, 16)) (s : ByteArray) (c : UInt8) (w : World) (hs : s.size < 4294967281) :
    Calls P (ρ.f 146) #[.string s, .string ⟨#[c]⟩] w fun e w' =>
      e = .returned (.slice (some ⟨w.heap.size, 0, none⟩) (partsB c s).length (partsB c s).length) ∧ w' = w.alloc (.cells ((partsB c s).map Value.string).toArray (ρ.t 9)) := by
  have h1 : 1 ≤ (⟨#[c]⟩ : ByteArray).size := Nat.le_refl 1
  have hle := Lib.countB_le ⟨#[c]⟩ h1 s.size s (Nat.le_refl _)
  have hlen := Lib.splitB_all ⟨#[c]⟩ h1 0 _ s rfl
  have c0 := Any.strings_genSplit_core (P := P) (ρ := ρ) { L with } hi9 s ⟨#[c]⟩ 0 (-1) (Lib.countB s ⟨#[c]⟩ + 1) w hs h1 (Nat.zero_le _)
    (fun x cc _ => (Any.strings_Index_one { L with } x c _).mono fun e w' h => ⟨by rw [h.1, indexB_one], h.2⟩)
    ((Any.strings_Count_one { L with } s c w).mono fun e w' h => ⟨by
      rw [h.1]
      show _ = Ending.returned (Value.int .i64 ((Lib.count s.data.toList [c] : Nat) : Int))
      rw [Lib.count_one]
      rfl, h.2⟩) (by decide) (by decide) (by rw [if_pos (by decide)]; omega)
  rw [Nat.add_sub_cancel, hlen] at c0
  have e2 : Lib.cellsOf (Lib.splitB ⟨#[c]⟩ 0 (Lib.countB s ⟨#[c]⟩) s) (Lib.countB s ⟨#[c]⟩ + 1) = ((Lib.splitB ⟨#[c]⟩ 0 (Lib.countB s ⟨#[c]⟩) s).map Value.string).toArray := by rw [← hlen]; exact Lib.cellsOf_full _
  rw [e2, splitB_parts c _ s rfl, ← parts_count c s] at c0
  have t3 := L.t3; have t9 := L.t9; have t31 := L.t31
  have a3 := L.a3; have a9 := L.a9; have a31 := L.a31
  have z3 := L.z3; have v3 := L.v3; have z9 := L.z9; have v9 := L.v9; have z31 := L.z31; have v31 := L.v31
  have e221 : ∀ args w, (callFunc (ρ.f 221) args).run P w = .ok (.enter (ρ.f 221) args) w := enters_of L.f221 (by kernel_rfl) rfl
  clear hle hlen e2
  go_enter L.f146, Body.n146_ntmps ρ
  go_wp2_with (go_at_fn (ρ.f 221); refine c0.mono ?_; rintro e w' ⟨rfl, hw⟩; rw [hw])
  go_ret
  exact ⟨rfl, rfl⟩

theorem strings_Split1 (s : ByteArray) (c : UInt8) (w : World) (hs : s.size ≤ 1000000000) :
    Calls Tryz.prog 65 #[.string s, .string ⟨#[c]⟩] w fun e w' => e = .returned (.slice (some ⟨w.heap.size, 0, none⟩) (partsB c s).length (partsB c s).length) ∧ own 9 w.heap.size w' (.slice (some ⟨w.heap.size, 0, none⟩) (partsB c s).length (partsB c s).length) (partsB c s) ∧ Below w.heap.size w w' ∧ w'.heap.size = w.heap.size + 1 :=
  (split_any Tryz.lays146 (by kernel_rfl) s c w (by omega)).mono fun e w' h => by
    obtain ⟨h1, h2⟩ := h
    subst h2
    exact ⟨h1, list_str 9 w.heap.size w (partsB c s) (fun x hx => by have := parts_sizeZ hx; unfold maxLen; omega) (by have := parts_lenZ c s; unfold maxLen; omega) (Nat.le_refl _), (Below.refl _ _).alloc (Nat.le_refl _) _, by simp⟩

end Go.Proofs.YtpinkbodbedajaaGreatDoor

namespace Go.Proofs.YtpinkbodbedajaaGreatDoor
open Go.RowKit

theorem join_rd {A : Option Addr} {c : Nat} {w : World} {ps : List ByteArray} {sep : ByteArray} (h : rd w w.heap.size (.slice A ps.length c) ps) (h0 : ps.length ≠ 0) (hN : ps.length ≤ 1000000000) (hs : (joinT ps sep).size ≤ 140737488355328) :
    Calls Tryz.prog 57 #[.slice A ps.length c, .string sep] w fun e w' => e = .returned (.string (joinT ps sep)) ∧ Below w.heap.size w w' := by
  obtain ⟨A', n', c', hv, hn', hc, hm, hr⟩ := h
  injection hv with e1 e2 e3
  subst e1 e2 e3
  obtain ⟨b, o, rfl, hb, _, _⟩ := hr.str 0 (by omega)
  refine Tryz.strings_Join b o c ps sep w (fun j x hx => ?_) hb (by omega) hc (by rw [joinT_len]; exact hs)
  obtain ⟨hj, rfl⟩ := List.getElem?_eq_some_iff.1 hx
  obtain ⟨b', o', e, _, _, h1⟩ := hr.str j hj
  injection e with e
  injection e with e1 e2
  subst e1 e2
  exact h1

set_option maxHeartbeats 400000 in
theorem impl_listText (v : Value) (ps : List ByteArray) (w : World) (hv : rd w w.heap.size v ps) (hN : ps.length ≤ 1000000000) (hz : ∀ p ∈ ps, p.size ≤ 1000) :
    Calls Tryz.prog 195 #[v] w fun e w' => e = .returned (.string (listT ps)) ∧ Below w.heap.size w w' := by
  have HV := Lib.hid hv
  obtain ⟨A, n, c, rfl, hn, hc, hm, _⟩ := hv
  subst hn
  unfold maxLen at hm
  by_cases h0 : ps.length = 0
  · have HL : Hid (listT ps = ⟨#[45]⟩) := by show _ = _; unfold listT; rw [if_pos h0]
    have hl0 : ((ps.length : Int) == 0) = true := by rw [h0]; rfl
    clear h0
    go_enter Tryz.func195, Tryz.ntmps195
    go_wp2_with fail
    go_ret
    exact ⟨ret_str HL.out.symm, Below.refl _ _⟩
  · have HL : Hid (listT ps = joinT ps spT) := by show _ = _; unfold listT; rw [if_neg h0]
    have hl0 : ((ps.length : Int) == 0) = false := beq_eq_false_iff_ne.2 (by omega)
    have hj := joinT_size ps spT 1000 hz
    have hj2 : ps.length * (1000 + spT.size) ≤ 1000000000 * 1001 := Nat.mul_le_mul hN (Nat.le_refl _)
    have HJ := Lib.hid (join_rd (sep := spT) HV.out h0 hN (by omega))
    clear h0 hj hj2
    go_enter Tryz.func195, Tryz.ntmps195
    go_wp2_with fail
    refine HJ.out.mono ?_
    rintro e w1 ⟨rfl, b1⟩
    go_wp2_with fail
    go_ret
    exact ⟨ret_str HL.out.symm, b1⟩

/-- The desk's eight cells. -/
theorem dsk_cells {B d : Nat} {w : World} {s : Dsk} {vH : Value} (h : dskAt B w d s vH) : ∃ (vL vO vF vN : Value) (os : List OfV),
    (w.cell? ⟨d, 0, none⟩ = some vL ∧ w.cell? ⟨d, 1, none⟩ = some (.int .i64 s.day.plan.bins) ∧ w.cell? ⟨d, 2, none⟩ = some (.int .i64 s.day.plan.passes) ∧ w.cell? ⟨d, 3, none⟩ = some vO ∧ w.cell? ⟨d, 4, none⟩ = some vF ∧ w.cell? ⟨d, 5, none⟩ = some vH ∧ w.cell? ⟨d, 6, none⟩ = some (.int .i64 s.day.size) ∧ w.cell? ⟨d, 7, none⟩ = some vN) ∧
    (∀ i, w.frozen? ⟨d, i, none⟩ = false) ∧
    own 89 B w vL s.letters ∧ own 9 B w vO s.day.plan.order ∧ own 94 B w vF s.day.fwds ∧ own 9 B w vH s.day.held ∧ isN 102 174 B w vN s.net os ∧ apart vO vH := by
  obtain ⟨vL, vO, vF, vN, os, h0, h1⟩ := h
  refine ⟨vL, vO, vF, vN, os, ?_, fun i => frozen_of_row _ _ _ _ _ h0, h1⟩
  refine ⟨?_, ?_, ?_, ?_, ?_, ?_, ?_, ?_⟩ <;> (rw [cell_of_row _ _ _ _ _ _ h0]; rfl)
theorem own_d {α : Type} [Flat α] {T base d : Nat} {w : World} {v u : Value} {xs : List α} (h : own T base w v xs) (hd : ∃ cur : Array Value, w.heap[d]? = some (.cells cur 104 (0, 0))) (hT : T ≠ 104) (i : Nat) : own T base (w.setCell ⟨d, i, none⟩ u) v xs :=
  h.keepT fun k cur hc => Below.heap_setCell _ _ _ _ fun e => by
    obtain ⟨c2, h2⟩ := hd
    have e : k = d := e
    subst e
    rw [h2] at hc
    injection hc with hc
    injection hc with _ hc _
    exact hT hc.symm
theorem isN_d {T1 T2 base d : Nat} {w : World} {v u : Value} {net : List Ofc} {os : List OfV} (h : isN T1 T2 base w v net os) (hd : ∃ cur : Array Value, w.heap[d]? = some (.cells cur 104 (0, 0))) (h1 : T1 ≠ 104) (h2 : T2 ≠ 104) (i : Nat) : isN T1 T2 base (w.setCell ⟨d, i, none⟩ u) v net os :=
  ⟨own_d h.1 hd h1 i, h.2.1, fun k a b => ⟨(h.2.2.1 k a b).1, own_d (h.2.2.1 k a b).2 hd h2 i⟩, h.2.2.2.1, h.2.2.2.2⟩
theorem dskAt.setNet {B d : Nat} {w : World} {s : Dsk} {vH vN' : Value} {net' : List Ofc} {os' : List OfV} (h : dskAt B w d s vH) (hn : isN 102 174 B w vN' net' os') : dskAt B (w.setCell ⟨d, 7, none⟩ vN') d { s with net := net' } vH := by
  have ho := h.obj
  obtain ⟨vL, vO, vF, vN, os, h0, h1, h2, h3, h4, h5, h6⟩ := h
  refine ⟨vL, vO, vF, vN', os', ?_, own_d h1 ho (by decide) 7, own_d h2 ho (by decide) 7, own_d h3 ho (by decide) 7, own_d h4 ho (by decide) 7, isN_d hn ho (by decide) (by decide) 7, h6⟩
  have := heap_setCell_same w d 7 _ _ vN' h0
  rw [this]
  rfl


end Go.Proofs.YtpinkbodbedajaaGreatDoor

namespace Go.Proofs.YtpinkbodbedajaaGreatDoor
open Go.RowKit

theorem own_kd {α : Type} [Flat α] {T base B d : Nat} {w w' : World} {v vH : Value} {xs : List α} {s : Dsk} (h : own T base w v xs) (hD : dskAt B w d s vH) (hT : T ≠ 104) (hA : apart vH v) (hK : Kd d vH w w') : own T base w' v xs :=
  h.keepBlk fun k e => by
    refine hK.block k (h.blk k e).2 (fun e2 => ?_) fun e2 => ?_
    · subst e2
      obtain ⟨c1, h1⟩ := own_obj h e
      obtain ⟨c2, h2⟩ := hD.obj
      rw [h2] at h1
      injection h1 with h1
      injection h1 with _ h1 _
      exact hT h1.symm
    · unfold apart at hA
      rcases hA with hA | hA
      · rw [← e2] at hA; cases hA
      · exact hA (by rw [← e2, e])
theorem builder_obj {T e B b : Nat} {bs : List Value} {w : World} (h : Lib.IsBuilderF T e B b bs w) : ∃ (cur : Array Value) (fz : Nat × Nat), w.heap[b]? = some (.cells cur T fz) := by
  rcases h with ⟨_, _, h, _⟩ | ⟨_, _, h, _⟩ <;> exact ⟨_, _, h⟩
theorem own_others {α : Type} [Flat α] {T base b : Nat} {w w' : World} {v : Value} {xs : List α} (h : own T base w v xs) (hO : Lib.OthersKept 5 (some b) w w') (hb : ∃ (cur : Array Value) (fz : Nat × Nat), w.heap[b]? = some (.cells cur 107 fz)) (h1 : T ≠ 5) (h2 : T ≠ 107) : own T base w' v xs :=
  h.keepT fun k cur hc => by
    obtain ⟨cb, fb, hb⟩ := hb
    rw [hO k _ hc (fun e' => by
      injection e' with e'
      subst e'
      rw [hb] at hc
      injection hc with hc
      injection hc with _ hc _
      exact h2 hc.symm) fun c fz e' => by
        injection e' with _ e' _
        exact h1 e', hc]
theorem apart_heldN {α : Type} [El α] {T base : Nat} {w : World} {v vH vH' : Value} {xs : List α} (hA : apart vH v) (hN : heldN w vH vH') (ho : own T base w v xs) : apart vH' v := by
  unfold apart at *
  rcases hN with h | h
  · rw [h]; exact hA
  · cases hv : vH'.ownBlock with
    | none => exact .inl rfl
    | some k =>
      refine .inr fun e => ?_
      have h1 := h k hv
      have h2 := (ho.blk k e.symm).2
      omega
theorem strCells_app (a b : ByteArray) : Lib.strCells (a ++ b) = Lib.strCells a ++ Lib.strCells b := by
  rw [Lib.strCells_eq, Lib.strCells_eq, Lib.strCells_eq, ba_append, Lib.byteCells_append]
def bld (B b : Nat) (o : ByteArray) (w : World) : Prop := Lib.IsBuilderF 107 5 B b (Lib.strCells o) w

theorem bld_write (B b : Nat) (o p : ByteArray) (w : World) (h : bld B b o w) (hlen : o.size + p.size ≤ 140737488355328) (hBw : B ≤ w.heap.size) :
    Calls Tryz.prog 67 #[.pointer (some ⟨b, 0, none⟩), .string p] w fun e w' => e = .returned (.tuple #[.int .i64 p.size, .nilIface]) ∧ bld B b (o ++ p) w' ∧ Below B w w' ∧ Lib.OthersKept 5 (some b) w w' :=
  (Any.Builder_WriteString_k (ρ := Tryz.lays156_ren) { Tryz.lays156 with } Tryz.Builder_Extra_156 B b (Lib.strCells o) p w h (by rw [Lib.strCells_length]; exact hlen) hBw).mono fun e w' h => ⟨h.1, .inr (by rw [strCells_app]; exact h.2.1), h.2.2.1, h.2.2.2⟩
theorem bld_len (B b : Nat) (o : ByteArray) (w : World) (h : bld B b o w) :
    Calls Tryz.prog 66 #[.pointer (some ⟨b, 0, none⟩)] w fun e w' => e = .returned (.int .i64 o.size) ∧ w = w' :=
  (Tryz.Builder_Len_f B b (Lib.strCells o) w h).mono fun e w' h => ⟨by rw [h.1, Lib.strCells_length], h.2.symm⟩
theorem bld_string (B b : Nat) (o : ByteArray) (w : World) (h : bld B b o w) (hBw : B ≤ w.heap.size) :
    Calls Tryz.prog 69 #[.pointer (some ⟨b, 0, none⟩)] w fun e w' => e = .returned (.string o) ∧ Below B w w' :=
  (Tryz.Builder_String_any_k B b o.data.toList w h hBw).mono fun e w' h => ⟨by rw [h.1], h.2.2.1⟩

def firstD : Dsk := ⟨[], ⟨⟨4, 2, [⟨#[48, 48, 48, 48, 48, 48, 48]⟩]⟩, [], [], 10⟩, [⟨⟨#[97]⟩, []⟩]⟩

theorem own_str1 {T B g n c : Nat} {w : World} {ps : List ByteArray} (h : own T B w (.slice (some ⟨g, 0, none⟩) n c) ps) (k : Nat) (hk : k < ps.length) : w.cell? ⟨g, k, none⟩ = some (.string ps[k]) := by
  obtain ⟨A, n', c', hv, _, _, _, hr⟩ := h.rd
  injection hv with e1 _ _
  subst e1
  obtain ⟨b, o, e, _, _, h1⟩ := hr.str k hk
  injection e with e
  injection e with e1 e2
  subst e1 e2
  simpa using h1
theorem block_of_cell {w : World} {p : Addr} {u : Value} (h : w.cell? p = some u) : p.block < w.heap.size := World.block_lt_of_cell? _ _ h
theorem empty_tests {x : ByteArray} (h : x.size = 0) : x.toList.isEmpty = true ∧ (x.toList == []) = true := by
  have he : x.toList.isEmpty = true := by rw [ByteArray.toList_eq, List.isEmpty_iff_length_eq_zero]; simpa using h
  exact ⟨he, by rw [List.isEmpty_iff.1 he]; rfl⟩
theorem nonempty_tests {x : ByteArray} (h : x.size ≠ 0) : x.toList.isEmpty = false ∧ (x.toList == []) = false := by
  have he : x.toList.isEmpty = false := by rw [ByteArray.toList_eq, Bool.eq_false_iff, Ne, List.isEmpty_iff_length_eq_zero]; simpa using h
  refine ⟨he, ?_⟩
  cases hq : (x.toList == [])
  · rfl
  · rw [beq_iff_eq] at hq; rw [hq] at he; cases he
theorem orNo_empty {a : ByteArray} (h : a.size = 0) : orNo a = ⟨#[110, 111]⟩ := by unfold orNo; rw [sEq_empty.2 h, if_pos rfl]
theorem orNo_size (a : ByteArray) : (orNo a).size ≤ a.size + 2 := by
  unfold orNo
  split
  · show 2 ≤ _; omega
  · omega

theorem first_worlds (w : World) : Below w.heap.size w ((((w.alloc (Obj.cells #[.string ⟨#[48, 48, 48, 48, 48, 48, 48]⟩] 9)).alloc (Obj.cells #[.string ⟨#[97]⟩, .slice none 0 0] 102)).alloc (Obj.cells #[.slice none 0 0, .int .i64 4, .int .i64 2, .slice (some ⟨w.heap.size, 0, none⟩) 1 1, .slice none 0 0, .slice none 0 0, .int .i64 10, .slice (some ⟨w.heap.size + 1, 0, none⟩) 1 1] 104)).alloc (Obj.cells #[.pointer none, .slice none 0 0] 107)) ∧ dskAt w.heap.size ((((w.alloc (Obj.cells #[.string ⟨#[48, 48, 48, 48, 48, 48, 48]⟩] 9)).alloc (Obj.cells #[.string ⟨#[97]⟩, .slice none 0 0] 102)).alloc (Obj.cells #[.slice none 0 0, .int .i64 4, .int .i64 2, .slice (some ⟨w.heap.size, 0, none⟩) 1 1, .slice none 0 0, .slice none 0 0, .int .i64 10, .slice (some ⟨w.heap.size + 1, 0, none⟩) 1 1] 104)).alloc (Obj.cells #[.pointer none, .slice none 0 0] 107)) (w.heap.size + 1 + 1) firstD (.slice none 0 0) ∧ bld w.heap.size (w.heap.size + 1 + 1 + 1) ⟨#[]⟩ ((((w.alloc (Obj.cells #[.string ⟨#[48, 48, 48, 48, 48, 48, 48]⟩] 9)).alloc (Obj.cells #[.string ⟨#[97]⟩, .slice none 0 0] 102)).alloc (Obj.cells #[.slice none 0 0, .int .i64 4, .int .i64 2, .slice (some ⟨w.heap.size, 0, none⟩) 1 1, .slice none 0 0, .slice none 0 0, .int .i64 10, .slice (some ⟨w.heap.size + 1, 0, none⟩) 1 1] 104)).alloc (Obj.cells #[.pointer none, .slice none 0 0] 107)) ∧ ((((w.alloc (Obj.cells #[.string ⟨#[48, 48, 48, 48, 48, 48, 48]⟩] 9)).alloc (Obj.cells #[.string ⟨#[97]⟩, .slice none 0 0] 102)).alloc (Obj.cells #[.slice none 0 0, .int .i64 4, .int .i64 2, .slice (some ⟨w.heap.size, 0, none⟩) 1 1, .slice none 0 0, .slice none 0 0, .int .i64 10, .slice (some ⟨w.heap.size + 1, 0, none⟩) 1 1] 104)).alloc (Obj.cells #[.pointer none, .slice none 0 0] 107)).heap.size = w.heap.size + 1 + 1 + 1 + 1 := by
  have z1 : (w.alloc (Obj.cells #[.string ⟨#[48, 48, 48, 48, 48, 48, 48]⟩] 9)).heap.size = w.heap.size + 1 := by simp
  have z2 : ((w.alloc (Obj.cells #[.string ⟨#[48, 48, 48, 48, 48, 48, 48]⟩] 9)).alloc (Obj.cells #[.string ⟨#[97]⟩, .slice none 0 0] 102)).heap.size = w.heap.size + 1 + 1 := by simp
  have z3 : (((w.alloc (Obj.cells #[.string ⟨#[48, 48, 48, 48, 48, 48, 48]⟩] 9)).alloc (Obj.cells #[.string ⟨#[97]⟩, .slice none 0 0] 102)).alloc (Obj.cells #[.slice none 0 0, .int .i64 4, .int .i64 2, .slice (some ⟨w.heap.size, 0, none⟩) 1 1, .slice none 0 0, .slice none 0 0, .int .i64 10, .slice (some ⟨w.heap.size + 1, 0, none⟩) 1 1] 104)).heap.size = w.heap.size + 1 + 1 + 1 := by simp
  have z4 : ((((w.alloc (Obj.cells #[.string ⟨#[48, 48, 48, 48, 48, 48, 48]⟩] 9)).alloc (Obj.cells #[.string ⟨#[97]⟩, .slice none 0 0] 102)).alloc (Obj.cells #[.slice none 0 0, .int .i64 4, .int .i64 2, .slice (some ⟨w.heap.size, 0, none⟩) 1 1, .slice none 0 0, .slice none 0 0, .int .i64 10, .slice (some ⟨w.heap.size + 1, 0, none⟩) 1 1] 104)).alloc (Obj.cells #[.pointer none, .slice none 0 0] 107)).heap.size = w.heap.size + 1 + 1 + 1 + 1 := by simp
  have o1 : own (α := ByteArray) 9 w.heap.size (w.alloc (Obj.cells #[.string ⟨#[48, 48, 48, 48, 48, 48, 48]⟩] 9)) (.slice (some ⟨w.heap.size, 0, none⟩) 1 1) [⟨#[48, 48, 48, 48, 48, 48, 48]⟩] := own.made1 w 9 [.string ⟨#[48, 48, 48, 48, 48, 48, 48]⟩] _ ⟨by unfold maxLen; decide, rfl⟩ (Nat.le_refl _)
  have o2 : own (α := OfV) 102 w.heap.size ((w.alloc (Obj.cells #[.string ⟨#[48, 48, 48, 48, 48, 48, 48]⟩] 9)).alloc (Obj.cells #[.string ⟨#[97]⟩, .slice none 0 0] 102)) (.slice (some ⟨w.heap.size + 1, 0, none⟩) 1 1) [⟨⟨#[97]⟩, .slice none 0 0⟩] := by
    have h := own.made1 (α := OfV) (base := w.heap.size) (w.alloc (Obj.cells #[.string ⟨#[48, 48, 48, 48, 48, 48, 48]⟩] 9)) 102 [.string ⟨#[97]⟩, .slice none 0 0] ⟨⟨#[97]⟩, .slice none 0 0⟩ ⟨rfl, by unfold maxLen; decide, rfl⟩ (by rw [z1]; omega)
    rw [z1] at h
    exact h
  have h3 : (((w.alloc (Obj.cells #[.string ⟨#[48, 48, 48, 48, 48, 48, 48]⟩] 9)).alloc (Obj.cells #[.string ⟨#[97]⟩, .slice none 0 0] 102)).alloc (Obj.cells #[.slice none 0 0, .int .i64 4, .int .i64 2, .slice (some ⟨w.heap.size, 0, none⟩) 1 1, .slice none 0 0, .slice none 0 0, .int .i64 10, .slice (some ⟨w.heap.size + 1, 0, none⟩) 1 1] 104)).heap[w.heap.size + 1 + 1]? = some (Obj.cells #[.slice none 0 0, .int .i64 4, .int .i64 2, .slice (some ⟨w.heap.size, 0, none⟩) 1 1, .slice none 0 0, .slice none 0 0, .int .i64 10, .slice (some ⟨w.heap.size + 1, 0, none⟩) 1 1] 104 (0, 0)) := by
    have := World.alloc_heap_new ((w.alloc (Obj.cells #[.string ⟨#[48, 48, 48, 48, 48, 48, 48]⟩] 9)).alloc (Obj.cells #[.string ⟨#[97]⟩, .slice none 0 0] 102)) (Obj.cells #[.slice none 0 0, .int .i64 4, .int .i64 2, .slice (some ⟨w.heap.size, 0, none⟩) 1 1, .slice none 0 0, .slice none 0 0, .int .i64 10, .slice (some ⟨w.heap.size + 1, 0, none⟩) 1 1] 104)
    rwa [z2] at this
  have h4 : ((((w.alloc (Obj.cells #[.string ⟨#[48, 48, 48, 48, 48, 48, 48]⟩] 9)).alloc (Obj.cells #[.string ⟨#[97]⟩, .slice none 0 0] 102)).alloc (Obj.cells #[.slice none 0 0, .int .i64 4, .int .i64 2, .slice (some ⟨w.heap.size, 0, none⟩) 1 1, .slice none 0 0, .slice none 0 0, .int .i64 10, .slice (some ⟨w.heap.size + 1, 0, none⟩) 1 1] 104)).alloc (Obj.cells #[.pointer none, .slice none 0 0] 107)).heap[w.heap.size + 1 + 1]? = some (Obj.cells #[.slice none 0 0, .int .i64 4, .int .i64 2, .slice (some ⟨w.heap.size, 0, none⟩) 1 1, .slice none 0 0, .slice none 0 0, .int .i64 10, .slice (some ⟨w.heap.size + 1, 0, none⟩) 1 1] 104 (0, 0)) := (Below.heap_alloc _ _ _ (by rw [z3]; omega)).trans h3
  have h5 : ((((w.alloc (Obj.cells #[.string ⟨#[48, 48, 48, 48, 48, 48, 48]⟩] 9)).alloc (Obj.cells #[.string ⟨#[97]⟩, .slice none 0 0] 102)).alloc (Obj.cells #[.slice none 0 0, .int .i64 4, .int .i64 2, .slice (some ⟨w.heap.size, 0, none⟩) 1 1, .slice none 0 0, .slice none 0 0, .int .i64 10, .slice (some ⟨w.heap.size + 1, 0, none⟩) 1 1] 104)).alloc (Obj.cells #[.pointer none, .slice none 0 0] 107)).heap[w.heap.size + 1 + 1 + 1]? = some (Obj.cells #[.pointer none, .slice none 0 0] 107 (0, 0)) := by
    have := World.alloc_heap_new (((w.alloc (Obj.cells #[.string ⟨#[48, 48, 48, 48, 48, 48, 48]⟩] 9)).alloc (Obj.cells #[.string ⟨#[97]⟩, .slice none 0 0] 102)).alloc (Obj.cells #[.slice none 0 0, .int .i64 4, .int .i64 2, .slice (some ⟨w.heap.size, 0, none⟩) 1 1, .slice none 0 0, .slice none 0 0, .int .i64 10, .slice (some ⟨w.heap.size + 1, 0, none⟩) 1 1] 104)) (Obj.cells #[.pointer none, .slice none 0 0] 107)
    rwa [z3] at this
  refine ⟨((((Below.refl _ w).alloc (Nat.le_refl _) _).alloc (by rw [z1]; omega) _).alloc (by rw [z2]; omega) _).alloc (by rw [z3]; omega) _, ?_, ?_, z4⟩
  · refine ⟨.slice none 0 0, .slice (some ⟨w.heap.size, 0, none⟩) 1 1, .slice none 0 0, .slice (some ⟨w.heap.size + 1, 0, none⟩) 1 1, [⟨⟨#[97]⟩, .slice none 0 0⟩], h4, own.nil_ _ _ _, ((o1.alloc _).alloc _).alloc _, own.nil_ _ _ _, own.nil_ _ _ _, ⟨(o2.alloc _).alloc _, rfl, fun k h h' => ?_, fun j k hj hk hne => ?_, fun k h => ?_⟩, .inr (by simp [Value.ownBlock])⟩
    · have hk : k = 0 := by simp at h; omega
      subst hk
      exact ⟨rfl, own.nil_ _ _ _⟩
    · simp at hj hk; omega
    · have hk : k = 0 := by simp at h; omega
      subst hk
      exact .inl rfl
  · exact .inl ⟨by omega, .slice none 0 0, h5, World.ownsRowF_nil _ _ _ _, by simp [Value.ownBlock]⟩

set_option maxRecDepth 100000 in
set_option maxHeartbeats 3200000 in
theorem impl_RunScript (X : World → Prop) (t : ByteArray) (w : World) (ls : List ByteArray) (ds : Nat → Dsk) (ans : Nat → ByteArray) (ht : t.size ≤ 20000) (hls : partsB 10 t = ls) (hX : ∀ W, Below w.heap.size w W → X W) (h0 : ds 0 = firstD)
    (hstep : ∀ k (h : k < ls.length), ls[k].size ≠ 0 → k < 100 → (outK ans ls k).size ≤ 40000 → StepOk X ls[k] (ds k) (ds (k + 1)) (ans k) ∧ (ans k).size ≤ 2000000000)
    (hskip : ∀ k (h : k < ls.length), ls[k].size = 0 → ds (k + 1) = ds k) :
    Calls Tryz.prog 20 #[.string t] w fun e w' => e = .returned (.string (outA ans 0 ⟨#[]⟩ ls)) ∧ Below w.heap.size w w' := by
  have HX := Lib.hid hX; have H0 := Lib.hid h0; have HST := Lib.hid hstep; have HSK := Lib.hid hskip
  clear hX h0 hstep hskip
  obtain ⟨OUT, hO⟩ : ∃ O, outA ans 0 ⟨#[]⟩ ls = O := ⟨_, rfl⟩
  have HOUT : Hid (outA ans 0 (outK ans ls 0) (ls.drop 0) = OUT) := hO
  rw [hO]
  clear hO
  have HSP : Hid (∀ W : World, Calls Tryz.prog 65 #[.string t, .string ⟨#[10]⟩] W fun e w' => e = .returned (.slice (some ⟨W.heap.size, 0, none⟩) ls.length ls.length) ∧ own 9 W.heap.size w' (.slice (some ⟨W.heap.size, 0, none⟩) ls.length ls.length) ls ∧ Below W.heap.size W w' ∧ w'.heap.size = W.heap.size + 1) := fun W => by
    rw [← hls]; exact strings_Split1 t 10 W (by omega)
  have HFW := Lib.hid (first_worlds w)
  have ht1 : ¬ (20000 : Int) < (t.size : Int) := by omega
  go_enter Tryz.func20, Tryz.ntmps20
  go_wp2_with fail
  obtain ⟨W4, hW4⟩ : ∃ W, W = ((((w.alloc (Obj.cells #[.string ⟨#[48, 48, 48, 48, 48, 48, 48]⟩] 9)).alloc (Obj.cells #[.string ⟨#[97]⟩, .slice none 0 0] 102)).alloc (Obj.cells #[.slice none 0 0, .int .i64 4, .int .i64 2, .slice (some ⟨w.heap.size, 0, none⟩) 1 1, .slice none 0 0, .slice none 0 0, .int .i64 10, .slice (some ⟨w.heap.size + 1, 0, none⟩) 1 1] 104)).alloc (Obj.cells #[.pointer none, .slice none 0 0] 107)) := ⟨_, rfl⟩
  rw [← hW4] at HFW ⊢
  clear hW4
  obtain ⟨l4, d4, u4, z4⟩ := HFW.out
  have HSPW := HSP.out W4
  rw [z4] at HSPW
  refine HSPW.mono ?_
  rintro e w5 ⟨rfl, o5, b5, _⟩
  have D5 := d4.below (by rw [z4]; exact b5)
  have U5 : bld w.heap.size (w.heap.size + 1 + 1 + 1) ⟨#[]⟩ w5 := builder_keep u4 fun k cur e' fz hc _ => b5.block k (by have := (Array.getElem?_eq_some_iff.1 hc).1; omega)
  have l5 : Below w.heap.size w w5 := l4.trans (b5.mono (by omega))
  rw [← H0.out] at D5
  have HD5 := Lib.hid D5; have HU5 := Lib.hid U5; have HO5 := Lib.hid (o5.base_ (show w.heap.size ≤ w.heap.size + 1 + 1 + 1 + 1 by omega)); have HL5 := Lib.hid l5
  have HAP5 : Hid (apart (.slice none 0 0) (.slice (some ⟨w.heap.size + 1 + 1 + 1 + 1, 0, none⟩) ls.length ls.length)) := .inl rfl
  have hlen : ls.length ≤ 20001 := by rw [← hls]; have := parts_lenZ 10 t; omega
  clear D5 U5 o5 b5 l5 l4 d4 u4 z4 HSPW HSP HFW hls
  go_wp2_with fail
  go_loopw [20] (fun i wr => ∃ (k : Nat) (vH : Value), k ≤ ls.length ∧ i = .int .i64 k ∧ Hid (Below w.heap.size w wr) ∧ Hid (dskAt w.heap.size wr (w.heap.size + 1 + 1) (ds k) vH) ∧ Hid (bld w.heap.size (w.heap.size + 1 + 1 + 1) (outK ans ls k) wr) ∧ Hid (own 9 w.heap.size wr (.slice (some ⟨w.heap.size + 1 + 1 + 1 + 1, 0, none⟩) ls.length ls.length) ls) ∧ Hid (apart vH (.slice (some ⟨w.heap.size + 1 + 1 + 1 + 1, 0, none⟩) ls.length ls.length)) ∧ Hid (outA ans k (outK ans ls k) (ls.drop k) = OUT) ∧ (outK ans ls k).size ≤ 40000 + 2000000003) (fun i _ => ls.length - (intOf i).toNat)
  case atStart => exact ⟨0, .slice none 0 0, Nat.zero_le _, rfl, HL5.out, HD5.out, HU5.out, HO5.out, HAP5.out, HOUT.out, by show 0 ≤ _; omega⟩
  case round =>
    obtain ⟨k, vH, hk, rfl, HL, HD, HU, HO, HAP, HQ, hoz⟩ := hrel
    obtain ⟨W, rfl⟩ : ∃ W : World, W = wr := ⟨_, rfl⟩
    have hWs := HL.out.size
    clear HL5 HD5 HU5 HO5 HAP5
    by_cases hlt : k < ls.length
    · have hki : (k : Int) < (ls.length : Int) := by omega
      have hki0 : (0 : Int) ≤ (k : Int) := by omega
      have y1 := own_str1 HO.out k hlt
      have HDR : Hid (ls.drop k = ls[k] :: ls.drop (k + 1)) := List.drop_eq_getElem_cons hlt
      have HSTK := Lib.hid (HST.out k hlt)
      have HSKK := Lib.hid (HSK.out k hlt)
      have HKS := Lib.hid (outK_skip (ans := ans) hlt)
      have HKT := Lib.hid (outK_step (ans := ans) hlt)
      obtain ⟨o, ho⟩ : ∃ o, outK ans ls k = o := ⟨_, rfl⟩
      rw [ho] at HU HQ hoz HSTK HKS HKT
      have HOK := Lib.hid ho
      clear ho
      generalize ls[k] = x at *
      by_cases he : x.size = 0
      · obtain ⟨e1, e2⟩ := empty_tests he
        have HE := Lib.hid he
        clear he
        go_wp2_with fail
        go_roundw
        case rel => exact ⟨k + 1, vH, by omega, by go_num, HL.out, by rw [HSKK.out HE.out]; exact HD.out, by show bld _ _ _ _; rw [HKS.out HE.out]; exact HU.out, HO.out, HAP.out, by show _ = _; rw [HKS.out HE.out, ← HQ.out, HDR.out, outA_skip HE.out], by rw [HKS.out HE.out]; exact hoz⟩
        case measure => simp [intOf]; omega
      obtain ⟨e1, e2⟩ := nonempty_tests he
      by_cases h100 : 100 ≤ k
      · have hk1 : (100 : Int) ≤ (k : Int) := by omega
        go_wp2_with fail
        refine (bld_write _ _ o _ W HU.out (by show o.size + 5 ≤ _; omega) hWs).mono ?_
        rintro e w1 ⟨rfl, u1, b1, _⟩
        have HU1 := Lib.hid u1
        have HL1 := Lib.hid (HL.out.trans b1)
        have hs1 := b1.size
        clear u1 b1
        go_wp2_with fail
        refine (bld_string _ _ _ w1 HU1.out (by omega)).mono ?_
        rintro e w2 ⟨rfl, b2⟩
        have HL2 := Lib.hid (HL1.out.trans b2)
        clear b2
        go_wp2_with fail
        go_ret
        exact ⟨ret_str (by rw [← HQ.out, HDR.out]; exact (outA_full he (by omega)).symm), HL2.out⟩
      have hk1 : ¬ (100 : Int) ≤ (k : Int) := by omega
      go_wp2_with fail
      refine (bld_len _ _ o W HU.out).mono ?_
      rintro e _ ⟨rfl, rfl⟩
      by_cases ho4 : 40000 < o.size
      · have ho5 : (40000 : Int) < (o.size : Int) := by omega
        go_wp2_with fail
        refine (bld_write _ _ o _ W HU.out (by show o.size + 5 ≤ _; omega) hWs).mono ?_
        rintro e w1 ⟨rfl, u1, b1, _⟩
        have HU1 := Lib.hid u1
        have HL1 := Lib.hid (HL.out.trans b1)
        have hs1 := b1.size
        clear u1 b1
        go_wp2_with fail
        refine (bld_string _ _ _ w1 HU1.out (by omega)).mono ?_
        rintro e w2 ⟨rfl, b2⟩
        have HL2 := Lib.hid (HL1.out.trans b2)
        clear b2
        go_wp2_with fail
        go_ret
        exact ⟨ret_str (by rw [← HQ.out, HDR.out]; exact (outA_full he (by omega)).symm), HL2.out⟩
      have ho5 : ¬ (40000 : Int) < (o.size : Int) := by omega
      obtain ⟨hSt, haz⟩ := HSTK.out he (by omega) (by omega)
      have HCL := Lib.hid (hSt w.heap.size (w.heap.size + 1 + 1) vH W (HX.out W HL.out) hWs HD.out)
      clear hSt
      go_wp2_with fail
      refine HCL.out.mono ?_
      rintro e w1 ⟨rfl, vH', d1, k1, n1⟩
      have HD1 := Lib.hid d1
      have HU1 := Lib.hid (builder_kd HU.out HD.out k1)
      have HO1 := Lib.hid (own_kd HO.out HD.out (by decide) HAP.out k1)
      have HAP1 := Lib.hid (apart_heldN HAP.out n1 HO.out)
      have HL1 := Lib.hid (HL.out.trans (k1.toBelow (by omega) HD.out.lt fun j hj => (HD.out.held.blk j hj).1))
      have hs1 : w.heap.size ≤ w1.heap.size := HL1.out.size
      clear d1 k1 n1 y1
      by_cases ha : (ans k).size = 0
      · obtain ⟨a1, a2⟩ := empty_tests ha
        have HA := Lib.hid (orNo_empty ha)
        clear ha
        · skip
          go_wp2_with fail
          refine (bld_write _ _ o _ w1 HU1.out (by simp only [ByteArray.size_append]; first | (show o.size + 3 ≤ _; omega) | (show o.size + (_ + 1) ≤ _; omega)) hs1).mono ?_
          rintro e w2 ⟨rfl, u2, b2, ok2⟩
          have HB1 := Lib.hid (builder_obj HU1.out)
          have HU2 := Lib.hid u2
          have HD2 := Lib.hid (dsk_others HD1.out ok2 HB1.out)
          have HO2 := Lib.hid (own_others HO1.out ok2 HB1.out (by decide) (by decide))
          have HL2 := Lib.hid (HL1.out.trans b2)
          clear u2 b2 ok2
          go_wp2_with fail
          go_roundw
          case rel => exact ⟨k + 1, vH', by omega, by go_num, HL2.out, HD2.out, by show bld _ _ _ _; rw [HKT.out he, HA.out]; exact HU2.out, HO2.out, HAP1.out, by show _ = _; rw [HKT.out he, ← HQ.out, HDR.out, outA_step he (by omega) (by omega)], by rw [HKT.out he]; have := orNo_size (ans k); simp only [ByteArray.size_append]; show o.size + (_ + 1) ≤ _; omega⟩
          case measure => simp [intOf]; omega
      · obtain ⟨a1, a2⟩ := nonempty_tests ha
        have HA := Lib.hid (orNo_pos (show 1 ≤ (ans k).size by omega))
        have hadd : (ans k).size + (⟨#[10]⟩ : ByteArray).size ≤ 9223372036854775807 := by show _ + 1 ≤ _; omega
        clear ha
        · skip
          go_wp2_with fail
          refine (bld_write _ _ o _ w1 HU1.out (by simp only [ByteArray.size_append]; first | (show o.size + 3 ≤ _; omega) | (show o.size + (_ + 1) ≤ _; omega)) hs1).mono ?_
          rintro e w2 ⟨rfl, u2, b2, ok2⟩
          have HB1 := Lib.hid (builder_obj HU1.out)
          have HU2 := Lib.hid u2
          have HD2 := Lib.hid (dsk_others HD1.out ok2 HB1.out)
          have HO2 := Lib.hid (own_others HO1.out ok2 HB1.out (by decide) (by decide))
          have HL2 := Lib.hid (HL1.out.trans b2)
          clear u2 b2 ok2
          go_wp2_with fail
          go_roundw
          case rel => exact ⟨k + 1, vH', by omega, by go_num, HL2.out, HD2.out, by show bld _ _ _ _; rw [HKT.out he, HA.out]; exact HU2.out, HO2.out, HAP1.out, by show _ = _; rw [HKT.out he, ← HQ.out, HDR.out, outA_step he (by omega) (by omega)], by rw [HKT.out he]; have := orNo_size (ans k); simp only [ByteArray.size_append]; show o.size + (_ + 1) ≤ _; omega⟩
          case measure => simp [intOf]; omega
    · have HE : Hid (ls.drop k = []) := List.drop_eq_nil_of_le (by omega)
      go_wp2_with fail
      refine (bld_string _ _ _ W HU.out hWs).mono ?_
      rintro e w2 ⟨rfl, b2⟩
      have HL2 := Lib.hid (HL.out.trans b2)
      clear b2
      go_wp2_with fail
      go_ret
      exact ⟨ret_str (by rw [← HQ.out, HE.out, outA]), HL2.out⟩

end Go.Proofs.YtpinkbodbedajaaGreatDoor

namespace Go.Proofs.YtpinkbodbedajaaGreatDoor
open Go.RowKit

theorem linesT_size_mem : ∀ {ls : List ByteArray} {l : ByteArray}, l ∈ ls → l.size ≤ (linesT ls).size
  | x :: xs, l, h => by
    rw [linesT_cons]
    simp only [ByteArray.size_append]
    rcases List.mem_cons.1 h with h | h
    · subst h; omega
    · have := linesT_size_mem h; omega
theorem outA_lines (ans : Nat → ByteArray) : ∀ (ls rs : List ByteArray) (k : Nat) (o : ByteArray), ls.length = rs.length → k + ls.length ≤ 100 → (∀ l ∈ ls, l.size ≠ 0) → (∀ a ∈ rs, 1 ≤ a.size) → (o ++ linesT rs).size ≤ 40000 → (∀ i (h : i < rs.length), ans (k + i) = rs[i]) →
    outA ans k o (ls ++ [⟨#[]⟩]) = o ++ linesT rs
  | [], [], k, o, _, _, _, _, _, _ => by
    rw [List.nil_append, outA_skip rfl, linesT_nil]
    apply ba_ext
    rw [ba_append]
    simp [outA]
  | [], _ :: _, _, _, h, _, _, _, _, _ => by simp at h
  | _ :: _, [], _, _, h, _, _, _, _, _ => by simp at h
  | l :: ls, a :: rs, k, o, hl, hk, hn, ha, hz, hA => by
    rw [linesT_cons] at hz
    simp only [ByteArray.size_append] at hz
    simp only [List.length_cons] at hl hk
    have e0 : ans k = a := hA 0 (by simp)
    have h1 := ha a (by simp)
    rw [List.cons_append, outA_step (hn l (by simp)) (by omega) (by omega), e0, orNo_pos h1,
      outA_lines ans ls rs (k + 1) _ (by omega) (by omega) (fun x hx => hn x (List.mem_cons_of_mem _ hx)) (fun x hx => ha x (List.mem_cons_of_mem _ hx)) (by simp only [ByteArray.size_append]; omega)
        (fun i h => by
          have := hA (i + 1) (by simp; omega)
          rw [show k + 1 + i = k + (i + 1) by omega, this]
          rfl), linesT_cons]
    apply ba_ext
    simp only [ba_append, List.append_assoc]
/-- The state ahead of line k; it stays after the last one. -/
def upTo (n : Nat) (D : Nat → Dsk) (k : Nat) : Dsk := if k ≤ n then D k else D n
theorem run_lines (X : World → Prop) (ls rs : List ByteArray) (D : Nat → Dsk) (w : World) (hlen : ls.length = rs.length) (h0 : D 0 = firstD) (h100 : ls.length ≤ 100) (h10 : ∀ l ∈ ls, (10 : UInt8) ∉ l.data.toList) (hne : ∀ l ∈ ls, l.size ≠ 0)
    (ha : ∀ a ∈ rs, 1 ≤ a.size) (hT : (linesT ls).size ≤ 20000) (hA : (linesT rs).size ≤ 40000) (hX : ∀ W, Below w.heap.size w W → X W)
    (hstep : ∀ k (h : k < ls.length), StepOk X ls[k] (D k) (D (k + 1)) (rs[k]'(by omega))) :
    Calls Tryz.prog 20 #[.string (linesT ls)] w fun e w' => e = .returned (.string (linesT rs)) ∧ Below w.heap.size w w' := by
  have h := impl_RunScript X (linesT ls) w (ls ++ [⟨#[]⟩]) (upTo ls.length D) (fun k => rs.getD k ⟨#[]⟩) hT (linesT_parts ls h10) hX (by unfold upTo; rw [if_pos (Nat.zero_le _)]; exact h0)
    (fun k hk hz _ _ => by
      rw [List.length_append, List.length_singleton] at hk
      by_cases hlt : k < ls.length
      · have e1 : (ls ++ [(⟨#[]⟩ : ByteArray)])[k]'(by simp; omega) = ls[k] := List.getElem_append_left hlt
        have e2 : rs.getD k ⟨#[]⟩ = rs[k]'(by omega) := by rw [List.getD_eq_getElem?_getD, List.getElem?_eq_getElem (by omega)]; rfl
        rw [e1, e2]
        unfold upTo
        rw [if_pos (by omega), if_pos (by omega)]
        refine ⟨hstep k hlt, ?_⟩
        have := linesT_size_mem (List.getElem_mem (show k < rs.length by omega))
        omega
      · exfalso
        apply hz
        rw [List.getElem_append_right (by omega)]
        have : k - ls.length = 0 := by omega
        simp only [this]
        rfl)
    (fun k hk hz => by
      rw [List.length_append, List.length_singleton] at hk
      by_cases hlt : k < ls.length
      · exfalso
        have e1 : (ls ++ [(⟨#[]⟩ : ByteArray)])[k]'(by simp; omega) = ls[k] := List.getElem_append_left hlt
        rw [e1] at hz
        exact hne _ (List.getElem_mem hlt) hz
      · obtain rfl : k = ls.length := by omega
        unfold upTo
        rw [if_neg (by omega), if_pos (Nat.le_refl _)])
  rw [outA_lines _ ls rs 0 ⟨#[]⟩ hlen (by omega) hne ha (by
    have e : (⟨#[]⟩ : ByteArray).size = 0 := rfl
    rw [ByteArray.size_append, e]; omega) (fun i hi => by rw [Nat.zero_add]; show rs.getD i _ = _; rw [List.getD_eq_getElem?_getD, List.getElem?_eq_getElem hi]; rfl)] at h
  have e0 : (⟨#[]⟩ : ByteArray) ++ linesT rs = linesT rs := by
    apply ba_ext; rw [ba_append]; simp
  rw [e0] at h
  exact h

end Go.Proofs.YtpinkbodbedajaaGreatDoor
