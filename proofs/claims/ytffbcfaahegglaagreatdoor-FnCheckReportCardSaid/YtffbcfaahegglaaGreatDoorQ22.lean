/- R0 R3 R1 R5 R6 -/
import Derived.Test.YtffbcfaahegglaaGreatDoorQ2
import Derived.ProofKit
import Derived.OpenShut
import Derived.ShutString
import Derived.ChangeOld
import Derived.Deep.Slices
import Derived.Deep.Fields
import Derived.ChangeSame
import Derived.Test.YtffbcfaahegglaaGreatDoorQ5
import Derived.Test.YtffbcfaahegglaaGreatDoorQ3
import Derived.Test.YtffbcfaahegglaaGreatDoorQ6
import Derived.Test.YtffbcfaahegglaaGreatDoorQ12
namespace Go.Proofs.YtffbcfaahegglaaGreatDoor
open Go.RowKit Go.ChangeShapes Go.WideShapes Go.Deep

/-- Whatever reads at type t reads as some x of α. -/
def Opens (P : Program) (t : TypeId) (α : Type) [El α] : Prop :=
  ∀ {H : Type} (enc : TypeId × Value → H) (w : World) (spare : Nat → Bool) (held : Bool) (fuel : Nat) (cs : List Value) (x : DataW H × List MemPlace),
    DataW.trod enc P w 0 spare held fuel t cs = some x → ∃ y : α, El.el w w.heap.size y cs

theorem list_of {α : Type} {p : Nat → α → Prop} : ∀ {n : Nat}, (∀ i, i < n → ∃ y, p i y) → ∃ xs : List α, xs.length = n ∧ ∀ i (h : i < xs.length), p i xs[i]
  | 0, _ => ⟨[], rfl, fun i h => absurd h (Nat.not_lt_zero i)⟩
  | n + 1, h => by
    obtain ⟨xs, hl, hp⟩ := list_of (n := n) (fun i hi => h i (by omega))
    obtain ⟨y, hy⟩ := h n (by omega)
    refine ⟨xs ++ [y], by simp [hl], fun i hi => ?_⟩
    by_cases hin : i < xs.length
    · rw [List.getElem_append_left hin]
      exact hp i hin
    · have : i = n := by simp at hi; omega
      subst this
      rw [List.getElem_append_right (by omega)]
      simpa [hl] using hy

theorem opens_row {α : Type} [El α] {P : Program} {t e : TypeId} (ht : P.underlying t = some (.slice e)) (hc : P.cellsOf e = El.size α) (hs : 0 < El.size α) (ho : Opens P e α)
    {H : Type} {enc : TypeId × Value → H} {w : World} {spare : Nat → Bool} {held : Bool} {fuel : Nat} {v : Value} {x : DataW H × List MemPlace}
    (h : DataW.trod enc P w 0 spare held fuel t [v] = some x) : ∃ xs : List α, rd w w.heap.size v xs := by
  rcases open_slice ht h with ⟨h0, _⟩ | ⟨a, len, cap, m, n, D, Pl, hcs, hb, hl, hm, hmm, hx, hi⟩
  · injection h0 with h0
    subst h0
    exact ⟨[], rd.nil_⟩
  · injection hcs with hv
    subst hv
    obtain ⟨xs, hxl, hxp⟩ := list_of (n := len) (p := fun i (y : α) => ∃ cs : List Value, El.el w w.heap.size y cs ∧ ∀ j u, cs[j]? = some u → w.cell? (a.add (i * El.size α + j)) = some u) (fun i hil => by
      obtain ⟨cs', hcc, hd⟩ := hi i (by rw [hmm]; split <;> omega)
      obtain ⟨y, hy⟩ := ho enc w spare held n cs' _ hd
      obtain ⟨_, hcl, hat⟩ := World.cells?_some hcc
      refine ⟨y, cs', hy, fun j u hu => ?_⟩
      have hj : j < P.cellsOf e := by
        rw [← hcl]
        exact (List.getElem?_eq_some_iff.1 hu).1
      have := hat j hj
      rw [← add_add, ← hc, this, hu])
    refine ⟨xs, some a, len, cap, rfl, hxl.symm, hl, hm, fun k hk => ?_⟩
    obtain ⟨cs, hel, hcell⟩ := hxp k hk
    have h0 : cs[0]? = some (cs[0]'(by rw [El.len hel]; exact hs)) := List.getElem?_eq_getElem _
    obtain ⟨b, o, spot⟩ := a
    have hc0 := hcell 0 _ h0
    have hspot : spot = none := by
      have h1 := hxp 0 (by omega)
      obtain ⟨cs1, hel1, hcell1⟩ := h1
      have h01 : cs1[0]? = some (cs1[0]'(by rw [El.len hel1]; exact hs)) := List.getElem?_eq_getElem _
      have := World.cell?_spot (hcell1 0 _ h01)
      simpa [Addr.add] using this
    subst hspot
    have hlt := World.block_lt_of_cell? _ _ hc0
    rw [block_of_add] at hlt
    exact ⟨b, o, cs, rfl, hlt, hel, fun j u hu => by have := hcell j u hu; rwa [add_lit] at this⟩

/-- The cells of a struct, field by field. -/
theorem trod_fields {H : Type} {enc : TypeId × Value → H} {P : Program} {w : World} {base : Nat} {spare : Nat → Bool} {held : Bool} {t : TypeId} {fs : Array Field} {fuel : Nat} {cs : List Value} {x : DataW H × List MemPlace}
    (ht : P.underlying t = some (.struct fs)) (h : DataW.trod enc P w base spare held fuel t cs = some x) :
    cs.length = P.cellsOf t ∧ ∀ (i : Nat) (f : Field), fs[i]? = some f → ∃ n y, DataW.trod enc P w base spare held n f.type ((cs.drop f.offset).take (P.cellsOf f.type)) = some y := by
  obtain ⟨xs, n, _, _, hlen, hl, hf⟩ := DataW.trod_struct ht h
  refine ⟨hlen, fun i f hi => ?_⟩
  have hil : i < xs.length := by rw [hl]; exact (Array.getElem?_eq_some_iff.1 hi).1
  exact ⟨n, xs[i], by rw [hf i f hi]; exact List.getElem?_eq_getElem hil⟩
theorem list2 {α : Type} {l : List α} (h : l.length = 2) : ∃ a b, l = [a, b] := by
  match l, h with
  | [a, b], _ => exact ⟨a, b, rfl⟩
theorem list3 {α : Type} {l : List α} (h : l.length = 3) : ∃ a b c, l = [a, b, c] := by
  match l, h with
  | [a, b, c], _ => exact ⟨a, b, c, rfl⟩
theorem list4 {α : Type} {l : List α} (h : l.length = 4) : ∃ a b c d, l = [a, b, c, d] := by
  match l, h with
  | [a, b, c, d], _ => exact ⟨a, b, c, d, rfl⟩
theorem list6 {α : Type} {l : List α} (h : l.length = 6) : ∃ a b c d e f, l = [a, b, c, d, e, f] := by
  match l, h with
  | [a, b, c, d, e, f], _ => exact ⟨a, b, c, d, e, f, rfl⟩

end Go.Proofs.YtffbcfaahegglaaGreatDoor

namespace Go.Proofs.YtffbcfaahegglaaGreatDoor
open Go.ChangeShapes Go.WideShapes Go.ChangeAt Go.RowKit

set_option maxRecDepth 100000 in
theorem opensStr : Opens Tryz.prog 9 ByteArray := by
  intro H enc w spare held fuel cs x h
  obtain ⟨s, rfl, _, ws⟩ := DataW.trod_string Tryz.underlying9 h
  exact ⟨s, ws, rfl⟩


set_option maxRecDepth 100000 in
theorem opensFwd : Opens Tryz.prog 105 Fwd := by
  intro H enc w spare held fuel cs x h
  obtain ⟨hl, hf⟩ := trod_fields Tryz.underlying105 h
  obtain ⟨c0, c1, rfl⟩ := list2 (hl.trans (by kernel_rfl))
  obtain ⟨n0, y0, h0⟩ := hf 0 _ rfl
  obtain ⟨n1, y1, h1⟩ := hf 1 _ rfl
  obtain ⟨s, e0, _, ws⟩ := DataW.trod_string Tryz.underlying9 (h0 : DataW.trod enc Tryz.prog w 0 spare held n0 9 [c0] = some y0)
  obtain ⟨s', e1, _, ws'⟩ := DataW.trod_string Tryz.underlying9 (h1 : DataW.trod enc Tryz.prog w 0 spare held n1 9 [c1] = some y1)
  injection e0 with e0
  injection e1 with e1
  subst e0 e1
  exact ⟨⟨s, s'⟩, ⟨ws, ws'⟩, rfl⟩

set_option maxRecDepth 100000 in
theorem opensPln {H : Type} (enc : TypeId × Value → H) (w : World) (spare : Nat → Bool) (held : Bool) (fuel : Nat) (cs : Array Value) (x : DataW H × List MemPlace)
    (h : DataW.trod enc Tryz.prog w 0 spare held fuel 39 (Value.agg cs).cells.toList = some x) : ∃ p : Pln, rdP w w.heap.size (.agg cs) p := by
  obtain ⟨hl, hf⟩ := trod_fields Tryz.underlying39 h
  obtain ⟨c0, c1, c2, hcs⟩ := list3 (hl.trans (by kernel_rfl))
  rw [hcs] at hf
  obtain ⟨n0, y0, h0⟩ := hf 0 _ rfl
  obtain ⟨n1, y1, h1⟩ := hf 1 _ rfl
  obtain ⟨n2, y2, h2⟩ := hf 2 _ rfl
  obtain ⟨i, e0, _, wi⟩ := DataW.trod_int Tryz.underlying3 (h0 : DataW.trod enc Tryz.prog w 0 spare held n0 3 [c0] = some y0)
  obtain ⟨j, e1, _, wj⟩ := DataW.trod_int Tryz.underlying3 (h1 : DataW.trod enc Tryz.prog w 0 spare held n1 3 [c1] = some y1)
  obtain ⟨xs, hx⟩ := opens_row (α := ByteArray) Tryz.underlying23 (by kernel_rfl) (by decide) opensStr (h2 : DataW.trod enc Tryz.prog w 0 spare held n2 23 [c2] = some y2)
  injection e0 with e0
  injection e1 with e1
  subst e0 e1
  refine ⟨⟨i, j, xs⟩, c2, ?_, wf_range wi, wf_range wj, hx⟩
  obtain ⟨l⟩ := cs
  have : l = [Value.int .i64 i, Value.int .i64 j, c2] := by simpa [Value.cells] using hcs
  rw [this]

end Go.Proofs.YtffbcfaahegglaaGreatDoor

namespace Go.Proofs.YtffbcfaahegglaaGreatDoor
open Go.ChangeShapes Go.WideShapes Go.ChangeAt Go.RowKit

set_option maxRecDepth 100000 in
theorem opensLtr : Opens Tryz.prog 73 Ltr := by
  intro H enc w spare held fuel cs x h
  obtain ⟨hl, hf⟩ := trod_fields Tryz.underlying73 h
  obtain ⟨c0, c1, rfl⟩ := list2 (hl.trans (by kernel_rfl))
  obtain ⟨n0, y0, h0⟩ := hf 0 _ rfl
  obtain ⟨n1, y1, h1⟩ := hf 1 _ rfl
  obtain ⟨i, e0, _, wi⟩ := DataW.trod_int Tryz.underlying3 (h0 : DataW.trod enc Tryz.prog w 0 spare held n0 3 [c0] = some y0)
  obtain ⟨s, e1, _, ws⟩ := DataW.trod_string Tryz.underlying9 (h1 : DataW.trod enc Tryz.prog w 0 spare held n1 9 [c1] = some y1)
  injection e0 with e0
  injection e1 with e1
  subst e0 e1
  exact ⟨⟨i, s⟩, ⟨wf_range wi, ws⟩, rfl⟩

end Go.Proofs.YtffbcfaahegglaaGreatDoor

namespace Go.Proofs.YtffbcfaahegglaaGreatDoor
open Go.ChangeShapes Go.WideShapes Go.ChangeAt Go.RowKit Go.Deep


end Go.Proofs.YtffbcfaahegglaaGreatDoor

namespace Go.Proofs.YtffbcfaahegglaaGreatDoor
open Go.ChangeShapes Go.WideShapes Go.ChangeAt Go.RowKit

theorem list4r {α : Type} {l : List α} (h : l.length = 4) : ∃ a b c d, l = [a, b, c, d] := by
  match l, h with
  | [a, b, c, d], _ => exact ⟨a, b, c, d, rfl⟩
set_option maxRecDepth 100000 in
theorem opensRpt {H : Type} (enc : TypeId × Value → H) (w : World) (spare : Nat → Bool) (held : Bool) (fuel : Nat) (cs : Array Value) (x : DataW H × List MemPlace)
    (h : DataW.trod enc Tryz.prog w 0 spare held fuel 45 (Value.agg cs).cells.toList = some x) : ∃ r : Rpt, rdR w w.heap.size (.agg cs) r := by
  obtain ⟨hl, hf⟩ := trod_fields Tryz.underlying45 h
  obtain ⟨c0, c1, c2, c3, hcs⟩ := list4r (hl.trans (by kernel_rfl))
  rw [hcs] at hf
  obtain ⟨n0, y0, h0⟩ := hf 0 _ rfl
  obtain ⟨n1, y1, h1⟩ := hf 1 _ rfl
  obtain ⟨n2, y2, h2⟩ := hf 2 _ rfl
  obtain ⟨n3, y3, h3⟩ := hf 3 _ rfl
  obtain ⟨r0, hr0⟩ := opens_row (α := Ltr) Tryz.underlying43 (by kernel_rfl) (by decide) opensLtr (h0 : DataW.trod enc Tryz.prog w 0 spare held n0 43 [c0] = some y0)
  obtain ⟨r1, hr1⟩ := opens_row (α := Ltr) Tryz.underlying43 (by kernel_rfl) (by decide) opensLtr (h1 : DataW.trod enc Tryz.prog w 0 spare held n1 43 [c1] = some y1)
  obtain ⟨r2, hr2⟩ := opens_row (α := Ltr) Tryz.underlying43 (by kernel_rfl) (by decide) opensLtr (h2 : DataW.trod enc Tryz.prog w 0 spare held n2 43 [c2] = some y2)
  obtain ⟨r3, hr3⟩ := opens_row (α := Ltr) Tryz.underlying43 (by kernel_rfl) (by decide) opensLtr (h3 : DataW.trod enc Tryz.prog w 0 spare held n3 43 [c3] = some y3)
  refine ⟨⟨r0, r1, r2, r3⟩, c0, c1, c2, c3, ?_, hr0, hr1, hr2, hr3⟩
  obtain ⟨l⟩ := cs
  have : l = [c0, c1, c2, c3] := by simpa [Value.cells] using hcs
  rw [this]

end Go.Proofs.YtffbcfaahegglaaGreatDoor
