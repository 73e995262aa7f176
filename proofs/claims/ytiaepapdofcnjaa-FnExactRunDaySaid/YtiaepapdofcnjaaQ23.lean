/- R1 R3 R4 -/
import Derived.Test.YtiaepapdofcnjaaQ22
import Derived.Test.YtiaepapdofcnjaaQ2
import Derived.Test.YtiaepapdofcnjaaQ3
namespace Go.Proofs.Ytiaepapdofcnjaa
open Go.ChangeShapes Go.WideShapes Go.ChangeAt Go.RowKit

set_option maxRecDepth 100000 in
theorem opensLtr : Opens Try.prog 108 Ltr := by
  intro H enc w spare held fuel cs x h
  obtain ⟨hl, hf⟩ := trod_fields Try.underlying108 h
  obtain ⟨c0, c1, rfl⟩ := list2 (hl.trans (by kernel_rfl))
  obtain ⟨n0, y0, h0⟩ := hf 0 _ rfl
  obtain ⟨n1, y1, h1⟩ := hf 1 _ rfl
  obtain ⟨i, e0, _, wi⟩ := DataW.trod_int Try.underlying3 (h0 : DataW.trod enc Try.prog w 0 spare held n0 3 [c0] = some y0)
  obtain ⟨s, e1, _, ws⟩ := DataW.trod_string Try.underlying9 (h1 : DataW.trod enc Try.prog w 0 spare held n1 9 [c1] = some y1)
  injection e0 with e0
  injection e1 with e1
  subst e0 e1
  exact ⟨⟨i, s⟩, ⟨wf_range wi, ws⟩, rfl⟩

end Go.Proofs.Ytiaepapdofcnjaa

namespace Go.Proofs.Ytiaepapdofcnjaa
open Go.ChangeShapes Go.WideShapes Go.ChangeAt Go.RowKit

set_option maxRecDepth 100000 in
theorem opensStr : Opens Try.prog 9 ByteArray := by
  intro H enc w spare held fuel cs x h
  obtain ⟨s, rfl, _, ws⟩ := DataW.trod_string Try.underlying9 h
  exact ⟨s, ws, rfl⟩

set_option maxRecDepth 100000 in
theorem opensMis : Opens Try.prog 111 Mis := by
  intro H enc w spare held fuel cs x h
  obtain ⟨hl, hf⟩ := trod_fields Try.underlying111 h
  obtain ⟨c0, c1, rfl⟩ := list2 (hl.trans (by kernel_rfl))
  obtain ⟨n0, y0, h0⟩ := hf 0 _ rfl
  obtain ⟨n1, y1, h1⟩ := hf 1 _ rfl
  obtain ⟨i, e0, _, wi⟩ := DataW.trod_int Try.underlying3 (h0 : DataW.trod enc Try.prog w 0 spare held n0 3 [c0] = some y0)
  obtain ⟨j, e1, _, wj⟩ := DataW.trod_int Try.underlying3 (h1 : DataW.trod enc Try.prog w 0 spare held n1 3 [c1] = some y1)
  injection e0 with e0
  injection e1 with e1
  subst e0 e1
  exact ⟨⟨i, j⟩, ⟨wf_range wi, wf_range wj⟩, rfl⟩

set_option maxRecDepth 100000 in
theorem opensFwd : Opens Try.prog 170 Fwd := by
  intro H enc w spare held fuel cs x h
  obtain ⟨hl, hf⟩ := trod_fields Try.underlying170 h
  obtain ⟨c0, c1, rfl⟩ := list2 (hl.trans (by kernel_rfl))
  obtain ⟨n0, y0, h0⟩ := hf 0 _ rfl
  obtain ⟨n1, y1, h1⟩ := hf 1 _ rfl
  obtain ⟨s, e0, _, ws⟩ := DataW.trod_string Try.underlying9 (h0 : DataW.trod enc Try.prog w 0 spare held n0 9 [c0] = some y0)
  obtain ⟨s', e1, _, ws'⟩ := DataW.trod_string Try.underlying9 (h1 : DataW.trod enc Try.prog w 0 spare held n1 9 [c1] = some y1)
  injection e0 with e0
  injection e1 with e1
  subst e0 e1
  exact ⟨⟨s, s'⟩, ⟨ws, ws'⟩, rfl⟩

set_option maxRecDepth 100000 in
theorem opensPln {H : Type} (enc : TypeId × Value → H) (w : World) (spare : Nat → Bool) (held : Bool) (fuel : Nat) (cs : Array Value) (x : DataW H × List MemPlace)
    (h : DataW.trod enc Try.prog w 0 spare held fuel 24 (Value.agg cs).cells.toList = some x) : ∃ p : Pln, rdP w w.heap.size (.agg cs) p := by
  obtain ⟨hl, hf⟩ := trod_fields Try.underlying24 h
  obtain ⟨c0, c1, c2, hcs⟩ := list3 (hl.trans (by kernel_rfl))
  rw [hcs] at hf
  obtain ⟨n0, y0, h0⟩ := hf 0 _ rfl
  obtain ⟨n1, y1, h1⟩ := hf 1 _ rfl
  obtain ⟨n2, y2, h2⟩ := hf 2 _ rfl
  obtain ⟨i, e0, _, wi⟩ := DataW.trod_int Try.underlying3 (h0 : DataW.trod enc Try.prog w 0 spare held n0 3 [c0] = some y0)
  obtain ⟨j, e1, _, wj⟩ := DataW.trod_int Try.underlying3 (h1 : DataW.trod enc Try.prog w 0 spare held n1 3 [c1] = some y1)
  obtain ⟨xs, hx⟩ := opens_row (α := ByteArray) Try.underlying22 (by kernel_rfl) (by decide) opensStr (h2 : DataW.trod enc Try.prog w 0 spare held n2 22 [c2] = some y2)
  injection e0 with e0
  injection e1 with e1
  subst e0 e1
  refine ⟨⟨i, j, xs⟩, c2, ?_, wf_range wi, wf_range wj, hx⟩
  obtain ⟨l⟩ := cs
  have : l = [Value.int .i64 i, Value.int .i64 j, c2] := by simpa [Value.cells] using hcs
  rw [this]

end Go.Proofs.Ytiaepapdofcnjaa

namespace Go.Proofs.Ytiaepapdofcnjaa
open Go.ChangeShapes Go.WideShapes Go.ChangeAt Go.RowKit

set_option maxRecDepth 100000 in
theorem cellsPln {H : Type} (enc : TypeId × Value → H) (w : World) (spare : Nat → Bool) (held : Bool) (fuel : Nat) (cs : List Value) (x : DataW H × List MemPlace)
    (h : DataW.trod enc Try.prog w 0 spare held fuel 24 cs = some x) : ∃ (p : Pln) (vo : Value), cs = [.int .i64 p.bins, .int .i64 p.passes, vo] ∧ isI64 p.bins ∧ isI64 p.passes ∧ rd w w.heap.size vo p.order := by
  obtain ⟨hl, hf⟩ := trod_fields Try.underlying24 h
  obtain ⟨c0, c1, c2, hcs⟩ := list3 (hl.trans (by kernel_rfl))
  rw [hcs] at hf
  obtain ⟨n0, y0, h0⟩ := hf 0 _ rfl
  obtain ⟨n1, y1, h1⟩ := hf 1 _ rfl
  obtain ⟨n2, y2, h2⟩ := hf 2 _ rfl
  obtain ⟨i, e0, _, wi⟩ := DataW.trod_int Try.underlying3 (h0 : DataW.trod enc Try.prog w 0 spare held n0 3 [c0] = some y0)
  obtain ⟨j, e1, _, wj⟩ := DataW.trod_int Try.underlying3 (h1 : DataW.trod enc Try.prog w 0 spare held n1 3 [c1] = some y1)
  obtain ⟨xs, hx⟩ := opens_row (α := ByteArray) Try.underlying22 (by kernel_rfl) (by decide) opensStr (h2 : DataW.trod enc Try.prog w 0 spare held n2 22 [c2] = some y2)
  injection e0 with e0
  injection e1 with e1
  subst e0 e1
  exact ⟨⟨i, j, xs⟩, c2, hcs, wf_range wi, wf_range wj, hx⟩

set_option maxRecDepth 100000 in
theorem opensDy {H : Type} (enc : TypeId × Value → H) (w : World) (spare : Nat → Bool) (held : Bool) (fuel : Nat) (cs : Array Value) (x : DataW H × List MemPlace)
    (h : DataW.trod enc Try.prog w 0 spare held fuel 57 (Value.agg cs).cells.toList = some x) : ∃ d : Dy, rdD w w.heap.size (.agg cs) d := by
  obtain ⟨hl, hf⟩ := trod_fields Try.underlying57 h
  obtain ⟨c0, c1, c2, c3, c4, c5, hcs⟩ := list6 (hl.trans (by kernel_rfl))
  rw [hcs] at hf
  obtain ⟨n0, y0, h0⟩ := hf 0 _ rfl
  obtain ⟨n1, y1, h1⟩ := hf 1 _ rfl
  obtain ⟨n2, y2, h2⟩ := hf 2 _ rfl
  obtain ⟨n3, y3, h3⟩ := hf 3 _ rfl
  obtain ⟨p, vo, e0, p1, p2, p3⟩ := cellsPln enc w spare held n0 [c0, c1, c2] y0 h0
  obtain ⟨fs, hfs⟩ := opens_row (α := Fwd) Try.underlying55 (by kernel_rfl) (by decide) opensFwd (h1 : DataW.trod enc Try.prog w 0 spare held n1 55 [c3] = some y1)
  obtain ⟨hs, hhs⟩ := opens_row (α := ByteArray) Try.underlying22 (by kernel_rfl) (by decide) opensStr (h2 : DataW.trod enc Try.prog w 0 spare held n2 22 [c4] = some y2)
  obtain ⟨i, e3, _, wi⟩ := DataW.trod_int Try.underlying3 (h3 : DataW.trod enc Try.prog w 0 spare held n3 3 [c5] = some y3)
  simp only [List.cons.injEq, and_true] at e0
  obtain ⟨rfl, rfl, rfl⟩ := e0
  injection e3 with e3
  subst e3
  refine ⟨⟨p, fs, hs, i⟩, c2, c3, c4, ?_, p1, p2, wf_range wi, p3, hfs, hhs⟩
  obtain ⟨l⟩ := cs
  have : l = [Value.int .i64 p.bins, Value.int .i64 p.passes, c2, c3, c4, Value.int .i64 i] := by simpa [Value.cells] using hcs
  rw [this]

end Go.Proofs.Ytiaepapdofcnjaa
