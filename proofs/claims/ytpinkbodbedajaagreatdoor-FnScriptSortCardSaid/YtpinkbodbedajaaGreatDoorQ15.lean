/- RF SHd SQ PR PQ FA -/
import Derived.RangeFuncNested
import Derived.RangeFuncBound
import Derived.RangeFuncCalls
import Derived.RangeFuncLeaves
import Derived.RangeFuncBox
import Derived.Test.YtpinkbodbedajaaGreatDoorProg
import Derived.Shelf.Strings.Builder1
import Derived.Shelf.Strings.Builder2
import Derived.Shelf.Strings.OnBuilder
import Derived.Shelf.Small.Bits
import Derived.Shelf.Small.Strs
import Derived.Shelf.Small.Wraps
import Derived.Shelf.Strings.BuilderF
import Derived.Shelf.Strings.BuilderK
import Derived.Shelf.Utf8.RuneCount
import Derived.Shelf.Strings.Builder2Cap
import Derived.Shelf.Strconv.Itoa0
import Derived.Shelf.Strconv.Itoa1
import Derived.Shelf.LaysM
import Derived.Shelf.Strconv.Itoa2
import Derived.Shelf.Strconv.Itoa3
import Derived.Shelf.Strings.Search1
import Derived.Shelf.Strings.Search2
import Derived.Shelf.Strings.Search3
import Derived.Shelf.Strings.Cut
import Derived.Shelf.Strings.Count
import Derived.Shelf.Strings.Shaped
import Derived.Shelf.Sort.Plain
import Derived.Shelf.Strings.Prefix
import Derived.Shelf.Strings.Split
import Derived.Shelf.Strings.SplitShaped
import Derived.Shelf.Unicode.Decode
import Derived.Shelf.Strings.RuneCount
import Derived.Shelf.Strings.Explode
import Derived.Shelf.Unicode.DecodeSlow
import Derived.Shelf.Unicode.DecodeAny
import Derived.Shelf.Strings.BuilderCap
import Derived.Shelf.Slices.Turned
import Derived.Ground.Names2Prog
import Derived.Shelf.Slices.ReverseS
import Derived.Shelf.Slices.Cells
import Derived.Shelf.Slices.In.SortNone
import Derived.Ground.SlgnProg
import Derived.Shelf.SlicesE.Reverse
import Derived.Shelf.Abstract
import Derived.Shelf.RegionOpen
import Derived.WalkKit
import Derived.OwnWalkIn
import Derived.TacticsInMore
import Derived.LoopNIn
import Derived.LoopIn
import Derived.Maps.AppendAt
import Derived.Test.YtpinkbodbedajaaGreatDoorQ4
import Derived.Test.YtpinkbodbedajaaGreatDoorQ12
import Derived.Test.YtpinkbodbedajaaGreatDoorQ11
import Derived.Test.YtpinkbodbedajaaGreatDoorQ7
import Derived.Test.YtpinkbodbedajaaGreatDoorQ6
import Derived.Lib.SmallJoins
namespace Go.Proofs.YtpinkbodbedajaaGreatDoor
open Go.RowKit

section
variable {F : Fence} {n : Nat} {P : Program} {β α : Type}

/-- What is said bears a turn of the iterator's own cell z, new blocks, and a turn of a block from B on that holds no cells. -/
def Bears (B z : Nat) (I : β → World → Prop) : Prop :=
  ∀ s A C row, I s A → A.grownBy C row → (∀ r, row = some r → r = z ∨ B ≤ r ∧ ∃ o : Obj, A.heap[r]? = some o ∧ o.isCells = false) → I s C
theorem Bears.put {B z : Nat} {I : β → World → Prop} (h : Bears B z I) {s : β} {W : World} {l : Nat} {o : Obj} (o' : Obj) (hs : I s W) (hB : B ≤ l) (hl : W.heap[l]? = some o) (ho : o.isCells = false) : I s (W.putObj l o') :=
  h s W _ (some l) hs (grownBy_putObj' W l o') fun r e => by cases e; exact .inr ⟨hB, o, hl, ho⟩
theorem Bears.new {B z : Nat} {I : β → World → Prop} (h : Bears B z I) {s : β} {W : World} (o : Obj) (hs : I s W) : I s (W.alloc o) :=
  h s W _ none hs (World.grownBy_alloc W o none) fun r e => by cases e
/-- .. of the iterator's own cell alone. -/
def Still (z : Nat) (J : β → World → Prop) : Prop := ∀ s A C row, J s A → A.grownBy C row → (∀ r, row = some r → r = z) → J s C
/-- How a round is left. -/
def roundEnd (C : List Nat) (I Ix : List α → World → Prop) (xs : List α) (W : World) : Exit → Act → World → Prop
  | .normal, _, W' => KeepsOthers W W' ∧ (∀ k ∈ C, W'.heap[k]? = W.heap[k]?) ∧ I xs W'
  | .ret, _, W' => KeepsOthers W W' ∧ Ix xs W'
  | _, _, _ => False
/-- The iterator's word: over whatever a caller says that bears the turns of its cell. -/
def IterZ (F : Fence) (n : Nat) (P : Program) (gf : Nat) (lb : Array Value) (encs : α → Array Value) (R : α → Prop) (S Sp : List α → Prop) (N z : Nat) (C : List Nat) (w : World) : Prop :=
  ∀ (l : Nat) (J Jx : List α → World → Prop), Still z J → Still z Jx →
    (∀ pre x W1, J pre W1 → pre.length < N → R x → YieldAt F (n - 1) P l (encs x) W1 fun e W' =>
      (e = .returned (.bool true) ∧ J (pre ++ [x]) W' ∧ (W1.heap.size ≤ W'.heap.size ∧ ∀ k ∈ C, W'.heap[k]? = W1.heap[k]?)) ∨ (e = .returned (.bool false) ∧ Jx (pre ++ [x]) W')) →
    ∀ W, w.heap.size ≤ W.heap.size → (∀ k ∈ C, W.heap[k]? = w.heap[k]?) → J [] W →
    CallsIn F n P gf (#[.func (.yield l) #[] #[]] ++ lb) W fun e W' => (∃ v, e = .returned v) ∧ ((∃ xs, S xs ∧ J xs W') ∨ ∃ pre, Sp pre ∧ Jx pre W')

theorem grownBy_same {A C : World} {row : Option Nat} {l : Nat} {o : Obj} (h : A.heap[l]? = some o) (hg : A.grownBy C row) (hne : row ≠ some l) : C.heap[l]? = some o :=
  (hg.block l (Array.getElem?_eq_some_iff.1 h).1 fun e => hne e.symm).trans h

set_option maxHeartbeats 1000000 in
theorem range_iterZ {g : Operand} {ps : Array Tmp} {assign body : Code} {Q : Exit → Act → World → Prop} {a : Act} {w : World}
    (hro : F.round = none) (h1 : 1 ≤ n) {gf : Nat} {lb : Array Value} (hg : a.eval g = .func (.func gf) #[] lb) (hFg : F.fn gf) (eg : ∀ args w, (callFunc gf args).run P w = .ok (.enter gf args) w)
    {encs : α → Array Value} {R : α → Prop} {S Sp : List α → Prop} {N z : Nat} {C : List Nat} (hseq : IterZ F (n - 1) P gf lb encs R S Sp N z C w) (hC : ∀ k ∈ C, k < w.heap.size) (hz : z < w.heap.size) (hps : ∀ x, (encs x).size = ps.size)
    (I Ix : List α → World → Prop) (hI : Bears w.heap.size z I) (hIx : Bears w.heap.size z Ix) (h0 : I [] w) (a₁ : α → Act)
    (hassign : ∀ (l : Nat) (x : α) (W : World) (K : Act → World → Prop), K (a₁ x) W →
      assign.wpIn (F.inRound l) (n - 1 - 1) P (Exit.then K (fun _ _ _ => False)) { tmps := (ps.zip (encs x)).foldl (fun t (p, v) => t.setIfInBounds p v) a.tmps, defers := [] } W)
    (hbody : ∀ (l : Nat) (pre : List α) (x : α) (W : World), I pre W → pre.length < N → R x → body.wpIn (F.inRound l) (n - 1 - 1) P (roundEnd C I Ix (pre ++ [x]) W) (a₁ x) W)
    (hdone : ∀ (D : Nat) (xs : List α) (W : World), w.heap.size ≤ D → S xs → I xs W → W.heap[D]? = some (.deferred (some [])) → Q .normal { a with defers := { target := .collected D, args := #[] } :: a.defers } W)
    (hstop : ∀ (D : Nat) (pre : List α) (W : World), w.heap.size ≤ D → Sp pre → Ix pre W → W.heap[D]? = some (.deferred (some [])) → Code.ret.wpIn F n P Q { a with defers := { target := .collected D, args := #[] } :: a.defers } W) :
    (Code.rangeFunc g ps assign body).wpIn F n P Q a w := by
  refine wpIn_rangeFunc fun fn hfn => ?_
  rw [hro]
  -- the loop's record, and the two blocks that the statement lays
  let rec_ : LoopState → Option Code → Loop := fun st pe => { state := st, pending := pe, fn, tmps := a.tmps, params := ps, assign, body, defers := w.heap.size }
  obtain ⟨W1, hW1⟩ : ∃ W1, W1 = (w.alloc (.deferred (some []))).alloc (.loop (rec_ .ready none)) := ⟨_, rfl⟩
  have hL1 : W1.heap[w.heap.size + 1]? = some (.loop (rec_ .ready none)) := by
    have := World.alloc_heap_new (w.alloc (.deferred (some []))) (.loop (rec_ .ready none))
    rwa [World.size_alloc, ← hW1] at this
  have hK1 : W1.heap[w.heap.size]? = some (.deferred (some [])) := by
    rw [hW1]; exact (Below.heap_alloc _ _ _ (by simp)).trans (World.alloc_heap_new w _)
  have hI1 : I [] W1 := by rw [hW1]; exact hI.new _ (hI.new _ h0)
  have hC1 : ∀ k ∈ C, W1.heap[k]? = w.heap[k]? := fun k hk => by
    have := hC k hk
    rw [hW1]; exact (Below.heap_alloc _ _ _ (by simp; omega)).trans (Below.heap_alloc _ _ _ this)
  have hs1 : w.heap.size ≤ W1.heap.size := by rw [hW1]; simp; omega
  refine ⟨w.heap.size + 1, [{ target := .collected w.heap.size, args := #[] }], W1, { target := .fn (.func gf) lb, args := #[.func (.yield (w.heap.size + 1)) #[] #[]] }, W1, gf,
    #[.func (.yield (w.heap.size + 1)) #[] #[]] ++ lb, W1, ?_, ?_, ?_, ?_, fun _ => h1, ?_⟩
  · rw [hW1]; exact run_enterLoop_outer _ _ _ _ _
  · simp only [resolve, hg]
    simp [go_sem]
  · intro f' hf'; simp [Target.leads] at hf'; subst hf'; exact hFg
  · simp [invoke, go_sem, eg]
  · -- between two rounds: the caller's word, the record ready, the block for deferred calls open
    let J : List α → World → Prop := fun pre W => I pre W ∧ W.heap[w.heap.size + 1]? = some (.loop (rec_ .ready none)) ∧ W.heap[w.heap.size]? = some (.deferred (some []))
    let Jx : List α → World → Prop := fun pre W => Ix pre W ∧ W.heap[w.heap.size + 1]? = some (.loop (rec_ .done (some .ret))) ∧ W.heap[w.heap.size]? = some (.deferred (some []))
    have hJ : Still z J := fun s A X row hs hg' hr => by
      have ne1 : row ≠ some (w.heap.size + 1) := fun e => by have := hr _ e; omega
      have ne0 : row ≠ some w.heap.size := fun e => by have := hr _ e; omega
      exact ⟨hI s A X row hs.1 hg' fun r e => .inl (hr r e), grownBy_same hs.2.1 hg' ne1, grownBy_same hs.2.2 hg' ne0⟩
    have hJx : Still z Jx := fun s A X row hs hg' hr => by
      have ne1 : row ≠ some (w.heap.size + 1) := fun e => by have := hr _ e; omega
      have ne0 : row ≠ some w.heap.size := fun e => by have := hr _ e; omega
      exact ⟨hIx s A X row hs.1 hg' fun r e => .inl (hr r e), grownBy_same hs.2.1 hg' ne1, grownBy_same hs.2.2 hg' ne0⟩
    refine (hseq (w.heap.size + 1) J Jx hJ hJx ?_ W1 hs1 hC1 ⟨hI1, hL1, hK1⟩).mono ?_
    · rintro pre x W ⟨hi, hl, hk⟩ hlen hRx
      have hlt : w.heap.size + 1 < W.heap.size := (Array.getElem?_eq_some_iff.1 hl).1
      have hy := run_yield (P := P) (args := encs x) hl (hps x)
      refine ⟨fn, _, assign, body, hy, roundIn_of_wpIn hfn (hassign _ x W _ ⟨_, run_beginRound hl rfl, ?_⟩)⟩
      obtain ⟨W2, hW2⟩ : ∃ W2, W2 = W.putObj (w.heap.size + 1) (.loop (rec_ .busy none)) := ⟨_, rfl⟩
      have hl2 : W2.heap[w.heap.size + 1]? = some (.loop (rec_ .busy none)) := by rw [hW2]; exact World.putObj_heap_same hlt
      have hk2 : W2.heap[w.heap.size]? = some (.deferred (some [])) := by rw [hW2]; exact (World.putObj_heap_other (by omega)).trans hk
      have hi2 : I pre W2 := by rw [hW2]; exact hI.put _ hi (by omega) hl rfl
      have hc2 : ∀ k ∈ C, W2.heap[k]? = W.heap[k]? := fun k hk' => by have := hC k hk'; rw [hW2]; exact World.putObj_heap_other (by omega)
      have hs2 : W2.heap.size = W.heap.size := by rw [hW2]; simp
      show body.wpIn _ _ _ _ _ (W.putObj (w.heap.size + 1) (.loop (rec_ .busy none)))
      rw [← hW2]
      refine wpIn_mono (hbody _ pre x W2 hi2 hlen hRx) ?_
      intro e a3 W3 hp
      cases e with
      | normal =>
        obtain ⟨hk3, hc3, hi3⟩ := hp
        have hl3 := hk3.same _ _ hl2 rfl
        have hd3 := hk3.same _ _ hk2 rfl
        refine ⟨_, _, run_endRound (P := P) none hl3, .inl ⟨rfl, ⟨hI.put _ hi3 (by omega) hl3 rfl, World.putObj_heap_same (Array.getElem?_eq_some_iff.1 hl3).1, (World.putObj_heap_other (by omega)).trans hd3⟩, ?_, fun k hk' => ?_⟩⟩
        · have := hk3.1
          simp
          omega
        · have := hC k hk'
          exact (World.putObj_heap_other (by omega)).trans ((hc3 k hk').trans (hc2 k hk'))
      | ret =>
        obtain ⟨hk3, hi3⟩ := hp
        have hl3 := hk3.same _ _ hl2 rfl
        have hd3 := hk3.same _ _ hk2 rfl
        exact ⟨_, _, run_endRound (P := P) (some .ret) hl3, .inr ⟨rfl, hIx.put _ hi3 (by omega) hl3 rfl, World.putObj_heap_same (Array.getElem?_eq_some_iff.1 hl3).1, (World.putObj_heap_other (by omega)).trans hd3⟩⟩
      | exit id => exact (hp : False).elim
      | goto t => exact (hp : False).elim
      | panic ch => exact (hp : False).elim
      | outgrown => exact (hp : False).elim
    · rintro e W2 ⟨⟨v, rfl⟩, (⟨xs, hS, hi, hl, hk⟩ | ⟨pre, hSp, hi, hl, hk⟩)⟩
      · exact ⟨none, _, run_endLoop (P := P) hl (by simp [rec_]), hdone _ xs _ (Nat.le_refl _) hS (hI.put _ hi (by omega) hl rfl) ((World.putObj_heap_other (by omega)).trans hk)⟩
      · exact ⟨some .ret, _, run_endLoop (P := P) hl (by simp [rec_]), hstop _ pre _ (Nat.le_refl _) hSp (hIx.put _ hi (by omega) hl rfl) ((World.putObj_heap_other (by omega)).trans hk)⟩
end

end Go.Proofs.YtpinkbodbedajaaGreatDoor

namespace Go.Proofs
open Go.Shelf
def Tryz.lays170_ren : Go.Shelf.Ren := ⟨fun | 170 => 66 | n => n, fun | 70 => 105 | 3 => 3 | 0 => 0 | 72 => 107 | 37 => 22 | 5 => 5 | n => n, fun | n => n⟩
theorem Tryz.lays170 : Go.Proofs.Lays.n170 Tryz.prog Tryz.lays170_ren := {
  mixed := by kernel_rfl
  f170 := Tryz.func66.trans (congrArg some (by kernel_rfl))
  t0 := Tryz.underlying0
  a0 := Tryz.isAgg0
  z0 := Tryz.sizeOf0
  v0 := Tryz.zeroValue0
  t3 := Tryz.underlying3
  a3 := Tryz.isAgg3
  z3 := Tryz.sizeOf3
  v3 := Tryz.zeroValue3
  t37 := Tryz.underlying22
  a37 := Tryz.isAgg22
  z37 := Tryz.sizeOf22
  v37 := Tryz.zeroValue22
  t70 := Tryz.underlying105
  a70 := Tryz.isAgg105
  z70 := Tryz.sizeOf105
  v70 := Tryz.zeroValue105
  t72 := Tryz.underlying107
  a72 := Tryz.isAgg107
  z72 := Tryz.sizeOf107
  v72 := Tryz.zeroValue107 }
def Tryz.lays169_ren : Go.Shelf.Ren := ⟨fun | 169 => 69 | n => n, fun | 70 => 105 | 9 => 9 | 0 => 0 | 72 => 107 | 37 => 22 | 127 => 168 | 3 => 3 | 5 => 5 | n => n, fun | n => n⟩
theorem Tryz.lays169 : Go.Proofs.Lays.n169 Tryz.prog Tryz.lays169_ren := {
  mixed := by kernel_rfl
  f169 := Tryz.func69.trans (congrArg some (by kernel_rfl))
  t0 := Tryz.underlying0
  a0 := Tryz.isAgg0
  z0 := Tryz.sizeOf0
  v0 := Tryz.zeroValue0
  t3 := Tryz.underlying3
  a3 := Tryz.isAgg3
  z3 := Tryz.sizeOf3
  v3 := Tryz.zeroValue3
  t9 := Tryz.underlying9
  a9 := Tryz.isAgg9
  z9 := Tryz.sizeOf9
  v9 := Tryz.zeroValue9
  t37 := Tryz.underlying22
  a37 := Tryz.isAgg22
  z37 := Tryz.sizeOf22
  v37 := Tryz.zeroValue22
  t70 := Tryz.underlying105
  a70 := Tryz.isAgg105
  z70 := Tryz.sizeOf105
  v70 := Tryz.zeroValue105
  t72 := Tryz.underlying107
  a72 := Tryz.isAgg107
  z72 := Tryz.sizeOf107
  v72 := Tryz.zeroValue107
  t127 := Tryz.underlying168
  a127 := Tryz.isAgg168
  z127 := Tryz.sizeOf168
  v127 := Tryz.zeroValue168 }
theorem Tryz.Builder_Extra_169 : Builder.Extra Tryz.prog Tryz.lays169_ren := {
  sizeBuilder := by kernel_rfl
  liesBuilder := by kernel_rfl
  t5 := Tryz.underlying5
  a5 := Tryz.isAgg5
  z5 := Tryz.sizeOf5
  v5 := Tryz.zeroValue5
  infoByte := by kernel_rfl
  cellsByte := by kernel_rfl
  sizeByte := by kernel_rfl
  neB5 := by decide }
def Tryz.lays156_ren : Go.Shelf.Ren := ⟨fun | 156 => 57 | 165 => 119 | 166 => 67 | 169 => 69 | 240 => 129 | 241 => 174 | 276 => 190 | 277 => 233 | n => n, fun | 31 => 23 | 9 => 9 | 3 => 3 | 4 => 4 | 0 => 0 | 20 => 20 | 72 => 107 | 76 => 112 | 70 => 105 | 37 => 22 | 75 => 111 | 127 => 168 | 164 => 205 | 5 => 5 | 80 => 114 | n => n, fun | n => n⟩
theorem Tryz.lays156 : Go.Proofs.Lays.n156 Tryz.prog Tryz.lays156_ren := {
  mixed := by kernel_rfl
  f156 := Tryz.func57.trans (congrArg some (by kernel_rfl))
  f165 := Tryz.func119.trans (congrArg some (by kernel_rfl))
  f166 := Tryz.func67.trans (congrArg some (by kernel_rfl))
  f169 := Tryz.func69.trans (congrArg some (by kernel_rfl))
  f240 := Tryz.func129.trans (congrArg some (by kernel_rfl))
  f241 := Tryz.func174.trans (congrArg some (by kernel_rfl))
  f276 := Tryz.func190.trans (congrArg some (by kernel_rfl))
  f277 := Tryz.func233.trans (congrArg some (by kernel_rfl))
  t0 := Tryz.underlying0
  a0 := Tryz.isAgg0
  z0 := Tryz.sizeOf0
  v0 := Tryz.zeroValue0
  t3 := Tryz.underlying3
  a3 := Tryz.isAgg3
  z3 := Tryz.sizeOf3
  v3 := Tryz.zeroValue3
  t4 := Tryz.underlying4
  a4 := Tryz.isAgg4
  z4 := Tryz.sizeOf4
  v4 := Tryz.zeroValue4
  t9 := Tryz.underlying9
  a9 := Tryz.isAgg9
  z9 := Tryz.sizeOf9
  v9 := Tryz.zeroValue9
  t20 := Tryz.underlying20
  a20 := Tryz.isAgg20
  z20 := Tryz.sizeOf20
  v20 := Tryz.zeroValue20
  t31 := Tryz.underlying23
  a31 := Tryz.isAgg23
  z31 := Tryz.sizeOf23
  v31 := Tryz.zeroValue23
  t37 := Tryz.underlying22
  a37 := Tryz.isAgg22
  z37 := Tryz.sizeOf22
  v37 := Tryz.zeroValue22
  t70 := Tryz.underlying105
  a70 := Tryz.isAgg105
  z70 := Tryz.sizeOf105
  v70 := Tryz.zeroValue105
  t72 := Tryz.underlying107
  a72 := Tryz.isAgg107
  z72 := Tryz.sizeOf107
  v72 := Tryz.zeroValue107
  t75 := Tryz.underlying111
  a75 := Tryz.isAgg111
  z75 := Tryz.sizeOf111
  v75 := Tryz.zeroValue111
  t76 := Tryz.underlying112
  a76 := Tryz.isAgg112
  z76 := Tryz.sizeOf112
  v76 := Tryz.zeroValue112
  t127 := Tryz.underlying168
  a127 := Tryz.isAgg168
  z127 := Tryz.sizeOf168
  v127 := Tryz.zeroValue168
  t164 := Tryz.underlying205
  a164 := Tryz.isAgg205
  z164 := Tryz.sizeOf205
  v164 := Tryz.zeroValue205 }
theorem Tryz.Builder_Extra_156 : Builder.Extra Tryz.prog Tryz.lays156_ren := {
  sizeBuilder := by kernel_rfl
  liesBuilder := by kernel_rfl
  t5 := Tryz.underlying5
  a5 := Tryz.isAgg5
  z5 := Tryz.sizeOf5
  v5 := Tryz.zeroValue5
  infoByte := by kernel_rfl
  cellsByte := by kernel_rfl
  sizeByte := by kernel_rfl
  neB5 := by decide }
open Go.RowKit in
/-- strings.Join: "Join concatenates the elements of its first argument to create a single string. The separator string sep is placed between elements in the resulting string.": HOWEVER MANY ELEMENTS. Below the heap's end the world is as it was. (LAID: no walk: one application.) -/
theorem Tryz.strings_Join (bk o c : Nat) (xs : List ByteArray) (sep : ByteArray) (w : World) (hcells : ∀ (j : Nat) x, xs[j]? = some x → w.cell? ⟨bk, o + j, none⟩ = some (.string x)) (hbk : bk < w.heap.size) (hN : xs.length ≤ 140737488355328) (hcap : xs.length ≤ c) (hlen : (Lib.join (xs.map (·.data.toList)) sep.data.toList).length ≤ 140737488355328) :
    Calls Tryz.prog 57 #[.slice (some ⟨bk, o, none⟩) xs.length c, .string sep] w fun e w' => e = .returned (.string ⟨(Lib.join (xs.map (·.data.toList)) sep.data.toList).toArray⟩) ∧ Below w.heap.size w w' := Any.strings_Join Tryz.lays156 Tryz.Builder_Extra_156 bk o c xs sep w hcells hbk hN hcap hlen
def Tryz.lays106_ren : Go.Shelf.Ren := ⟨fun | 106 => 165 | 213 => 228 | 265 => 266 | n => n, fun | 9 => 9 | 3 => 3 | n => n, fun | n => n⟩
theorem Tryz.lays106 : Go.Proofs.Lays.n106 Tryz.prog Tryz.lays106_ren := {
  mixed := by kernel_rfl
  f106 := Tryz.func165.trans (congrArg some (by kernel_rfl))
  f213 := Tryz.func228.trans (congrArg some (by kernel_rfl))
  f265 := Tryz.func266.trans (congrArg some (by kernel_rfl))
  t3 := Tryz.underlying3
  a3 := Tryz.isAgg3
  z3 := Tryz.sizeOf3
  v3 := Tryz.zeroValue3
  t9 := Tryz.underlying9
  a9 := Tryz.isAgg9
  z9 := Tryz.sizeOf9
  v9 := Tryz.zeroValue9 }
open Go.RowKit in
/-- strings.Compare: "Compare returns an integer comparing two strings lexicographically. The result will be 0 if a == b, -1 if a < b, and +1 if a > b.": IT RETURNS 'Lib.compareBytes a b'; the world is as it was. (LAID: no walk: one application.) -/
theorem Tryz.strings_Compare (a b : ByteArray) (w : World) :
    Calls Tryz.prog 165 #[.string a, .string b] w fun e w' => e = .returned (.int .i64 (Lib.compareBytes a.data.toList b.data.toList)) ∧ w' = w := Any.strings_Compare Tryz.lays106 a b w
def Tryz.lays103_ren : Go.Shelf.Ren := ⟨fun | 103 => 247 | 210 => 279 | 206 => 263 | n => n, fun | 9 => 9 | 4 => 4 | 24 => 53 | 3 => 3 | n => n, fun | n => n⟩
theorem Tryz.lays103 : Go.Proofs.Lays.n103 Tryz.prog Tryz.lays103_ren := {
  mixed := by kernel_rfl
  f103 := Tryz.func247.trans (congrArg some (by kernel_rfl))
  f206 := Tryz.func263.trans (congrArg some (by kernel_rfl))
  f210 := Tryz.func279.trans (congrArg some (by kernel_rfl))
  t3 := Tryz.underlying3
  a3 := Tryz.isAgg3
  z3 := Tryz.sizeOf3
  v3 := Tryz.zeroValue3
  t4 := Tryz.underlying4
  a4 := Tryz.isAgg4
  z4 := Tryz.sizeOf4
  v4 := Tryz.zeroValue4
  t9 := Tryz.underlying9
  a9 := Tryz.isAgg9
  z9 := Tryz.sizeOf9
  v9 := Tryz.zeroValue9
  t24 := Tryz.underlying53
  a24 := Tryz.isAgg53
  z24 := Tryz.sizeOf53
  v24 := Tryz.zeroValue53 }
open Go.RowKit in
/-- strings.CutPrefix: "CutPrefix returns s without the provided leading prefix string and reports whether it found the prefix. If s doesn't start with prefix, CutPrefix returns s, false. If prefix is the empty string, CutPrefix returns s, true.": IT RETURNS '(Lib.trimPrefix s p, Lib.hasPrefix s p)'; the world is as it was. (LAID: no walk: one application.) -/
theorem Tryz.strings_CutPrefix (s p : ByteArray) (w : World) :
    Calls Tryz.prog 247 #[.string s, .string p] w fun e w' => e = .returned (.tuple #[.string ⟨(Lib.trimPrefix s.data.toList p.data.toList).toArray⟩, .bool (Lib.hasPrefix s.data.toList p.data.toList)]) ∧ w' = w := Any.strings_CutPrefix Tryz.lays103 s p w
open Go.RowKit in
/-- (*strings.Builder).Len: "Len returns the number of accumulated bytes; b.Len() == len(b.String()).": the world is as it was. (THE FORM '_f': 'Lib.IsBuilderF'.) (LAID: no walk: one application.) -/
theorem Tryz.Builder_Len_f (B b : Nat) (bs : List Value) (w : World) (h : Lib.IsBuilderF 107 5 B b bs w) :
    Calls Tryz.prog 66 #[.pointer (some ⟨b, 0, none⟩)] w fun e w' => e = .returned (.int .i64 bs.length) ∧ w' = w := Any.Builder_Len_f Tryz.lays170 B b bs w h
open Go.RowKit in
/-- (*strings.Builder).String: "String returns the accumulated string.": WHATEVER THE BUILDER HOLDS; THE FORM '_k': OVER 'Lib.IsBuilderF' (a builder that 'String()' may have read), AND WITH THE FRAME THAT REACHES ABOVE THE BUILDER: 'Lib.OthersKept': every block that is not b and is no row of uint8's stands as it stood: the iterator of a range among them. (LAID: no walk: one application.) -/
theorem Tryz.Builder_String_any_k (B b : Nat) (l : List UInt8) (w : World) (h : Lib.IsBuilderF 107 5 B b (Lib.byteCells l) w) (hBw : B ≤ w.heap.size) :
    Calls Tryz.prog 69 #[.pointer (some ⟨b, 0, none⟩)] w fun e w' => e = .returned (.string ⟨l.toArray⟩) ∧ (Lib.IsBuilderF 107 5 B b (Lib.byteCells l) w' ∧ Below B w w' ∧ Lib.OthersKept 5 (some b) w w') := Any.Builder_String_any_k Tryz.lays169 Tryz.Builder_Extra_169 B b l w h hBw
def Tryz.laysM171_ren : Go.Shelf.Ren := ⟨fun | 171 => 56 | 243 => 118 | 246 => 173 | 283 => 229 | 284 => 230 | 285 => 231 | 286 => 232 | 129 => 186 | 317 => 267 | 318 => 268 | 319 => 269 | 320 => 270 | 337 => 289 | 338 => 290 | n => n, fun | 3 => 3 | 9 => 9 | 2 => 2 | 4 => 4 | 171 => 231 | 0 => 0 | 53 => 203 | 37 => 22 | 5 => 5 | 173 => 233 | 212 => 266 | 51 => 201 | 20 => 20 | 213 => 267 | 46 => 159 | 232 => 288 | 233 => 289 | n => n, fun | 17 => 2 | 18 => 5 | 19 => 6 | n => n⟩
theorem Tryz.laysM171 : Go.Proofs.LaysM.n171 Tryz.prog Tryz.laysM171_ren := {
  mixed := by kernel_rfl
  f129 := Tryz.func186.trans (congrArg some (by kernel_rfl))
  f171 := Tryz.func56.trans (congrArg some (by kernel_rfl))
  f243 := Tryz.func118.trans (congrArg some (by kernel_rfl))
  f246 := Tryz.func173.trans (congrArg some (by kernel_rfl))
  f283 := Tryz.func229.trans (congrArg some (by kernel_rfl))
  f284 := Tryz.func230.trans (congrArg some (by kernel_rfl))
  f285 := Tryz.func231.trans (congrArg some (by kernel_rfl))
  f286 := Tryz.func232.trans (congrArg some (by kernel_rfl))
  f317 := Tryz.func267.trans (congrArg some (by kernel_rfl))
  f318 := Tryz.func268.trans (congrArg some (by kernel_rfl))
  f319 := Tryz.func269.trans (congrArg some (by kernel_rfl))
  f320 := Tryz.func270.trans (congrArg some (by kernel_rfl))
  f337 := Tryz.func289.trans (congrArg some (by kernel_rfl))
  f338 := Tryz.func290.trans (congrArg some (by kernel_rfl))
  t0 := Tryz.underlying0
  a0 := Tryz.isAgg0
  z0 := Tryz.sizeOf0
  v0 := Tryz.zeroValue0
  t2 := Tryz.underlying2
  a2 := Tryz.isAgg2
  z2 := Tryz.sizeOf2
  v2 := Tryz.zeroValue2
  t3 := Tryz.underlying3
  a3 := Tryz.isAgg3
  z3 := Tryz.sizeOf3
  v3 := Tryz.zeroValue3
  t4 := Tryz.underlying4
  a4 := Tryz.isAgg4
  z4 := Tryz.sizeOf4
  v4 := Tryz.zeroValue4
  t5 := Tryz.underlying5
  a5 := Tryz.isAgg5
  z5 := Tryz.sizeOf5
  v5 := Tryz.zeroValue5
  t9 := Tryz.underlying9
  a9 := Tryz.isAgg9
  z9 := Tryz.sizeOf9
  v9 := Tryz.zeroValue9
  t20 := Tryz.underlying20
  a20 := Tryz.isAgg20
  z20 := Tryz.sizeOf20
  v20 := Tryz.zeroValue20
  t37 := Tryz.underlying22
  a37 := Tryz.isAgg22
  z37 := Tryz.sizeOf22
  v37 := Tryz.zeroValue22
  t46 := Tryz.underlying159
  a46 := Tryz.isAgg159
  z46 := Tryz.sizeOf159
  v46 := Tryz.zeroValue159
  t51 := Tryz.underlying201
  a51 := Tryz.isAgg201
  z51 := Tryz.sizeOf201
  v51 := Tryz.zeroValue201
  t53 := Tryz.underlying203
  a53 := Tryz.isAgg203
  z53 := Tryz.sizeOf203
  v53 := Tryz.zeroValue203
  t171 := Tryz.underlying231
  a171 := Tryz.isAgg231
  z171 := Tryz.sizeOf231
  v171 := Tryz.zeroValue231
  t173 := Tryz.underlying233
  a173 := Tryz.isAgg233
  z173 := Tryz.sizeOf233
  v173 := Tryz.zeroValue233
  t212 := Tryz.underlying266
  a212 := Tryz.isAgg266
  z212 := Tryz.sizeOf266
  v212 := Tryz.zeroValue266
  t213 := Tryz.underlying267
  a213 := Tryz.isAgg267
  z213 := Tryz.sizeOf267
  t232 := Tryz.underlying288
  a232 := Tryz.isAgg288
  z232 := Tryz.sizeOf288
  v232 := Tryz.zeroValue288
  t233 := Tryz.underlying289
  a233 := Tryz.isAgg289
  z233 := Tryz.sizeOf289
  v233 := Tryz.zeroValue289
  g17 := by kernel_rfl
  g18 := by kernel_rfl
  g19 := by kernel_rfl
  i0 := by kernel_rfl
  i2 := by kernel_rfl
  i3 := by kernel_rfl
  i4 := by kernel_rfl
  i5 := by kernel_rfl
  i9 := by kernel_rfl
  i20 := by kernel_rfl
  i37 := by kernel_rfl
  i46 := by kernel_rfl
  i51 := by kernel_rfl
  i53 := by kernel_rfl
  i171 := by kernel_rfl
  i173 := by kernel_rfl
  i212 := by kernel_rfl
  i232 := by kernel_rfl
  i233 := by kernel_rfl
  m17 := by kernel_rfl
  m18 := by kernel_rfl
  m19 := by kernel_rfl }
open Go.RowKit Go.Sort Go.Lib in
/-- strconv.Itoa: "Itoa is equivalent to FormatInt(int64(i), 10).": i's DECIMAL NUMERAL ('Lib.itoa': a '-' where i is negative, then the digits), FOR EVERY int. The world behind the call: the world before it, new blocks behind the heap (the library's 'var a [24]byte'), draws. (LAID: no walk: one application.) -/
theorem Tryz.strconv_Itoa (n : Int) (h0 : -9223372036854775808 ≤ n) (h1 : n ≤ 9223372036854775807) (w : World) (htab : Lib.TabIs Tryz.prog w "internal/strconv.uint64pow10" .u64 Lib.pow10Tab) :
    Calls Tryz.prog 56 #[.int .i64 n] w fun e w' => e = .returned (.string ⟨(Lib.itoa n).toArray⟩) ∧ ∃ k os, w' = grow (w.drewN k) os := Any.strconv_Itoa Tryz.laysM171 n h0 h1 w htab
def Tryz.lays219_ren : Go.Shelf.Ren := ⟨fun | 219 => 243 | 217 => 273 | 225 => 274 | 224 => 275 | 267 => 276 | 266 => 291 | 314 => 292 | n => n, fun | 9 => 9 | 3 => 3 | 4 => 4 | 5 => 5 | 46 => 159 | 146 => 281 | 51 => 201 | n => n, fun | 1 => 1 | n => n⟩
theorem Tryz.lays219 : Go.Proofs.Lays.n219 Tryz.prog Tryz.lays219_ren := {
  mixed := by kernel_rfl
  f217 := Tryz.func273.trans (congrArg some (by kernel_rfl))
  f219 := Tryz.func243.trans (congrArg some (by kernel_rfl))
  f224 := Tryz.func275.trans (congrArg some (by kernel_rfl))
  f225 := Tryz.func274.trans (congrArg some (by kernel_rfl))
  f266 := Tryz.func291.trans (congrArg some (by kernel_rfl))
  f267 := Tryz.func276.trans (congrArg some (by kernel_rfl))
  f314 := Tryz.func292.trans (congrArg some (by kernel_rfl))
  t3 := Tryz.underlying3
  a3 := Tryz.isAgg3
  z3 := Tryz.sizeOf3
  v3 := Tryz.zeroValue3
  t4 := Tryz.underlying4
  a4 := Tryz.isAgg4
  z4 := Tryz.sizeOf4
  v4 := Tryz.zeroValue4
  t5 := Tryz.underlying5
  a5 := Tryz.isAgg5
  z5 := Tryz.sizeOf5
  v5 := Tryz.zeroValue5
  t9 := Tryz.underlying9
  a9 := Tryz.isAgg9
  z9 := Tryz.sizeOf9
  v9 := Tryz.zeroValue9
  t46 := Tryz.underlying159
  a46 := Tryz.isAgg159
  z46 := Tryz.sizeOf159
  v46 := Tryz.zeroValue159
  t51 := Tryz.underlying201
  a51 := Tryz.isAgg201
  z51 := Tryz.sizeOf201
  v51 := Tryz.zeroValue201
  t146 := Tryz.underlying281
  a146 := Tryz.isAgg281
  z146 := Tryz.sizeOf281
  v146 := Tryz.zeroValue281
  g1 := by kernel_rfl }
open Go.RowKit Go.Lib in
/-- internal/stringslite.Index (what strings.Index calls) AT A substr OF ONE BYTE c: IT RETURNS 'Lib.indexByte s c'; the world is as it was. (LAID: no walk: one application.) -/
theorem Tryz.stringslite_Index_one (s : ByteArray) (c : UInt8) (w : World) :
    Calls Tryz.prog 243 #[.string s, .string ⟨#[c]⟩] w fun e w' => e = .returned (.int .i64 (Lib.indexByte s.data.toList c)) ∧ w' = w := Any.stringslite_Index_one Tryz.lays219 s c w
def Tryz.lays143_ren : Go.Shelf.Ren := ⟨fun | 143 => 189 | 219 => 243 | 217 => 273 | 225 => 274 | 224 => 275 | 267 => 276 | 266 => 291 | 314 => 292 | n => n, fun | 9 => 9 | 3 => 3 | 4 => 4 | 5 => 5 | 46 => 159 | 146 => 281 | 51 => 201 | n => n, fun | 1 => 1 | n => n⟩
theorem Tryz.lays143 : Go.Proofs.Lays.n143 Tryz.prog Tryz.lays143_ren := {
  mixed := by kernel_rfl
  f143 := Tryz.func189.trans (congrArg some (by kernel_rfl))
  f217 := Tryz.func273.trans (congrArg some (by kernel_rfl))
  f219 := Tryz.func243.trans (congrArg some (by kernel_rfl))
  f224 := Tryz.func275.trans (congrArg some (by kernel_rfl))
  f225 := Tryz.func274.trans (congrArg some (by kernel_rfl))
  f266 := Tryz.func291.trans (congrArg some (by kernel_rfl))
  f267 := Tryz.func276.trans (congrArg some (by kernel_rfl))
  f314 := Tryz.func292.trans (congrArg some (by kernel_rfl))
  t3 := Tryz.underlying3
  a3 := Tryz.isAgg3
  z3 := Tryz.sizeOf3
  v3 := Tryz.zeroValue3
  t4 := Tryz.underlying4
  a4 := Tryz.isAgg4
  z4 := Tryz.sizeOf4
  v4 := Tryz.zeroValue4
  t5 := Tryz.underlying5
  a5 := Tryz.isAgg5
  z5 := Tryz.sizeOf5
  v5 := Tryz.zeroValue5
  t9 := Tryz.underlying9
  a9 := Tryz.isAgg9
  z9 := Tryz.sizeOf9
  v9 := Tryz.zeroValue9
  t46 := Tryz.underlying159
  a46 := Tryz.isAgg159
  z46 := Tryz.sizeOf159
  v46 := Tryz.zeroValue159
  t51 := Tryz.underlying201
  a51 := Tryz.isAgg201
  z51 := Tryz.sizeOf201
  v51 := Tryz.zeroValue201
  t146 := Tryz.underlying281
  a146 := Tryz.isAgg281
  z146 := Tryz.sizeOf281
  v146 := Tryz.zeroValue281
  g1 := by kernel_rfl }
open Go.RowKit Go.Lib in
/-- strings.Index: "Index returns the index of the first instance of substr in s, or -1 if substr is not present in s.": AT A substr OF ONE BYTE c: IT RETURNS 'Lib.indexByte s c'; the world is as it was. (LAID: no walk: one application.) -/
theorem Tryz.strings_Index_one (s : ByteArray) (c : UInt8) (w : World) :
    Calls Tryz.prog 189 #[.string s, .string ⟨#[c]⟩] w fun e w' => e = .returned (.int .i64 (Lib.indexByte s.data.toList c)) ∧ w' = w := Any.strings_Index_one Tryz.lays143 s c w
def Tryz.lays138_ren : Go.Shelf.Ren := ⟨fun | 138 => 188 | 195 => 240 | 218 => 242 | 143 => 189 | 219 => 243 | 217 => 273 | 225 => 274 | 224 => 275 | 267 => 276 | 266 => 291 | 314 => 292 | n => n, fun | 9 => 9 | 3 => 3 | 4 => 4 | 5 => 5 | 0 => 0 | 46 => 159 | 146 => 281 | 51 => 201 | n => n, fun | 1 => 1 | n => n⟩
theorem Tryz.lays138 : Go.Proofs.Lays.n138 Tryz.prog Tryz.lays138_ren := {
  mixed := by kernel_rfl
  f138 := Tryz.func188.trans (congrArg some (by kernel_rfl))
  f143 := Tryz.func189.trans (congrArg some (by kernel_rfl))
  f195 := Tryz.func240.trans (congrArg some (by kernel_rfl))
  f217 := Tryz.func273.trans (congrArg some (by kernel_rfl))
  f218 := Tryz.func242.trans (congrArg some (by kernel_rfl))
  f219 := Tryz.func243.trans (congrArg some (by kernel_rfl))
  f224 := Tryz.func275.trans (congrArg some (by kernel_rfl))
  f225 := Tryz.func274.trans (congrArg some (by kernel_rfl))
  f266 := Tryz.func291.trans (congrArg some (by kernel_rfl))
  f267 := Tryz.func276.trans (congrArg some (by kernel_rfl))
  f314 := Tryz.func292.trans (congrArg some (by kernel_rfl))
  t0 := Tryz.underlying0
  a0 := Tryz.isAgg0
  z0 := Tryz.sizeOf0
  v0 := Tryz.zeroValue0
  t3 := Tryz.underlying3
  a3 := Tryz.isAgg3
  z3 := Tryz.sizeOf3
  v3 := Tryz.zeroValue3
  t4 := Tryz.underlying4
  a4 := Tryz.isAgg4
  z4 := Tryz.sizeOf4
  v4 := Tryz.zeroValue4
  t5 := Tryz.underlying5
  a5 := Tryz.isAgg5
  z5 := Tryz.sizeOf5
  v5 := Tryz.zeroValue5
  t9 := Tryz.underlying9
  a9 := Tryz.isAgg9
  z9 := Tryz.sizeOf9
  v9 := Tryz.zeroValue9
  t46 := Tryz.underlying159
  a46 := Tryz.isAgg159
  z46 := Tryz.sizeOf159
  v46 := Tryz.zeroValue159
  t51 := Tryz.underlying201
  a51 := Tryz.isAgg201
  z51 := Tryz.sizeOf201
  v51 := Tryz.zeroValue201
  t146 := Tryz.underlying281
  a146 := Tryz.isAgg281
  z146 := Tryz.sizeOf281
  v146 := Tryz.zeroValue281
  g1 := by kernel_rfl }
open Go.RowKit Go.Lib in
/-- strings.Count AT A substr OF ONE BYTE ('hp'): "Count counts the number of non-overlapping instances of substr in s.": IT RETURNS 'Lib.countByte s (that byte)'; the world is as it was. ✋ NO CONTRACT HERE YET at an empty substr (utf8.RuneCountInString) or at a longer one (a loop over strings.Index). (LAID: no walk: one application.) -/
theorem Tryz.strings_Count_one (s : ByteArray) (c : UInt8) (w : World) :
    Calls Tryz.prog 188 #[.string s, .string ⟨#[c]⟩] w fun e w' => e = .returned (.int .i64 (Lib.countByte s.data.toList c)) ∧ w' = w := Any.strings_Count_one Tryz.lays138 s c w
def Tryz.lays146_ren : Go.Shelf.Ren := ⟨fun | 146 => 65 | 221 => 128 | 268 => 187 | 138 => 188 | 143 => 189 | 195 => 240 | 197 => 241 | 218 => 242 | 219 => 243 | 260 => 272 | 217 => 273 | 225 => 274 | 224 => 275 | 267 => 276 | 266 => 291 | 314 => 292 | n => n, fun | 9 => 9 | 31 => 23 | 3 => 3 | 4 => 4 | 0 => 0 | 105 => 242 | 21 => 21 | 5 => 5 | 46 => 159 | 119 => 277 | 139 => 280 | 138 => 279 | 146 => 281 | 51 => 201 | n => n, fun | 1 => 1 | 3 => 3 | 4 => 4 | n => n⟩
theorem Tryz.lays146 : Go.Proofs.Lays.n146 Tryz.prog Tryz.lays146_ren := {
  mixed := by kernel_rfl
  f138 := Tryz.func188.trans (congrArg some (by kernel_rfl))
  f143 := Tryz.func189.trans (congrArg some (by kernel_rfl))
  f146 := Tryz.func65.trans (congrArg some (by kernel_rfl))
  f195 := Tryz.func240.trans (congrArg some (by kernel_rfl))
  f197 := Tryz.func241.trans (congrArg some (by kernel_rfl))
  f217 := Tryz.func273.trans (congrArg some (by kernel_rfl))
  f218 := Tryz.func242.trans (congrArg some (by kernel_rfl))
  f219 := Tryz.func243.trans (congrArg some (by kernel_rfl))
  f221 := Tryz.func128.trans (congrArg some (by kernel_rfl))
  f224 := Tryz.func275.trans (congrArg some (by kernel_rfl))
  f225 := Tryz.func274.trans (congrArg some (by kernel_rfl))
  f260 := Tryz.func272.trans (congrArg some (by kernel_rfl))
  f266 := Tryz.func291.trans (congrArg some (by kernel_rfl))
  f267 := Tryz.func276.trans (congrArg some (by kernel_rfl))
  f268 := Tryz.func187.trans (congrArg some (by kernel_rfl))
  f314 := Tryz.func292.trans (congrArg some (by kernel_rfl))
  t0 := Tryz.underlying0
  a0 := Tryz.isAgg0
  z0 := Tryz.sizeOf0
  v0 := Tryz.zeroValue0
  t3 := Tryz.underlying3
  a3 := Tryz.isAgg3
  z3 := Tryz.sizeOf3
  v3 := Tryz.zeroValue3
  t4 := Tryz.underlying4
  a4 := Tryz.isAgg4
  z4 := Tryz.sizeOf4
  v4 := Tryz.zeroValue4
  t5 := Tryz.underlying5
  a5 := Tryz.isAgg5
  z5 := Tryz.sizeOf5
  v5 := Tryz.zeroValue5
  t9 := Tryz.underlying9
  a9 := Tryz.isAgg9
  z9 := Tryz.sizeOf9
  v9 := Tryz.zeroValue9
  t21 := Tryz.underlying21
  a21 := Tryz.isAgg21
  z21 := Tryz.sizeOf21
  v21 := Tryz.zeroValue21
  t31 := Tryz.underlying23
  a31 := Tryz.isAgg23
  z31 := Tryz.sizeOf23
  v31 := Tryz.zeroValue23
  t46 := Tryz.underlying159
  a46 := Tryz.isAgg159
  z46 := Tryz.sizeOf159
  v46 := Tryz.zeroValue159
  t51 := Tryz.underlying201
  a51 := Tryz.isAgg201
  z51 := Tryz.sizeOf201
  v51 := Tryz.zeroValue201
  t105 := Tryz.underlying242
  a105 := Tryz.isAgg242
  z105 := Tryz.sizeOf242
  v105 := Tryz.zeroValue242
  t119 := Tryz.underlying277
  a119 := Tryz.isAgg277
  z119 := Tryz.sizeOf277
  t138 := Tryz.underlying279
  a138 := Tryz.isAgg279
  z138 := Tryz.sizeOf279
  v138 := Tryz.zeroValue279
  t139 := Tryz.underlying280
  a139 := Tryz.isAgg280
  z139 := Tryz.sizeOf280
  v139 := Tryz.zeroValue280
  t146 := Tryz.underlying281
  a146 := Tryz.isAgg281
  z146 := Tryz.sizeOf281
  v146 := Tryz.zeroValue281
  g1 := by kernel_rfl
  g3 := by kernel_rfl
  g4 := by kernel_rfl }
end Go.Proofs

namespace Go.Proofs.YtpinkbodbedajaaGreatDoor
open Go.RowKit Go.Shelf
attribute [local go_sem] Oper.semAt_some

/-- A text cut at each c. -/
def spl (c : UInt8) : List UInt8 → List (List UInt8)
  | [] => [[]]
  | b :: s => if b = c then [] :: spl c s else
    match spl c s with
    | [] => [[b]]
    | p :: ps => (b :: p) :: ps
theorem spl_ne (c : UInt8) (s : List UInt8) : spl c s ≠ [] := by
  cases s with
  | nil => simp [spl]
  | cons b s =>
    unfold spl
    split
    · simp
    · split <;> simp
theorem spl_eq (c : UInt8) (s : List UInt8) : spl c (c :: s) = [] :: spl c s := by
  conv => lhs; unfold spl
  rw [if_pos rfl]
theorem spl_cons {b c : UInt8} (h : b ≠ c) {s : List UInt8} {p : List UInt8} {ps : List (List UInt8)} (hs : spl c s = p :: ps) : spl c (b :: s) = (b :: p) :: ps := by
  conv => lhs; unfold spl
  rw [if_neg h, hs]
theorem idx_cons (b c : UInt8) (s : List UInt8) : Lib.indexByte (b :: s) c = if b = c then 0 else if Lib.indexByte s c = -1 then -1 else Lib.indexByte s c + 1 := by
  show (if b == c then 0 else if Lib.indexByte s c == -1 then -1 else Lib.indexByte s c + 1) = _
  simp only [beq_iff_eq]
theorem spl_none {c : UInt8} : ∀ {s : List UInt8}, Lib.indexByte s c < 0 → spl c s = [s]
  | [], _ => rfl
  | b :: s, h => by
    rw [idx_cons] at h
    have hg := Lib.indexByte_ge s c
    split at h
    · omega
    · rename_i hb
      have h2 : Lib.indexByte s c < 0 := by split at h <;> omega
      exact spl_cons hb (spl_none h2)
theorem spl_some {c : UInt8} : ∀ {s : List UInt8} {i : Nat}, Lib.indexByte s c = (i : Int) → spl c s = s.take i :: spl c (s.drop (i + 1)) ∧ i < s.length
  | [], i, h => by
    have : (-1 : Int) = (i : Int) := h
    omega
  | b :: s, i, h => by
    rw [idx_cons] at h
    have hg := Lib.indexByte_ge s c
    split at h
    · rename_i hb
      have e : i = 0 := by omega
      subst e hb
      rw [spl_eq]
      exact ⟨rfl, by simp⟩
    · rename_i hb
      obtain ⟨j, h1, rfl⟩ : ∃ j : Nat, Lib.indexByte s c = (j : Int) ∧ i = j + 1 := by
        split at h
        · omega
        · exact ⟨i - 1, by omega, by omega⟩
      obtain ⟨h2, h3⟩ := spl_some h1
      rw [spl_cons hb h2]
      exact ⟨rfl, by simp; omega⟩

/-- The cells that the closure has captured: the text that is left, the sign, nothing saved. -/
def capt (b : Nat) (c : UInt8) (s : ByteArray) (w : World) : Prop :=
  w.cell? ⟨b, 0, none⟩ = some (.string s) ∧ w.frozen? ⟨b, 0, none⟩ = false ∧ w.cell? ⟨b + 1, 0, none⟩ = some (.string ⟨#[c]⟩) ∧ w.cell? ⟨b + 2, 0, none⟩ = some (.int .i64 0)
theorem cell_same_blk {w w' : World} {k : Nat} (h : w'.heap[k]? = w.heap[k]?) (i : Nat) : w'.cell? ⟨k, i, none⟩ = w.cell? ⟨k, i, none⟩ := by
  simp [World.cell?, h]
theorem frozen_same_blk {w w' : World} {k : Nat} (h : w'.heap[k]? = w.heap[k]?) (i : Nat) : w'.frozen? ⟨k, i, none⟩ = w.frozen? ⟨k, i, none⟩ := by
  simp [World.frozen?, h]
theorem capt.same {b : Nat} {c : UInt8} {s : ByteArray} {w w' : World} (h : capt b c s w) (hs : ∀ k ∈ [b, b + 1, b + 2], w'.heap[k]? = w.heap[k]?) : capt b c s w' := by
  obtain ⟨h1, h2, h3, h4⟩ := h
  have e0 := hs b (by simp); have e1 := hs (b + 1) (by simp); have e2 := hs (b + 2) (by simp)
  exact ⟨(cell_same_blk e0 0).trans h1, (frozen_same_blk e0 0).trans h2, (cell_same_blk e1 0).trans h3, (cell_same_blk e2 0).trans h4⟩
theorem capt.set {b : Nat} {c : UInt8} {s : ByteArray} {w : World} (h : capt b c s w) (t : ByteArray) : capt b c t (w.setCell ⟨b, 0, none⟩ (.string t)) := by
  obtain ⟨h1, h2, h3, h4⟩ := h
  refine ⟨World.cell?_setCell_same' _ _ _ (by rw [h1]; rfl), by rw [World.frozen?_setCell]; exact h2, ?_, ?_⟩
  · rw [World.cell?_setCell_other _ _ _ _ (by simp)]; exact h3
  · rw [World.cell?_setCell_other _ _ _ _ (by simp)]; exact h4

def partsB (c : UInt8) (s : ByteArray) : List ByteArray := (spl c s.data.toList).map fun l => ⟨l.toArray⟩

set_option maxRecDepth 100000 in
set_option maxHeartbeats 1600000 in
/-- **The closure that SplitSeq hands back: every part comes, in its order, unless a round says that no more is wanted.** -/
theorem split_iter (n b : Nat) (hn : 1 ≤ n) (c : UInt8) (s : ByteArray) (w : World) (hw : capt b c s w) (hs : s.size ≤ maxLen) :
    IterZ Fence.wide n Tryz.prog 278 #[.pointer (some ⟨b + 1, 0, none⟩), .pointer (some ⟨b, 0, none⟩), .pointer (some ⟨b + 2, 0, none⟩)] (fun x : ByteArray => #[.string x]) (fun x => x.size ≤ maxLen) (fun xs => xs = partsB c s) (fun pre => pre <+: partsB c s) (partsB c s).length b [b, b + 1, b + 2] w := by
  intro l J Jx hJ hJx hY W hsz hC h0
  have hcW := hw.same hC
  clear hC hw
  refine callsIn_of_wp Tryz.func278 rfl trivial ?_ rfl
  simp only [Tryz.ntmps278, List.size_toArray, List.length_cons, List.length_nil, Nat.reduceAdd, Nat.reduceSub, Array.replicate_succ, Array.replicate_zero, List.push_toArray, List.append_toArray, List.nil_append, List.cons_append]
  obtain ⟨g1, g2, g3, g4⟩ := hcW
  gi_wp2
  have hcW : capt b c s W := ⟨g1, g2, g3, g4⟩
  gi_loopw [7, 8] (fun _ _ wr => ∃ (pre : List ByteArray) (rest : ByteArray), capt b c rest wr ∧ partsB c s = pre ++ partsB c rest ∧ J pre wr ∧ rest.size ≤ maxLen) (fun _ _ wr => match wr.cell? ⟨b, 0, none⟩ with | some (.string t) => t.size | _ => 0)
  case atStart => exact ⟨[], s, hcW, rfl, h0, hs⟩
  case round =>
    obtain ⟨pre, rest, hcap, hp, hj, hr⟩ := hrel
    have hcap' := hcap
    obtain ⟨g1, g2, g3, g4⟩ := hcap
    have hix := Tryz.strings_Index_one rest c wr
    have hge := Lib.indexByte_ge rest.data.toList c
    by_cases hneg : Lib.indexByte rest.data.toList c < 0
    · have hlast : partsB c rest = [rest] := by unfold partsB; rw [spl_none hneg]; rfl
      have hlen : pre.length < (partsB c s).length := by rw [hp, hlast]; simp
      obtain ⟨fn, tmps, assign, body, hy, hR⟩ := hY pre rest wr hj hlen hr
      (try dsimp only at hy)
      rw [hlast] at hp
      gi_wp2_with (refine ⟨trivial, ?_⟩; gi_at_call 189; refine (callsIn_wide.2 hix).mono ?_; rintro e w' ⟨rfl, rfl⟩)
      refine hR.mono ?_
      rintro e W' (⟨rfl, hJ', _⟩ | ⟨rfl, hJx'⟩)
      · gi_wp2
        go_end0
        exact ⟨⟨_, rfl⟩, .inl ⟨_, rfl, by rw [hp]; exact hJ'⟩⟩
      · gi_wp2
        go_end0
        exact ⟨⟨_, rfl⟩, .inr ⟨_, by rw [hp]; exact List.prefix_rfl, hJx'⟩⟩
    · obtain ⟨i, hi⟩ : ∃ i : Nat, Lib.indexByte rest.data.toList c = (i : Int) := ⟨(Lib.indexByte rest.data.toList c).toNat, by omega⟩
      obtain ⟨hs1, hs2⟩ := spl_some hi
      have hil : i < rest.size := by simpa using hs2
      have hcons : partsB c rest = rest.extract 0 i :: partsB c (rest.extract (i + 1) rest.size) := by
        unfold partsB
        rw [hs1, List.map_cons]
        have e1 : (⟨(rest.data.toList.take i).toArray⟩ : ByteArray) = rest.extract 0 i := by
          apply ByteArray.ext
          rw [ByteArray.data_extract]
          apply Array.ext'
          simp
        have e2 : rest.data.toList.drop (i + 1) = (rest.extract (i + 1) rest.size).data.toList := by
          rw [ByteArray.data_extract]
          simp
          exact (List.take_of_length_le (by rw [List.length_drop]; exact Nat.le_of_eq (congrArg (fun z => z - (i + 1)) (by rw [Array.length_toList]; rfl)))).symm
        rw [e1, e2]
      rw [hi] at hix
      have hlen : pre.length < (partsB c s).length := by rw [hp, hcons]; simp
      obtain ⟨fn, tmps, assign, body, hy, hR⟩ := hY pre (rest.extract 0 i) wr hj hlen (by rw [ByteArray.size_extract]; omega)
      (try dsimp only at hy)
      unfold maxLen at hr
      have w1 : IntKind.i64.wrap ((i : Int) + 0) = (i : Int) := by rw [Int.add_zero]; exact IntWalk.i64_in _ (by omega)
      have w2 : IntKind.i64.wrap ((i : Int) + 1) = (i : Int) + 1 := IntWalk.i64_in _ (by omega)
      have hii : (i : Int) ≤ (rest.size : Int) := by omega
      have hi1 : (i : Int) + 1 ≤ (rest.size : Int) := by omega
      have hi2 : ((i : Int) + 1).toNat = i + 1 := by omega
      gi_wp2_with (refine ⟨trivial, ?_⟩; gi_at_call 189; refine (callsIn_wide.2 hix).mono ?_; rintro e w' ⟨rfl, rfl⟩)
      refine hR.mono ?_
      rintro e W' (⟨rfl, hJ', hsz', hk'⟩ | ⟨rfl, hJx'⟩)
      · have hcap2 := hcap'.same hk'
        have hcap3 := hcap2
        obtain ⟨k1, k2, k3, k4⟩ := hcap2
        clear g1 g2 g3 g4
        gi_wp2
        go_roundw
        case rel =>
          refine ⟨pre ++ [rest.extract 0 i], rest.extract (i + 1) rest.size, hcap3.set _, by rw [hp, hcons]; simp, hJ _ _ _ _ hJ' (grownBy_setCell' W' b _) (fun r e => by cases e; rfl), by unfold maxLen; rw [ByteArray.size_extract]; omega⟩
        case measure =>
          have e1 : (W'.setCell ⟨b, 0, none⟩ (.string (rest.extract (i + 1) rest.size))).cell? ⟨b, 0, none⟩ = some (.string (rest.extract (i + 1) rest.size)) := (hcap3.set _).1
          have e2 := hcap'.1
          simp only [e1, e2]
          rw [ByteArray.size_extract]
          omega
      · gi_wp2
        refine bodyPost_ret (results_none rfl _ _ _) rfl ?_
        exact ⟨⟨_, rfl⟩, .inr ⟨pre ++ [rest.extract 0 i], by rw [hp, hcons]; exact ⟨partsB c (rest.extract (i + 1) rest.size), by simp⟩, hJx'⟩⟩

set_option maxHeartbeats 1000000 in
theorem strings_SplitSeq (s : ByteArray) (c : UInt8) (w : World) :
    Calls Tryz.prog 196 #[.string s, .string ⟨#[c]⟩] w fun e w' => e = .returned (.func (.func 278) #[] #[.pointer (some ⟨w.heap.size + 1, 0, none⟩), .pointer (some ⟨w.heap.size, 0, none⟩), .pointer (some ⟨w.heap.size + 2, 0, none⟩)]) ∧
      capt w.heap.size c s w' ∧ Below w.heap.size w w' ∧ w'.heap.size = w.heap.size + 3 := by
  have h1 : Calls Tryz.prog 246 #[.string s, .string ⟨#[c]⟩, .int .i64 0] w fun e w' => e = .returned (.func (.func 278) #[] #[.pointer (some ⟨w.heap.size + 1, 0, none⟩), .pointer (some ⟨w.heap.size, 0, none⟩), .pointer (some ⟨w.heap.size + 2, 0, none⟩)]) ∧
      w' = ((w.alloc (.cells #[.string s] 9)).alloc (.cells #[.string ⟨#[c]⟩] 9)).alloc (.cells #[.int .i64 0] 3) := by
    go_enter Tryz.func246, Tryz.ntmps246
    go_wp2
    go_ret
    exact ⟨rfl, rfl⟩
  go_enter Tryz.func196, Tryz.ntmps196
  go_wp2_with (go_at_call 246; refine h1.mono ?_; rintro e w' ⟨rfl, rfl⟩)
  go_ret
  have b0 := ((Boxed.new w 9 (.string s)).alloc (.cells #[.string ⟨#[c]⟩] 9)).alloc (.cells #[.int .i64 0] 3)
  have b1 := (Boxed.new (w.alloc (.cells #[.string s] 9)) 9 (.string ⟨#[c]⟩)).alloc (.cells #[.int .i64 0] 3)
  have b2 := Boxed.new ((w.alloc (.cells #[.string s] 9)).alloc (.cells #[.string ⟨#[c]⟩] 9)) 3 (.int .i64 0)
  rw [World.size_alloc] at b1 b2
  rw [World.size_alloc] at b2
  exact ⟨rfl, ⟨b0.cell, b0.frozen, b1.cell, b2.cell⟩, (((Below.refl _ w).alloc (Nat.le_refl _) _).alloc (by simp) _).alloc (by simp; omega) _, by simp⟩

end Go.Proofs.YtpinkbodbedajaaGreatDoor

namespace Go.Proofs.YtpinkbodbedajaaGreatDoor
open Go.RowKit Go.Shelf
attribute [local go_sem] Oper.semAt_some

/-! ### A part cut at its first sign -/
def cutAt (c : UInt8) (s : ByteArray) : Option (ByteArray × ByteArray) :=
  if Lib.indexByte s.data.toList c < 0 then none else some (s.extract 0 (Lib.indexByte s.data.toList c).toNat, s.extract ((Lib.indexByte s.data.toList c).toNat + 1) s.size)
theorem cut_none {c : UInt8} {s : ByteArray} (h : Lib.indexByte s.data.toList c < 0) : cutAt c s = none := by unfold cutAt; rw [if_pos h]
theorem cut_some {c : UInt8} {s : ByteArray} {i : Nat} (h : Lib.indexByte s.data.toList c = (i : Int)) : cutAt c s = some (s.extract 0 i, s.extract (i + 1) s.size) := by
  unfold cutAt
  rw [if_neg (by omega), h]
  rfl
set_option maxHeartbeats 800000 in
theorem stringslite_Cut1 (s : ByteArray) (c : UInt8) (w : World) (hs : s.size ≤ maxLen) :
    Calls Tryz.prog 191 #[.string s, .string ⟨#[c]⟩] w fun e w' => Below w.heap.size w w' ∧
      ((cutAt c s = none ∧ e = .returned (.tuple #[.string s, .string ⟨#[]⟩, .bool false])) ∨ ∃ p q, cutAt c s = some (p, q) ∧ e = .returned (.tuple #[.string p, .string q, .bool true])) := by
  have hix := Tryz.stringslite_Index_one s c w
  have hge := Lib.indexByte_ge s.data.toList c
  unfold maxLen at hs
  by_cases hneg : Lib.indexByte s.data.toList c < 0
  · have HC := Lib.hid (cut_none hneg)
    have hd : decide ((0 : Int) ≤ Lib.indexByte s.data.toList c) = false := decide_eq_false (by omega)
    generalize Lib.indexByte s.data.toList c = j at *
    have hj : ¬ 0 ≤ j := by omega
    go_enter Tryz.func191, Tryz.ntmps191
    go_wp2_with (go_at_call 243; refine hix.mono ?_; rintro e w' ⟨rfl, rfl⟩)
    go_ret3
    exact ⟨Below.refl _ _, .inl ⟨HC.out, rfl⟩⟩
  · obtain ⟨i, hi⟩ : ∃ i : Nat, Lib.indexByte s.data.toList c = (i : Int) := ⟨(Lib.indexByte s.data.toList c).toNat, by omega⟩
    obtain ⟨_, hs2⟩ := spl_some hi
    have hil : i < s.size := by simpa using hs2
    have HC := Lib.hid (cut_some hi)
    rw [hi] at hix
    clear hneg hge hi hs2
    have w2 : IntKind.i64.wrap ((i : Int) + 1) = (i : Int) + 1 := IntWalk.i64_in _ (by omega)
    have hii : (i : Int) ≤ (s.size : Int) := by omega
    have hi1 : (i : Int) + 1 ≤ (s.size : Int) := by omega
    have hi2 : ((i : Int) + 1).toNat = i + 1 := by omega
    have hi0 : (0 : Int) ≤ (i : Int) := by omega
    have hi3 : (0 : Int) ≤ (i : Int) + 1 := by omega
    have hd : decide ((0 : Int) ≤ (i : Int)) = true := decide_eq_true hi0
    go_enter Tryz.func191, Tryz.ntmps191
    go_wp2_with (go_at_call 243; refine hix.mono ?_; rintro e w' ⟨rfl, rfl⟩)
    go_quiet (fail)
    go_wp2
    go_ret3
    exact ⟨below_drewN (Below.refl _ _) _, .inr ⟨_, _, HC.out, rfl⟩⟩
theorem strings_Cut1 (s : ByteArray) (c : UInt8) (w : World) (hs : s.size ≤ maxLen) :
    Calls Tryz.prog 130 #[.string s, .string ⟨#[c]⟩] w fun e w' => Below w.heap.size w w' ∧
      ((cutAt c s = none ∧ e = .returned (.tuple #[.string s, .string ⟨#[]⟩, .bool false])) ∨ ∃ p q, cutAt c s = some (p, q) ∧ e = .returned (.tuple #[.string p, .string q, .bool true])) := by
  have h := stringslite_Cut1 s c w hs
  go_enter Tryz.func130, Tryz.ntmps130
  go_wp2_with (go_at_call 191; refine h.mono ?_; rintro e w' ⟨hb, ⟨hc, rfl⟩ | ⟨p, q, hc, rfl⟩⟩)
  all_goals
    go_wp2
    go_ret3
  · exact ⟨hb, .inl ⟨hc, rfl⟩⟩
  · exact ⟨hb, .inr ⟨_, _, hc, rfl⟩⟩

end Go.Proofs.YtpinkbodbedajaaGreatDoor

namespace Go.Proofs.YtpinkbodbedajaaGreatDoor
open Go.RowKit Go.Shelf
attribute [local go_sem] Oper.semAt_some

/-- 'append' under a fence, of one element, to a row of the call's own. -/
theorem wpListIn_append1 {α : Type} [Flat α] {F : Fence} {n : Nat} {P : Program} {w : World} {ops : Array Oper} {rest : List Oper} {o : Oper} {a : Act} {Q : Exit → Act → World → Prop} (hgd : o.guard = none) (s x : Operand) (t : TypeId)
    (ho : o.op = .call { callee := .builtin .append, args := #[s, x], argTypes := #[t, t] })
    (base : Nat) (e : TypeId) (i : TypeInfo) (z : Value) (bytes : Nat) (ht : P.underlying t = some (.slice e)) (hi : P.info? e = some i) (hz : i.zero = some z)
    (hsize : i.size = El.size α) (hby : i.bytes = bytes) (hzs : z.cells.size = El.size α) (hsz : 0 < El.size α)
    (v : Value) (xs : List α) (y : α) (hs : a.eval s = v) (hown : own e base w v xs)
    (ad : Addr) (c : Nat) (cs : List Value) (hx : a.eval x = .slice (some ad) 1 c) (hel : El.el w w.heap.size y cs) (hnews : ∀ j u, cs[j]? = some u → w.cell? (ad.add j) = some u)
    (h63 : xs.length + 1 ≤ maxLen) (hbytes : (xs.length + 1) * bytes ≤ 140737488355328) (hbase : base ≤ w.heap.size)
    (h : ∀ v' w', own e base w' v' (xs ++ [y]) → w.grownBy w' v.ownBlock → wpListIn F n P ops Q rest (a.put o.dst v') w') : wpListIn F n P ops Q (o :: rest) a w := by
  obtain ⟨css, hrow, hl, he⟩ := hown
  refine wpListIn_append_own (F := F) (n := n) w hgd s x t ho base e i z (El.size α) bytes ht hi hz hsize hby hzs hsz v xs.length css.flatten hs hrow ad 1 c cs hx (by rw [El.len hel, Nat.one_mul]) hnews (El.one hel) h63 hbytes hbase ?_
  intro v' w' h2 h3 _
  refine h v' w' ⟨css ++ [cs], by simpa using h2, by simp [hl], fun k h1 h2 => ?_⟩ h3
  by_cases hk : k < xs.length
  · rw [List.getElem_append_left hk, List.getElem_append_left (by omega)]
    exact Flat.free (he k hk (by omega))
  · have hke : k = xs.length := by simp at h1; omega
    subst hke
    rw [List.getElem_append_right (Nat.le_refl _), List.getElem_append_right (by omega)]
    simpa [hl] using Flat.free hel
theorem own_isCells {α : Type} [El α] {T base : Nat} {w : World} {v : Value} {xs : List α} (h : own T base w v xs) {k : Nat} (hk : v.ownBlock = some k) : ∃ o : Obj, w.heap[k]? = some o ∧ o.isCells = true := by
  obtain ⟨css, ⟨h1, h2⟩, _⟩ := h
  rcases h2 with ⟨rfl, _⟩ | ⟨g, cap, cur, rfl, hg, hh, _⟩
  · cases hk
  · injection hk with hk
    subst hk
    exact ⟨_, hh, rfl⟩

/-! ### What is parsed -/
theorem keeps_below {W W2 : World} (hb : Below W.heap.size W W2) : KeepsOthers W W2 :=
  ⟨hb.size, fun k o h _ => (hb.block k (Array.getElem?_eq_some_iff.1 h).1).trans h⟩
theorem set_two {W : World} {h : Nat} {T T' : TypeId} {u0 u1 : Value} (z0 : Boxed W h T u0) (z1 : Boxed W (h + 1) T' u1) (a b : Value) :
    Boxed ((W.setCell ⟨h, 0, none⟩ a).setCell ⟨h + 1, 0, none⟩ b) h T a ∧ Boxed ((W.setCell ⟨h, 0, none⟩ a).setCell ⟨h + 1, 0, none⟩ b) (h + 1) T' b ∧
      KeepsOthers W ((W.setCell ⟨h, 0, none⟩ a).setCell ⟨h + 1, 0, none⟩ b) ∧ ∀ B, B ≤ h → Below B W ((W.setCell ⟨h, 0, none⟩ a).setCell ⟨h + 1, 0, none⟩ b) := by
  refine ⟨(z0.set a).kept (grownBy_setCell' _ _ _) (by simp), Boxed.set b (z1.kept (grownBy_setCell' W h a) (by simp)), (KeepsOthers.setCell _ _ _).trans (KeepsOthers.setCell _ _ _), fun B hB => ?_⟩
  exact ((Below.refl B W).setCell (p := ⟨h, 0, none⟩) hB a).setCell (p := ⟨h + 1, 0, none⟩) (show B ≤ h + 1 by omega) b
theorem own_notD {α : Type} [El α] {T base D : Nat} {w : World} {v : Value} {xs : List α} (h : own T base w v xs) {ds : Option (List Deferred)} (hD : w.heap[D]? = some (.deferred ds)) : v.ownBlock = none ∨ v.ownBlock ≠ some D := by
  cases hb : v.ownBlock with
  | none => exact .inl rfl
  | some k =>
    refine .inr fun e => ?_
    injection e with e
    subst e
    obtain ⟨o, h1, h2⟩ := own_isCells h hb
    rw [hD] at h1
    injection h1 with h1
    rw [← h1] at h2
    cases h2
theorem cut_sizes {c : UInt8} {s p q : ByteArray} (h : cutAt c s = some (p, q)) : p.size ≤ s.size ∧ q.size ≤ s.size := by
  unfold cutAt at h
  split at h
  · cases h
  · injection h with h
    injection h with h1 h2
    rw [← h1, ← h2, ByteArray.size_extract, ByteArray.size_extract]
    omega

end Go.Proofs.YtpinkbodbedajaaGreatDoor

namespace Go.Proofs.YtpinkbodbedajaaGreatDoor
open Go.RowKit

/-! ### Plain facts -/
theorem decDigits_dec : ∀ n : Nat, Lib.decDigits n = decL n := by
  intro n
  induction n using Nat.strongRecOn with
  | _ n ih =>
    rw [Lib.decDigits]
    by_cases h : n < 10
    · rw [dif_pos h]
      unfold decL
      by_cases h0 : n = 0
      · rw [if_pos h0, h0]; rfl
      · rw [if_neg h0, dec10_small (by omega) (by omega)]
        unfold b8
        rw [show (48 + (n : Int)).toNat = 48 + n by omega]
    · rw [dif_neg h, ih (n / 10) (by omega)]
      unfold decL
      rw [if_neg (by omega), if_neg (by omega), dec10_step (n := n) (by omega)]
theorem itoa_dec (n : Nat) : (⟨(Lib.itoa (n : Int)).toArray⟩ : ByteArray) = decB n := by
  unfold Lib.itoa decB
  rw [if_neg (by omega), Int.toNat_natCast, decDigits_dec]
theorem inter_snoc {α : Type} (sep x : List α) : ∀ (l : List (List α)), l ≠ [] → sep.intercalate (l ++ [x]) = sep.intercalate l ++ sep ++ x
  | [], h => absurd rfl h
  | [a], _ => by simp [List.intercalate, List.intersperse]
  | a :: b :: l, _ => by
    have ih := inter_snoc sep x (b :: l) (by simp)
    have e : ∀ (c : List α) (m : List (List α)), sep.intercalate (a :: c :: m) = a ++ sep ++ sep.intercalate (c :: m) := fun c m => by
      simp [List.intercalate, List.intersperse]
    rw [List.cons_append, List.cons_append, e, ← List.cons_append, ih, e]
    simp only [List.append_assoc]
/-- Parts with a separator between them. -/
def joinT (ps : List ByteArray) (sep : ByteArray) : ByteArray := ⟨(Lib.join (ps.map (·.data.toList)) sep.data.toList).toArray⟩
theorem joinT_nil (sep : ByteArray) : joinT [] sep = ⟨#[]⟩ := by
  unfold joinT Lib.join; rfl
theorem joinT_one (p sep : ByteArray) : joinT [p] sep = p := by
  refine ba_ext ?_
  simp [joinT, Lib.join, List.intercalate, List.intersperse]
theorem joinT_snoc (ps : List ByteArray) (p sep : ByteArray) (h : ps ≠ []) : joinT (ps ++ [p]) sep = joinT ps sep ++ sep ++ p := by
  refine ba_ext ?_
  rw [ba_append, ba_append]
  unfold joinT Lib.join
  rw [List.map_append, List.map_cons, List.map_nil, inter_snoc _ _ _ (by simpa using h)]
theorem joinT_size (ps : List ByteArray) (sep : ByteArray) (m : Nat) (h : ∀ p ∈ ps, p.size ≤ m) : (joinT ps sep).size ≤ ps.length * (m + sep.size) := by
  have key : ∀ l : List ByteArray, (∀ p ∈ l, p.size ≤ m) → (joinT l.reverse sep).size ≤ l.length * (m + sep.size) := fun l => by
    induction l with
    | nil => intro _; rw [List.reverse_nil, joinT_nil]; exact Nat.zero_le _
    | cons p l ih =>
      intro hl
      have ih := ih fun q hq => hl q (List.mem_cons_of_mem _ hq)
      have hp := hl p List.mem_cons_self
      rw [List.reverse_cons, List.length_cons, Nat.add_mul, Nat.one_mul]
      by_cases h0 : l.reverse = []
      · rw [h0, List.nil_append, joinT_one]; omega
      · rw [joinT_snoc _ _ _ h0, ByteArray.size_append, ByteArray.size_append]; omega
  have := key ps.reverse (fun p hp => h p (by simpa using hp))
  rwa [List.reverse_reverse, List.length_reverse] at this
theorem joinT_len (ps : List ByteArray) (sep : ByteArray) : (Lib.join (ps.map (·.data.toList)) sep.data.toList).length = (joinT ps sep).size := List.size_toArray.symm

/-- A letter as a text. -/
def fmtL (x : Ltr) : ByteArray := decB x.id.toNat ++ ⟨#[58]⟩ ++ x.code
theorem dec10_size {n : Nat} (h : n ≤ 9999) : (decB n).size ≤ 4 ∧ 1 ≤ (decB n).size := by
  have key : ∀ (f m : Nat), m < 10 ^ f → (dec10 m).length ≤ f ∧ (0 < m → 1 ≤ (dec10 m).length) := fun f => by
    induction f with
    | zero => intro m hm; have : m = 0 := by simp at hm; exact hm
              subst this; exact ⟨by rw [dec10]; simp, fun h => by omega⟩
    | succ f ih =>
      intro m hm
      by_cases h0 : m = 0
      · subst h0; exact ⟨by rw [dec10]; simp, fun h => by omega⟩
      · have hd : m / 10 < 10 ^ f := by
          rw [Nat.pow_succ] at hm
          exact Nat.div_lt_of_lt_mul (by omega)
        have := (ih (m / 10) hd).1
        rw [dec10_step (by omega), List.length_append]
        exact ⟨by simp; omega, fun _ => by simp⟩
  have hk := key 4 n (by omega)
  have hs : (decB n).size = (decL n).length := List.size_toArray
  rw [hs]
  unfold decL
  by_cases h0 : n = 0
  · rw [if_pos h0]; simp
  · rw [if_neg h0]; exact ⟨hk.1, hk.2 (by omega)⟩
theorem fmtL_size {x : Ltr} (h : x.id ≤ 9999) (hc : x.code.size = 7) : (fmtL x).size ≤ 12 ∧ 1 ≤ (fmtL x).size := by
  have := dec10_size (n := x.id.toNat) (by omega)
  unfold fmtL
  rw [ByteArray.size_append, ByteArray.size_append, hc]
  show _ + 1 + 7 ≤ 12 ∧ 1 ≤ _ + 1 + 7
  omega
def spT : ByteArray := ⟨#[32]⟩
/-- A batch as a text; nothing if it is none. -/
def fmtB (xs : List Ltr) : ByteArray := if okB xs = true then (if xs.length = 0 then ⟨#[45]⟩ else joinT (xs.map fmtL) spT) else ⟨#[]⟩
theorem fmtB_no {xs : List Ltr} (h : okB xs = false) : fmtB xs = ⟨#[]⟩ := by unfold fmtB; rw [h]; rfl
theorem fmtB_empty {xs : List Ltr} (h : okB xs = true) (h0 : xs.length = 0) : fmtB xs = ⟨#[45]⟩ := by unfold fmtB; rw [if_pos h, if_pos h0]
theorem fmtB_some {xs : List Ltr} (h : okB xs = true) (h0 : xs.length ≠ 0) : fmtB xs = joinT (xs.map fmtL) spT := by unfold fmtB; rw [if_pos h, if_neg h0]
theorem okB_fmt {xs : List Ltr} (h : okB xs = true) : ∀ p ∈ xs.map fmtL, p.size ≤ 12 ∧ 1 ≤ p.size := fun p hp => by
  obtain ⟨x, hx, rfl⟩ := List.mem_map.1 hp
  obtain ⟨k, hk, rfl⟩ := List.getElem_of_mem hx
  have h1 := (okB_iff.1 h).2 k hk
  have h2 := h1.2.2.1
  unfold isCode at h2
  rw [Bool.and_eq_true, beq_iff_eq] at h2
  exact fmtL_size h1.2.1 h2.1
theorem fmtB_size (xs : List Ltr) : (fmtB xs).size ≤ 1000 := by
  cases h : okB xs
  · rw [fmtB_no h]; exact Nat.zero_le _
  · by_cases h0 : xs.length = 0
    · rw [fmtB_empty h h0]; exact (by decide : (1 : Nat) ≤ 1000)
    · rw [fmtB_some h h0]
      have h1 := joinT_size (xs.map fmtL) spT 12 fun p hp => (okB_fmt h p hp).1
      have h2 := (okB_iff.1 h).1
      rw [List.length_map] at h1
      have h3 : xs.length * (12 + spT.size) ≤ 60 * 13 := Nat.mul_le_mul h2 (Nat.le_refl _)
      omega
end Go.Proofs.YtpinkbodbedajaaGreatDoor
