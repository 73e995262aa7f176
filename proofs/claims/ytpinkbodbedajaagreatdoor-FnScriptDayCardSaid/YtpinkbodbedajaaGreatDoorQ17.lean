/- RF -/
import Derived.RangeFuncNested
import Derived.RangeFuncBound
import Derived.RangeFuncCalls
import Derived.RangeFuncLeaves
import Derived.RangeFuncBox
import Derived.Test.YtpinkbodbedajaaGreatDoorProg
namespace Go.Proofs.YtpinkbodbedajaaGreatDoor
open Go.RowKit

section
variable {F : Fence} {n : Nat} {P : Program} {β α : Type}

/-- What is said bears a turn of the iterator's own cell z, new blocks, and a turn of a block from B on that holds no cells. -/
def Bears (B z : Nat) (I : β → World → Prop) : Prop :=
  ∀ s A C row, I s A → A.grownBy C row → (∀ r, row = some r → r = z ∨ B ≤ r ∧ ∃ o : Obj, A.heap[r]? = some o ∧ o.isCells = false) → I s C
theorem Bears.put {B z : Nat} {I : β → World → Prop} (h : Bears B z I) {s : β} {W : World} {l : Nat} {o : Obj} (o' : Obj) (hs : I s W) (hB : B ≤ l) (hl : W.heap[l]? = some o) (ho : o.isCells = false) : I s (W.putObj l o') :=
  h s W _ (some l) hs (grownBy_putObj' W l o') fun r e => by cases e; exact .inr ⟨hB, o, hl, ho⟩
theorem Bears.new {B z : Nat} {I : β → World → Prop} (h : Bears B z I) {s : β} {W : World} (o : Obj) (hs : I s W) : I s (W.alloc o) :=
  h s W _ none hs (World.grownBy_alloc W o none) fun r e => by cases e
/-- .. of the iterator's own cell alone. -/
def Still (z : Nat) (J : β → World → Prop) : Prop := ∀ s A C row, J s A → A.grownBy C row → (∀ r, row = some r → r = z) → J s C
/-- How a round is left. -/
def roundEnd (C : List Nat) (I Ix : List α → World → Prop) (xs : List α) (W : World) : Exit → Act → World → Prop
  | .normal, _, W' => KeepsOthers W W' ∧ (∀ k ∈ C, W'.heap[k]? = W.heap[k]?) ∧ I xs W'
  | .ret, _, W' => KeepsOthers W W' ∧ Ix xs W'
  | _, _, _ => False
/-- The iterator's word: over whatever a caller says that bears the turns of its cell. -/
def IterZ (F : Fence) (n : Nat) (P : Program) (gf : Nat) (lb : Array Value) (encs : α → Array Value) (R : α → Prop) (S Sp : List α → Prop) (N z : Nat) (C : List Nat) (w : World) : Prop :=
  ∀ (l : Nat) (J Jx : List α → World → Prop), Still z J → Still z Jx →
    (∀ pre x W1, J pre W1 → pre.length < N → R x → YieldAt F (n - 1) P l (encs x) W1 fun e W' =>
      (e = .returned (.bool true) ∧ J (pre ++ [x]) W' ∧ (W1.heap.size ≤ W'.heap.size ∧ ∀ k ∈ C, W'.heap[k]? = W1.heap[k]?)) ∨ (e = .returned (.bool false) ∧ Jx (pre ++ [x]) W')) →
    ∀ W, w.heap.size ≤ W.heap.size → (∀ k ∈ C, W.heap[k]? = w.heap[k]?) → J [] W →
    CallsIn F n P gf (#[.func (.yield l) #[] #[]] ++ lb) W fun e W' => (∃ v, e = .returned v) ∧ ((∃ xs, S xs ∧ J xs W') ∨ ∃ pre, Sp pre ∧ Jx pre W')

theorem grownBy_same {A C : World} {row : Option Nat} {l : Nat} {o : Obj} (h : A.heap[l]? = some o) (hg : A.grownBy C row) (hne : row ≠ some l) : C.heap[l]? = some o :=
  (hg.block l (Array.getElem?_eq_some_iff.1 h).1 fun e => hne e.symm).trans h

set_option maxHeartbeats 1000000 in
theorem range_iterZ {g : Operand} {ps : Array Tmp} {assign body : Code} {Q : Exit → Act → World → Prop} {a : Act} {w : World}
    (hro : F.round = none) (h1 : 1 ≤ n) {gf : Nat} {lb : Array Value} (hg : a.eval g = .func (.func gf) #[] lb) (hFg : F.fn gf) (eg : ∀ args w, (callFunc gf args).run P w = .ok (.enter gf args) w)
    {encs : α → Array Value} {R : α → Prop} {S Sp : List α → Prop} {N z : Nat} {C : List Nat} (hseq : IterZ F (n - 1) P gf lb encs R S Sp N z C w) (hC : ∀ k ∈ C, k < w.heap.size) (hz : z < w.heap.size) (hps : ∀ x, (encs x).size = ps.size)
    (I Ix : List α → World → Prop) (hI : Bears w.heap.size z I) (hIx : Bears w.heap.size z Ix) (h0 : I [] w) (a₁ : α → Act)
    (hassign : ∀ (l : Nat) (x : α) (W : World) (K : Act → World → Prop), K (a₁ x) W →
      assign.wpIn (F.inRound l) (n - 1 - 1) P (Exit.then K (fun _ _ _ => False)) { tmps := (ps.zip (encs x)).foldl (fun t (p, v) => t.setIfInBounds p v) a.tmps, defers := [] } W)
    (hbody : ∀ (l : Nat) (pre : List α) (x : α) (W : World), I pre W → pre.length < N → R x → body.wpIn (F.inRound l) (n - 1 - 1) P (roundEnd C I Ix (pre ++ [x]) W) (a₁ x) W)
    (hdone : ∀ (D : Nat) (xs : List α) (W : World), w.heap.size ≤ D → S xs → I xs W → W.heap[D]? = some (.deferred (some [])) → Q .normal { a with defers := { target := .collected D, args := #[] } :: a.defers } W)
    (hstop : ∀ (D : Nat) (pre : List α) (W : World), w.heap.size ≤ D → Sp pre → Ix pre W → W.heap[D]? = some (.deferred (some [])) → Code.ret.wpIn F n P Q { a with defers := { target := .collected D, args := #[] } :: a.defers } W) :
    (Code.rangeFunc g ps assign body).wpIn F n P Q a w := by
  refine wpIn_rangeFunc fun fn hfn => ?_
  rw [hro]
  -- the loop's record, and the two blocks that the statement lays
  let rec_ : LoopState → Option Code → Loop := fun st pe => { state := st, pending := pe, fn, tmps := a.tmps, params := ps, assign, body, defers := w.heap.size }
  obtain ⟨W1, hW1⟩ : ∃ W1, W1 = (w.alloc (.deferred (some []))).alloc (.loop (rec_ .ready none)) := ⟨_, rfl⟩
  have hL1 : W1.heap[w.heap.size + 1]? = some (.loop (rec_ .ready none)) := by
    have := World.alloc_heap_new (w.alloc (.deferred (some []))) (.loop (rec_ .ready none))
    rwa [World.size_alloc, ← hW1] at this
  have hK1 : W1.heap[w.heap.size]? = some (.deferred (some [])) := by
    rw [hW1]; exact (Below.heap_alloc _ _ _ (by simp)).trans (World.alloc_heap_new w _)
  have hI1 : I [] W1 := by rw [hW1]; exact hI.new _ (hI.new _ h0)
  have hC1 : ∀ k ∈ C, W1.heap[k]? = w.heap[k]? := fun k hk => by
    have := hC k hk
    rw [hW1]; exact (Below.heap_alloc _ _ _ (by simp; omega)).trans (Below.heap_alloc _ _ _ this)
  have hs1 : w.heap.size ≤ W1.heap.size := by rw [hW1]; simp; omega
  refine ⟨w.heap.size + 1, [{ target := .collected w.heap.size, args := #[] }], W1, { target := .fn (.func gf) lb, args := #[.func (.yield (w.heap.size + 1)) #[] #[]] }, W1, gf,
    #[.func (.yield (w.heap.size + 1)) #[] #[]] ++ lb, W1, ?_, ?_, ?_, ?_, fun _ => h1, ?_⟩
  · rw [hW1]; exact run_enterLoop_outer _ _ _ _ _
  · simp only [resolve, hg]
    simp [go_sem]
  · intro f' hf'; simp [Target.leads] at hf'; subst hf'; exact hFg
  · simp [invoke, go_sem, eg]
  · -- between two rounds: the caller's word, the record ready, the block for deferred calls open
    let J : List α → World → Prop := fun pre W => I pre W ∧ W.heap[w.heap.size + 1]? = some (.loop (rec_ .ready none)) ∧ W.heap[w.heap.size]? = some (.deferred (some []))
    let Jx : List α → World → Prop := fun pre W => Ix pre W ∧ W.heap[w.heap.size + 1]? = some (.loop (rec_ .done (some .ret))) ∧ W.heap[w.heap.size]? = some (.deferred (some []))
    have hJ : Still z J := fun s A X row hs hg' hr => by
      have ne1 : row ≠ some (w.heap.size + 1) := fun e => by have := hr _ e; omega
      have ne0 : row ≠ some w.heap.size := fun e => by have := hr _ e; omega
      exact ⟨hI s A X row hs.1 hg' fun r e => .inl (hr r e), grownBy_same hs.2.1 hg' ne1, grownBy_same hs.2.2 hg' ne0⟩
    have hJx : Still z Jx := fun s A X row hs hg' hr => by
      have ne1 : row ≠ some (w.heap.size + 1) := fun e => by have := hr _ e; omega
      have ne0 : row ≠ some w.heap.size := fun e => by have := hr _ e; omega
      exact ⟨hIx s A X row hs.1 hg' fun r e => .inl (hr r e), grownBy_same hs.2.1 hg' ne1, grownBy_same hs.2.2 hg' ne0⟩
    refine (hseq (w.heap.size + 1) J Jx hJ hJx ?_ W1 hs1 hC1 ⟨hI1, hL1, hK1⟩).mono ?_
    · rintro pre x W ⟨hi, hl, hk⟩ hlen hRx
      have hlt : w.heap.size + 1 < W.heap.size := (Array.getElem?_eq_some_iff.1 hl).1
      have hy := run_yield (P := P) (args := encs x) hl (hps x)
      refine ⟨fn, _, assign, body, hy, roundIn_of_wpIn hfn (hassign _ x W _ ⟨_, run_beginRound hl rfl, ?_⟩)⟩
      obtain ⟨W2, hW2⟩ : ∃ W2, W2 = W.putObj (w.heap.size + 1) (.loop (rec_ .busy none)) := ⟨_, rfl⟩
      have hl2 : W2.heap[w.heap.size + 1]? = some (.loop (rec_ .busy none)) := by rw [hW2]; exact World.putObj_heap_same hlt
      have hk2 : W2.heap[w.heap.size]? = some (.deferred (some [])) := by rw [hW2]; exact (World.putObj_heap_other (by omega)).trans hk
      have hi2 : I pre W2 := by rw [hW2]; exact hI.put _ hi (by omega) hl rfl
      have hc2 : ∀ k ∈ C, W2.heap[k]? = W.heap[k]? := fun k hk' => by have := hC k hk'; rw [hW2]; exact World.putObj_heap_other (by omega)
      have hs2 : W2.heap.size = W.heap.size := by rw [hW2]; simp
      show body.wpIn _ _ _ _ _ (W.putObj (w.heap.size + 1) (.loop (rec_ .busy none)))
      rw [← hW2]
      refine wpIn_mono (hbody _ pre x W2 hi2 hlen hRx) ?_
      intro e a3 W3 hp
      cases e with
      | normal =>
        obtain ⟨hk3, hc3, hi3⟩ := hp
        have hl3 := hk3.same _ _ hl2 rfl
        have hd3 := hk3.same _ _ hk2 rfl
        refine ⟨_, _, run_endRound (P := P) none hl3, .inl ⟨rfl, ⟨hI.put _ hi3 (by omega) hl3 rfl, World.putObj_heap_same (Array.getElem?_eq_some_iff.1 hl3).1, (World.putObj_heap_other (by omega)).trans hd3⟩, ?_, fun k hk' => ?_⟩⟩
        · have := hk3.1
          simp
          omega
        · have := hC k hk'
          exact (World.putObj_heap_other (by omega)).trans ((hc3 k hk').trans (hc2 k hk'))
      | ret =>
        obtain ⟨hk3, hi3⟩ := hp
        have hl3 := hk3.same _ _ hl2 rfl
        have hd3 := hk3.same _ _ hk2 rfl
        exact ⟨_, _, run_endRound (P := P) (some .ret) hl3, .inr ⟨rfl, hIx.put _ hi3 (by omega) hl3 rfl, World.putObj_heap_same (Array.getElem?_eq_some_iff.1 hl3).1, (World.putObj_heap_other (by omega)).trans hd3⟩⟩
      | exit id => exact (hp : False).elim
      | goto t => exact (hp : False).elim
      | panic ch => exact (hp : False).elim
      | outgrown => exact (hp : False).elim
    · rintro e W2 ⟨⟨v, rfl⟩, (⟨xs, hS, hi, hl, hk⟩ | ⟨pre, hSp, hi, hl, hk⟩)⟩
      · exact ⟨none, _, run_endLoop (P := P) hl (by simp [rec_]), hdone _ xs _ (Nat.le_refl _) hS (hI.put _ hi (by omega) hl rfl) ((World.putObj_heap_other (by omega)).trans hk)⟩
      · exact ⟨some .ret, _, run_endLoop (P := P) hl (by simp [rec_]), hstop _ pre _ (Nat.le_refl _) hSp (hIx.put _ hi (by omega) hl rfl) ((World.putObj_heap_other (by omega)).trans hk)⟩
end

end Go.Proofs.YtpinkbodbedajaaGreatDoor
