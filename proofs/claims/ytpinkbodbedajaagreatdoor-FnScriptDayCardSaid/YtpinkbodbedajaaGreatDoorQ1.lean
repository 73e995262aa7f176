/- W0 A1 L0 E1 E4 W1 L1 L2 -/
import Derived.WalkKit
import Derived.WalkSpells
import Derived.WalkLawsBesides
import Derived.Lib.Hide
import Derived.Maps.AppendAt
import Derived.Deep.AppendLies
import Derived.Deep.Draws
import Derived.WideShapes
import Derived.Test.YtpinkbodbedajaaGreatDoorRows
import Derived.Deep.QuietTactic
import Derived.BigQuiet
import Derived.StillTailTactics
import Derived.Deep.RegionHeld3
import Derived.Handy
import Derived.Laws.StructEq
namespace Go.Proofs.YtpinkbodbedajaaGreatDoor
open Go.RowKit

theorem ret_bool {a b : Bool} (h : a = b) : Ending.returned (.bool a) = .returned (.bool b) := by rw [h]
theorem ret_int {k : IntKind} {a b : Int} (h : a = b) : Ending.returned (.int k a) = .returned (.int k b) := by rw [h]
theorem ret_str {a b : ByteArray} (h : a = b) : Ending.returned (.string a) = .returned (.string b) := by rw [h]

theorem toList_inj {s t : ByteArray} : s.toList = t.toList ↔ s = t :=
  ⟨fun h => by rw [ByteArray.toList_eq, ByteArray.toList_eq] at h; exact WideShapes.bytes_inj h, fun h => by rw [h]⟩
/-- Go's '==' on strings, as the walk spells it. -/
def sEq (s t : ByteArray) : Bool := s.toList == t.toList
theorem sEq_iff {s t : ByteArray} : sEq s t = true ↔ s = t := by unfold sEq; rw [beq_iff_eq, toList_inj]
theorem sEq_refl (s : ByteArray) : sEq s s = true := sEq_iff.2 rfl
theorem sEq_false {s t : ByteArray} : sEq s t = false ↔ s ≠ t := by rw [← Bool.not_eq_true, sEq_iff]

/-- Two lists are alike, element by element. -/
def eqBy {α β : Type} (p : α → β → Bool) : List α → List β → Bool
  | [], [] => true
  | x :: xs, y :: ys => p x y && eqBy p xs ys
  | _, _ => false
theorem eqBy_len {α β : Type} {p : α → β → Bool} : ∀ {xs : List α} {ys : List β}, xs.length ≠ ys.length → eqBy p xs ys = false
  | [], [], h => absurd rfl h
  | [], _ :: _, _ => rfl
  | _ :: _, [], _ => rfl
  | x :: xs, y :: ys, h => by simp [eqBy, eqBy_len (p := p) (xs := xs) (ys := ys) (by simpa using h)]
theorem eqBy_bad {α β : Type} {p : α → β → Bool} : ∀ {xs : List α} {ys : List β} (k : Nat) (h1 : k < xs.length) (h2 : k < ys.length), p xs[k] ys[k] = false → eqBy p xs ys = false
  | [], _, k, h1, _, _ => absurd h1 (Nat.not_lt_zero k)
  | _ :: _, [], k, _, h2, _ => absurd h2 (Nat.not_lt_zero k)
  | x :: xs, y :: ys, 0, _, _, h => by simp at h; simp [eqBy, h]
  | x :: xs, y :: ys, k + 1, h1, h2, h => by simp [eqBy, eqBy_bad (p := p) (xs := xs) (ys := ys) k (by simpa using h1) (by simpa using h2) (by simpa using h)]
theorem eqBy_good {α β : Type} {p : α → β → Bool} : ∀ {xs : List α} {ys : List β}, xs.length = ys.length → (∀ k (h1 : k < xs.length) (h2 : k < ys.length), p xs[k] ys[k] = true) → eqBy p xs ys = true
  | [], [], _, _ => rfl
  | [], _ :: _, h, _ => by simp at h
  | _ :: _, [], h, _ => by simp at h
  | x :: xs, y :: ys, h, hp => by
    simp only [eqBy, Bool.and_eq_true]
    exact ⟨hp 0 (by simp) (by simp), eqBy_good (by simpa using h) fun k h1 h2 => hp (k + 1) (by simpa using h1) (by simpa using h2)⟩
theorem eqBy_iff {α : Type} {p : α → α → Bool} (hp : ∀ x y, p x y = true ↔ x = y) : ∀ {xs ys : List α}, eqBy p xs ys = true ↔ xs = ys
  | [], [] => by simp [eqBy]
  | [], _ :: _ => by simp [eqBy]
  | _ :: _, [] => by simp [eqBy]
  | x :: xs, y :: ys => by simp [eqBy, hp, eqBy_iff hp (xs := xs) (ys := ys)]

theorem block_of_add (a : Addr) (n : Nat) : (a.add n).block = a.block := by unfold Addr.add; split <;> rfl
theorem add_lit (b o n : Nat) : (⟨b, o, none⟩ : Addr).add n = ⟨b, o + n, none⟩ := by unfold Addr.add; split <;> simp_all

/-- How values of a Lean type lie in cells: 'el w B x cs': in the world w, below block B, the cells cs hold x. -/
class El (α : Type) where
  size : Nat
  el : World → Nat → α → List Value → Prop
  len : ∀ {w B x cs}, el w B x cs → cs.length = size
  more : ∀ {w B B' x cs}, el w B x cs → B ≤ B' → el w B' x cs
  keep : ∀ {w w' B x cs}, el w B x cs → (∀ p : Addr, p.block < B → w'.cell? p = w.cell? p) → el w' B x cs
  one : ∀ {w B x cs}, el w B x cs → ∀ u ∈ cs, u.oneCell' = true

/-- The row at the address A reads as the list xs, below block B. -/
def rdA {α : Type} [El α] (w : World) (B : Nat) (A : Option Addr) (xs : List α) : Prop :=
  ∀ k (h : k < xs.length), ∃ b o cs, A = some ⟨b, o, none⟩ ∧ b < B ∧ El.el w B xs[k] cs ∧ ∀ j u, cs[j]? = some u → w.cell? ⟨b, o + (k * El.size α + j), none⟩ = some u
/-- The slice value v reads as the list xs, below block B. -/
def rd {α : Type} [El α] (w : World) (B : Nat) (v : Value) (xs : List α) : Prop :=
  ∃ (A : Option Addr) (n c : Nat), v = .slice A n c ∧ n = xs.length ∧ n ≤ c ∧ c ≤ maxLen ∧ rdA w B A xs

section
variable {α : Type} [El α] {w w' : World} {B B' : Nat} {A : Option Addr} {v : Value} {xs : List α}

theorem rdA.keep (h : rdA w B A xs) (hk : ∀ p : Addr, p.block < B → w'.cell? p = w.cell? p) : rdA w' B A xs := fun k hl => by
  obtain ⟨b, o, cs, hA, hb, he, hc⟩ := h k hl
  exact ⟨b, o, cs, hA, hb, El.keep he hk, fun j u hu => (hk _ hb).trans (hc j u hu)⟩
theorem rdA.more (h : rdA w B A xs) (hB : B ≤ B') : rdA w B' A xs := fun k hl => by
  obtain ⟨b, o, cs, hA, hb, he, hc⟩ := h k hl
  exact ⟨b, o, cs, hA, Nat.lt_of_lt_of_le hb hB, El.more he hB, hc⟩
theorem rdA.below (h : rdA w B A xs) (hb : Below B w w') : rdA w' B A xs := h.keep fun _ hp => hb.cell hp
theorem rdA.nil_ : rdA w B A ([] : List α) := fun k h => absurd h (Nat.not_lt_zero k)
theorem rd.keep (h : rd w B v xs) (hk : ∀ p : Addr, p.block < B → w'.cell? p = w.cell? p) : rd w' B v xs := by
  obtain ⟨A, n, c, h1, h2, h3, h4, h5⟩ := h
  exact ⟨A, n, c, h1, h2, h3, h4, h5.keep hk⟩
theorem rd.more (h : rd w B v xs) (hB : B ≤ B') : rd w B' v xs := by
  obtain ⟨A, n, c, h1, h2, h3, h4, h5⟩ := h
  exact ⟨A, n, c, h1, h2, h3, h4, h5.more hB⟩
theorem rd.below (h : rd w B v xs) (hb : Below B w w') : rd w' B v xs := h.keep fun _ hp => hb.cell hp
/-- What was read in an elder world is read in the younger one, below its own size. -/
theorem rd.on (h : rd w w.heap.size v xs) (hb : Below w.heap.size w w') : rd w' w'.heap.size v xs := (h.below hb).more hb.size
theorem rdA.on (h : rdA w w.heap.size A xs) (hb : Below w.heap.size w w') : rdA w' w'.heap.size A xs := (h.below hb).more hb.size
theorem rd.nil_ : rd w B (.slice none 0 0) ([] : List α) := ⟨none, 0, 0, rfl, rfl, Nat.le_refl _, Nat.zero_le _, rdA.nil_⟩
theorem rd.mk {n c : Nat} (hn : n = xs.length) (hc : n ≤ c) (hm : c ≤ maxLen) (h : rdA w B A xs) : rd w B (.slice A n c) xs := ⟨A, n, c, rfl, hn, hc, hm, h⟩
theorem rdA.take (h : rdA w B A xs) (k : Nat) : rdA w B A (xs.take k) := fun j hj => by
  have hj' : j < xs.length := by simp at hj; omega
  obtain ⟨b, o, cs, hA, hb, he, hc⟩ := h j hj'
  exact ⟨b, o, cs, hA, hb, by simpa using he, hc⟩
theorem rd.take {n c : Nat} {A : Option Addr} (h : rd w B (.slice A n c) xs) {k : Nat} (hk : k ≤ xs.length) : rd w B (.slice A k c) (xs.take k) := by
  obtain ⟨A', n', c', h1, h2, h3, h4, h5⟩ := h
  injection h1 with e1 e2 e3
  subst e1 e2 e3
  exact ⟨A, k, c, rfl, by simp; omega, by omega, h4, h5.take k⟩
theorem rdA.drop (h : rdA w B A xs) (k : Nat) : rdA w B (A.map (·.add (k * El.size α))) (xs.drop k) := fun j hj => by
  have hj' : k + j < xs.length := by simp at hj; omega
  obtain ⟨b, o, cs, hA, hb, he, hc⟩ := h (k + j) hj'
  subst hA
  refine ⟨b, o + k * El.size α, cs, by simp [add_lit], hb, by simpa using he, fun i u hu => ?_⟩
  rw [show o + k * El.size α + (j * El.size α + i) = o + ((k + j) * El.size α + i) by rw [Nat.add_mul]; omega]
  exact hc i u hu
/-- 's[k:]' as the walk spells it. -/
theorem rd.drop {n c : Nat} {A : Option Addr} (h : rd w B (.slice A n c) xs) {k : Nat} (hk : k ≤ xs.length) :
    rd w B (.slice (if c = k then A else A.map (·.add (k * El.size α))) (n - k) (c - k)) (xs.drop k) := by
  obtain ⟨A', n', c', h1, h2, h3, h4, h5⟩ := h
  injection h1 with e1 e2 e3
  subst e1 e2 e3
  refine ⟨_, _, _, rfl, by simp; omega, by omega, by omega, ?_⟩
  by_cases e : c = k
  · rw [if_pos e]
    intro j hj
    simp at hj
    omega
  · rw [if_neg e]
    exact h5.drop k
theorem rd.len {n c : Nat} {A : Option Addr} (h : rd w B (.slice A n c) xs) : n = xs.length := by
  obtain ⟨A', n', c', h1, h2, h3, h4, h5⟩ := h
  injection h1 with e1 e2 e3
  subst e1 e2 e3
  exact h2
end

theorem below_drewN {B : Nat} {a w : World} (h : Below B a w) (n : Nat) : Below B a (w.drewN n) := ⟨h.os, h.tape, h.output, h.size, h.block⟩
/-- Cells of a new block. -/
theorem cell_new (w : World) (cs : Array Value) (T : TypeId) (i : Nat) : (w.alloc (.cells cs T)).cell? ⟨w.heap.size, i, none⟩ = cs[i]? := by
  rw [cell_of_row _ _ _ _ _ _ (heap_alloc_new w _)]

/-- A row of the call's own reads as the list xs: its block lies from base on. -/
def own {α : Type} [El α] (T : TypeId) (base : Nat) (w : World) (v : Value) (xs : List α) : Prop :=
  ∃ css : List (List Value), w.ownsRow base T (El.size α) v xs.length css.flatten ∧ css.length = xs.length ∧ ∀ k (h : k < xs.length) (h' : k < css.length), El.el w w.heap.size xs[k] css[k]

theorem flatten_length {α : Type} {n : Nat} : ∀ {l : List (List α)}, (∀ x ∈ l, x.length = n) → l.flatten.length = l.length * n
  | [], _ => by simp
  | x :: l, h => by
    rw [List.flatten_cons, List.length_append, flatten_length (fun y hy => h y (List.mem_cons_of_mem _ hy)), h x (List.mem_cons_self ..), List.length_cons, Nat.add_mul]
    omega
theorem flatten_get {α : Type} {n : Nat} : ∀ {l : List (List α)} (_ : ∀ x ∈ l, x.length = n) {k j : Nat} (hk : k < l.length) (_ : j < n), l.flatten[k * n + j]? = (l[k])[j]?
  | [], _, k, j, hk, _ => absurd hk (Nat.not_lt_zero k)
  | x :: l, h, 0, j, _, hj => by
    have hx := h x (List.mem_cons_self ..)
    simp only [Nat.zero_mul, Nat.zero_add, List.flatten_cons, List.getElem_cons_zero]
    rw [List.getElem?_append_left (by omega)]
  | x :: l, h, k + 1, j, hk, hj => by
    have hx := h x (List.mem_cons_self ..)
    simp only [List.flatten_cons, List.getElem_cons_succ]
    rw [List.getElem?_append_right (by rw [hx, Nat.add_mul]; omega), hx, show (k + 1) * n + j - n = k * n + j by rw [Nat.add_mul]; omega]
    exact flatten_get (fun y hy => h y (List.mem_cons_of_mem _ hy)) (by simpa using hk) hj

section
variable {α : Type} [El α] {T : TypeId} {base : Nat} {w w' : World} {v : Value} {xs : List α}

theorem own.nil_ (w : World) (T : TypeId) (base : Nat) : own T base w (.slice none 0 0) ([] : List α) := ⟨[], World.ownsRow_nil _ _ _ _, rfl, fun k h => absurd h (Nat.not_lt_zero k)⟩
theorem own.form (h : own T base w v xs) : v = .slice none 0 0 ∧ xs = [] ∨ ∃ g c, v = .slice (some ⟨g, 0, none⟩) xs.length c ∧ base ≤ g ∧ g < w.heap.size ∧ xs.length ≤ c ∧ c ≤ maxLen := by
  obtain ⟨css, ⟨h1, h2⟩, h3, h4⟩ := h
  rcases h2 with ⟨rfl, hn⟩ | ⟨g, cap, cur, rfl, hg, hh, hc, hm, _⟩
  · exact .inl ⟨rfl, List.eq_nil_of_length_eq_zero hn⟩
  · exact .inr ⟨g, cap, rfl, hg, (Array.getElem?_eq_some_iff.1 hh).1, hc, hm⟩
theorem own.rd (h : own T base w v xs) : rd w w.heap.size v xs := by
  have hf := h.form
  obtain ⟨css, ho, hl, he⟩ := h
  rcases hf with ⟨rfl, rfl⟩ | ⟨g, c, rfl, hg, hlt, hc, hm⟩
  · exact rd.nil_
  · refine ⟨_, _, _, rfl, rfl, hc, hm, fun k hk => ⟨g, 0, css[k]'(by omega), rfl, hlt, he k hk (by omega), fun j u hu => ?_⟩⟩
    have hcs : ∀ x ∈ css, x.length = El.size α := fun x hx => by
      obtain ⟨i, hi, rfl⟩ := List.getElem_of_mem hx
      exact El.len (he i (by omega) hi)
    have hj : j < El.size α := by
      have := (List.getElem?_eq_some_iff.1 hu).1
      rw [hcs _ (List.getElem_mem ..)] at this
      exact this
    have := ho.cells (g := g) rfl (k * El.size α + j) u (by rw [flatten_get hcs (by omega) hj]; exact hu)
    rwa [add_lit] at this
theorem ownsRow_below {E : TypeId} {size n : Nat} {cs : List Value} (h : w.ownsRow base E size v n cs) (hb : Below w.heap.size w w') : w'.ownsRow base E size v n cs :=
  h.kept (row := none) ⟨hb.os, hb.tape, hb.output, hb.size, fun k hk _ => hb.block k hk⟩ (by cases hv : v.ownBlock <;> simp)
theorem own.below (h : own T base w v xs) (hb : Below w.heap.size w w') : own T base w' v xs := by
  obtain ⟨css, ho, hl, he⟩ := h
  exact ⟨css, ownsRow_below ho hb, hl, fun k h1 h2 => El.more (El.keep (he k h1 h2) fun _ hp => hb.cell hp) hb.size⟩
theorem own.base_ {base' : Nat} (h : own T base w v xs) (hb : base' ≤ base) : own T base' w v xs := by
  obtain ⟨css, ⟨h1, h2⟩, hl, he⟩ := h
  refine ⟨css, ⟨h1, ?_⟩, hl, he⟩
  rcases h2 with h2 | ⟨g, cap, cur, hv, hg, r⟩
  · exact .inl h2
  · exact .inr ⟨g, cap, cur, hv, Nat.le_trans hb hg, r⟩
theorem own.alloc (h : own T base w v xs) (o : Obj) : own T base (w.alloc o) v xs := h.below ((Below.refl _ _).alloc (Nat.le_refl _) o)
theorem own.drew (h : own T base w v xs) : own T base w.drew v xs := h.below (Below.refl _ _).drew
theorem own.blk (h : own T base w v xs) : ∀ k, v.ownBlock = some k → base ≤ k ∧ k < w.heap.size := by
  obtain ⟨css, ho, _⟩ := h
  exact ho.lt
end

/-- 'own' over flat cells: what an element holds does not hang on the world. -/
class Flat (α : Type) extends El α where
  free : ∀ {w w' B B' x cs}, toEl.el w B x cs → toEl.el w' B' x cs
theorem own.grown {α : Type} [Flat α] {T : TypeId} {base : Nat} {w w' : World} {v : Value} {xs : List α} {row : Option Nat} (h : own T base w v xs) (hg : w.grownBy w' row) (hne : v.ownBlock = none ∨ v.ownBlock ≠ row) : own T base w' v xs := by
  obtain ⟨css, ho, hl, he⟩ := h
  exact ⟨css, ho.kept hg hne, hl, fun k h1 h2 => Flat.free (he k h1 h2)⟩

/-- 'out = append(out, x)', x laid in a block of its own, or any one-element row. -/
theorem wpList_append1 {α : Type} [Flat α] {P : Program} {w : World} {ops : Array Oper} {rest : List Oper} {o : Oper} {a : Act} {Q : Exit → Act → World → Prop} (hgd : o.guard = none) (s x : Operand) (t : TypeId)
    (ho : o.op = .call { callee := .builtin .append, args := #[s, x], argTypes := #[t, t] })
    (base : Nat) (e : TypeId) (i : TypeInfo) (z : Value) (bytes : Nat) (ht : P.underlying t = some (.slice e)) (hi : P.info? e = some i) (hz : i.zero = some z)
    (hsize : i.size = El.size α) (hby : i.bytes = bytes) (hzs : z.cells.size = El.size α) (hsz : 0 < El.size α)
    (v : Value) (xs : List α) (y : α) (hs : a.eval s = v) (hown : own e base w v xs)
    (ad : Addr) (c : Nat) (cs : List Value) (hx : a.eval x = .slice (some ad) 1 c) (hel : El.el w w.heap.size y cs) (hnews : ∀ j u, cs[j]? = some u → w.cell? (ad.add j) = some u)
    (h63 : xs.length + 1 ≤ maxLen) (hbytes : (xs.length + 1) * bytes ≤ 140737488355328) (hbase : base ≤ w.heap.size)
    (h : ∀ v' w', own e base w' v' (xs ++ [y]) → w.grownBy w' v.ownBlock → (v'.ownBlock = v.ownBlock ∨ v'.ownBlock = some w.heap.size) → wpList P ops Q rest (a.put o.dst v') w') : wpList P ops Q (o :: rest) a w := by
  obtain ⟨css, hrow, hl, he⟩ := hown
  obtain ⟨v', w', hrun, h2, h3, _, h5⟩ := run_append_own_at (P := P) w base t o.type e i z (El.size α) bytes ht hi hz hsize hby hzs hsz v xs.length css.flatten hrow ad 1 c cs (by rw [El.len hel, Nat.one_mul]) hnews (El.one hel) h63 hbytes hbase
  refine wpList_plain hgd fun K hK => ?_
  unfold Oper.wp execOp
  simp only [ho, resolve, invoke, builtin, Sem.run_bind, Sem.run_pure, Result.andThen_ok, List.map_toArray, List.map_cons, List.map_nil, hs, hx, hrun]
  refine hK _ _ (h v' w' ⟨css ++ [cs], by simpa using h2, by simp [hl], fun k h1 h2 => ?_⟩ h3 h5)
  by_cases hk : k < xs.length
  · rw [List.getElem_append_left hk, List.getElem_append_left (by omega)]
    exact Flat.free (he k hk (by omega))
  · have hke : k = xs.length := by simp at h1; omega
    subst hke
    rw [List.getElem_append_right (Nat.le_refl _), List.getElem_append_right (by omega)]
    simpa [hl] using Flat.free hel

/-! ### 'make([]T, n)', filled element by element -/
theorem make_row {P : Program} (t e : TypeId) (i : TypeInfo) (z : Value) (ht : P.underlying t = some (.slice e)) (hi : P.info? e = some i) (hz : i.zero = some z)
    (n : Nat) (hbytes : i.bytes * n ≤ 281474976710656) (h63 : n ≤ 9223372036854775807) (w : World) :
    (Instr.makeSlice t (.int .i64 (n : Int)) (.int .i64 (n : Int))).run P w = .ok (.slice (some ⟨w.heap.size, 0, none⟩) n n) (w.alloc (.cells (madeCells z.cells (n * i.size)) e)) := by
  have hb : (i.bytes : Int) * (n : Int) ≤ 281474976710656 := by
    have h : ((i.bytes * n : Nat) : Int) ≤ 281474976710656 := by omega
    rwa [Int.natCast_mul] at h
  have hr := run_make (P := P) w t e i z ht hi hz .i64 .i64 n n (by omega) (by omega) hb (by omega)
  simp only [Int.toNat_natCast] at hr
  exact hr

/-- Block g is a row of n elements, of which the first k are those of xs. -/
def filled {α : Type} [El α] (T : TypeId) (w : World) (g n k : Nat) (xs : List α) : Prop :=
  ∃ cs : Array Value, w.heap[g]? = some (.cells cs T (0, 0)) ∧ cs.size = n * El.size α ∧
    ∀ i (h : i < xs.length), i < k → ∃ ecs, El.el w w.heap.size xs[i] ecs ∧ ∀ j u, ecs[j]? = some u → cs[i * El.size α + j]? = some u
section
variable {α : Type} [Flat α] {T : TypeId} {w w' : World} {g n k : Nat} {xs : List α}
theorem filled.lt (h : filled T w g n k xs) : g < w.heap.size := by
  obtain ⟨cs, h1, _⟩ := h
  exact (Array.getElem?_eq_some_iff.1 h1).1
theorem filled.below (h : filled T w g n k xs) (hb : Below w.heap.size w w') : filled T w' g n k xs := by
  have hlt := h.lt
  obtain ⟨cs, h1, h2, h3⟩ := h
  exact ⟨cs, (hb.block g hlt).trans h1, h2, fun i hi hk => by
    obtain ⟨ecs, he, hc⟩ := h3 i hi hk
    exact ⟨ecs, Flat.free he, hc⟩⟩
theorem filled.made (w : World) (T : TypeId) (cs : Array Value) (n : Nat) (hs : cs.size = n * El.size α) (xs : List α) : filled T (w.alloc (.cells cs T)) w.heap.size n 0 xs :=
  ⟨cs, heap_alloc_new w _, hs, fun i _ hk => absurd hk (Nat.not_lt_zero i)⟩
theorem filled.cell (h : filled T w g n k xs) {j : Nat} (hj : j < n * El.size α) : ∃ u, w.cell? ⟨g, j, none⟩ = some u := by
  obtain ⟨cs, h1, h2, _⟩ := h
  exact ⟨cs[j], by rw [cell_of_row _ _ _ _ _ _ h1]; exact Array.getElem?_eq_getElem (by omega)⟩
theorem filled.free (h : filled T w g n k xs) (j : Nat) : w.frozen? ⟨g, j, none⟩ = false := by
  obtain ⟨cs, h1, _⟩ := h
  simp [World.frozen?, h1]
/-- The cells ecs stored at element k. -/
def setAll (w : World) (g o : Nat) : List Value → World
  | [] => w
  | u :: us => setAll (w.setCell ⟨g, o, none⟩ u) g (o + 1) us
theorem setAll_row (T : TypeId) : ∀ (us : List Value) (w : World) (o : Nat) (cs : Array Value), w.heap[g]? = some (.cells cs T (0, 0)) → o + us.length ≤ cs.size →
    ∃ cs' : Array Value, (setAll w g o us).heap[g]? = some (.cells cs' T (0, 0)) ∧ cs'.size = cs.size ∧ (∀ j u, us[j]? = some u → cs'[o + j]? = some u) ∧ ∀ i, i < o ∨ o + us.length ≤ i → cs'[i]? = cs[i]?
  | [], w, o, cs, h, _ => ⟨cs, h, rfl, fun j u hu => by simp at hu, fun _ _ => rfl⟩
  | x :: us, w, o, cs, h, hl => by
    simp only [List.length_cons] at hl
    have h1 : (w.setCell ⟨g, o, none⟩ x).heap[g]? = some (.cells (cs.setIfInBounds o x) T (0, 0)) := by simp [World.setCell, Array.getElem?_modify, h]
    obtain ⟨cs', a1, a2, a3, a4⟩ := setAll_row T us (w.setCell ⟨g, o, none⟩ x) (o + 1) _ h1 (by simp; omega)
    refine ⟨cs', a1, by simpa using a2, fun j u hu => ?_, fun i hi => ?_⟩
    · cases j with
      | zero =>
        simp only [List.getElem?_cons_zero, Option.some.injEq] at hu
        subst hu
        rw [a4 _ (.inl (by omega)), Nat.add_zero, Array.getElem?_setIfInBounds, if_pos rfl, if_pos (by omega)]
      | succ j =>
        have := a3 j u (by simpa using hu)
        rwa [show o + (j + 1) = o + 1 + j by omega]
    · rw [a4 i (by simp at hi; omega), Array.getElem?_setIfInBounds, if_neg (by simp at hi; omega)]
theorem setAll_below (us : List Value) : ∀ (w : World) (o : Nat) (B : Nat), B ≤ g → Below B w (setAll w g o us) := by
  induction us with
  | nil => intro w o B _; exact Below.refl _ _
  | cons u us ih => intro w o B hB; exact ((Below.refl B w).setCell (p := ⟨g, o, none⟩) hB u).trans (ih _ _ _ hB)
theorem filled.step (h : filled T w g n k xs) (hk : k < xs.length) (hn : xs.length ≤ n) {ecs : List Value} (he : El.el w w.heap.size xs[k] ecs) : filled T (setAll w g (k * El.size α) ecs) g n (k + 1) xs := by
  obtain ⟨cs, h1, h2, h3⟩ := h
  have hle := El.len he
  have hkn : k * El.size α + El.size α ≤ n * El.size α := by
    rw [← Nat.succ_mul]
    exact Nat.mul_le_mul_right _ (by omega)
  obtain ⟨cs', a1, a2, a3, a4⟩ := setAll_row T ecs w (k * El.size α) cs h1 (by omega)
  refine ⟨cs', a1, a2.trans h2, fun i hi hik => ?_⟩
  by_cases hik' : i < k
  · obtain ⟨es, e1, e2⟩ := h3 i hi hik'
    refine ⟨es, Flat.free e1, fun j u hu => ?_⟩
    have hj : j < El.size α := by rw [← El.len e1]; exact (List.getElem?_eq_some_iff.1 hu).1
    have hm : i * El.size α + El.size α ≤ k * El.size α := by
      rw [← Nat.succ_mul]
      exact Nat.mul_le_mul_right _ (by omega)
    rw [a4 _ (.inl (by omega))]
    exact e2 j u hu
  · obtain rfl : i = k := by omega
    exact ⟨ecs, Flat.free he, a3⟩
theorem filled.own (h : filled T w g n n xs) (hn : n = xs.length) {base : Nat} (hb : base ≤ g) (hm : n ≤ maxLen) : own T base w (.slice (some ⟨g, 0, none⟩) n n) xs := by
  subst hn
  obtain ⟨cs, h1, h2, h3⟩ := h
  have hex : ∀ m, m ≤ xs.length → ∃ css : List (List Value), css.length = m ∧ (∀ i (hi : i < xs.length) (hi' : i < css.length), El.el w w.heap.size xs[i] css[i]) ∧ cs.toList.take (m * El.size α) = css.flatten := by
    intro m
    induction m with
    | zero => exact fun _ => ⟨[], rfl, fun i _ hi' => absurd hi' (Nat.not_lt_zero i), by simp⟩
    | succ m ih =>
      intro hml
      obtain ⟨css, c1, c2, c3⟩ := ih (by omega)
      obtain ⟨ecs, e1, e2⟩ := h3 m (by omega) (by omega)
      refine ⟨css ++ [ecs], by simp [c1], fun i hi hi' => ?_, ?_⟩
      · by_cases him : i < m
        · rw [List.getElem_append_left (by omega)]
          exact c2 i hi (by omega)
        · have hie : i = m := by simp at hi'; omega
          subst hie
          rw [List.getElem_append_right (by omega)]
          simpa [c1] using e1
      · have hle := El.len e1
        have hbd : (m + 1) * El.size α ≤ cs.size := by rw [h2]; exact Nat.mul_le_mul_right _ hml
        rw [List.flatten_append, ← c3, List.flatten_cons, List.flatten_nil, List.append_nil, Nat.succ_mul, List.take_add]
        congr 1
        apply List.ext_getElem?
        intro j
        by_cases hj : j < El.size α
        · rw [List.getElem?_take, if_pos hj, List.getElem?_drop]
          have hu : ecs[j]? = some (ecs[j]'(by omega)) := List.getElem?_eq_getElem _
          rw [hu, ← e2 j _ hu, Array.getElem?_toList]
        · rw [List.getElem?_eq_none (by simp; omega), List.getElem?_eq_none (by omega)]
  obtain ⟨css, c1, c2, c3⟩ := hex xs.length (Nat.le_refl _)
  exact ⟨css, ⟨by rw [← c3]; simp [h2], .inr ⟨g, xs.length, cs, rfl, hb, h1, Nat.le_refl _, hm, h2, c3⟩⟩, c1, c2⟩
end

end Go.Proofs.YtpinkbodbedajaaGreatDoor

namespace Go.Proofs.YtpinkbodbedajaaGreatDoor
open Go.RowKit

def dig (c : UInt8) : Bool := 48 ≤ c.toNat && c.toNat ≤ 57
def digs (l : List UInt8) : Bool := l.all dig
def isCode (s : ByteArray) : Bool := s.size == 7 && digs s.data.toList

theorem digs_take_succ (s : ByteArray) (k : Nat) (h : k < s.size) : digs (s.data.toList.take (k + 1)) = (digs (s.data.toList.take k) && dig s[k]) := by
  unfold digs
  rw [List.take_succ_eq_append_getElem (by simpa using h), List.all_append]
  simp; rfl
theorem digs_bad (s : ByteArray) (k : Nat) (h : k < s.size) (hd : dig s[k] = false) : digs s.data.toList = false := by
  unfold digs
  rw [List.all_eq_false]
  exact ⟨s[k], by simp [ByteArray.getElem_eq_getElem_data], by simpa using hd⟩

set_option maxHeartbeats 400000 in
theorem impl_allDigits (s : ByteArray) (w : World) (hs : s.size ≤ maxLen) :
    Calls Tryz.prog 143 #[.string s] w fun e w' => e = .returned (.bool (digs s.data.toList)) ∧ w = w' := by
  unfold maxLen at hs
  go_enter Tryz.func143, Tryz.ntmps143
  go_wp2
  go_loop [3] (fun i => ∃ k : Nat, k ≤ s.size ∧ i = .int .i64 k ∧ digs (s.data.toList.take k) = true) (fun i => s.size - (intOf i).toNat)
  case atStart => exact ⟨0, Nat.zero_le _, rfl, rfl⟩
  case round =>
    obtain ⟨k, hk, rfl, hd⟩ := hrel
    by_cases hlt : k < s.size
    · have hsn := digs_take_succ s k hlt
      have hbad := Lib.hid (digs_bad s k hlt)
      rw [hd, Bool.true_and] at hsn
      have HS := Lib.hid hsn
      clear hsn hd
      go_wp2
      · go_ret
        exact ⟨ret_bool (hbad.out (by unfold dig; simp; omega)).symm, rfl⟩
      · go_round
        case rel => exact ⟨k + 1, by omega, by go_num, by rw [HS.out]; unfold dig; simp; omega⟩
        case measure => simp [intOf]; omega
      · go_ret
        exact ⟨ret_bool (hbad.out (by unfold dig; simp; omega)).symm, rfl⟩
    · rw [List.take_of_length_le (by simp; omega)] at hd
      have HD := Lib.hid hd; clear hd
      go_wp2
      go_ret
      exact ⟨ret_bool HD.out.symm, rfl⟩

theorem impl_CodeValid (s : ByteArray) (w : World) (hs : s.size ≤ maxLen) :
    Calls Tryz.prog 75 #[.string s] w fun e w' => e = .returned (.bool (isCode s)) ∧ w = w' := by
  go_enter Tryz.func75, Tryz.ntmps75
  by_cases h7 : s.size = 7
  · go_wp2_with (go_at_call 143; refine (impl_allDigits _ _ hs).mono ?_; rintro e w' ⟨rfl, rfl⟩)
    go_ret
    exact ⟨ret_bool (by simp [isCode, h7]), rfl⟩
  · go_wp2
    go_ret
    exact ⟨ret_bool (by simp [isCode, h7]), rfl⟩

theorem spec_l1In (n a b : Int) (w : World) : Calls Tryz.prog 115 #[.int .i64 n, .int .i64 a, .int .i64 b] w fun e w' => e = .returned (.bool (decide (a ≤ n) && decide (n ≤ b))) ∧ w = w' := by
  go_enter Tryz.func115, Tryz.ntmps115
  by_cases h1 : a ≤ n
  · go_wp2
    go_ret
    exact ⟨ret_bool (by simp [h1]), rfl⟩
  · go_wp2
    go_ret
    exact ⟨ret_bool (by rw [decide_eq_false (p := a ≤ n) (by omega)]; rfl), rfl⟩

set_option maxHeartbeats 400000 in
theorem spec_DigitsValid (s : ByteArray) (w : World) (hs : s.size ≤ maxLen) :
    Calls Tryz.prog 155 #[.string s] w fun e w' => e = .returned (.bool (digs s.data.toList && decide (s.size ≤ 20))) ∧ w = w' := by
  unfold maxLen at hs
  go_enter Tryz.func155, Tryz.ntmps155
  go_wp2
  go_loop [3] (fun i => ∃ k : Nat, k ≤ s.size ∧ i = .int .i64 k ∧ digs (s.data.toList.take k) = true) (fun i => s.size - (intOf i).toNat)
  case atStart => exact ⟨0, Nat.zero_le _, rfl, rfl⟩
  case round =>
    obtain ⟨k, hk, rfl, hd⟩ := hrel
    by_cases hlt : k < s.size
    · have hsn := digs_take_succ s k hlt
      have hbad := Lib.hid (digs_bad s k hlt)
      rw [hd, Bool.true_and] at hsn
      have HS := Lib.hid hsn
      clear hsn hd
      go_wp2
      · go_ret
        exact ⟨ret_bool (by rw [hbad.out (by unfold dig; simp; omega)]; rfl), rfl⟩
      · go_round
        case rel => exact ⟨k + 1, by omega, by go_num, by rw [HS.out]; unfold dig; simp; omega⟩
        case measure => simp [intOf]; omega
      · go_ret
        exact ⟨ret_bool (by rw [hbad.out (by unfold dig; simp; omega)]; rfl), rfl⟩
    · rw [List.take_of_length_le (by simp; omega)] at hd
      have HD := Lib.hid hd; clear hd
      go_wp2
      go_ret
      exact ⟨ret_bool (by rw [HD.out, Bool.true_and]; congr 1; exact propext (by omega)), rfl⟩

theorem spec_CodeValid (s : ByteArray) (w : World) (hs : s.size ≤ maxLen) :
    Calls Tryz.prog 88 #[.string s] w fun e w' => e = .returned (.bool (isCode s)) ∧ w = w' := by
  go_enter Tryz.func88, Tryz.ntmps88
  cases hd : (digs s.data.toList && decide (s.size ≤ 20))
  · have hd' := Lib.hid hd; clear hd
    go_wp2_with (go_at_call 155; refine (spec_DigitsValid _ _ hs).mono ?_; rw [hd'.out]; rintro e w' ⟨rfl, rfl⟩)
    go_ret
    refine ⟨ret_bool ?_, rfl⟩
    have := hd'.out
    simp only [isCode, Bool.and_eq_false_iff, decide_eq_false_iff_not] at this ⊢
    rcases this with h | h
    · simp [h]
    · have h7 : s.size ≠ 7 := by omega
      simp [h7]
  · have hd' := Lib.hid hd; clear hd
    go_wp2_with (go_at_call 155; refine (spec_DigitsValid _ _ hs).mono ?_; rw [hd'.out]; rintro e w' ⟨rfl, rfl⟩)
    go_ret
    refine ⟨ret_bool ?_, rfl⟩
    have := hd'.out
    simp only [Bool.and_eq_true, decide_eq_true_iff] at this
    rw [Bool.eq_iff_iff]
    simp [isCode, this.1]
    try omega

end Go.Proofs.YtpinkbodbedajaaGreatDoor

namespace Go.Proofs.YtpinkbodbedajaaGreatDoor
open Go.RowKit

structure Ltr where
  id : Int
  code : ByteArray

def isI64 (n : Int) : Prop := -9223372036854775808 ≤ n ∧ n ≤ 9223372036854775807
def Ltr.ok (x : Ltr) : Prop := isI64 x.id ∧ x.code.size ≤ maxLen
def Ltr.cells (x : Ltr) : List Value := [.int .i64 x.id, .string x.code]

instance elLtr : El Ltr where
  size := 2
  el _ _ x cs := x.ok ∧ cs = x.cells
  len h := by rw [h.2]; rfl
  more h _ := h
  keep h _ := h
  one h := by rw [h.2]; intro u hu; simp [Ltr.cells] at hu; rcases hu with rfl | rfl <;> rfl
instance flatLtr : Flat Ltr where
  free h := h

theorem rdA.ltr {w : World} {B : Nat} {A : Option Addr} {xs : List Ltr} (h : rdA w B A xs) (k : Nat) (hk : k < xs.length) :
    ∃ b o, A = some ⟨b, o, none⟩ ∧ b < B ∧ (xs[k]).ok ∧ w.cell? ⟨b, o + k * 2, none⟩ = some (.int .i64 (xs[k]).id) ∧ w.cell? ⟨b, o + k * 2 + 1, none⟩ = some (.string (xs[k]).code) := by
  obtain ⟨b, o, cs, hA, hb, ⟨hok, rfl⟩, hc⟩ := h k hk
  exact ⟨b, o, hA, hb, hok, by simpa [Ltr.cells, El.size] using hc 0 _ rfl, by simpa [Ltr.cells, El.size, Nat.add_assoc] using hc 1 _ rfl⟩

def goodL (xs : List Ltr) (k : Nat) : Bool :=
  match xs[k]? with
  | none => false
  | some x => decide (1 ≤ x.id) && decide (x.id ≤ 9999) && isCode x.code && (xs.take k).all (fun y => y.id != x.id)
def okB (xs : List Ltr) : Bool := decide (xs.length ≤ 60) && (List.range xs.length).all (goodL xs)

theorem okB_bad {xs : List Ltr} {k : Nat} (hk : k < xs.length) (h : goodL xs k = false) : okB xs = false := by
  unfold okB
  rw [Bool.and_eq_false_iff]
  exact .inr (List.all_eq_false.2 ⟨k, by simpa using hk, by simp [h]⟩)
theorem okB_good {xs : List Ltr} (h60 : xs.length ≤ 60) (h : ∀ j, j < xs.length → goodL xs j = true) : okB xs = true := by
  unfold okB
  simp [h60]
  exact h
theorem goodL_of {xs : List Ltr} {k : Nat} (hk : k < xs.length) : goodL xs k = (decide (1 ≤ xs[k].id) && decide (xs[k].id ≤ 9999) && isCode xs[k].code && (xs.take k).all (fun y => y.id != xs[k].id)) := by
  unfold goodL
  rw [List.getElem?_eq_getElem hk]
theorem take_all_succ {α : Type} {p : α → Bool} (xs : List α) (m : Nat) (h : m < xs.length) : (xs.take (m + 1)).all p = ((xs.take m).all p && p xs[m]) := by
  rw [List.take_succ_eq_append_getElem h, List.all_append]; simp
theorem take_all_bad {α : Type} {p : α → Bool} (xs : List α) (m k : Nat) (h : m < xs.length) (hk : m < k) (hp : p xs[m] = false) : (xs.take k).all p = false := by
  rw [List.all_eq_false]
  refine ⟨xs[m], ?_, by simp [hp]⟩
  rw [List.mem_take_iff_getElem]
  exact ⟨m, by omega, rfl⟩
theorem okB_iff {xs : List Ltr} : okB xs = true ↔ xs.length ≤ 60 ∧ ∀ k (h : k < xs.length), 1 ≤ xs[k].id ∧ xs[k].id ≤ 9999 ∧ isCode xs[k].code = true ∧ ∀ j (hj : j < k), xs[j].id ≠ xs[k].id := by
  unfold okB
  rw [Bool.and_eq_true, decide_eq_true_iff, List.all_eq_true]
  refine and_congr Iff.rfl ⟨fun h k hk => ?_, fun h k hk => ?_⟩
  · have := h k (by simpa using hk)
    rw [goodL_of hk] at this
    simp only [Bool.and_eq_true, decide_eq_true_iff] at this
    refine ⟨this.1.1.1, this.1.1.2, this.1.2, fun j hj => ?_⟩
    have hh := List.all_eq_true.1 this.2 xs[j] (by rw [List.mem_take_iff_getElem]; exact ⟨j, by omega, rfl⟩)
    simpa using hh
  · have hk' : k < xs.length := by simpa using hk
    obtain ⟨h1, h2, h3, h4⟩ := h k hk'
    rw [goodL_of hk']
    simp only [Bool.and_eq_true, decide_eq_true_iff]
    refine ⟨⟨⟨h1, h2⟩, h3⟩, List.all_eq_true.2 fun y hy => ?_⟩
    rw [List.mem_take_iff_getElem] at hy
    obtain ⟨j, hj, rfl⟩ := hy
    simpa using h4 j (by omega)

end Go.Proofs.YtpinkbodbedajaaGreatDoor

namespace Go.Proofs.YtpinkbodbedajaaGreatDoor
open Go.RowKit




def ltrEq (x y : Ltr) : Bool := x.id == y.id && sEq x.code y.code
theorem ltrEq_iff (x y : Ltr) : ltrEq x y = true ↔ x = y := by
  cases x; cases y; simp [ltrEq, sEq_iff]



end Go.Proofs.YtpinkbodbedajaaGreatDoor

namespace Go.Proofs.YtpinkbodbedajaaGreatDoor
open Go.RowKit

theorem ltr_equalIn (a c : Int) (b d : ByteArray) (w : World) : (Op.equalIn 10000 89 (.agg #[.int .i64 a, .string b]) (.agg #[.int .i64 c, .string d])).run Tryz.prog w = .ok (ltrEq ⟨a, b⟩ ⟨c, d⟩) w := by
  have u3 := Tryz.underlying3
  have a3 := Tryz.isAgg3
  have z3 := Tryz.sizeOf3
  have u9 := Tryz.underlying9
  have a9 := Tryz.isAgg9
  have z9 := Tryz.sizeOf9
  have hS : Tryz.prog.underlying 89 = some (.struct (Tryz.prog.fieldsOf 89)) := by kernel_rfl
  rw [show (10000 : Nat) = 9999 + 1 from rfl, run_equalIn_agg w 9999 89 _ _ hS (by kernel_rfl)]
  simp only [Program.fieldsOf, Tryz.underlying89]
  go_simp
  unfold ltrEq sEq
  by_cases h1 : a = c <;> by_cases h2 : b.toList = d.toList <;> simp [h1, h2]
theorem ltr_neq (a c : Int) (b d : ByteArray) (w : World) : (binOp .neq 89 (.agg #[.int .i64 a, .string b]) (.agg #[.int .i64 c, .string d])).run Tryz.prog w = .ok (.bool (!ltrEq ⟨a, b⟩ ⟨c, d⟩)) w := by
  rw [run_neq_struct, ltr_equalIn]; rfl
theorem ltr_guard (op : BinOp) (x y : Operand) (xs ys : Array Value) (w : World) : (eqGuard op 89 x y (.agg xs) (.agg ys)).run Tryz.prog w = .ok () w := run_eqGuard_agg w op _ x y xs ys (by kernel_rfl)

set_option maxHeartbeats 400000 in
theorem laws_soBatch (v v' : Value) (xs ys : List Ltr) (w : World) (hv : rd w w.heap.size v xs) (hv' : rd w w.heap.size v' ys) :
    Calls Tryz.prog 36 #[v, v'] w fun e w' => e = .returned (.bool (eqBy ltrEq xs ys)) ∧ Below w.heap.size w w' := by
  obtain ⟨A, n, c, rfl, hn, hc, hm, hr⟩ := hv
  obtain ⟨A', n', c', rfl, hn', hc', hm', hr'⟩ := hv'
  subst hn hn'
  unfold maxLen at hm hm'
  have HR := Lib.hid hr; clear hr
  have HR' := Lib.hid hr'; clear hr'
  go_enter Tryz.func36, Tryz.ntmps36
  by_cases hl : xs.length = ys.length
  · have hl1 : ((xs.length : Int) != (ys.length : Int)) = false := by simp [hl]
    have HL := Lib.hid hl; clear hl
    go_wp2
    go_loopw [5] (fun i wr => ∃ k : Nat, k ≤ xs.length ∧ i = .int .i64 k ∧ Below w.heap.size w wr ∧ Hid (∀ j (h1 : j < xs.length) (h2 : j < ys.length), j < k → ltrEq xs[j] ys[j] = true)) (fun i _ => xs.length - (intOf i).toNat)
    case atStart => exact ⟨0, Nat.zero_le _, rfl, Below.refl _ _, fun j _ _ hj => absurd hj (Nat.not_lt_zero j)⟩
    case round =>
      obtain ⟨k, hk, rfl, hbl, HG⟩ := hrel
      obtain ⟨w1, rfl⟩ : ∃ w1 : World, w1 = wr := ⟨_, rfl⟩
      by_cases hlt : k < xs.length
      · have hlt' : k < ys.length := by rw [← HL.out]; exact hlt
        obtain ⟨b, o, rfl, hb, _, c1, c2⟩ := HR.out.ltr k hlt
        obtain ⟨b', o', rfl, hb', _, d1, d2⟩ := HR'.out.ltr k hlt'
        have hbad := Lib.hid (fun h => eqBy_bad (p := ltrEq) k hlt hlt' h)
        have HX : Hid (∀ h : ltrEq xs[k] ys[k] = true, ∀ j (h1 : j < xs.length) (h2 : j < ys.length), j < k + 1 → ltrEq xs[j] ys[j] = true) := fun h j h1 h2 hj => by
          by_cases hjk : j < k
          · exact HG.out j h1 h2 hjk
          · obtain rfl : j = k := by omega
            exact h
        generalize xs[k] = x at *
        generalize ys[k] = y at *
        have c1' : w1.cell? ⟨b, o + k * 2, none⟩ = some (.int .i64 x.id) := (hbl.cell (p := ⟨b, o + k * 2, none⟩) hb).trans c1
        have c2' : w1.cell? ⟨b, o + k * 2 + 1, none⟩ = some (.string x.code) := (hbl.cell (p := ⟨b, o + k * 2 + 1, none⟩) hb).trans c2
        have d1' : w1.cell? ⟨b', o' + k * 2, none⟩ = some (.int .i64 y.id) := (hbl.cell (p := ⟨b', o' + k * 2, none⟩) hb').trans d1
        have d2' : w1.cell? ⟨b', o' + k * 2 + 1, none⟩ = some (.string y.code) := (hbl.cell (p := ⟨b', o' + k * 2 + 1, none⟩) hb').trans d2
        clear c1 c2 d1 d2
        have hki : (k : Int) < (xs.length : Int) := by omega
        have hki' : (k : Int) < (ys.length : Int) := by omega
        have q1 := ltr_neq x.id y.id x.code y.code
        have q2 := ltr_guard
        cases he : ltrEq x y
        · have he' := Lib.hid he
          have he2 : ltrEq ⟨x.id, x.code⟩ ⟨y.id, y.code⟩ = false := he
          clear he
          go_wp2
          go_quiet (fail)
          go_wp2
          go_ret
          exact ⟨ret_bool (hbad.out he'.out).symm, below_drewN hbl _⟩
        · have he' := Lib.hid he
          have he2 : ltrEq ⟨x.id, x.code⟩ ⟨y.id, y.code⟩ = true := he
          clear he
          go_wp2
          go_quiet (fail)
          go_wp2
          go_roundw
          case rel => exact ⟨k + 1, by omega, by go_num, below_drewN hbl _, HX.out he'.out⟩
          case measure => simp [intOf]; omega
      · have HE := Lib.hid (show k = xs.length by omega)
        go_wp2
        go_ret
        exact ⟨ret_bool (eqBy_good HL.out fun j h1 h2 => HG.out j h1 h2 (by rw [HE.out]; exact h1)).symm, hbl⟩
  · have hl1 : ((xs.length : Int) != (ys.length : Int)) = true := by simp; omega
    have HL := Lib.hid hl; clear hl
    go_wp2
    go_ret
    exact ⟨ret_bool (eqBy_len HL.out).symm, Below.refl _ _⟩

end Go.Proofs.YtpinkbodbedajaaGreatDoor

namespace Go.Proofs.YtpinkbodbedajaaGreatDoor
open Go.RowKit

theorem flatten_set {α : Type} {n : Nat} : ∀ {l : List (List α)} (_ : ∀ x ∈ l, x.length = n) {k j : Nat} (hk : k < l.length) (_ : j < n) (u : α), l.flatten.set (k * n + j) u = (l.set k ((l[k]).set j u)).flatten
  | [], _, k, j, hk, _, _ => absurd hk (Nat.not_lt_zero k)
  | x :: l, h, 0, j, _, hj, u => by
    have hx := h x (List.mem_cons_self ..)
    simp only [Nat.zero_mul, Nat.zero_add, List.flatten_cons, List.getElem_cons_zero, List.set_cons_zero]
    rw [List.set_append_left _ _ (by omega)]
  | x :: l, h, k + 1, j, hk, hj, u => by
    have hx := h x (List.mem_cons_self ..)
    simp only [List.flatten_cons, List.getElem_cons_succ, List.set_cons_succ]
    rw [List.set_append_right _ _ (by rw [hx, Nat.add_mul]; omega), hx, show (k + 1) * n + j - n = k * n + j by rw [Nat.add_mul]; omega,
      flatten_set (fun y hy => h y (List.mem_cons_of_mem _ hy)) (by simpa using hk) hj u]

section
variable {α : Type} [Flat α] {T : TypeId} {base : Nat} {w w' : World} {xs : List α} {g n c : Nat}
theorem own.setCell (h : own T base w (.slice (some ⟨g, 0, none⟩) n c) xs) {k j : Nat} (hk : k < xs.length) (hj : j < El.size α) (u : Value) (y : α)
    (he : ∀ ecs, El.el w w.heap.size xs[k] ecs → El.el w w.heap.size y (ecs.set j u)) :
    own T base (w.setCell ⟨g, k * El.size α + j, none⟩ u) (.slice (some ⟨g, 0, none⟩) n c) (xs.set k y) := by
  obtain ⟨css, ⟨h1, h2⟩, h3, h4⟩ := h
  have hcs : ∀ x ∈ css, x.length = El.size α := fun x hx => by
    obtain ⟨i, hi, rfl⟩ := List.getElem_of_mem hx
    exact El.len (h4 i (by omega) hi)
  refine ⟨css.set k ((css[k]'(by omega)).set j u), ⟨?_, .inr ?_⟩, by simp [h3], fun i hi hi' => ?_⟩
  · rw [← flatten_set hcs (by omega) hj u, List.length_set, List.length_set]
    exact h1
  · rcases h2 with ⟨h2, _⟩ | ⟨g', cap, cur, hv, hg, hh, hc, hm, hs, ht⟩
    · injection h2 with h2
      cases h2
    · injection hv with e1 e2 e3
      injection e1 with e1
      injection e1 with e1
      subst e1 e2 e3
      have hkn : k * El.size α + El.size α ≤ xs.length * El.size α := by
        rw [← Nat.succ_mul]
        exact Nat.mul_le_mul_right _ (by omega)
      refine ⟨g, c, cur.setIfInBounds (k * El.size α + j) u, by simp, hg, by simp [World.setCell, Array.getElem?_modify, hh], by simpa using hc, hm, by simpa using hs, ?_⟩
      rw [← flatten_set hcs (by omega) hj u, ← ht, List.length_set, Array.toList_setIfInBounds]
      rw [List.take_set]
  · by_cases hik : i = k
    · subst hik
      simp only [List.getElem_set_self]
      exact Flat.free (he _ (h4 i (by simpa using hi) (by omega)))
    · rw [List.getElem_set_ne (by omega), List.getElem_set_ne (by omega)]
      exact Flat.free (h4 i (by simpa using hi) (by simpa using hi'))
/-- The cells of an owned row lie in its block. -/
theorem own.cellAt (h : own T base w (.slice (some ⟨g, 0, none⟩) n c) xs) {j : Nat} (hj : j < xs.length * El.size α) : ∃ u, w.cell? ⟨g, j, none⟩ = some u := by
  obtain ⟨css, ⟨h1, h2⟩, h3, h4⟩ := h
  rcases h2 with ⟨h2, _⟩ | ⟨g', cap, cur, hv, hg, hh, hc, hm, hs, ht⟩
  · injection h2 with h2
    cases h2
  · injection hv with e1 e2 e3
    injection e1 with e1
    injection e1 with e1
    subst e1
    have hle : xs.length * El.size α ≤ cap * El.size α := Nat.mul_le_mul_right _ hc
    exact ⟨cur[j]'(by omega), by rw [cell_of_row _ _ _ _ _ _ hh]; exact Array.getElem?_eq_getElem _⟩
theorem own.freeAt (h : own T base w (.slice (some ⟨g, 0, none⟩) n c) xs) (j : Nat) : w.frozen? ⟨g, j, none⟩ = false := by
  obtain ⟨css, ⟨h1, h2⟩, h3, h4⟩ := h
  rcases h2 with ⟨h2, _⟩ | ⟨g', cap, cur, hv, hg, hh, hc, hm, hs, ht⟩
  · injection h2 with h2
    cases h2
  · injection hv with e1 e2 e3
    injection e1 with e1
    injection e1 with e1
    subst e1
    simp [World.frozen?, hh]
end

/-! 'Only the row, and what is new, has turned.' -/
theorem grown_drewN {a w : World} {row : Option Nat} (h : a.grownBy w row) (n : Nat) : a.grownBy (w.drewN n) row := ⟨h.os, h.tape, h.output, h.size, h.block⟩
theorem grown_below {a w w' : World} {row : Option Nat} (h : a.grownBy w row) (hb : Below w.heap.size w w') : a.grownBy w' row :=
  ⟨hb.os.trans h.os, hb.tape.trans h.tape, hb.output.trans h.output, Nat.le_trans h.size hb.size, fun i hi hne => (hb.block i (Nat.lt_of_lt_of_le hi h.size)).trans (h.block i hi hne)⟩
theorem grown_setCell {a w : World} {g : Nat} (h : a.grownBy w (some g)) {p : Addr} (hp : p.block = g ∨ a.heap.size ≤ p.block) (u : Value) : a.grownBy (w.setCell p u) (some g) :=
  ⟨h.os, h.tape, h.output, by simpa [World.setCell] using h.size, fun i hi hne => (Below.heap_setCell w p u i (by
    rintro rfl
    rcases hp with hp | hp
    · exact hne (by rw [hp])
    · omega)).trans (h.block i hi hne)⟩
theorem below_of_grown {a w : World} {row : Option Nat} {B : Nat} (h : a.grownBy w row) (hB : B ≤ a.heap.size) (hr : ∀ k, row = some k → B ≤ k) : Below B a w :=
  (Below.refl B a).grown h hB hr

/-- 'out := []T{}' -/
theorem own.made0 {α : Type} [El α] (w : World) (T : TypeId) {base : Nat} (hb : base ≤ w.heap.size) : own T base (w.alloc (.cells #[] T)) (.slice (some ⟨w.heap.size, 0, none⟩) 0 0) ([] : List α) :=
  ⟨[], World.ownsRow_made w #[] 0 hb (Nat.zero_le _) (by simp), rfl, fun k h => absurd h (Nat.not_lt_zero k)⟩
/-- The cells of a block just made, as a list. -/
theorem news_at (w : World) (T : TypeId) (cs : List Value) : ∀ j u, cs[j]? = some u → (w.alloc (.cells cs.toArray T)).cell? ((⟨w.heap.size, 0, none⟩ : Addr).add j) = some u := fun j u hu => by
  rw [add_lit, Nat.zero_add, cell_new]
  simpa using hu
theorem below_append {base : Nat} {w w' : World} {v : Value} {α : Type} [El α] {T : TypeId} {xs : List α} (h : own T base w v xs) (hg : w.grownBy w' v.ownBlock) (hb : base ≤ w.heap.size) : Below base w w' :=
  below_of_grown hg hb fun k hk => (h.blk k hk).1

/-- Two rows in two blocks. -/
def apart (v v' : Value) : Prop := v.ownBlock = none ∨ v.ownBlock ≠ v'.ownBlock
theorem apart_gt {α β : Type} [El α] [El β] {T T' : TypeId} {b b' : Nat} {w w' : World} {v v' : Value} {xs : List α} {ys : List β} (h : own T b w v xs) (h' : own T' b' w' v' ys) (hle : w'.heap.size ≤ b) : apart v v' := by
  unfold apart
  cases hv : v.ownBlock with
  | none => exact .inl rfl
  | some k =>
    refine .inr fun e => ?_
    have h1 := (h.blk k hv).1
    have h2 := (h'.blk k e.symm).2
    omega
end Go.Proofs.YtpinkbodbedajaaGreatDoor

namespace Go.Proofs.YtpinkbodbedajaaGreatDoor
open Go.RowKit

instance elStr : El ByteArray where
  size := 1
  el _ _ x cs := x.size ≤ maxLen ∧ cs = [.string x]
  len h := by rw [h.2]; rfl
  more h _ := h
  keep h _ := h
  one h := by rw [h.2]; intro u hu; simp at hu; rw [hu]; rfl
instance flatStr : Flat ByteArray where
  free h := h
theorem rdA.str {w : World} {B : Nat} {A : Option Addr} {xs : List ByteArray} (h : rdA w B A xs) (k : Nat) (hk : k < xs.length) :
    ∃ b o, A = some ⟨b, o, none⟩ ∧ b < B ∧ (xs[k]).size ≤ maxLen ∧ w.cell? ⟨b, o + k, none⟩ = some (.string xs[k]) := by
  obtain ⟨b, o, cs, hA, hb, ⟨hi, rfl⟩, hc⟩ := h k hk
  exact ⟨b, o, hA, hb, hi, by simpa [El.size] using hc 0 _ rfl⟩

structure Mis where
  id : Int
  bin : Int
def Mis.ok (x : Mis) : Prop := isI64 x.id ∧ isI64 x.bin
def Mis.cells (x : Mis) : List Value := [.int .i64 x.id, .int .i64 x.bin]
instance elMis : El Mis where
  size := 2
  el _ _ x cs := x.ok ∧ cs = x.cells
  len h := by rw [h.2]; rfl
  more h _ := h
  keep h _ := h
  one h := by rw [h.2]; intro u hu; simp [Mis.cells] at hu; rcases hu with rfl | rfl <;> rfl
instance flatMis : Flat Mis where
  free h := h
theorem rdA.mis {w : World} {B : Nat} {A : Option Addr} {xs : List Mis} (h : rdA w B A xs) (k : Nat) (hk : k < xs.length) :
    ∃ b o, A = some ⟨b, o, none⟩ ∧ b < B ∧ (xs[k]).ok ∧ w.cell? ⟨b, o + k * 2, none⟩ = some (.int .i64 (xs[k]).id) ∧ w.cell? ⟨b, o + k * 2 + 1, none⟩ = some (.int .i64 (xs[k]).bin) := by
  obtain ⟨b, o, cs, hA, hb, ⟨hok, rfl⟩, hc⟩ := h k hk
  exact ⟨b, o, hA, hb, hok, by simpa [Mis.cells, El.size] using hc 0 _ rfl, by simpa [Mis.cells, El.size, Nat.add_assoc] using hc 1 _ rfl⟩

structure Fwd where
  src : ByteArray
  dst : ByteArray
def Fwd.ok (x : Fwd) : Prop := x.src.size ≤ maxLen ∧ x.dst.size ≤ maxLen
def Fwd.cells (x : Fwd) : List Value := [.string x.src, .string x.dst]
instance elFwd : El Fwd where
  size := 2
  el _ _ x cs := x.ok ∧ cs = x.cells
  len h := by rw [h.2]; rfl
  more h _ := h
  keep h _ := h
  one h := by rw [h.2]; intro u hu; simp [Fwd.cells] at hu; rcases hu with rfl | rfl <;> rfl
instance flatFwd : Flat Fwd where
  free h := h
theorem rdA.fwd {w : World} {B : Nat} {A : Option Addr} {xs : List Fwd} (h : rdA w B A xs) (k : Nat) (hk : k < xs.length) :
    ∃ b o, A = some ⟨b, o, none⟩ ∧ b < B ∧ (xs[k]).ok ∧ w.cell? ⟨b, o + k * 2, none⟩ = some (.string (xs[k]).src) ∧ w.cell? ⟨b, o + k * 2 + 1, none⟩ = some (.string (xs[k]).dst) := by
  obtain ⟨b, o, cs, hA, hb, ⟨hok, rfl⟩, hc⟩ := h k hk
  exact ⟨b, o, hA, hb, hok, by simpa [Fwd.cells, El.size] using hc 0 _ rfl, by simpa [Fwd.cells, El.size, Nat.add_assoc] using hc 1 _ rfl⟩

/-- A plan: bins, passes, the codes of the round. -/
structure Pln where
  bins : Int
  passes : Int
  order : List ByteArray
/-- The value v is the plan p, its codes read below block B. -/
def rdP (w : World) (B : Nat) (v : Value) (p : Pln) : Prop :=
  ∃ vo, v = .agg #[.int .i64 p.bins, .int .i64 p.passes, vo] ∧ isI64 p.bins ∧ isI64 p.passes ∧ rd w B vo p.order
theorem rdP.keep {w w' : World} {B : Nat} {v : Value} {p : Pln} (h : rdP w B v p) (hk : ∀ q : Addr, q.block < B → w'.cell? q = w.cell? q) : rdP w' B v p := by
  obtain ⟨vo, h1, h2, h3, h4⟩ := h
  exact ⟨vo, h1, h2, h3, h4.keep hk⟩
theorem rdP.below {w w' : World} {B : Nat} {v : Value} {p : Pln} (h : rdP w B v p) (hb : Below B w w') : rdP w' B v p := h.keep fun _ hp => hb.cell hp
theorem rdP.more {w : World} {B B' : Nat} {v : Value} {p : Pln} (h : rdP w B v p) (hB : B ≤ B') : rdP w B' v p := by
  obtain ⟨vo, h1, h2, h3, h4⟩ := h
  exact ⟨vo, h1, h2, h3, h4.more hB⟩
theorem rdP.on {w w' : World} {v : Value} {p : Pln} (h : rdP w w.heap.size v p) (hb : Below w.heap.size w w') : rdP w' w'.heap.size v p := (h.below hb).more hb.size
/-- A plan whose codes lie in memory of the call's own. -/
def ownP (T base : Nat) (w : World) (v : Value) (p : Pln) : Prop :=
  ∃ vo, v = .agg #[.int .i64 p.bins, .int .i64 p.passes, vo] ∧ isI64 p.bins ∧ isI64 p.passes ∧ own T base w vo p.order
theorem ownP.rd {T base : Nat} {w : World} {v : Value} {p : Pln} (h : ownP T base w v p) : rdP w w.heap.size v p := by
  obtain ⟨vo, h1, h2, h3, h4⟩ := h
  exact ⟨vo, h1, h2, h3, h4.rd⟩
theorem ownP.below {T base : Nat} {w w' : World} {v : Value} {p : Pln} (h : ownP T base w v p) (hb : Below w.heap.size w w') : ownP T base w' v p := by
  obtain ⟨vo, h1, h2, h3, h4⟩ := h
  exact ⟨vo, h1, h2, h3, h4.below hb⟩

/-! ### What makes a plan valid -/
def goodC (cs : List ByteArray) (k : Nat) : Bool :=
  match cs[k]? with
  | none => false
  | some c => isCode c && (cs.take k).all (fun d => !sEq d c)
def codesOk (cs : List ByteArray) : Bool := (List.range cs.length).all (goodC cs)
theorem codesOk_bad {cs : List ByteArray} {k : Nat} (hk : k < cs.length) (h : goodC cs k = false) : codesOk cs = false :=
  List.all_eq_false.2 ⟨k, by simpa using hk, by simp [h]⟩
theorem codesOk_good {cs : List ByteArray} (h : ∀ j, j < cs.length → goodC cs j = true) : codesOk cs = true :=
  List.all_eq_true.2 fun k hk => h k (by simpa using hk)
theorem goodC_of {cs : List ByteArray} {k : Nat} (hk : k < cs.length) : goodC cs k = (isCode cs[k] && (cs.take k).all (fun d => !sEq d cs[k])) := by
  unfold goodC
  rw [List.getElem?_eq_getElem hk]
/-- bins to the power of passes. -/
def powI (b : Int) : Nat → Int
  | 0 => 1
  | n + 1 => powI b n * b
def shapeOk (b p : Int) : Bool := decide (2 ≤ b) && decide (b ≤ 16) && (decide (1 ≤ p) && decide (p ≤ 4))
def planOk (p : Pln) : Bool :=
  shapeOk p.bins p.passes && (decide (1 ≤ p.order.length) && decide (p.order.length ≤ 60)) && decide ((p.order.length : Int) ≤ powI p.bins p.passes.toNat) && codesOk p.order
theorem shapeOk_iff {b p : Int} : shapeOk b p = true ↔ 2 ≤ b ∧ b ≤ 16 ∧ 1 ≤ p ∧ p ≤ 4 := by
  unfold shapeOk
  simp only [Bool.and_eq_true, decide_eq_true_iff]
  omega
theorem powI_bounds {b : Int} (h1 : 2 ≤ b) (h2 : b ≤ 16) : ∀ n : Nat, n ≤ 4 → 1 ≤ powI b n ∧ powI b n ≤ 65536 := by
  have h0 : powI b 0 = 1 := rfl
  have e1 : powI b 1 = powI b 0 * b := rfl
  have e2 : powI b 2 = powI b 1 * b := rfl
  have e3 : powI b 3 = powI b 2 * b := rfl
  have e4 : powI b 4 = powI b 3 * b := rfl
  have st : ∀ x y M : Int, 1 ≤ x → x ≤ M → y = x * b → 1 ≤ y ∧ y ≤ M * 16 := fun x y M hx hM hy => by
    subst hy
    have l1 : 1 * 2 ≤ x * b := Int.mul_le_mul hx h1 (by omega) (by omega)
    have l2 : x * b ≤ M * 16 := Int.mul_le_mul hM h2 (by omega) (by omega)
    omega
  have s1 := st _ _ 1 (by omega) (by omega) e1
  have s2 := st _ _ (1 * 16) s1.1 s1.2 e2
  have s3 := st _ _ (1 * 16 * 16) s2.1 s2.2 e3
  have s4 := st _ _ (1 * 16 * 16 * 16) s3.1 s3.2 e4
  intro n hn
  match n, hn with
  | 0, _ => omega
  | 1, _ => omega
  | 2, _ => omega
  | 3, _ => omega
  | 4, _ => omega

end Go.Proofs.YtpinkbodbedajaaGreatDoor

namespace Go.Proofs.YtpinkbodbedajaaGreatDoor
open Go.RowKit

/-- The index of the first string that is c; the length if there is none. -/
def rk : List ByteArray → ByteArray → Nat
  | [], _ => 0
  | d :: ds, c => if sEq d c then 0 else rk ds c + 1
theorem rk_cons (d : ByteArray) (ds : List ByteArray) (c : ByteArray) : rk (d :: ds) c = if sEq d c then 0 else rk ds c + 1 := rfl
theorem rk_le : ∀ (cs : List ByteArray) (c : ByteArray), rk cs c ≤ cs.length
  | [], _ => Nat.le_refl _
  | d :: ds, c => by unfold rk; split; · exact Nat.zero_le _
                     · have := rk_le ds c; simp; omega
theorem rk_before : ∀ (cs : List ByteArray) (c : ByteArray) (k : Nat) (h : k < cs.length), k < rk cs c → sEq cs[k] c = false
  | [], _, k, h, _ => absurd h (Nat.not_lt_zero k)
  | d :: ds, c, 0, _, hk => by
    unfold rk at hk
    split at hk
    · omega
    · rename_i h
      simpa using h
  | d :: ds, c, k + 1, h, hk => by
    unfold rk at hk
    split at hk
    · omega
    · exact rk_before ds c k (by simpa using h) (by omega)
theorem rk_at : ∀ (cs : List ByteArray) (c : ByteArray) (h : rk cs c < cs.length), sEq cs[rk cs c] c = true
  | [], _, h => absurd h (Nat.not_lt_zero _)
  | d :: ds, c, h => by
    by_cases hd : sEq d c = true
    · have e : rk (d :: ds) c = 0 := by rw [rk_cons, if_pos hd]
      simp only [e]
      exact hd
    · have e : rk (d :: ds) c = rk ds c + 1 := by rw [rk_cons, if_neg hd]
      have h' : rk ds c < ds.length := by rw [e] at h; simpa using h
      simp only [e]
      exact rk_at ds c h'
theorem rk_eq {cs : List ByteArray} {c : ByteArray} {k : Nat} (h : k < cs.length) (h1 : ∀ j (hj : j < k), sEq cs[j] c = false) (h2 : sEq cs[k] c = true) : rk cs c = k := by
  rcases Nat.lt_trichotomy (rk cs c) k with hlt | heq | hgt
  · have := h1 _ hlt
    rw [rk_at cs c (by omega)] at this
    cases this
  · exact heq
  · have := rk_before cs c k h hgt
    rw [h2] at this
    cases this
theorem rk_none {cs : List ByteArray} {c : ByteArray} (h : ∀ j (hj : j < cs.length), sEq cs[j] c = false) : rk cs c = cs.length := by
  rcases Nat.lt_or_eq_of_le (rk_le cs c) with hlt | heq
  · have := h _ hlt
    rw [rk_at cs c hlt] at this
    cases this
  · exact heq
/-- Go's slices.Index: -1 if there is none. -/
def rkI (cs : List ByteArray) (c : ByteArray) : Int := if rk cs c < cs.length then (rk cs c : Int) else -1
theorem rkI_pos {cs : List ByteArray} {c : ByteArray} (h : rk cs c < cs.length) : rkI cs c = (rk cs c : Int) := by unfold rkI; rw [if_pos h]
theorem rkI_neg {cs : List ByteArray} {c : ByteArray} (h : ¬ rk cs c < cs.length) : rkI cs c = -1 := by unfold rkI; rw [if_neg h]
theorem rkI_range (cs : List ByteArray) (c : ByteArray) : -1 ≤ rkI cs c ∧ rkI cs c < cs.length := by
  unfold rkI
  split <;> omega
/-- The bin of a code in a pass; -1 if it has no rank. -/
def binI (p : Pln) (c : ByteArray) (pass : Nat) : Int := if rkI p.order c < 0 then -1 else rkI p.order c / powI p.bins pass % p.bins

/-! ### Missorts -/
theorem planOk_iff {p : Pln} : planOk p = true ↔ (2 ≤ p.bins ∧ p.bins ≤ 16 ∧ 1 ≤ p.passes ∧ p.passes ≤ 4) ∧ (1 ≤ p.order.length ∧ p.order.length ≤ 60) ∧ (p.order.length : Int) ≤ powI p.bins p.passes.toNat ∧ codesOk p.order = true := by
  unfold planOk
  simp only [Bool.and_eq_true, decide_eq_true_iff, shapeOk_iff]
  constructor
  · rintro ⟨⟨⟨h1, h2⟩, h3⟩, h4⟩; exact ⟨h1, h2, h3, h4⟩
  · rintro ⟨h1, h2, h3, h4⟩; exact ⟨⟨⟨h1, h2⟩, h3⟩, h4⟩

end Go.Proofs.YtpinkbodbedajaaGreatDoor
