/- Strings, missorts, orders, plans as data: how they lie in cells. Plain facts. -/
import Derived.Test.YtiaepapdofcnjaaL0
namespace Go.Proofs.Ytiaepapdofcnjaa
open Go.RowKit

instance elStr : El ByteArray where
  size := 1
  el _ _ x cs := x.size ≤ maxLen ∧ cs = [.string x]
  len h := by rw [h.2]; rfl
  more h _ := h
  keep h _ := h
  one h := by rw [h.2]; intro u hu; simp at hu; rw [hu]; rfl
instance flatStr : Flat ByteArray where
  free h := h
theorem rdA.str {w : World} {B : Nat} {A : Option Addr} {xs : List ByteArray} (h : rdA w B A xs) (k : Nat) (hk : k < xs.length) :
    ∃ b o, A = some ⟨b, o, none⟩ ∧ b < B ∧ (xs[k]).size ≤ maxLen ∧ w.cell? ⟨b, o + k, none⟩ = some (.string xs[k]) := by
  obtain ⟨b, o, cs, hA, hb, ⟨hi, rfl⟩, hc⟩ := h k hk
  exact ⟨b, o, hA, hb, hi, by simpa [El.size] using hc 0 _ rfl⟩

structure Mis where
  id : Int
  bin : Int
def Mis.ok (x : Mis) : Prop := isI64 x.id ∧ isI64 x.bin
def Mis.cells (x : Mis) : List Value := [.int .i64 x.id, .int .i64 x.bin]
instance elMis : El Mis where
  size := 2
  el _ _ x cs := x.ok ∧ cs = x.cells
  len h := by rw [h.2]; rfl
  more h _ := h
  keep h _ := h
  one h := by rw [h.2]; intro u hu; simp [Mis.cells] at hu; rcases hu with rfl | rfl <;> rfl
instance flatMis : Flat Mis where
  free h := h
theorem rdA.mis {w : World} {B : Nat} {A : Option Addr} {xs : List Mis} (h : rdA w B A xs) (k : Nat) (hk : k < xs.length) :
    ∃ b o, A = some ⟨b, o, none⟩ ∧ b < B ∧ (xs[k]).ok ∧ w.cell? ⟨b, o + k * 2, none⟩ = some (.int .i64 (xs[k]).id) ∧ w.cell? ⟨b, o + k * 2 + 1, none⟩ = some (.int .i64 (xs[k]).bin) := by
  obtain ⟨b, o, cs, hA, hb, ⟨hok, rfl⟩, hc⟩ := h k hk
  exact ⟨b, o, hA, hb, hok, by simpa [Mis.cells, El.size] using hc 0 _ rfl, by simpa [Mis.cells, El.size, Nat.add_assoc] using hc 1 _ rfl⟩

structure Fwd where
  src : ByteArray
  dst : ByteArray
def Fwd.ok (x : Fwd) : Prop := x.src.size ≤ maxLen ∧ x.dst.size ≤ maxLen
def Fwd.cells (x : Fwd) : List Value := [.string x.src, .string x.dst]
instance elFwd : El Fwd where
  size := 2
  el _ _ x cs := x.ok ∧ cs = x.cells
  len h := by rw [h.2]; rfl
  more h _ := h
  keep h _ := h
  one h := by rw [h.2]; intro u hu; simp [Fwd.cells] at hu; rcases hu with rfl | rfl <;> rfl
instance flatFwd : Flat Fwd where
  free h := h
theorem rdA.fwd {w : World} {B : Nat} {A : Option Addr} {xs : List Fwd} (h : rdA w B A xs) (k : Nat) (hk : k < xs.length) :
    ∃ b o, A = some ⟨b, o, none⟩ ∧ b < B ∧ (xs[k]).ok ∧ w.cell? ⟨b, o + k * 2, none⟩ = some (.string (xs[k]).src) ∧ w.cell? ⟨b, o + k * 2 + 1, none⟩ = some (.string (xs[k]).dst) := by
  obtain ⟨b, o, cs, hA, hb, ⟨hok, rfl⟩, hc⟩ := h k hk
  exact ⟨b, o, hA, hb, hok, by simpa [Fwd.cells, El.size] using hc 0 _ rfl, by simpa [Fwd.cells, El.size, Nat.add_assoc] using hc 1 _ rfl⟩

/-- A plan: bins, passes, the codes of the round. -/
structure Pln where
  bins : Int
  passes : Int
  order : List ByteArray
/-- The value v is the plan p, its codes read below block B. -/
def rdP (w : World) (B : Nat) (v : Value) (p : Pln) : Prop :=
  ∃ vo, v = .agg #[.int .i64 p.bins, .int .i64 p.passes, vo] ∧ isI64 p.bins ∧ isI64 p.passes ∧ rd w B vo p.order
theorem rdP.keep {w w' : World} {B : Nat} {v : Value} {p : Pln} (h : rdP w B v p) (hk : ∀ q : Addr, q.block < B → w'.cell? q = w.cell? q) : rdP w' B v p := by
  obtain ⟨vo, h1, h2, h3, h4⟩ := h
  exact ⟨vo, h1, h2, h3, h4.keep hk⟩
theorem rdP.below {w w' : World} {B : Nat} {v : Value} {p : Pln} (h : rdP w B v p) (hb : Below B w w') : rdP w' B v p := h.keep fun _ hp => hb.cell hp
theorem rdP.more {w : World} {B B' : Nat} {v : Value} {p : Pln} (h : rdP w B v p) (hB : B ≤ B') : rdP w B' v p := by
  obtain ⟨vo, h1, h2, h3, h4⟩ := h
  exact ⟨vo, h1, h2, h3, h4.more hB⟩
theorem rdP.on {w w' : World} {v : Value} {p : Pln} (h : rdP w w.heap.size v p) (hb : Below w.heap.size w w') : rdP w' w'.heap.size v p := (h.below hb).more hb.size
/-- A plan whose codes lie in memory of the call's own. -/
def ownP (T base : Nat) (w : World) (v : Value) (p : Pln) : Prop :=
  ∃ vo, v = .agg #[.int .i64 p.bins, .int .i64 p.passes, vo] ∧ isI64 p.bins ∧ isI64 p.passes ∧ own T base w vo p.order
theorem ownP.rd {T base : Nat} {w : World} {v : Value} {p : Pln} (h : ownP T base w v p) : rdP w w.heap.size v p := by
  obtain ⟨vo, h1, h2, h3, h4⟩ := h
  exact ⟨vo, h1, h2, h3, h4.rd⟩
theorem ownP.below {T base : Nat} {w w' : World} {v : Value} {p : Pln} (h : ownP T base w v p) (hb : Below w.heap.size w w') : ownP T base w' v p := by
  obtain ⟨vo, h1, h2, h3, h4⟩ := h
  exact ⟨vo, h1, h2, h3, h4.below hb⟩

/-! ### What makes a plan valid -/
def goodC (cs : List ByteArray) (k : Nat) : Bool :=
  match cs[k]? with
  | none => false
  | some c => isCode c && (cs.take k).all (fun d => !sEq d c)
def codesOk (cs : List ByteArray) : Bool := (List.range cs.length).all (goodC cs)
theorem codesOk_bad {cs : List ByteArray} {k : Nat} (hk : k < cs.length) (h : goodC cs k = false) : codesOk cs = false :=
  List.all_eq_false.2 ⟨k, by simpa using hk, by simp [h]⟩
theorem codesOk_good {cs : List ByteArray} (h : ∀ j, j < cs.length → goodC cs j = true) : codesOk cs = true :=
  List.all_eq_true.2 fun k hk => h k (by simpa using hk)
theorem goodC_of {cs : List ByteArray} {k : Nat} (hk : k < cs.length) : goodC cs k = (isCode cs[k] && (cs.take k).all (fun d => !sEq d cs[k])) := by
  unfold goodC
  rw [List.getElem?_eq_getElem hk]
/-- bins to the power of passes. -/
def powI (b : Int) : Nat → Int
  | 0 => 1
  | n + 1 => powI b n * b
def shapeOk (b p : Int) : Bool := decide (2 ≤ b) && decide (b ≤ 16) && (decide (1 ≤ p) && decide (p ≤ 4))
def planOk (p : Pln) : Bool :=
  shapeOk p.bins p.passes && (decide (1 ≤ p.order.length) && decide (p.order.length ≤ 60)) && decide ((p.order.length : Int) ≤ powI p.bins p.passes.toNat) && codesOk p.order
theorem shapeOk_iff {b p : Int} : shapeOk b p = true ↔ 2 ≤ b ∧ b ≤ 16 ∧ 1 ≤ p ∧ p ≤ 4 := by
  unfold shapeOk
  simp only [Bool.and_eq_true, decide_eq_true_iff]
  omega
theorem powI_bounds {b : Int} (h1 : 2 ≤ b) (h2 : b ≤ 16) : ∀ n : Nat, n ≤ 4 → 1 ≤ powI b n ∧ powI b n ≤ 65536 := by
  have h0 : powI b 0 = 1 := rfl
  have e1 : powI b 1 = powI b 0 * b := rfl
  have e2 : powI b 2 = powI b 1 * b := rfl
  have e3 : powI b 3 = powI b 2 * b := rfl
  have e4 : powI b 4 = powI b 3 * b := rfl
  have st : ∀ x y M : Int, 1 ≤ x → x ≤ M → y = x * b → 1 ≤ y ∧ y ≤ M * 16 := fun x y M hx hM hy => by
    subst hy
    have l1 : 1 * 2 ≤ x * b := Int.mul_le_mul hx h1 (by omega) (by omega)
    have l2 : x * b ≤ M * 16 := Int.mul_le_mul hM h2 (by omega) (by omega)
    omega
  have s1 := st _ _ 1 (by omega) (by omega) e1
  have s2 := st _ _ (1 * 16) s1.1 s1.2 e2
  have s3 := st _ _ (1 * 16 * 16) s2.1 s2.2 e3
  have s4 := st _ _ (1 * 16 * 16 * 16) s3.1 s3.2 e4
  intro n hn
  match n, hn with
  | 0, _ => omega
  | 1, _ => omega
  | 2, _ => omega
  | 3, _ => omega
  | 4, _ => omega

end Go.Proofs.Ytiaepapdofcnjaa
