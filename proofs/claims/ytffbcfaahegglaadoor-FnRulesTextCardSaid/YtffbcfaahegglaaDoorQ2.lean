/- L1 L2 F0 -/
import Derived.Test.YtffbcfaahegglaaDoorQ1
namespace Go.Proofs.YtffbcfaahegglaaDoor
open Go.RowKit

instance elStr : El ByteArray where
  size := 1
  el _ _ x cs := x.size ≤ maxLen ∧ cs = [.string x]
  len h := by rw [h.2]; rfl
  more h _ := h
  keep h _ := h
  one h := by rw [h.2]; intro u hu; simp at hu; rw [hu]; rfl
instance flatStr : Flat ByteArray where
  free h := h
theorem rdA.str {w : World} {B : Nat} {A : Option Addr} {xs : List ByteArray} (h : rdA w B A xs) (k : Nat) (hk : k < xs.length) :
    ∃ b o, A = some ⟨b, o, none⟩ ∧ b < B ∧ (xs[k]).size ≤ maxLen ∧ w.cell? ⟨b, o + k, none⟩ = some (.string xs[k]) := by
  obtain ⟨b, o, cs, hA, hb, ⟨hi, rfl⟩, hc⟩ := h k hk
  exact ⟨b, o, hA, hb, hi, by simpa [El.size] using hc 0 _ rfl⟩

structure Mis where
  id : Int
  bin : Int
def Mis.ok (x : Mis) : Prop := isI64 x.id ∧ isI64 x.bin
def Mis.cells (x : Mis) : List Value := [.int .i64 x.id, .int .i64 x.bin]
instance elMis : El Mis where
  size := 2
  el _ _ x cs := x.ok ∧ cs = x.cells
  len h := by rw [h.2]; rfl
  more h _ := h
  keep h _ := h
  one h := by rw [h.2]; intro u hu; simp [Mis.cells] at hu; rcases hu with rfl | rfl <;> rfl
instance flatMis : Flat Mis where
  free h := h
theorem rdA.mis {w : World} {B : Nat} {A : Option Addr} {xs : List Mis} (h : rdA w B A xs) (k : Nat) (hk : k < xs.length) :
    ∃ b o, A = some ⟨b, o, none⟩ ∧ b < B ∧ (xs[k]).ok ∧ w.cell? ⟨b, o + k * 2, none⟩ = some (.int .i64 (xs[k]).id) ∧ w.cell? ⟨b, o + k * 2 + 1, none⟩ = some (.int .i64 (xs[k]).bin) := by
  obtain ⟨b, o, cs, hA, hb, ⟨hok, rfl⟩, hc⟩ := h k hk
  exact ⟨b, o, hA, hb, hok, by simpa [Mis.cells, El.size] using hc 0 _ rfl, by simpa [Mis.cells, El.size, Nat.add_assoc] using hc 1 _ rfl⟩

structure Fwd where
  src : ByteArray
  dst : ByteArray
def Fwd.ok (x : Fwd) : Prop := x.src.size ≤ maxLen ∧ x.dst.size ≤ maxLen
def Fwd.cells (x : Fwd) : List Value := [.string x.src, .string x.dst]
instance elFwd : El Fwd where
  size := 2
  el _ _ x cs := x.ok ∧ cs = x.cells
  len h := by rw [h.2]; rfl
  more h _ := h
  keep h _ := h
  one h := by rw [h.2]; intro u hu; simp [Fwd.cells] at hu; rcases hu with rfl | rfl <;> rfl
instance flatFwd : Flat Fwd where
  free h := h
theorem rdA.fwd {w : World} {B : Nat} {A : Option Addr} {xs : List Fwd} (h : rdA w B A xs) (k : Nat) (hk : k < xs.length) :
    ∃ b o, A = some ⟨b, o, none⟩ ∧ b < B ∧ (xs[k]).ok ∧ w.cell? ⟨b, o + k * 2, none⟩ = some (.string (xs[k]).src) ∧ w.cell? ⟨b, o + k * 2 + 1, none⟩ = some (.string (xs[k]).dst) := by
  obtain ⟨b, o, cs, hA, hb, ⟨hok, rfl⟩, hc⟩ := h k hk
  exact ⟨b, o, hA, hb, hok, by simpa [Fwd.cells, El.size] using hc 0 _ rfl, by simpa [Fwd.cells, El.size, Nat.add_assoc] using hc 1 _ rfl⟩

/-- A plan: bins, passes, the codes of the round. -/
structure Pln where
  bins : Int
  passes : Int
  order : List ByteArray
/-- The value v is the plan p, its codes read below block B. -/
def rdP (w : World) (B : Nat) (v : Value) (p : Pln) : Prop :=
  ∃ vo, v = .agg #[.int .i64 p.bins, .int .i64 p.passes, vo] ∧ isI64 p.bins ∧ isI64 p.passes ∧ rd w B vo p.order
theorem rdP.keep {w w' : World} {B : Nat} {v : Value} {p : Pln} (h : rdP w B v p) (hk : ∀ q : Addr, q.block < B → w'.cell? q = w.cell? q) : rdP w' B v p := by
  obtain ⟨vo, h1, h2, h3, h4⟩ := h
  exact ⟨vo, h1, h2, h3, h4.keep hk⟩
theorem rdP.below {w w' : World} {B : Nat} {v : Value} {p : Pln} (h : rdP w B v p) (hb : Below B w w') : rdP w' B v p := h.keep fun _ hp => hb.cell hp
theorem rdP.more {w : World} {B B' : Nat} {v : Value} {p : Pln} (h : rdP w B v p) (hB : B ≤ B') : rdP w B' v p := by
  obtain ⟨vo, h1, h2, h3, h4⟩ := h
  exact ⟨vo, h1, h2, h3, h4.more hB⟩
theorem rdP.on {w w' : World} {v : Value} {p : Pln} (h : rdP w w.heap.size v p) (hb : Below w.heap.size w w') : rdP w' w'.heap.size v p := (h.below hb).more hb.size
/-- A plan whose codes lie in memory of the call's own. -/
def ownP (T base : Nat) (w : World) (v : Value) (p : Pln) : Prop :=
  ∃ vo, v = .agg #[.int .i64 p.bins, .int .i64 p.passes, vo] ∧ isI64 p.bins ∧ isI64 p.passes ∧ own T base w vo p.order
theorem ownP.rd {T base : Nat} {w : World} {v : Value} {p : Pln} (h : ownP T base w v p) : rdP w w.heap.size v p := by
  obtain ⟨vo, h1, h2, h3, h4⟩ := h
  exact ⟨vo, h1, h2, h3, h4.rd⟩
theorem ownP.below {T base : Nat} {w w' : World} {v : Value} {p : Pln} (h : ownP T base w v p) (hb : Below w.heap.size w w') : ownP T base w' v p := by
  obtain ⟨vo, h1, h2, h3, h4⟩ := h
  exact ⟨vo, h1, h2, h3, h4.below hb⟩

/-! ### What makes a plan valid -/
def goodC (cs : List ByteArray) (k : Nat) : Bool :=
  match cs[k]? with
  | none => false
  | some c => isCode c && (cs.take k).all (fun d => !sEq d c)
def codesOk (cs : List ByteArray) : Bool := (List.range cs.length).all (goodC cs)
theorem codesOk_bad {cs : List ByteArray} {k : Nat} (hk : k < cs.length) (h : goodC cs k = false) : codesOk cs = false :=
  List.all_eq_false.2 ⟨k, by simpa using hk, by simp [h]⟩
theorem codesOk_good {cs : List ByteArray} (h : ∀ j, j < cs.length → goodC cs j = true) : codesOk cs = true :=
  List.all_eq_true.2 fun k hk => h k (by simpa using hk)
theorem goodC_of {cs : List ByteArray} {k : Nat} (hk : k < cs.length) : goodC cs k = (isCode cs[k] && (cs.take k).all (fun d => !sEq d cs[k])) := by
  unfold goodC
  rw [List.getElem?_eq_getElem hk]
/-- bins to the power of passes. -/
def powI (b : Int) : Nat → Int
  | 0 => 1
  | n + 1 => powI b n * b
def shapeOk (b p : Int) : Bool := decide (2 ≤ b) && decide (b ≤ 16) && (decide (1 ≤ p) && decide (p ≤ 4))
def planOk (p : Pln) : Bool :=
  shapeOk p.bins p.passes && (decide (1 ≤ p.order.length) && decide (p.order.length ≤ 60)) && decide ((p.order.length : Int) ≤ powI p.bins p.passes.toNat) && codesOk p.order
theorem shapeOk_iff {b p : Int} : shapeOk b p = true ↔ 2 ≤ b ∧ b ≤ 16 ∧ 1 ≤ p ∧ p ≤ 4 := by
  unfold shapeOk
  simp only [Bool.and_eq_true, decide_eq_true_iff]
  omega
theorem powI_bounds {b : Int} (h1 : 2 ≤ b) (h2 : b ≤ 16) : ∀ n : Nat, n ≤ 4 → 1 ≤ powI b n ∧ powI b n ≤ 65536 := by
  have h0 : powI b 0 = 1 := rfl
  have e1 : powI b 1 = powI b 0 * b := rfl
  have e2 : powI b 2 = powI b 1 * b := rfl
  have e3 : powI b 3 = powI b 2 * b := rfl
  have e4 : powI b 4 = powI b 3 * b := rfl
  have st : ∀ x y M : Int, 1 ≤ x → x ≤ M → y = x * b → 1 ≤ y ∧ y ≤ M * 16 := fun x y M hx hM hy => by
    subst hy
    have l1 : 1 * 2 ≤ x * b := Int.mul_le_mul hx h1 (by omega) (by omega)
    have l2 : x * b ≤ M * 16 := Int.mul_le_mul hM h2 (by omega) (by omega)
    omega
  have s1 := st _ _ 1 (by omega) (by omega) e1
  have s2 := st _ _ (1 * 16) s1.1 s1.2 e2
  have s3 := st _ _ (1 * 16 * 16) s2.1 s2.2 e3
  have s4 := st _ _ (1 * 16 * 16 * 16) s3.1 s3.2 e4
  intro n hn
  match n, hn with
  | 0, _ => omega
  | 1, _ => omega
  | 2, _ => omega
  | 3, _ => omega
  | 4, _ => omega

end Go.Proofs.YtffbcfaahegglaaDoor

namespace Go.Proofs.YtffbcfaahegglaaDoor
open Go.RowKit

/-- The index of the first string that is c; the length if there is none. -/
def rk : List ByteArray → ByteArray → Nat
  | [], _ => 0
  | d :: ds, c => if sEq d c then 0 else rk ds c + 1
theorem rk_cons (d : ByteArray) (ds : List ByteArray) (c : ByteArray) : rk (d :: ds) c = if sEq d c then 0 else rk ds c + 1 := rfl
theorem rk_le : ∀ (cs : List ByteArray) (c : ByteArray), rk cs c ≤ cs.length
  | [], _ => Nat.le_refl _
  | d :: ds, c => by unfold rk; split; · exact Nat.zero_le _
                     · have := rk_le ds c; simp; omega
theorem rk_before : ∀ (cs : List ByteArray) (c : ByteArray) (k : Nat) (h : k < cs.length), k < rk cs c → sEq cs[k] c = false
  | [], _, k, h, _ => absurd h (Nat.not_lt_zero k)
  | d :: ds, c, 0, _, hk => by
    unfold rk at hk
    split at hk
    · omega
    · rename_i h
      simpa using h
  | d :: ds, c, k + 1, h, hk => by
    unfold rk at hk
    split at hk
    · omega
    · exact rk_before ds c k (by simpa using h) (by omega)
theorem rk_at : ∀ (cs : List ByteArray) (c : ByteArray) (h : rk cs c < cs.length), sEq cs[rk cs c] c = true
  | [], _, h => absurd h (Nat.not_lt_zero _)
  | d :: ds, c, h => by
    by_cases hd : sEq d c = true
    · have e : rk (d :: ds) c = 0 := by rw [rk_cons, if_pos hd]
      simp only [e]
      exact hd
    · have e : rk (d :: ds) c = rk ds c + 1 := by rw [rk_cons, if_neg hd]
      have h' : rk ds c < ds.length := by rw [e] at h; simpa using h
      simp only [e]
      exact rk_at ds c h'
theorem rk_eq {cs : List ByteArray} {c : ByteArray} {k : Nat} (h : k < cs.length) (h1 : ∀ j (hj : j < k), sEq cs[j] c = false) (h2 : sEq cs[k] c = true) : rk cs c = k := by
  rcases Nat.lt_trichotomy (rk cs c) k with hlt | heq | hgt
  · have := h1 _ hlt
    rw [rk_at cs c (by omega)] at this
    cases this
  · exact heq
  · have := rk_before cs c k h hgt
    rw [h2] at this
    cases this
theorem rk_none {cs : List ByteArray} {c : ByteArray} (h : ∀ j (hj : j < cs.length), sEq cs[j] c = false) : rk cs c = cs.length := by
  rcases Nat.lt_or_eq_of_le (rk_le cs c) with hlt | heq
  · have := h _ hlt
    rw [rk_at cs c hlt] at this
    cases this
  · exact heq
/-- Go's slices.Index: -1 if there is none. -/
def rkI (cs : List ByteArray) (c : ByteArray) : Int := if rk cs c < cs.length then (rk cs c : Int) else -1
theorem rkI_pos {cs : List ByteArray} {c : ByteArray} (h : rk cs c < cs.length) : rkI cs c = (rk cs c : Int) := by unfold rkI; rw [if_pos h]
theorem rkI_neg {cs : List ByteArray} {c : ByteArray} (h : ¬ rk cs c < cs.length) : rkI cs c = -1 := by unfold rkI; rw [if_neg h]
theorem rkI_range (cs : List ByteArray) (c : ByteArray) : -1 ≤ rkI cs c ∧ rkI cs c < cs.length := by
  unfold rkI
  split <;> omega
/-- The bin of a code in a pass; -1 if it has no rank. -/
def binI (p : Pln) (c : ByteArray) (pass : Nat) : Int := if rkI p.order c < 0 then -1 else rkI p.order c / powI p.bins pass % p.bins

/-! ### Missorts -/
def goodM (bins : Int) (ms : List Mis) (k : Nat) : Bool :=
  match ms[k]? with
  | none => false
  | some x => (decide (1 ≤ x.id) && decide (x.id ≤ 9999)) && (decide (0 ≤ x.bin) && decide (x.bin < bins)) && (ms.take k).all (fun y => y.id != x.id)
def misOk (p : Pln) (ms : List Mis) : Bool := planOk p && decide (ms.length ≤ 60) && (List.range ms.length).all (goodM p.bins ms)
theorem misOk_bad {p : Pln} {ms : List Mis} {k : Nat} (hk : k < ms.length) (h : goodM p.bins ms k = false) : misOk p ms = false := by
  unfold misOk
  rw [Bool.and_eq_false_iff]
  exact .inr (List.all_eq_false.2 ⟨k, by simpa using hk, by simp [h]⟩)
theorem misOk_good {p : Pln} {ms : List Mis} (hp : planOk p = true) (h60 : ms.length ≤ 60) (h : ∀ j, j < ms.length → goodM p.bins ms j = true) : misOk p ms = true := by
  unfold misOk
  rw [hp, decide_eq_true h60]
  exact List.all_eq_true.2 fun k hk => h k (by simpa using hk)
theorem misOk_plan {p : Pln} {ms : List Mis} (h : planOk p = false) : misOk p ms = false := by unfold misOk; rw [h]; rfl
theorem misOk_len {p : Pln} {ms : List Mis} (h : ¬ ms.length ≤ 60) : misOk p ms = false := by unfold misOk; rw [decide_eq_false h]; simp
theorem goodM_of {bins : Int} {ms : List Mis} {k : Nat} (hk : k < ms.length) : goodM bins ms k = ((decide (1 ≤ ms[k].id) && decide (ms[k].id ≤ 9999)) && (decide (0 ≤ ms[k].bin) && decide (ms[k].bin < bins)) && (ms.take k).all (fun y => y.id != ms[k].id)) := by
  unfold goodM
  rw [List.getElem?_eq_getElem hk]
theorem planOk_iff {p : Pln} : planOk p = true ↔ (2 ≤ p.bins ∧ p.bins ≤ 16 ∧ 1 ≤ p.passes ∧ p.passes ≤ 4) ∧ (1 ≤ p.order.length ∧ p.order.length ≤ 60) ∧ (p.order.length : Int) ≤ powI p.bins p.passes.toNat ∧ codesOk p.order = true := by
  unfold planOk
  simp only [Bool.and_eq_true, decide_eq_true_iff, shapeOk_iff]
  constructor
  · rintro ⟨⟨⟨h1, h2⟩, h3⟩, h4⟩; exact ⟨h1, h2, h3, h4⟩
  · rintro ⟨h1, h2, h3, h4⟩; exact ⟨⟨⟨h1, h2⟩, h3⟩, h4⟩

end Go.Proofs.YtffbcfaahegglaaDoor

namespace Go.Proofs.YtffbcfaahegglaaDoor
open Go.RowKit

/-- The index of the first element with p; -1 if there is none. -/
def fiI {α : Type} (p : α → Bool) (xs : List α) : Int := if xs.findIdx p < xs.length then (xs.findIdx p : Int) else -1
theorem fiI_at {α : Type} {p : α → Bool} {xs : List α} {k : Nat} (h : k < xs.length) (h1 : ∀ j (hj : j < xs.length), j < k → p xs[j] = false) (h2 : p xs[k] = true) : fiI p xs = k := by
  have e : xs.findIdx p = k := (List.findIdx_eq h).2 ⟨h2, fun j hj => by simpa using h1 j (by omega) hj⟩
  unfold fiI
  rw [e, if_pos h]
theorem fiI_none {α : Type} {p : α → Bool} {xs : List α} (h : ∀ j (hj : j < xs.length), p xs[j] = false) : fiI p xs = -1 := by
  have e : xs.findIdx p = xs.length := List.findIdx_eq_length.2 fun x hx => by
    obtain ⟨j, hj, rfl⟩ := List.getElem_of_mem hx
    exact h j hj
  unfold fiI
  rw [e, if_neg (by omega)]
theorem fiI_range {α : Type} (p : α → Bool) (xs : List α) : -1 ≤ fiI p xs ∧ fiI p xs < xs.length := by
  unfold fiI; split <;> omega
theorem fiI_spec {α : Type} {p : α → Bool} {xs : List α} {k : Nat} (h : fiI p xs = k) : ∃ hk : k < xs.length, p xs[k] = true ∧ ∀ j (hj : j < xs.length), j < k → p xs[j] = false := by
  unfold fiI at h
  split at h
  · rename_i hlt
    have e : xs.findIdx p = k := by omega
    subst e
    exact ⟨hlt, by simpa using List.findIdx_getElem (w := hlt), fun j hj hjk => by simpa using List.not_of_lt_findIdx hjk⟩
  · omega
theorem fiI_neg {α : Type} {p : α → Bool} {xs : List α} (h : fiI p xs < 0) : ∀ x ∈ xs, p x = false := by
  unfold fiI at h
  split at h
  · omega
  · rename_i hlt
    intro x hx
    cases hp : p x
    · rfl
    · exact absurd (List.findIdx_lt_length_of_exists ⟨x, hx, hp⟩) hlt
theorem fiI_ge {α : Type} (p : α → Bool) (xs : List α) : decide (0 ≤ fiI p xs) = !xs.all (fun y => !p y) := by
  by_cases h : fiI p xs < 0
  · rw [decide_eq_false (by omega), List.all_eq_true.2 (fun x hx => by rw [fiI_neg h x hx]; rfl)]; rfl
  · replace h : 0 ≤ fiI p xs := by omega
    obtain ⟨k, hk⟩ := Int.eq_ofNat_of_zero_le h
    obtain ⟨h1, h2, _⟩ := fiI_spec hk
    rw [decide_eq_true h, List.all_eq_false.2 ⟨xs[k], List.getElem_mem _, by simp [h2]⟩]; rfl
theorem fiI_self {α : Type} {p : α → Bool} {xs : List α} {k : Nat} (h : k < xs.length) (hp : p xs[k] = true) : (fiI p xs == (k : Int)) = (xs.take k).all (fun y => !p y) := by
  by_cases ha : (xs.take k).all (fun y => !p y) = true
  · rw [ha, beq_iff_eq]
    refine fiI_at h (fun j hj hjk => ?_) hp
    have := List.all_eq_true.1 ha xs[j] (by rw [List.mem_take_iff_getElem]; exact ⟨j, by omega, rfl⟩)
    simpa using this
  · rw [Bool.not_eq_true] at ha
    rw [ha, beq_eq_false_iff_ne]
    intro e
    obtain ⟨_, _, h3⟩ := fiI_spec e
    obtain ⟨x, hx, hpx⟩ := List.all_eq_false.1 ha
    rw [List.mem_take_iff_getElem] at hx
    obtain ⟨j, hj, rfl⟩ := hx
    rw [h3 j (by omega) (by omega)] at hpx
    simp at hpx

/-- The order for a code. -/
def fwdI (fs : List Fwd) (c : ByteArray) : Int := fiI (fun x => sEq x.src c) fs
def fwdTo (fs : List Fwd) (c : ByteArray) : ByteArray := ((fs[(fwdI fs c).toNat]?).map Fwd.dst).getD ⟨#[]⟩
/-- Orders followed: where letters arrive, behind how many orders, whether. -/
def followN (fs : List Fwd) : Nat → ByteArray → Nat → ByteArray × Nat × Bool
  | 0, _, _ => (⟨#[]⟩, 0, false)
  | f + 1, c, n => if fwdI fs c < 0 then (c, n, true) else followN fs f (fwdTo fs c) (n + 1)
def follow (fs : List Fwd) (c : ByteArray) : ByteArray × Nat × Bool := followN fs (fs.length + 1) c 0
theorem fwdTo_at {fs : List Fwd} {c : ByteArray} {k : Nat} (h : fwdI fs c = k) (hk : k < fs.length) : fwdTo fs c = fs[k].dst := by
  unfold fwdTo; rw [h, Int.toNat_natCast, List.getElem?_eq_getElem hk]; rfl
theorem followN_size {fs : List Fwd} (hf : ∀ x ∈ fs, x.dst.size ≤ maxLen) : ∀ (f : Nat) (c : ByteArray) (n : Nat), c.size ≤ maxLen → (followN fs f c n).1.size ≤ maxLen ∧ (followN fs f c n).2.1 ≤ n + f
  | 0, c, n, _ => ⟨Nat.zero_le _, Nat.zero_le _⟩
  | f + 1, c, n, hc => by
    unfold followN
    split
    · exact ⟨hc, by simp⟩
    · have h := followN_size hf f (fwdTo fs c) (n + 1) (by
        unfold fwdTo
        cases hx : fs[(fwdI fs c).toNat]? with
        | none => exact Nat.zero_le _
        | some x => exact hf x (List.mem_of_getElem? hx))
      exact ⟨h.1, by omega⟩

def goodF (fs : List Fwd) (k : Nat) : Bool :=
  match fs[k]? with
  | none => false
  | some x => isCode x.src && isCode x.dst && (fs.take k).all (fun y => !sEq y.src x.src)
def fwdsOk (fs : List Fwd) : Bool := decide (fs.length ≤ 30) && (List.range fs.length).all (goodF fs)
theorem goodF_of {fs : List Fwd} {k : Nat} (hk : k < fs.length) : goodF fs k = (isCode fs[k].src && isCode fs[k].dst && (fs.take k).all (fun y => !sEq y.src fs[k].src)) := by
  unfold goodF; rw [List.getElem?_eq_getElem hk]
theorem fwdsOk_bad {fs : List Fwd} {k : Nat} (hk : k < fs.length) (h : goodF fs k = false) : fwdsOk fs = false := by
  unfold fwdsOk
  rw [Bool.and_eq_false_iff]
  exact .inr (List.all_eq_false.2 ⟨k, by simpa using hk, by simp [h]⟩)
theorem fwdsOk_good {fs : List Fwd} (h30 : fs.length ≤ 30) (h : ∀ j, j < fs.length → goodF fs j = true) : fwdsOk fs = true := by
  unfold fwdsOk
  rw [decide_eq_true h30]
  exact List.all_eq_true.2 fun k hk => h k (by simpa using hk)
theorem fwdsOk_len {fs : List Fwd} (h : ¬ fs.length ≤ 30) : fwdsOk fs = false := by unfold fwdsOk; rw [decide_eq_false h]; rfl
theorem fwdsOk_iff {fs : List Fwd} : fwdsOk fs = true ↔ fs.length ≤ 30 ∧ ∀ k (h : k < fs.length), isCode fs[k].src = true ∧ isCode fs[k].dst = true ∧ ∀ j (hj : j < k), fs[j].src ≠ fs[k].src := by
  unfold fwdsOk
  rw [Bool.and_eq_true, decide_eq_true_iff, List.all_eq_true]
  refine and_congr Iff.rfl ⟨fun h k hk => ?_, fun h k hk => ?_⟩
  · have := h k (by simpa using hk)
    rw [goodF_of hk] at this
    simp only [Bool.and_eq_true] at this
    refine ⟨this.1.1, this.1.2, fun j hj => ?_⟩
    have hh := List.all_eq_true.1 this.2 fs[j] (by rw [List.mem_take_iff_getElem]; exact ⟨j, by omega, rfl⟩)
    simp only [Bool.not_eq_true'] at hh
    exact sEq_false.1 hh
  · have hk' : k < fs.length := by simpa using hk
    obtain ⟨h1, h2, h3⟩ := h k hk'
    rw [goodF_of hk']
    simp only [Bool.and_eq_true]
    refine ⟨⟨h1, h2⟩, List.all_eq_true.2 fun y hy => ?_⟩
    rw [List.mem_take_iff_getElem] at hy
    obtain ⟨j, hj, rfl⟩ := hy
    simp only [Bool.not_eq_true']
    exact sEq_false.2 (h3 j (by omega))
/-- Held codes. -/
def heldOk (hs : List ByteArray) : Bool := decide (hs.length ≤ 30) && hs.all isCode
def sizeOk (n : Int) : Bool := decide (1 ≤ n) && decide (n ≤ 20)
structure Dy where
  plan : Pln
  fwds : List Fwd
  held : List ByteArray
  size : Int
def dayOk (d : Dy) : Bool := planOk d.plan && fwdsOk d.fwds && heldOk d.held && sizeOk d.size
/-- What becomes of letters for a code. -/
def fateW (n : Nat) : ByteArray := match n with
  | 0 => ⟨#[]⟩
  | 1 => ⟨#[115, 116, 117, 99, 107]⟩
  | 2 => ⟨#[104, 101, 108, 100]⟩
  | 3 => ⟨#[114, 111, 117, 110, 100]⟩
  | _ => ⟨#[115, 116, 114, 97, 110, 103, 101]⟩
def fate (d : Dy) (c : ByteArray) : ByteArray × ByteArray :=
  if dayOk d && isCode c then
    if (follow d.fwds c).2.2 = true then
      if 0 ≤ rkI d.held (follow d.fwds c).1 then ((follow d.fwds c).1, fateW 2)
      else if 0 ≤ rkI d.plan.order (follow d.fwds c).1 then ((follow d.fwds c).1, fateW 3)
      else ((follow d.fwds c).1, fateW 4)
    else (c, fateW 1)
  else (⟨#[]⟩, ⟨#[]⟩)

def rdD (w : World) (B : Nat) (v : Value) (d : Dy) : Prop :=
  ∃ vo vf vh, v = .agg #[.int .i64 d.plan.bins, .int .i64 d.plan.passes, vo, vf, vh, .int .i64 d.size] ∧ isI64 d.plan.bins ∧ isI64 d.plan.passes ∧ isI64 d.size ∧ rd w B vo d.plan.order ∧ rd w B vf d.fwds ∧ rd w B vh d.held
theorem rdD.below {w w' : World} {B : Nat} {v : Value} {d : Dy} (h : rdD w B v d) (hb : Below B w w') : rdD w' B v d := by
  obtain ⟨vo, vf, vh, h1, h2, h3, h4, h5, h6, h7⟩ := h
  exact ⟨vo, vf, vh, h1, h2, h3, h4, h5.below hb, h6.below hb, h7.below hb⟩
theorem rdD.more {w : World} {B B' : Nat} {v : Value} {d : Dy} (h : rdD w B v d) (hB : B ≤ B') : rdD w B' v d := by
  obtain ⟨vo, vf, vh, h1, h2, h3, h4, h5, h6, h7⟩ := h
  exact ⟨vo, vf, vh, h1, h2, h3, h4, h5.more hB, h6.more hB, h7.more hB⟩
theorem rdD.on {w w' : World} {v : Value} {d : Dy} (h : rdD w w.heap.size v d) (hb : Below w.heap.size w w') : rdD w' w'.heap.size v d := (h.below hb).more hb.size
theorem openD {w : World} {B : Nat} {v : Value} {d : Dy} (h : rdD w B v d) : ∃ A0 c0 A1 c1 A2 c2, v = .agg #[.int .i64 d.plan.bins, .int .i64 d.plan.passes, .slice A0 d.plan.order.length c0, .slice A1 d.fwds.length c1, .slice A2 d.held.length c2, .int .i64 d.size] := by
  obtain ⟨vo, vf, vh, rfl, _, _, _, ⟨A, n, c, rfl, rfl, _⟩, ⟨A', n', c', rfl, rfl, _⟩, ⟨A'', n'', c'', rfl, rfl, _⟩⟩ := h
  exact ⟨A, c, A', c', A'', c'', rfl⟩
/-- The parts of a day whose value is written out. -/
theorem partsD {w : World} {B : Nat} {d : Dy} {A0 A1 A2 : Option Addr} {c0 c1 c2 : Nat} (h : rdD w B (.agg #[.int .i64 d.plan.bins, .int .i64 d.plan.passes, .slice A0 d.plan.order.length c0, .slice A1 d.fwds.length c1, .slice A2 d.held.length c2, .int .i64 d.size]) d) :
    rdP w B (.agg #[.int .i64 d.plan.bins, .int .i64 d.plan.passes, .slice A0 d.plan.order.length c0]) d.plan ∧ rd w B (.slice A0 d.plan.order.length c0) d.plan.order ∧ rd w B (.slice A1 d.fwds.length c1) d.fwds ∧ rd w B (.slice A2 d.held.length c2) d.held ∧ isI64 d.size := by
  obtain ⟨vo, vf, vh, h1, h2, h3, h4, h5, h6, h7⟩ := h
  injection h1 with h1
  injection h1 with h1
  simp only [List.cons.injEq, and_true, true_and] at h1
  obtain ⟨rfl, rfl, rfl⟩ := h1
  exact ⟨⟨_, rfl, h2, h3, h5⟩, h5, h6, h7, h4⟩
def ownD (T1 T2 base : Nat) (w : World) (v : Value) (d : Dy) : Prop :=
  ∃ vo vf vh, v = .agg #[.int .i64 d.plan.bins, .int .i64 d.plan.passes, vo, vf, vh, .int .i64 d.size] ∧ isI64 d.plan.bins ∧ isI64 d.plan.passes ∧ isI64 d.size ∧ own T1 base w vo d.plan.order ∧ own T2 base w vf d.fwds ∧ own T1 base w vh d.held ∧ (apart vo vf ∧ apart vo vh ∧ apart vf vh)
theorem ownD.rd {T1 T2 base : Nat} {w : World} {v : Value} {d : Dy} (h : ownD T1 T2 base w v d) : rdD w w.heap.size v d := by
  obtain ⟨vo, vf, vh, h1, h2, h3, h4, h5, h6, h7, _⟩ := h
  exact ⟨vo, vf, vh, h1, h2, h3, h4, h5.rd, h6.rd, h7.rd⟩
theorem ownD.below {T1 T2 base : Nat} {w w' : World} {v : Value} {d : Dy} (h : ownD T1 T2 base w v d) (hb : Below w.heap.size w w') : ownD T1 T2 base w' v d := by
  obtain ⟨vo, vf, vh, h1, h2, h3, h4, h5, h6, h7, h8⟩ := h
  exact ⟨vo, vf, vh, h1, h2, h3, h4, h5.below hb, h6.below hb, h7.below hb, h8⟩

end Go.Proofs.YtffbcfaahegglaaDoor
