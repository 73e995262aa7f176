/- D0 L1 L2 L3 -/
import Derived.Test.YtiaepapdofcnjaaQ2
import Derived.Laws.BitsAllLaws
import Derived.Laws.BitsLemmas
namespace Go.Proofs.Ytiaepapdofcnjaa
open Go.RowKit

instance elByte : El UInt8 where
  size := 1
  el _ _ x cs := cs = [.int .u8 x.toNat]
  len h := by rw [h]; rfl
  more h _ := h
  keep h _ := h
  one h := by rw [h]; intro u hu; simp at hu; rw [hu]; rfl
instance flatByte : Flat UInt8 where
  free h := h
instance elInt : El Int where
  size := 1
  el _ _ x cs := isI64 x ∧ cs = [.int .i64 x]
  len h := by rw [h.2]; rfl
  more h _ := h
  keep h _ := h
  one h := by rw [h.2]; intro u hu; simp at hu; rw [hu]; rfl
instance flatInt : Flat Int where
  free h := h
theorem rdA.byte {w : World} {B : Nat} {A : Option Addr} {xs : List UInt8} (h : rdA w B A xs) (k : Nat) (hk : k < xs.length) :
    ∃ b o, A = some ⟨b, o, none⟩ ∧ b < B ∧ w.cell? ⟨b, o + k, none⟩ = some (.int .u8 (xs[k]).toNat) := by
  obtain ⟨b, o, cs, hA, hb, rfl, hc⟩ := h k hk
  exact ⟨b, o, hA, hb, by simpa [El.size] using hc 0 _ rfl⟩
theorem rdA.int {w : World} {B : Nat} {A : Option Addr} {xs : List Int} (h : rdA w B A xs) (k : Nat) (hk : k < xs.length) :
    ∃ b o, A = some ⟨b, o, none⟩ ∧ b < B ∧ isI64 xs[k] ∧ w.cell? ⟨b, o + k, none⟩ = some (.int .i64 xs[k]) := by
  obtain ⟨b, o, cs, hA, hb, ⟨hi, rfl⟩, hc⟩ := h k hk
  exact ⟨b, o, hA, hb, hi, by simpa [El.size] using hc 0 _ rfl⟩

/-- Block g is a source at its place p, over at most 2000 bytes that lie below g. -/
def rdr (w : World) (g p : Nat) : Prop :=
  ∃ (A : Option Addr) (n c : Nat) (bs : List UInt8), w.heap[g]? = some (.cells #[.slice A n c, .int .i64 (p : Int)] 205 (0, 0)) ∧ n = bs.length ∧ n ≤ 2000 ∧ n ≤ c ∧ c ≤ maxLen ∧ rdA w g A bs
theorem rdr.lt {w : World} {g p : Nat} (h : rdr w g p) : g < w.heap.size := by
  obtain ⟨_, _, _, _, h1, _⟩ := h
  exact (Array.getElem?_eq_some_iff.1 h1).1
theorem rdr.below {w w' : World} {g p : Nat} (h : rdr w g p) (hb : Below w.heap.size w w') : rdr w' g p := by
  have hlt := h.lt
  obtain ⟨A, n, c, bs, h1, h2, h3, h4, h5, h6⟩ := h
  exact ⟨A, n, c, bs, (hb.block g hlt).trans h1, h2, h3, h4, h5, h6.keep fun p hp => hb.cell (Nat.lt_trans hp hlt)⟩
/-- Only the source, and what is new, has turned. -/
theorem rdr.grown {w w' : World} {g p g' : Nat} (h : rdr w g p) (hg : w.grownBy w' (some g')) (hlt : g < g') : rdr w' g p := by
  have hlt' := h.lt
  obtain ⟨A, n, c, bs, h1, h2, h3, h4, h5, h6⟩ := h
  refine ⟨A, n, c, bs, (hg.block g hlt' (fun e => by injection e; omega)).trans h1, h2, h3, h4, h5, h6.keep fun q hq => ?_⟩
  exact World.cell?_of_block (hg.block q.block (by omega) (fun e => by injection e; omega))

theorem xor_nonneg (a b : Nat) (ha : a < 9223372036854775808) (hb : b < 9223372036854775808) : ∃ c : Nat, bits .xor .i64 (a : Int) (b : Int) = (c : Int) ∧ c < 9223372036854775808 := by
  have hx : a ^^^ b < 2 ^ 63 := Nat.xor_lt_two_pow (by omega) (by omega)
  have h1 : ∀ a : Nat, a < 9223372036854775808 → (BitVec.ofInt 64 (a : Int)).toNat = a := fun a ha => by
    rw [BitVec.ofInt_natCast, BitVec.toNat_ofNat]; exact Nat.mod_eq_of_lt (by omega)
  refine ⟨a ^^^ b, ?_, by omega⟩
  show IntKind.i64.wrap ((BitVec.ofInt 64 (a : Int) ^^^ BitVec.ofInt 64 (b : Int)).toNat : Int) = _
  rw [BitVec.toNat_xor, h1 a ha, h1 b hb, IntKind.wrap_i64]
  omega

/-- What 'pick' gives. -/
def picked (n x : Int) : Prop := (n < 1 → x = 0) ∧ (1 ≤ n → 0 ≤ x ∧ x < n)

set_option maxHeartbeats 1000000 in
theorem rd_pick (g p : Nat) (n : Int) (w : World) (hr : rdr w g p) (hp : p ≤ 1099511627776) (hn : isI64 n) :
    Calls Try.prog 179 #[.pointer (some ⟨g, 0, none⟩), .int .i64 n] w fun e w' => ∃ x : Int, e = .returned (.int .i64 x) ∧ picked n x ∧ rdr w' g (p + 1) ∧ w.grownBy w' (some g) := by
  have hlt := hr.lt
  obtain ⟨n1, n2⟩ := hn
  obtain ⟨A, m, c, bs, h1, rfl, h3, h4, h5, h6⟩ := hr
  have g0 : w.cell? ⟨g, 0, none⟩ = some (.slice A bs.length c) := by rw [cell_of_row _ _ _ _ _ _ h1]; rfl
  have g1 : w.cell? ⟨g, 1, none⟩ = some (.int .i64 p) := by rw [cell_of_row _ _ _ _ _ _ h1]; rfl
  have f0 : w.frozen? ⟨g, 1, none⟩ = false := by simp [World.frozen?, h1]
  have hr1 : rdr (w.setCell ⟨g, 1, none⟩ (.int .i64 ((p : Int) + 1))) g (p + 1) :=
    ⟨A, bs.length, c, bs, by simp [World.setCell, Array.getElem?_modify, h1], rfl, h3, h4, h5, h6.keep fun q hq => World.cell?_setCell_other _ _ _ _ (fun e => by subst e; simp at hq)⟩
  have hgr : w.grownBy (w.setCell ⟨g, 1, none⟩ (.int .i64 ((p : Int) + 1))) (some g) := grown_setCell (World.grownBy.refl _ _) (.inl rfl) _
  have HR := Lib.hid hr1; clear hr1
  have H6 := Lib.hid h6; clear h6
  have H1 := Lib.hid h1; clear h1
  have HG := Lib.hid hgr; clear hgr
  unfold maxLen at h5
  go_enter Try.func179, Try.ntmps179
  by_cases hn0 : n < 1
  · have HP : Hid (picked n 0) := ⟨fun _ => rfl, fun h => absurd hn0 (Int.not_lt.2 h)⟩
    go_wp2
    go_ret
    exact ⟨0, rfl, HP.out, HR.out, HG.out⟩
  by_cases hl0 : bs.length = 0
  · have hl0' : ((bs.length : Int) == 0) = true := by simp [hl0]
    have HL := Lib.hid hl0; clear hl0
    have HP : Hid (picked n 0) := ⟨fun _ => rfl, fun h => ⟨Int.le_refl _, Int.lt_of_lt_of_le (by decide) h⟩⟩
    go_wp2
    go_ret
    exact ⟨0, rfl, HP.out, HR.out, HG.out⟩
  have hl0' : ((bs.length : Int) == 0) = false := beq_eq_false_iff_ne.2 (by omega)
  by_cases hpl : p < bs.length
  · obtain ⟨b, o, rfl, hb, c1⟩ := H6.out.byte p hpl
    have hby : (bs[p].toNat : Int) ≤ 255 := by have := bs[p].toNat_lt; omega
    generalize bs[p] = u at *
    have c2 : (w.setCell ⟨g, 1, none⟩ (.int .i64 ((p : Int) + 1))).cell? ⟨b, o + p, none⟩ = some (.int .u8 u.toNat) := (World.cell?_setCell_other _ _ _ _ (fun e => by injection e; omega)).trans c1
    have hmod : 0 ≤ (u.toNat : Int) % n ∧ (u.toNat : Int) % n < n := ⟨Int.emod_nonneg _ (by omega), Int.emod_lt_of_pos _ (by omega)⟩
    have HM := Lib.hid hmod; clear hmod
    have HN := Lib.hid (Int.not_lt.1 hn0)
    go_wp2
    go_ret
    exact ⟨(u.toNat : Int) % n, rfl, ⟨fun h => absurd h (Int.not_lt.2 HN.out), fun _ => HM.out⟩, HR.out, HG.out⟩
  · have hL : 0 < bs.length := by omega
    have hm1 := Nat.mod_lt p hL
    have hm2 := Nat.mod_lt (p * 7 + 3) hL
    obtain ⟨b, o, rfl, hb, c1⟩ := H6.out.byte _ hm1
    obtain ⟨b', o', hA, _, d1⟩ := H6.out.byte _ hm2
    injection hA with hA
    injection hA with hA1 hA2
    subst hA1 hA2
    have hby1 : (bs[p % bs.length].toNat : Int) ≤ 255 := by have := bs[p % bs.length].toNat_lt; omega
    have hby2 : (bs[(p * 7 + 3) % bs.length].toNat : Int) ≤ 255 := by have := bs[(p * 7 + 3) % bs.length].toNat_lt; omega
    generalize bs[p % bs.length] = u at *
    generalize bs[(p * 7 + 3) % bs.length] = u' at *
    have hdv : p / bs.length ≤ p := Nat.div_le_self _ _
    have r1 : (p : Int).tmod (bs.length : Int) = ((p % bs.length : Nat) : Int) := by rw [Int.tmod_eq_emod_of_nonneg (by omega)]; rfl
    have r2 : ((p : Int) * 7 + 3).tmod (bs.length : Int) = (((p * 7 + 3) % bs.length : Nat) : Int) := by rw [Int.tmod_eq_emod_of_nonneg (by omega)]; rfl
    have r3 : (p : Int).tdiv (bs.length : Int) = ((p / bs.length : Nat) : Int) := by rw [Int.tdiv_eq_ediv_of_nonneg (by omega)]; rfl
    generalize hi1 : p % bs.length = i1 at *
    generalize hi2 : (p * 7 + 3) % bs.length = i2 at *
    generalize hi3 : p / bs.length = i3 at *
    clear hi1 hi2 hi3
    have c2 : (w.setCell ⟨g, 1, none⟩ (.int .i64 ((p : Int) + 1))).cell? ⟨b, o + i1, none⟩ = some (.int .u8 u.toNat) := (World.cell?_setCell_other _ _ _ _ (fun e => by injection e; omega)).trans c1
    have d2 : (w.setCell ⟨g, 1, none⟩ (.int .i64 ((p : Int) + 1))).cell? ⟨b, o + i2, none⟩ = some (.int .u8 u'.toNat) := (World.cell?_setCell_other _ _ _ _ (fun e => by injection e; omega)).trans d1
    have q1 : (i1 : Int) < (bs.length : Int) := by omega
    have q2 : (i2 : Int) < (bs.length : Int) := by omega
    go_wp2
    go_quiet (fail)
    have HN := Lib.hid (show 1 ≤ n by omega)
    go_wp2
    go_ret
    obtain ⟨y, hy, _⟩ := xor_nonneg (u.toNat * 131 + u'.toNat * 1117 + p * 29 + i3 * 53) ((u.toNat * 131 + u'.toNat * 1117 + p * 29 + i3 * 53) / 64) (by omega) (by omega)
    have hy' : bits BinOp.xor IntKind.i64 ((u.toNat : Int) * 131 + (u'.toNat : Int) * 1117 + (p : Int) * 29 + (i3 : Int) * 53) (((u.toNat : Int) * 131 + (u'.toNat : Int) * 1117 + (p : Int) * 29 + (i3 : Int) * 53) / 64) = (y : Int) := by
      rw [← hy]; congr 1
    refine ⟨_, rfl, ⟨fun h => absurd h (Int.not_lt.2 HN.out), fun h => ?_⟩, rdr.below HR.out (below_drewN (Below.refl _ _) nq), grown_drewN HG.out nq⟩
    rw [hy', Int.tmod_eq_emod_of_nonneg (by omega)]
    exact ⟨Int.emod_nonneg _ (by omega), Int.emod_lt_of_pos _ (by omega)⟩

end Go.Proofs.Ytiaepapdofcnjaa

namespace Go.Proofs.Ytiaepapdofcnjaa
open Go.RowKit

instance elStr : El ByteArray where
  size := 1
  el _ _ x cs := x.size ≤ maxLen ∧ cs = [.string x]
  len h := by rw [h.2]; rfl
  more h _ := h
  keep h _ := h
  one h := by rw [h.2]; intro u hu; simp at hu; rw [hu]; rfl
instance flatStr : Flat ByteArray where
  free h := h
theorem rdA.str {w : World} {B : Nat} {A : Option Addr} {xs : List ByteArray} (h : rdA w B A xs) (k : Nat) (hk : k < xs.length) :
    ∃ b o, A = some ⟨b, o, none⟩ ∧ b < B ∧ (xs[k]).size ≤ maxLen ∧ w.cell? ⟨b, o + k, none⟩ = some (.string xs[k]) := by
  obtain ⟨b, o, cs, hA, hb, ⟨hi, rfl⟩, hc⟩ := h k hk
  exact ⟨b, o, hA, hb, hi, by simpa [El.size] using hc 0 _ rfl⟩

structure Mis where
  id : Int
  bin : Int
def Mis.ok (x : Mis) : Prop := isI64 x.id ∧ isI64 x.bin
def Mis.cells (x : Mis) : List Value := [.int .i64 x.id, .int .i64 x.bin]
instance elMis : El Mis where
  size := 2
  el _ _ x cs := x.ok ∧ cs = x.cells
  len h := by rw [h.2]; rfl
  more h _ := h
  keep h _ := h
  one h := by rw [h.2]; intro u hu; simp [Mis.cells] at hu; rcases hu with rfl | rfl <;> rfl
instance flatMis : Flat Mis where
  free h := h
theorem rdA.mis {w : World} {B : Nat} {A : Option Addr} {xs : List Mis} (h : rdA w B A xs) (k : Nat) (hk : k < xs.length) :
    ∃ b o, A = some ⟨b, o, none⟩ ∧ b < B ∧ (xs[k]).ok ∧ w.cell? ⟨b, o + k * 2, none⟩ = some (.int .i64 (xs[k]).id) ∧ w.cell? ⟨b, o + k * 2 + 1, none⟩ = some (.int .i64 (xs[k]).bin) := by
  obtain ⟨b, o, cs, hA, hb, ⟨hok, rfl⟩, hc⟩ := h k hk
  exact ⟨b, o, hA, hb, hok, by simpa [Mis.cells, El.size] using hc 0 _ rfl, by simpa [Mis.cells, El.size, Nat.add_assoc] using hc 1 _ rfl⟩

structure Fwd where
  src : ByteArray
  dst : ByteArray
def Fwd.ok (x : Fwd) : Prop := x.src.size ≤ maxLen ∧ x.dst.size ≤ maxLen
def Fwd.cells (x : Fwd) : List Value := [.string x.src, .string x.dst]
instance elFwd : El Fwd where
  size := 2
  el _ _ x cs := x.ok ∧ cs = x.cells
  len h := by rw [h.2]; rfl
  more h _ := h
  keep h _ := h
  one h := by rw [h.2]; intro u hu; simp [Fwd.cells] at hu; rcases hu with rfl | rfl <;> rfl
instance flatFwd : Flat Fwd where
  free h := h
theorem rdA.fwd {w : World} {B : Nat} {A : Option Addr} {xs : List Fwd} (h : rdA w B A xs) (k : Nat) (hk : k < xs.length) :
    ∃ b o, A = some ⟨b, o, none⟩ ∧ b < B ∧ (xs[k]).ok ∧ w.cell? ⟨b, o + k * 2, none⟩ = some (.string (xs[k]).src) ∧ w.cell? ⟨b, o + k * 2 + 1, none⟩ = some (.string (xs[k]).dst) := by
  obtain ⟨b, o, cs, hA, hb, ⟨hok, rfl⟩, hc⟩ := h k hk
  exact ⟨b, o, hA, hb, hok, by simpa [Fwd.cells, El.size] using hc 0 _ rfl, by simpa [Fwd.cells, El.size, Nat.add_assoc] using hc 1 _ rfl⟩

/-- A plan: bins, passes, the codes of the round. -/
structure Pln where
  bins : Int
  passes : Int
  order : List ByteArray
/-- The value v is the plan p, its codes read below block B. -/
def rdP (w : World) (B : Nat) (v : Value) (p : Pln) : Prop :=
  ∃ vo, v = .agg #[.int .i64 p.bins, .int .i64 p.passes, vo] ∧ isI64 p.bins ∧ isI64 p.passes ∧ rd w B vo p.order
theorem rdP.keep {w w' : World} {B : Nat} {v : Value} {p : Pln} (h : rdP w B v p) (hk : ∀ q : Addr, q.block < B → w'.cell? q = w.cell? q) : rdP w' B v p := by
  obtain ⟨vo, h1, h2, h3, h4⟩ := h
  exact ⟨vo, h1, h2, h3, h4.keep hk⟩
theorem rdP.below {w w' : World} {B : Nat} {v : Value} {p : Pln} (h : rdP w B v p) (hb : Below B w w') : rdP w' B v p := h.keep fun _ hp => hb.cell hp
theorem rdP.more {w : World} {B B' : Nat} {v : Value} {p : Pln} (h : rdP w B v p) (hB : B ≤ B') : rdP w B' v p := by
  obtain ⟨vo, h1, h2, h3, h4⟩ := h
  exact ⟨vo, h1, h2, h3, h4.more hB⟩
theorem rdP.on {w w' : World} {v : Value} {p : Pln} (h : rdP w w.heap.size v p) (hb : Below w.heap.size w w') : rdP w' w'.heap.size v p := (h.below hb).more hb.size
/-- A plan whose codes lie in memory of the call's own. -/
def ownP (T base : Nat) (w : World) (v : Value) (p : Pln) : Prop :=
  ∃ vo, v = .agg #[.int .i64 p.bins, .int .i64 p.passes, vo] ∧ isI64 p.bins ∧ isI64 p.passes ∧ own T base w vo p.order
theorem ownP.rd {T base : Nat} {w : World} {v : Value} {p : Pln} (h : ownP T base w v p) : rdP w w.heap.size v p := by
  obtain ⟨vo, h1, h2, h3, h4⟩ := h
  exact ⟨vo, h1, h2, h3, h4.rd⟩
theorem ownP.below {T base : Nat} {w w' : World} {v : Value} {p : Pln} (h : ownP T base w v p) (hb : Below w.heap.size w w') : ownP T base w' v p := by
  obtain ⟨vo, h1, h2, h3, h4⟩ := h
  exact ⟨vo, h1, h2, h3, h4.below hb⟩

/-! ### What makes a plan valid -/
def goodC (cs : List ByteArray) (k : Nat) : Bool :=
  match cs[k]? with
  | none => false
  | some c => isCode c && (cs.take k).all (fun d => !sEq d c)
def codesOk (cs : List ByteArray) : Bool := (List.range cs.length).all (goodC cs)
theorem codesOk_bad {cs : List ByteArray} {k : Nat} (hk : k < cs.length) (h : goodC cs k = false) : codesOk cs = false :=
  List.all_eq_false.2 ⟨k, by simpa using hk, by simp [h]⟩
theorem codesOk_good {cs : List ByteArray} (h : ∀ j, j < cs.length → goodC cs j = true) : codesOk cs = true :=
  List.all_eq_true.2 fun k hk => h k (by simpa using hk)
theorem goodC_of {cs : List ByteArray} {k : Nat} (hk : k < cs.length) : goodC cs k = (isCode cs[k] && (cs.take k).all (fun d => !sEq d cs[k])) := by
  unfold goodC
  rw [List.getElem?_eq_getElem hk]
/-- bins to the power of passes. -/
def powI (b : Int) : Nat → Int
  | 0 => 1
  | n + 1 => powI b n * b
def shapeOk (b p : Int) : Bool := decide (2 ≤ b) && decide (b ≤ 16) && (decide (1 ≤ p) && decide (p ≤ 4))
def planOk (p : Pln) : Bool :=
  shapeOk p.bins p.passes && (decide (1 ≤ p.order.length) && decide (p.order.length ≤ 60)) && decide ((p.order.length : Int) ≤ powI p.bins p.passes.toNat) && codesOk p.order
theorem shapeOk_iff {b p : Int} : shapeOk b p = true ↔ 2 ≤ b ∧ b ≤ 16 ∧ 1 ≤ p ∧ p ≤ 4 := by
  unfold shapeOk
  simp only [Bool.and_eq_true, decide_eq_true_iff]
  omega
theorem powI_bounds {b : Int} (h1 : 2 ≤ b) (h2 : b ≤ 16) : ∀ n : Nat, n ≤ 4 → 1 ≤ powI b n ∧ powI b n ≤ 65536 := by
  have h0 : powI b 0 = 1 := rfl
  have e1 : powI b 1 = powI b 0 * b := rfl
  have e2 : powI b 2 = powI b 1 * b := rfl
  have e3 : powI b 3 = powI b 2 * b := rfl
  have e4 : powI b 4 = powI b 3 * b := rfl
  have st : ∀ x y M : Int, 1 ≤ x → x ≤ M → y = x * b → 1 ≤ y ∧ y ≤ M * 16 := fun x y M hx hM hy => by
    subst hy
    have l1 : 1 * 2 ≤ x * b := Int.mul_le_mul hx h1 (by omega) (by omega)
    have l2 : x * b ≤ M * 16 := Int.mul_le_mul hM h2 (by omega) (by omega)
    omega
  have s1 := st _ _ 1 (by omega) (by omega) e1
  have s2 := st _ _ (1 * 16) s1.1 s1.2 e2
  have s3 := st _ _ (1 * 16 * 16) s2.1 s2.2 e3
  have s4 := st _ _ (1 * 16 * 16 * 16) s3.1 s3.2 e4
  intro n hn
  match n, hn with
  | 0, _ => omega
  | 1, _ => omega
  | 2, _ => omega
  | 3, _ => omega
  | 4, _ => omega

end Go.Proofs.Ytiaepapdofcnjaa

namespace Go.Proofs.Ytiaepapdofcnjaa
open Go.RowKit

/-- The index of the first string that is c; the length if there is none. -/
def rk : List ByteArray → ByteArray → Nat
  | [], _ => 0
  | d :: ds, c => if sEq d c then 0 else rk ds c + 1
theorem rk_cons (d : ByteArray) (ds : List ByteArray) (c : ByteArray) : rk (d :: ds) c = if sEq d c then 0 else rk ds c + 1 := rfl
theorem rk_le : ∀ (cs : List ByteArray) (c : ByteArray), rk cs c ≤ cs.length
  | [], _ => Nat.le_refl _
  | d :: ds, c => by unfold rk; split; · exact Nat.zero_le _
                     · have := rk_le ds c; simp; omega
theorem rk_before : ∀ (cs : List ByteArray) (c : ByteArray) (k : Nat) (h : k < cs.length), k < rk cs c → sEq cs[k] c = false
  | [], _, k, h, _ => absurd h (Nat.not_lt_zero k)
  | d :: ds, c, 0, _, hk => by
    unfold rk at hk
    split at hk
    · omega
    · rename_i h
      simpa using h
  | d :: ds, c, k + 1, h, hk => by
    unfold rk at hk
    split at hk
    · omega
    · exact rk_before ds c k (by simpa using h) (by omega)
theorem rk_at : ∀ (cs : List ByteArray) (c : ByteArray) (h : rk cs c < cs.length), sEq cs[rk cs c] c = true
  | [], _, h => absurd h (Nat.not_lt_zero _)
  | d :: ds, c, h => by
    by_cases hd : sEq d c = true
    · have e : rk (d :: ds) c = 0 := by rw [rk_cons, if_pos hd]
      simp only [e]
      exact hd
    · have e : rk (d :: ds) c = rk ds c + 1 := by rw [rk_cons, if_neg hd]
      have h' : rk ds c < ds.length := by rw [e] at h; simpa using h
      simp only [e]
      exact rk_at ds c h'
theorem rk_eq {cs : List ByteArray} {c : ByteArray} {k : Nat} (h : k < cs.length) (h1 : ∀ j (hj : j < k), sEq cs[j] c = false) (h2 : sEq cs[k] c = true) : rk cs c = k := by
  rcases Nat.lt_trichotomy (rk cs c) k with hlt | heq | hgt
  · have := h1 _ hlt
    rw [rk_at cs c (by omega)] at this
    cases this
  · exact heq
  · have := rk_before cs c k h hgt
    rw [h2] at this
    cases this
theorem rk_none {cs : List ByteArray} {c : ByteArray} (h : ∀ j (hj : j < cs.length), sEq cs[j] c = false) : rk cs c = cs.length := by
  rcases Nat.lt_or_eq_of_le (rk_le cs c) with hlt | heq
  · have := h _ hlt
    rw [rk_at cs c hlt] at this
    cases this
  · exact heq
/-- Go's slices.Index: -1 if there is none. -/
def rkI (cs : List ByteArray) (c : ByteArray) : Int := if rk cs c < cs.length then (rk cs c : Int) else -1
theorem rkI_pos {cs : List ByteArray} {c : ByteArray} (h : rk cs c < cs.length) : rkI cs c = (rk cs c : Int) := by unfold rkI; rw [if_pos h]
theorem rkI_neg {cs : List ByteArray} {c : ByteArray} (h : ¬ rk cs c < cs.length) : rkI cs c = -1 := by unfold rkI; rw [if_neg h]
theorem rkI_range (cs : List ByteArray) (c : ByteArray) : -1 ≤ rkI cs c ∧ rkI cs c < cs.length := by
  unfold rkI
  split <;> omega
/-- The bin of a code in a pass; -1 if it has no rank. -/
def binI (p : Pln) (c : ByteArray) (pass : Nat) : Int := if rkI p.order c < 0 then -1 else rkI p.order c / powI p.bins pass % p.bins

/-! ### Missorts -/
def goodM (bins : Int) (ms : List Mis) (k : Nat) : Bool :=
  match ms[k]? with
  | none => false
  | some x => (decide (1 ≤ x.id) && decide (x.id ≤ 9999)) && (decide (0 ≤ x.bin) && decide (x.bin < bins)) && (ms.take k).all (fun y => y.id != x.id)
def misOk (p : Pln) (ms : List Mis) : Bool := planOk p && decide (ms.length ≤ 60) && (List.range ms.length).all (goodM p.bins ms)
theorem misOk_bad {p : Pln} {ms : List Mis} {k : Nat} (hk : k < ms.length) (h : goodM p.bins ms k = false) : misOk p ms = false := by
  unfold misOk
  rw [Bool.and_eq_false_iff]
  exact .inr (List.all_eq_false.2 ⟨k, by simpa using hk, by simp [h]⟩)
theorem misOk_good {p : Pln} {ms : List Mis} (hp : planOk p = true) (h60 : ms.length ≤ 60) (h : ∀ j, j < ms.length → goodM p.bins ms j = true) : misOk p ms = true := by
  unfold misOk
  rw [hp, decide_eq_true h60]
  exact List.all_eq_true.2 fun k hk => h k (by simpa using hk)
theorem misOk_plan {p : Pln} {ms : List Mis} (h : planOk p = false) : misOk p ms = false := by unfold misOk; rw [h]; rfl
theorem misOk_len {p : Pln} {ms : List Mis} (h : ¬ ms.length ≤ 60) : misOk p ms = false := by unfold misOk; rw [decide_eq_false h]; simp
theorem goodM_of {bins : Int} {ms : List Mis} {k : Nat} (hk : k < ms.length) : goodM bins ms k = ((decide (1 ≤ ms[k].id) && decide (ms[k].id ≤ 9999)) && (decide (0 ≤ ms[k].bin) && decide (ms[k].bin < bins)) && (ms.take k).all (fun y => y.id != ms[k].id)) := by
  unfold goodM
  rw [List.getElem?_eq_getElem hk]
theorem planOk_iff {p : Pln} : planOk p = true ↔ (2 ≤ p.bins ∧ p.bins ≤ 16 ∧ 1 ≤ p.passes ∧ p.passes ≤ 4) ∧ (1 ≤ p.order.length ∧ p.order.length ≤ 60) ∧ (p.order.length : Int) ≤ powI p.bins p.passes.toNat ∧ codesOk p.order = true := by
  unfold planOk
  simp only [Bool.and_eq_true, decide_eq_true_iff, shapeOk_iff]
  constructor
  · rintro ⟨⟨⟨h1, h2⟩, h3⟩, h4⟩; exact ⟨h1, h2, h3, h4⟩
  · rintro ⟨h1, h2, h3, h4⟩; exact ⟨⟨⟨h1, h2⟩, h3⟩, h4⟩

end Go.Proofs.Ytiaepapdofcnjaa

namespace Go.Proofs.Ytiaepapdofcnjaa
open Go.RowKit

/-- The greatest length among those whose rank is at most n. -/
def topLe (L : List (Nat × Nat)) (n : Nat) : Nat := L.foldl (fun a x => if x.1 ≤ n then max a x.2 else a) 0
/-- The greatest length among those of rank n. -/
def topEq (L : List (Nat × Nat)) (n : Nat) : Nat := L.foldl (fun a x => if x.1 = n then max a x.2 else a) 0
def bestK (L : List (Nat × Nat)) : Nat := L.foldl (fun a x => max a x.2) 0
def stepK (L : List (Nat × Nat)) (r : Int) : List (Nat × Nat) := if r < 0 then L else L ++ [(r.toNat, topLe L r.toNat + 1)]
def runK (rs : List Int) : List (Nat × Nat) := rs.foldl stepK []
theorem topLe_snoc (L : List (Nat × Nat)) (x : Nat × Nat) (n : Nat) : topLe (L ++ [x]) n = if x.1 ≤ n then max (topLe L n) x.2 else topLe L n := by
  unfold topLe; rw [List.foldl_append]; rfl
theorem topEq_snoc (L : List (Nat × Nat)) (x : Nat × Nat) (n : Nat) : topEq (L ++ [x]) n = if x.1 = n then max (topEq L n) x.2 else topEq L n := by
  unfold topEq; rw [List.foldl_append]; rfl
theorem bestK_snoc (L : List (Nat × Nat)) (x : Nat × Nat) : bestK (L ++ [x]) = max (bestK L) x.2 := by
  unfold bestK; rw [List.foldl_append]; rfl
theorem runK_snoc (rs : List Int) (r : Int) : runK (rs ++ [r]) = stepK (runK rs) r := by
  unfold runK; rw [List.foldl_append]; rfl
theorem runK_succ (rs : List Int) (k : Nat) (h : k < rs.length) : runK (rs.take (k + 1)) = stepK (runK (rs.take k)) rs[k] := by
  rw [List.take_succ_eq_append_getElem h, runK_snoc]
/-- The greatest of g 0 .. g n. -/
def maxTo (g : Nat → Nat) : Nat → Nat
  | 0 => g 0
  | n + 1 => max (maxTo g n) (g (n + 1))
theorem maxTo_congr {g g' : Nat → Nat} : ∀ n, (∀ j, j ≤ n → g j = g' j) → maxTo g n = maxTo g' n
  | 0, h => h 0 (Nat.le_refl _)
  | n + 1, h => by unfold maxTo; rw [maxTo_congr n fun j hj => h j (by omega), h (n + 1) (Nat.le_refl _)]
theorem maxTo_set (g : Nat → Nat) (r f : Nat) : ∀ n, maxTo (fun j => if r = j then max (g j) f else g j) n = if r ≤ n then max (maxTo g n) f else maxTo g n
  | 0 => by
    unfold maxTo
    by_cases h : r = 0
    · simp [h]
    · simp [h]
  | n + 1 => by
    unfold maxTo
    rw [maxTo_set g r f n]
    by_cases h1 : r ≤ n
    · rw [if_pos h1, if_neg (by omega), if_pos (by omega)]; omega
    · rw [if_neg h1]
      by_cases h2 : r = n + 1
      · rw [if_pos h2, if_pos (by omega)]; omega
      · rw [if_neg h2, if_neg (by omega)]
theorem maxTo_zero : ∀ n, maxTo (fun _ => 0) n = 0
  | 0 => rfl
  | n + 1 => by unfold maxTo; rw [maxTo_zero n]; rfl
theorem snoc_ind {α : Type} {p : List α → Prop} (h0 : p []) (h1 : ∀ l a, p l → p (l ++ [a])) (l : List α) : p l := by
  have : ∀ n (l : List α), l.length = n → p l := fun n => by
    induction n with
    | zero => intro l hl; rw [List.length_eq_zero_iff.1 hl]; exact h0
    | succ n ih =>
      intro l hl
      have hne : l ≠ [] := by intro h; rw [h] at hl; simp at hl
      rw [← List.dropLast_concat_getLast hne]
      exact h1 _ _ (ih _ (by simp [hl]))
  exact this _ l rfl
theorem topLe_eq (L : List (Nat × Nat)) (n : Nat) : maxTo (topEq L) n = topLe L n := by
  induction L using snoc_ind with
  | h0 => exact maxTo_zero n
  | h1 L x ih =>
    rw [topLe_snoc, ← ih, ← maxTo_set]
    exact maxTo_congr n fun j _ => topEq_snoc L x j
theorem topEq_le_maxTo (g : Nat → Nat) : ∀ n j, j ≤ n → g j ≤ maxTo g n
  | 0, j, h => by obtain rfl : j = 0 := by omega
                  exact Nat.le_refl _
  | n + 1, j, h => by
    unfold maxTo
    by_cases hj : j = n + 1
    · rw [hj]; omega
    · have := topEq_le_maxTo g n j (by omega); omega
theorem topEq_step (L : List (Nat × Nat)) (r j : Nat) : topEq (L ++ [(r, topLe L r + 1)]) j = if r = j then topLe L r + 1 else topEq L j := by
  rw [topEq_snoc]
  by_cases h : r = j
  · subst h
    simp only [if_true]
    have := topEq_le_maxTo (topEq L) r r (Nat.le_refl _)
    rw [topLe_eq] at this
    omega
  · rw [if_neg h, if_neg h]
theorem runK_len (rs : List Int) : (runK rs).length ≤ rs.length := by
  induction rs using snoc_ind with
  | h0 => exact Nat.le_refl _
  | h1 rs r ih =>
    rw [runK_snoc]
    unfold stepK
    split
    · simp; omega
    · simp; omega
theorem topLe_bound (rs : List Int) (n : Nat) : topLe (runK rs) n ≤ rs.length ∧ bestK (runK rs) ≤ rs.length := by
  induction rs using snoc_ind generalizing n with
  | h0 => exact ⟨Nat.le_refl _, Nat.le_refl _⟩
  | h1 rs r ih =>
    rw [runK_snoc]
    unfold stepK
    have h1 := ih n
    split
    · simp; omega
    · have h2 := ih r.toNat
      rw [topLe_snoc, bestK_snoc]
      simp only [List.length_append, List.length_cons, List.length_nil]
      split <;> omega

/-- How many letters can stay: all ranks in their order. -/
def ranksOf (p : Pln) (xs : List Ltr) : List Int := xs.map fun x => rkI p.order x.code
def keptN (p : Pln) (xs : List Ltr) : Nat := bestK (runK (ranksOf p xs))
def keptI (p : Pln) (xs : List Ltr) : Int := if planOk p && okB xs then keptN p xs else -1

end Go.Proofs.Ytiaepapdofcnjaa
