/- F0 W2 -/
import Derived.Test.YtmangjjaijhcnaaQ2
import Derived.Test.YtmangjjaijhcnaaQ5
namespace Go.Proofs.Ytmangjjaijhcnaa
open Go.RowKit

/-- The index of the first element with p; -1 if there is none. -/
def fiI {α : Type} (p : α → Bool) (xs : List α) : Int := if xs.findIdx p < xs.length then (xs.findIdx p : Int) else -1
theorem fiI_at {α : Type} {p : α → Bool} {xs : List α} {k : Nat} (h : k < xs.length) (h1 : ∀ j (hj : j < xs.length), j < k → p xs[j] = false) (h2 : p xs[k] = true) : fiI p xs = k := by
  have e : xs.findIdx p = k := (List.findIdx_eq h).2 ⟨h2, fun j hj => by simpa using h1 j (by omega) hj⟩
  unfold fiI
  rw [e, if_pos h]
theorem fiI_none {α : Type} {p : α → Bool} {xs : List α} (h : ∀ j (hj : j < xs.length), p xs[j] = false) : fiI p xs = -1 := by
  have e : xs.findIdx p = xs.length := List.findIdx_eq_length.2 fun x hx => by
    obtain ⟨j, hj, rfl⟩ := List.getElem_of_mem hx
    exact h j hj
  unfold fiI
  rw [e, if_neg (by omega)]
theorem fiI_range {α : Type} (p : α → Bool) (xs : List α) : -1 ≤ fiI p xs ∧ fiI p xs < xs.length := by
  unfold fiI; split <;> omega
theorem fiI_spec {α : Type} {p : α → Bool} {xs : List α} {k : Nat} (h : fiI p xs = k) : ∃ hk : k < xs.length, p xs[k] = true ∧ ∀ j (hj : j < xs.length), j < k → p xs[j] = false := by
  unfold fiI at h
  split at h
  · rename_i hlt
    have e : xs.findIdx p = k := by omega
    subst e
    exact ⟨hlt, by simpa using List.findIdx_getElem (w := hlt), fun j hj hjk => by simpa using List.not_of_lt_findIdx hjk⟩
  · omega
theorem fiI_neg {α : Type} {p : α → Bool} {xs : List α} (h : fiI p xs < 0) : ∀ x ∈ xs, p x = false := by
  unfold fiI at h
  split at h
  · omega
  · rename_i hlt
    intro x hx
    cases hp : p x
    · rfl
    · exact absurd (List.findIdx_lt_length_of_exists ⟨x, hx, hp⟩) hlt
theorem fiI_ge {α : Type} (p : α → Bool) (xs : List α) : decide (0 ≤ fiI p xs) = !xs.all (fun y => !p y) := by
  by_cases h : fiI p xs < 0
  · rw [decide_eq_false (by omega), List.all_eq_true.2 (fun x hx => by rw [fiI_neg h x hx]; rfl)]; rfl
  · replace h : 0 ≤ fiI p xs := by omega
    obtain ⟨k, hk⟩ := Int.eq_ofNat_of_zero_le h
    obtain ⟨h1, h2, _⟩ := fiI_spec hk
    rw [decide_eq_true h, List.all_eq_false.2 ⟨xs[k], List.getElem_mem _, by simp [h2]⟩]; rfl
theorem fiI_self {α : Type} {p : α → Bool} {xs : List α} {k : Nat} (h : k < xs.length) (hp : p xs[k] = true) : (fiI p xs == (k : Int)) = (xs.take k).all (fun y => !p y) := by
  by_cases ha : (xs.take k).all (fun y => !p y) = true
  · rw [ha, beq_iff_eq]
    refine fiI_at h (fun j hj hjk => ?_) hp
    have := List.all_eq_true.1 ha xs[j] (by rw [List.mem_take_iff_getElem]; exact ⟨j, by omega, rfl⟩)
    simpa using this
  · rw [Bool.not_eq_true] at ha
    rw [ha, beq_eq_false_iff_ne]
    intro e
    obtain ⟨_, _, h3⟩ := fiI_spec e
    obtain ⟨x, hx, hpx⟩ := List.all_eq_false.1 ha
    rw [List.mem_take_iff_getElem] at hx
    obtain ⟨j, hj, rfl⟩ := hx
    rw [h3 j (by omega) (by omega)] at hpx
    simp at hpx

/-- The order for a code. -/
def fwdI (fs : List Fwd) (c : ByteArray) : Int := fiI (fun x => sEq x.src c) fs
def fwdTo (fs : List Fwd) (c : ByteArray) : ByteArray := ((fs[(fwdI fs c).toNat]?).map Fwd.dst).getD ⟨#[]⟩
/-- Orders followed: where letters arrive, behind how many orders, whether. -/
def followN (fs : List Fwd) : Nat → ByteArray → Nat → ByteArray × Nat × Bool
  | 0, _, _ => (⟨#[]⟩, 0, false)
  | f + 1, c, n => if fwdI fs c < 0 then (c, n, true) else followN fs f (fwdTo fs c) (n + 1)
def follow (fs : List Fwd) (c : ByteArray) : ByteArray × Nat × Bool := followN fs (fs.length + 1) c 0
theorem fwdTo_at {fs : List Fwd} {c : ByteArray} {k : Nat} (h : fwdI fs c = k) (hk : k < fs.length) : fwdTo fs c = fs[k].dst := by
  unfold fwdTo; rw [h, Int.toNat_natCast, List.getElem?_eq_getElem hk]; rfl
theorem followN_size {fs : List Fwd} (hf : ∀ x ∈ fs, x.dst.size ≤ maxLen) : ∀ (f : Nat) (c : ByteArray) (n : Nat), c.size ≤ maxLen → (followN fs f c n).1.size ≤ maxLen ∧ (followN fs f c n).2.1 ≤ n + f
  | 0, c, n, _ => ⟨Nat.zero_le _, Nat.zero_le _⟩
  | f + 1, c, n, hc => by
    unfold followN
    split
    · exact ⟨hc, by simp⟩
    · have h := followN_size hf f (fwdTo fs c) (n + 1) (by
        unfold fwdTo
        cases hx : fs[(fwdI fs c).toNat]? with
        | none => exact Nat.zero_le _
        | some x => exact hf x (List.mem_of_getElem? hx))
      exact ⟨h.1, by omega⟩

def goodF (fs : List Fwd) (k : Nat) : Bool :=
  match fs[k]? with
  | none => false
  | some x => isCode x.src && isCode x.dst && (fs.take k).all (fun y => !sEq y.src x.src)
def fwdsOk (fs : List Fwd) : Bool := decide (fs.length ≤ 30) && (List.range fs.length).all (goodF fs)
theorem goodF_of {fs : List Fwd} {k : Nat} (hk : k < fs.length) : goodF fs k = (isCode fs[k].src && isCode fs[k].dst && (fs.take k).all (fun y => !sEq y.src fs[k].src)) := by
  unfold goodF; rw [List.getElem?_eq_getElem hk]
theorem fwdsOk_bad {fs : List Fwd} {k : Nat} (hk : k < fs.length) (h : goodF fs k = false) : fwdsOk fs = false := by
  unfold fwdsOk
  rw [Bool.and_eq_false_iff]
  exact .inr (List.all_eq_false.2 ⟨k, by simpa using hk, by simp [h]⟩)
theorem fwdsOk_good {fs : List Fwd} (h30 : fs.length ≤ 30) (h : ∀ j, j < fs.length → goodF fs j = true) : fwdsOk fs = true := by
  unfold fwdsOk
  rw [decide_eq_true h30]
  exact List.all_eq_true.2 fun k hk => h k (by simpa using hk)
theorem fwdsOk_len {fs : List Fwd} (h : ¬ fs.length ≤ 30) : fwdsOk fs = false := by unfold fwdsOk; rw [decide_eq_false h]; rfl
theorem fwdsOk_iff {fs : List Fwd} : fwdsOk fs = true ↔ fs.length ≤ 30 ∧ ∀ k (h : k < fs.length), isCode fs[k].src = true ∧ isCode fs[k].dst = true ∧ ∀ j (hj : j < k), fs[j].src ≠ fs[k].src := by
  unfold fwdsOk
  rw [Bool.and_eq_true, decide_eq_true_iff, List.all_eq_true]
  refine and_congr Iff.rfl ⟨fun h k hk => ?_, fun h k hk => ?_⟩
  · have := h k (by simpa using hk)
    rw [goodF_of hk] at this
    simp only [Bool.and_eq_true] at this
    refine ⟨this.1.1, this.1.2, fun j hj => ?_⟩
    have hh := List.all_eq_true.1 this.2 fs[j] (by rw [List.mem_take_iff_getElem]; exact ⟨j, by omega, rfl⟩)
    simp only [Bool.not_eq_true'] at hh
    exact sEq_false.1 hh
  · have hk' : k < fs.length := by simpa using hk
    obtain ⟨h1, h2, h3⟩ := h k hk'
    rw [goodF_of hk']
    simp only [Bool.and_eq_true]
    refine ⟨⟨h1, h2⟩, List.all_eq_true.2 fun y hy => ?_⟩
    rw [List.mem_take_iff_getElem] at hy
    obtain ⟨j, hj, rfl⟩ := hy
    simp only [Bool.not_eq_true']
    exact sEq_false.2 (h3 j (by omega))
/-- Held codes. -/
def heldOk (hs : List ByteArray) : Bool := decide (hs.length ≤ 30) && hs.all isCode
def sizeOk (n : Int) : Bool := decide (1 ≤ n) && decide (n ≤ 20)
structure Dy where
  plan : Pln
  fwds : List Fwd
  held : List ByteArray
  size : Int
def dayOk (d : Dy) : Bool := planOk d.plan && fwdsOk d.fwds && heldOk d.held && sizeOk d.size
/-- What becomes of letters for a code. -/
def fateW (n : Nat) : ByteArray := match n with
  | 0 => ⟨#[]⟩
  | 1 => ⟨#[115, 116, 117, 99, 107]⟩
  | 2 => ⟨#[104, 101, 108, 100]⟩
  | 3 => ⟨#[114, 111, 117, 110, 100]⟩
  | _ => ⟨#[115, 116, 114, 97, 110, 103, 101]⟩
def fate (d : Dy) (c : ByteArray) : ByteArray × ByteArray :=
  if dayOk d && isCode c then
    if (follow d.fwds c).2.2 = true then
      if 0 ≤ rkI d.held (follow d.fwds c).1 then ((follow d.fwds c).1, fateW 2)
      else if 0 ≤ rkI d.plan.order (follow d.fwds c).1 then ((follow d.fwds c).1, fateW 3)
      else ((follow d.fwds c).1, fateW 4)
    else (c, fateW 1)
  else (⟨#[]⟩, ⟨#[]⟩)

def rdD (w : World) (B : Nat) (v : Value) (d : Dy) : Prop :=
  ∃ vo vf vh, v = .agg #[.int .i64 d.plan.bins, .int .i64 d.plan.passes, vo, vf, vh, .int .i64 d.size] ∧ isI64 d.plan.bins ∧ isI64 d.plan.passes ∧ isI64 d.size ∧ rd w B vo d.plan.order ∧ rd w B vf d.fwds ∧ rd w B vh d.held
theorem rdD.below {w w' : World} {B : Nat} {v : Value} {d : Dy} (h : rdD w B v d) (hb : Below B w w') : rdD w' B v d := by
  obtain ⟨vo, vf, vh, h1, h2, h3, h4, h5, h6, h7⟩ := h
  exact ⟨vo, vf, vh, h1, h2, h3, h4, h5.below hb, h6.below hb, h7.below hb⟩
theorem rdD.more {w : World} {B B' : Nat} {v : Value} {d : Dy} (h : rdD w B v d) (hB : B ≤ B') : rdD w B' v d := by
  obtain ⟨vo, vf, vh, h1, h2, h3, h4, h5, h6, h7⟩ := h
  exact ⟨vo, vf, vh, h1, h2, h3, h4, h5.more hB, h6.more hB, h7.more hB⟩
theorem rdD.on {w w' : World} {v : Value} {d : Dy} (h : rdD w w.heap.size v d) (hb : Below w.heap.size w w') : rdD w' w'.heap.size v d := (h.below hb).more hb.size
theorem openD {w : World} {B : Nat} {v : Value} {d : Dy} (h : rdD w B v d) : ∃ A0 c0 A1 c1 A2 c2, v = .agg #[.int .i64 d.plan.bins, .int .i64 d.plan.passes, .slice A0 d.plan.order.length c0, .slice A1 d.fwds.length c1, .slice A2 d.held.length c2, .int .i64 d.size] := by
  obtain ⟨vo, vf, vh, rfl, _, _, _, ⟨A, n, c, rfl, rfl, _⟩, ⟨A', n', c', rfl, rfl, _⟩, ⟨A'', n'', c'', rfl, rfl, _⟩⟩ := h
  exact ⟨A, c, A', c', A'', c'', rfl⟩
/-- The parts of a day whose value is written out. -/
theorem partsD {w : World} {B : Nat} {d : Dy} {A0 A1 A2 : Option Addr} {c0 c1 c2 : Nat} (h : rdD w B (.agg #[.int .i64 d.plan.bins, .int .i64 d.plan.passes, .slice A0 d.plan.order.length c0, .slice A1 d.fwds.length c1, .slice A2 d.held.length c2, .int .i64 d.size]) d) :
    rdP w B (.agg #[.int .i64 d.plan.bins, .int .i64 d.plan.passes, .slice A0 d.plan.order.length c0]) d.plan ∧ rd w B (.slice A0 d.plan.order.length c0) d.plan.order ∧ rd w B (.slice A1 d.fwds.length c1) d.fwds ∧ rd w B (.slice A2 d.held.length c2) d.held ∧ isI64 d.size := by
  obtain ⟨vo, vf, vh, h1, h2, h3, h4, h5, h6, h7⟩ := h
  injection h1 with h1
  injection h1 with h1
  simp only [List.cons.injEq, and_true, true_and] at h1
  obtain ⟨rfl, rfl, rfl⟩ := h1
  exact ⟨⟨_, rfl, h2, h3, h5⟩, h5, h6, h7, h4⟩
def ownD (T1 T2 base : Nat) (w : World) (v : Value) (d : Dy) : Prop :=
  ∃ vo vf vh, v = .agg #[.int .i64 d.plan.bins, .int .i64 d.plan.passes, vo, vf, vh, .int .i64 d.size] ∧ isI64 d.plan.bins ∧ isI64 d.plan.passes ∧ isI64 d.size ∧ own T1 base w vo d.plan.order ∧ own T2 base w vf d.fwds ∧ own T1 base w vh d.held ∧ (apart vo vf ∧ apart vo vh ∧ apart vf vh)
theorem ownD.rd {T1 T2 base : Nat} {w : World} {v : Value} {d : Dy} (h : ownD T1 T2 base w v d) : rdD w w.heap.size v d := by
  obtain ⟨vo, vf, vh, h1, h2, h3, h4, h5, h6, h7, _⟩ := h
  exact ⟨vo, vf, vh, h1, h2, h3, h4, h5.rd, h6.rd, h7.rd⟩
theorem ownD.below {T1 T2 base : Nat} {w w' : World} {v : Value} {d : Dy} (h : ownD T1 T2 base w v d) (hb : Below w.heap.size w w') : ownD T1 T2 base w' v d := by
  obtain ⟨vo, vf, vh, h1, h2, h3, h4, h5, h6, h7, h8⟩ := h
  exact ⟨vo, vf, vh, h1, h2, h3, h4, h5.below hb, h6.below hb, h7.below hb, h8⟩

end Go.Proofs.Ytmangjjaijhcnaa

namespace Go.Proofs.Ytmangjjaijhcnaa
open Go.RowKit

theorem listOf {α : Type} {p : Nat → α → Prop} : ∀ {n : Nat}, (∀ i, i < n → ∃ y, p i y) → ∃ xs : List α, xs.length = n ∧ ∀ i (h : i < xs.length), p i xs[i]
  | 0, _ => ⟨[], rfl, fun i h => absurd h (Nat.not_lt_zero i)⟩
  | n + 1, h => by
    obtain ⟨xs, hl, hp⟩ := listOf (n := n) (fun i hi => h i (by omega))
    obtain ⟨y, hy⟩ := h n (by omega)
    refine ⟨xs ++ [y], by simp [hl], fun i hi => ?_⟩
    by_cases hin : i < xs.length
    · rw [List.getElem_append_left hin]
      exact hp i hin
    · have : i = n := by simp at hi; omega
      subst this
      rw [List.getElem_append_right (by omega)]
      simpa [hl] using hy

theorem run_append_of_nil {P : Program} (w : World) (base : Nat) (t ty e : TypeId) (i : TypeInfo) (size : Nat) (ht : P.underlying t = some (.slice e)) (hi : P.info? e = some i)
    (v : Value) (n : Nat) (xs : List Value) (hown : w.ownsRow base e size v n xs) (c : Nat) : (Builtin.append_ #[t, t] ty #[v, .slice none 0 c]).run P w = .ok v w := by
  rcases hown.2 with ⟨rfl, rfl⟩ | ⟨g, cap, cur, rfl, _, _, hnc, _⟩
  · simp [Builtin.append_, run_underlying ht, sizeOf, typeInfo, hi, Builtin.lenOf, Builtin.firstCells]
  · simp [Builtin.append_, run_underlying ht, sizeOf, typeInfo, hi, Builtin.lenOf, Builtin.firstCells, hnc, storeCells]

/-- 'out = append(out, xs...)': what the builtin does. -/
theorem run_appendAll {α : Type} [Flat α] {P : Program} (w : World) (base : Nat) (t ty e : TypeId) (i : TypeInfo) (z : Value) (bytes : Nat) (ht : P.underlying t = some (.slice e)) (hi : P.info? e = some i) (hz : i.zero = some z)
    (hsize : i.size = El.size α) (hby : i.bytes = bytes) (hzs : z.cells.size = El.size α) (hsz : 0 < El.size α)
    (v : Value) (xs : List α) (hown : own e base w v xs) (vx : Value) (ys : List α) (B : Nat) (hr : rd w B vx ys)
    (h63 : xs.length + ys.length ≤ maxLen) (hbytes : (xs.length + ys.length) * bytes ≤ 140737488355328) (hbase : base ≤ w.heap.size) :
    ∃ v' w', (Builtin.append_ #[t, t] ty #[v, vx]).run P w = .ok v' w' ∧ own e base w' v' (xs ++ ys) ∧ w.grownBy w' v.ownBlock ∧ (v'.ownBlock = v.ownBlock ∨ v'.ownBlock = some w.heap.size) := by
  obtain ⟨css, hrow, hl, he⟩ := hown
  obtain ⟨A, n, c, rfl, hn, hc, hm, hrd⟩ := hr
  subst hn
  have hex := listOf (n := ys.length) (p := fun k (cs : List Value) => ∀ h : k < ys.length, ∃ b o, A = some ⟨b, o, none⟩ ∧ El.el w B ys[k] cs ∧ ∀ j u, cs[j]? = some u → w.cell? ⟨b, o + (k * El.size α + j), none⟩ = some u) (fun k hk => by
    obtain ⟨b, o, cs, h1, _, h3, h4⟩ := hrd k hk
    exact ⟨cs, fun _ => ⟨b, o, h1, h3, h4⟩⟩)
  obtain ⟨dss, hdl, hds⟩ := hex
  have hdlen : ∀ x ∈ dss, x.length = El.size α := fun x hx => by
    obtain ⟨k, hk, rfl⟩ := List.getElem_of_mem hx
    obtain ⟨_, _, _, h, _⟩ := hds k hk (by omega)
    exact El.len h
  have hownew : ∀ v' w', w'.ownsRow base e (El.size α) v' (xs.length + ys.length) (css.flatten ++ dss.flatten) → own e base w' v' (xs ++ ys) := fun v' w' ho => by
    refine ⟨css ++ dss, by simpa using ho, by simp [hl, hdl], fun k h1 h2 => ?_⟩
    by_cases hk : k < xs.length
    · rw [List.getElem_append_left hk, List.getElem_append_left (by omega)]
      exact Flat.free (he k hk (by omega))
    · have hkl : k - xs.length < ys.length := by simp at h1; omega
      rw [List.getElem_append_right (by omega), List.getElem_append_right (by omega)]
      obtain ⟨_, _, _, h, _⟩ := hds (k - xs.length) (by omega) hkl
      simp only [hl]
      exact Flat.free h
  cases A with
  | none =>
    have h0 : ys.length = 0 := by
      rcases Nat.eq_zero_or_pos ys.length with h | h
      · exact h
      · obtain ⟨_, _, _, h1, _⟩ := hrd 0 h
        cases h1
    have hy : ys = [] := List.eq_nil_of_length_eq_zero h0
    subst hy
    have hd : dss = [] := List.eq_nil_of_length_eq_zero (by simpa using hdl)
    subst hd
    exact ⟨v, w, run_append_of_nil w base t ty e i _ ht hi v _ _ hrow c, hownew v w (by simpa using hrow), World.grownBy.refl w _, .inl rfl⟩
  | some ad =>
    have hcells : ∀ j u, dss.flatten[j]? = some u → w.cell? (ad.add j) = some u := fun j u hu => by
      have hjl : j < dss.flatten.length := (List.getElem?_eq_some_iff.1 hu).1
      rw [flatten_length hdlen, hdl] at hjl
      have hk : j / El.size α < ys.length := Nat.div_lt_of_lt_mul (by rw [Nat.mul_comm]; exact hjl)
      have hr' : j % El.size α < El.size α := Nat.mod_lt _ hsz
      have hj : j = j / El.size α * El.size α + j % El.size α := by rw [Nat.mul_comm]; exact (Nat.div_add_mod j _).symm
      obtain ⟨b, o, hA, _, hcc⟩ := hds (j / El.size α) (by omega) hk
      injection hA with hA
      subst hA
      rw [add_lit, hj]
      refine hcc _ u ?_
      rw [hj] at hu
      rw [← hu, flatten_get hdlen (by omega) hr']
    obtain ⟨v', w', hrun, h2, h3, _, h5⟩ := run_append_own_at (P := P) w base t ty e i z (El.size α) bytes ht hi hz hsize hby hzs hsz v xs.length css.flatten hrow ad ys.length c dss.flatten (by rw [flatten_length hdlen, hdl]) hcells
      (fun u hu => by
        obtain ⟨cs, hcs, hu'⟩ := List.mem_flatten.1 hu
        obtain ⟨k, hk, rfl⟩ := List.getElem_of_mem hcs
        obtain ⟨_, _, _, h, _⟩ := hds k hk (by omega)
        exact El.one h u hu') h63 hbytes hbase
    exact ⟨v', w', hrun, hownew v' w' h2, h3, h5⟩

theorem wp_appendAll {α : Type} [Flat α] {P : Program} {w : World} {o : Oper} {a : Act} {K : Act → World → Prop} {Q : Exit → Act → World → Prop} (s x : Operand) (t : TypeId)
    (ho : o.op = .call { callee := .builtin .append, args := #[s, x], argTypes := #[t, t] })
    (base : Nat) (e : TypeId) (i : TypeInfo) (z : Value) (bytes : Nat) (ht : P.underlying t = some (.slice e)) (hi : P.info? e = some i) (hz : i.zero = some z)
    (hsize : i.size = El.size α) (hby : i.bytes = bytes) (hzs : z.cells.size = El.size α) (hsz : 0 < El.size α)
    (v : Value) (xs : List α) (hs : a.eval s = v) (hown : own e base w v xs) (vx : Value) (ys : List α) (hx : a.eval x = vx) (B : Nat) (hr : rd w B vx ys)
    (h63 : xs.length + ys.length ≤ maxLen) (hbytes : (xs.length + ys.length) * bytes ≤ 140737488355328) (hbase : base ≤ w.heap.size)
    (h : ∀ v' w', own e base w' v' (xs ++ ys) → w.grownBy w' v.ownBlock → (v'.ownBlock = v.ownBlock ∨ v'.ownBlock = some w.heap.size) → K (a.put o.dst v') w') : o.wp P a w K Q := by
  obtain ⟨v', w', hrun, h2, h3, h4⟩ := run_appendAll (P := P) w base t o.type e i z bytes ht hi hz hsize hby hzs hsz v xs hown vx ys B hr h63 hbytes hbase
  unfold Oper.wp execOp
  simp only [ho, resolve, invoke, builtin, Sem.run_bind, Sem.run_pure, Result.andThen_ok, List.map_toArray, List.map_cons, List.map_nil, hs, hx, hrun]
  exact h v' w' h2 h3 h4

theorem wpList_appendAll {α : Type} [Flat α] {P : Program} {w : World} {ops : Array Oper} {rest : List Oper} {o : Oper} {a : Act} {Q : Exit → Act → World → Prop} (hgd : o.guard = none) (s x : Operand) (t : TypeId)
    (ho : o.op = .call { callee := .builtin .append, args := #[s, x], argTypes := #[t, t] })
    (base : Nat) (e : TypeId) (i : TypeInfo) (z : Value) (bytes : Nat) (ht : P.underlying t = some (.slice e)) (hi : P.info? e = some i) (hz : i.zero = some z)
    (hsize : i.size = El.size α) (hby : i.bytes = bytes) (hzs : z.cells.size = El.size α) (hsz : 0 < El.size α)
    (v : Value) (xs : List α) (hs : a.eval s = v) (hown : own e base w v xs) (vx : Value) (ys : List α) (hx : a.eval x = vx) (B : Nat) (hr : rd w B vx ys)
    (h63 : xs.length + ys.length ≤ maxLen) (hbytes : (xs.length + ys.length) * bytes ≤ 140737488355328) (hbase : base ≤ w.heap.size)
    (h : ∀ v' w', own e base w' v' (xs ++ ys) → w.grownBy w' v.ownBlock → (v'.ownBlock = v.ownBlock ∨ v'.ownBlock = some w.heap.size) → wpList P ops Q rest (a.put o.dst v') w') : wpList P ops Q (o :: rest) a w :=
  wpList_plain hgd fun _ hK => wp_appendAll s x t ho base e i z bytes ht hi hz hsize hby hzs hsz v xs hs hown vx ys hx B hr h63 hbytes hbase fun v' w' h2 h3 h4 => hK _ _ (h v' w' h2 h3 h4)

theorem own_some {α : Type} [El α] {T base n c : Nat} {A : Option Addr} {w : World} {xs : List α} (h : own T base w (.slice A n c) xs) (h0 : 0 < xs.length) :
    ∃ g, A = some ⟨g, 0, none⟩ ∧ base ≤ g ∧ g < w.heap.size ∧ xs.length ≤ c ∧ c ≤ maxLen := by
  rcases h.form with ⟨_, h1⟩ | ⟨g, c', h1, h2, h3, h4, h5⟩
  · subst h1; simp at h0
  · injection h1 with e1 e2 e3
    subst e1 e3
    exact ⟨g, rfl, h2, h3, h4, h5⟩

end Go.Proofs.Ytmangjjaijhcnaa
