/- UD GR NW -/
import Derived.Test.YtffbcfaahegglaaDoorQ3
import Derived.Test.YtffbcfaahegglaaDoorQ1
namespace Go.Proofs.YtffbcfaahegglaaDoor
open Go.RowKit

def sumFw (fs : List Fwd) : Nat := (fs.map fun x => x.src.size + x.dst.size).sum
theorem sumFw_succ (xs : List Fwd) (k : Nat) (h : k < xs.length) : sumFw (xs.take (k + 1)) = sumFw (xs.take k) + (xs[k].src.size + xs[k].dst.size) := by
  unfold sumFw; rw [List.take_succ_eq_append_getElem h, List.map_append, List.sum_append]; simp
theorem sumFw_le (xs : List Fwd) (k : Nat) : sumFw (xs.take k) ≤ sumFw xs := by
  unfold sumFw
  conv => rhs; rw [← List.take_append_drop k xs, List.map_append, List.sum_append]
  omega


def szD (d : Dy) : Nat := szP d.plan + (d.fwds.length + sumFw d.fwds) + (d.held.length + sumStr d.held)




end Go.Proofs.YtffbcfaahegglaaDoor

namespace Go.Proofs.YtffbcfaahegglaaDoor
open Go.RowKit


theorem laws_eqRule (x y : Fwd) (w : World) :
    Calls Tryd.prog 109 #[.agg #[.string x.src, .string x.dst], .agg #[.string y.src, .string y.dst]] w fun e w' => e = .returned (.bool (fwdEq x y)) ∧ Below w.heap.size w w' := by
  have hB : Below w.heap.size w ((w.alloc (Obj.cells #[.string x.src, .string x.dst] 65)).alloc (Obj.cells #[.string y.src, .string y.dst] 65)) := ((Below.refl _ _).alloc (Nat.le_refl _) _).alloc (by simp) _
  cases h0 : sEq x.src y.src
  · have i0 := Lib.hid h0
    unfold sEq at h0
    go_enter Tryd.func109, Tryd.ntmps109
    go_wp2
    go_ret
    exact ⟨ret_bool (by simp [fwdEq, i0.out]), hB⟩
  · have i0 := Lib.hid h0
    unfold sEq at h0
    cases h1 : sEq x.dst y.dst
    · have i1 := Lib.hid h1
      unfold sEq at h1
      go_enter Tryd.func109, Tryd.ntmps109
      go_wp2
      go_ret
      exact ⟨ret_bool (by simp [fwdEq, i0.out, i1.out]), hB⟩
    · have i1 := Lib.hid h1
      unfold sEq at h1
      go_enter Tryd.func109, Tryd.ntmps109
      go_wp2
      go_ret
      exact ⟨ret_bool (by simp [fwdEq, i0.out, i1.out]), hB⟩

theorem Tryd.infoRul : (Tryd.prog.info? 65).map (fun i => (i.zero, i.size, i.bytes)) = some (some (.agg #[.string ⟨#[]⟩, .string ⟨#[]⟩]), 2, 32) := by kernel_rfl


set_option maxRecDepth 100000 in
set_option maxHeartbeats 400000 in
theorem laws_eqRuleS (v v' : Value) (xs ys : List Fwd) (w : World) (hv : rd w w.heap.size v xs) (hv' : rd w w.heap.size v' ys) :
    Calls Tryd.prog 89 #[v, v'] w fun e w' => e = .returned (.bool (eqBy fwdEq xs ys)) ∧ Below w.heap.size w w' := by
  obtain ⟨A, n, c, rfl, hn, hc, hm, hr⟩ := hv
  obtain ⟨A', n', c', rfl, hn', hc', hm', hr'⟩ := hv'
  subst hn hn'
  unfold maxLen at hm hm'
  have HR := Lib.hid hr; clear hr
  have HR' := Lib.hid hr'; clear hr'
  go_enter Tryd.func89, Tryd.ntmps89
  by_cases hl : xs.length = ys.length
  · have hl1 : ((xs.length : Int) != (ys.length : Int)) = false := by simp [hl]
    have HL := Lib.hid hl; clear hl
    go_wp2
    go_loopw [5] (fun i wr => ∃ k : Nat, k ≤ xs.length ∧ i = .int .i64 k ∧ Below w.heap.size w wr ∧ Hid (∀ j (h1 : j < xs.length) (h2 : j < ys.length), j < k → fwdEq xs[j] ys[j] = true)) (fun i _ => xs.length - (intOf i).toNat)
    case atStart => exact ⟨0, Nat.zero_le _, rfl, Below.refl _ _, fun j _ _ hj => absurd hj (Nat.not_lt_zero j)⟩
    case round =>
      obtain ⟨k, hk, rfl, hbl, HG⟩ := hrel
      obtain ⟨w1, rfl⟩ : ∃ w1 : World, w1 = wr := ⟨_, rfl⟩
      by_cases hlt : k < xs.length
      · have hlt' : k < ys.length := by rw [← HL.out]; exact hlt
        obtain ⟨b, o, rfl, hb, _, c1, c2⟩ := HR.out.fwd k hlt
        obtain ⟨b', o', rfl, hb', _, d1, d2⟩ := HR'.out.fwd k hlt'
        have hbad := Lib.hid (fun h => eqBy_bad (p := fwdEq) k hlt hlt' h)
        have HX : Hid (∀ h : fwdEq xs[k] ys[k] = true, ∀ j (h1 : j < xs.length) (h2 : j < ys.length), j < k + 1 → fwdEq xs[j] ys[j] = true) := fun h j h1 h2 hj => by
          by_cases hjk : j < k
          · exact HG.out j h1 h2 hjk
          · obtain rfl : j = k := by omega
            exact h
        generalize xs[k] = x at *
        generalize ys[k] = y at *
        have c1' : w1.cell? ⟨b, o + k * 2, none⟩ = some (.string x.src) := (hbl.cell (p := ⟨b, o + k * 2, none⟩) hb).trans c1
        have c2' : w1.cell? ⟨b, o + k * 2 + 1, none⟩ = some (.string x.dst) := (hbl.cell (p := ⟨b, o + k * 2 + 1, none⟩) hb).trans c2
        have d1' : w1.cell? ⟨b', o' + k * 2, none⟩ = some (.string y.src) := (hbl.cell (p := ⟨b', o' + k * 2, none⟩) hb').trans d1
        have d2' : w1.cell? ⟨b', o' + k * 2 + 1, none⟩ = some (.string y.dst) := (hbl.cell (p := ⟨b', o' + k * 2 + 1, none⟩) hb').trans d2
        clear c1 c2 d1 d2
        have hki : (k : Int) < (xs.length : Int) := by omega
        have hki' : (k : Int) < (ys.length : Int) := by omega
        have hb2 : Below w.heap.size w w1.drew := hbl.drew
        cases he : fwdEq x y
        · have he' := Lib.hid he; clear he
          go_wp2
          go_still_tail 8, (by kernel_rfl)
          change wpList _ _ _ _ _ w1.drew
          generalize w1.drew = w2 at *
          go_wp2_with (go_at_call 109; refine (laws_eqRule _ _ _).mono ?_; rw [he'.out]; rintro e w' ⟨rfl, hb3⟩)
          go_ret
          exact ⟨ret_bool (hbad.out he'.out).symm, hb2.trans (hb3.mono hb2.size)⟩
        · have he' := Lib.hid he; clear he
          go_wp2
          go_still_tail 8, (by kernel_rfl)
          change wpList _ _ _ _ _ w1.drew
          generalize w1.drew = w2 at *
          go_wp2_with (go_at_call 109; refine (laws_eqRule _ _ _).mono ?_; rw [he'.out]; rintro e w' ⟨rfl, hb3⟩)
          go_roundw
          case rel => exact ⟨k + 1, by omega, by go_num, hb2.trans (hb3.mono hb2.size), HX.out he'.out⟩
          case measure => simp [intOf]; omega
      · have HE := Lib.hid (show k = xs.length by omega)
        go_wp2
        go_ret
        exact ⟨ret_bool (eqBy_good HL.out fun j h1 h2 => HG.out j h1 h2 (by rw [HE.out]; exact h1)).symm, hbl⟩
  · have hl1 : ((xs.length : Int) != (ys.length : Int)) = true := by simp; omega
    have HL := Lib.hid hl; clear hl
    go_wp2
    go_ret
    exact ⟨ret_bool (eqBy_len HL.out).symm, Below.refl _ _⟩





end Go.Proofs.YtffbcfaahegglaaDoor

namespace Go.Proofs.YtffbcfaahegglaaDoor
open Go.RowKit

def low (c : UInt8) : Bool := 97 ≤ c.toNat && c.toNat ≤ 122
def lows (l : List UInt8) : Bool := l.all low
theorem lows_take_succ (s : ByteArray) (k : Nat) (h : k < s.size) : lows (s.data.toList.take (k + 1)) = (lows (s.data.toList.take k) && low s[k]) := by
  unfold lows
  rw [List.take_succ_eq_append_getElem (by simpa using h), List.all_append]
  simp; rfl
theorem lows_bad (s : ByteArray) (k : Nat) (h : k < s.size) (hd : low s[k] = false) : lows s.data.toList = false := by
  unfold lows
  rw [List.all_eq_false]
  exact ⟨s[k], by simp [ByteArray.getElem_eq_getElem_data], by simpa using hd⟩
def isName (s : ByteArray) : Bool := lows s.data.toList && (decide (1 ≤ (s.size : Int)) && decide ((s.size : Int) ≤ 8))
def isPfx (s : ByteArray) : Bool := digs s.data.toList && decide (s.size ≤ 7)
theorem isPfx_iff {s : ByteArray} : isPfx s = true ↔ digs s.data.toList = true ∧ s.size ≤ 7 := by unfold isPfx; rw [Bool.and_eq_true, decide_eq_true_iff]
theorem isName_iff {s : ByteArray} : isName s = true ↔ lows s.data.toList = true ∧ 1 ≤ s.size ∧ s.size ≤ 8 := by
  unfold isName; rw [Bool.and_eq_true, Bool.and_eq_true, decide_eq_true_iff, decide_eq_true_iff]
  refine and_congr Iff.rfl ?_
  omega
def hereW : ByteArray := ⟨#[104, 101, 114, 101]⟩
/-- c begins with p. -/
def pre (c p : ByteArray) : Bool := decide (p.size ≤ c.size) && sEq (c.extract 0 p.size) p
theorem pre_iff {c p : ByteArray} : pre c p = true ↔ p.data.toList <+: c.data.toList := by
  unfold pre
  rw [Bool.and_eq_true, decide_eq_true_iff, sEq_iff, List.prefix_iff_eq_take]
  have hl : ∀ s : ByteArray, s.data.toList.length = s.size := fun s => by simp
  constructor
  · rintro ⟨h1, h2⟩
    rw [hl]
    conv => lhs; rw [← h2]
    simp [ByteArray.data_extract, Array.toList_extract, List.extract_eq_take_drop]
  · intro h
    have hs : p.size ≤ c.size := by
      have := congrArg List.length h
      rw [List.length_take, hl, hl] at this
      omega
    refine ⟨hs, ?_⟩
    rw [hl] at h
    have : (c.extract 0 p.size).data.toList = p.data.toList := by
      rw [h]
      simp [ByteArray.data_extract, Array.toList_extract, List.extract_eq_take_drop]
    exact ByteArray.ext (Array.toList_inj.1 this)
def goodR (rs : List Fwd) (k : Nat) : Bool :=
  match rs[k]? with
  | none => false
  | some x => isPfx x.src && isName x.dst && (rs.take k).all (fun y => !sEq y.src x.src)
def rulesOk (rs : List Fwd) : Bool := decide (rs.length ≤ 20) && (List.range rs.length).all (goodR rs)
theorem goodR_of {fs : List Fwd} {k : Nat} (hk : k < fs.length) : goodR fs k = (isPfx fs[k].src && isName fs[k].dst && (fs.take k).all (fun y => !sEq y.src fs[k].src)) := by
  unfold goodR; rw [List.getElem?_eq_getElem hk]
theorem rulesOk_bad {fs : List Fwd} {k : Nat} (hk : k < fs.length) (h : goodR fs k = false) : rulesOk fs = false := by
  unfold rulesOk
  rw [Bool.and_eq_false_iff]
  exact .inr (List.all_eq_false.2 ⟨k, by simpa using hk, by simp [h]⟩)
theorem rulesOk_good {fs : List Fwd} (h30 : fs.length ≤ 20) (h : ∀ j, j < fs.length → goodR fs j = true) : rulesOk fs = true := by
  unfold rulesOk
  rw [decide_eq_true h30]
  exact List.all_eq_true.2 fun k hk => h k (by simpa using hk)
theorem rulesOk_len {fs : List Fwd} (h : ¬ fs.length ≤ 20) : rulesOk fs = false := by unfold rulesOk; rw [decide_eq_false h]; rfl
theorem rulesOk_iff {fs : List Fwd} : rulesOk fs = true ↔ fs.length ≤ 20 ∧ ∀ k (h : k < fs.length), isPfx fs[k].src = true ∧ isName fs[k].dst = true ∧ ∀ j (hj : j < k), fs[j].src ≠ fs[k].src := by
  unfold rulesOk
  rw [Bool.and_eq_true, decide_eq_true_iff, List.all_eq_true]
  refine and_congr Iff.rfl ⟨fun h k hk => ?_, fun h k hk => ?_⟩
  · have := h k (by simpa using hk)
    rw [goodR_of hk] at this
    simp only [Bool.and_eq_true] at this
    refine ⟨this.1.1, this.1.2, fun j hj => ?_⟩
    have hh := List.all_eq_true.1 this.2 fs[j] (by rw [List.mem_take_iff_getElem]; exact ⟨j, by omega, rfl⟩)
    simp only [Bool.not_eq_true'] at hh
    exact sEq_false.1 hh
  · have hk' : k < fs.length := by simpa using hk
    obtain ⟨h1, h2, h3⟩ := h k hk'
    rw [goodR_of hk']
    simp only [Bool.and_eq_true]
    refine ⟨⟨h1, h2⟩, List.all_eq_true.2 fun y hy => ?_⟩
    rw [List.mem_take_iff_getElem] at hy
    obtain ⟨j, hj, rfl⟩ := hy
    simp only [Bool.not_eq_true']
    exact sEq_false.2 (h3 j (by omega))

/-! ### The rule with the longest prefix -/
def plen (rs : List Fwd) (b : Int) : Nat := ((rs[b.toNat]?).map fun x => x.src.size).getD 0
def bestStep (rs : List Fwd) (c : ByteArray) (b : Int) (k : Nat) : Int :=
  match rs[k]? with
  | none => b
  | some x => if pre c x.src = true ∧ (b < 0 ∨ plen rs b < x.src.size) then (k : Int) else b
def bestN (rs : List Fwd) (c : ByteArray) : Nat → Int
  | 0 => -1
  | k + 1 => bestStep rs c (bestN rs c k) k
def bestI (rs : List Fwd) (c : ByteArray) : Int := bestN rs c rs.length
theorem bestN_range (rs : List Fwd) (c : ByteArray) : ∀ k, -1 ≤ bestN rs c k ∧ bestN rs c k < k
  | 0 => ⟨by simp [bestN], by simp [bestN]⟩
  | k + 1 => by
    have h := bestN_range rs c k
    unfold bestN bestStep
    split
    · omega
    · split <;> omega
theorem bestN_miss {rs : List Fwd} {c : ByteArray} {k : Nat} {b : Int} (hk : k < rs.length) (hb : bestN rs c k = b) (h : pre c rs[k].src = false) : bestN rs c (k + 1) = b := by
  show bestStep _ _ _ _ = _
  unfold bestStep
  rw [List.getElem?_eq_getElem hk]
  simp [h, hb]
theorem bestN_keep {rs : List Fwd} {c : ByteArray} {k q : Nat} (hk : k < rs.length) (hq : q < rs.length) (hb : bestN rs c k = q) (h : ¬ rs[q].src.size < rs[k].src.size) : bestN rs c (k + 1) = q := by
  show bestStep _ _ _ _ = _
  unfold bestStep
  rw [List.getElem?_eq_getElem hk, hb]
  have : plen rs (q : Int) = rs[q].src.size := by unfold plen; rw [Int.toNat_natCast, List.getElem?_eq_getElem hq]; rfl
  simp only [this]
  rw [if_neg]
  rintro ⟨_, h1 | h1⟩
  · omega
  · exact h h1
theorem bestN_take {rs : List Fwd} {c : ByteArray} {k : Nat} (hk : k < rs.length) (hp : pre c rs[k].src = true) (h : bestN rs c k < 0 ∨ ∃ q : Nat, ∃ hq : q < rs.length, bestN rs c k = q ∧ rs[q].src.size < rs[k].src.size) : bestN rs c (k + 1) = k := by
  show bestStep _ _ _ _ = _
  unfold bestStep
  rw [List.getElem?_eq_getElem hk]
  dsimp only
  rw [if_pos]
  refine ⟨hp, ?_⟩
  rcases h with h | ⟨q, hq, h1, h2⟩
  · exact .inl h
  · refine .inr ?_
    rw [h1]
    unfold plen
    rw [Int.toNat_natCast, List.getElem?_eq_getElem hq]
    exact h2
/-- Where letters go next; nothing if no rule is for them. -/
def nextS (rs : List Fwd) (c : ByteArray) : ByteArray := if bestI rs c < 0 then ⟨#[]⟩ else ((rs[(bestI rs c).toNat]?).map Fwd.dst).getD ⟨#[]⟩
theorem nextS_none {rs : List Fwd} {c : ByteArray} (h : bestI rs c < 0) : nextS rs c = ⟨#[]⟩ := by unfold nextS; rw [if_pos h]
theorem nextS_at {rs : List Fwd} {c : ByteArray} {k : Nat} (h : bestI rs c = k) (hk : k < rs.length) : nextS rs c = rs[k].dst := by
  unfold nextS
  rw [if_neg (by omega), h, Int.toNat_natCast, List.getElem?_eq_getElem hk]
  rfl
theorem nextS_size {rs : List Fwd} {c : ByteArray} {M : Nat} (h : ∀ x ∈ rs, x.dst.size ≤ M) : (nextS rs c).size ≤ M := by
  by_cases hb : bestI rs c < 0
  · rw [nextS_none hb]; exact Nat.zero_le _
  · obtain ⟨k, hk⟩ := Int.eq_ofNat_of_zero_le (Int.not_lt.1 hb)
    have hr := (bestN_range rs c rs.length).2
    have hk' : bestN rs c rs.length = k := hk
    rw [nextS_at hk (by omega)]
    exact h _ (List.getElem_mem _)

/-! ### Offices -/
structure Ofc where
  name : ByteArray
  rules : List Fwd
def offI (net : List Ofc) (s : ByteArray) : Int := fiI (fun o => sEq o.name s) net
def goodN (net : List Ofc) (r : Fwd) : Bool := sEq r.dst hereW || decide (0 ≤ offI net r.dst)
def goodO (net : List Ofc) (k : Nat) : Bool :=
  match net[k]? with
  | none => false
  | some o => (isName o.name && !sEq o.name hereW && (net.take k).all (fun y => !sEq y.name o.name) && rulesOk o.rules) && o.rules.all (goodN net)
def netOk (net : List Ofc) : Bool := (decide (1 ≤ (net.length : Int)) && decide ((net.length : Int) ≤ 8)) && (List.range net.length).all (goodO net)
theorem goodO_of {net : List Ofc} {k : Nat} (hk : k < net.length) : goodO net k = ((isName net[k].name && !sEq net[k].name hereW && (net.take k).all (fun y => !sEq y.name net[k].name) && rulesOk net[k].rules) && net[k].rules.all (goodN net)) := by
  unfold goodO; rw [List.getElem?_eq_getElem hk]
theorem netOk_bad {net : List Ofc} {k : Nat} (hk : k < net.length) (h : goodO net k = false) : netOk net = false := by
  unfold netOk
  rw [Bool.and_eq_false_iff]
  exact .inr (List.all_eq_false.2 ⟨k, by simpa using hk, by simp [h]⟩)
theorem netOk_good {net : List Ofc} (h : ∀ j, j < net.length → goodO net j = true) : netOk net = (decide (1 ≤ (net.length : Int)) && decide ((net.length : Int) ≤ 8)) := by
  unfold netOk
  rw [List.all_eq_true.2 fun k hk => h k (by simpa using hk), Bool.and_true]
theorem netOk_len {net : List Ofc} (h : ¬ (1 ≤ net.length ∧ net.length ≤ 8)) : netOk net = false := by
  unfold netOk
  rw [Bool.and_eq_false_iff, Bool.and_eq_false_iff, decide_eq_false_iff_not, decide_eq_false_iff_not]
  left; omega
theorem netOk_iff {net : List Ofc} : netOk net = true ↔ (1 ≤ net.length ∧ net.length ≤ 8) ∧ ∀ k (h : k < net.length), isName net[k].name = true ∧ net[k].name ≠ hereW ∧ (∀ j (hj : j < k), net[j].name ≠ net[k].name) ∧ rulesOk net[k].rules = true ∧ ∀ r ∈ net[k].rules, r.dst = hereW ∨ 0 ≤ offI net r.dst := by
  unfold netOk
  rw [Bool.and_eq_true, Bool.and_eq_true, decide_eq_true_iff, decide_eq_true_iff, List.all_eq_true]
  refine and_congr (by omega) ⟨fun h k hk => ?_, fun h k hk => ?_⟩
  · have := h k (by simpa using hk)
    rw [goodO_of hk] at this
    simp only [Bool.and_eq_true, Bool.not_eq_true', sEq_false] at this
    obtain ⟨⟨⟨⟨a, b⟩, c⟩, d⟩, e⟩ := this
    refine ⟨a, b, fun j hj => ?_, d, fun r hr => ?_⟩
    · have hh := List.all_eq_true.1 c net[j] (by rw [List.mem_take_iff_getElem]; exact ⟨j, by omega, rfl⟩)
      simp only [Bool.not_eq_true'] at hh
      exact sEq_false.1 hh
    · have hh := List.all_eq_true.1 e r hr
      unfold goodN at hh
      rw [Bool.or_eq_true, sEq_iff, decide_eq_true_iff] at hh
      exact hh
  · have hk' : k < net.length := by simpa using hk
    obtain ⟨h1, h2, h3, h4, h5⟩ := h k hk'
    rw [goodO_of hk']
    simp only [Bool.and_eq_true, Bool.not_eq_true', sEq_false]
    refine ⟨⟨⟨⟨h1, h2⟩, List.all_eq_true.2 fun y hy => ?_⟩, h4⟩, List.all_eq_true.2 fun r hr => ?_⟩
    · rw [List.mem_take_iff_getElem] at hy
      obtain ⟨j, hj, rfl⟩ := hy
      simp only [Bool.not_eq_true']
      exact sEq_false.2 (h3 j (by omega))
    · unfold goodN
      rw [Bool.or_eq_true, sEq_iff, decide_eq_true_iff]
      exact h5 r hr
theorem names_inj {net : List Ofc} (h : netOk net = true) {i j : Nat} (hi : i < net.length) (hj : j < net.length) (e : net[i].name = net[j].name) : i = j := by
  obtain ⟨_, h⟩ := netOk_iff.1 h
  rcases Nat.lt_trichotomy i j with hlt | heq | hgt
  · exact absurd e ((h j hj).2.2.1 i hlt)
  · exact heq
  · exact absurd e.symm ((h i hi).2.2.1 j hgt)
theorem offI_self {net : List Ofc} (h : netOk net = true) {i : Nat} (hi : i < net.length) : offI net net[i].name = i :=
  fiI_at hi (fun j hj hji => sEq_false.2 fun e => by have := names_inj h hj hi e; omega) (sEq_refl _)
theorem offI_at {net : List Ofc} {s : ByteArray} {k : Nat} (h : offI net s = k) : ∃ hk : k < net.length, net[k].name = s := by
  obtain ⟨hk, h1, _⟩ := fiI_spec h
  exact ⟨hk, sEq_iff.1 h1⟩

/-! ### Paths -/
/-- From one office to the next one: -2: no rule is for the letter; -1: it comes home. -/
def hop (net : List Ofc) (c : ByteArray) (i : Nat) : Int :=
  match net[i]? with
  | none => -2
  | some o => if bestI o.rules c < 0 then -2 else if sEq (nextS o.rules c) hereW = true then -1 else offI net (nextS o.rules c)
def routeN (net : List Ofc) (c : ByteArray) : Nat → List Nat → Nat → List Nat × Int
  | 0, p, _ => (p, 3)
  | f + 1, p, i => if i ∈ p then (p ++ [i], 2) else if hop net c i = -2 then (p ++ [i], 1) else if hop net c i = -1 then (p ++ [i], 0) else routeN net c f (p ++ [i]) (hop net c i).toNat
def route (net : List Ofc) (c : ByteArray) (i : Nat) : List Nat × Int := routeN net c (net.length + 1) [] i
theorem hop_nat {net : List Ofc} (h : netOk net = true) {c : ByteArray} {i : Nat} (hi : i < net.length) (h1 : hop net c i ≠ -2) (h2 : hop net c i ≠ -1) : ∃ j : Nat, j < net.length ∧ hop net c i = j ∧ 0 ≤ bestI net[i].rules c ∧ nextS net[i].rules c ≠ hereW ∧ offI net (nextS net[i].rules c) = j ∧ net[j]?.map Ofc.name = some (nextS net[i].rules c) := by
  have hh : hop net c i = if bestI net[i].rules c < 0 then -2 else if sEq (nextS net[i].rules c) hereW = true then -1 else offI net (nextS net[i].rules c) := by
    unfold hop; rw [List.getElem?_eq_getElem hi]
  rw [hh] at h1 h2 ⊢
  by_cases hb : bestI net[i].rules c < 0
  · rw [if_pos hb] at h1; exact absurd rfl h1
  rw [if_neg hb] at h1 h2 ⊢
  by_cases hs : sEq (nextS net[i].rules c) hereW = true
  · rw [if_pos hs] at h2; exact absurd rfl h2
  rw [if_neg hs]
  obtain ⟨k, hk⟩ := Int.eq_ofNat_of_zero_le (Int.not_lt.1 hb)
  have hr := (bestN_range net[i].rules c net[i].rules.length).2
  have hk' : bestN net[i].rules c net[i].rules.length = k := hk
  have hkl : k < net[i].rules.length := by omega
  have hn : nextS net[i].rules c = (net[i].rules[k]).dst := nextS_at hk hkl
  have ho := ((netOk_iff.1 h).2 i hi).2.2.2.2 (net[i].rules[k]) (List.getElem_mem _)
  rw [← hn] at ho
  have hne : nextS net[i].rules c ≠ hereW := fun e => hs (sEq_iff.2 e)
  rcases ho with ho | ho
  · exact absurd ho hne
  · obtain ⟨j, hj⟩ := Int.eq_ofNat_of_zero_le ho
    obtain ⟨hjl, hjn⟩ := offI_at hj
    exact ⟨j, hjl, hj, by omega, hne, hj, by rw [List.getElem?_eq_getElem hjl, Option.map_some, hjn]⟩
theorem nodup_len : ∀ (n : Nat) (l : List Nat), l.Nodup → (∀ x ∈ l, x < n) → l.length ≤ n
  | 0, l, _, h => by
    cases l with
    | nil => exact Nat.zero_le _
    | cons x l => exact absurd (h x List.mem_cons_self) (Nat.not_lt_zero x)
  | n + 1, l, hn, h => by
    have := nodup_len n (l.erase n) (hn.erase n) fun x hx => by
      have h1 := (hn.mem_erase_iff).1 hx
      have := h x h1.2
      omega
    have hl := List.length_erase (a := n) (l := l)
    split at hl <;> omega
theorem nodup_full {n : Nat} {l : List Nat} (h1 : l.Nodup) (h2 : ∀ x ∈ l, x < n) {i : Nat} (hi : i < n) (hn : n ≤ l.length) : i ∈ l := by
  apply Classical.byContradiction
  intro hc
  have := nodup_len n (i :: l) (List.nodup_cons.2 ⟨hc, h1⟩) (by simpa using ⟨hi, h2⟩)
  simp at this
  omega
/-- The fuel does not matter: it never runs out. -/
def onPath (net : List Ofc) (f : Nat) (p : List Nat) (i : Nat) : Prop := p.Nodup ∧ (∀ x ∈ p, x < net.length) ∧ i < net.length ∧ f + p.length = net.length + 1
theorem onPath_start {net : List Ofc} {i : Nat} (hi : i < net.length) : onPath net (net.length + 1) [] i := ⟨by simp, by simp, hi, by simp⟩
theorem onPath_fuel {net : List Ofc} {f : Nat} {p : List Nat} {i : Nat} (h : onPath net f p i) : ∃ g, f = g + 1 := by
  obtain ⟨h1, h2, h3, h4⟩ := h
  have := nodup_len _ _ h1 h2
  exact ⟨f - 1, by omega⟩
theorem onPath_step {net : List Ofc} {f : Nat} {p : List Nat} {i j : Nat} (h : onPath net (f + 1) p i) (hi : i ∉ p) (hj : j < net.length) : onPath net f (p ++ [i]) j := by
  obtain ⟨h1, h2, h3, h4⟩ := h
  refine ⟨?_, ?_, hj, by simp; omega⟩
  · rw [List.nodup_append]
    refine ⟨h1, by simp, ?_⟩
    intro a ha b hb e
    simp at hb
    subst hb e
    exact hi ha
  · intro x hx
    rcases List.mem_append.1 hx with hx | hx
    · exact h2 x hx
    · simp at hx; omega
theorem route_len {net : List Ofc} (h : netOk net = true) {c : ByteArray} : ∀ (f : Nat) (p : List Nat) (i : Nat), onPath net f p i → p.length + 1 ≤ (routeN net c f p i).1.length ∧ (routeN net c f p i).1.length ≤ net.length + 1 ∧ ∀ x ∈ (routeN net c f p i).1, x < net.length
  | 0, p, i, ho => by obtain ⟨g, hg⟩ := onPath_fuel ho; omega
  | f + 1, p, i, ho => by
    have h1 := nodup_len _ _ ho.1 ho.2.1
    have hi := ho.2.2.1
    have hmem : ∀ x ∈ p ++ [i], x < net.length := fun x hx => by
      rcases List.mem_append.1 hx with hx | hx
      · exact ho.2.1 x hx
      · simp at hx; omega
    unfold routeN
    by_cases hm : i ∈ p
    · rw [if_pos hm]; exact ⟨by simp, by simp; omega, hmem⟩
    rw [if_neg hm]
    split
    · exact ⟨by simp, by simp; omega, hmem⟩
    · split
      · exact ⟨by simp, by simp; omega, hmem⟩
      · rename_i h1 h2
        obtain ⟨j, hj, e, _⟩ := hop_nat h hi h1 h2
        rw [e, Int.toNat_natCast]
        have := route_len h (c := c) f (p ++ [i]) j (onPath_step ho hm hj)
        simp only [List.length_append, List.length_singleton] at this
        exact ⟨by omega, this.2⟩

/-! ### Transits -/
def hops (net : List Ofc) (i : Nat) (xs : List Ltr) : Int := (xs.map fun x => ((route net x.code i).1.length : Int) - 1).sum
def tcOk (net : List Ofc) (s : ByteArray) (xs : List Ltr) : Bool := netOk net && decide (0 ≤ offI net s) && okB xs
def tcI (net : List Ofc) (s : ByteArray) (xs : List Ltr) : Int := if tcOk net s xs = true then hops net (offI net s).toNat xs else -1
theorem hops_succ (net : List Ofc) (i : Nat) (xs : List Ltr) {k : Nat} (hk : k < xs.length) : hops net i (xs.take (k + 1)) = hops net i (xs.take k) + (((route net xs[k].code i).1.length : Int) - 1) := by
  unfold hops
  rw [List.take_succ_eq_append_getElem hk, List.map_append, List.sum_append]
  simp
theorem hops_le {net : List Ofc} (h : netOk net = true) {i : Nat} (hi : i < net.length) : ∀ (xs : List Ltr), 0 ≤ hops net i xs ∧ hops net i xs ≤ xs.length * net.length
  | [] => by simp [hops]
  | x :: xs => by
    have ih := hops_le h hi xs
    have hr := route_len h (c := x.code) (net.length + 1) [] i (onPath_start hi)
    have e : hops net i (x :: xs) = (((route net x.code i).1.length : Int) - 1) + hops net i xs := by unfold hops; simp
    rw [e, List.length_cons, Int.natCast_add, Int.add_mul]
    simp only [List.length_nil] at hr
    have : route net x.code i = routeN net x.code (net.length + 1) [] i := rfl
    rw [this]
    omega

end Go.Proofs.YtffbcfaahegglaaDoor
