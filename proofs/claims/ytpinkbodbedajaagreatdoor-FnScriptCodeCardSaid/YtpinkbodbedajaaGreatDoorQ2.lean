/- NW NQ NF K1 K2 K3 -/
import Derived.Test.YtpinkbodbedajaaGreatDoorQ1
import Derived.Laws.MathBits
import Derived.Handy
import Derived.Deep.QuietTactic
import Derived.BigQuiet
import Derived.IntWalk
namespace Go.Proofs.YtpinkbodbedajaaGreatDoor
open Go.RowKit

def low (c : UInt8) : Bool := 97 ≤ c.toNat && c.toNat ≤ 122
def lows (l : List UInt8) : Bool := l.all low
theorem lows_take_succ (s : ByteArray) (k : Nat) (h : k < s.size) : lows (s.data.toList.take (k + 1)) = (lows (s.data.toList.take k) && low s[k]) := by
  unfold lows
  rw [List.take_succ_eq_append_getElem (by simpa using h), List.all_append]
  simp; rfl
theorem lows_bad (s : ByteArray) (k : Nat) (h : k < s.size) (hd : low s[k] = false) : lows s.data.toList = false := by
  unfold lows
  rw [List.all_eq_false]
  exact ⟨s[k], by simp [ByteArray.getElem_eq_getElem_data], by simpa using hd⟩
def isName (s : ByteArray) : Bool := lows s.data.toList && (decide (1 ≤ (s.size : Int)) && decide ((s.size : Int) ≤ 8))
def isPfx (s : ByteArray) : Bool := digs s.data.toList && decide (s.size ≤ 7)
theorem isPfx_iff {s : ByteArray} : isPfx s = true ↔ digs s.data.toList = true ∧ s.size ≤ 7 := by unfold isPfx; rw [Bool.and_eq_true, decide_eq_true_iff]
theorem isName_iff {s : ByteArray} : isName s = true ↔ lows s.data.toList = true ∧ 1 ≤ s.size ∧ s.size ≤ 8 := by
  unfold isName; rw [Bool.and_eq_true, Bool.and_eq_true, decide_eq_true_iff, decide_eq_true_iff]
  refine and_congr Iff.rfl ?_
  omega
def hereW : ByteArray := ⟨#[104, 101, 114, 101]⟩
/-- c begins with p. -/
def pre (c p : ByteArray) : Bool := decide (p.size ≤ c.size) && sEq (c.extract 0 p.size) p
theorem pre_iff {c p : ByteArray} : pre c p = true ↔ p.data.toList <+: c.data.toList := by
  unfold pre
  rw [Bool.and_eq_true, decide_eq_true_iff, sEq_iff, List.prefix_iff_eq_take]
  have hl : ∀ s : ByteArray, s.data.toList.length = s.size := fun s => by simp
  constructor
  · rintro ⟨h1, h2⟩
    rw [hl]
    conv => lhs; rw [← h2]
    simp [ByteArray.data_extract, Array.toList_extract, List.extract_eq_take_drop]
  · intro h
    have hs : p.size ≤ c.size := by
      have := congrArg List.length h
      rw [List.length_take, hl, hl] at this
      omega
    refine ⟨hs, ?_⟩
    rw [hl] at h
    have : (c.extract 0 p.size).data.toList = p.data.toList := by
      rw [h]
      simp [ByteArray.data_extract, Array.toList_extract, List.extract_eq_take_drop]
    exact ByteArray.ext (Array.toList_inj.1 this)
def goodR (rs : List Fwd) (k : Nat) : Bool :=
  match rs[k]? with
  | none => false
  | some x => isPfx x.src && isName x.dst && (rs.take k).all (fun y => !sEq y.src x.src)
def rulesOk (rs : List Fwd) : Bool := decide (rs.length ≤ 20) && (List.range rs.length).all (goodR rs)
theorem goodR_of {fs : List Fwd} {k : Nat} (hk : k < fs.length) : goodR fs k = (isPfx fs[k].src && isName fs[k].dst && (fs.take k).all (fun y => !sEq y.src fs[k].src)) := by
  unfold goodR; rw [List.getElem?_eq_getElem hk]
theorem rulesOk_bad {fs : List Fwd} {k : Nat} (hk : k < fs.length) (h : goodR fs k = false) : rulesOk fs = false := by
  unfold rulesOk
  rw [Bool.and_eq_false_iff]
  exact .inr (List.all_eq_false.2 ⟨k, by simpa using hk, by simp [h]⟩)
theorem rulesOk_good {fs : List Fwd} (h30 : fs.length ≤ 20) (h : ∀ j, j < fs.length → goodR fs j = true) : rulesOk fs = true := by
  unfold rulesOk
  rw [decide_eq_true h30]
  exact List.all_eq_true.2 fun k hk => h k (by simpa using hk)
theorem rulesOk_len {fs : List Fwd} (h : ¬ fs.length ≤ 20) : rulesOk fs = false := by unfold rulesOk; rw [decide_eq_false h]; rfl
theorem rulesOk_iff {fs : List Fwd} : rulesOk fs = true ↔ fs.length ≤ 20 ∧ ∀ k (h : k < fs.length), isPfx fs[k].src = true ∧ isName fs[k].dst = true ∧ ∀ j (hj : j < k), fs[j].src ≠ fs[k].src := by
  unfold rulesOk
  rw [Bool.and_eq_true, decide_eq_true_iff, List.all_eq_true]
  refine and_congr Iff.rfl ⟨fun h k hk => ?_, fun h k hk => ?_⟩
  · have := h k (by simpa using hk)
    rw [goodR_of hk] at this
    simp only [Bool.and_eq_true] at this
    refine ⟨this.1.1, this.1.2, fun j hj => ?_⟩
    have hh := List.all_eq_true.1 this.2 fs[j] (by rw [List.mem_take_iff_getElem]; exact ⟨j, by omega, rfl⟩)
    simp only [Bool.not_eq_true'] at hh
    exact sEq_false.1 hh
  · have hk' : k < fs.length := by simpa using hk
    obtain ⟨h1, h2, h3⟩ := h k hk'
    rw [goodR_of hk']
    simp only [Bool.and_eq_true]
    refine ⟨⟨h1, h2⟩, List.all_eq_true.2 fun y hy => ?_⟩
    rw [List.mem_take_iff_getElem] at hy
    obtain ⟨j, hj, rfl⟩ := hy
    simp only [Bool.not_eq_true']
    exact sEq_false.2 (h3 j (by omega))

/-! ### The rule with the longest prefix -/
def plen (rs : List Fwd) (b : Int) : Nat := ((rs[b.toNat]?).map fun x => x.src.size).getD 0
def bestStep (rs : List Fwd) (c : ByteArray) (b : Int) (k : Nat) : Int :=
  match rs[k]? with
  | none => b
  | some x => if pre c x.src = true ∧ (b < 0 ∨ plen rs b < x.src.size) then (k : Int) else b
def bestN (rs : List Fwd) (c : ByteArray) : Nat → Int
  | 0 => -1
  | k + 1 => bestStep rs c (bestN rs c k) k
def bestI (rs : List Fwd) (c : ByteArray) : Int := bestN rs c rs.length
theorem bestN_range (rs : List Fwd) (c : ByteArray) : ∀ k, -1 ≤ bestN rs c k ∧ bestN rs c k < k
  | 0 => ⟨by simp [bestN], by simp [bestN]⟩
  | k + 1 => by
    have h := bestN_range rs c k
    unfold bestN bestStep
    split
    · omega
    · split <;> omega
theorem bestN_miss {rs : List Fwd} {c : ByteArray} {k : Nat} {b : Int} (hk : k < rs.length) (hb : bestN rs c k = b) (h : pre c rs[k].src = false) : bestN rs c (k + 1) = b := by
  show bestStep _ _ _ _ = _
  unfold bestStep
  rw [List.getElem?_eq_getElem hk]
  simp [h, hb]
theorem bestN_keep {rs : List Fwd} {c : ByteArray} {k q : Nat} (hk : k < rs.length) (hq : q < rs.length) (hb : bestN rs c k = q) (h : ¬ rs[q].src.size < rs[k].src.size) : bestN rs c (k + 1) = q := by
  show bestStep _ _ _ _ = _
  unfold bestStep
  rw [List.getElem?_eq_getElem hk, hb]
  have : plen rs (q : Int) = rs[q].src.size := by unfold plen; rw [Int.toNat_natCast, List.getElem?_eq_getElem hq]; rfl
  simp only [this]
  rw [if_neg]
  rintro ⟨_, h1 | h1⟩
  · omega
  · exact h h1
theorem bestN_take {rs : List Fwd} {c : ByteArray} {k : Nat} (hk : k < rs.length) (hp : pre c rs[k].src = true) (h : bestN rs c k < 0 ∨ ∃ q : Nat, ∃ hq : q < rs.length, bestN rs c k = q ∧ rs[q].src.size < rs[k].src.size) : bestN rs c (k + 1) = k := by
  show bestStep _ _ _ _ = _
  unfold bestStep
  rw [List.getElem?_eq_getElem hk]
  dsimp only
  rw [if_pos]
  refine ⟨hp, ?_⟩
  rcases h with h | ⟨q, hq, h1, h2⟩
  · exact .inl h
  · refine .inr ?_
    rw [h1]
    unfold plen
    rw [Int.toNat_natCast, List.getElem?_eq_getElem hq]
    exact h2
/-- Where letters go next; nothing if no rule is for them. -/
def nextS (rs : List Fwd) (c : ByteArray) : ByteArray := if bestI rs c < 0 then ⟨#[]⟩ else ((rs[(bestI rs c).toNat]?).map Fwd.dst).getD ⟨#[]⟩
theorem nextS_none {rs : List Fwd} {c : ByteArray} (h : bestI rs c < 0) : nextS rs c = ⟨#[]⟩ := by unfold nextS; rw [if_pos h]
theorem nextS_at {rs : List Fwd} {c : ByteArray} {k : Nat} (h : bestI rs c = k) (hk : k < rs.length) : nextS rs c = rs[k].dst := by
  unfold nextS
  rw [if_neg (by omega), h, Int.toNat_natCast, List.getElem?_eq_getElem hk]
  rfl
theorem nextS_size {rs : List Fwd} {c : ByteArray} {M : Nat} (h : ∀ x ∈ rs, x.dst.size ≤ M) : (nextS rs c).size ≤ M := by
  by_cases hb : bestI rs c < 0
  · rw [nextS_none hb]; exact Nat.zero_le _
  · obtain ⟨k, hk⟩ := Int.eq_ofNat_of_zero_le (Int.not_lt.1 hb)
    have hr := (bestN_range rs c rs.length).2
    have hk' : bestN rs c rs.length = k := hk
    rw [nextS_at hk (by omega)]
    exact h _ (List.getElem_mem _)

/-! ### Offices -/
structure Ofc where
  name : ByteArray
  rules : List Fwd
def offI (net : List Ofc) (s : ByteArray) : Int := fiI (fun o => sEq o.name s) net
def goodN (net : List Ofc) (r : Fwd) : Bool := sEq r.dst hereW || decide (0 ≤ offI net r.dst)
def goodO (net : List Ofc) (k : Nat) : Bool :=
  match net[k]? with
  | none => false
  | some o => (isName o.name && !sEq o.name hereW && (net.take k).all (fun y => !sEq y.name o.name) && rulesOk o.rules) && o.rules.all (goodN net)
def netOk (net : List Ofc) : Bool := (decide (1 ≤ (net.length : Int)) && decide ((net.length : Int) ≤ 8)) && (List.range net.length).all (goodO net)
theorem goodO_of {net : List Ofc} {k : Nat} (hk : k < net.length) : goodO net k = ((isName net[k].name && !sEq net[k].name hereW && (net.take k).all (fun y => !sEq y.name net[k].name) && rulesOk net[k].rules) && net[k].rules.all (goodN net)) := by
  unfold goodO; rw [List.getElem?_eq_getElem hk]
theorem netOk_bad {net : List Ofc} {k : Nat} (hk : k < net.length) (h : goodO net k = false) : netOk net = false := by
  unfold netOk
  rw [Bool.and_eq_false_iff]
  exact .inr (List.all_eq_false.2 ⟨k, by simpa using hk, by simp [h]⟩)
theorem netOk_good {net : List Ofc} (h : ∀ j, j < net.length → goodO net j = true) : netOk net = (decide (1 ≤ (net.length : Int)) && decide ((net.length : Int) ≤ 8)) := by
  unfold netOk
  rw [List.all_eq_true.2 fun k hk => h k (by simpa using hk), Bool.and_true]
theorem netOk_len {net : List Ofc} (h : ¬ (1 ≤ net.length ∧ net.length ≤ 8)) : netOk net = false := by
  unfold netOk
  rw [Bool.and_eq_false_iff, Bool.and_eq_false_iff, decide_eq_false_iff_not, decide_eq_false_iff_not]
  left; omega
theorem netOk_iff {net : List Ofc} : netOk net = true ↔ (1 ≤ net.length ∧ net.length ≤ 8) ∧ ∀ k (h : k < net.length), isName net[k].name = true ∧ net[k].name ≠ hereW ∧ (∀ j (hj : j < k), net[j].name ≠ net[k].name) ∧ rulesOk net[k].rules = true ∧ ∀ r ∈ net[k].rules, r.dst = hereW ∨ 0 ≤ offI net r.dst := by
  unfold netOk
  rw [Bool.and_eq_true, Bool.and_eq_true, decide_eq_true_iff, decide_eq_true_iff, List.all_eq_true]
  refine and_congr (by omega) ⟨fun h k hk => ?_, fun h k hk => ?_⟩
  · have := h k (by simpa using hk)
    rw [goodO_of hk] at this
    simp only [Bool.and_eq_true, Bool.not_eq_true', sEq_false] at this
    obtain ⟨⟨⟨⟨a, b⟩, c⟩, d⟩, e⟩ := this
    refine ⟨a, b, fun j hj => ?_, d, fun r hr => ?_⟩
    · have hh := List.all_eq_true.1 c net[j] (by rw [List.mem_take_iff_getElem]; exact ⟨j, by omega, rfl⟩)
      simp only [Bool.not_eq_true'] at hh
      exact sEq_false.1 hh
    · have hh := List.all_eq_true.1 e r hr
      unfold goodN at hh
      rw [Bool.or_eq_true, sEq_iff, decide_eq_true_iff] at hh
      exact hh
  · have hk' : k < net.length := by simpa using hk
    obtain ⟨h1, h2, h3, h4, h5⟩ := h k hk'
    rw [goodO_of hk']
    simp only [Bool.and_eq_true, Bool.not_eq_true', sEq_false]
    refine ⟨⟨⟨⟨h1, h2⟩, List.all_eq_true.2 fun y hy => ?_⟩, h4⟩, List.all_eq_true.2 fun r hr => ?_⟩
    · rw [List.mem_take_iff_getElem] at hy
      obtain ⟨j, hj, rfl⟩ := hy
      simp only [Bool.not_eq_true']
      exact sEq_false.2 (h3 j (by omega))
    · unfold goodN
      rw [Bool.or_eq_true, sEq_iff, decide_eq_true_iff]
      exact h5 r hr
theorem names_inj {net : List Ofc} (h : netOk net = true) {i j : Nat} (hi : i < net.length) (hj : j < net.length) (e : net[i].name = net[j].name) : i = j := by
  obtain ⟨_, h⟩ := netOk_iff.1 h
  rcases Nat.lt_trichotomy i j with hlt | heq | hgt
  · exact absurd e ((h j hj).2.2.1 i hlt)
  · exact heq
  · exact absurd e.symm ((h i hi).2.2.1 j hgt)
theorem offI_self {net : List Ofc} (h : netOk net = true) {i : Nat} (hi : i < net.length) : offI net net[i].name = i :=
  fiI_at hi (fun j hj hji => sEq_false.2 fun e => by have := names_inj h hj hi e; omega) (sEq_refl _)
theorem offI_at {net : List Ofc} {s : ByteArray} {k : Nat} (h : offI net s = k) : ∃ hk : k < net.length, net[k].name = s := by
  obtain ⟨hk, h1, _⟩ := fiI_spec h
  exact ⟨hk, sEq_iff.1 h1⟩

/-! ### Paths -/
/-- From one office to the next one: -2: no rule is for the letter; -1: it comes home. -/
def hop (net : List Ofc) (c : ByteArray) (i : Nat) : Int :=
  match net[i]? with
  | none => -2
  | some o => if bestI o.rules c < 0 then -2 else if sEq (nextS o.rules c) hereW = true then -1 else offI net (nextS o.rules c)
def routeN (net : List Ofc) (c : ByteArray) : Nat → List Nat → Nat → List Nat × Int
  | 0, p, _ => (p, 3)
  | f + 1, p, i => if i ∈ p then (p ++ [i], 2) else if hop net c i = -2 then (p ++ [i], 1) else if hop net c i = -1 then (p ++ [i], 0) else routeN net c f (p ++ [i]) (hop net c i).toNat
def route (net : List Ofc) (c : ByteArray) (i : Nat) : List Nat × Int := routeN net c (net.length + 1) [] i
theorem hop_nat {net : List Ofc} (h : netOk net = true) {c : ByteArray} {i : Nat} (hi : i < net.length) (h1 : hop net c i ≠ -2) (h2 : hop net c i ≠ -1) : ∃ j : Nat, j < net.length ∧ hop net c i = j ∧ 0 ≤ bestI net[i].rules c ∧ nextS net[i].rules c ≠ hereW ∧ offI net (nextS net[i].rules c) = j ∧ net[j]?.map Ofc.name = some (nextS net[i].rules c) := by
  have hh : hop net c i = if bestI net[i].rules c < 0 then -2 else if sEq (nextS net[i].rules c) hereW = true then -1 else offI net (nextS net[i].rules c) := by
    unfold hop; rw [List.getElem?_eq_getElem hi]
  rw [hh] at h1 h2 ⊢
  by_cases hb : bestI net[i].rules c < 0
  · rw [if_pos hb] at h1; exact absurd rfl h1
  rw [if_neg hb] at h1 h2 ⊢
  by_cases hs : sEq (nextS net[i].rules c) hereW = true
  · rw [if_pos hs] at h2; exact absurd rfl h2
  rw [if_neg hs]
  obtain ⟨k, hk⟩ := Int.eq_ofNat_of_zero_le (Int.not_lt.1 hb)
  have hr := (bestN_range net[i].rules c net[i].rules.length).2
  have hk' : bestN net[i].rules c net[i].rules.length = k := hk
  have hkl : k < net[i].rules.length := by omega
  have hn : nextS net[i].rules c = (net[i].rules[k]).dst := nextS_at hk hkl
  have ho := ((netOk_iff.1 h).2 i hi).2.2.2.2 (net[i].rules[k]) (List.getElem_mem _)
  rw [← hn] at ho
  have hne : nextS net[i].rules c ≠ hereW := fun e => hs (sEq_iff.2 e)
  rcases ho with ho | ho
  · exact absurd ho hne
  · obtain ⟨j, hj⟩ := Int.eq_ofNat_of_zero_le ho
    obtain ⟨hjl, hjn⟩ := offI_at hj
    exact ⟨j, hjl, hj, by omega, hne, hj, by rw [List.getElem?_eq_getElem hjl, Option.map_some, hjn]⟩
theorem nodup_len : ∀ (n : Nat) (l : List Nat), l.Nodup → (∀ x ∈ l, x < n) → l.length ≤ n
  | 0, l, _, h => by
    cases l with
    | nil => exact Nat.zero_le _
    | cons x l => exact absurd (h x List.mem_cons_self) (Nat.not_lt_zero x)
  | n + 1, l, hn, h => by
    have := nodup_len n (l.erase n) (hn.erase n) fun x hx => by
      have h1 := (hn.mem_erase_iff).1 hx
      have := h x h1.2
      omega
    have hl := List.length_erase (a := n) (l := l)
    split at hl <;> omega
theorem nodup_full {n : Nat} {l : List Nat} (h1 : l.Nodup) (h2 : ∀ x ∈ l, x < n) {i : Nat} (hi : i < n) (hn : n ≤ l.length) : i ∈ l := by
  apply Classical.byContradiction
  intro hc
  have := nodup_len n (i :: l) (List.nodup_cons.2 ⟨hc, h1⟩) (by simpa using ⟨hi, h2⟩)
  simp at this
  omega
/-- The fuel does not matter: it never runs out. -/
def onPath (net : List Ofc) (f : Nat) (p : List Nat) (i : Nat) : Prop := p.Nodup ∧ (∀ x ∈ p, x < net.length) ∧ i < net.length ∧ f + p.length = net.length + 1
theorem onPath_start {net : List Ofc} {i : Nat} (hi : i < net.length) : onPath net (net.length + 1) [] i := ⟨by simp, by simp, hi, by simp⟩
theorem onPath_fuel {net : List Ofc} {f : Nat} {p : List Nat} {i : Nat} (h : onPath net f p i) : ∃ g, f = g + 1 := by
  obtain ⟨h1, h2, h3, h4⟩ := h
  have := nodup_len _ _ h1 h2
  exact ⟨f - 1, by omega⟩
theorem onPath_step {net : List Ofc} {f : Nat} {p : List Nat} {i j : Nat} (h : onPath net (f + 1) p i) (hi : i ∉ p) (hj : j < net.length) : onPath net f (p ++ [i]) j := by
  obtain ⟨h1, h2, h3, h4⟩ := h
  refine ⟨?_, ?_, hj, by simp; omega⟩
  · rw [List.nodup_append]
    refine ⟨h1, by simp, ?_⟩
    intro a ha b hb e
    simp at hb
    subst hb e
    exact hi ha
  · intro x hx
    rcases List.mem_append.1 hx with hx | hx
    · exact h2 x hx
    · simp at hx; omega
theorem route_len {net : List Ofc} (h : netOk net = true) {c : ByteArray} : ∀ (f : Nat) (p : List Nat) (i : Nat), onPath net f p i → p.length + 1 ≤ (routeN net c f p i).1.length ∧ (routeN net c f p i).1.length ≤ net.length + 1 ∧ ∀ x ∈ (routeN net c f p i).1, x < net.length
  | 0, p, i, ho => by obtain ⟨g, hg⟩ := onPath_fuel ho; omega
  | f + 1, p, i, ho => by
    have h1 := nodup_len _ _ ho.1 ho.2.1
    have hi := ho.2.2.1
    have hmem : ∀ x ∈ p ++ [i], x < net.length := fun x hx => by
      rcases List.mem_append.1 hx with hx | hx
      · exact ho.2.1 x hx
      · simp at hx; omega
    unfold routeN
    by_cases hm : i ∈ p
    · rw [if_pos hm]; exact ⟨by simp, by simp; omega, hmem⟩
    rw [if_neg hm]
    split
    · exact ⟨by simp, by simp; omega, hmem⟩
    · split
      · exact ⟨by simp, by simp; omega, hmem⟩
      · rename_i h1 h2
        obtain ⟨j, hj, e, _⟩ := hop_nat h hi h1 h2
        rw [e, Int.toNat_natCast]
        have := route_len h (c := c) f (p ++ [i]) j (onPath_step ho hm hj)
        simp only [List.length_append, List.length_singleton] at this
        exact ⟨by omega, this.2⟩

/-! ### Transits -/
def hops (net : List Ofc) (i : Nat) (xs : List Ltr) : Int := (xs.map fun x => ((route net x.code i).1.length : Int) - 1).sum
def tcOk (net : List Ofc) (s : ByteArray) (xs : List Ltr) : Bool := netOk net && decide (0 ≤ offI net s) && okB xs
def tcI (net : List Ofc) (s : ByteArray) (xs : List Ltr) : Int := if tcOk net s xs = true then hops net (offI net s).toNat xs else -1
theorem hops_succ (net : List Ofc) (i : Nat) (xs : List Ltr) {k : Nat} (hk : k < xs.length) : hops net i (xs.take (k + 1)) = hops net i (xs.take k) + (((route net xs[k].code i).1.length : Int) - 1) := by
  unfold hops
  rw [List.take_succ_eq_append_getElem hk, List.map_append, List.sum_append]
  simp
theorem hops_le {net : List Ofc} (h : netOk net = true) {i : Nat} (hi : i < net.length) : ∀ (xs : List Ltr), 0 ≤ hops net i xs ∧ hops net i xs ≤ xs.length * net.length
  | [] => by simp [hops]
  | x :: xs => by
    have ih := hops_le h hi xs
    have hr := route_len h (c := x.code) (net.length + 1) [] i (onPath_start hi)
    have e : hops net i (x :: xs) = (((route net x.code i).1.length : Int) - 1) + hops net i xs := by unfold hops; simp
    rw [e, List.length_cons, Int.natCast_add, Int.add_mul]
    simp only [List.length_nil] at hr
    have : route net x.code i = routeN net x.code (net.length + 1) [] i := rfl
    rw [this]
    omega

end Go.Proofs.YtpinkbodbedajaaGreatDoor

namespace Go.Proofs.YtpinkbodbedajaaGreatDoor
open Go.RowKit

/-! ### Paths: how a step is told -/
def ints (p : List Nat) : List Int := p.map fun (n : Nat) => (n : Int)
def nameAt (net : List Ofc) (i : Nat) : ByteArray := ((net[i]?).map Ofc.name).getD ⟨#[]⟩
theorem nameAt_of {net : List Ofc} {i : Nat} (h : i < net.length) : nameAt net i = net[i].name := by unfold nameAt; rw [List.getElem?_eq_getElem h]; rfl
theorem ints_snoc (p : List Nat) (i : Nat) : ints (p ++ [i]) = ints p ++ [(i : Int)] := by simp [ints]
theorem ints_len (p : List Nat) : (ints p).length = p.length := by simp [ints]
theorem ints_mem (p : List Nat) (j : Nat) : decide (0 ≤ fiI (fun y : Int => y == (j : Int)) (ints p)) = decide (j ∈ p) := by
  rw [fiI_ge]
  by_cases h : j ∈ p
  · rw [decide_eq_true h]
    simp only [Bool.not_eq_true', List.all_eq_false]
    exact ⟨(j : Int), List.mem_map.2 ⟨j, h, rfl⟩, by simp⟩
  · rw [decide_eq_false h]
    simp only [Bool.not_eq_false', List.all_eq_true]
    intro y hy
    obtain ⟨n, hn, rfl⟩ := List.mem_map.1 hy
    have : ¬ n = j := fun e => h (e ▸ hn)
    simp; omega
theorem rk_mem {cs : List ByteArray} {c : ByteArray} : 0 ≤ rkI cs c ↔ c ∈ cs := by
  by_cases h : rk cs c < cs.length
  · rw [rkI_pos h]
    have := sEq_iff.1 (rk_at cs c h)
    refine ⟨fun _ => ?_, fun _ => by omega⟩
    rw [← this]
    exact List.getElem_mem _
  · rw [rkI_neg h]
    refine ⟨fun h => by omega, fun hm => ?_⟩
    obtain ⟨k, hk, e⟩ := List.getElem_of_mem hm
    have h1 := rk_le cs c
    have := rk_before cs c k hk (by omega)
    rw [e, sEq_refl] at this
    cases this
theorem names_mem {net : List Ofc} (h : netOk net = true) {p : List Nat} {i : Nat} (hp : ∀ x ∈ p, x < net.length) (hi : i < net.length) : decide (0 ≤ rkI (p.map (nameAt net)) (nameAt net i)) = decide (i ∈ p) := by
  refine decide_eq_decide.2 (rk_mem.trans ⟨fun hm => ?_, fun hm => List.mem_map.2 ⟨i, hm, rfl⟩⟩)
  obtain ⟨j, hj, e⟩ := List.mem_map.1 hm
  rw [nameAt_of (hp j hj), nameAt_of hi] at e
  exact names_inj h (hp j hj) hi e ▸ hj
theorem hop_lost {net : List Ofc} {c : ByteArray} {i : Nat} (hi : i < net.length) (h : bestI net[i].rules c < 0) : hop net c i = -2 := by
  unfold hop; rw [List.getElem?_eq_getElem hi]; dsimp only; rw [if_pos h]
theorem hop_home {net : List Ofc} {c : ByteArray} {i : Nat} (hi : i < net.length) (h : 0 ≤ bestI net[i].rules c) (h2 : sEq (nextS net[i].rules c) hereW = true) : hop net c i = -1 := by
  unfold hop; rw [List.getElem?_eq_getElem hi]; dsimp only; rw [if_neg (by omega), if_pos h2]
theorem hop_to {net : List Ofc} (hk : netOk net = true) {c : ByteArray} {i : Nat} (hi : i < net.length) (h : 0 ≤ bestI net[i].rules c) (h2 : sEq (nextS net[i].rules c) hereW = false) : ∃ j : Nat, j < net.length ∧ hop net c i = j ∧ offI net (nextS net[i].rules c) = j ∧ nameAt net j = nextS net[i].rules c := by
  have e : hop net c i = offI net (nextS net[i].rules c) := by
    unfold hop; rw [List.getElem?_eq_getElem hi]; dsimp only; rw [if_neg (by omega), h2]; rfl
  obtain ⟨k, hkk⟩ := Int.eq_ofNat_of_zero_le h
  have hr := (bestN_range net[i].rules c net[i].rules.length).2
  have hk' : bestN net[i].rules c net[i].rules.length = k := hkk
  have hkl : k < net[i].rules.length := by omega
  have hn : nextS net[i].rules c = (net[i].rules[k]).dst := nextS_at hkk hkl
  have ho := ((netOk_iff.1 hk).2 i hi).2.2.2.2 (net[i].rules[k]) (List.getElem_mem _)
  rw [← hn] at ho
  rcases ho with ho | ho
  · exact absurd ho (sEq_false.1 h2)
  · obtain ⟨j, hj⟩ := Int.eq_ofNat_of_zero_le ho
    obtain ⟨hjl, hjn⟩ := offI_at hj
    exact ⟨j, hjl, by rw [e, hj], hj, by rw [nameAt_of hjl, hjn]⟩
theorem nextS_empty {rs : List Fwd} (h : rulesOk rs = true) (c : ByteArray) : sEq (nextS rs c) ⟨#[]⟩ = decide (bestI rs c < 0) := by
  by_cases hb : bestI rs c < 0
  · rw [decide_eq_true hb, nextS_none hb]; exact sEq_refl _
  · rw [decide_eq_false hb]
    obtain ⟨k, hkk⟩ := Int.eq_ofNat_of_zero_le (Int.not_lt.1 hb)
    have hr := (bestN_range rs c rs.length).2
    have hk' : bestN rs c rs.length = k := hkk
    have hkl : k < rs.length := by omega
    rw [nextS_at hkk hkl]
    have := (isName_iff.1 ((rulesOk_iff.1 h).2 k hkl).2.1).2.1
    refine sEq_false.2 fun e => ?_
    rw [e] at this
    exact absurd this (by decide)
theorem nextS_ok {rs : List Fwd} (h : rulesOk rs = true) (c : ByteArray) : (nextS rs c).size ≤ 8 := nextS_size fun x hx => by
  obtain ⟨k, hk, rfl⟩ := List.getElem_of_mem hx
  exact (isName_iff.1 ((rulesOk_iff.1 h).2 k hk).2.1).2.2
theorem route_again {net : List Ofc} {c : ByteArray} {f : Nat} {p : List Nat} {i : Nat} (h : i ∈ p) : routeN net c (f + 1) p i = (p ++ [i], 2) := by
  unfold routeN; rw [if_pos h]
theorem route_lost {net : List Ofc} {c : ByteArray} {f : Nat} {p : List Nat} {i : Nat} (h : ¬ i ∈ p) (h1 : hop net c i = -2) : routeN net c (f + 1) p i = (p ++ [i], 1) := by
  unfold routeN; rw [if_neg h, if_pos h1]
theorem route_home {net : List Ofc} {c : ByteArray} {f : Nat} {p : List Nat} {i : Nat} (h : ¬ i ∈ p) (h1 : hop net c i = -1) : routeN net c (f + 1) p i = (p ++ [i], 0) := by
  unfold routeN; rw [if_neg h, if_neg (by omega), if_pos h1]
theorem route_on {net : List Ofc} {c : ByteArray} {f : Nat} {p : List Nat} {i j : Nat} (h : ¬ i ∈ p) (h1 : hop net c i = j) : routeN net c (f + 1) p i = routeN net c f (p ++ [i]) j := by
  rw [routeN, if_neg h, if_neg (by omega), if_neg (by omega), h1, Int.toNat_natCast]
/-- The length of a slice. -/
def lenV : Value → Nat
  | .slice _ n _ => n
  | _ => 0

end Go.Proofs.YtpinkbodbedajaaGreatDoor

namespace Go.Proofs.YtpinkbodbedajaaGreatDoor
open Go.RowKit

/-! ### Faulty prefixes -/
def code0 : ByteArray := ⟨#[48, 48, 48, 48, 48, 48, 48]⟩
def firstW (p : ByteArray) : ByteArray := p ++ code0.extract p.size 7
def longR (p : ByteArray) (r : Fwd) : Bool := decide (p.size < r.src.size) && pre r.src p
def longO (p : ByteArray) (o : Ofc) : Bool := o.rules.any (longR p)
def longN (net : List Ofc) (p : ByteArray) : Bool := net.any (longO p)
def dgB (d : Nat) : ByteArray := ⟨#[UInt8.ofNat (48 + d)]⟩
def dgt (p : ByteArray) (d : Nat) : ByteArray := p ++ dgB d
theorem dgt_size (p : ByteArray) (d : Nat) : (dgt p d).size = p.size + 1 := by
  unfold dgt; rw [ByteArray.size_append]; rfl
def oneIs (p : ByteArray) : List ByteArray → Bool
  | [q] => sEq q p
  | _ => false
theorem oneIs_len {p : ByteArray} {l : List ByteArray} (h : l.length ≠ 1) : oneIs p l = false := by
  match l, h with
  | [], _ => rfl
  | [_], h => exact absurd rfl h
  | _ :: _ :: _, _ => rfl
theorem oneIs_one {p : ByteArray} {l : List ByteArray} (h : l.length = 1) : oneIs p l = sEq (l[0]'(by omega)) p := by
  match l, h with
  | [q], _ => rfl
mutual
def faultsN (net : List Ofc) (i : Nat) : Nat → ByteArray → List ByteArray
  | 0, _ => []
  | f + 1, p => if longN net p = true then (if ((List.range 10).all fun d => oneIs (dgt p d) (faultsN net i f (dgt p d))) = true then [p] else ((List.range 10).map fun d => faultsN net i f (dgt p d)).flatten) else if (route net (firstW p) i).2 = 0 then [] else [p]
end
/-- What the first k digits give. -/
def catN (net : List Ofc) (i f : Nat) (p : ByteArray) (k : Nat) : List ByteArray := ((List.range k).map fun d => faultsN net i f (dgt p d)).flatten
def cntN (net : List Ofc) (i f : Nat) (p : ByteArray) (k : Nat) : Nat := (List.range k).countP fun d => oneIs (dgt p d) (faultsN net i f (dgt p d))
def allN (net : List Ofc) (i f : Nat) (p : ByteArray) (k : Nat) : Bool := (List.range k).all fun d => oneIs (dgt p d) (faultsN net i f (dgt p d))
theorem faults_long {net : List Ofc} {i f : Nat} {p : ByteArray} (h : longN net p = true) : faultsN net i (f + 1) p = if allN net i f p 10 = true then [p] else catN net i f p 10 := by
  rw [faultsN, if_pos h]; rfl
theorem faults_home {net : List Ofc} {i f : Nat} {p : ByteArray} (h : longN net p = false) (h2 : (route net (firstW p) i).2 = 0) : faultsN net i (f + 1) p = [] := by
  rw [faultsN, if_neg (by rw [h]; simp), if_pos h2]
theorem faults_bad {net : List Ofc} {i f : Nat} {p : ByteArray} (h : longN net p = false) (h2 : (route net (firstW p) i).2 ≠ 0) : faultsN net i (f + 1) p = [p] := by
  rw [faultsN, if_neg (by rw [h]; simp), if_neg h2]
theorem catN_succ (net : List Ofc) (i f : Nat) (p : ByteArray) (k : Nat) : catN net i f p (k + 1) = catN net i f p k ++ faultsN net i f (dgt p k) := by
  unfold catN; rw [List.range_succ, List.map_append, List.flatten_append]; simp
theorem cntN_succ (net : List Ofc) (i f : Nat) (p : ByteArray) (k : Nat) : cntN net i f p (k + 1) = cntN net i f p k + (if oneIs (dgt p k) (faultsN net i f (dgt p k)) = true then 1 else 0) := by
  unfold cntN; rw [List.range_succ, List.countP_append]; simp [List.countP_cons]
theorem allN_succ (net : List Ofc) (i f : Nat) (p : ByteArray) (k : Nat) : allN net i f p (k + 1) = (allN net i f p k && oneIs (dgt p k) (faultsN net i f (dgt p k))) := by
  unfold allN; rw [List.range_succ, List.all_append]; simp
theorem cntN_all (net : List Ofc) (i f : Nat) (p : ByteArray) : ∀ k, cntN net i f p k ≤ k ∧ (allN net i f p k = true ↔ cntN net i f p k = k)
  | 0 => by simp [cntN, allN]
  | k + 1 => by
    have ih := cntN_all net i f p k
    rw [cntN_succ, allN_succ, Bool.and_eq_true]
    by_cases h : oneIs (dgt p k) (faultsN net i f (dgt p k)) = true
    · rw [if_pos h]
      refine ⟨by omega, ⟨fun ⟨h1, _⟩ => by have := ih.2.1 h1; omega, fun h1 => ⟨ih.2.2 (by omega), h⟩⟩⟩
    · rw [if_neg h]
      refine ⟨by omega, ⟨fun ⟨_, h2⟩ => absurd h2 h, fun h1 => by omega⟩⟩
theorem tens (f : Nat) : 10 ^ (f + 1) = 10 * 10 ^ f := by rw [Nat.pow_succ]; omega
/-- Not more than that many. -/
theorem faults_len (net : List Ofc) (i : Nat) : ∀ (f : Nat) (p : ByteArray), (faultsN net i f p).length ≤ 10 ^ f
  | 0, p => by simp [faultsN]
  | f + 1, p => by
    have ih := faults_len net i f
    have hp : 1 ≤ 10 ^ f := Nat.one_le_pow _ _ (by omega)
    have hc : ∀ k, (catN net i f p k).length ≤ k * 10 ^ f := fun k => by
      induction k with
      | zero => simp [catN]
      | succ k ihk =>
        rw [catN_succ, List.length_append, Nat.add_mul, Nat.one_mul]
        have := ih (dgt p k)
        omega
    have h10 := hc 10
    rw [tens]
    cases hl : longN net p
    · by_cases h2 : (route net (firstW p) i).2 = 0
      · rw [faults_home hl h2]; simp
      · rw [faults_bad hl h2]; simp; omega
    · rw [faults_long hl]
      split
      · simp; omega
      · exact h10
theorem catN_len (net : List Ofc) (i f : Nat) (p : ByteArray) : ∀ k, (catN net i f p k).length ≤ k * 10 ^ f
  | 0 => by simp [catN]
  | k + 1 => by
    have := catN_len net i f p k
    have h2 := faults_len net i f (dgt p k)
    rw [catN_succ, List.length_append, Nat.add_mul, Nat.one_mul]
    omega
/-- Each of them is short. -/
theorem faults_short (net : List Ofc) (i : Nat) : ∀ (f : Nat) (p q : ByteArray), q ∈ faultsN net i f p → q.size ≤ p.size + f
  | 0, p, q, h => by simp [faultsN] at h
  | f + 1, p, q, h => by
    have ih := faults_short net i f
    cases hl : longN net p
    · by_cases h2 : (route net (firstW p) i).2 = 0
      · rw [faults_home hl h2] at h; simp at h
      · rw [faults_bad hl h2] at h; simp at h; subst h; omega
    · rw [faults_long hl] at h
      split at h
      · simp at h; subst h; omega
      · unfold catN at h
        obtain ⟨l, hl, hq⟩ := List.mem_flatten.1 h
        obtain ⟨d, _, rfl⟩ := List.mem_map.1 hl
        have := ih _ _ hq
        rw [dgt_size] at this
        omega
theorem long_size {net : List Ofc} (hk : netOk net = true) {p : ByteArray} (h : longN net p = true) : p.size ≤ 6 := by
  unfold longN at h
  obtain ⟨o, ho, h⟩ := List.any_eq_true.1 h
  obtain ⟨k, hkl, rfl⟩ := List.getElem_of_mem ho
  unfold longO at h
  obtain ⟨r, hr, h⟩ := List.any_eq_true.1 h
  obtain ⟨m, hml, rfl⟩ := List.getElem_of_mem hr
  have h1 := ((netOk_iff.1 hk).2 k hkl).2.2.2.1
  have h2 := (isPfx_iff.1 ((rulesOk_iff.1 h1).2 m hml).1).2
  unfold longR at h
  rw [Bool.and_eq_true, decide_eq_true_iff] at h
  omega
/-! ### A prefix that no rule continues goes the way of its first code -/
theorem firstW_list (p : ByteArray) : ∃ z, (firstW p).data.toList = p.data.toList ++ z := ⟨_, by unfold firstW; rw [ByteArray.data_append, Array.toList_append]⟩
theorem pre_first {p s : ByteArray} (h : (decide (p.size < s.size) && pre s p) = false) : pre (firstW p) s = pre p s := by
  obtain ⟨z, hz⟩ := firstW_list p
  rw [Bool.eq_iff_iff, pre_iff, pre_iff, hz]
  have hl : ∀ s : ByteArray, s.data.toList.length = s.size := fun s => by simp
  constructor
  · intro h1
    by_cases hlt : p.size < s.size
    · have h2 : p.data.toList <+: s.data.toList := List.prefix_of_prefix_length_le (List.prefix_append _ z) h1 (by rw [hl, hl]; omega)
      rw [decide_eq_true hlt, pre_iff.2 h2] at h
      cases h
    · exact List.prefix_of_prefix_length_le h1 (List.prefix_append _ z) (by rw [hl, hl]; omega)
  · intro h1
    exact h1.trans (List.prefix_append _ z)
theorem best_first {rs : List Fwd} {p : ByteArray} (h : rs.any (longR p) = false) : ∀ k, bestN rs (firstW p) k = bestN rs p k
  | 0 => rfl
  | k + 1 => by
    show bestStep _ _ _ _ = bestStep _ _ _ _
    rw [best_first h k]
    unfold bestStep
    cases hx : rs[k]? with
    | none => rfl
    | some x =>
      have hm := List.mem_of_getElem? hx
      have h1 : longR p x = false := by simpa using List.any_eq_false.1 h x hm
      dsimp only
      rw [pre_first h1]
theorem next_first {rs : List Fwd} {p : ByteArray} (h : rs.any (longR p) = false) : bestI rs (firstW p) = bestI rs p ∧ nextS rs (firstW p) = nextS rs p := by
  have h1 : bestI rs (firstW p) = bestI rs p := best_first h _
  refine ⟨h1, ?_⟩
  unfold nextS
  rw [h1]
theorem hop_first {net : List Ofc} {p : ByteArray} (h : longN net p = false) (i : Nat) : hop net (firstW p) i = hop net p i := by
  unfold hop
  cases hx : net[i]? with
  | none => rfl
  | some o =>
    have hm := List.mem_of_getElem? hx
    have h1 : o.rules.any (longR p) = false := by
      have := List.any_eq_false.1 h o hm
      simpa [longO] using this
    obtain ⟨e1, e2⟩ := next_first h1
    dsimp only
    rw [e1, e2]
theorem routeN_first {net : List Ofc} {p : ByteArray} (h : longN net p = false) : ∀ (f : Nat) (q : List Nat) (i : Nat), routeN net (firstW p) f q i = routeN net p f q i
  | 0, _, _ => rfl
  | f + 1, q, i => by
    rw [routeN, routeN, hop_first h, routeN_first h f]
theorem route_first {net : List Ofc} {p : ByteArray} (h : longN net p = false) (i : Nat) : route net (firstW p) i = route net p i := routeN_first h _ _ _
/-! ### All of them -/
def fpS (net : List Ofc) (s : ByteArray) : List ByteArray := if (netOk net && decide (0 ≤ offI net s)) = true then faultsN net (offI net s).toNat 8 ⟨#[]⟩ else []
theorem fpS_len (net : List Ofc) (s : ByteArray) : (fpS net s).length ≤ 100000000 := by
  unfold fpS
  split
  · exact faults_len net _ 8 _
  · simp

end Go.Proofs.YtpinkbodbedajaaGreatDoor

namespace Go.Proofs.YtpinkbodbedajaaGreatDoor
open Go.RowKit

theorem sEq_comm (s t : ByteArray) : sEq s t = sEq t s := by
  rw [Bool.eq_iff_iff, sEq_iff, sEq_iff]; exact eq_comm

set_option maxHeartbeats 400000 in
theorem slices_IndexS (v : Value) (xs : List ByteArray) (c : ByteArray) (w : World) (hv : rd w w.heap.size v xs) :
    Calls Tryz.prog 166 #[v, .string c] w fun e w' => e = .returned (.int .i64 (rkI xs c)) ∧ w = w' := by
  obtain ⟨A, n, cp, rfl, hn, hc, hm, hr⟩ := hv
  subst hn
  unfold maxLen at hm
  have HR := Lib.hid hr; clear hr
  go_enter Tryz.func166, Tryz.ntmps166
  go_wp2
  go_loop [8] (fun i => ∃ k : Nat, k ≤ xs.length ∧ i = .int .i64 k ∧ Hid (∀ j (h : j < xs.length), j < k → sEq xs[j] c = false)) (fun i => xs.length - (intOf i).toNat)
  case atStart => exact ⟨0, Nat.zero_le _, rfl, fun j _ hj => absurd hj (Nat.not_lt_zero j)⟩
  case round =>
    obtain ⟨k, hk, rfl, HG⟩ := hrel
    by_cases hlt : k < xs.length
    · obtain ⟨b, o, rfl, hb, hok, c1⟩ := HR.out.str k hlt
      have HX : Hid (∀ h : sEq xs[k] c = false, ∀ j (h1 : j < xs.length), j < k + 1 → sEq xs[j] c = false) := fun h j h1 hj => by
        by_cases hjk : j < k
        · exact HG.out j h1 hjk
        · obtain rfl : j = k := by omega
          exact h
      have HY : Hid (∀ h : sEq xs[k] c = true, rkI xs c = k) := fun h => by
        have e := rk_eq hlt (fun j hj => HG.out j (by omega) hj) h
        rw [rkI_pos (by omega), e]
      generalize xs[k] = x at *
      cases he : sEq x c
      · have he' := Lib.hid he
        have hq : (c.toList == x.toList) = false := by rw [← he]; exact sEq_comm c x
        clear he
        go_wp2
        go_round
        case rel => exact ⟨k + 1, by omega, by go_num, HX.out he'.out⟩
        case measure => simp [intOf]; omega
      · have he' := Lib.hid he
        have hq : (c.toList == x.toList) = true := by rw [← he]; exact sEq_comm c x
        clear he
        go_wp2
        go_ret
        exact ⟨ret_int (HY.out he'.out).symm, rfl⟩
    · have HE : Hid (rkI xs c = -1) := by
        have e := rk_none (cs := xs) (c := c) (fun j hj => HG.out j hj (by omega))
        exact rkI_neg (by omega)
      go_wp2
      go_ret
      exact ⟨ret_int HE.out.symm, rfl⟩

theorem slices_ContainsS (v : Value) (xs : List ByteArray) (c : ByteArray) (w : World) (hv : rd w w.heap.size v xs) :
    Calls Tryz.prog 111 #[v, .string c] w fun e w' => e = .returned (.bool (decide (0 ≤ rkI xs c))) ∧ w = w' := by
  go_enter Tryz.func111, Tryz.ntmps111
  go_wp2_with fail
  refine (slices_IndexS v xs c w hv).mono ?_
  rintro e w1 ⟨rfl, rfl⟩
  obtain ⟨r, HR⟩ : ∃ r, Hid (rkI xs c = r) := ⟨_, rfl⟩
  rw [HR.out]
  go_wp2_with fail
  go_ret
  exact ⟨ret_bool (by rw [HR.out]), rfl⟩

theorem impl_binsValid (n : Int) (w : World) : Calls Tryz.prog 120 #[.int .i64 n] w fun e w' => e = .returned (.bool (decide (2 ≤ n) && decide (n ≤ 16))) ∧ w = w' := by
  go_enter Tryz.func120, Tryz.ntmps120
  by_cases h1 : 2 ≤ n
  · go_wp2
    go_ret
    exact ⟨ret_bool (by simp [h1]), rfl⟩
  · go_wp2
    go_ret
    exact ⟨ret_bool (by rw [decide_eq_false (p := 2 ≤ n) (by omega)]; rfl), rfl⟩
theorem impl_passesValid (n : Int) (w : World) : Calls Tryz.prog 121 #[.int .i64 n] w fun e w' => e = .returned (.bool (decide (1 ≤ n) && decide (n ≤ 4))) ∧ w = w' := by
  go_enter Tryz.func121, Tryz.ntmps121
  by_cases h1 : 1 ≤ n
  · go_wp2
    go_ret
    exact ⟨ret_bool (by simp [h1]), rfl⟩
  · go_wp2
    go_ret
    exact ⟨ret_bool (by rw [decide_eq_false (p := 1 ≤ n) (by omega)]; rfl), rfl⟩

set_option maxHeartbeats 400000 in
theorem impl_binPower (b : Int) (n : Nat) (w : World) (h1 : 2 ≤ b) (h2 : b ≤ 16) (hn : n ≤ 4) :
    Calls Tryz.prog 175 #[.int .i64 b, .int .i64 n] w fun e w' => e = .returned (.int .i64 (powI b n)) ∧ w = w' := by
  go_enter Tryz.func175, Tryz.ntmps175
  go_wp2
  go_loop [5, 7] (fun t i => ∃ (k : Nat) (m : Int), k ≤ n ∧ i = .int .i64 k ∧ t = .int .i64 m ∧ 1 ≤ m ∧ m ≤ 65536 ∧ Hid (m = powI b k)) (fun _ i => n - (intOf i).toNat)
  case atStart => exact ⟨0, 1, Nat.zero_le _, rfl, rfl, by omega, by omega, rfl⟩
  case round =>
    obtain ⟨k, m, hk, rfl, rfl, m0, m1, HM⟩ := hrel
    by_cases hlt : k < n
    · obtain ⟨p1, p2⟩ := powI_bounds h1 h2 (k + 1) (by omega)
      have hp : powI b (k + 1) = m * b := by rw [HM.out]; rfl
      have HP := Lib.hid hp
      rw [hp] at p1 p2
      clear hp
      go_wp2
      go_round
      case rel => exact ⟨k + 1, _, by omega, by go_num, rfl, p1, p2, HP.out.symm⟩
      case measure => simp [intOf]; omega
    · have HE := Lib.hid (show k = n by omega)
      go_wp2
      go_ret
      exact ⟨ret_int (by rw [HM.out, HE.out]), rfl⟩

theorem impl_CapacityOf (b p : Int) (w : World) (h : shapeOk b p = true) :
    Calls Tryz.prog 122 #[.int .i64 b, .int .i64 p] w fun e w' => e = .returned (.int .i64 (powI b p.toNat)) ∧ w = w' := by
  obtain ⟨h1, h2, h3, h4⟩ := shapeOk_iff.1 h
  clear h
  obtain ⟨n, rfl⟩ := Int.eq_ofNat_of_zero_le (show 0 ≤ p by omega)
  have e1 : (decide (2 ≤ b) && decide (b ≤ 16)) = true := by rw [decide_eq_true h1, decide_eq_true h2]; rfl
  have e2 : (decide ((1 : Int) ≤ (n : Int)) && decide ((n : Int) ≤ 4)) = true := by rw [decide_eq_true h3, decide_eq_true h4]; rfl
  have E1 := Lib.hid e1; clear e1
  have E2 := Lib.hid e2; clear e2
  go_enter Tryz.func122, Tryz.ntmps122
  go_wp2_with fail
  refine (impl_binsValid b w).mono ?_
  rw [E1.out]
  rintro e w1 ⟨rfl, rfl⟩
  go_wp2_with fail
  refine (impl_passesValid n w).mono ?_
  rw [E2.out]
  rintro e w1 ⟨rfl, rfl⟩
  go_wp2_with fail
  refine (impl_binPower b n w h1 h2 (by omega)).mono ?_
  rintro e w1 ⟨rfl, rfl⟩
  go_wp2_with fail
  go_ret
  exact ⟨ret_int (by rw [Int.toNat_natCast]), rfl⟩

end Go.Proofs.YtpinkbodbedajaaGreatDoor

namespace Go.Proofs.YtpinkbodbedajaaGreatDoor
open Go.RowKit

theorem all_rk (cs : List ByteArray) (c : ByteArray) : cs.all (fun d => !sEq d c) = !decide (0 ≤ rkI cs c) := by
  rw [Bool.eq_iff_iff, List.all_eq_true]
  constructor
  · intro h
    have : rk cs c = cs.length := rk_none fun j hj => by simpa using h _ (List.getElem_mem hj)
    rw [rkI_neg (by omega)]
    decide
  · intro h x hx
    obtain ⟨j, hj, rfl⟩ := List.getElem_of_mem hx
    have hn : ¬ 0 ≤ rkI cs c := by simpa using h
    have hk : ¬ rk cs c < cs.length := fun hlt => by rw [rkI_pos hlt] at hn; omega
    have := rk_before cs c j hj (by omega)
    simp [this]

set_option maxHeartbeats 400000 in
theorem impl_codesDiffer (v : Value) (cs : List ByteArray) (w : World) (hv : rd w w.heap.size v cs) :
    Calls Tryz.prog 123 #[v] w fun e w' => e = .returned (.bool (codesOk cs)) ∧ w = w' := by
  have hv0 := Lib.hid hv
  obtain ⟨A, n, cp, rfl, hn, hc, hm, hr⟩ := hv
  subst hn
  unfold maxLen at hm
  have HR := Lib.hid hr; clear hr
  go_enter Tryz.func123, Tryz.ntmps123
  go_wp2
  go_loop [7] (fun i => ∃ k : Nat, k ≤ cs.length ∧ i = .int .i64 k ∧ Hid (∀ j, j < k → goodC cs j = true)) (fun i => cs.length - (intOf i).toNat)
  case atStart => exact ⟨0, Nat.zero_le _, rfl, fun j hj => absurd hj (Nat.not_lt_zero j)⟩
  case round =>
    obtain ⟨k, hk, rfl, HG⟩ := hrel
    by_cases hlt : k < cs.length
    · obtain ⟨b, o, rfl, hb, hok, c1⟩ := HR.out.str k hlt
      have hG := Lib.hid (goodC_of hlt)
      have hbad := Lib.hid (fun h => codesOk_bad hlt h)
      have hA := Lib.hid (all_rk (cs.take k) cs[k])
      generalize cs[k] = c at *
      cases hcd : isCode c
      · have hcd' := Lib.hid hcd; clear hcd
        go_wp2_with (go_at_call 75; refine (impl_CodeValid _ _ hok).mono ?_; rw [hcd'.out]; rintro e w' ⟨rfl, rfl⟩)
        go_ret
        exact ⟨ret_bool (hbad.out (by rw [hG.out, hcd'.out]; rfl)).symm, rfl⟩
      have hcd' := Lib.hid hcd; clear hcd
      cases hd : decide (0 ≤ rkI (cs.take k) c)
      · have hd' := Lib.hid hd; clear hd
        go_wp2_with (first | (go_at_call 75; refine (impl_CodeValid _ _ hok).mono ?_; rw [hcd'.out]; rintro e w' ⟨rfl, rfl⟩) | (go_at_call 111; refine (slices_ContainsS _ (cs.take k) _ _ (hv0.out.take hk)).mono ?_; rw [hd'.out]; rintro e w' ⟨rfl, rfl⟩))
        go_round
        case rel =>
          refine ⟨k + 1, by omega, by go_num, fun j hj => ?_⟩
          by_cases hjk : j < k
          · exact HG.out j hjk
          · obtain rfl : j = k := by omega
            rw [hG.out, hcd'.out, hA.out, hd'.out]; rfl
        case measure => simp [intOf]; omega
      · have hd' := Lib.hid hd; clear hd
        go_wp2_with (first | (go_at_call 75; refine (impl_CodeValid _ _ hok).mono ?_; rw [hcd'.out]; rintro e w' ⟨rfl, rfl⟩) | (go_at_call 111; refine (slices_ContainsS _ (cs.take k) _ _ (hv0.out.take hk)).mono ?_; rw [hd'.out]; rintro e w' ⟨rfl, rfl⟩))
        go_ret
        exact ⟨ret_bool (hbad.out (by rw [hG.out, hcd'.out, hA.out, hd'.out]; rfl)).symm, rfl⟩
    · have HE := Lib.hid (show k = cs.length by omega)
      go_wp2
      go_ret
      exact ⟨ret_bool (codesOk_good (by rw [← HE.out]; exact HG.out)).symm, rfl⟩

set_option maxHeartbeats 800000 in
theorem impl_PlanValid (v : Value) (p : Pln) (w : World) (hv : rdP w w.heap.size v p) :
    Calls Tryz.prog 58 #[v] w fun e w' => e = .returned (.bool (planOk p)) ∧ Below w.heap.size w w' := by
  obtain ⟨vo, rfl, hi1, hi2, hr⟩ := hv
  have hr0 := hr
  obtain ⟨A, n, cp, rfl, hn, hc, hm, _⟩ := hr
  subst hn
  unfold maxLen at hm
  have hrb := Lib.hid (fun o => hr0.on ((Below.refl _ _).alloc (Nat.le_refl _) o))
  clear hr0
  have hB : Below w.heap.size w (w.alloc (Obj.cells #[Value.int IntKind.i64 p.bins, Value.int IntKind.i64 p.passes, Value.slice A p.order.length cp] 25)) := (Below.refl _ _).alloc (Nat.le_refl _) _
  have HB := Lib.hid hB; clear hB
  have e0 : planOk p = (((decide (2 ≤ p.bins) && decide (p.bins ≤ 16)) && (decide (1 ≤ p.passes) && decide (p.passes ≤ 4))) && (decide (1 ≤ p.order.length) && decide (p.order.length ≤ 60)) && decide ((p.order.length : Int) ≤ powI p.bins p.passes.toNat) && codesOk p.order) := rfl
  have E0 := Lib.hid e0; clear e0
  go_enter Tryz.func58, Tryz.ntmps58
  go_wp2_with fail
  refine (impl_binsValid _ _).mono ?_
  rintro e w1 ⟨rfl, rfl⟩
  cases h1 : (decide (2 ≤ p.bins) && decide (p.bins ≤ 16))
  · have H1 := Lib.hid h1; clear h1
    go_wp2_with fail
    go_ret
    exact ⟨ret_bool (by rw [E0.out, H1.out]; rfl), HB.out⟩
  have H1 := Lib.hid h1; clear h1
  go_wp2_with fail
  refine (impl_passesValid _ _).mono ?_
  rintro e w1 ⟨rfl, rfl⟩
  cases h2 : (decide (1 ≤ p.passes) && decide (p.passes ≤ 4))
  · have H2 := Lib.hid h2; clear h2
    go_wp2_with fail
    go_ret
    exact ⟨ret_bool (by rw [E0.out, H1.out, H2.out]; rfl), HB.out⟩
  have H2 := Lib.hid h2; clear h2
  have hsh : shapeOk p.bins p.passes = true := by unfold shapeOk; rw [H1.out, H2.out]; rfl
  have HSH := Lib.hid hsh; clear hsh
  by_cases h3 : 1 ≤ p.order.length
  case neg =>
    have H3 := Lib.hid h3; clear h3
    have h3i : ¬ (1 : Int) ≤ (p.order.length : Int) := by have := H3.out; omega
    go_wp2_with fail
    go_ret
    exact ⟨ret_bool (by rw [E0.out, decide_eq_false H3.out]; simp), HB.out⟩
  by_cases h4 : p.order.length ≤ 60
  case neg =>
    have H4 := Lib.hid h4; clear h4
    have h4i : ¬ (p.order.length : Int) ≤ 60 := by have := H4.out; omega
    go_wp2_with fail
    go_ret
    exact ⟨ret_bool (by rw [E0.out, decide_eq_false H4.out]; simp), HB.out⟩
  go_wp2_with fail
  refine (impl_CapacityOf _ _ _ HSH.out).mono ?_
  rintro e w1 ⟨rfl, rfl⟩
  obtain ⟨q, HQ⟩ : ∃ q, Hid (powI p.bins p.passes.toNat = q) := ⟨_, rfl⟩
  rw [HQ.out]
  by_cases h5 : (p.order.length : Int) ≤ q
  case neg =>
    have H5 := Lib.hid (decide_eq_false h5)
    go_wp2_with fail
    go_ret
    exact ⟨ret_bool (by rw [E0.out, HQ.out, H5.out]; simp), HB.out⟩
  have H5 := Lib.hid (decide_eq_true h5)
  go_wp2_with fail
  refine (impl_codesDiffer _ p.order _ (hrb.out _)).mono ?_
  rintro e w1 ⟨rfl, rfl⟩
  go_wp2_with fail
  go_ret
  exact ⟨ret_bool (by rw [E0.out, HQ.out, H1.out, H2.out, H5.out, decide_eq_true h3, decide_eq_true h4]; rfl), HB.out⟩

end Go.Proofs.YtpinkbodbedajaaGreatDoor

namespace Go.Proofs.YtpinkbodbedajaaGreatDoor
open Go.RowKit

theorem quiet_c {P : Program} {f : FuncId} {args : Array Value} {w : World} {n : Nat} {v : Value}
    (h : Calls P f args (w.drewN n) fun e w' => e = .returned v ∧ w.drewN n = w') : Calls P f args (w.drewN n) fun e w'' => e = .returned v ∧ ∃ m, w'' = w.drewN m :=
  h.mono fun _ _ ⟨he, hm⟩ => ⟨he, n, hm.symm⟩

theorem spec_l3Shape (n p : Int) (w : World) : Calls Tryz.prog 171 #[.int .i64 n, .int .i64 p] w fun e w' => e = .returned (.bool (shapeOk n p)) ∧ w = w' := by
  have e0 : shapeOk n p = (decide (2 ≤ n) && decide (n ≤ 16) && (decide (1 ≤ p) && decide (p ≤ 4))) := rfl
  have E0 := Lib.hid e0; clear e0
  go_enter Tryz.func171, Tryz.ntmps171
  go_wp2_with fail
  refine (spec_l1In n 2 16 w).mono ?_
  rintro e w1 ⟨rfl, rfl⟩
  cases h1 : (decide (2 ≤ n) && decide (n ≤ 16))
  · have H1 := Lib.hid h1; clear h1
    go_wp2_with fail
    go_ret
    exact ⟨ret_bool (by rw [E0.out, H1.out]; rfl), rfl⟩
  · have H1 := Lib.hid h1; clear h1
    go_wp2_with fail
    refine (spec_l1In p 1 4 w).mono ?_
    rintro e w1 ⟨rfl, rfl⟩
    cases h2 : (decide (1 ≤ p) && decide (p ≤ 4))
    · have H2 := Lib.hid h2; clear h2
      go_wp2_with fail
      go_ret
      exact ⟨ret_bool (by rw [E0.out, H1.out, H2.out]; rfl), rfl⟩
    · have H2 := Lib.hid h2; clear h2
      go_wp2_with fail
      go_ret
      exact ⟨ret_bool (by rw [E0.out, H1.out, H2.out]; rfl), rfl⟩

set_option maxHeartbeats 400000 in
theorem spec_l3Power (b : Int) (n : Nat) (w : World) (h1 : 2 ≤ b) (h2 : b ≤ 16) (hn : n ≤ 4) :
    Calls Tryz.prog 172 #[.int .i64 b, .int .i64 n] w fun e w' => e = .returned (.int .i64 (powI b n)) ∧ w = w' := by
  go_enter Tryz.func172, Tryz.ntmps172
  go_wp2
  go_loop [5, 6] (fun t i => ∃ (k : Nat) (m : Int), k ≤ n ∧ i = .int .i64 k ∧ t = .int .i64 m ∧ 1 ≤ m ∧ m ≤ 65536 ∧ Hid (m = powI b k)) (fun _ i => n - (intOf i).toNat)
  case atStart => exact ⟨0, 1, Nat.zero_le _, rfl, rfl, by omega, by omega, rfl⟩
  case round =>
    obtain ⟨k, m, hk, rfl, rfl, m0, m1, HM⟩ := hrel
    by_cases hlt : k < n
    · obtain ⟨p1, p2⟩ := powI_bounds h1 h2 (k + 1) (by omega)
      have hp : powI b (k + 1) = m * b := by rw [HM.out]; rfl
      have HP := Lib.hid hp
      rw [hp] at p1 p2
      clear hp
      have hlm : ¬ (100000 : Int) < m * b := by omega
      go_wp2
      go_round
      case rel => exact ⟨k + 1, m * b, by omega, by go_num, by first | rfl | exact congrArg (Value.int .i64) (by omega), p1, p2, HP.out.symm⟩
      case measure => simp [intOf]; omega
    · have HE := Lib.hid (show k = n by omega)
      go_wp2
      go_ret
      exact ⟨ret_int (by rw [HM.out, HE.out]), rfl⟩

theorem powI_nonneg_conv {p : Int} (h : 0 ≤ p) : ((p.toNat : Nat) : Int) = p := Int.toNat_of_nonneg h

set_option maxHeartbeats 1600000 in
theorem spec_PlanValid (v : Value) (p : Pln) (w : World) (hv : rdP w w.heap.size v p) :
    Calls Tryz.prog 112 #[v] w fun e w' => e = .returned (.bool (planOk p)) ∧ Below w.heap.size w w' := by
  obtain ⟨vo, rfl, hi1, hi2, hr⟩ := hv
  have hr0 := hr
  obtain ⟨A, n, cp, rfl, hn, hc, hm, hra⟩ := hr
  subst hn
  unfold maxLen at hm
  have HRA := Lib.hid hra; clear hra
  have hrb := Lib.hid (fun o n => (hr0.on ((Below.refl _ _).alloc (Nat.le_refl _) o)).on (below_drewN (Below.refl _ _) n))
  clear hr0
  have hB : Below w.heap.size w (w.alloc (Obj.cells #[Value.int IntKind.i64 p.bins, Value.int IntKind.i64 p.passes, Value.slice A p.order.length cp] 25)) := (Below.refl _ _).alloc (Nat.le_refl _) _
  have HB := Lib.hid hB; clear hB
  have e0 : planOk p = (shapeOk p.bins p.passes && (decide (1 ≤ p.order.length) && decide (p.order.length ≤ 60)) && decide ((p.order.length : Int) ≤ powI p.bins p.passes.toNat) && codesOk p.order) := rfl
  have E0 := Lib.hid e0; clear e0
  cases hsh : shapeOk p.bins p.passes
  · have HS := Lib.hid hsh; clear hsh
    have HSc := Lib.hid (fun w => HS.out ▸ spec_l3Shape p.bins p.passes w)
    go_enter Tryz.func112, Tryz.ntmps112
    go_wp2
    go_quiet (first | (go_at_call 171; refine quiet_c (HSc.out _)))
    go_wp2
    go_ret
    exact ⟨ret_bool (by rw [E0.out, HS.out]; rfl), below_drewN HB.out _⟩
  have HS := Lib.hid hsh
  have HSc := Lib.hid (fun w => HS.out ▸ spec_l3Shape p.bins p.passes w)
  obtain ⟨q1, q2, q3, q4⟩ := shapeOk_iff.1 hsh
  clear hsh
  cases hln : (decide ((1 : Int) ≤ (p.order.length : Int)) && decide ((p.order.length : Int) ≤ 60))
  · have HL := Lib.hid hln; clear hln
    have HLc := Lib.hid (fun w => HL.out ▸ spec_l1In (p.order.length : Int) 1 60 w)
    have hln2 : (decide (1 ≤ p.order.length) && decide (p.order.length ≤ 60)) = false := by
      have := HL.out
      rw [Bool.and_eq_false_iff, decide_eq_false_iff_not, decide_eq_false_iff_not] at this ⊢
      omega
    have HL2 := Lib.hid hln2; clear hln2
    go_enter Tryz.func112, Tryz.ntmps112
    go_wp2
    go_quiet (first | (go_at_call 171; refine quiet_c (HSc.out _)) | (go_at_call 115; refine quiet_c (HLc.out _)))
    go_wp2
    go_ret
    exact ⟨ret_bool (by rw [E0.out, HL2.out]; simp), below_drewN HB.out _⟩
  have HL := Lib.hid hln
  have HLc := Lib.hid (fun w => HL.out ▸ spec_l1In (p.order.length : Int) 1 60 w)
  have hln2 : 1 ≤ p.order.length ∧ p.order.length ≤ 60 := by
    rw [Bool.and_eq_true, decide_eq_true_iff, decide_eq_true_iff] at hln
    omega
  clear hln
  obtain ⟨l1, l2⟩ := hln2
  have hl3 : (decide (1 ≤ p.order.length) && decide (p.order.length ≤ 60)) = true := by rw [decide_eq_true l1, decide_eq_true l2]; rfl
  have HL3 := Lib.hid hl3; clear hl3
  obtain ⟨q, HQ⟩ : ∃ q, Hid (powI p.bins p.passes.toNat = q) := ⟨_, rfl⟩
  have hpw : ∀ w : World, Calls Tryz.prog 172 #[.int .i64 p.bins, .int .i64 p.passes] w fun e w' => e = .returned (.int .i64 q) ∧ w = w' := fun w => by
    have := spec_l3Power p.bins p.passes.toNat w q1 q2 (by omega)
    rw [HQ.out, powI_nonneg_conv (by omega)] at this
    exact this
  have HPW := Lib.hid hpw; clear hpw
  by_cases h5 : (p.order.length : Int) ≤ q
  case neg =>
    have H5 := Lib.hid (decide_eq_false h5)
    have h5' : decide ((p.order.length : Int) > q) = true := decide_eq_true (by omega)
    clear h5
    go_enter Tryz.func112, Tryz.ntmps112
    go_wp2
    go_quiet (first | (go_at_call 171; refine quiet_c (HSc.out _)) | (go_at_call 115; refine quiet_c (HLc.out _)) | (go_at_call 172; refine quiet_c (HPW.out _)))
    go_wp2
    go_ret
    exact ⟨ret_bool (by rw [E0.out, HQ.out, H5.out]; simp), below_drewN HB.out _⟩
  have H5 := Lib.hid (decide_eq_true h5)
  have h5' : decide ((p.order.length : Int) > q) = false := decide_eq_false (by omega)
  clear h5
  have hsum : planOk p = codesOk p.order := by rw [E0.out, HS.out, HL3.out, HQ.out, H5.out]; rfl
  have HSUM := Lib.hid hsum; clear hsum
  go_enter Tryz.func112, Tryz.ntmps112
  go_wp2
  go_quiet (first | (go_at_call 171; refine quiet_c (HSc.out _)) | (go_at_call 115; refine quiet_c (HLc.out _)) | (go_at_call 172; refine quiet_c (HPW.out _)))
  clear h5' HPW HQ H5 HL HLc HSc HS E0 HL3 hrb
  have hB1 : Below w.heap.size w ((w.alloc (Obj.cells #[Value.int IntKind.i64 p.bins, Value.int IntKind.i64 p.passes, Value.slice A p.order.length cp] 25)).drewN nq) := below_drewN HB.out _
  have hc0 : ((w.alloc (Obj.cells #[Value.int IntKind.i64 p.bins, Value.int IntKind.i64 p.passes, Value.slice A p.order.length cp] 25)).drewN nq).cell? ⟨w.heap.size, 2, none⟩ = some (.slice A p.order.length cp) := by go_simp
  clear HB
  generalize ((w.alloc (Obj.cells #[Value.int IntKind.i64 p.bins, Value.int IntKind.i64 p.passes, Value.slice A p.order.length cp] 25)).drewN nq) = w0 at *
  generalize p.order = cs at *
  go_wp2
  go_loopw [3] (fun i wr => ∃ k : Nat, k ≤ cs.length ∧ i = .int .i64 k ∧ Below w.heap.size w wr ∧ wr.cell? ⟨w.heap.size, 2, none⟩ = some (.slice A cs.length cp) ∧ Hid (∀ j, j < k → goodC cs j = true)) (fun i _ => cs.length - (intOf i).toNat)
  case atStart => exact ⟨0, Nat.zero_le _, rfl, hB1, hc0, fun j hj => absurd hj (Nat.not_lt_zero j)⟩
  case round =>
    obtain ⟨k, hk, rfl, hbl, hcx, HG⟩ := hrel
    obtain ⟨w1, rfl⟩ : ∃ w1 : World, w1 = wr := ⟨_, rfl⟩
    have hsz := hbl.size
    clear hB1 hc0
    by_cases hlt : k < cs.length
    · obtain ⟨b, o, rfl, hb, hok, c1⟩ := HRA.out.str k hlt
      have hG := Lib.hid (goodC_of hlt)
      have hbad := Lib.hid (fun h => codesOk_bad hlt h)
      generalize hx : cs[k] = c at *
      have HXK := Lib.hid hx; clear hx
      have c1' : w1.cell? ⟨b, o + k, none⟩ = some (.string c) := (hbl.cell (p := ⟨b, o + k, none⟩) hb).trans c1
      cases hcd : isCode c
      · have hcd' := Lib.hid hcd; clear hcd
        go_wp2_with (go_at_call 88; refine (spec_CodeValid _ _ hok).mono ?_; rw [hcd'.out]; rintro e w' ⟨rfl, rfl⟩)
        go_ret
        exact ⟨ret_bool (by rw [HSUM.out]; exact (hbad.out (by rw [hG.out, hcd'.out]; rfl)).symm), hbl⟩
      have hcd' := Lib.hid hcd; clear hcd
      go_wp2_with (go_at_call 88; refine (spec_CodeValid _ _ hok).mono ?_; rw [hcd'.out]; rintro e w' ⟨rfl, rfl⟩)
      go_loopw [4] (fun i wr => ∃ m : Nat, m ≤ k ∧ i = .int .i64 m ∧ Below w.heap.size w wr ∧ wr.cell? ⟨w.heap.size, 2, none⟩ = some (.slice (some ⟨b, o, none⟩) cs.length cp) ∧ Hid ((cs.take m).all (fun y => !sEq y c) = true)) (fun i _ => k - (intOf i).toNat)
      case atStart => exact ⟨0, Nat.zero_le _, rfl, hbl, hcx, rfl⟩
      case round =>
        obtain ⟨m, hm', rfl, hbw, hcw, HA⟩ := hrel
        have hsi := hbw.size
        clear c1' hcx
        have c1' : wr.cell? ⟨b, o + k, none⟩ = some (.string c) := (hbw.cell (p := ⟨b, o + k, none⟩) hb).trans c1
        by_cases hmk : m < k
        · obtain ⟨b', o', hA, _, _, d1⟩ := HRA.out.str m (by omega)
          have hT := Lib.hid (take_all_succ (p := fun y : ByteArray => !sEq y c) cs m (by omega))
          have hI := Lib.hid (take_all_bad (p := fun y : ByteArray => !sEq y c) cs m k (by omega) hmk)
          generalize cs[m] = y at *
          injection hA with hA
          injection hA with hA1 hA2
          subst hA1 hA2
          have d1' : wr.cell? ⟨b, o + m, none⟩ = some (.string y) := (hbw.cell (p := ⟨b, o + m, none⟩) hb).trans d1
          clear d1 c1
          have hml : (m : Int) < (cs.length : Int) := by omega
          have hkl : (k : Int) < (cs.length : Int) := by omega
          cases hyx : sEq y c
          · have HY := Lib.hid hyx
            have hyx' : (y.toList == c.toList) = false := hyx
            clear hyx
            go_wp2
            go_quiet (fail)
            go_wp2
            go_roundw
            case rel => exact ⟨m + 1, by omega, by go_num, below_drewN hbw _, by go_simp, by show _ = true; rw [hT.out, HA.out, HY.out]; rfl⟩
            case measure => simp [intOf]; omega
          · have HY := Lib.hid hyx
            have hyx' : (y.toList == c.toList) = true := hyx
            clear hyx
            go_wp2
            go_quiet (fail)
            go_wp2
            go_ret
            exact ⟨ret_bool (by rw [HSUM.out]; exact (hbad.out (by rw [hG.out, hI.out (by rw [HY.out]; rfl)]; simp)).symm), below_drewN hbw _⟩
        · have hme : m = k := by omega
          have HE := Lib.hid hme; clear hme
          go_wp2
          go_roundw
          case rel =>
            refine ⟨k + 1, by omega, by go_num, hbw, hcw, fun j hj => ?_⟩
            by_cases hjk : j < k
            · exact HG.out j hjk
            · obtain rfl : j = k := by omega
              rw [hG.out, hcd'.out, ← HE.out, HA.out]; rfl
          case measure => simp [intOf]; omega
    · have HE := Lib.hid (show k = cs.length by omega)
      go_wp2
      go_ret
      exact ⟨ret_bool (by rw [HSUM.out]; exact (codesOk_good (by rw [← HE.out]; exact HG.out)).symm), hbl⟩

end Go.Proofs.YtpinkbodbedajaaGreatDoor
