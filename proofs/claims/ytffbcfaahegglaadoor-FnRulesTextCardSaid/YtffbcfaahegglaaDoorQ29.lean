/- NU E4 FL QA NF NG -/
import Derived.Test.YtffbcfaahegglaaDoorQ28
import Derived.Test.YtffbcfaahegglaaDoorQ16
import Derived.Test.YtffbcfaahegglaaDoorQ4
import Derived.Laws.StructEq
import Derived.Deep.QuietTactic
import Derived.BigQuiet
import Derived.Test.YtffbcfaahegglaaDoorQ2
import Derived.Test.YtffbcfaahegglaaDoorQ10
import Derived.Test.YtffbcfaahegglaaDoorQ5
import Derived.Deep.RegionHeld3
import Derived.Test.YtffbcfaahegglaaDoorQ19
import Derived.Test.YtffbcfaahegglaaDoorQ17
namespace Go.Proofs.YtffbcfaahegglaaDoor
open Go.RowKit

theorem hops_take {net : List Ofc} (h : netOk net = true) {i : Nat} (hi : i < net.length) (xs : List Ltr) (k : Nat) (hx : xs.length ≤ 60) : 0 ≤ hops net i (xs.take k) ∧ hops net i (xs.take k) ≤ 480 := by
  have h1 := hops_le h hi (xs.take k)
  have h2 := (netOk_iff.1 h).1.2
  have h3 : ((xs.take k).length : Int) ≤ 60 := by rw [List.length_take]; omega
  refine ⟨h1.1, Int.le_trans h1.2 ?_⟩
  have h4 : ((xs.take k).length : Int) * net.length ≤ 60 * 8 := Int.mul_le_mul h3 (by omega) (by omega) (by omega)
  omega
theorem tcI_no {net : List Ofc} {s : ByteArray} {xs : List Ltr} (h : tcOk net s xs = false) : tcI net s xs = -1 := by unfold tcI; rw [h]; rfl



end Go.Proofs.YtffbcfaahegglaaDoor

namespace Go.Proofs.YtffbcfaahegglaaDoor
open Go.RowKit

theorem ltr_equalIn (a c : Int) (b d : ByteArray) (w : World) : (Op.equalIn 10000 98 (.agg #[.int .i64 a, .string b]) (.agg #[.int .i64 c, .string d])).run Tryd.prog w = .ok (ltrEq ⟨a, b⟩ ⟨c, d⟩) w := by
  have u3 := Tryd.underlying3
  have a3 := Tryd.isAgg3
  have z3 := Tryd.sizeOf3
  have u9 := Tryd.underlying9
  have a9 := Tryd.isAgg9
  have z9 := Tryd.sizeOf9
  have hS : Tryd.prog.underlying 98 = some (.struct (Tryd.prog.fieldsOf 98)) := by kernel_rfl
  rw [show (10000 : Nat) = 9999 + 1 from rfl, run_equalIn_agg w 9999 98 _ _ hS (by kernel_rfl)]
  simp only [Program.fieldsOf, Tryd.underlying98]
  go_simp
  unfold ltrEq sEq
  by_cases h1 : a = c <;> by_cases h2 : b.toList = d.toList <;> simp [h1, h2]
theorem ltr_neq (a c : Int) (b d : ByteArray) (w : World) : (binOp .neq 98 (.agg #[.int .i64 a, .string b]) (.agg #[.int .i64 c, .string d])).run Tryd.prog w = .ok (.bool (!ltrEq ⟨a, b⟩ ⟨c, d⟩)) w := by
  rw [run_neq_struct, ltr_equalIn]; rfl
theorem ltr_eql (a c : Int) (b d : ByteArray) (w : World) : (binOp .eql 98 (.agg #[.int .i64 a, .string b]) (.agg #[.int .i64 c, .string d])).run Tryd.prog w = .ok (.bool (ltrEq ⟨a, b⟩ ⟨c, d⟩)) w := by
  rw [run_eql_struct, ltr_equalIn]; rfl
theorem ltr_guard (op : BinOp) (x y : Operand) (xs ys : Array Value) (w : World) : (eqGuard op 98 x y (.agg xs) (.agg ys)).run Tryd.prog w = .ok () w := run_eqGuard_agg w op _ x y xs ys (by kernel_rfl)

end Go.Proofs.YtffbcfaahegglaaDoor

namespace Go.Proofs.YtffbcfaahegglaaDoor
open Go.RowKit

def findI (b : List Ltr) (n : Int) : Int := if okB b then fiI (fun x => x.id == n) b else -1
/-! ### FindLetter -/
end Go.Proofs.YtffbcfaahegglaaDoor

namespace Go.Proofs.YtffbcfaahegglaaDoor
open Go.RowKit

theorem rul_equalIn (a b : ByteArray) (w : World) : (Op.equalIn 10000 65 (.agg #[.string a, .string b]) (.agg #[.string a, .string b])).run Tryd.prog w = .ok true w := by
  have u9 := Tryd.underlying9
  have a9 := Tryd.isAgg9
  have z9 := Tryd.sizeOf9
  have hS : Tryd.prog.underlying 65 = some (.struct (Tryd.prog.fieldsOf 65)) := by kernel_rfl
  rw [show (10000 : Nat) = 9999 + 1 from rfl, run_equalIn_agg w 9999 65 _ _ hS (by kernel_rfl)]
  simp only [Program.fieldsOf, Tryd.underlying65]
  go_simp
theorem rul_neq (a b : ByteArray) (w : World) : (binOp .neq 65 (.agg #[.string a, .string b]) (.agg #[.string a, .string b])).run Tryd.prog w = .ok (.bool false) w := by
  rw [run_neq_struct, rul_equalIn]; rfl
theorem rul_guard (op : BinOp) (x y : Operand) (xs ys : Array Value) (w : World) : (eqGuard op 65 x y (.agg xs) (.agg ys)).run Tryd.prog w = .ok () w := run_eqGuard_agg w op _ x y xs ys (by kernel_rfl)

set_option maxHeartbeats 400000 in
theorem so_rules (v v' : Value) (xs : List Fwd) (w : World) (hv : rd w w.heap.size v xs) (hv' : rd w w.heap.size v' xs) :
    Calls Tryd.prog 18 #[v, v'] w fun e w' => e = .returned (.bool true) ∧ Below w.heap.size w w' := by
  obtain ⟨A, n, c, rfl, hn, hc, hm, hr⟩ := hv
  obtain ⟨A', n', c', rfl, hn', hc', hm', hr'⟩ := hv'
  subst hn hn'
  unfold maxLen at hm hm'
  have HR := Lib.hid hr; clear hr
  have HR' := Lib.hid hr'; clear hr'
  have l0 := Below.refl w.heap.size w
  have hl1 : ((xs.length : Int) != (xs.length : Int)) = false := by simp
  go_enter Tryd.func18, Tryd.ntmps18
  go_wp2_with fail
  go_loopw [5] (fun i wr => ∃ k : Nat, k ≤ xs.length ∧ i = .int .i64 k ∧ Below w.heap.size w wr) (fun i _ => xs.length - (intOf i).toNat)
  case atStart => exact ⟨0, Nat.zero_le _, rfl, l0⟩
  case round =>
    obtain ⟨k, hk, rfl, lr⟩ := hrel
    obtain ⟨w1, rfl⟩ : ∃ w1 : World, w1 = wr := ⟨_, rfl⟩
    clear l0
    by_cases hlt : k < xs.length
    · obtain ⟨b, o, rfl, hb, _, c1, c2⟩ := HR.out.fwdU k hlt
      obtain ⟨b', o', rfl, hb', _, d1, d2⟩ := HR'.out.fwdU k hlt
      generalize xs[k] = x at *
      have c1' := c1 w1 lr
      have c2' := c2 w1 lr
      have d1' := d1 w1 lr
      have d2' := d2 w1 lr
      clear c1 c2 d1 d2
      have hki : (k : Int) < (xs.length : Int) := by omega
      have q1 := rul_neq x.src x.dst
      have q2 := rul_guard
      go_wp2
      go_quiet (fail)
      go_wp2
      go_roundw
      case rel => exact ⟨k + 1, by omega, by go_num, below_drewN lr _⟩
      case measure => simp [intOf]; omega
    · go_wp2
      go_ret
      exact ⟨rfl, lr⟩

end Go.Proofs.YtffbcfaahegglaaDoor

namespace Go.Proofs.YtffbcfaahegglaaDoor
open Go.RowKit

/-! ### Faulty prefixes -/
def code0 : ByteArray := ⟨#[48, 48, 48, 48, 48, 48, 48]⟩
def firstW (p : ByteArray) : ByteArray := p ++ code0.extract p.size 7
def longR (p : ByteArray) (r : Fwd) : Bool := decide (p.size < r.src.size) && pre r.src p
def longO (p : ByteArray) (o : Ofc) : Bool := o.rules.any (longR p)
def longN (net : List Ofc) (p : ByteArray) : Bool := net.any (longO p)
def dgB (d : Nat) : ByteArray := ⟨#[UInt8.ofNat (48 + d)]⟩
def dgt (p : ByteArray) (d : Nat) : ByteArray := p ++ dgB d
theorem dgt_size (p : ByteArray) (d : Nat) : (dgt p d).size = p.size + 1 := by
  unfold dgt; rw [ByteArray.size_append]; rfl
def oneIs (p : ByteArray) : List ByteArray → Bool
  | [q] => sEq q p
  | _ => false
theorem oneIs_len {p : ByteArray} {l : List ByteArray} (h : l.length ≠ 1) : oneIs p l = false := by
  match l, h with
  | [], _ => rfl
  | [_], h => exact absurd rfl h
  | _ :: _ :: _, _ => rfl
theorem oneIs_one {p : ByteArray} {l : List ByteArray} (h : l.length = 1) : oneIs p l = sEq (l[0]'(by omega)) p := by
  match l, h with
  | [q], _ => rfl
mutual
def faultsN (net : List Ofc) (i : Nat) : Nat → ByteArray → List ByteArray
  | 0, _ => []
  | f + 1, p => if longN net p = true then (if ((List.range 10).all fun d => oneIs (dgt p d) (faultsN net i f (dgt p d))) = true then [p] else ((List.range 10).map fun d => faultsN net i f (dgt p d)).flatten) else if (route net (firstW p) i).2 = 0 then [] else [p]
end
/-- What the first k digits give. -/
def catN (net : List Ofc) (i f : Nat) (p : ByteArray) (k : Nat) : List ByteArray := ((List.range k).map fun d => faultsN net i f (dgt p d)).flatten
def cntN (net : List Ofc) (i f : Nat) (p : ByteArray) (k : Nat) : Nat := (List.range k).countP fun d => oneIs (dgt p d) (faultsN net i f (dgt p d))
def allN (net : List Ofc) (i f : Nat) (p : ByteArray) (k : Nat) : Bool := (List.range k).all fun d => oneIs (dgt p d) (faultsN net i f (dgt p d))
theorem faults_long {net : List Ofc} {i f : Nat} {p : ByteArray} (h : longN net p = true) : faultsN net i (f + 1) p = if allN net i f p 10 = true then [p] else catN net i f p 10 := by
  rw [faultsN, if_pos h]; rfl
theorem faults_home {net : List Ofc} {i f : Nat} {p : ByteArray} (h : longN net p = false) (h2 : (route net (firstW p) i).2 = 0) : faultsN net i (f + 1) p = [] := by
  rw [faultsN, if_neg (by rw [h]; simp), if_pos h2]
theorem faults_bad {net : List Ofc} {i f : Nat} {p : ByteArray} (h : longN net p = false) (h2 : (route net (firstW p) i).2 ≠ 0) : faultsN net i (f + 1) p = [p] := by
  rw [faultsN, if_neg (by rw [h]; simp), if_neg h2]
theorem catN_succ (net : List Ofc) (i f : Nat) (p : ByteArray) (k : Nat) : catN net i f p (k + 1) = catN net i f p k ++ faultsN net i f (dgt p k) := by
  unfold catN; rw [List.range_succ, List.map_append, List.flatten_append]; simp
theorem cntN_succ (net : List Ofc) (i f : Nat) (p : ByteArray) (k : Nat) : cntN net i f p (k + 1) = cntN net i f p k + (if oneIs (dgt p k) (faultsN net i f (dgt p k)) = true then 1 else 0) := by
  unfold cntN; rw [List.range_succ, List.countP_append]; simp [List.countP_cons]
theorem allN_succ (net : List Ofc) (i f : Nat) (p : ByteArray) (k : Nat) : allN net i f p (k + 1) = (allN net i f p k && oneIs (dgt p k) (faultsN net i f (dgt p k))) := by
  unfold allN; rw [List.range_succ, List.all_append]; simp
theorem cntN_all (net : List Ofc) (i f : Nat) (p : ByteArray) : ∀ k, cntN net i f p k ≤ k ∧ (allN net i f p k = true ↔ cntN net i f p k = k)
  | 0 => by simp [cntN, allN]
  | k + 1 => by
    have ih := cntN_all net i f p k
    rw [cntN_succ, allN_succ, Bool.and_eq_true]
    by_cases h : oneIs (dgt p k) (faultsN net i f (dgt p k)) = true
    · rw [if_pos h]
      refine ⟨by omega, ⟨fun ⟨h1, _⟩ => by have := ih.2.1 h1; omega, fun h1 => ⟨ih.2.2 (by omega), h⟩⟩⟩
    · rw [if_neg h]
      refine ⟨by omega, ⟨fun ⟨_, h2⟩ => absurd h2 h, fun h1 => by omega⟩⟩
theorem tens (f : Nat) : 10 ^ (f + 1) = 10 * 10 ^ f := by rw [Nat.pow_succ]; omega
/-- Not more than that many. -/
theorem faults_len (net : List Ofc) (i : Nat) : ∀ (f : Nat) (p : ByteArray), (faultsN net i f p).length ≤ 10 ^ f
  | 0, p => by simp [faultsN]
  | f + 1, p => by
    have ih := faults_len net i f
    have hp : 1 ≤ 10 ^ f := Nat.one_le_pow _ _ (by omega)
    have hc : ∀ k, (catN net i f p k).length ≤ k * 10 ^ f := fun k => by
      induction k with
      | zero => simp [catN]
      | succ k ihk =>
        rw [catN_succ, List.length_append, Nat.add_mul, Nat.one_mul]
        have := ih (dgt p k)
        omega
    have h10 := hc 10
    rw [tens]
    cases hl : longN net p
    · by_cases h2 : (route net (firstW p) i).2 = 0
      · rw [faults_home hl h2]; simp
      · rw [faults_bad hl h2]; simp; omega
    · rw [faults_long hl]
      split
      · simp; omega
      · exact h10
theorem catN_len (net : List Ofc) (i f : Nat) (p : ByteArray) : ∀ k, (catN net i f p k).length ≤ k * 10 ^ f
  | 0 => by simp [catN]
  | k + 1 => by
    have := catN_len net i f p k
    have h2 := faults_len net i f (dgt p k)
    rw [catN_succ, List.length_append, Nat.add_mul, Nat.one_mul]
    omega
/-- Each of them is short. -/
theorem faults_short (net : List Ofc) (i : Nat) : ∀ (f : Nat) (p q : ByteArray), q ∈ faultsN net i f p → q.size ≤ p.size + f
  | 0, p, q, h => by simp [faultsN] at h
  | f + 1, p, q, h => by
    have ih := faults_short net i f
    cases hl : longN net p
    · by_cases h2 : (route net (firstW p) i).2 = 0
      · rw [faults_home hl h2] at h; simp at h
      · rw [faults_bad hl h2] at h; simp at h; subst h; omega
    · rw [faults_long hl] at h
      split at h
      · simp at h; subst h; omega
      · unfold catN at h
        obtain ⟨l, hl, hq⟩ := List.mem_flatten.1 h
        obtain ⟨d, _, rfl⟩ := List.mem_map.1 hl
        have := ih _ _ hq
        rw [dgt_size] at this
        omega
theorem long_size {net : List Ofc} (hk : netOk net = true) {p : ByteArray} (h : longN net p = true) : p.size ≤ 6 := by
  unfold longN at h
  obtain ⟨o, ho, h⟩ := List.any_eq_true.1 h
  obtain ⟨k, hkl, rfl⟩ := List.getElem_of_mem ho
  unfold longO at h
  obtain ⟨r, hr, h⟩ := List.any_eq_true.1 h
  obtain ⟨m, hml, rfl⟩ := List.getElem_of_mem hr
  have h1 := ((netOk_iff.1 hk).2 k hkl).2.2.2.1
  have h2 := (isPfx_iff.1 ((rulesOk_iff.1 h1).2 m hml).1).2
  unfold longR at h
  rw [Bool.and_eq_true, decide_eq_true_iff] at h
  omega
/-! ### A prefix that no rule continues goes the way of its first code -/
theorem firstW_list (p : ByteArray) : ∃ z, (firstW p).data.toList = p.data.toList ++ z := ⟨_, by unfold firstW; rw [ByteArray.data_append, Array.toList_append]⟩
theorem pre_first {p s : ByteArray} (h : (decide (p.size < s.size) && pre s p) = false) : pre (firstW p) s = pre p s := by
  obtain ⟨z, hz⟩ := firstW_list p
  rw [Bool.eq_iff_iff, pre_iff, pre_iff, hz]
  have hl : ∀ s : ByteArray, s.data.toList.length = s.size := fun s => by simp
  constructor
  · intro h1
    by_cases hlt : p.size < s.size
    · have h2 : p.data.toList <+: s.data.toList := List.prefix_of_prefix_length_le (List.prefix_append _ z) h1 (by rw [hl, hl]; omega)
      rw [decide_eq_true hlt, pre_iff.2 h2] at h
      cases h
    · exact List.prefix_of_prefix_length_le h1 (List.prefix_append _ z) (by rw [hl, hl]; omega)
  · intro h1
    exact h1.trans (List.prefix_append _ z)
theorem best_first {rs : List Fwd} {p : ByteArray} (h : rs.any (longR p) = false) : ∀ k, bestN rs (firstW p) k = bestN rs p k
  | 0 => rfl
  | k + 1 => by
    show bestStep _ _ _ _ = bestStep _ _ _ _
    rw [best_first h k]
    unfold bestStep
    cases hx : rs[k]? with
    | none => rfl
    | some x =>
      have hm := List.mem_of_getElem? hx
      have h1 : longR p x = false := by simpa using List.any_eq_false.1 h x hm
      dsimp only
      rw [pre_first h1]
theorem next_first {rs : List Fwd} {p : ByteArray} (h : rs.any (longR p) = false) : bestI rs (firstW p) = bestI rs p ∧ nextS rs (firstW p) = nextS rs p := by
  have h1 : bestI rs (firstW p) = bestI rs p := best_first h _
  refine ⟨h1, ?_⟩
  unfold nextS
  rw [h1]
theorem hop_first {net : List Ofc} {p : ByteArray} (h : longN net p = false) (i : Nat) : hop net (firstW p) i = hop net p i := by
  unfold hop
  cases hx : net[i]? with
  | none => rfl
  | some o =>
    have hm := List.mem_of_getElem? hx
    have h1 : o.rules.any (longR p) = false := by
      have := List.any_eq_false.1 h o hm
      simpa [longO] using this
    obtain ⟨e1, e2⟩ := next_first h1
    dsimp only
    rw [e1, e2]
theorem routeN_first {net : List Ofc} {p : ByteArray} (h : longN net p = false) : ∀ (f : Nat) (q : List Nat) (i : Nat), routeN net (firstW p) f q i = routeN net p f q i
  | 0, _, _ => rfl
  | f + 1, q, i => by
    rw [routeN, routeN, hop_first h, routeN_first h f]
theorem route_first {net : List Ofc} {p : ByteArray} (h : longN net p = false) (i : Nat) : route net (firstW p) i = route net p i := routeN_first h _ _ _
/-! ### All of them -/
def fpS (net : List Ofc) (s : ByteArray) : List ByteArray := if (netOk net && decide (0 ≤ offI net s)) = true then faultsN net (offI net s).toNat 8 ⟨#[]⟩ else []
theorem fpS_len (net : List Ofc) (s : ByteArray) : (fpS net s).length ≤ 100000000 := by
  unfold fpS
  split
  · exact faults_len net _ 8 _
  · simp

end Go.Proofs.YtffbcfaahegglaaDoor

namespace Go.Proofs.YtffbcfaahegglaaDoor
open Go.RowKit

theorem Tryd.infoByte : (Tryd.prog.info? 5).map (fun i => (i.zero, i.size, i.bytes)) = some (some (.int .u8 0), 1, 1) := by kernel_rfl
theorem dgB_dec (d : Nat) (h : d < 10) : decB d = dgB d := by
  apply ba_ext
  show decL d = [UInt8.ofNat (48 + d)]
  unfold decL
  by_cases h0 : d = 0
  · subst h0; rfl
  · rw [if_neg h0, dec10_small (by omega) (by omega)]
    unfold b8
    rw [show (48 + (d : Int)).toNat = 48 + d by omega]

theorem byteString1 (W : World) (g : Nat) (n : Int) (h : W.cell? ⟨g, 0, none⟩ = some (.int .u8 n)) : (convert 33 9 (.slice (some ⟨g, 0, none⟩) 1 1)).run Tryd.prog W = .ok (.string ⟨#[b8 n]⟩) W := by
  rw [run_convert_bytes_string _ _ _ 5 _ _ _ Tryd.underlying33 Tryd.underlying5 Tryd.underlying9]
  rw [run_bytesToString _ _ _ _ [n] (by
    refine run_loadCells_list _ _ [Value.int .u8 n] fun j v hj => ?_
    match j, hj with
    | 0, hj =>
      simp at hj
      subst hj
      rw [add_lit]
      exact h
    | j + 1, hj => simp at hj)]
  rfl


end Go.Proofs.YtffbcfaahegglaaDoor
