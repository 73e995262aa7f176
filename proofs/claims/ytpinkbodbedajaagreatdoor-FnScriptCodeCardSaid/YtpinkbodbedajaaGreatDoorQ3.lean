/- K4 E1 E2 D0 W3 -/
import Derived.Test.YtpinkbodbedajaaGreatDoorQ2
import Derived.Test.YtpinkbodbedajaaGreatDoorQ1
import Derived.StillTailTactics
import Derived.Deep.RegionHeld3
import Derived.Handy
import Derived.Laws.BitsAllLaws
import Derived.Laws.BitsLemmas
namespace Go.Proofs.YtpinkbodbedajaaGreatDoor
open Go.RowKit

/-- The index of the first missort with id c; -1 if there is none. -/
def ixI (ms : List Mis) (c : Int) : Int := if ms.findIdx (fun y => y.id == c) < ms.length then (ms.findIdx (fun y => y.id == c) : Int) else -1
theorem ixI_hit {ms : List Mis} {c : Int} {k : Nat} (hk : k < ms.length) (h1 : ∀ j (hj : j < k), (ms[j].id == c) = false) (h2 : (ms[k].id == c) = true) : ixI ms c = k := by
  have e : ms.findIdx (fun y => y.id == c) = k := (List.findIdx_eq hk).2 ⟨h2, h1⟩
  unfold ixI
  rw [e, if_pos hk]
theorem ixI_none {ms : List Mis} {c : Int} (h : ∀ j (hj : j < ms.length), (ms[j].id == c) = false) : ixI ms c = -1 := by
  have e : ms.findIdx (fun y => y.id == c) = ms.length := List.findIdx_eq_length.2 fun x hx => by
    obtain ⟨j, hj, rfl⟩ := List.getElem_of_mem hx
    exact h j hj
  unfold ixI
  rw [e, if_neg (by omega)]
/-- Its own index is found first exactly if no earlier one bears its id. -/
theorem ixI_own {ms : List Mis} {k : Nat} (hk : k < ms.length) : (ixI ms ms[k].id == (k : Int)) = (ms.take k).all (fun y => y.id != ms[k].id) := by
  rw [Bool.eq_iff_iff, List.all_eq_true]
  constructor
  · intro h x hx
    obtain ⟨j, hj, rfl⟩ := List.getElem_of_mem hx
    rw [List.length_take] at hj
    have hjk : j < k := by omega
    rw [List.getElem_take]
    have h' : ixI ms ms[k].id = (k : Int) := by simpa using h
    unfold ixI at h'
    split at h'
    · have e : ms.findIdx (fun y => y.id == ms[k].id) = k := by omega
      have := ((List.findIdx_eq hk).1 e).2 j hjk
      simpa using this
    · omega
  · intro h
    rw [ixI_hit hk (fun j hj => by
      have := h ms[j] (by rw [List.mem_take_iff_getElem]; exact ⟨j, by omega, rfl⟩)
      simpa using this) (by simp)]
    simp


theorem l1In_is {n a b : Int} {r : Bool} {w : World} (h : (decide (a ≤ n) && decide (n ≤ b)) = r) : Calls Tryz.prog 115 #[.int .i64 n, .int .i64 a, .int .i64 b] w fun e w' => e = .returned (.bool r) ∧ w = w' := by
  rw [← h]; exact spec_l1In n a b w
theorem misOk_of_bad {p : Pln} {ms : List Mis} {k : Nat} (hk : k < ms.length) (h : planOk p = true → goodM p.bins ms k = false) : misOk p ms = false := by
  cases hp : planOk p
  · exact misOk_plan hp
  · exact misOk_bad hk (h hp)


set_option maxHeartbeats 1600000 in
theorem impl_MissortsValid (v vm : Value) (p : Pln) (ms : List Mis) (w : World) (hv : rdP w w.heap.size v p) (hvm : rd w w.heap.size vm ms) :
    Calls Tryz.prog 286 #[v, vm] w fun e w' => e = .returned (.bool (misOk p ms)) ∧ Below w.heap.size w w' := by
  have hv0 := Lib.hid hv
  obtain ⟨vo, rfl, hi1, hi2, Ao, no, cpo, rfl, hno, hco, hmo, hro⟩ := hv
  subst hno
  clear hco hmo hro
  obtain ⟨A, n, cp, rfl, hn, hc, hm, hr⟩ := hvm
  subst hn
  unfold maxLen at hm
  have HR := Lib.hid hr; clear hr
  have HW := Lib.hid (fun o => hv0.out.on ((Below.refl _ _).alloc (Nat.le_refl _) o))
  have hb0 : Below w.heap.size w (w.alloc (Obj.cells #[Value.int IntKind.i64 p.bins, Value.int IntKind.i64 p.passes, Value.slice Ao p.order.length cpo] 25)) := (Below.refl _ _).alloc (Nat.le_refl _) _
  have gb : (w.alloc (Obj.cells #[Value.int IntKind.i64 p.bins, Value.int IntKind.i64 p.passes, Value.slice Ao p.order.length cpo] 25)).cell? ⟨w.heap.size, 0, none⟩ = some (.int .i64 p.bins) := by go_simp
  have GB := Lib.hid gb; clear gb
  have HB0 := Lib.hid hb0; clear hb0
  have hz0 : (w.alloc (Obj.cells #[Value.int IntKind.i64 p.bins, Value.int IntKind.i64 p.passes, Value.slice Ao p.order.length cpo] 25)).heap.size = w.heap.size + 1 := by simp
  have HZ0 := Lib.hid hz0; clear hz0
  go_enter Tryz.func286, Tryz.ntmps286
  go_wp2_with fail
  refine (impl_PlanValid _ p _ (HW.out _)).mono ?_
  rintro e w0 ⟨rfl, b0⟩
  have B0 : Below w.heap.size w w0 := HB0.out.trans (b0.mono HB0.out.size)
  have g0 : w0.cell? ⟨w.heap.size, 0, none⟩ = some (.int .i64 p.bins) := (b0.cell (p := ⟨w.heap.size, 0, none⟩) (by rw [HZ0.out]; simp)).trans GB.out
  have hlv0 : w.heap.size < w0.heap.size := by have h := b0.size; rw [HZ0.out] at h; omega
  clear HW HZ0 GB HB0 b0
  cases hp : planOk p
  · have HP := Lib.hid hp; clear hp
    go_wp2_with fail
    go_ret
    exact ⟨ret_bool (misOk_plan HP.out).symm, B0⟩
  have HP := Lib.hid hp; clear hp
  by_cases h60 : (60 : Int) < (ms.length : Int)
  · have H60 := Lib.hid (show ¬ ms.length ≤ 60 by omega)
    go_wp2_with fail
    go_ret
    exact ⟨ret_bool (misOk_len H60.out).symm, B0⟩
  have h60' : ms.length ≤ 60 := by omega
  have H60 := Lib.hid h60'; clear h60'
  go_wp2_with fail
  go_loopw [19] (fun i wr => ∃ k : Nat, k ≤ ms.length ∧ i = .int .i64 k ∧ Below w.heap.size w wr ∧ wr.cell? ⟨w.heap.size, 0, none⟩ = some (.int .i64 p.bins) ∧ w.heap.size < wr.heap.size ∧ Hid (∀ j, j < k → goodM p.bins ms j = true)) (fun i _ => ms.length - (intOf i).toNat)
  case atStart => exact ⟨0, Nat.zero_le _, rfl, B0, g0, hlv0, fun j hj => absurd hj (Nat.not_lt_zero j)⟩
  case round =>
    obtain ⟨k, hk, rfl, hbl, g1, hlv, HG⟩ := hrel
    obtain ⟨w1, rfl⟩ : ∃ w1 : World, w1 = wr := ⟨_, rfl⟩
    have hsz := hbl.size
    clear g0 B0
    by_cases hlt : k < ms.length
    · obtain ⟨b, o, rfl, hb, ⟨o1, o2⟩, c1, c2⟩ := HR.out.mis k hlt
      have hG := Lib.hid (goodM_of (bins := p.bins) hlt)
      have hbad := Lib.hid (fun h => misOk_bad (p := p) hlt h)
      generalize hx : ms[k] = x at *
      clear hx
      have c1' : w1.cell? ⟨b, o + k * 2, none⟩ = some (.int .i64 x.id) := (hbl.cell (p := ⟨b, o + k * 2, none⟩) hb).trans c1
      have c2' : w1.cell? ⟨b, o + k * 2 + 1, none⟩ = some (.int .i64 x.bin) := (hbl.cell (p := ⟨b, o + k * 2 + 1, none⟩) hb).trans c2
      clear c1 c2
      by_cases h1 : x.id < 1
      · go_wp2
        go_ret
        exact ⟨ret_bool (hbad.out (by rw [hG.out]; simp; omega)).symm, hbl.alloc hsz _⟩
      by_cases h2 : 9999 < x.id
      · go_wp2
        go_ret
        exact ⟨ret_bool (hbad.out (by rw [hG.out]; simp; omega)).symm, hbl.alloc hsz _⟩
      by_cases h3 : x.bin < 0
      · go_wp2
        go_ret
        exact ⟨ret_bool (hbad.out (by rw [hG.out]; simp; omega)).symm, hbl.alloc hsz _⟩
      by_cases h4 : p.bins ≤ x.bin
      · go_wp2
        go_ret
        exact ⟨ret_bool (hbad.out (by rw [hG.out]; simp; omega)).symm, hbl.alloc hsz _⟩
      have h1' : 1 ≤ x.id := by omega
      have h2' : x.id ≤ 9999 := by omega
      have h3' : 0 ≤ x.bin := by omega
      have h4' : x.bin < p.bins := by omega
      have hgd : ((decide (1 ≤ x.id) && decide (x.id ≤ 9999)) && (decide (0 ≤ x.bin) && decide (x.bin < p.bins))) = true := by rw [decide_eq_true h1', decide_eq_true h2', decide_eq_true h3', decide_eq_true h4']; rfl
      have HGD := Lib.hid hgd; clear hgd
      go_wp2
      obtain ⟨wo, hwo⟩ : ∃ wo : World, wo = w1.alloc (Obj.cells #[Value.int IntKind.i64 x.id, Value.int IntKind.i64 x.bin] 225) := ⟨_, rfl⟩
      have g2 : wo.cell? ⟨w1.heap.size, 0, none⟩ = some (.int .i64 x.id) := by subst hwo; simp [go_sem]
      have g3 : wo.cell? ⟨w.heap.size, 0, none⟩ = some (.int .i64 p.bins) := by subst hwo; go_simp
      have hwz : wo.heap.size = w1.heap.size + 1 := by subst hwo; simp
      have hbo : Below w.heap.size w wo := by subst hwo; exact hbl.alloc hsz _
      rw [← hwo]
      have HZ := Lib.hid hwz
      have hwz2 : w1.heap.size < wo.heap.size := by omega
      clear hwo hwz
      go_loopw [48] (fun i wi => ∃ m : Nat, m ≤ k ∧ i = .int .i64 m ∧ Below wo.heap.size wo wi ∧ Hid ((ms.take m).all (fun y => y.id != x.id) = true)) (fun i _ => k - (intOf i).toNat)
      case atStart => exact ⟨0, Nat.zero_le _, rfl, Below.refl _ _, rfl⟩
      case round =>
        obtain ⟨m, hm, rfl, hbi, HA⟩ := hrel
        have hsi := hbi.size
        have hw2 := hbo.size
        have hw3 : w1.heap.size < wr.heap.size := by omega
        have hbw : Below w.heap.size w wr := hbo.trans (hbi.mono hw2)
        have g2' : wr.cell? ⟨w1.heap.size, 0, none⟩ = some (.int .i64 x.id) := (hbi.cell (p := ⟨w1.heap.size, 0, none⟩) hwz2).trans g2
        have g3' : wr.cell? ⟨w.heap.size, 0, none⟩ = some (.int .i64 p.bins) := (hbi.cell (p := ⟨w.heap.size, 0, none⟩) (by simp; omega)).trans g3
        clear g2 g3 g1
        by_cases hmk : m < k
        · obtain ⟨b', o', hA, _, ⟨p1, p2⟩, d1, d2⟩ := HR.out.mis m (by omega)
          have hT := Lib.hid (take_all_succ (p := fun y : Mis => y.id != x.id) ms m (by omega))
          have hI := Lib.hid (take_all_bad (p := fun y : Mis => y.id != x.id) ms m k (by omega) hmk)
          generalize ms[m] = y at *
          injection hA with hA
          injection hA with hA1 hA2
          subst hA1 hA2
          have d1' : wr.cell? ⟨b, o + m * 2, none⟩ = some (.int .i64 y.id) := (hbw.cell (p := ⟨b, o + m * 2, none⟩) hb).trans d1
          have d2' : wr.cell? ⟨b, o + m * 2 + 1, none⟩ = some (.int .i64 y.bin) := (hbw.cell (p := ⟨b, o + m * 2 + 1, none⟩) hb).trans d2
          clear d1 d2
          by_cases hyx : y.id = x.id
          · have hyx' : (y.id == x.id) = true := by simpa using hyx
            have HY := Lib.hid hyx; clear hyx
            go_wp2
            go_ret
            exact ⟨ret_bool (hbad.out (by rw [hG.out, hI.out (by simp [HY.out])]; simp)).symm, hbw.alloc (by omega) _⟩
          · have hyx' : (y.id == x.id) = false := by simpa using hyx
            have HY := Lib.hid hyx; clear hyx
            go_wp2
            go_roundw
            case rel => exact ⟨m + 1, by omega, by go_num, hbi.alloc hsi _, by show _ = true; rw [hT.out, HA.out]; simpa using HY.out⟩
            case measure => simp [intOf]; omega
        · have hme : m = k := by omega
          have HE := Lib.hid hme; clear hme
          go_wp2
          go_roundw
          case rel =>
            refine ⟨k + 1, by omega, by go_num, hbw, g3', by omega, fun j hj => ?_⟩
            by_cases hjk : j < k
            · exact HG.out j hjk
            · obtain rfl : j = k := by omega
              rw [hG.out, HGD.out, ← HE.out, HA.out]; rfl
          case measure => simp [intOf]; omega
    · have HE := Lib.hid (show k = ms.length by omega)
      go_wp2
      go_ret
      exact ⟨ret_bool (misOk_good HP.out H60.out (by rw [← HE.out]; exact HG.out)).symm, hbl⟩

end Go.Proofs.YtpinkbodbedajaaGreatDoor

namespace Go.Proofs.YtpinkbodbedajaaGreatDoor
open Go.RowKit

def lessOr (l n : Int) : Int := if l < n then -1 else l - n
def sumSz (xs : List Ltr) : Nat := (xs.map fun x => x.code.size).sum
theorem sumSz_succ (xs : List Ltr) (k : Nat) (h : k < xs.length) : sumSz (xs.take (k + 1)) = sumSz (xs.take k) + xs[k].code.size := by
  unfold sumSz; rw [List.take_succ_eq_append_getElem h, List.map_append, List.sum_append]; simp
theorem sumSz_le (xs : List Ltr) (k : Nat) : sumSz (xs.take k) ≤ sumSz xs := by
  unfold sumSz
  conv => rhs; rw [← List.take_append_drop k xs, List.map_append, List.sum_append]
  omega




def ltrEq (x y : Ltr) : Bool := x.id == y.id && sEq x.code y.code
theorem ltrEq_iff (x y : Ltr) : ltrEq x y = true ↔ x = y := by
  cases x; cases y; simp [ltrEq, sEq_iff]



end Go.Proofs.YtpinkbodbedajaaGreatDoor

namespace Go.Proofs.YtpinkbodbedajaaGreatDoor
open Go.RowKit

theorem Tryz.infoLtr : (Tryz.prog.info? 89).map (fun i => (i.zero, i.size, i.bytes)) = some (some (.agg #[.int .i64 0, .string ⟨#[]⟩]), 2, 24) := by kernel_rfl


/-- The decimal digits of a number; none of 0. -/
def dec10 : Nat → List UInt8
  | 0 => []
  | n + 1 => dec10 ((n + 1) / 10) ++ [UInt8.ofNat (48 + (n + 1) % 10)]
  decreasing_by omega
theorem dec10_len (n : Nat) : (dec10 n).length ≤ n := by
  induction n using Nat.strongRecOn with
  | _ n ih =>
    cases n with
    | zero => simp [dec10]
    | succ n =>
      have := ih ((n + 1) / 10) (by omega)
      rw [dec10, List.length_append, List.length_singleton]
      omega
theorem dec10_step {n : Nat} (h : 0 < n) : dec10 n = dec10 (n / 10) ++ [UInt8.ofNat (48 + n % 10)] := by
  cases n with
  | zero => omega
  | succ n => rw [dec10]
/-- 'markText': the letter m and the digits of k. -/
def markB (k : Nat) : ByteArray := if k = 0 then ⟨#[109, 48]⟩ else ⟨(109 :: dec10 k).toArray⟩

/-- 'byte(n)' -/
def b8 (n : Int) : UInt8 := UInt8.ofNat n.toNat
/-- 'string([]byte{x})' -/
theorem byteString (W : World) (n : Int) : (convert 22 9 (.slice (some ⟨W.heap.size, 0, none⟩) 1 1)).run Tryz.prog (W.alloc (.cells #[.int .u8 n] 5)) = .ok (.string ⟨#[b8 n]⟩) (W.alloc (.cells #[.int .u8 n] 5)) := by
  rw [run_convert_bytes_string _ _ _ 5 _ _ _ Tryz.underlying22 Tryz.underlying5 Tryz.underlying9]
  rw [run_bytesToString _ _ _ _ [n] (by
    refine run_loadCells_list _ _ [Value.int .u8 n] fun j v hj => ?_
    rw [add_lit, Nat.zero_add, cell_new]
    simpa using hj)]
  rfl
theorem ba_ext {a b : ByteArray} (h : a.data.toList = b.data.toList) : a = b := WideShapes.bytes_inj h
theorem ba_append (a b : ByteArray) : (a ++ b).data.toList = a.data.toList ++ b.data.toList := by simp


end Go.Proofs.YtpinkbodbedajaaGreatDoor

namespace Go.Proofs.YtpinkbodbedajaaGreatDoor
open Go.RowKit

instance elByte : El UInt8 where
  size := 1
  el _ _ x cs := cs = [.int .u8 x.toNat]
  len h := by rw [h]; rfl
  more h _ := h
  keep h _ := h
  one h := by rw [h]; intro u hu; simp at hu; rw [hu]; rfl
instance flatByte : Flat UInt8 where
  free h := h
instance elInt : El Int where
  size := 1
  el _ _ x cs := isI64 x ∧ cs = [.int .i64 x]
  len h := by rw [h.2]; rfl
  more h _ := h
  keep h _ := h
  one h := by rw [h.2]; intro u hu; simp at hu; rw [hu]; rfl
instance flatInt : Flat Int where
  free h := h
theorem rdA.byte {w : World} {B : Nat} {A : Option Addr} {xs : List UInt8} (h : rdA w B A xs) (k : Nat) (hk : k < xs.length) :
    ∃ b o, A = some ⟨b, o, none⟩ ∧ b < B ∧ w.cell? ⟨b, o + k, none⟩ = some (.int .u8 (xs[k]).toNat) := by
  obtain ⟨b, o, cs, hA, hb, rfl, hc⟩ := h k hk
  exact ⟨b, o, hA, hb, by simpa [El.size] using hc 0 _ rfl⟩
theorem rdA.int {w : World} {B : Nat} {A : Option Addr} {xs : List Int} (h : rdA w B A xs) (k : Nat) (hk : k < xs.length) :
    ∃ b o, A = some ⟨b, o, none⟩ ∧ b < B ∧ isI64 xs[k] ∧ w.cell? ⟨b, o + k, none⟩ = some (.int .i64 xs[k]) := by
  obtain ⟨b, o, cs, hA, hb, ⟨hi, rfl⟩, hc⟩ := h k hk
  exact ⟨b, o, hA, hb, hi, by simpa [El.size] using hc 0 _ rfl⟩

/-- Block g is a source at its place p, over at most 2000 bytes that lie below g. -/
def rdr (w : World) (g p : Nat) : Prop :=
  ∃ (A : Option Addr) (n c : Nat) (bs : List UInt8), w.heap[g]? = some (.cells #[.slice A n c, .int .i64 (p : Int)] 140 (0, 0)) ∧ n = bs.length ∧ n ≤ 2000 ∧ n ≤ c ∧ c ≤ maxLen ∧ rdA w g A bs
theorem rdr.lt {w : World} {g p : Nat} (h : rdr w g p) : g < w.heap.size := by
  obtain ⟨_, _, _, _, h1, _⟩ := h
  exact (Array.getElem?_eq_some_iff.1 h1).1
theorem rdr.below {w w' : World} {g p : Nat} (h : rdr w g p) (hb : Below w.heap.size w w') : rdr w' g p := by
  have hlt := h.lt
  obtain ⟨A, n, c, bs, h1, h2, h3, h4, h5, h6⟩ := h
  exact ⟨A, n, c, bs, (hb.block g hlt).trans h1, h2, h3, h4, h5, h6.keep fun p hp => hb.cell (Nat.lt_trans hp hlt)⟩
/-- Only the source, and what is new, has turned. -/
theorem rdr.grown {w w' : World} {g p g' : Nat} (h : rdr w g p) (hg : w.grownBy w' (some g')) (hlt : g < g') : rdr w' g p := by
  have hlt' := h.lt
  obtain ⟨A, n, c, bs, h1, h2, h3, h4, h5, h6⟩ := h
  refine ⟨A, n, c, bs, (hg.block g hlt' (fun e => by injection e; omega)).trans h1, h2, h3, h4, h5, h6.keep fun q hq => ?_⟩
  exact World.cell?_of_block (hg.block q.block (by omega) (fun e => by injection e; omega))

theorem xor_nonneg (a b : Nat) (ha : a < 9223372036854775808) (hb : b < 9223372036854775808) : ∃ c : Nat, bits .xor .i64 (a : Int) (b : Int) = (c : Int) ∧ c < 9223372036854775808 := by
  have hx : a ^^^ b < 2 ^ 63 := Nat.xor_lt_two_pow (by omega) (by omega)
  have h1 : ∀ a : Nat, a < 9223372036854775808 → (BitVec.ofInt 64 (a : Int)).toNat = a := fun a ha => by
    rw [BitVec.ofInt_natCast, BitVec.toNat_ofNat]; exact Nat.mod_eq_of_lt (by omega)
  refine ⟨a ^^^ b, ?_, by omega⟩
  show IntKind.i64.wrap ((BitVec.ofInt 64 (a : Int) ^^^ BitVec.ofInt 64 (b : Int)).toNat : Int) = _
  rw [BitVec.toNat_xor, h1 a ha, h1 b hb, IntKind.wrap_i64]
  omega

/-- What 'pick' gives. -/
def picked (n x : Int) : Prop := (n < 1 → x = 0) ∧ (1 ≤ n → 0 ≤ x ∧ x < n)

set_option maxHeartbeats 1000000 in
theorem rd_pick (g p : Nat) (n : Int) (w : World) (hr : rdr w g p) (hp : p ≤ 1099511627776) (hn : isI64 n) :
    Calls Tryz.prog 100 #[.pointer (some ⟨g, 0, none⟩), .int .i64 n] w fun e w' => ∃ x : Int, e = .returned (.int .i64 x) ∧ picked n x ∧ rdr w' g (p + 1) ∧ w.grownBy w' (some g) := by
  have hlt := hr.lt
  obtain ⟨n1, n2⟩ := hn
  obtain ⟨A, m, c, bs, h1, rfl, h3, h4, h5, h6⟩ := hr
  have g0 : w.cell? ⟨g, 0, none⟩ = some (.slice A bs.length c) := by rw [cell_of_row _ _ _ _ _ _ h1]; rfl
  have g1 : w.cell? ⟨g, 1, none⟩ = some (.int .i64 p) := by rw [cell_of_row _ _ _ _ _ _ h1]; rfl
  have f0 : w.frozen? ⟨g, 1, none⟩ = false := by simp [World.frozen?, h1]
  have hr1 : rdr (w.setCell ⟨g, 1, none⟩ (.int .i64 ((p : Int) + 1))) g (p + 1) :=
    ⟨A, bs.length, c, bs, by simp [World.setCell, Array.getElem?_modify, h1], rfl, h3, h4, h5, h6.keep fun q hq => World.cell?_setCell_other _ _ _ _ (fun e => by subst e; simp at hq)⟩
  have hgr : w.grownBy (w.setCell ⟨g, 1, none⟩ (.int .i64 ((p : Int) + 1))) (some g) := grown_setCell (World.grownBy.refl _ _) (.inl rfl) _
  have HR := Lib.hid hr1; clear hr1
  have H6 := Lib.hid h6; clear h6
  have H1 := Lib.hid h1; clear h1
  have HG := Lib.hid hgr; clear hgr
  unfold maxLen at h5
  go_enter Tryz.func100, Tryz.ntmps100
  by_cases hn0 : n < 1
  · have HP : Hid (picked n 0) := ⟨fun _ => rfl, fun h => absurd hn0 (Int.not_lt.2 h)⟩
    go_wp2
    go_ret
    exact ⟨0, rfl, HP.out, HR.out, HG.out⟩
  by_cases hl0 : bs.length = 0
  · have hl0' : ((bs.length : Int) == 0) = true := by simp [hl0]
    have HL := Lib.hid hl0; clear hl0
    have HP : Hid (picked n 0) := ⟨fun _ => rfl, fun h => ⟨Int.le_refl _, Int.lt_of_lt_of_le (by decide) h⟩⟩
    go_wp2
    go_ret
    exact ⟨0, rfl, HP.out, HR.out, HG.out⟩
  have hl0' : ((bs.length : Int) == 0) = false := beq_eq_false_iff_ne.2 (by omega)
  by_cases hpl : p < bs.length
  · obtain ⟨b, o, rfl, hb, c1⟩ := H6.out.byte p hpl
    have hby : (bs[p].toNat : Int) ≤ 255 := by have := bs[p].toNat_lt; omega
    generalize bs[p] = u at *
    have c2 : (w.setCell ⟨g, 1, none⟩ (.int .i64 ((p : Int) + 1))).cell? ⟨b, o + p, none⟩ = some (.int .u8 u.toNat) := (World.cell?_setCell_other _ _ _ _ (fun e => by injection e; omega)).trans c1
    have hmod : 0 ≤ (u.toNat : Int) % n ∧ (u.toNat : Int) % n < n := ⟨Int.emod_nonneg _ (by omega), Int.emod_lt_of_pos _ (by omega)⟩
    have HM := Lib.hid hmod; clear hmod
    have HN := Lib.hid (Int.not_lt.1 hn0)
    go_wp2
    go_ret
    exact ⟨(u.toNat : Int) % n, rfl, ⟨fun h => absurd h (Int.not_lt.2 HN.out), fun _ => HM.out⟩, HR.out, HG.out⟩
  · have hL : 0 < bs.length := by omega
    have hm1 := Nat.mod_lt p hL
    have hm2 := Nat.mod_lt (p * 7 + 3) hL
    obtain ⟨b, o, rfl, hb, c1⟩ := H6.out.byte _ hm1
    obtain ⟨b', o', hA, _, d1⟩ := H6.out.byte _ hm2
    injection hA with hA
    injection hA with hA1 hA2
    subst hA1 hA2
    have hby1 : (bs[p % bs.length].toNat : Int) ≤ 255 := by have := bs[p % bs.length].toNat_lt; omega
    have hby2 : (bs[(p * 7 + 3) % bs.length].toNat : Int) ≤ 255 := by have := bs[(p * 7 + 3) % bs.length].toNat_lt; omega
    generalize bs[p % bs.length] = u at *
    generalize bs[(p * 7 + 3) % bs.length] = u' at *
    have hdv : p / bs.length ≤ p := Nat.div_le_self _ _
    have r1 : (p : Int).tmod (bs.length : Int) = ((p % bs.length : Nat) : Int) := by rw [Int.tmod_eq_emod_of_nonneg (by omega)]; rfl
    have r2 : ((p : Int) * 7 + 3).tmod (bs.length : Int) = (((p * 7 + 3) % bs.length : Nat) : Int) := by rw [Int.tmod_eq_emod_of_nonneg (by omega)]; rfl
    have r3 : (p : Int).tdiv (bs.length : Int) = ((p / bs.length : Nat) : Int) := by rw [Int.tdiv_eq_ediv_of_nonneg (by omega)]; rfl
    generalize hi1 : p % bs.length = i1 at *
    generalize hi2 : (p * 7 + 3) % bs.length = i2 at *
    generalize hi3 : p / bs.length = i3 at *
    clear hi1 hi2 hi3
    have c2 : (w.setCell ⟨g, 1, none⟩ (.int .i64 ((p : Int) + 1))).cell? ⟨b, o + i1, none⟩ = some (.int .u8 u.toNat) := (World.cell?_setCell_other _ _ _ _ (fun e => by injection e; omega)).trans c1
    have d2 : (w.setCell ⟨g, 1, none⟩ (.int .i64 ((p : Int) + 1))).cell? ⟨b, o + i2, none⟩ = some (.int .u8 u'.toNat) := (World.cell?_setCell_other _ _ _ _ (fun e => by injection e; omega)).trans d1
    have q1 : (i1 : Int) < (bs.length : Int) := by omega
    have q2 : (i2 : Int) < (bs.length : Int) := by omega
    go_wp2
    go_quiet (fail)
    have HN := Lib.hid (show 1 ≤ n by omega)
    go_wp2
    go_ret
    obtain ⟨y, hy, _⟩ := xor_nonneg (u.toNat * 131 + u'.toNat * 1117 + p * 29 + i3 * 53) ((u.toNat * 131 + u'.toNat * 1117 + p * 29 + i3 * 53) / 64) (by omega) (by omega)
    have hy' : bits BinOp.xor IntKind.i64 ((u.toNat : Int) * 131 + (u'.toNat : Int) * 1117 + (p : Int) * 29 + (i3 : Int) * 53) (((u.toNat : Int) * 131 + (u'.toNat : Int) * 1117 + (p : Int) * 29 + (i3 : Int) * 53) / 64) = (y : Int) := by
      rw [← hy]; congr 1
    refine ⟨_, rfl, ⟨fun h => absurd h (Int.not_lt.2 HN.out), fun h => ?_⟩, rdr.below HR.out (below_drewN (Below.refl _ _) nq), grown_drewN HG.out nq⟩
    rw [hy', Int.tmod_eq_emod_of_nonneg (by omega)]
    exact ⟨Int.emod_nonneg _ (by omega), Int.emod_lt_of_pos _ (by omega)⟩

end Go.Proofs.YtpinkbodbedajaaGreatDoor

namespace Go.Proofs.YtpinkbodbedajaaGreatDoor
open Go.RowKit

theorem later_trans {a b c : World} (h : Below a.heap.size a b) (k : Below b.heap.size b c) : Below a.heap.size a c := h.trans (k.mono h.size)
theorem later_alloc {a b : World} (h : Below a.heap.size a b) (o : Obj) : Below a.heap.size a (b.alloc o) := h.alloc h.size o
theorem later_drew {a b : World} (h : Below a.heap.size a b) : Below a.heap.size a b.drew := h.drew
theorem later_drewN {a b : World} (h : Below a.heap.size a b) (n : Nat) : Below a.heap.size a (b.drewN n) := below_drewN h n
theorem later_set {a b : World} (h : Below a.heap.size a b) {p : Addr} (hp : a.heap.size ≤ p.block) (u : Value) : Below a.heap.size a (b.setCell p u) := h.setCell hp u
attribute [go_sem] later_alloc later_drew later_drewN

/-- A cell that holds u in the world a and in every later one. -/
def stays (a : World) (p : Addr) (u : Value) : Prop := ∀ W, Below a.heap.size a W → W.cell? p = some u
theorem stays_of {a : World} {p : Addr} {u : Value} (h : p.block < a.heap.size) (c : a.cell? p = some u) : stays a p u := fun W hW => (hW.cell h).trans c
theorem stays.on {a b : World} {p : Addr} {u : Value} (h : stays a p u) (hb : Below a.heap.size a b) : stays b p u := fun W hW => h W (later_trans hb hW)
/-- The cells of a block just made. -/
theorem box_cells {w w0 : World} {cs : Array Value} {T : TypeId} (h : w0 = w.alloc (.cells cs T)) (i : Nat) (u : Value) (hu : cs[i]? = some u) : ∀ W, Below w0.heap.size w0 W → W.cell? ⟨w.heap.size, i, none⟩ = some u := fun W hW => by
  have h1 : w.heap.size < w0.heap.size := by subst h; simp
  rw [hW.cell (p := ⟨w.heap.size, i, none⟩) h1]
  subst h
  rw [cell_new]
  exact hu
theorem box_later {w w0 : World} {o : Obj} (h : w0 = w.alloc o) : Below w.heap.size w w0 ∧ w.heap.size < w0.heap.size := by
  subst h
  exact ⟨(Below.refl _ _).alloc (Nat.le_refl _) _, by simp⟩

theorem rdA.ltrU {w : World} {A : Option Addr} {xs : List Ltr} (h : rdA w w.heap.size A xs) (k : Nat) (hk : k < xs.length) :
    ∃ b o, A = some ⟨b, o, none⟩ ∧ b < w.heap.size ∧ (xs[k]).ok ∧ (∀ W, Below w.heap.size w W → W.cell? ⟨b, o + k * 2, none⟩ = some (.int .i64 (xs[k]).id)) ∧ (∀ W, Below w.heap.size w W → W.cell? ⟨b, o + k * 2 + 1, none⟩ = some (.string (xs[k]).code)) := by
  obtain ⟨b, o, hA, hb, hok, c1, c2⟩ := h.ltr k hk
  exact ⟨b, o, hA, hb, hok, fun W hW => (hW.cell (p := ⟨b, o + k * 2, none⟩) hb).trans c1, fun W hW => (hW.cell (p := ⟨b, o + k * 2 + 1, none⟩) hb).trans c2⟩
theorem rdA.misU {w : World} {A : Option Addr} {xs : List Mis} (h : rdA w w.heap.size A xs) (k : Nat) (hk : k < xs.length) :
    ∃ b o, A = some ⟨b, o, none⟩ ∧ b < w.heap.size ∧ (xs[k]).ok ∧ (∀ W, Below w.heap.size w W → W.cell? ⟨b, o + k * 2, none⟩ = some (.int .i64 (xs[k]).id)) ∧ (∀ W, Below w.heap.size w W → W.cell? ⟨b, o + k * 2 + 1, none⟩ = some (.int .i64 (xs[k]).bin)) := by
  obtain ⟨b, o, hA, hb, hok, c1, c2⟩ := h.mis k hk
  exact ⟨b, o, hA, hb, hok, fun W hW => (hW.cell (p := ⟨b, o + k * 2, none⟩) hb).trans c1, fun W hW => (hW.cell (p := ⟨b, o + k * 2 + 1, none⟩) hb).trans c2⟩
theorem rdA.fwdU {w : World} {A : Option Addr} {xs : List Fwd} (h : rdA w w.heap.size A xs) (k : Nat) (hk : k < xs.length) :
    ∃ b o, A = some ⟨b, o, none⟩ ∧ b < w.heap.size ∧ (xs[k]).ok ∧ (∀ W, Below w.heap.size w W → W.cell? ⟨b, o + k * 2, none⟩ = some (.string (xs[k]).src)) ∧ (∀ W, Below w.heap.size w W → W.cell? ⟨b, o + k * 2 + 1, none⟩ = some (.string (xs[k]).dst)) := by
  obtain ⟨b, o, hA, hb, hok, c1, c2⟩ := h.fwd k hk
  exact ⟨b, o, hA, hb, hok, fun W hW => (hW.cell (p := ⟨b, o + k * 2, none⟩) hb).trans c1, fun W hW => (hW.cell (p := ⟨b, o + k * 2 + 1, none⟩) hb).trans c2⟩
theorem rdA.strU {w : World} {A : Option Addr} {xs : List ByteArray} (h : rdA w w.heap.size A xs) (k : Nat) (hk : k < xs.length) :
    ∃ b o, A = some ⟨b, o, none⟩ ∧ b < w.heap.size ∧ (xs[k]).size ≤ maxLen ∧ (∀ W, Below w.heap.size w W → W.cell? ⟨b, o + k, none⟩ = some (.string xs[k])) := by
  obtain ⟨b, o, hA, hb, hok, c1⟩ := h.str k hk
  exact ⟨b, o, hA, hb, hok, fun W hW => (hW.cell (p := ⟨b, o + k, none⟩) hb).trans c1⟩
theorem rdA.intU {w : World} {A : Option Addr} {xs : List Int} (h : rdA w w.heap.size A xs) (k : Nat) (hk : k < xs.length) :
    ∃ b o, A = some ⟨b, o, none⟩ ∧ b < w.heap.size ∧ isI64 xs[k] ∧ (∀ W, Below w.heap.size w W → W.cell? ⟨b, o + k, none⟩ = some (.int .i64 xs[k])) := by
  obtain ⟨b, o, hA, hb, hok, c1⟩ := h.int k hk
  exact ⟨b, o, hA, hb, hok, fun W hW => (hW.cell (p := ⟨b, o + k, none⟩) hb).trans c1⟩

theorem openP {w : World} {B : Nat} {v : Value} {p : Pln} (h : rdP w B v p) : ∃ A c, v = .agg #[.int .i64 p.bins, .int .i64 p.passes, .slice A p.order.length c] := by
  obtain ⟨vo, rfl, _, _, A, n, c, rfl, rfl, _⟩ := h
  exact ⟨A, c, rfl⟩

/-! A block known whole. -/
theorem blk_cell {w : World} {g : Nat} {cs : Array Value} {T : TypeId} (h : w.heap[g]? = some (.cells cs T (0, 0))) (i : Nat) (u : Value) (hu : cs[i]? = some u) : w.cell? ⟨g, i, none⟩ = some u := by
  rw [cell_of_row _ _ _ _ _ _ h]; exact hu
theorem blk_free {w : World} {g : Nat} {cs : Array Value} {T : TypeId} (h : w.heap[g]? = some (.cells cs T (0, 0))) (i : Nat) : w.frozen? ⟨g, i, none⟩ = false := by
  simp [World.frozen?, h]
theorem blk_lt {w : World} {g : Nat} {o : Obj} (h : w.heap[g]? = some o) : g < w.heap.size := (Array.getElem?_eq_some_iff.1 h).1
theorem blk_below {w w' : World} {g : Nat} {o : Obj} (h : w.heap[g]? = some o) (hb : Below w.heap.size w w') : w'.heap[g]? = some o := (hb.block g (blk_lt h)).trans h
theorem blk_set {w : World} {g : Nat} {cs : Array Value} {T : TypeId} (h : w.heap[g]? = some (.cells cs T (0, 0))) (i : Nat) (u : Value) : (w.setCell ⟨g, i, none⟩ u).heap[g]? = some (.cells (cs.setIfInBounds i u) T (0, 0)) := by
  simp [World.setCell, Array.getElem?_modify, h]
theorem blk_other {w : World} {g : Nat} {o : Obj} (h : w.heap[g]? = some o) (p : Addr) (hp : p.block ≠ g) (u : Value) : (w.setCell p u).heap[g]? = some o := by
  rw [Below.heap_setCell _ _ _ _ (fun e => hp e.symm)]; exact h
/-- A store elsewhere leaves a row alone. -/
theorem own_out {α : Type} [Flat α] {T : TypeId} {base : Nat} {w : World} {v : Value} {xs : List α} (h : own T base w v xs) (p : Addr) (u : Value) (hp : p.block < base) : own T base (w.setCell p u) v xs :=
  h.grown (grown_setCell (World.grownBy.refl w (some p.block)) (.inl rfl) u) (by
    cases hv : v.ownBlock with
    | none => exact .inl rfl
    | some k =>
      refine .inr fun e => ?_
      have := (h.blk k hv).1
      injection e
      omega)

end Go.Proofs.YtpinkbodbedajaaGreatDoor
