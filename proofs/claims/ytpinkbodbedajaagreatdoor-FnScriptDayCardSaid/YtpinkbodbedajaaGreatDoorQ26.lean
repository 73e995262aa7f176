/- LA LB LC LD LE LF -/
import Derived.Test.YtpinkbodbedajaaGreatDoorQ25
import Derived.Lib.SortBridge
import Derived.Test.YtpinkbodbedajaaGreatDoorQ18
import Derived.Test.YtpinkbodbedajaaGreatDoorQ14
import Derived.Test.YtpinkbodbedajaaGreatDoorQ8
import Derived.Test.YtpinkbodbedajaaGreatDoorQ9
import Derived.Test.YtpinkbodbedajaaGreatDoorQ5
import Derived.Deep.RegionHeld3
import Derived.Test.YtpinkbodbedajaaGreatDoorQ21
namespace Go.Proofs.YtpinkbodbedajaaGreatDoor
open Go.RowKit

def forwardsWd : ByteArray := ⟨#[102, 111, 114, 119, 97, 114, 100, 115]⟩
def sizeWd : ByteArray := ⟨#[115, 105, 122, 101]⟩

/-! ### Orders to forward, written and parsed back -/
theorem fwd_codes {fs : List Fwd} (h : fwdsOk fs = true) : ∀ x ∈ fs, isCode x.src = true ∧ isCode x.dst = true := fun x hx => by
  obtain ⟨k, hk, rfl⟩ := List.getElem_of_mem hx
  have := (fwdsOk_iff.1 h).2 k hk
  exact ⟨this.1, this.2.1⟩
theorem fmtU_part {x : Fwd} (h : isCode x.src = true) : partR (fmtU x) = some x := by
  have hc : cutAt 62 (fmtU x) = some (x.src, x.dst) := cut_app (isCode_not h (by decide))
  unfold partR
  rw [hc]
  rfl
theorem fmtU_not {x : Fwd} (h1 : isCode x.src = true) (h2 : isCode x.dst = true) {c : UInt8} (hc : c = 32 ∨ c = 10) : c ∉ (fmtU x).data.toList := by
  unfold fmtU
  rw [ba_append, ba_append, List.mem_append, List.mem_append]
  rintro ((m | m) | m)
  · exact isCode_not h1 (by rcases hc with rfl | rfl <;> decide) m
  · rcases hc with rfl | rfl <;> exact absurd m (by decide)
  · exact isCode_not h2 (by rcases hc with rfl | rfl <;> decide) m
theorem map_partU {fs : List Fwd} (h : fwdsOk fs = true) : gotR (fs.map fmtU) = fs ∧ allR (fs.map fmtU) = true := by
  have key : ∀ l : List Fwd, (∀ x ∈ l, isCode x.src = true ∧ isCode x.dst = true) → gotR (l.map fmtU) = l ∧ allR (l.map fmtU) = true := fun l => by
    induction l with
    | nil => intro _; exact ⟨rfl, rfl⟩
    | cons x l ih =>
      intro hl
      obtain ⟨i1, i2⟩ := ih fun y hy => hl y (List.mem_cons_of_mem _ hy)
      have hp := fmtU_part (hl x (by simp)).1
      refine ⟨?_, ?_⟩
      · unfold gotR at *
        rw [List.map_cons, List.filterMap_cons, hp, i1]
      · unfold allR at *
        rw [List.map_cons, List.all_cons, hp, i2]
        rfl
  exact key fs (fwd_codes h)
theorem fmtFo_ne {fs : List Fwd} (h : fwdsOk fs = true) (h0 : fs.length ≠ 0) : sEq (fmtFo fs) ⟨#[45]⟩ = false := by
  cases hq : sEq (fmtFo fs) ⟨#[45]⟩
  · rfl
  · exfalso
    rw [sEq_iff] at hq
    obtain ⟨x, l, hx⟩ : ∃ x l, fs = x :: l := by
      cases fs with
      | nil => exact absurd rfl h0
      | cons x l => exact ⟨x, l, rfl⟩
    have hp := parts_join (ps := fs.map fmtU) (by rw [hx]; simp) fun p hp => by
      obtain ⟨y, hy, rfl⟩ := List.mem_map.1 hp
      exact fmtU_not (fwd_codes h y hy).1 (fwd_codes h y hy).2 (.inl rfl)
    rw [← fmtFo_some h h0, hq] at hp
    have h1 : partsB 32 (⟨#[45]⟩ : ByteArray) = [⟨#[45]⟩] := parts_one (by decide)
    rw [h1, hx] at hp
    simp only [List.map_cons, List.cons.injEq] at hp
    have := congrArg ByteArray.size hp.1
    have h7 := (code_mem (fwd_codes h x (by rw [hx]; simp)).1).1
    unfold fmtU at this
    simp only [ByteArray.size_append] at this
    have e1 : (⟨#[45]⟩ : ByteArray).size = 1 := rfl
    omega
theorem pf_fmt {fs : List Fwd} (h : fwdsOk fs = true) : pfOk (fmtFo fs) = true ∧ pfF (fmtFo fs) = fs := by
  by_cases h0 : fs.length = 0
  · have hx : fs = [] := List.eq_nil_of_length_eq_zero h0
    rw [fmtFo_empty h h0]
    unfold pfOk pfF
    have : sEq (⟨#[45]⟩ : ByteArray) ⟨#[45]⟩ = true := sEq_iff.2 rfl
    rw [this, if_pos rfl, hx]
    exact ⟨rfl, rfl⟩
  · have hn := fmtFo_ne h h0
    have hne : fs.map fmtU ≠ [] := fun e => h0 (by have := congrArg List.length e; simpa using this)
    have hp : partsB 32 (fmtFo fs) = fs.map fmtU := by
      rw [fmtFo_some h h0]
      exact parts_join hne fun p hp => by
        obtain ⟨y, hy, rfl⟩ := List.mem_map.1 hp
        exact fmtU_not (fwd_codes h y hy).1 (fwd_codes h y hy).2 (.inl rfl)
    obtain ⟨m1, m2⟩ := map_partU h
    have hs : pfSome (fmtFo fs) = true := by
      unfold pfSome
      rw [hp, m1, m2, List.length_map, decide_eq_true (fwdsOk_iff.1 h).1, h]
      rfl
    unfold pfOk pfF
    rw [hn, if_neg (by simp), if_pos hs, hp, m1, hs]
    exact ⟨rfl, rfl⟩
theorem fmtFo_size (fs : List Fwd) : (fmtFo fs).size ≤ 600 := by
  cases h : fwdsOk fs
  · rw [fmtFo_no h]; exact Nat.zero_le _
  · by_cases h0 : fs.length = 0
    · rw [fmtFo_empty h h0]; exact (by decide : (1 : Nat) ≤ 600)
    · rw [fmtFo_some h h0]
      have h1 := joinT_size (fs.map fmtU) spT 16 fun p hp => (fwd_fmt h p hp).1
      have h2 := (fwdsOk_iff.1 h).1
      rw [List.length_map] at h1
      have h3 : fs.length * (16 + spT.size) ≤ 30 * 17 := Nat.mul_le_mul h2 (Nat.le_refl _)
      omega
theorem fmtFo_not {fs : List Fwd} : (10 : UInt8) ∉ (fmtFo fs).data.toList := fun m => by
  cases h : fwdsOk fs
  · rw [fmtFo_no h] at m; simp at m
  · by_cases h0 : fs.length = 0
    · rw [fmtFo_empty h h0] at m; simp at m
    · rw [fmtFo_some h h0, joinT_data] at m
      rcases inter_mem m with m | ⟨l, hl, m⟩
      · exact absurd m (by decide)
      · simp only [List.map_map, List.mem_map] at hl
        obtain ⟨r, hr, rfl⟩ := hl
        exact fmtU_not (fwd_codes h r hr).1 (fwd_codes h r hr).2 (.inr rfl) m

/-! ### The desk written -/
theorem dskAt.setFwds {B d : Nat} {w : World} {s : Dsk} {vH v' : Value} {fs : List Fwd} (h : dskAt B w d s vH) (hn : own 94 B w v' fs) : dskAt B (w.setCell ⟨d, 4, none⟩ v') d { s with day := { s.day with fwds := fs } } vH := by
  have ho := h.obj
  obtain ⟨vL, vO, vF, vN, os, h0, h1, h2, h3, h4, h5, h6⟩ := h
  refine ⟨vL, vO, v', vN, os, ?_, own_d h1 ho (by decide) 4, own_d h2 ho (by decide) 4, own_d hn ho (by decide) 4, own_d h4 ho (by decide) 4, isN_d h5 ho (by decide) (by decide) 4, h6⟩
  have := heap_setCell_same w d 4 _ _ v' h0
  rw [this]
  rfl
theorem dskAt.setSize {B d : Nat} {w : World} {s : Dsk} {vH : Value} (h : dskAt B w d s vH) (n : Int) : dskAt B (w.setCell ⟨d, 6, none⟩ (.int .i64 n)) d { s with day := { s.day with size := n } } vH := by
  have ho := h.obj
  obtain ⟨vL, vO, vF, vN, os, h0, h1, h2, h3, h4, h5, h6⟩ := h
  refine ⟨vL, vO, vF, vN, os, ?_, own_d h1 ho (by decide) 6, own_d h2 ho (by decide) 6, own_d h3 ho (by decide) 6, own_d h4 ho (by decide) 6, isN_d h5 ho (by decide) (by decide) 6, h6⟩
  have := heap_setCell_same w d 6 _ _ (.int .i64 n) h0
  rw [this]
  rfl

set_option maxRecDepth 100000 in
set_option maxHeartbeats 1600000 in
theorem desk_setForwards (B d : Nat) (s : Dsk) (vH : Value) (fs : List Fwd) (w : World) (hD : dskAt B w d s vH) (hB : B ≤ w.heap.size) (hk : fwdsOk fs = true) :
    Calls Tryz.prog 135 #[.pointer (some ⟨d, 0, none⟩), .string (fmtFo fs)] w (lineQ B d { s with day := { s.day with fwds := fs } } vH okW w) := by
  have HD := Lib.hid hD; clear hD
  have HP : Hid (∀ W : World, Calls Tryz.prog 199 #[.string (fmtFo fs)] W fun e w' => ∃ v', e = .returned (.tuple #[v', .bool true]) ∧ own 94 W.heap.size w' v' fs ∧ Below W.heap.size W w') := fun W => by
    have h := impl_ParseForwards (fmtFo fs) W (by have := fmtFo_size fs; unfold maxLen; omega)
    rw [(pf_fmt hk).1, (pf_fmt hk).2] at h
    exact h
  go_enter Tryz.func135, Tryz.ntmps135
  go_wp2_with fail
  refine (HP.out _).mono ?_
  rintro e w1 ⟨v1, rfl, o1, b1⟩
  have HD1 := Lib.hid (HD.out.below b1)
  obtain ⟨A, n, c, rfl, -, -, -, -⟩ := o1.rd
  have HO1 := Lib.hid (o1.base_ hB)
  have HK1 := Lib.hid (Kd.of_below (d := d) (vH := vH) b1)
  obtain ⟨_, _, _, _, _, ⟨_, _, _, _, c4, _, _, _⟩, hf, _⟩ := dsk_cells HD1.out
  have f4 := hf 4
  clear o1 b1 hf
  go_wp2_with fail
  go_ret
  exact ⟨rfl, vH, HD1.out.setFwds HO1.out, HK1.out.set 4 _, heldN.refl _ _⟩

set_option maxRecDepth 100000 in
set_option maxHeartbeats 1600000 in
theorem line_forwards (B d : Nat) (s : Dsk) (vH : Value) (fs : List Fwd) (w : World) (hD : dskAt B w d s vH) (hB : B ≤ w.heap.size) (hk : fwdsOk fs = true) :
    Calls Tryz.prog 68 #[.pointer (some ⟨d, 0, none⟩), .string (lnOne forwardsWd (fmtFo fs))] w (lineQ B d { s with day := { s.day with fwds := fs } } vH okW w) := by
  have hz := fmtFo_size fs
  have HK : Hid (Calls Tryz.prog 130 #[.string (lnOne forwardsWd (fmtFo fs)), .string ⟨#[32]⟩] w fun e w' => e = .returned (.tuple #[.string forwardsWd, .string (fmtFo fs), .bool true]) ∧ Below w.heap.size w w') := (strings_Cut1 (lnOne forwardsWd (fmtFo fs)) 32 w (by rw [lnOne_size]; unfold maxLen; show 8 + 1 + _ ≤ _; omega)).mono fun e w' h => by
    have hcut : cutAt 32 (lnOne forwardsWd (fmtFo fs)) = some (forwardsWd, fmtFo fs) := cut_app (by decide)
    obtain ⟨hb, ⟨h, _⟩ | ⟨p, q, h, he⟩⟩ := h
    · rw [hcut] at h; cases h
    · rw [hcut] at h; cases h; exact ⟨he, hb⟩
  have HC : Hid (∀ W, Below w.heap.size w W → Calls Tryz.prog 135 #[.pointer (some ⟨d, 0, none⟩), .string (fmtFo fs)] W (lineQ B d { s with day := { s.day with fwds := fs } } vH okW W)) := fun W hW => desk_setForwards B d s vH fs W (hD.below hW) (Nat.le_trans hB hW.size) hk
  clear hD hk hz
  generalize lnOne forwardsWd (fmtFo fs) = line at *
  generalize fmtFo fs = F at *
  have q_0 : (forwardsWd.toList == [108, 101, 116, 116, 101, 114, 115]) = false := by rw [ByteArray.toList_eq]; decide
  have q_1 : (forwardsWd.toList == [112, 108, 97, 110]) = false := by rw [ByteArray.toList_eq]; decide
  have q_t : (forwardsWd.toList == [102, 111, 114, 119, 97, 114, 100, 115]) = true := by rw [ByteArray.toList_eq]; decide
  generalize forwardsWd = wd at *
  go_enter Tryz.func68, Tryz.ntmps68
  go_wp2_with fail
  refine HK.out.mono ?_
  rintro e w1 ⟨rfl, b1⟩
  have HB1 := Lib.hid b1; clear b1
  go_wp2_with fail
  refine (HC.out _ HB1.out).mono ?_
  rintro e w2 ⟨rfl, h2⟩
  go_wp2_with fail
  go_ret
  exact lineQ.pre HB1.out ⟨rfl, h2⟩

set_option maxRecDepth 100000 in
set_option maxHeartbeats 1600000 in
theorem one_size (B d : Nat) (s : Dsk) (vH : Value) (f : ByteArray) (n : Int) (w : World) (hD : dskAt B w d s vH) (hz : f.size ≤ maxLen) (hf : fieldN f = n) (hn : 1 ≤ n ∧ n ≤ 20) :
    Calls Tryz.prog 137 #[.pointer (some ⟨d, 0, none⟩), .string sizeWd, .string f] w (lineQ B d { s with day := { s.day with size := n } } vH okW w) := by
  have HD := Lib.hid hD
  have HN := Lib.hid (fun W => impl_fieldNumber f W hz)
  rw [hf] at HN
  have HS : Hid (Calls Tryz.prog 209 #[.pointer (some ⟨d, 0, none⟩), .int .i64 n] w (lineQ B d { s with day := { s.day with size := n } } vH okW w)) := by
    show Calls _ _ _ _ _
    obtain ⟨_, _, _, _, _, ⟨_, _, _, _, _, _, c6, _⟩, hfz, _⟩ := dsk_cells hD
    have f6 := hfz 6
    have HSV : Hid (∀ W : World, Calls Tryz.prog 110 #[.int .i64 n] W fun e w' => e = .returned (.bool true) ∧ W = w') := fun W => by
      have h := impl_sizeValid n W
      have e : sizeOk n = true := by unfold sizeOk; simp; omega
      rw [e] at h; exact h
    clear hfz hD HN hf hz
    go_enter Tryz.func209, Tryz.ntmps209
    go_wp2_with fail
    refine (HSV.out _).mono ?_
    rintro e _ ⟨rfl, rfl⟩
    go_wp2_with fail
    go_ret
    exact ⟨rfl, vH, HD.out.setSize n, (Kd.of_below (Below.refl _ _)).set 6 _, heldN.refl _ _⟩
  clear hf hn hz hD
  have q_0 : (sizeWd.toList == [112, 97, 115, 115]) = false := by rw [ByteArray.toList_eq]; decide
  have q_1 : (sizeWd.toList == [99, 111, 117, 110, 116]) = false := by rw [ByteArray.toList_eq]; decide
  have q_2 : (sizeWd.toList == [114, 97, 110, 107]) = false := by rw [ByteArray.toList_eq]; decide
  have q_3 : (sizeWd.toList == [108, 111, 97, 100, 115]) = false := by rw [ByteArray.toList_eq]; decide
  have q_4 : (sizeWd.toList == [115, 116, 97, 121]) = false := by rw [ByteArray.toList_eq]; decide
  have q_5 : (sizeWd.toList == [114, 101, 115, 111, 108, 118, 101]) = false := by rw [ByteArray.toList_eq]; decide
  have q_6 : (sizeWd.toList == [104, 111, 108, 100]) = false := by rw [ByteArray.toList_eq]; decide
  have q_t : (sizeWd.toList == [115, 105, 122, 101]) = true := by rw [ByteArray.toList_eq]; decide
  generalize sizeWd = wd at *
  go_enter Tryz.func137, Tryz.ntmps137
  go_wp2_with fail
  refine (HN.out _).mono ?_
  rintro e _ ⟨rfl, rfl⟩
  go_wp2_with fail
  refine HS.out.mono ?_
  rintro e w1 ⟨rfl, h1⟩
  go_wp2_with fail
  go_ret
  exact ⟨rfl, h1⟩

end Go.Proofs.YtpinkbodbedajaaGreatDoor

namespace Go.Proofs.YtpinkbodbedajaaGreatDoor
open Go.RowKit

def holdWd : ByteArray := ⟨#[104, 111, 108, 100]⟩
theorem own_other {α β : Type} [El α] [El β] {T1 T2 B1 B2 : Nat} {w : World} {v1 v2 : Value} {xs : List α} {ys : List β} (h1 : own T1 B1 w v1 xs) (h2 : own T2 B2 w v2 ys) (hT : T1 ≠ T2) {k : Nat} (e1 : v1.ownBlock = some k) : some k ≠ v2.ownBlock := fun e2 => by
  obtain ⟨c1, o1⟩ := own_obj h1 e1
  obtain ⟨c2, o2⟩ := own_obj h2 e2.symm
  rw [o1] at o2
  injection o2 with o2
  injection o2 with _ o2 _
  exact hT o2
theorem own_grownT {α β : Type} [Flat α] [El β] {T1 T2 B1 B2 : Nat} {w w' : World} {v1 v2 : Value} {xs : List α} {ys : List β} (h1 : own T1 B1 w v1 xs) (h2 : own T2 B2 w v2 ys) (hT : T1 ≠ T2) (hg : w.grownBy w' v2.ownBlock) : own T1 B1 w' v1 xs :=
  h1.keepBlk fun k e => hg.block k (h1.blk k e).2 (own_other h1 h2 hT e)
theorem dsk_ne {B d : Nat} {w : World} {s : Dsk} {vH : Value} (h : dskAt B w d s vH) : some d ≠ vH.ownBlock := fun e => by
  obtain ⟨c1, h1⟩ := own_obj h.held e.symm
  obtain ⟨c2, h2⟩ := h.obj
  rw [h1] at h2
  injection h2 with h2
  injection h2 with _ h2 _
  exact absurd h2 (by decide)
/-- The desk when a held code has been added. -/
theorem dskAt.hold {B d : Nat} {w w1 : World} {s : Dsk} {vH vH1 : Value} {hs : List ByteArray} (h : dskAt B w d s vH) (hg : w.grownBy w1 vH.ownBlock) (ho1 : own 9 B w1 vH1 hs) (hN : vH1.ownBlock = vH.ownBlock ∨ ∀ k, vH1.ownBlock = some k → w.heap.size ≤ k) :
    dskAt B (w1.setCell ⟨d, 5, none⟩ vH1) d { s with day := { s.day with held := hs } } vH1 ∧ Kd d vH w (w1.setCell ⟨d, 5, none⟩ vH1) := by
  have hne := dsk_ne h
  have hlt := h.lt
  have hK : Kd d vH w (w1.setCell ⟨d, 5, none⟩ vH1) := by
    have h1 : Kd d vH w w1 := ⟨hg.os, hg.tape, hg.output, hg.size, fun k hk _ h2 => hg.block k hk h2⟩
    exact h1.set 5 _
  refine ⟨?_, hK⟩
  obtain ⟨vL, vO, vF, vN, os, h0, h1, h2, h3, h4, h5, h6⟩ := h
  have h0' : w1.heap[d]? = _ := (hg.block d hlt hne).trans h0
  have hob : ∃ cur : Array Value, w1.heap[d]? = some (.cells cur 104 (0, 0)) := ⟨_, h0'⟩
  have g1 := own_grownT h1 h4 (by decide) hg
  have g3 := own_grownT h3 h4 (by decide) hg
  have g2 : own 9 B w1 vO s.day.plan.order := h2.keepBlk fun k e => by
    refine hg.block k (h2.blk k e).2 fun e2 => ?_
    rcases h6 with h6 | h6
    · rw [e] at h6; cases h6
    · exact h6 (e.trans e2)
  have g5 : isN 102 174 B w1 vN s.net os := ⟨own_grownT h5.1 h4 (by decide) hg, h5.2.1, fun k a b => ⟨(h5.2.2.1 k a b).1, own_grownT (h5.2.2.1 k a b).2 h4 (by decide) hg⟩, h5.2.2.2.1, h5.2.2.2.2⟩
  have ha : apart vO vH1 := by
    unfold apart at *
    cases hv : vO.ownBlock with
    | none => exact .inl rfl
    | some k =>
      refine .inr fun e => ?_
      rcases hN with hN | hN
      · rw [hN] at e
        rcases h6 with h6 | h6
        · rw [hv] at h6; cases h6
        · exact h6 (hv.trans e)
      · have z1 := hN k e.symm
        have z2 := (h2.blk k hv).2
        omega
  refine ⟨vL, vO, vF, vN, os, ?_, own_d g1 hob (by decide) 5, own_d g2 hob (by decide) 5, own_d g3 hob (by decide) 5, own_d ho1 hob (by decide) 5, isN_d g5 hob (by decide) (by decide) 5, ha⟩
  have := heap_setCell_same w1 d 5 _ _ vH1 h0'
  rw [this]
  rfl

set_option maxRecDepth 100000 in
set_option maxHeartbeats 1600000 in
theorem desk_hold (B d : Nat) (s : Dsk) (vH : Value) (c : ByteArray) (w : World) (hD : dskAt B w d s vH) (hB : B ≤ w.heap.size) (hc : isCode c = true) (hl : s.day.held.length < 30) (hz : ∀ x ∈ s.day.held, x.size ≤ 1000) :
    Calls Tryz.prog 208 #[.pointer (some ⟨d, 0, none⟩), .string c] w (lineQ B d { s with day := { s.day with held := s.day.held ++ [c] } } vH (listT (s.day.held ++ [c])) w) := by
  have h7 := (code_mem hc).1
  have HCV : Hid (∀ W : World, Calls Tryz.prog 75 #[.string c] W fun e w' => e = .returned (.bool true) ∧ W = w') := fun W => by
    have := impl_CodeValid c W (by unfold maxLen; omega)
    rw [hc] at this; exact this
  obtain ⟨i0, hi, hz0, hz1, hz2⟩ := info_parts Tryz.infoStr
  obtain ⟨AH, nH, cH, rfl, hn, -, -, -⟩ := hD.held.rd
  have HD := Lib.hid hD
  have HO := Lib.hid hD.held
  obtain ⟨_, _, _, _, _, ⟨_, _, _, _, _, c5, _, _⟩, hf, _⟩ := dsk_cells hD
  have f5 := hf 5
  have hdl := hD.lt
  have hne := dsk_ne hD
  have HLT : Hid (∀ (v : Value) (W : World), rd W W.heap.size v (s.day.held ++ [c]) → Calls Tryz.prog 195 #[v] W fun e w' => e = .returned (.string (listT (s.day.held ++ [c]))) ∧ Below W.heap.size W w') := fun v W h => impl_listText v _ W h (by rw [List.length_append, List.length_singleton]; omega) fun x hx => by
    rcases List.mem_append.1 hx with hx | hx
    · exact hz x hx
    · rw [List.mem_singleton.1 hx]; omega
  have HHN := Lib.hid hn
  have hnl : nH < 30 := by omega
  have hni : (nH : Int) < 30 := by omega
  clear hD hf hc hz hl hn
  generalize hhs : s.day.held = hs at *
  have HHS := Lib.hid hhs; clear hhs
  go_enter Tryz.func208, Tryz.ntmps208
  go_wp2_with fail
  refine (HCV.out _).mono ?_
  rintro e _ ⟨rfl, rfl⟩
  go_wp2_with (at_builtin; refine wpList_append1' (α := ByteArray) rfl (.tmp 22) (.tmp 24) 23 rfl B 9 i0 _ 16 Tryz.underlying23 hi hz0 hz1 hz2 rfl (by decide) (.slice AH nH cH) hs c rfl (HO.out.alloc _) ⟨w.heap.size, 0, none⟩ 1 [.string c] rfl ⟨by unfold maxLen; omega, rfl⟩ (news_at w _ [.string c]) (by have := HHN.out; unfold maxLen; omega) (by have := HHN.out; omega) (by simp; omega) ?_; intro g cap w7 ho7 hg7 ha7 hl7; have c7 : w7.cell? ⟨d, 5, none⟩ = some (.slice AH nH cH) := (hg7.cell_far ⟨d, 5, none⟩ (by simp; omega) hne).trans (by go_simp); have f7 : w7.frozen? ⟨d, 5, none⟩ = false := (hg7.frozen_far ⟨d, 5, none⟩ (by simp; omega) hne).trans (by go_simp))
  have HDW := HD.out.below ((Below.refl w.heap.size w).alloc (Nat.le_refl _) (Obj.cells #[.string c] 9))
  have HN7 : (Value.slice (some ⟨g, 0, none⟩) (hs.length + 1) cap).ownBlock = (Value.slice AH nH cH).ownBlock ∨ ∀ k, (Value.slice (some ⟨g, 0, none⟩) (hs.length + 1) cap).ownBlock = some k → (w.alloc (Obj.cells #[.string c] 9)).heap.size ≤ k := by
    rcases ha7 with h | h
    · exact .inl (by rw [← h]; simp [Value.ownBlock])
    · refine .inr fun k hk => ?_
      have : g = k := by simpa [Value.ownBlock] using hk
      omega
  obtain ⟨h8, k8⟩ := HDW.hold hg7 ho7 HN7
  have H8 := Lib.hid h8
  have K8 := Lib.hid ((Kd.of_below ((Below.refl w.heap.size w).alloc (Nat.le_refl _) (Obj.cells #[.string c] 9))).trans k8)
  have N8 : Hid (heldN w (.slice AH nH cH) (.slice (some ⟨g, 0, none⟩) (hs.length + 1) cap)) := by
    rcases HN7 with h | h
    · exact .inl h
    · exact .inr fun k hk => by have := h k hk; simp at this; omega
  clear h8 k8 HDW HN7 ho7 hg7 ha7
  refine (HLT.out _ _ H8.out.held.rd).mono ?_
  rintro e w9 ⟨rfl, b9⟩
  have B9 := Lib.hid b9; clear b9
  go_wp2_with fail
  go_ret
  exact lineQ.post ⟨rfl, _, H8.out, K8.out, N8.out⟩ B9.out

set_option maxRecDepth 100000 in
set_option maxHeartbeats 1600000 in
theorem one_hold (B d : Nat) (s' : Dsk) (vH : Value) (f a : ByteArray) (w : World) (HC : Calls Tryz.prog 208 #[.pointer (some ⟨d, 0, none⟩), .string f] w (lineQ B d s' vH a w)) :
    Calls Tryz.prog 137 #[.pointer (some ⟨d, 0, none⟩), .string holdWd, .string f] w (lineQ B d s' vH a w) := by
  have HCC := Lib.hid HC; clear HC
  have q_0 : (holdWd.toList == [112, 97, 115, 115]) = false := by rw [ByteArray.toList_eq]; decide
  have q_1 : (holdWd.toList == [99, 111, 117, 110, 116]) = false := by rw [ByteArray.toList_eq]; decide
  have q_2 : (holdWd.toList == [114, 97, 110, 107]) = false := by rw [ByteArray.toList_eq]; decide
  have q_3 : (holdWd.toList == [108, 111, 97, 100, 115]) = false := by rw [ByteArray.toList_eq]; decide
  have q_4 : (holdWd.toList == [115, 116, 97, 121]) = false := by rw [ByteArray.toList_eq]; decide
  have q_5 : (holdWd.toList == [114, 101, 115, 111, 108, 118, 101]) = false := by rw [ByteArray.toList_eq]; decide
  have q_t : (holdWd.toList == [104, 111, 108, 100]) = true := by rw [ByteArray.toList_eq]; decide
  generalize holdWd = wd at *
  go_enter Tryz.func137, Tryz.ntmps137
  go_wp2_with fail
  refine HCC.out.mono ?_
  rintro e w1 ⟨rfl, h1⟩
  go_wp2_with fail
  go_ret
  exact ⟨rfl, h1⟩

end Go.Proofs.YtpinkbodbedajaaGreatDoor

namespace Go.Proofs.YtpinkbodbedajaaGreatDoor
open Go.RowKit

theorem grown_tr {a b c : World} {row : Option Nat} (h : a.grownBy b row) (k : b.grownBy c row) : a.grownBy c row :=
  ⟨k.os.trans h.os, k.tape.trans h.tape, k.output.trans h.output, Nat.le_trans h.size k.size, fun i hi hne => (k.block i (Nat.lt_of_lt_of_le hi h.size) hne).trans (h.block i hi hne)⟩
theorem own_setTexts {T base g n c : Nat} : ∀ (ys : List ByteArray) (k : Nat) (w : World) (xs : List ByteArray), (∀ y ∈ ys, y.size ≤ maxLen) → k + ys.length ≤ xs.length → own T base w (.slice (some ⟨g, 0, none⟩) n c) xs →
    own T base (w.setCells g k (ys.map Value.string)) (.slice (some ⟨g, 0, none⟩) n c) (xs.take k ++ ys ++ xs.drop (k + ys.length)) ∧ w.grownBy (w.setCells g k (ys.map Value.string)) (some g)
  | [], k, w, xs, _, _, h => by
    refine ⟨?_, World.grownBy.refl _ _⟩
    simpa [World.setCells] using h
  | y :: ys, k, w, xs, hy, hl, h => by
    simp only [List.length_cons] at hl
    have h1 := own_setText h (k := k) (by omega) y (hy y (by simp))
    obtain ⟨h2, h3⟩ := own_setTexts ys (k + 1) (w.setCell ⟨g, k, none⟩ (.string y)) (xs.set k y) (fun z hz => hy z (by simp [hz])) (by rw [List.length_set]; omega) h1
    refine ⟨?_, grown_tr (grown_setCell (World.grownBy.refl _ _) (.inl rfl) _) h3⟩
    have e : (xs.set k y).take (k + 1) ++ ys ++ (xs.set k y).drop (k + 1 + ys.length) = xs.take k ++ y :: ys ++ xs.drop (k + (ys.length + 1)) := by
      rw [List.take_succ_eq_append_getElem (by rw [List.length_set]; omega), List.getElem_set_self, List.take_set_of_le (Nat.le_refl _), List.drop_set_of_lt (by omega)]
      rw [show k + 1 + ys.length = k + (ys.length + 1) by omega]
      simp
    rw [e] at h2
    exact h2
theorem own_growT {T base : Nat} {w : World} {v : Value} {xs : List ByteArray} (h : own T base w v xs) (os : Array Obj) : own T base (Go.Sort.grow w os) v xs :=
  h.keepBlk fun k hk => by
    have := (h.blk k hk).2
    show (w.heap ++ os)[k]? = w.heap[k]?
    rw [Array.getElem?_append_left this]
/-- Texts in the library's order. -/
def sortT (ps : List ByteArray) : List ByteArray := ((ps.map (·.data.toList)).mergeSort fun x y => decide (x ≤ y)).map fun l => ⟨l.toArray⟩
theorem sortT_len (ps : List ByteArray) : (sortT ps).length = ps.length := by unfold sortT; rw [List.length_map, List.length_mergeSort, List.length_map]
theorem sortT_mem {ps : List ByteArray} {x : ByteArray} (h : x ∈ sortT ps) : x ∈ ps := by
  unfold sortT at h
  obtain ⟨l, hl, rfl⟩ := List.mem_map.1 h
  have h1 := (List.mergeSort_perm (ps.map (·.data.toList)) fun x y => decide (x ≤ y)).mem_iff.1 hl
  obtain ⟨p, hp, rfl⟩ := List.mem_map.1 h1
  exact hp
theorem sortT_nil : sortT [] = [] := by unfold sortT; simp

theorem slices_SortT (T base : Nat) (v : Value) (xs : List ByteArray) (w : World) (hv : own T base w v xs) (hz : ∀ x ∈ xs, x.size ≤ maxLen) (hl : xs.length ≤ 1048576) :
    Calls Tryz.prog 64 #[v] w fun e w' => e = .returned (.tuple #[]) ∧ own T base w' v (sortT xs) ∧ w.grownBy w' v.ownBlock := by
  rcases hv.form with ⟨rfl, rfl⟩ | ⟨g, c, rfl, hg, hgl, hc, hm⟩
  · refine (Tryz.slices_Sort_string_none none 0 w).mono ?_
    rintro e w' ⟨rfl, rfl⟩
    exact ⟨rfl, by rw [sortT_nil]; exact own.nil_ _ _ _, World.grownBy.refl _ _⟩
  · have hH : Go.Sort.Holds encStr w g 0 (xs.map (·.data.toList)).toArray := fun j hj => by
      have hj' : j < xs.length := by simpa using hj
      refine ⟨?_, hv.freeAt _⟩
      have := own_str1 hv j hj'
      rw [Nat.zero_add, this]
      simp [hj', encStr]
    have h := Tryz.slices_Sort_string g 0 c (xs.map (·.data.toList)) w hH hgl (by rw [List.length_map]; omega)
    rw [List.length_map] at h
    refine h.mono ?_
    rintro e w' ⟨rfl, q, os, rfl⟩
    rw [Lib.sorted_world encStr w g 0 q (xs.map (·.data.toList)).toArray ((xs.map (·.data.toList)).mergeSort fun x y => decide (x ≤ y)) os hH (by simp)]
    have bq : Below w.heap.size w (w.drewN q) := later_drewN (Below.refl _ _) q
    have em : ((xs.map (·.data.toList)).mergeSort fun x y => decide (x ≤ y)).map encStr = (sortT xs).map Value.string := by
      unfold sortT
      rw [List.map_map]
      rfl
    rw [em]
    obtain ⟨h2, h3⟩ := own_setTexts (sortT xs) 0 (w.drewN q) xs (fun y hy => hz y (sortT_mem hy)) (by rw [sortT_len]; omega) (hv.below bq)
    have e : xs.take 0 ++ sortT xs ++ xs.drop (0 + (sortT xs).length) = sortT xs := by rw [sortT_len]; simp
    rw [e] at h2
    refine ⟨rfl, own_growT h2 os, ?_⟩
    have h4 := grown_tr (grown_below (World.grownBy.refl w (some g)) bq) h3
    exact ⟨h4.os, h4.tape, h4.output, Nat.le_trans h4.size (by simp [Go.Sort.grow]), fun k hk hne => by
      show (_ ++ os)[k]? = _
      rw [Array.getElem?_append_left (Nat.lt_of_lt_of_le hk h4.size)]
      exact h4.block k hk hne⟩

end Go.Proofs.YtpinkbodbedajaaGreatDoor

namespace Go.Proofs.YtpinkbodbedajaaGreatDoor
open Go.RowKit

def endP (fs : List Fwd) (x : Fwd) : Bool := !(follow fs x.src).2.2
def endK (fs : List Fwd) (k : Nat) : List ByteArray := ((fs.take k).filter (endP fs)).map Fwd.src
/-- The codes from which a letter never arrives, in order. -/
def endS (fs : List Fwd) : List ByteArray := if fwdsOk fs then sortT (endK fs fs.length) else []
theorem endS_no {fs : List Fwd} (h : fwdsOk fs = false) : endS fs = [] := by unfold endS; rw [h]; rfl
theorem endS_yes {fs : List Fwd} (h : fwdsOk fs = true) : endS fs = sortT (endK fs fs.length) := by unfold endS; rw [if_pos h]
theorem endK_len (fs : List Fwd) (k : Nat) : (endK fs k).length ≤ fs.length := by
  unfold endK
  rw [List.length_map]
  have h1 := List.length_filter_le (endP fs) (fs.take k)
  have h2 := List.length_take_le k fs
  have h3 : (fs.take k).length ≤ fs.length := by rw [List.length_take]; omega
  omega
theorem endK_yes {fs : List Fwd} {k : Nat} (hk : k < fs.length) (h : (follow fs fs[k].src).2.2 = false) : endK fs (k + 1) = endK fs k ++ [fs[k].src] := by
  unfold endK
  have hp : endP fs fs[k] = true := by unfold endP; rw [h]; rfl
  rw [List.take_succ_eq_append_getElem hk, List.filter_append, List.map_append]
  simp [hp]
theorem endK_skip {fs : List Fwd} {k : Nat} (hk : k < fs.length) (h : (follow fs fs[k].src).2.2 = true) : endK fs (k + 1) = endK fs k := by
  unfold endK
  have hp : endP fs fs[k] = false := by unfold endP; rw [h]; rfl
  rw [List.take_succ_eq_append_getElem hk, List.filter_append, List.map_append]
  simp [hp]
theorem endK_mem {fs : List Fwd} (h : fwdsOk fs = true) (k : Nat) : ∀ x ∈ endK fs k, isCode x = true := fun x hx => by
  unfold endK at hx
  obtain ⟨y, hy, rfl⟩ := List.mem_map.1 hx
  have h1 := List.mem_of_mem_take (List.mem_filter.1 hy).1
  obtain ⟨i, hi, rfl⟩ := List.getElem_of_mem h1
  exact ((fwdsOk_iff.1 h).2 i hi).1
theorem endS_mem (fs : List Fwd) : ∀ x ∈ endS fs, isCode x = true := fun x hx => by
  cases h : fwdsOk fs
  · rw [endS_no h] at hx; simp at hx
  · rw [endS_yes h] at hx
    exact endK_mem h _ x (sortT_mem hx)
theorem endS_len {fs : List Fwd} : (endS fs).length ≤ fs.length := by
  cases h : fwdsOk fs
  · rw [endS_no h]; exact Nat.zero_le _
  · rw [endS_yes h, sortT_len]; exact endK_len fs _

set_option maxRecDepth 100000 in
set_option maxHeartbeats 3200000 in
theorem impl_EndlessCodes (v : Value) (fs : List Fwd) (w : World) (hv : rd w w.heap.size v fs) :
    Calls Tryz.prog 19 #[v] w fun e w' => ∃ v', e = .returned v' ∧ own 9 w.heap.size w' v' (endS fs) ∧ Below w.heap.size w w' := by
  have HV := Lib.hid hv
  obtain ⟨A, n, c, rfl, hn, hc, hm, hr⟩ := hv
  subst hn
  have HR := Lib.hid hr; clear hr
  obtain ⟨i0, hi, hz0, hz1, hz2⟩ := info_parts Tryz.infoStr
  go_enter Tryz.func19, Tryz.ntmps19
  go_wp2_with fail
  refine (impl_ForwardsValid _ fs _ HV.out).mono ?_
  cases hok : fwdsOk fs
  · rintro e w1 ⟨rfl, b1⟩
    have HE := Lib.hid (endS_no hok)
    have HB1 := Lib.hid b1
    clear hok b1
    go_wp2_with fail
    go_ret
    exact ⟨.slice none 0 0, rfl, by rw [HE.out]; exact own.nil_ _ _ _, HB1.out⟩
  rintro e w1 ⟨rfl, b1⟩
  have HE := Lib.hid (endS_yes hok)
  have hl30 := (fwdsOk_iff.1 hok).1
  have HC : Hid (∀ k (h : k < fs.length), fs[k].src.size = 7) := fun k h => (code_mem ((fwdsOk_iff.1 hok).2 k h).1).1
  have HKM := Lib.hid (endK_mem hok)
  clear hok
  have hs1 := b1.size
  have HB1 := Lib.hid b1; clear b1
  have l1 := Below.refl w1.heap.size w1
  go_wp2_with fail
  go_loopw [3, 14] (fun t i wr => ∃ k : Nat, k ≤ fs.length ∧ i = .int .i64 k ∧ Below w1.heap.size w1 wr ∧ own 9 w1.heap.size wr t (endK fs k)) (fun _ i _ => fs.length - (intOf i).toNat)
  case atStart => exact ⟨0, Nat.zero_le _, rfl, l1, own.nil_ _ _ _⟩
  case round =>
    obtain ⟨k, hk, rfl, lr, ho⟩ := hrel
    obtain ⟨w2, rfl⟩ : ∃ w2 : World, w2 = wr := ⟨_, rfl⟩
    clear l1
    have HO := Lib.hid ho
    obtain ⟨Av, m, cp, rfl, hm', _, _, _⟩ := ho.rd
    have HM := Lib.hid hm'
    have hs2 := lr.size
    clear ho hm'
    by_cases hlt : k < fs.length
    · obtain ⟨b, o, rfl, hb, _, y1, y2⟩ := HR.out.fwdU k hlt
      have y1 := y1 w2 (HB1.out.trans (lr.mono hs1))
      have y2 := y2 w2 (HB1.out.trans (lr.mono hs1))
      have h7 := HC.out k hlt
      have HY := Lib.hid (endK_yes hlt)
      have HS := Lib.hid (endK_skip hlt)
      have HRD : Hid (∀ W, Below w2.heap.size w2 W → rd W W.heap.size (.slice (some ⟨b, o, none⟩) fs.length c) fs) := fun W hW => HV.out.on ((HB1.out.trans (lr.mono hs1)).trans (hW.mono (Nat.le_trans hs1 hs2)))
      have HFO := Lib.hid (fun W hW => impl_followOrders (.slice (some ⟨b, o, none⟩) fs.length c) fs fs[k].src W (HRD.out W hW) (by unfold maxLen; omega) (by omega))
      generalize fs[k] = x at *
      obtain ⟨p, q⟩ := x
      simp only at h7 y1 y2 HY HS HFO
      obtain ⟨f1, hf1⟩ : ∃ f, (follow fs p).1 = f := ⟨_, rfl⟩
      obtain ⟨f2, hf2⟩ : ∃ f, (follow fs p).2.1 = f := ⟨_, rfl⟩
      obtain ⟨f3, hf3⟩ : ∃ f, (follow fs p).2.2 = f := ⟨_, rfl⟩
      rw [hf1, hf2, hf3] at HFO
      rw [hf3] at HY HS
      clear hf1 hf2 hf3
      have hki : (k : Int) < (fs.length : Int) := by omega
      have hki0 : (0 : Int) ≤ (k : Int) := by omega
      have hlm : (endK fs k).length ≤ 30 := Nat.le_trans (endK_len fs k) hl30
      obtain ⟨wl, hwl⟩ : ∃ wl : World, wl = w2.alloc (Obj.cells #[.string p, .string q] 94) := ⟨_, rfl⟩
      have hBL := (box_later hwl).1
      have x0 := box_cells hwl 0 (.string p) rfl
      have HOL := Lib.hid (HO.out.below hBL)
      have hsl := hBL.size
      have HBL := Lib.hid hBL
      have HWL := Lib.hid hwl; clear hwl hBL
      go_wp2_with fail
      rw [← HWL.out]
      have xx := x0 wl (Below.refl _ _)
      go_wp2_with fail
      refine (HFO.out _ HBL.out).mono ?_
      rintro e w3 ⟨rfl, b3⟩
      have l3 := later_trans (later_trans lr HBL.out) b3
      have xy := x0 w3 b3
      have HO3 := Lib.hid (HOL.out.below b3)
      have hs3 := b3.size
      clear xx b3
      cases f3
      · generalize hgs : endK fs k = gs at *
        have HG := Lib.hid hgs; clear hgs
        go_wp2_with (at_builtin; refine wpList_append1' (α := ByteArray) rfl (.tmp 28) (.tmp 31) 23 rfl w1.heap.size 9 i0 _ 16 Tryz.underlying23 hi hz0 hz1 hz2 rfl (by decide) (.slice Av m cp) gs p rfl (HO3.out.alloc _) ⟨w3.heap.size, 0, none⟩ 1 [.string p] rfl ⟨by unfold maxLen; omega, rfl⟩ (news_at w3 _ [.string p]) (by unfold maxLen; omega) (by omega) (by simp; omega) ?_; intro g cap w7 ho7 hg7 ha7 hl7)
        have hb7 : Below w1.heap.size w1 w7 := (l3.alloc l3.size (Obj.cells #[.string p] 9)).grown hg7 (by simp; omega) fun r e => (HO3.out.blk r e).1
        have HO7 := Lib.hid ho7
        clear ho7 hg7 ha7
        go_wp2_with fail
        go_roundw
        case rel => exact ⟨k + 1, by omega, by go_num, hb7, by rw [HY.out (by trivial)]; exact HO7.out⟩
        case measure => simp [intOf]; omega
      · go_wp2_with fail
        go_roundw
        case rel => exact ⟨k + 1, by omega, by go_num, l3, by rw [HS.out (by trivial)]; exact HO3.out⟩
        case measure => simp [intOf]; omega
    · have hkz : k = fs.length := by omega
      have HOE : Hid (own 9 w1.heap.size w2 (.slice Av m cp) (endK fs fs.length)) := by
        show own _ _ _ _ _
        have := HO.out
        rwa [hkz] at this
      have HST := Lib.hid (slices_SortT 9 w1.heap.size (.slice Av m cp) (endK fs fs.length) w2 HOE.out (fun x hx => by have := (code_mem (HKM.out _ x hx)).1; unfold maxLen; omega) (by have := endK_len fs fs.length; omega))
      have LR := Lib.hid lr
      clear hkz lr
      go_wp2_with fail
      refine HST.out.mono ?_
      rintro e w3 ⟨rfl, o3, g3⟩
      have O3 := Lib.hid o3
      have L3 : Hid (Below w1.heap.size w1 w3) := LR.out.grown g3 LR.out.size fun r e => (HOE.out.blk r e).1
      clear o3 g3
      go_wp2_with fail
      go_ret
      exact ⟨_, rfl, by rw [HE.out]; exact O3.out.base_ hs1, HB1.out.trans (L3.out.mono hs1)⟩

end Go.Proofs.YtpinkbodbedajaaGreatDoor

namespace Go.Proofs.YtpinkbodbedajaaGreatDoor
open Go.RowKit

theorem rows_leK {xss : List (List Ltr)} {k : Nat} (hk : k < xss.length) : (xss.take (k + 1)).flatten.length = (xss.take k).flatten.length + xss[k].length ∧ (xss.take (k + 1)).flatten.length ≤ xss.flatten.length := by
  refine ⟨?_, ?_⟩
  · rw [List.take_succ_eq_append_getElem hk, List.flatten_append, List.length_append]; simp
  · conv => rhs; rw [← List.take_append_drop (k + 1) xss, List.flatten_append, List.length_append]
    omega
set_option maxRecDepth 100000 in
set_option maxHeartbeats 400000 in
theorem impl_TraysValidK (v : Value) (xss : List (List Ltr)) (s : Int) (w : World) (hv : rd w w.heap.size v xss) (hs : sizeOk s = true) (hn : xss.length ≤ 60) (ht : ∀ t ∈ xss, 1 ≤ t.length ∧ (t.length : Int) ≤ s) (hb : okB xss.flatten = true) :
    Calls Tryz.prog 61 #[v, .int .i64 s] w fun e w' => e = .returned (.bool true) ∧ Below w.heap.size w w' := by
  have hl6 := okB_len' hb
  have HV := Lib.hid hv
  obtain ⟨A, n, c, rfl, hn', hc, hm, hr⟩ := hv
  subst hn'
  unfold maxLen at hm
  have HR := Lib.hid hr; clear hr
  have HS := Lib.hid hs; have HT := Lib.hid ht; have HB := Lib.hid hb
  clear hs ht hb
  have l0 := Below.refl w.heap.size w
  have h60 : ¬ (60 : Int) < (xss.length : Int) := by omega
  go_enter Tryz.func61, Tryz.ntmps61
  go_wp2_with fail
  refine (impl_sizeValid s _).mono ?_
  rw [HS.out]
  rintro e w1 ⟨rfl, rfl⟩
  go_wp2_with fail
  go_loopw [5, 18] (fun t i wr => ∃ k : Nat, k ≤ xss.length ∧ i = .int .i64 k ∧ t = .int .i64 ((xss.take k).flatten.length : Nat) ∧ Below w.heap.size w wr) (fun _ i _ => xss.length - (intOf i).toNat)
  case atStart => exact ⟨0, Nat.zero_le _, rfl, rfl, l0⟩
  case round =>
    obtain ⟨k, hk, rfl, rfl, lr⟩ := hrel
    obtain ⟨w1, rfl⟩ : ∃ w1 : World, w1 = wr := ⟨_, rfl⟩
    clear l0
    by_cases hlt : k < xss.length
    · obtain ⟨b, o, u, rfl, hb, hu, c1⟩ := HR.out.rowU k hlt
      obtain ⟨r1, r2⟩ := rows_leK hlt
      obtain ⟨t1, t2⟩ := HT.out _ (List.getElem_mem hlt)
      have HRL : Hid ((xss.take (k + 1)).flatten.length = (xss.take k).flatten.length + xss[k].length) := r1
      generalize (xss.take k).flatten.length = N at *
      generalize xss[k] = ys at *
      obtain ⟨A2, m2, c2, rfl, hm2, hc2, hmm2, hr2⟩ := hu
      subst hm2
      clear hr2
      have hki : (k : Int) < (xss.length : Int) := by omega
      have hw1 : IntKind.i64.wrap ((N : Int) + (ys.length : Int)) = (N : Int) + ys.length := IntWalk.i64_in _ (by omega)
      have hy1 : ¬ (ys.length : Int) < 1 := by omega
      have hy2 : ¬ s < (ys.length : Int) := by omega
      have hy3 : ¬ 60 < (N : Int) + (ys.length : Int) := by omega
      go_wp2_with fail
      go_roundw
      case rel => exact ⟨k + 1, by omega, by go_num, by rw [HRL.out]; simp, lr⟩
      case measure => simp [intOf]; omega
    · go_wp2_with fail
      refine (impl_joinBins _ xss _ (HV.out.on lr) (by omega)).mono ?_
      rintro e w2 ⟨v', rfl, o2, b2⟩
      have l2 := later_trans lr b2
      have OJ := Lib.hid o2
      clear o2
      go_wp2_with fail
      refine (impl_BatchValid _ xss.flatten _ OJ.out.rd).mono ?_
      rw [HB.out]
      rintro e w3 ⟨rfl, b3⟩
      have l3 := later_trans l2 b3
      go_wp2_with fail
      go_ret
      exact ⟨rfl, l3⟩

/-- The label of a tray that is none too few. -/
def labB (xs : List Ltr) : ByteArray := (xs.getD 0 ⟨0, ⟨#[]⟩⟩).code ++ ⟨#[45]⟩ ++ (xs.getD (xs.length - 1) ⟨0, ⟨#[]⟩⟩).code
theorem labB_size {xs : List Ltr} (h0 : xs.length ≠ 0) (h : okB xs = true) : (labB xs).size = 15 := by
  unfold labB
  have h1 := (okB_iff.1 h).2 0 (by omega)
  have h2 := (okB_iff.1 h).2 (xs.length - 1) (by omega)
  rw [List.getD_eq_getElem?_getD, List.getD_eq_getElem?_getD, List.getElem?_eq_getElem (show 0 < xs.length by omega), List.getElem?_eq_getElem (show xs.length - 1 < xs.length by omega)]
  simp only [Option.getD_some, ByteArray.size_append, (code_mem h1.2.2.1).1, (code_mem h2.2.2.1).1]
  rfl

set_option maxRecDepth 100000 in
set_option maxHeartbeats 1600000 in
theorem impl_LabelOf_yes (v : Value) (xs : List Ltr) (w : World) (hv : rd w w.heap.size v xs) (h0 : xs.length ≠ 0) (hok : okB xs = true) :
    Calls Tryz.prog 62 #[v] w fun e w' => e = .returned (.string (labB xs)) ∧ Below w.heap.size w w' := by
  have HV := Lib.hid hv
  obtain ⟨A, n, c, rfl, hn, hc, hm, hr⟩ := hv
  subst hn
  obtain ⟨m, hm1⟩ : ∃ m, xs.length = m + 1 := ⟨xs.length - 1, by omega⟩
  obtain ⟨b, o, rfl, hb, -, -, c1⟩ := hr.ltrU 0 (by omega)
  obtain ⟨b2, o2, e2, -, -, -, c2⟩ := hr.ltrU m (by omega)
  injection e2 with e2
  injection e2 with e2 e3
  subst e2 e3
  have HL : Hid (labB xs = xs[0].code ++ ⟨#[45]⟩ ++ xs[m].code) := by
    show _ = _
    unfold labB
    rw [List.getD_eq_getElem?_getD, List.getD_eq_getElem?_getD, List.getElem?_eq_getElem (show 0 < xs.length by omega), List.getElem?_eq_getElem (show xs.length - 1 < xs.length by omega)]
    simp only [Option.getD_some, show xs.length - 1 = m by omega]
  have s1 := (code_mem ((okB_iff.1 hok).2 0 (by omega)).2.2.1).1
  have s2 := (code_mem ((okB_iff.1 hok).2 m (by omega)).2.2.1).1
  have hl60 := (okB_iff.1 hok).1
  generalize xs[0].code = p at *
  generalize xs[m].code = q at *
  have HO := Lib.hid hok
  have hl0 : ((xs.length : Int) == 0) = false := beq_eq_false_iff_ne.2 (by omega)
  have hli : (0 : Int) < (xs.length : Int) := by omega
  have hln : 0 < xs.length := by omega
  have hne : ¬ xs = [] := fun e => by rw [e] at hln; exact absurd hln (by decide)
  have hmi : (m : Int) < (xs.length : Int) := by omega
  have hw1 : IntKind.i64.wrap ((xs.length : Int) - 1) = (m : Int) := by rw [IntWalk.i64_in _ (by omega)]; omega
  have a1 : ¬ 9223372036854775807 < p.size + 1 := by omega
  have a2 : ¬ 9223372036854775807 < p.size + 1 + q.size := by omega
  have HC1 := Lib.hid c1; have HC2 := Lib.hid c2
  clear hr hok h0 c1 c2 hm1
  go_enter Tryz.func62, Tryz.ntmps62
  go_wp2_with (go_at_call 48; refine (impl_BatchValid _ xs _ HV.out).mono ?_; rw [HO.out]; rintro e w1 ⟨rfl, b1⟩)
  have q1 := fun W (hW : Below w1.heap.size w1 W) => HC1.out W (later_trans b1 hW)
  have q2 := fun W (hW : Below w1.heap.size w1 W) => HC2.out W (later_trans b1 hW)
  simp only [Nat.zero_mul, Nat.add_zero] at q1
  have ld := later_drew (Below.refl w1.heap.size w1)
  have HB1 := Lib.hid b1; clear b1
  go_region_held3 (fun W => Below w1.heap.size w1 W) (first | exact ld | fail) (fail)
  all_goals
    have HLD := Lib.hid ld
    clear ld q1 q2
    go_wp2_with fail
    go_ret
    exact ⟨ret_str HL.out.symm, later_trans HB1.out HLD.out⟩

end Go.Proofs.YtpinkbodbedajaaGreatDoor

namespace Go.Proofs.YtpinkbodbedajaaGreatDoor
open Go.RowKit

def partT (t : List Ltr) : ByteArray := labB t ++ ⟨#[58]⟩ ++ decB t.length
def fmtT (xss : List (List Ltr)) : ByteArray := if xss.length = 0 then ⟨#[45]⟩ else joinT (xss.map partT) spT
/-- Trays as they come out of a day. -/
def traysK (xss : List (List Ltr)) : Prop := xss.length ≤ 60 ∧ (∀ t ∈ xss, 1 ≤ t.length ∧ t.length ≤ 20) ∧ okB xss.flatten = true
theorem traysK.each {xss : List (List Ltr)} (h : traysK xss) : ∀ t ∈ xss, t.length ≠ 0 ∧ t.length ≤ 20 ∧ okB t = true := fun t ht =>
  ⟨by have := (h.2.1 t ht).1; omega, (h.2.1 t ht).2, okB_sub h.2.2 (List.sublist_flatten_of_mem ht)⟩
theorem partT_size {xss : List (List Ltr)} (h : traysK xss) : ∀ p ∈ xss.map partT, p.size ≤ 20 ∧ 1 ≤ p.size := fun p hp => by
  obtain ⟨t, ht, rfl⟩ := List.mem_map.1 hp
  obtain ⟨h1, h2, h3⟩ := h.each t ht
  have s1 := labB_size h1 h3
  have s2 := (dec10_size (n := t.length) (by omega)).1
  unfold partT
  simp only [ByteArray.size_append]
  show _ + 1 + _ ≤ 20 ∧ 1 ≤ _ + 1 + _
  omega

set_option maxRecDepth 100000 in
set_option maxHeartbeats 3200000 in
theorem impl_FormatTrays_yes (v : Value) (xss : List (List Ltr)) (w : World) (hv : rd w w.heap.size v xss) (hk : traysK xss) (hT : TabW w) :
    Calls Tryz.prog 18 #[v] w fun e w' => e = .returned (.string (fmtT xss)) ∧ Below w.heap.size w w' := by
  have HV := Lib.hid hv
  have HTV := Lib.hid (impl_TraysValidK v xss 20 w hv (by decide) hk.1 (fun t ht => by have := hk.2.1 t ht; omega) hk.2.2)
  have h60 := hk.1
  have HK := Lib.hid hk; clear hk
  obtain ⟨A, n, c, rfl, hn, hc, hm, hr⟩ := hv
  subst hn
  have HR := Lib.hid hr; clear hr
  have HT := Lib.hid hT; clear hT
  obtain ⟨i0, hi, hz0, hz1, hz2⟩ := info_parts Tryz.infoStr
  go_enter Tryz.func18, Tryz.ntmps18
  go_wp2_with fail
  refine HTV.out.mono ?_
  rintro e w1 ⟨rfl, l1⟩
  by_cases h0 : xss.length = 0
  · have HF : Hid (fmtT xss = ⟨#[45]⟩) := by show _ = _; unfold fmtT; rw [if_pos h0]
    have hl0 : ((xss.length : Int) == 0) = true := by rw [h0]; rfl
    clear h0
    go_wp2_with fail
    go_ret
    exact ⟨ret_str HF.out.symm, l1⟩
  have HF : Hid (fmtT xss = joinT (xss.map partT) spT) := by show _ = _; unfold fmtT; rw [if_neg h0]
  have hl0 : ((xss.length : Int) == 0) = false := beq_eq_false_iff_ne.2 (by omega)
  have hpos : 0 < xss.length := by omega
  clear h0
  have hmk := make_row (P := Tryz.prog) 23 9 i0 _ Tryz.underlying23 hi hz0 xss.length (by rw [hz2]; omega) (by omega)
  go_wp2_with fail
  have hf0 : filled 9 (w1.alloc (Obj.cells (madeCells #[.string ⟨#[]⟩] xss.length) 9)) w1.heap.size xss.length 0 (xss.map partT) := filled.made w1 _ _ _ (by rw [size_madeCells]; exact (Nat.mul_one _).symm) _
  have hb0 : Below w1.heap.size w1 (w1.alloc (Obj.cells (madeCells #[.string ⟨#[]⟩] xss.length) 9)) := (Below.refl _ _).alloc (Nat.le_refl _) _
  generalize w1.alloc (Obj.cells (madeCells #[.string ⟨#[]⟩] xss.length) 9) = w0 at *
  clear hmk
  have HLN : Hid ((xss.map partT).length = xss.length) := by show _ = _; rw [List.length_map]
  go_loopw [17] (fun i wr => ∃ k : Nat, k ≤ xss.length ∧ i = .int .i64 k ∧ Below w1.heap.size w1 wr ∧ filled 9 wr w1.heap.size xss.length k (xss.map partT)) (fun i _ => xss.length - (intOf i).toNat)
  case atStart => exact ⟨0, Nat.zero_le _, rfl, hb0, hf0⟩
  case round =>
    obtain ⟨k, hk, rfl, hbl, hf⟩ := hrel
    obtain ⟨w2, rfl⟩ : ∃ w2 : World, w2 = wr := ⟨_, rfl⟩
    clear hf0 hb0
    have hs1 := l1.size
    by_cases hlt : k < xss.length
    · obtain ⟨b, o, u, rfl, hb, hu, c1⟩ := HR.out.rowU k hlt
      have c1 := c1 w2 (later_trans l1 hbl)
      obtain ⟨t1, t2, t3⟩ := HK.out.each _ (List.getElem_mem hlt)
      have hLk : (xss.map partT)[k]'(by rw [HLN.out]; exact hlt) = partT xss[k] := by simp
      have HSZ := Lib.hid (partT_size HK.out (partT xss[k]) (List.mem_map.2 ⟨_, List.getElem_mem hlt, rfl⟩))
      have HST := Lib.hid (fun (W : World) (hF : filled 9 W w1.heap.size xss.length k (xss.map partT)) => hF.step (by rw [HLN.out]; exact hlt) (by rw [HLN.out]; exact Nat.le_refl _) (ecs := [.string (partT xss[k])]) (by rw [hLk]; exact ⟨by have := HSZ.out.1; unfold maxLen; omega, rfl⟩))
      clear hLk
      have HFX : Hid (partT xss[k] = labB xss[k] ++ ⟨#[58]⟩ ++ decB xss[k].length) := rfl
      have HLB := Lib.hid (fun W (hW : Below w.heap.size w W) => impl_LabelOf_yes u xss[k] W (hu.on hW) t1 t3)
      have sl := labB_size t1 t3
      have sd := (dec10_size (n := xss[k].length) (by omega)).1
      have HIT := Lib.hid (fun W (hW : Below w.heap.size w W) => strconv_ItoaN xss[k].length W (by omega) (HT.out.on hW))
      obtain ⟨Au, nu, cu, rfl, hnu, _, _, _⟩ := hu
      subst hnu
      generalize labB xss[k] = lb at *
      generalize decB xss[k].length = dl at *
      generalize hP : partT xss[k] = pt at *
      generalize xss[k].length = tl at *
      clear hP
      have hki : (k : Int) < (xss.length : Int) := by omega
      have hki0 : (0 : Int) ≤ (k : Int) := by omega
      have hne : w1.heap.size < w2.heap.size := by obtain ⟨cs, h1, _⟩ := hf; exact (Array.getElem?_eq_some_iff.1 h1).1
      have LW2 := Lib.hid (later_trans l1 hbl)
      have HF2 := Lib.hid hf; have HBL2 := Lib.hid hbl
      have hs60 : ¬ 9223372036854775807 < lb.size + 1 := by omega
      have hs61 : ¬ 9223372036854775807 < lb.size + 1 + dl.size := by omega
      clear hf hbl hb
      go_wp2_with fail
      refine (HLB.out _ LW2.out).mono ?_
      rintro e w3 ⟨rfl, b3⟩
      have B3 := Lib.hid b3; clear b3
      go_wp2_with fail
      refine (HIT.out _ (later_trans LW2.out B3.out)).mono ?_
      rintro e w4 ⟨rfl, b4⟩
      have B4 := Lib.hid (later_trans B3.out b4)
      have hf4 := HF2.out.below B4.out
      obtain ⟨u0, g0⟩ := hf4.cell (j := k) (by show _ < _ * 1; omega)
      have f0 := hf4.free k
      have HF4 := Lib.hid hf4
      clear hf4 b4
      go_wp2_with fail
      go_roundw
      case rel =>
        have := HST.out _ HF4.out
        rw [show k * El.size ByteArray = k from Nat.mul_one k, HFX.out] at this
        have hbs := (later_trans HBL2.out B4.out).trans (setAll_below [.string (lb ++ ⟨#[58]⟩ ++ dl)] _ k _ (Nat.le_refl _))
        exact ⟨k + 1, by omega, by go_num, hbs, this⟩
      case measure => simp [intOf]; omega
    · have HE := Lib.hid (show k = xss.length by omega)
      have HO := Lib.hid ((HE.out ▸ hf : filled _ _ _ _ xss.length _).own HLN.out.symm (Nat.le_refl _) (by unfold maxLen; omega))
      clear hf
      have l2 := later_trans l1 hbl
      have hjz := joinT_size (xss.map partT) spT 20 fun p hp => (partT_size HK.out p hp).1
      rw [HLN.out] at hjz
      have hjz2 : xss.length * (20 + spT.size) ≤ 60 * 21 := Nat.mul_le_mul h60 (Nat.le_refl _)
      have HJ := Lib.hid (join_own (sep := spT) HO.out HLN.out.symm (by rw [HLN.out]; omega) (by omega))
      clear hjz hjz2
      go_wp2_with fail
      refine HJ.out.mono ?_
      rw [← HF.out]
      rintro e w3 ⟨rfl, b3⟩
      have l3 := later_trans l2 b3
      go_wp2_with fail
      go_ret
      exact ⟨rfl, l3⟩

end Go.Proofs.YtpinkbodbedajaaGreatDoor
