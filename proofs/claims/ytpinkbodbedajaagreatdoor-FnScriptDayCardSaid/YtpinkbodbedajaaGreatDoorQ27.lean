/- LG ZH LH LI KL DU DV SP KM KN JL -/
import Derived.Test.YtpinkbodbedajaaGreatDoorQ25
import Derived.Test.YtpinkbodbedajaaGreatDoorQ26
import Derived.Test.YtpinkbodbedajaaGreatDoorQ15
import Derived.Test.YtpinkbodbedajaaGreatDoorQ16
import Derived.Deep.RegionHeld3
import Derived.Test.YtpinkbodbedajaaGreatDoorQ24
import Derived.Test.YtpinkbodbedajaaGreatDoorQ14
import Derived.Test.YtpinkbodbedajaaGreatDoorQ8
import Derived.Test.YtpinkbodbedajaaGreatDoorQ4
import Derived.Test.YtpinkbodbedajaaGreatDoorQ5
import Derived.Lib.MinMax
import Derived.Test.YtpinkbodbedajaaGreatDoorQ12
import Derived.Test.YtpinkbodbedajaaGreatDoorQ23
import Derived.LaidLaws
import Derived.LaidOnce
import Derived.Lib.LaidTab
namespace Go.Proofs.YtpinkbodbedajaaGreatDoor
open Go.RowKit

def dayWd : ByteArray := ⟨#[100, 97, 121]⟩
def traysWd : ByteArray := ⟨#[116, 114, 97, 121, 115]⟩
def endlessWd : ByteArray := ⟨#[101, 110, 100, 108, 101, 115, 115]⟩
/-! ### Trays -/
/-- Trays: the first ones are full, the last one has a letter. -/
def traysAre (s : Int) (L : List (List Ltr)) (xs : List Ltr) : Prop :=
  L.flatten = xs ∧ (L = [] ∨ ∃ F r, L = F ++ [r] ∧ (∀ t ∈ F, (t.length : Int) = s) ∧ 1 ≤ r.length ∧ (r.length : Int) ≤ s)
theorem getD_end {α : Type} (F : List (List α)) (r : List α) : (F ++ [r]).getD ((F ++ [r]).length - 1) [] = r := by
  rw [List.getD_eq_getElem?_getD]
  simp
theorem set_end {α : Type} (F : List (List α)) (r q : List α) : (F ++ [r]).set ((F ++ [r]).length - 1) q = F ++ [q] := by
  simp
theorem traysAre_put {s : Int} (hs : 1 ≤ s) {L : List (List Ltr)} {xs : List Ltr} (x : Ltr) (h : traysAre s L xs) : traysAre s (putT s L x) (xs ++ [x]) := by
  obtain ⟨hf, h⟩ := h
  rcases h with rfl | ⟨F, r, rfl, h1, h2, h3⟩
  · unfold putT
    rw [if_pos (.inl rfl)]
    refine ⟨by rw [← hf]; rfl, .inr ⟨[], [x], rfl, by simp, by simp, by simp; omega⟩⟩
  · unfold putT
    rw [getD_end, set_end]
    split
    · rename_i hc
      have hr : (r.length : Int) = s := by
        rcases hc with hc | hc
        · simp at hc
        · exact hc
      refine ⟨by rw [List.flatten_append, hf]; rfl, .inr ⟨F ++ [r], [x], rfl, ?_, by simp, by simp; omega⟩⟩
      intro t ht
      rcases List.mem_append.1 ht with ht | ht
      · exact h1 t ht
      · rw [List.mem_singleton.1 ht]; exact hr
    · rename_i hc
      refine ⟨?_, .inr ⟨F, r ++ [x], rfl, h1, by simp, ?_⟩⟩
      · rw [← hf]; simp
      · have : ¬ (r.length : Int) = s := fun e => hc (.inr e)
        simp
        omega
theorem traysAre_fold {s : Int} (hs : 1 ≤ s) : ∀ (ys : List Ltr) (L : List (List Ltr)) (xs : List Ltr), traysAre s L xs → traysAre s (ys.foldl (putT s) L) (xs ++ ys)
  | [], L, xs, h => by simpa using h
  | y :: ys, L, xs, h => by
    have := traysAre_fold hs ys _ _ (traysAre_put hs y h)
    rw [List.append_assoc] at this
    exact this
theorem trays_are {s : Int} (hs : 1 ≤ s) (xs : List Ltr) : traysAre s (trayTo s xs) xs := traysAre_fold hs xs [] [] ⟨rfl, .inl rfl⟩
theorem flat_full {s : Int} : ∀ (F : List (List Ltr)), (∀ t ∈ F, (t.length : Int) = s) → (F.flatten.length : Int) = F.length * s
  | [], _ => by simp
  | t :: F, h => by
    have := flat_full F fun u hu => h u (List.mem_cons_of_mem _ hu)
    have ht := h t List.mem_cons_self
    rw [List.flatten_cons, List.length_append, List.length_cons, Int.natCast_add, this, ht, Int.natCast_add, Int.add_mul]
    simp only [Int.natCast_one, Int.one_mul]
    omega
/-- As many trays as are needed. -/
theorem traysAre_len {s : Int} (hs : 1 ≤ s) {L : List (List Ltr)} {xs : List Ltr} (h : traysAre s L xs) : (L.length : Int) = ((xs.length : Int) + s - 1) / s := by
  obtain ⟨hf, h⟩ := h
  subst hf
  rcases h with rfl | ⟨F, r, rfl, h1, h2, h3⟩
  · simp
    rw [Int.ediv_eq_zero_of_lt (by omega) (by omega)]
  · have e : ((F ++ [r]).flatten.length : Int) = (F.length : Int) * s + r.length := by
      rw [List.flatten_append, List.length_append, Int.natCast_add, flat_full F h1]
      simp
    rw [e, show (F.length : Int) * s + r.length + s - 1 = ((r.length : Int) - 1) + (F.length + 1) * s by rw [Int.add_mul]; omega, Int.add_mul_ediv_right _ _ (by omega), Int.ediv_eq_zero_of_lt (by omega) (by omega)]
    simp
theorem traysAre_rows {s : Int} {L : List (List Ltr)} {xs : List Ltr} (h : traysAre s L xs) : ∀ t ∈ L, 1 ≤ t.length ∧ (t.length : Int) ≤ s ∨ s < 1 := by
  obtain ⟨_, h⟩ := h
  rcases h with rfl | ⟨F, r, rfl, h1, h2, h3⟩
  · simp
  · intro t ht
    rcases List.mem_append.1 ht with ht | ht
    · have := h1 t ht
      omega
    · rw [List.mem_singleton.1 ht]
      exact .inl ⟨h2, h3⟩
theorem dtOk_rd {d : Dy} {xs : List Ltr} (h : dtOk d xs = true) : rdOk d xs = true := by unfold dtOk at h; rw [Bool.and_eq_true] at h; exact h.1
theorem dt_facts {d : Dy} {xs : List Ltr} (h : dtOk d xs = true) : (dtRows d xs).flatten = (rptOf d xs).round ∧ ((dtRows d xs).length : Int) = (((rptOf d xs).round.length : Int) + d.size - 1) / d.size ∧ (∀ t ∈ dtRows d xs, 1 ≤ t.length ∧ (t.length : Int) ≤ 20) := by
  have hr := dtOk_rd h
  have hf : ftOk d.size (rptOf d xs).round = true := by unfold dtOk at h; rw [Bool.and_eq_true] at h; exact h.2
  have hs := sizeOk_iff.1 (rdOk_iff.1 hr).1.2.2.2
  have e : dtRows d xs = trayTo d.size (rptOf d xs).round := by
    unfold dtRows ftRows
    rw [if_pos hr, if_pos hf]
  have ht := trays_are hs.1 (rptOf d xs).round
  rw [← e] at ht
  refine ⟨ht.1, traysAre_len hs.1 ht, fun t h1 => ?_⟩
  have := traysAre_rows ht t h1
  omega

theorem fourF {w : World} {g : Nat} {T : TypeId} {a b d e : Value} (h : w.heap[g]? = some (.cells #[a, b, d, e] T (0, 0))) :
    w.cell? ⟨g, 0, none⟩ = some a ∧ w.cell? ⟨g, 1, none⟩ = some b ∧ w.cell? ⟨g, 2, none⟩ = some d ∧ w.cell? ⟨g, 3, none⟩ = some e ∧ w.frozen? ⟨g, 0, none⟩ = false ∧ w.frozen? ⟨g, 1, none⟩ = false ∧ w.frozen? ⟨g, 2, none⟩ = false ∧ w.frozen? ⟨g, 3, none⟩ = false :=
  ⟨by rw [cell_of_row _ _ _ _ _ _ h]; rfl, by rw [cell_of_row _ _ _ _ _ _ h]; rfl, by rw [cell_of_row _ _ _ _ _ _ h]; rfl, by rw [cell_of_row _ _ _ _ _ _ h]; rfl, by simp [World.frozen?, h], by simp [World.frozen?, h], by simp [World.frozen?, h], by simp [World.frozen?, h]⟩
theorem ownR.outR {T base : Nat} {w : World} {v : Value} {r : Rpt} (h : ownR T base w v r) (p : Addr) (u : Value) (hp : p.block < base) : ownR T base (w.setCell p u) v r := by
  obtain ⟨v0, v1, v2, v3, h1, h2, h3, h4, h5, h6⟩ := h
  exact ⟨v0, v1, v2, v3, h1, own_out h2 p u hp, own_out h3 p u hp, own_out h4 p u hp, own_out h5 p u hp, h6⟩
theorem dt_traysK {d : Dy} {xs : List Ltr} (h : rdOk d xs = true) : dtOk d xs = true ∧ traysK (dtRows d xs) := by
  have hp := okB_parts h
  have hs := (rdOk_iff.1 h).1.2.2.2
  have hf : ftOk d.size (rptOf d xs).round = true := by
    unfold ftOk
    rw [hs, hp.1]
    rfl
  have hd : dtOk d xs = true := by unfold dtOk; rw [h, hf]; rfl
  obtain ⟨e1, _, e3⟩ := dt_facts hd
  refine ⟨hd, (dtRows_len d xs).1, fun t ht => by have := e3 t ht; omega, ?_⟩
  rw [e1]
  exact hp.1

set_option maxRecDepth 100000 in
set_option maxHeartbeats 1600000 in
theorem word_endless (B d : Nat) (s : Dsk) (vH : Value) (w : World) (hD : dskAt B w d s vH) (hl : s.day.fwds.length ≤ 1000) :
    Calls Tryz.prog 131 #[.pointer (some ⟨d, 0, none⟩), .string endlessWd] w (lineQ B d s vH (listT (endS s.day.fwds)) w) := by
  have HD := Lib.hid hD
  obtain ⟨_, _, vF, _, _, ⟨_, _, _, _, c4, _, _, _⟩, _, _, _, hF, _⟩ := dsk_cells hD
  have HE := Lib.hid (impl_EndlessCodes vF s.day.fwds w hF.rd)
  obtain ⟨AF, nF, cF, rfl, -, -, -, -⟩ := hF.rd
  have HLT : Hid (∀ (v : Value) (W : World), rd W W.heap.size v (endS s.day.fwds) → Calls Tryz.prog 195 #[v] W fun e w' => e = .returned (.string (listT (endS s.day.fwds))) ∧ Below W.heap.size W w') := fun v W h => impl_listText v _ W h (by have := endS_len (fs := s.day.fwds); omega) fun x hx => by have := (code_mem (endS_mem _ x hx)).1; omega
  clear hD hF hl
  have q_0 : (endlessWd.toList == [108, 101, 116, 116, 101, 114, 115]) = false := by rw [ByteArray.toList_eq]; decide
  have q_1 : (endlessWd.toList == [115, 111, 114, 116]) = false := by rw [ByteArray.toList_eq]; decide
  have q_2 : (endlessWd.toList == [115, 101, 113, 117, 101, 110, 99, 101]) = false := by rw [ByteArray.toList_eq]; decide
  have q_3 : (endlessWd.toList == [115, 101, 97, 108]) = false := by rw [ByteArray.toList_eq]; decide
  have q_4 : (endlessWd.toList == [112, 108, 97, 110]) = false := by rw [ByteArray.toList_eq]; decide
  have q_5 : (endlessWd.toList == [109, 111, 118, 101, 100]) = false := by rw [ByteArray.toList_eq]; decide
  have q_6 : (endlessWd.toList == [102, 111, 114, 119, 97, 114, 100, 115]) = false := by rw [ByteArray.toList_eq]; decide
  have q_7 : (endlessWd.toList == [100, 105, 114, 101, 99, 116]) = false := by rw [ByteArray.toList_eq]; decide
  have q_t : (endlessWd.toList == [101, 110, 100, 108, 101, 115, 115]) = true := by rw [ByteArray.toList_eq]; decide
  generalize endlessWd = wd at *
  go_enter Tryz.func131, Tryz.ntmps131
  go_wp2_with fail
  refine HE.out.mono ?_
  rintro e w1 ⟨v1, rfl, o1, b1⟩
  have HL1 := Lib.hid (HLT.out v1 w1 o1.rd)
  have B1 := Lib.hid b1
  obtain ⟨A1, n1, k1, rfl, -, -, -, -⟩ := o1.rd
  clear o1 b1
  go_wp2_with fail
  refine HL1.out.mono ?_
  rintro e w2 ⟨rfl, b2⟩
  have B2 := Lib.hid (later_trans B1.out b2)
  clear b2
  go_wp2_with fail
  go_ret
  exact lineQ.of_read HD.out rfl B2.out

set_option maxRecDepth 100000 in
set_option maxHeartbeats 1600000 in
theorem word_trays (B d : Nat) (s : Dsk) (vH : Value) (w : World) (hD : dskAt B w d s vH) (hT : TabW w) (hi : isI64 s.day.plan.bins ∧ isI64 s.day.plan.passes ∧ isI64 s.day.size) (hk : rdOk s.day s.letters = true) :
    Calls Tryz.prog 131 #[.pointer (some ⟨d, 0, none⟩), .string traysWd] w (lineQ B d s vH (fmtT (dtRows s.day s.letters)) w) := by
  have HD := Lib.hid hD
  obtain ⟨vL, vO, vF, vN, _, ⟨c0, c1, c2, c3, c4, c5, c6, _⟩, _, hL, hO, hF, hH, _, _⟩ := dsk_cells hD
  obtain ⟨AL, nL, cL, rfl, -, -, -, -⟩ := hL.rd
  obtain ⟨AO, nO, cO, rfl, -, -, -, -⟩ := hO.rd
  obtain ⟨AF, nF, cF, rfl, -, -, -, -⟩ := hF.rd
  obtain ⟨AH, nH, cH, rfl, -, -, -, -⟩ := hH.rd
  have hRD : rdD w w.heap.size (.agg #[.int .i64 s.day.plan.bins, .int .i64 s.day.plan.passes, .slice AO nO cO, .slice AF nF cF, .slice AH nH cH, .int .i64 s.day.size]) s.day := ⟨_, _, _, rfl, hi.1, hi.2.1, hi.2.2, hO.rd, hF.rd, hH.rd⟩
  obtain ⟨k1, k2⟩ := dt_traysK hk
  have HR : Hid (∀ W, Below w.heap.size w W → Calls Tryz.prog 11 #[.agg #[.int .i64 s.day.plan.bins, .int .i64 s.day.plan.passes, .slice AO nO cO, .slice AF nF cF, .slice AH nH cH, .int .i64 s.day.size], .slice AL nL cL] W fun e w' => ∃ v', e = .returned (.tuple #[v', .bool true]) ∧ ownLL 29 89 W.heap.size w' v' (dtRows s.day s.letters) ∧ Below W.heap.size W w') := fun W hW => by
    have h := impl_DayTrays _ _ s.day s.letters W (hRD.on hW) (hL.rd.on hW)
    rw [k1] at h; exact h
  have HF : Hid (∀ (v : Value) (W : World), Below w.heap.size w W → rd W W.heap.size v (dtRows s.day s.letters) → Calls Tryz.prog 18 #[v] W fun e w' => e = .returned (.string (fmtT (dtRows s.day s.letters))) ∧ Below W.heap.size W w') := fun v W hW h => impl_FormatTrays_yes v _ W h k2 (hT.on hW)
  have q0 := fun W (hW : Below w.heap.size w W) => (hW.cell (p := ⟨d, 0, none⟩) (block_of_cell c0)).trans c0
  have q1 := fun W (hW : Below w.heap.size w W) => (hW.cell (p := ⟨d, 1, none⟩) (block_of_cell c1)).trans c1
  have q2 := fun W (hW : Below w.heap.size w W) => (hW.cell (p := ⟨d, 2, none⟩) (block_of_cell c2)).trans c2
  have q3 := fun W (hW : Below w.heap.size w W) => (hW.cell (p := ⟨d, 3, none⟩) (block_of_cell c3)).trans c3
  have q4 := fun W (hW : Below w.heap.size w W) => (hW.cell (p := ⟨d, 4, none⟩) (block_of_cell c4)).trans c4
  have q5 := fun W (hW : Below w.heap.size w W) => (hW.cell (p := ⟨d, 5, none⟩) (block_of_cell c5)).trans c5
  have q6 := fun W (hW : Below w.heap.size w W) => (hW.cell (p := ⟨d, 6, none⟩) (block_of_cell c6)).trans c6
  have ld := later_drew (Below.refl w.heap.size w)
  clear hD hT hi hk hRD hL hO hF hH c0 c1 c2 c3 c4 c5 c6 k1 k2
  generalize dtRows s.day s.letters = rows at *
  have q_0 : (traysWd.toList == [108, 101, 116, 116, 101, 114, 115]) = false := by rw [ByteArray.toList_eq]; decide
  have q_1 : (traysWd.toList == [115, 111, 114, 116]) = false := by rw [ByteArray.toList_eq]; decide
  have q_2 : (traysWd.toList == [115, 101, 113, 117, 101, 110, 99, 101]) = false := by rw [ByteArray.toList_eq]; decide
  have q_3 : (traysWd.toList == [115, 101, 97, 108]) = false := by rw [ByteArray.toList_eq]; decide
  have q_4 : (traysWd.toList == [112, 108, 97, 110]) = false := by rw [ByteArray.toList_eq]; decide
  have q_5 : (traysWd.toList == [109, 111, 118, 101, 100]) = false := by rw [ByteArray.toList_eq]; decide
  have q_6 : (traysWd.toList == [102, 111, 114, 119, 97, 114, 100, 115]) = false := by rw [ByteArray.toList_eq]; decide
  have q_7 : (traysWd.toList == [100, 105, 114, 101, 99, 116]) = false := by rw [ByteArray.toList_eq]; decide
  have q_8 : (traysWd.toList == [101, 110, 100, 108, 101, 115, 115]) = false := by rw [ByteArray.toList_eq]; decide
  have q_9 : (traysWd.toList == [104, 101, 108, 100]) = false := by rw [ByteArray.toList_eq]; decide
  have q_10 : (traysWd.toList == [100, 97, 121]) = false := by rw [ByteArray.toList_eq]; decide
  have q_t : (traysWd.toList == [116, 114, 97, 121, 115]) = true := by rw [ByteArray.toList_eq]; decide
  generalize traysWd = wd at *
  go_enter Tryz.func131, Tryz.ntmps131
  go_wp2_with fail
  go_region_held3 (fun W => Below w.heap.size w W) (first | exact ld | exact k1 | fail) (first | (go_at_call 11; first | ((with_reducible refine (HR.out _ ld).mono ?_); rintro e u1 ⟨v1, rfl, o1, z1⟩; have k1 := later_trans ld z1; have O1 := Lib.hid o1.rd; obtain ⟨A1, n1, m1, rfl, -, -, -, -⟩ := o1.rd; clear o1) | fail) | fail)
  all_goals
    have K1 := Lib.hid k1
    clear k1 z1 ld q0 q1 q2 q3 q4 q5 q6
    go_wp2_with fail
    refine (HF.out _ _ K1.out O1.out).mono ?_
    rintro e u2 ⟨rfl, z2⟩
    have K2 := Lib.hid (later_trans K1.out z2)
    clear z2
    go_wp2_with fail
    go_ret
    exact lineQ.of_read HD.out rfl K2.out

set_option maxRecDepth 100000 in
set_option maxHeartbeats 1600000 in
theorem word_day (B d : Nat) (s : Dsk) (vH : Value) (w : World) (hD : dskAt B w d s vH) (hT : TabW w) (hi : isI64 s.day.plan.bins ∧ isI64 s.day.plan.passes ∧ isI64 s.day.size) (hk : rdOk s.day s.letters = true) :
    Calls Tryz.prog 131 #[.pointer (some ⟨d, 0, none⟩), .string dayWd] w (lineQ B d s vH (fmtR (rptOf s.day s.letters)) w) := by
  have HD := Lib.hid hD
  obtain ⟨vL, vO, vF, vN, _, ⟨c0, c1, c2, c3, c4, c5, c6, _⟩, _, hL, hO, hF, hH, _, _⟩ := dsk_cells hD
  obtain ⟨AL, nL, cL, rfl, -, -, -, -⟩ := hL.rd
  obtain ⟨AO, nO, cO, rfl, -, -, -, -⟩ := hO.rd
  obtain ⟨AF, nF, cF, rfl, -, -, -, -⟩ := hF.rd
  obtain ⟨AH, nH, cH, rfl, -, -, -, -⟩ := hH.rd
  have hRD : rdD w w.heap.size (.agg #[.int .i64 s.day.plan.bins, .int .i64 s.day.plan.passes, .slice AO nO cO, .slice AF nF cF, .slice AH nH cH, .int .i64 s.day.size]) s.day := ⟨_, _, _, rfl, hi.1, hi.2.1, hi.2.2, hO.rd, hF.rd, hH.rd⟩
  have HR : Hid (∀ W, Below w.heap.size w W → Calls Tryz.prog 8 #[.agg #[.int .i64 s.day.plan.bins, .int .i64 s.day.plan.passes, .slice AO nO cO, .slice AF nF cF, .slice AH nH cH, .int .i64 s.day.size], .slice AL nL cL] W fun e w' => ∃ vR, e = .returned (.tuple #[vR, .bool true]) ∧ ownR 89 W.heap.size w' vR (rptOf s.day s.letters) ∧ Below W.heap.size W w') := fun W hW => by
    have h := impl_RunDay' _ _ s.day s.letters W (hRD.on hW) (hL.rd.on hW)
    rw [hk] at h; exact h
  have HF : Hid (∀ (v : Value) (W : World), Below w.heap.size w W → rdR W W.heap.size v (rptOf s.day s.letters) → Calls Tryz.prog 17 #[v] W fun e w' => e = .returned (.string (fmtR (rptOf s.day s.letters))) ∧ Below W.heap.size W w') := fun v W hW h => impl_FormatReport v _ W h (hT.on hW)
  have q0 := fun W (hW : Below w.heap.size w W) => (hW.cell (p := ⟨d, 0, none⟩) (block_of_cell c0)).trans c0
  have q1 := fun W (hW : Below w.heap.size w W) => (hW.cell (p := ⟨d, 1, none⟩) (block_of_cell c1)).trans c1
  have q2 := fun W (hW : Below w.heap.size w W) => (hW.cell (p := ⟨d, 2, none⟩) (block_of_cell c2)).trans c2
  have q3 := fun W (hW : Below w.heap.size w W) => (hW.cell (p := ⟨d, 3, none⟩) (block_of_cell c3)).trans c3
  have q4 := fun W (hW : Below w.heap.size w W) => (hW.cell (p := ⟨d, 4, none⟩) (block_of_cell c4)).trans c4
  have q5 := fun W (hW : Below w.heap.size w W) => (hW.cell (p := ⟨d, 5, none⟩) (block_of_cell c5)).trans c5
  have q6 := fun W (hW : Below w.heap.size w W) => (hW.cell (p := ⟨d, 6, none⟩) (block_of_cell c6)).trans c6
  have ld := later_drew (Below.refl w.heap.size w)
  clear hD hT hi hk hRD hL hO hF hH c0 c1 c2 c3 c4 c5 c6
  generalize rptOf s.day s.letters = rp at *
  have q_0 : (dayWd.toList == [108, 101, 116, 116, 101, 114, 115]) = false := by rw [ByteArray.toList_eq]; decide
  have q_1 : (dayWd.toList == [115, 111, 114, 116]) = false := by rw [ByteArray.toList_eq]; decide
  have q_2 : (dayWd.toList == [115, 101, 113, 117, 101, 110, 99, 101]) = false := by rw [ByteArray.toList_eq]; decide
  have q_3 : (dayWd.toList == [115, 101, 97, 108]) = false := by rw [ByteArray.toList_eq]; decide
  have q_4 : (dayWd.toList == [112, 108, 97, 110]) = false := by rw [ByteArray.toList_eq]; decide
  have q_5 : (dayWd.toList == [109, 111, 118, 101, 100]) = false := by rw [ByteArray.toList_eq]; decide
  have q_6 : (dayWd.toList == [102, 111, 114, 119, 97, 114, 100, 115]) = false := by rw [ByteArray.toList_eq]; decide
  have q_7 : (dayWd.toList == [100, 105, 114, 101, 99, 116]) = false := by rw [ByteArray.toList_eq]; decide
  have q_8 : (dayWd.toList == [101, 110, 100, 108, 101, 115, 115]) = false := by rw [ByteArray.toList_eq]; decide
  have q_9 : (dayWd.toList == [104, 101, 108, 100]) = false := by rw [ByteArray.toList_eq]; decide
  have q_t : (dayWd.toList == [100, 97, 121]) = true := by rw [ByteArray.toList_eq]; decide
  generalize dayWd = wd at *
  go_enter Tryz.func131, Tryz.ntmps131
  go_wp2_with fail
  have la : Below w.heap.size w (w.alloc (Obj.cells #[.slice none 0 0, .slice none 0 0, .slice none 0 0, .slice none 0 0] 33)).drew := later_drew (later_alloc (Below.refl _ _) _)
  go_region_held3 (fun W => Below w.heap.size w W) (first | exact ld | exact la | exact later_alloc ld _ | exact k1 | exact later_alloc k1 _ | exact k5 _ _ _ _ | fail) (first | (go_at_call 8; first | ((with_reducible refine (HR.out _ la).mono ?_); rintro e u1 ⟨v1, rfl, o1, z1⟩; have k1 := later_trans la z1; have k5 := fun (a0 a1 a2 a3 : Value) => later_set (later_set (later_set (later_set k1 (p := ⟨w.heap.size, 0, none⟩) (Nat.le_refl _) a0) (p := ⟨w.heap.size, 1, none⟩) (Nat.le_refl _) a1) (p := ⟨w.heap.size, 2, none⟩) (Nat.le_refl _) a2) (p := ⟨w.heap.size, 3, none⟩) (Nat.le_refl _) a3; obtain ⟨b0, b1, b2, b3, g0, g1, g2, g3⟩ := fourF (blk_below (w := (w.alloc (Obj.cells #[.slice none 0 0, .slice none 0 0, .slice none 0 0, .slice none 0 0] 33)).drew) (heap_alloc_new w _) z1); have O1 := Lib.hid o1; obtain ⟨x0, x1, x2, x3, rfl, p0, p1, p2, p3, -⟩ := o1; obtain ⟨A0, n0, m0, rfl, -, -, -, -⟩ := p0.rd; obtain ⟨A1, n1, m1, rfl, -, -, -, -⟩ := p1.rd; obtain ⟨A2, n2, m2, rfl, -, -, -, -⟩ := p2.rd; obtain ⟨A3, n3, m3, rfl, -, -, -, -⟩ := p3.rd; clear p0 p1 p2 p3) | ((with_reducible refine (HR.out _ ld).mono ?_); rintro e u1 ⟨v1, rfl, o1, z1⟩; have k1 := later_trans ld z1; have O1 := Lib.hid o1; obtain ⟨x0, x1, x2, x3, rfl, p0, p1, p2, p3, -⟩ := o1; obtain ⟨A0, n0, m0, rfl, -, -, -, -⟩ := p0.rd; obtain ⟨A1, n1, m1, rfl, -, -, -, -⟩ := p1.rd; obtain ⟨A2, n2, m2, rfl, -, -, -, -⟩ := p2.rd; obtain ⟨A3, n3, m3, rfl, -, -, -, -⟩ := p3.rd; clear p0 p1 p2 p3) | fail) | fail)
  all_goals first
    | (
      have HO5 := Lib.hid (fun (a0 a1 a2 a3 : Value) => ((((O1.out.outR ⟨w.heap.size, 0, none⟩ a0 (by simp)).outR ⟨w.heap.size, 1, none⟩ a1 (by simp)).outR ⟨w.heap.size, 2, none⟩ a2 (by simp)).outR ⟨w.heap.size, 3, none⟩ a3 (by simp)).rd)
      have K5 := Lib.hid k5
      clear k1 k5 z1 ld la q0 q1 q2 q3 q4 q5 q6
      go_wp2_with fail
      refine (HF.out _ _ (K5.out _ _ _ _) (HO5.out _ _ _ _)).mono ?_
      rintro e u2 ⟨rfl, z2⟩
      have K2 := Lib.hid (later_trans (K5.out _ _ _ _) z2)
      clear z2
      go_wp2_with fail
      go_ret
      exact lineQ.of_read HD.out rfl K2.out)
    | (
      have HO6 := Lib.hid (fun (o : Obj) => (O1.out.below ((Below.refl u1.heap.size u1).alloc (Nat.le_refl _) o)).rd)
      have K5 := Lib.hid (fun (o : Obj) => later_alloc k1 o)
      clear k1 z1 ld la q0 q1 q2 q3 q4 q5 q6
      go_wp2_with fail
      refine (HF.out _ _ (K5.out _) (HO6.out _)).mono ?_
      rintro e u2 ⟨rfl, z2⟩
      have K2 := Lib.hid (later_trans (K5.out _) z2)
      clear z2
      go_wp2_with fail
      go_ret
      exact lineQ.of_read HD.out rfl K2.out)

end Go.Proofs.YtpinkbodbedajaaGreatDoor

namespace Go.Proofs.YtpinkbodbedajaaGreatDoor
open Go.RowKit

theorem listT_size {ps : List ByteArray} {b n : Nat} (hl : ps.length ≤ n) (h : ∀ p ∈ ps, p.size ≤ b) : (listT ps).size ≤ n * (b + 1) + 1 := by
  unfold listT
  split
  · show 1 ≤ _; omega
  · have := joinT_size ps spT b h
    have h2 : ps.length * (b + spT.size) ≤ n * (b + 1) := Nat.mul_le_mul hl (Nat.le_refl _)
    omega

/-! ### The four steps -/
section
variable {X : World → Prop}
end

end Go.Proofs.YtpinkbodbedajaaGreatDoor

namespace Go.Proofs.YtpinkbodbedajaaGreatDoor
open Go.RowKit

/-! ### Lines, joined -/
theorem linesT_app : ∀ a b : List ByteArray, linesT (a ++ b) = linesT a ++ linesT b
  | [], b => by rw [List.nil_append, linesT_nil]; apply ba_ext; rw [ba_append]; simp
  | x :: a, b => by
    rw [List.cons_append, linesT_cons, linesT_cons, linesT_app a b]
    apply ba_ext
    simp only [ba_append, List.append_assoc]
theorem linesT_one (l : ByteArray) : linesT [l] = l ++ ⟨#[10]⟩ := by
  rw [linesT_cons, linesT_nil]; apply ba_ext; simp only [ba_append]; simp
theorem linesT_le {m : Nat} : ∀ ls : List ByteArray, (∀ l ∈ ls, l.size ≤ m) → (linesT ls).size ≤ ls.length * (m + 1)
  | [], _ => by rw [linesT_nil]; exact Nat.zero_le _
  | x :: ls, h => by
    have ih := linesT_le ls fun y hy => h y (List.mem_cons_of_mem _ hy)
    have hx := h x (by simp)
    rw [linesT_cons]
    simp only [ByteArray.size_append, List.length_cons]
    have e1 : (⟨#[10]⟩ : ByteArray).size = 1 := rfl
    have e2 : (ls.length + 1) * (m + 1) = ls.length * (m + 1) + (m + 1) := Nat.succ_mul _ _
    omega

/-! ### The script -/
def dayHd (d : Dy) (b : List Ltr) : List ByteArray := [lnOne lettersWd (fmtB b), lnOne planWd (fmtPl d.plan), lnOne forwardsWd (fmtFo d.fwds), lnOne sizeWd (decB d.size.toNat)]
def dayMd (hs : List ByteArray) : List ByteArray := hs.map (lnOne holdWd)
def dayTl : List ByteArray := [dayWd, traysWd, endlessWd]
def dayLs (d : Dy) (b : List Ltr) : List ByteArray := dayHd d b ++ dayMd d.held ++ dayTl
def ansHd (b : List Ltr) : List ByteArray := [fmtB b, okW, okW, okW]
def ansMd (hs : List ByteArray) (n : Nat) : List ByteArray := (List.range n).map fun i => listT (hs.take (i + 1))
def ansTl (d : Dy) (b : List Ltr) : List ByteArray := [fmtR (rptOf d b), fmtT (dtRows d b), listT (endS d.fwds)]
def dayAs (d : Dy) (b : List Ltr) : List ByteArray := ansHd b ++ ansMd d.held d.held.length ++ ansTl d b
def dayD (d : Dy) (b : List Ltr) : Nat → Dsk
  | 0 => firstD
  | 1 => { firstD with letters := b }
  | 2 => { firstD with letters := b, day := { firstD.day with plan := d.plan } }
  | 3 => { firstD with letters := b, day := { firstD.day with plan := d.plan, fwds := d.fwds } }
  | k + 4 => { firstD with letters := b, day := ⟨d.plan, d.fwds, d.held.take k, d.size⟩ }
theorem heldK {hs : List ByteArray} (h : heldOk hs = true) : hs.length ≤ 30 ∧ ∀ c ∈ hs, isCode c = true := by
  unfold heldOk at h
  rw [Bool.and_eq_true, decide_eq_true_iff, List.all_eq_true] at h
  exact h
theorem day_facts {d : Dy} {b : List Ltr} (h : rdOk d b = true) : planOk d.plan = true ∧ fwdsOk d.fwds = true ∧ (d.held.length ≤ 30 ∧ ∀ c ∈ d.held, isCode c = true) ∧ (1 ≤ d.size ∧ d.size ≤ 20) ∧ okB b = true := by
  obtain ⟨⟨h1, h2, h3, h4⟩, h5⟩ := rdOk_iff.1 h
  exact ⟨h1, h2, heldK h3, sizeOk_iff.1 h4, h5⟩

theorem md_get {hs : List ByteArray} {A C : List ByteArray} {k : Nat} (h : k < hs.length) (hk : A.length + k < (A ++ dayMd hs ++ C).length) : (A ++ dayMd hs ++ C)[A.length + k] = lnOne holdWd hs[k] := by
  have e : (dayMd hs).length = hs.length := by unfold dayMd; rw [List.length_map]
  rw [List.getElem_append_left (by rw [List.length_append]; omega), List.getElem_append_right (by omega)]
  unfold dayMd
  simp
theorem am_get {hs : List ByteArray} {n : Nat} {A C : List ByteArray} {k : Nat} (h : k < n) (hk : A.length + k < (A ++ ansMd hs n ++ C).length) : (A ++ ansMd hs n ++ C)[A.length + k] = listT (hs.take (k + 1)) := by
  have e : (ansMd hs n).length = n := by unfold ansMd; rw [List.length_map, List.length_range]
  rw [List.getElem_append_left (by rw [List.length_append]; omega), List.getElem_append_right (by omega)]
  unfold ansMd
  simp
theorem tl_get {M A C : List ByteArray} {k : Nat} (h : k < C.length) (hk : A.length + M.length + k < (A ++ M ++ C).length) : (A ++ M ++ C)[A.length + M.length + k] = C[k] := by
  rw [List.getElem_append_right (by rw [List.length_append]; omega)]
  congr 1
  rw [List.length_append]
  omega
theorem fmtR_le {r : Rpt} : (fmtR r).size ≤ 4003 := by
  cases h : okB (all4 r)
  · rw [fmtR_no h]; exact Nat.zero_le _
  · rw [fmtR_yes h]
    have h1 := fmtB_size r.round
    have h2 := fmtB_size r.strange
    have h3 := fmtB_size r.held
    have h4 := fmtB_size r.stuck
    simp only [ByteArray.size_append]
    show _ + 1 + _ + 1 + _ + 1 + _ ≤ _
    omega
theorem fmtR_pos {r : Rpt} (h : okB (all4 r) = true) : 1 ≤ (fmtR r).size := by
  rw [fmtR_yes h]
  simp only [ByteArray.size_append]
  show 1 ≤ _ + 1 + _ + 1 + _ + 1 + _
  omega
theorem fmtT_le {xss : List (List Ltr)} (h : traysK xss) : (fmtT xss).size ≤ 1300 ∧ 1 ≤ (fmtT xss).size := by
  unfold fmtT
  split
  · decide
  · rename_i h0
    have h1 := joinT_size (xss.map partT) spT 20 fun p hp => (partT_size h p hp).1
    rw [List.length_map] at h1
    have h2 : xss.length * (20 + spT.size) ≤ 60 * 21 := Nat.mul_le_mul h.1 (Nat.le_refl _)
    refine ⟨by omega, joinT_nn (by rw [List.length_map]; exact h0) fun p hp => (partT_size h p hp).2⟩
theorem codes_list {ps : List ByteArray} (hl : ps.length ≤ 30) (h : ∀ p ∈ ps, isCode p = true) : (listT ps).size ≤ 241 ∧ 1 ≤ (listT ps).size := by
  have h1 := listT_size (n := 30) hl (b := 7) fun p hp => Nat.le_of_eq (code_mem (h p hp)).1
  have h2 := listT_pos fun p hp => by have := (code_mem (h p hp)).1; omega
  exact ⟨by omega, h2⟩

end Go.Proofs.YtpinkbodbedajaaGreatDoor

namespace Go.Proofs.YtpinkbodbedajaaGreatDoor
open Go.RowKit

/-- The state ahead of the j-th held code. -/
def heldD (d : Dy) (b : List Ltr) (j : Nat) : Dsk := { firstD with letters := b, day := ⟨d.plan, d.fwds, d.held.take j, d.size⟩ }
theorem dayD_held (d : Dy) (b : List Ltr) (j : Nat) : dayD d b (4 + j) = heldD d b j := by rw [Nat.add_comm]; rfl
theorem dayD_held1 (d : Dy) (b : List Ltr) (j : Nat) : dayD d b (4 + j + 1) = heldD d b (j + 1) := by rw [show 4 + j + 1 = (j + 1) + 4 by omega]; rfl
theorem heldD_end (d : Dy) (b : List Ltr) {j : Nat} (h : d.held.length ≤ j) : heldD d b j = { firstD with letters := b, day := d } := by
  unfold heldD
  rw [List.take_of_length_le h]
theorem step_hold (d : Dy) (b : List Ltr) (j : Nat) (hj : j < d.held.length) (hl : d.held.length ≤ 30) (hc : ∀ c ∈ d.held, isCode c = true) : StepOk TabW (lnOne holdWd d.held[j]) (heldD d b j) (heldD d b (j + 1)) (listT (d.held.take (j + 1))) := fun B q vH W hX hB hD => by
  have h7 := (code_mem (hc _ (List.getElem_mem hj))).1
  have e : d.held.take (j + 1) = d.held.take j ++ [d.held[j]] := List.take_succ_eq_append_getElem hj
  have hz : ∀ x ∈ d.held.take j, x.size ≤ 1000 := fun x hx => by have := (code_mem (hc x (List.mem_of_mem_take hx))).1; omega
  have hlt : (d.held.take j).length < 30 := by rw [List.length_take]; omega
  have k0 := lnOne_size holdWd d.held[j]
  have w0 : holdWd.size = 4 := rfl
  refine line_one B q _ vH (lnOne holdWd d.held[j]) holdWd d.held[j] d.held[j] _ W (by rw [k0, w0, h7]; decide) (by omega) (cut_app (by decide)) (parts_one (isCode_not (hc _ (List.getElem_mem hj)) (by decide)))
    (by rw [ByteArray.toList_eq]; decide) (by rw [ByteArray.toList_eq]; decide) (by rw [ByteArray.toList_eq]; decide) (by rw [ByteArray.toList_eq]; decide) fun W' hW' => one_hold B q _ vH _ _ W' ?_
  have h := desk_hold B q (heldD d b j) vH d.held[j] W' (hD.below hW') (Nat.le_trans hB hW'.size) (hc _ (List.getElem_mem hj)) hlt hz
  have e2 : heldD d b (j + 1) = { heldD d b j with day := { (heldD d b j).day with held := (heldD d b j).day.held ++ [d.held[j]] } } := by
    unfold heldD
    rw [e]
  rw [e2, e]
  exact h

theorem run_day {d : Dy} {b : List Ltr} (hr : rdOk d b = true) (hi : isI64 d.plan.bins ∧ isI64 d.plan.passes ∧ isI64 d.size) (w : World) (hT : TabW w) :
    Calls Tryz.prog 20 #[.string (linesT (dayLs d b))] w fun e w' => e = .returned (.string (linesT (dayAs d b))) ∧ Below w.heap.size w w' := by
  obtain ⟨hp, hf, ⟨hl, hc⟩, ⟨hs1, hs2⟩, hb⟩ := day_facts hr
  obtain ⟨n1, n2⟩ := decB_num (n := d.size.toNat) (by omega)
  have hfd : fieldN (decB d.size.toNat) = d.size := by unfold fieldN; rw [n1, if_pos rfl, n2, Int.toNat_of_nonneg (by omega)]
  have zd := dec10_size (n := d.size.toNat) (by omega)
  have y0 := fmtB_size b
  have y1 := fmtPl_size d.plan
  have y2 := fmtFo_size d.fwds
  have yR := fmtR_le (r := rptOf d b)
  have pR := fmtR_pos (r := rptOf d b) (okB_all hr)
  obtain ⟨dk, tk⟩ := dt_traysK hr
  obtain ⟨yT, pT⟩ := fmtT_le tk
  have hel := endS_len (fs := d.fwds)
  have hfl := (fwdsOk_iff.1 hf).1
  obtain ⟨yE, pE⟩ := codes_list (ps := endS d.fwds) (by omega) (endS_mem _)
  have k0 := lnOne_size lettersWd (fmtB b)
  have k1 := lnOne_size planWd (fmtPl d.plan)
  have k2 := lnOne_size forwardsWd (fmtFo d.fwds)
  have k3 := lnOne_size sizeWd (decB d.size.toNat)
  have w0 : lettersWd.size = 7 := rfl
  have w1 : planWd.size = 4 := rfl
  have w2 : forwardsWd.size = 8 := rfl
  have w3 : sizeWd.size = 4 := rfl
  have w4 : holdWd.size = 4 := rfl
  have hmd : ∀ l ∈ dayMd d.held, l.size = 12 ∧ (10 : UInt8) ∉ l.data.toList := fun l h => by
    obtain ⟨c, hcm, rfl⟩ := List.mem_map.1 h
    exact ⟨by rw [lnOne_size, w4, (code_mem (hc c hcm)).1], lnOne_10 (by decide) (isCode_not (hc c hcm) (by decide))⟩
  have ham : ∀ a ∈ ansMd d.held d.held.length, a.size ≤ 241 ∧ 1 ≤ a.size := fun a h => by
    obtain ⟨i, _, rfl⟩ := List.mem_map.1 h
    exact codes_list (by rw [List.length_take]; omega) fun p hp => hc p (List.mem_of_mem_take hp)
  have lm : (dayMd d.held).length = d.held.length := by unfold dayMd; rw [List.length_map]
  have la : (ansMd d.held d.held.length).length = d.held.length := by unfold ansMd; rw [List.length_map, List.length_range]
  have ll : (dayLs d b).length = 4 + d.held.length + 3 := by unfold dayLs; rw [List.length_append, List.length_append, lm]; rfl
  have lr : (dayAs d b).length = 4 + d.held.length + 3 := by unfold dayAs; rw [List.length_append, List.length_append, la]; rfl
  have s1 := linesT_le (m := 12) (dayMd d.held) fun l h => Nat.le_of_eq (hmd l h).1
  have s2 := linesT_le (m := 241) (ansMd d.held d.held.length) fun a h => (ham a h).1
  have hdi : isI64 d.plan.bins ∧ isI64 d.plan.passes ∧ isI64 d.size := hi
  refine run_lines TabW (dayLs d b) (dayAs d b) (dayD d b) w (by rw [ll, lr]) rfl (by rw [ll]; omega) (fun l h => ?_) (fun l h => ?_) (fun a h => ?_) ?_ ?_ (fun W hW => hT.on hW) (fun k hk => ?_)
  · unfold dayLs at h
    rw [List.mem_append, List.mem_append] at h
    rcases h with (h | h) | h
    · simp only [dayHd, List.mem_cons, List.not_mem_nil, or_false] at h
      rcases h with rfl | rfl | rfl | rfl
      · exact lnOne_10 (by decide) fmtB_not
      · exact lnOne_10 (by decide) fmtPl_not
      · exact lnOne_10 (by decide) fmtFo_not
      · exact lnOne_10 (by decide) (decB_not (by decide))
    · exact (hmd l h).2
    · simp only [dayTl, List.mem_cons, List.not_mem_nil, or_false] at h
      rcases h with rfl | rfl | rfl <;> decide
  · unfold dayLs at h
    rw [List.mem_append, List.mem_append] at h
    rcases h with (h | h) | h
    · simp only [dayHd, List.mem_cons, List.not_mem_nil, or_false] at h
      rcases h with rfl | rfl | rfl | rfl <;> omega
    · have := (hmd l h).1; omega
    · simp only [dayTl, List.mem_cons, List.not_mem_nil, or_false] at h
      rcases h with rfl | rfl | rfl <;> decide
  · unfold dayAs at h
    rw [List.mem_append, List.mem_append] at h
    rcases h with (h | h) | h
    · simp only [ansHd, List.mem_cons, List.not_mem_nil, or_false] at h
      rcases h with rfl | rfl | rfl | rfl
      · exact fmtB_pos hb
      · decide
      · decide
      · decide
    · exact (ham a h).2
    · simp only [ansTl, List.mem_cons, List.not_mem_nil, or_false] at h
      rcases h with rfl | rfl | rfl
      · exact pR
      · exact pT
      · exact pE
  · unfold dayLs
    rw [linesT_app, linesT_app]
    rw [lm] at s1
    have h1 : (linesT (dayHd d b)).size ≤ 2200 := by
      simp only [dayHd, linesT_cons, linesT_nil, ByteArray.size_append]
      show _ + 1 + (_ + 1 + (_ + 1 + (_ + 1 + 0))) ≤ _
      omega
    have h2 : (linesT dayTl).size = 18 := rfl
    simp only [ByteArray.size_append]
    omega
  · unfold dayAs
    rw [linesT_app, linesT_app]
    rw [la] at s2
    have h1 : (linesT (ansHd b)).size ≤ 1100 := by
      simp only [ansHd, linesT_cons, linesT_nil, ByteArray.size_append]
      show _ + 1 + (2 + 1 + (2 + 1 + (2 + 1 + 0))) ≤ _
      omega
    have h2 : (linesT (ansTl d b)).size ≤ 6000 := by
      simp only [ansTl, linesT_cons, linesT_nil, ByteArray.size_append]
      show _ + 1 + (_ + 1 + (_ + 1 + 0)) ≤ _
      omega
    simp only [ByteArray.size_append]
    omega
  · rw [ll] at hk
    by_cases h4 : k < 4
    · match k, h4 with
      | 0, _ =>
        exact fun B q vH W hX hB hD => line_letters B q firstD vH b W hD hB hX hb
      | 1, _ =>
        exact fun B q vH W hX hB hD => line_plan B q { firstD with letters := b } vH d.plan W hD hB hp
      | 2, _ =>
        exact fun B q vH W hX hB hD => line_forwards B q { firstD with letters := b, day := { firstD.day with plan := d.plan } } vH d.fwds W hD hB hf
      | 3, _ =>
        exact fun B q vH W hX hB hD => line_one B q _ vH (lnOne sizeWd (decB d.size.toNat)) sizeWd (decB d.size.toNat) (decB d.size.toNat) _ W (by rw [k3, w3]; unfold maxLen; omega) (by omega) (cut_app (by decide)) (parts_one (decB_not (by decide))) (by rw [ByteArray.toList_eq]; decide) (by rw [ByteArray.toList_eq]; decide) (by rw [ByteArray.toList_eq]; decide) (by rw [ByteArray.toList_eq]; decide) fun W' hW' => one_size B q { firstD with letters := b, day := { firstD.day with plan := d.plan, fwds := d.fwds } } vH _ d.size W' (hD.below hW') (by unfold maxLen; omega) hfd ⟨hs1, hs2⟩
    · obtain ⟨j, rfl⟩ : ∃ j, k = 4 + j := ⟨k - 4, by omega⟩
      rw [dayD_held, dayD_held1]
      by_cases hj : j < d.held.length
      · have e1 : (dayLs d b)[4 + j]'(by rw [ll]; omega) = lnOne holdWd d.held[j] := md_get (A := dayHd d b) (C := dayTl) hj (by show 4 + j < (dayLs d b).length; rw [ll]; omega)
        have e2 : (dayAs d b)[4 + j]'(by rw [lr]; omega) = listT (d.held.take (j + 1)) := am_get (A := ansHd b) (C := ansTl d b) hj (by show 4 + j < (dayAs d b).length; rw [lr]; omega)
        rw [e1, e2]
        exact step_hold d b j hj hl hc
      · obtain ⟨i, rfl⟩ : ∃ i, j = d.held.length + i := ⟨j - d.held.length, by omega⟩
        have hi3 : i < 3 := by omega
        rw [heldD_end d b (by omega), heldD_end d b (by omega)]
        have e1 : (dayLs d b)[4 + (d.held.length + i)]'(by rw [ll]; omega) = dayTl[i]'hi3 := by
          have := tl_get (A := dayHd d b) (M := dayMd d.held) (C := dayTl) (k := i) hi3 (by show (4 + (dayMd d.held).length + i) < (dayLs d b).length; rw [ll, lm]; omega)
          rw [← this]
          unfold dayLs
          congr 1
          rw [lm]
          show _ = 4 + _ + i
          omega
        have e2 : (dayAs d b)[4 + (d.held.length + i)]'(by rw [lr]; omega) = (ansTl d b)[i]'hi3 := by
          have := tl_get (A := ansHd b) (M := ansMd d.held d.held.length) (C := ansTl d b) (k := i) hi3 (by show (4 + (ansMd d.held d.held.length).length + i) < (dayAs d b).length; rw [lr, la]; omega)
          rw [← this]
          unfold dayAs
          congr 1
          rw [la]
          show _ = 4 + _ + i
          omega
        rw [e1, e2]
        match i, hi3 with
        | 0, _ =>
          exact fun B q vH W hX hB hD => line_word B q _ vH dayWd _ W (by decide) (by decide +kernel) fun W' hW' => word_day B q { firstD with letters := b, day := d } vH W' (hD.below hW') (hX.on hW') hdi hr
        | 1, _ =>
          exact fun B q vH W hX hB hD => line_word B q _ vH traysWd _ W (by decide) (by decide +kernel) fun W' hW' => word_trays B q { firstD with letters := b, day := d } vH W' (hD.below hW') (hX.on hW') hdi hr
        | 2, _ =>
          exact fun B q vH W hX hB hD => line_word B q _ vH endlessWd _ W (by decide) (by decide +kernel) fun W' hW' => word_endless B q { firstD with letters := b, day := d } vH W' (hD.below hW') (show d.fwds.length ≤ 1000 by omega)

end Go.Proofs.YtpinkbodbedajaaGreatDoor

namespace Go.Proofs.YtpinkbodbedajaaGreatDoor
open Go.RowKit

end Go.Proofs.YtpinkbodbedajaaGreatDoor

namespace Go.Proofs.YtpinkbodbedajaaGreatDoor
open Go.RowKit


/-- Behind the drawing of a missort: it lies in a block B of its own. -/
structure mid7 (g q b : Nat) (w0 : World) (v : Value) (ms : List Mis) (i z : Int) (B : Nat) (W : World) : Prop where
  hB : w0.heap.size ≤ B
  hrow : W.heap[B]? = some (.cells #[.int .i64 i, .int .i64 z] 225 (0, 0))
  hr : rdr W g q
  hk : kept2 g w0.heap.size w0 W
  ho : own 225 b W v ms

end Go.Proofs.YtpinkbodbedajaaGreatDoor

namespace Go.Proofs.YtpinkbodbedajaaGreatDoor
open Go.RowKit

theorem ownP.keepBlk {T base : Nat} {w w' : World} {v : Value} {x : Pln} (h : ownP T base w v x) (hk : ∀ k, planBlk v k → w'.heap[k]? = w.heap[k]?) : ownP T base w' v x := by
  obtain ⟨vo, rfl, h2, h3, h4⟩ := h
  exact ⟨vo, rfl, h2, h3, h4.keepBlk fun k hk' => hk k ⟨_, _, _, rfl, hk'⟩⟩


end Go.Proofs.YtpinkbodbedajaaGreatDoor

namespace Go.Proofs.YtpinkbodbedajaaGreatDoor
open Go.RowKit

end Go.Proofs.YtpinkbodbedajaaGreatDoor

namespace Go.Proofs.YtpinkbodbedajaaGreatDoor
open Go.RowKit

end Go.Proofs.YtpinkbodbedajaaGreatDoor

namespace Go.Proofs.YtpinkbodbedajaaGreatDoor
open Go.RowKit

/-! ### Plain facts -/
set_option maxHeartbeats 400000 in
theorem so_decimal (n : Nat) (w : World) (hn : n ≤ 9999) :
    Calls Tryz.prog 15 #[.int .i64 n] w fun e w' => e = .returned (.string (decB n)) ∧ Below w.heap.size w w' := by
  have hbs := byteString
  have hL : Hid ((decB n).data.toList = decL n) := rfl
  have hz := (dec10_size (n := n) hn).1
  have HZ : Hid ((decL n).length ≤ 4) := by
    show _ ≤ _
    have h1 : (decB n).data.toList.length = (decB n).size := by simp
    rw [hL.out] at h1
    omega
  go_enter Tryz.func15, Tryz.ntmps15
  go_wp2_with fail
  go_loopw [0, 3] (fun t s wr => ∃ (m : Nat) (u : ByteArray), m ≤ n ∧ t = .int .i64 m ∧ s = .string u ∧ u.size ≤ 4 ∧ Hid (decL n = decL m ++ u.data.toList) ∧ Below w.heap.size w wr) (fun t _ _ => (intOf t).toNat)
  case atStart => exact ⟨n, _, Nat.le_refl _, rfl, rfl, Nat.zero_le _, by show _ = _; simp, Below.refl _ _⟩
  case round =>
    obtain ⟨m, u, hm, rfl, rfl, hu, HD, hbl⟩ := hrel
    obtain ⟨w1, rfl⟩ : ∃ w1 : World, w1 = wr := ⟨_, rfl⟩
    by_cases h9 : 9 < m
    · have HN : Hid (decL n = decL (m / 10) ++ ((⟨#[b8 (48 + (m : Int) % 10)]⟩ : ByteArray) ++ u).data.toList) := by
        show _ = _
        rw [HD.out, ba_append]
        show _ = decL (m / 10) ++ ([b8 (48 + (m : Int) % 10)] ++ _)
        unfold decL
        rw [if_neg (by omega), if_neg (by omega), dec10_step (n := m) (by omega), List.append_assoc]
        unfold b8
        rw [show (48 + (m : Int) % 10).toNat = 48 + m % 10 by omega]
      have hu4 : ((⟨#[b8 (48 + (m : Int) % 10)]⟩ : ByteArray) ++ u).size ≤ 4 := by
        have h1 := HZ.out
        rw [HN.out, List.length_append] at h1
        have h2 : ((⟨#[b8 (48 + (m : Int) % 10)]⟩ : ByteArray) ++ u).data.toList.length = ((⟨#[b8 (48 + (m : Int) % 10)]⟩ : ByteArray) ++ u).size := rfl
        omega
      have HU4 := Lib.hid hu4; clear hu4
      have hm10 : ((m / 10 : Nat) : Int) ≠ 0 := by omega
      have hq : (((m : Int) / 10) == 0) = false := beq_eq_false_iff_ne.2 (by omega)
      clear HD
      go_wp2_with fail
      go_roundw
      case rel => exact ⟨m / 10, _, by omega, by go_num, rfl, HU4.out, HN.out, hbl.alloc hbl.size _⟩
      case measure => simp [intOf]; omega
    · have hq : (((m : Int) / 10) == 0) = true := by simp; omega
      have HN : Hid (decL n = ((⟨#[b8 (48 + (m : Int) % 10)]⟩ : ByteArray) ++ u).data.toList) := by
        show _ = _
        rw [HD.out, ba_append]
        show _ = [b8 (48 + (m : Int) % 10)] ++ _
        congr 1
        unfold decL
        split
        · rename_i h0; subst h0; rfl
        · rw [dec10_small (by omega) (by omega), show (48 + (m : Int) % 10) = 48 + (m : Int) by omega]
      clear HD
      go_wp2_with fail
      go_ret
      exact ⟨ret_str (ba_ext HN.out.symm), hbl.alloc hbl.size _⟩

/-! ### The script -/
end Go.Proofs.YtpinkbodbedajaaGreatDoor

namespace Go.Proofs.YtpinkbodbedajaaGreatDoor
open Go.RowKit Go.ChangeShapes Go.WideShapes

end Go.Proofs.YtpinkbodbedajaaGreatDoor
