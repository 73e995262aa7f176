/- E4 FL -/
import Derived.Test.YtffbcfaahegglaaGreatDoorQ3
import Derived.Laws.StructEq
import Derived.Deep.QuietTactic
import Derived.BigQuiet
import Derived.Test.YtffbcfaahegglaaGreatDoorQ9
import Derived.Test.YtffbcfaahegglaaGreatDoorQ6
namespace Go.Proofs.YtffbcfaahegglaaGreatDoor
open Go.RowKit

theorem ltr_equalIn (a c : Int) (b d : ByteArray) (w : World) : (Op.equalIn 10000 61 (.agg #[.int .i64 a, .string b]) (.agg #[.int .i64 c, .string d])).run Tryz.prog w = .ok (ltrEq ⟨a, b⟩ ⟨c, d⟩) w := by
  have u3 := Tryz.underlying3
  have a3 := Tryz.isAgg3
  have z3 := Tryz.sizeOf3
  have u9 := Tryz.underlying9
  have a9 := Tryz.isAgg9
  have z9 := Tryz.sizeOf9
  have hS : Tryz.prog.underlying 61 = some (.struct (Tryz.prog.fieldsOf 61)) := by kernel_rfl
  rw [show (10000 : Nat) = 9999 + 1 from rfl, run_equalIn_agg w 9999 61 _ _ hS (by kernel_rfl)]
  simp only [Program.fieldsOf, Tryz.underlying61]
  go_simp
  unfold ltrEq sEq
  by_cases h1 : a = c <;> by_cases h2 : b.toList = d.toList <;> simp [h1, h2]
theorem ltr_neq (a c : Int) (b d : ByteArray) (w : World) : (binOp .neq 61 (.agg #[.int .i64 a, .string b]) (.agg #[.int .i64 c, .string d])).run Tryz.prog w = .ok (.bool (!ltrEq ⟨a, b⟩ ⟨c, d⟩)) w := by
  rw [run_neq_struct, ltr_equalIn]; rfl
theorem ltr_eql (a c : Int) (b d : ByteArray) (w : World) : (binOp .eql 61 (.agg #[.int .i64 a, .string b]) (.agg #[.int .i64 c, .string d])).run Tryz.prog w = .ok (.bool (ltrEq ⟨a, b⟩ ⟨c, d⟩)) w := by
  rw [run_eql_struct, ltr_equalIn]; rfl
theorem ltr_guard (op : BinOp) (x y : Operand) (xs ys : Array Value) (w : World) : (eqGuard op 61 x y (.agg xs) (.agg ys)).run Tryz.prog w = .ok () w := run_eqGuard_agg w op _ x y xs ys (by kernel_rfl)

set_option maxHeartbeats 400000 in
theorem laws_soBatch (v v' : Value) (xs ys : List Ltr) (w : World) (hv : rd w w.heap.size v xs) (hv' : rd w w.heap.size v' ys) :
    Calls Tryz.prog 30 #[v, v'] w fun e w' => e = .returned (.bool (eqBy ltrEq xs ys)) ∧ Below w.heap.size w w' := by
  obtain ⟨A, n, c, rfl, hn, hc, hm, hr⟩ := hv
  obtain ⟨A', n', c', rfl, hn', hc', hm', hr'⟩ := hv'
  subst hn hn'
  unfold maxLen at hm hm'
  have HR := Lib.hid hr; clear hr
  have HR' := Lib.hid hr'; clear hr'
  go_enter Tryz.func30, Tryz.ntmps30
  by_cases hl : xs.length = ys.length
  · have hl1 : ((xs.length : Int) != (ys.length : Int)) = false := by simp [hl]
    have HL := Lib.hid hl; clear hl
    go_wp2
    go_loopw [5] (fun i wr => ∃ k : Nat, k ≤ xs.length ∧ i = .int .i64 k ∧ Below w.heap.size w wr ∧ Hid (∀ j (h1 : j < xs.length) (h2 : j < ys.length), j < k → ltrEq xs[j] ys[j] = true)) (fun i _ => xs.length - (intOf i).toNat)
    case atStart => exact ⟨0, Nat.zero_le _, rfl, Below.refl _ _, fun j _ _ hj => absurd hj (Nat.not_lt_zero j)⟩
    case round =>
      obtain ⟨k, hk, rfl, hbl, HG⟩ := hrel
      obtain ⟨w1, rfl⟩ : ∃ w1 : World, w1 = wr := ⟨_, rfl⟩
      by_cases hlt : k < xs.length
      · have hlt' : k < ys.length := by rw [← HL.out]; exact hlt
        obtain ⟨b, o, rfl, hb, _, c1, c2⟩ := HR.out.ltr k hlt
        obtain ⟨b', o', rfl, hb', _, d1, d2⟩ := HR'.out.ltr k hlt'
        have hbad := Lib.hid (fun h => eqBy_bad (p := ltrEq) k hlt hlt' h)
        have HX : Hid (∀ h : ltrEq xs[k] ys[k] = true, ∀ j (h1 : j < xs.length) (h2 : j < ys.length), j < k + 1 → ltrEq xs[j] ys[j] = true) := fun h j h1 h2 hj => by
          by_cases hjk : j < k
          · exact HG.out j h1 h2 hjk
          · obtain rfl : j = k := by omega
            exact h
        generalize xs[k] = x at *
        generalize ys[k] = y at *
        have c1' : w1.cell? ⟨b, o + k * 2, none⟩ = some (.int .i64 x.id) := (hbl.cell (p := ⟨b, o + k * 2, none⟩) hb).trans c1
        have c2' : w1.cell? ⟨b, o + k * 2 + 1, none⟩ = some (.string x.code) := (hbl.cell (p := ⟨b, o + k * 2 + 1, none⟩) hb).trans c2
        have d1' : w1.cell? ⟨b', o' + k * 2, none⟩ = some (.int .i64 y.id) := (hbl.cell (p := ⟨b', o' + k * 2, none⟩) hb').trans d1
        have d2' : w1.cell? ⟨b', o' + k * 2 + 1, none⟩ = some (.string y.code) := (hbl.cell (p := ⟨b', o' + k * 2 + 1, none⟩) hb').trans d2
        clear c1 c2 d1 d2
        have hki : (k : Int) < (xs.length : Int) := by omega
        have hki' : (k : Int) < (ys.length : Int) := by omega
        have q1 := ltr_neq x.id y.id x.code y.code
        have q2 := ltr_guard
        cases he : ltrEq x y
        · have he' := Lib.hid he
          have he2 : ltrEq ⟨x.id, x.code⟩ ⟨y.id, y.code⟩ = false := he
          clear he
          go_wp2
          go_quiet (fail)
          go_wp2
          go_ret
          exact ⟨ret_bool (hbad.out he'.out).symm, below_drewN hbl _⟩
        · have he' := Lib.hid he
          have he2 : ltrEq ⟨x.id, x.code⟩ ⟨y.id, y.code⟩ = true := he
          clear he
          go_wp2
          go_quiet (fail)
          go_wp2
          go_roundw
          case rel => exact ⟨k + 1, by omega, by go_num, below_drewN hbl _, HX.out he'.out⟩
          case measure => simp [intOf]; omega
      · have HE := Lib.hid (show k = xs.length by omega)
        go_wp2
        go_ret
        exact ⟨ret_bool (eqBy_good HL.out fun j h1 h2 => HG.out j h1 h2 (by rw [HE.out]; exact h1)).symm, hbl⟩
  · have hl1 : ((xs.length : Int) != (ys.length : Int)) = true := by simp; omega
    have HL := Lib.hid hl; clear hl
    go_wp2
    go_ret
    exact ⟨ret_bool (eqBy_len HL.out).symm, Below.refl _ _⟩

end Go.Proofs.YtffbcfaahegglaaGreatDoor

namespace Go.Proofs.YtffbcfaahegglaaGreatDoor
open Go.RowKit

def findI (b : List Ltr) (n : Int) : Int := if okB b then fiI (fun x => x.id == n) b else -1
/-! ### FindLetter -/
end Go.Proofs.YtffbcfaahegglaaGreatDoor
