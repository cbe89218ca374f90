/- The whole functions' walks, sixth part: as a small number. -/
import Derived.Test.YtmclabehpfpnnaaDoorW15
import Derived.Test.YtmclabehpfpnnaaDoorM7
set_option linter.unusedSimpArgs false
set_option linter.unusedVariables false
namespace Go.Proofs.Pv
open Go Go.RowKit Go.Proofs
set_option maxRecDepth 20000

def smB (z : Int) : Bool := decide (-9223372036854775808 ≤ z ∧ z ≤ 9223372036854775807)
def smZ (z : Int) : Int := if -9223372036854775808 ≤ z ∧ z ≤ 9223372036854775807 then z else 0
theorem blen63 {v : Nat} : blen v ≤ 63 ↔ v < 9223372036854775808 := by
  constructor
  · intro h
    exact Nat.lt_of_lt_of_le (blen_lt v) (Nat.le_trans (Nat.pow_le_pow_right (by omega) h) (by decide))
  · intro h
    exact blen_le (k := 63) (by omega)
theorem sm_pos {z : Int} (h : ¬z < 0) : (((if blen z.natAbs ≤ 63 then z.natAbs else 0 : Nat) : Int)) = smZ z ∧ decide (blen z.natAbs ≤ 63) = smB z := by
  unfold smZ smB
  by_cases hb : blen z.natAbs ≤ 63
  · have := blen63.1 hb
    rw [if_pos hb, decide_eq_true hb, if_pos (by omega), decide_eq_true (by omega)]
    exact ⟨by omega, rfl⟩
  · have : ¬z.natAbs < 9223372036854775808 := fun h => hb (blen63.2 h)
    rw [if_neg hb, decide_eq_false hb, if_neg (by omega), decide_eq_false (by omega)]
    exact ⟨rfl, rfl⟩
theorem sm_neg {z : Int} (h : z < 0) (h2 : z ≠ -9223372036854775808) : IntKind.i64.wrap (0 - ((if blen z.natAbs ≤ 63 then z.natAbs else 0 : Nat) : Int)) = smZ z ∧ decide (blen z.natAbs ≤ 63) = smB z := by
  unfold smZ smB
  by_cases hb : blen z.natAbs ≤ 63
  · have := blen63.1 hb
    rw [if_pos hb, decide_eq_true hb, if_pos (by omega), decide_eq_true (by omega)]
    exact ⟨by rw [IntKind.wrap_i64]; omega, rfl⟩
  · have : ¬z.natAbs < 9223372036854775808 := fun h => hb (blen63.2 h)
    rw [if_neg hb, decide_eq_false hb, if_neg (by omega), decide_eq_false (by omega)]
    exact ⟨by decide, rfl⟩
theorem sm_min : smZ (-9223372036854775808) = -9223372036854775808 ∧ smB (-9223372036854775808) = true := by decide

def RwSmall (xs : List AV) (st : St) (K : AV → St → Prop) : Prop := ∃ x s l, xs = [x] ∧ Wh st x s l ∧ l.length ≤ 1000 ∧
  ∀ st', Ext st st' → K (.tup [.val (.int .i64 (smZ (iv s (val l)))), .val (.bool (smB (iv s (val l))))]) st'
end Go.Proofs.Pv
