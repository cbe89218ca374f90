/- The document's answer's walks, eighth part. -/
import Derived.Test.YtmclabehpfpnnaaDoorR7
import Derived.Test.YtmclabehpfpnnaaDoorM7
set_option linter.unusedSimpArgs false
set_option linter.unusedVariables false
namespace Go.Proofs.Pv
open Go Go.RowKit Go.Proofs
set_option maxRecDepth 20000

theorem shift_nat {n k : Nat} (h : k ≤ 4096) : shiftV n (k : Int) = n * 2 ^ k := by
  unfold shiftV
  rw [if_neg (by omega), show (min (k : Int) 4096).toNat = k by omega]
theorem shift_one (n : Nat) : shiftV n 1 = 2 * n := by
  have := shift_nat (n := n) (k := 1) (by omega)
  rw [Nat.pow_one, Nat.mul_comm] at this
  exact this
theorem shift_down {n k : Nat} (h : k ≤ 4096) : shiftV n (-(k : Int)) = n / 2 ^ k := by
  unfold shiftV
  by_cases h0 : k = 0
  · subst h0; rw [if_neg (by omega)]; simp [show (min (0 : Int) 4096).toNat = 0 from rfl]
  · rw [if_pos (by omega), show (min (-(-(k : Int))) 4096).toNat = k by omega]

theorem got_end {st st' T : St} {a : Option (List AV)} {x : AV} {v : Nat} (h : Got (st ++ [a]) T x v) (e : Ext T st') : Got st st' x v := Got.pre (.add _) (h.ext e)

def RrDiv (xs : List AV) (st : St) (K : AV → St → Prop) : Prop := ∃ x y l m, xs = [x, y] ∧ Nm st x l ∧ Nm st y m ∧ l.length ≤ 5000 ∧ m.length ≤ 5000 ∧
  ∀ q r st', Got st st' q (val l / val m) → Got st st' r (if val m = 0 then 0 else val l % val m) → K (.tup [q, r]) st'
def RrDivSmall (xs : List AV) (st : St) (K : AV → St → Prop) : Prop := ∃ x l d, xs = [x, .val (.int .u32 ((d : Nat) : Int))] ∧ Nm st x l ∧ l.length ≤ 5000 ∧ d < 4294967296 ∧
  ∀ q st', Got st st' q (val l / d) → K (.tup [q, .val (.int .u32 ((if d = 0 then 0 else val l % d : Nat) : Int))]) st'
end Go.Proofs.Pv
