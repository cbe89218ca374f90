/- The document's answer's walks, seventh part. -/
import Derived.Test.YtmclabehpfpnnaaDoorR6
set_option linter.unusedSimpArgs false
set_option linter.unusedVariables false
namespace Go.Proofs.Pv
open Go Go.RowKit Go.Proofs
set_option maxRecDepth 20000

theorem shift_bit (v : Nat) {N : Int} (h1 : -4096 ≤ N) (h2 : N ≤ 4096) (i : Nat) : (shiftV v N).testBit i = (decide ((0 : Int) ≤ (i : Int) - N) && v.testBit ((i : Int) - N).toNat) := by
  unfold shiftV
  by_cases h : N < 0
  · rw [if_pos h, Nat.testBit_div_two_pow, decide_eq_true (by omega), Bool.true_and]
    congr 1; omega
  · rw [if_neg h, Nat.mul_comm, Nat.testBit_two_pow_mul]
    by_cases h3 : (0 : Int) ≤ (i : Int) - N
    · rw [decide_eq_true h3, decide_eq_true (by omega)]
      congr 2; omega
    · rw [decide_eq_false h3, decide_eq_false (by omega)]; rfl
theorem shift_clamp (v : Nat) (n : Int) : shiftV v (if n > 4096 then 4096 else if n < -4096 then -4096 else n) = shiftV v n := by
  unfold shiftV
  by_cases h : n > 4096
  · rw [if_pos h, if_neg (by omega), if_neg (by omega)]; congr 2; omega
  · rw [if_neg h]
    by_cases h2 : n < -4096
    · rw [if_pos h2, if_pos (by omega), if_pos (by omega)]; congr 2; omega
    · rw [if_neg h2]
theorem shift_small {v : Nat} {N : Int} (h1 : -4096 ≤ N) (h2 : N ≤ 4096) {k : Nat} (hk : (blen v : Int) + N ≤ (k : Int)) : shiftV v N < 2 ^ k := by
  have hb := blen_lt v
  unfold shiftV
  by_cases h : N < 0
  · rw [if_pos h, Nat.div_lt_iff_lt_mul (Nat.two_pow_pos _), ← Nat.pow_add]
    exact Nat.lt_of_lt_of_le hb (Nat.pow_le_pow_right (by omega) (by omega))
  · rw [if_neg h]
    refine Nat.lt_of_lt_of_le (Nat.mul_lt_mul_of_pos_right hb (Nat.two_pow_pos _)) ?_
    rw [← Nat.pow_add]
    exact Nat.pow_le_pow_right (by omega) (by omega)
theorem shift_zero {v : Nat} {N : Int} (h1 : -4096 ≤ N) (h2 : N ≤ 4096) (h : (blen v : Int) + N ≤ 0 ∨ blen v = 0) : shiftV v N = 0 := by
  rcases h with h | h
  · have := shift_small h1 h2 (k := 0) h
    omega
  · have := blen_lt v
    rw [h] at this
    have h0 : v = 0 := by omega
    subst h0
    unfold shiftV
    split <;> simp
theorem blen_len {l : List Nat} (hl : ∀ z ∈ l, z < 4294967296) : blen (val l) ≤ 32 * l.length := by
  have := val_lt hl
  rw [pow_limb] at this
  exact blen_le this

theorem or_shl {a k : Nat} (ha : a < 4294967296) (hk : k < 32) : bitV .or .u32 (a : Int) (IntKind.u32.wrap (1 * 2 ^ k)) = ((a ||| 2 ^ k : Nat) : Int) := by
  have e3 : 2 ^ k < 4294967296 := Nat.pow_lt_pow_right (a := 2) (n := 32) (by omega) (by omega)
  rw [show (1 : Int) * 2 ^ k = ((2 ^ k : Nat) : Int) by simp]
  generalize 2 ^ k = p at *
  rw [IntWalk.u32_in _ (by omega)]
  exact or32 ha e3

def RrShift (F : St → Nat → (AV → St → Prop) → Prop) (xs : List AV) (st : St) (K : AV → St → Prop) : Prop := ∃ x l n, xs = [x, .val (.int .i64 n)] ∧ Nm st x l ∧ l.length ≤ 100000 ∧ -9223372036854775808 ≤ n ∧ n ≤ 9223372036854775807 ∧ F st (shiftV (val l) n) K
end Go.Proofs.Pv
