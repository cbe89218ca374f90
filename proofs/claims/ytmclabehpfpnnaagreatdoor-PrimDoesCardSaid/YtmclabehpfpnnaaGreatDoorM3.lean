/- Single bits of rows. -/
import Derived.Test.YtmclabehpfpnnaaGreatDoorB2
set_option linter.unusedSimpArgs false
set_option linter.unusedVariables false
namespace Go.Proofs.Pv

theorem pow_limb (k : Nat) : 4294967296 ^ k = 2 ^ (32 * k) := by rw [show (4294967296 : Nat) = 2 ^ 32 from rfl, ← Nat.pow_mul]
theorem pow_bit (i : Nat) : 4294967296 ^ (i / 32) * 2 ^ (i % 32) = 2 ^ i := by rw [pow_limb, ← Nat.pow_add, Nat.div_add_mod]

theorem testBit_limb {a k : Nat} (X : Nat) (ha : a < 4294967296) (hk : k < 32) : (a + 4294967296 * X).testBit k = a.testBit k := by
  have := Nat.testBit_two_pow_mul_add (i := 32) X (b := a) ha k
  rw [if_pos hk] at this
  rw [Nat.add_comm]
  exact this

theorem testBit_val {l : List Nat} (hl : ∀ x ∈ l, x < 4294967296) (i : Nat) : (l.getD (i / 32) 0).testBit (i % 32) = (val l).testBit i := by
  have h1 := val_div hl (i / 32)
  rw [pow_limb, val_drop] at h1
  have h2 : (val l / 2 ^ (32 * (i / 32))).testBit (i % 32) = (val l).testBit (32 * (i / 32) + i % 32) := by rw [Nat.testBit_div_two_pow, Nat.add_comm]
  rw [h1, testBit_limb _ (getD_lt hl _) (by omega), Nat.div_add_mod] at h2
  exact h2

theorem or_bit {a k : Nat} (h : a.testBit k = false) : a ||| 2 ^ k = a + 2 ^ k := by
  have h1 : a / 2 ^ k % 2 = 0 := by
    rw [Nat.testBit_eq_decide_div_mod_eq] at h
    simp at h
    omega
  have hr : a % 2 ^ k < 2 ^ k := Nat.mod_lt _ (Nat.two_pow_pos k)
  have e1 : a = 2 ^ k * (a / 2 ^ k) + a % 2 ^ k := (Nat.div_add_mod a (2 ^ k)).symm
  have e2 : a / 2 ^ k ||| 1 = a / 2 ^ k + 1 := by
    have := Nat.two_pow_add_eq_or_of_lt (i := 1) (b := 1) (by omega) (a / 2 ^ k / 2)
    rw [show 2 ^ 1 * (a / 2 ^ k / 2) = a / 2 ^ k by omega] at this
    omega
  have e3 : a ||| 2 ^ k = 2 ^ k * (a / 2 ^ k ||| 1) ||| a % 2 ^ k := by
    apply Nat.eq_of_testBit_eq
    intro j
    conv => lhs; rw [e1, Nat.two_pow_add_eq_or_of_lt hr]
    simp only [Nat.testBit_or, Nat.testBit_two_pow_mul, Nat.testBit_two_pow]
    by_cases hj : k ≤ j
    · simp only [hj, decide_true, Bool.true_and]
      by_cases hk : k = j
      · subst hk; simp
      · have : (1 : Nat).testBit (j - k) = false := by
          rw [show (1 : Nat) = 2 ^ 0 from rfl, Nat.testBit_two_pow]
          simp; omega
        simp [hk, this]
    · have hk : ¬ k = j := by omega
      simp [hj, hk]
  rw [e3, e2, ← Nat.two_pow_add_eq_or_of_lt hr, Nat.mul_add, Nat.mul_one]
  omega

/-- One bit of a row is set that was not. -/
theorem set_bit {row : List Nat} (hl : ∀ x ∈ row, x < 4294967296) {i : Nat} (h : i / 32 < row.length) (hb : (val row).testBit i = false) :
    val (row.set (i / 32) (row.getD (i / 32) 0 ||| 2 ^ (i % 32))) = val row + 2 ^ i ∧ row.getD (i / 32) 0 ||| 2 ^ (i % 32) < 4294967296 := by
  rw [← testBit_val hl] at hb
  have e := val_set (v := row.getD (i / 32) 0 ||| 2 ^ (i % 32)) h
  have e2 := or_bit hb
  have e3 := pow_bit i
  have hlt : row.getD (i / 32) 0 ||| 2 ^ (i % 32) < 4294967296 := Nat.or_lt_two_pow (n := 32) (getD_lt hl _) (Nat.pow_lt_pow_right (a := 2) (n := 32) (by omega) (by omega))
  refine ⟨?_, hlt⟩
  rw [e2, Nat.mul_add, e3] at e
  rw [e2]
  omega

theorem bit_out {n i : Nat} (h : n < 2 ^ i) : n.testBit i = false := Nat.testBit_lt_two_pow h
theorem bit_even {n i : Nat} (h : n % 2 ^ (i + 1) = 0) : n.testBit i = false := by
  rw [Nat.testBit_eq_decide_div_mod_eq]
  have := Nat.mod_pow_succ (x := n) (b := 2) (k := i)
  have h2 := Nat.two_pow_pos i
  simp
  rcases Nat.mod_two_eq_zero_or_one (n / 2 ^ i) with h3 | h3
  · exact h3
  · rw [h3] at this; omega

/-- The lowest i + 1 bits. -/
theorem bit_sum (n i : Nat) : n % 2 ^ (i + 1) = n % 2 ^ i + (if n.testBit i = true then 2 ^ i else 0) := by
  rw [Nat.mod_pow_succ, Nat.testBit_eq_decide_div_mod_eq]
  rcases Nat.mod_two_eq_zero_or_one (n / 2 ^ i) with h | h <;> simp [h]

/-- What is above a bit, and the bit. -/
theorem bit_up (n i : Nat) : n / 2 ^ i = 2 * (n / 2 ^ (i + 1)) + (if n.testBit i = true then 1 else 0) := by
  have e : n / 2 ^ (i + 1) = n / 2 ^ i / 2 := by rw [Nat.pow_succ, Nat.div_div_eq_div_mul]
  rw [e, Nat.testBit_eq_decide_div_mod_eq]
  generalize n / 2 ^ i = q
  rcases Nat.mod_two_eq_zero_or_one q with h | h
  · rw [h, if_neg (by simp)]; omega
  · rw [h, if_pos (by simp)]; omega

theorem blen_half {n : Nat} (h : n ≠ 0) : blen n = blen (n / 2) + 1 := by
  rcases Nat.lt_or_ge n 2 with h1 | h1
  · have : n = 1 := by omega
    subst this; rfl
  · have := blen_shift (n := n) (k := 1) (by simpa using h1)
    simpa using this

/-- One step of a division by bits. -/
theorem divbit_step {A b q r x : Nat} (hq : q = A / b) (hr : r = A % b) (hx : x ≤ 1) (hb : 0 < b) :
    (if b ≤ 2 * r + x then 2 * q + 1 else 2 * q) = (2 * A + x) / b ∧ (if b ≤ 2 * r + x then 2 * r + x - b else 2 * r + x) = (2 * A + x) % b := by
  have e := Nat.div_add_mod A b
  have hlt := Nat.mod_lt A hb
  rw [← hq, ← hr] at e
  rw [← hr] at hlt
  have e2 : 2 * A + x = b * (2 * q) + (2 * r + x) := by rw [← e, Nat.mul_add, ← Nat.mul_assoc, ← Nat.mul_assoc, Nat.mul_comm 2 b]; omega
  by_cases h : b ≤ 2 * r + x
  · rw [if_pos h, if_pos h]
    have e3 : 2 * A + x = b * (2 * q + 1) + (2 * r + x - b) := by rw [Nat.mul_add, Nat.mul_one]; omega
    rw [e3, Nat.mul_add_div hb, Nat.mul_add_mod, Nat.div_eq_of_lt (by omega), Nat.mod_eq_of_lt (by omega)]
    simp
  · rw [if_neg h, if_neg h, e2, Nat.mul_add_div hb, Nat.mul_add_mod, Nat.div_eq_of_lt (by omega), Nat.mod_eq_of_lt (by omega)]
    simp
end Go.Proofs.Pv
