/- Bits of numbers of 32 and of 64. -/
import Derived.Test.YtmclabehpfpnnaaGreatDoorE3
import Derived.IntWalk
import Derived.Test.YtmclabehpfpnnaaGreatDoorM2
set_option linter.unusedSimpArgs false
set_option linter.unusedVariables false
namespace Go.Proofs.Pv
open Go Go.RowKit

theorem ofInt_nat (w n : Nat) : BitVec.ofInt w (n : Int) = BitVec.ofNat w n := by
  apply BitVec.eq_of_toInt_eq
  simp

section
variable {a b : Nat}
theorem and32 (ha : a < 4294967296) (hb : b < 4294967296) : bitV .and .u32 (a : Int) (b : Int) = ((a &&& b : Nat) : Int) := by
  have h : a &&& b < 4294967296 := Nat.and_lt_two_pow (n := 32) a hb
  unfold bitV
  dsimp only
  rw [ofInt_nat, ofInt_nat, BitVec.toNat_and, BitVec.toNat_ofNat, BitVec.toNat_ofNat, show IntKind.u32.bits = 32 from rfl, Nat.mod_eq_of_lt ha, Nat.mod_eq_of_lt hb]
  exact IntWalk.u32_in _ (by omega)
theorem or32 (ha : a < 4294967296) (hb : b < 4294967296) : bitV .or .u32 (a : Int) (b : Int) = ((a ||| b : Nat) : Int) := by
  have h : a ||| b < 4294967296 := Nat.or_lt_two_pow (n := 32) ha hb
  unfold bitV
  dsimp only
  rw [ofInt_nat, ofInt_nat, BitVec.toNat_or, BitVec.toNat_ofNat, BitVec.toNat_ofNat, show IntKind.u32.bits = 32 from rfl, Nat.mod_eq_of_lt ha, Nat.mod_eq_of_lt hb]
  exact IntWalk.u32_in _ (by omega)
theorem xor32 (ha : a < 4294967296) (hb : b < 4294967296) : bitV .xor .u32 (a : Int) (b : Int) = ((a ^^^ b : Nat) : Int) := by
  have h : a ^^^ b < 4294967296 := Nat.xor_lt_two_pow (n := 32) ha hb
  unfold bitV
  dsimp only
  rw [ofInt_nat, ofInt_nat, BitVec.toNat_xor, BitVec.toNat_ofNat, BitVec.toNat_ofNat, show IntKind.u32.bits = 32 from rfl, Nat.mod_eq_of_lt ha, Nat.mod_eq_of_lt hb]
  exact IntWalk.u32_in _ (by omega)
theorem or64 (ha : a < 18446744073709551616) (hb : b < 18446744073709551616) : bitV .or .u64 (a : Int) (b : Int) = ((a ||| b : Nat) : Int) := by
  have h : a ||| b < 18446744073709551616 := Nat.or_lt_two_pow (n := 64) ha hb
  unfold bitV
  dsimp only
  rw [ofInt_nat, ofInt_nat, BitVec.toNat_or, BitVec.toNat_ofNat, BitVec.toNat_ofNat, show IntKind.u64.bits = 64 from rfl, Nat.mod_eq_of_lt ha, Nat.mod_eq_of_lt hb]
  exact IntWalk.u64_in _ (by omega)
theorem compl32 (ha : a < 4294967296) : bitV .xor .u32 (if IntKind.u32.signed = true then -1 else IntKind.u32.max) (a : Int) = ((4294967295 ^^^ a : Nat) : Int) := by
  rw [show (if IntKind.u32.signed = true then -1 else IntKind.u32.max) = ((4294967295 : Nat) : Int) from rfl]
  exact xor32 (by omega) ha

theorem bit31 (ha : a < 4294967296) : a.testBit 31 = decide (2147483648 ≤ a) := by
  rw [Nat.testBit_eq_decide_div_mod_eq]
  by_cases h : 2147483648 ≤ a
  · simp [h]; omega
  · simp [h]; omega

/-- The borrow's bit. -/
theorem borrow32 {c d : Nat} (ha : a < 4294967296) (hb : b < 4294967296) (hc : c ≤ 1) (hd : d = (a + 4294967296 - b - c) % 4294967296) :
    ((4294967295 ^^^ a) &&& b ||| (4294967295 ^^^ (a ^^^ b)) &&& d) / 2147483648 = if a < b + c then 1 else 0 := by
  have hd2 : d < 4294967296 := by omega
  have h1 : 4294967295 ^^^ a < 4294967296 := Nat.xor_lt_two_pow (n := 32) (by omega) ha
  have h2 : a ^^^ b < 4294967296 := Nat.xor_lt_two_pow (n := 32) ha hb
  have h3 : 4294967295 ^^^ (a ^^^ b) < 4294967296 := Nat.xor_lt_two_pow (n := 32) (by omega) h2
  have h4 : (4294967295 ^^^ a) &&& b < 4294967296 := Nat.and_lt_two_pow (n := 32) _ hb
  have h5 : (4294967295 ^^^ (a ^^^ b)) &&& d < 4294967296 := Nat.and_lt_two_pow (n := 32) _ hd2
  have h6 : (4294967295 ^^^ a) &&& b ||| (4294967295 ^^^ (a ^^^ b)) &&& d < 4294967296 := Nat.or_lt_two_pow (n := 32) h4 h5
  generalize he : (4294967295 ^^^ a) &&& b ||| (4294967295 ^^^ (a ^^^ b)) &&& d = e at h6 ⊢
  have hbit : e.testBit 31 = ((!decide (2147483648 ≤ a)) && decide (2147483648 ≤ b) || ((!(decide (2147483648 ≤ a) ^^ decide (2147483648 ≤ b))) && decide (2147483648 ≤ d))) := by
    rw [← he]
    simp only [Nat.testBit_or, Nat.testBit_and, Nat.testBit_xor]
    rw [bit31 ha, bit31 hb, bit31 hd2, show (4294967295 : Nat).testBit 31 = true from rfl]
    simp
  rw [bit31 h6] at hbit
  by_cases q1 : 2147483648 ≤ a <;> by_cases q2 : 2147483648 ≤ b <;> by_cases q3 : 2147483648 ≤ d <;> by_cases q4 : 2147483648 ≤ e <;> simp [q1, q2, q3, q4] at hbit <;> split <;> omega

theorem or_add {a b : Nat} (hb : b < 4294967296) : a * 4294967296 ||| b = a * 4294967296 + b := by
  rw [Nat.mul_comm]; exact (Nat.two_pow_add_eq_or_of_lt (i := 32) hb a).symm
theorem or64_hi (ha : a < 4294967296) (hb : b < 4294967296) : bitV .or .u64 (a : Int) ((b : Int) * 4294967296) = ((a + b * 4294967296 : Nat) : Int) := by
  rw [show (b : Int) * 4294967296 = ((b * 4294967296 : Nat) : Int) by omega, or64 (by omega) (by omega), Nat.or_comm, or_add ha, Nat.add_comm]
theorem or64_lo (ha : a < 4294967296) (hb : b < 4294967296) : bitV .or .u64 ((a : Int) * 4294967296) (b : Int) = ((a * 4294967296 + b : Nat) : Int) := by
  rw [show (a : Int) * 4294967296 = ((a * 4294967296 : Nat) : Int) by omega, or64 (by omega) (by omega), or_add hb]

/-- How many bits. -/
def blen (n : Nat) : Nat := if n = 0 then 0 else n.log2 + 1
theorem blen_lt (n : Nat) : n < 2 ^ blen n := by
  unfold blen
  split
  · omega
  · exact Nat.lt_log2_self
theorem blen_ge {n : Nat} (h : n ≠ 0) : 2 ^ (blen n - 1) ≤ n := by
  unfold blen
  rw [if_neg h, Nat.add_sub_cancel]
  exact Nat.log2_self_le h
theorem blen_le {n k : Nat} (h : n < 2 ^ k) : blen n ≤ k := by
  by_cases h0 : n = 0
  · subst h0; simp [blen]
  · have h1 := blen_ge h0
    rcases Nat.lt_or_ge k (blen n) with h2 | h2
    · have := Nat.pow_le_pow_right (n := 2) (by omega) (show k ≤ blen n - 1 by omega); omega
    · exact h2
theorem blen_eq {n k : Nat} (h1 : n < 2 ^ k) (h2 : 2 ^ (k - 1) ≤ n) (hk : k ≠ 0) : blen n = k := by
  have h3 := blen_le h1
  rcases Nat.lt_or_ge (blen n) k with h4 | h4
  · have := Nat.pow_le_pow_right (n := 2) (by omega) (show blen n ≤ k - 1 by omega)
    have := blen_lt n
    omega
  · omega
theorem blen_zero : blen 0 = 0 := rfl
theorem blen_pos {n : Nat} (h : n ≠ 0) : 0 < blen n := by unfold blen; rw [if_neg h]; omega
theorem blen_shift {n k : Nat} (h : 2 ^ k ≤ n) : blen n = blen (n / 2 ^ k) + k := by
  have h0 : n ≠ 0 := by have := Nat.two_pow_pos k; omega
  have hq : n / 2 ^ k ≠ 0 := by have := Nat.div_pos h (Nat.two_pow_pos k); omega
  have h1 := blen_lt (n / 2 ^ k)
  have h2 := blen_ge hq
  have hp := blen_pos hq
  refine blen_eq ?_ ?_ (by omega)
  · rw [Nat.pow_add]; exact (Nat.div_lt_iff_lt_mul (Nat.two_pow_pos k)).1 h1
  · rw [show blen (n / 2 ^ k) + k - 1 = blen (n / 2 ^ k) - 1 + k by omega, Nat.pow_add]
    exact (Nat.le_div_iff_mul_le (Nat.two_pow_pos k)).1 h2

theorem tab_get {T : List Nat} (hT : (List.range 256).all (fun i => T.getD i 0 == blen i) = true) {i : Nat} (hi : i < 256) : T.getD i 0 = blen i := by
  simpa using List.all_eq_true.1 hT i (List.mem_range.2 hi)
end
end Go.Proofs.Pv

/- Bits of rows. -/
namespace Go.Proofs.Pv

theorem blen_limbs (n : Nat) : blen n = if (limbs n).length = 0 then 0 else 32 * ((limbs n).length - 1) + blen ((limbs n).getD ((limbs n).length - 1) 0) := by
  induction n using Nat.strongRecOn with
  | _ n ih =>
    by_cases h : n = 0
    · subst h; rw [limbs_zero]; rfl
    · rw [limbs_pos h]
      simp only [List.length_cons, Nat.add_sub_cancel]
      rw [if_neg (by omega)]
      by_cases h2 : n / 4294967296 = 0
      · rw [h2, limbs_zero]
        simp only [List.length_nil, Nat.mul_zero, Nat.zero_add]
        rw [show n % 4294967296 = n by omega]
        rfl
      · have h3 := ih (n / 4294967296) (by omega)
        rw [blen_shift (show 2 ^ 32 ≤ n by omega), show (2 : Nat) ^ 32 = 4294967296 from rfl, h3]
        have h4 : (limbs (n / 4294967296)).length = (limbs (n / 4294967296)).length - 1 + 1 := by rw [limbs_pos h2]; simp
        rw [if_neg (by omega)]
        have h5 : (n % 4294967296 :: limbs (n / 4294967296)).getD (limbs (n / 4294967296)).length 0 = (limbs (n / 4294967296)).getD ((limbs (n / 4294967296)).length - 1) 0 := by
          conv => lhs; rw [h4]
          rfl
        rw [h5]
        omega
end Go.Proofs.Pv
