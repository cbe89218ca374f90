/- How long sums, products .. are. -/
import Derived.Test.YtmclabehpfpnnaaDoorM3
import Derived.Test.YtmclabehpfpnnaaDoorW5
set_option linter.unusedSimpArgs false
set_option linter.unusedVariables false
namespace Go.Proofs.Pv

theorem len_add (a b : Nat) : (limbs (a + b)).length ≤ (limbs a).length + (limbs b).length + 1 := by
  refine limbs_len_le ?_
  have h1 := val_lt (limbs_lt a)
  have h2 := val_lt (limbs_lt b)
  rw [val_limbs] at h1 h2
  have h3 := Nat.pow_le_pow_right (n := 4294967296) (by omega) (show (limbs a).length ≤ (limbs a).length + (limbs b).length by omega)
  have h4 := Nat.pow_le_pow_right (n := 4294967296) (by omega) (show (limbs b).length ≤ (limbs a).length + (limbs b).length by omega)
  rw [Nat.pow_succ]
  omega
theorem len_mul (a b : Nat) : (limbs (a * b)).length ≤ (limbs a).length + (limbs b).length := by
  refine limbs_len_le ?_
  have h1 := val_lt (limbs_lt a)
  have h2 := val_lt (limbs_lt b)
  rw [val_limbs] at h1 h2
  rw [Nat.pow_add]
  exact Nat.mul_lt_mul'' h1 h2
theorem len_pow2 {k : Nat} (hk : k ≤ 4096) : (limbs (2 ^ k)).length ≤ 129 := by
  have h : ∀ N, k < N → 2 ^ k < 2 ^ N := fun N h => Nat.pow_lt_pow_right (by decide) h
  refine limbs_len_le ?_
  obtain ⟨N, hN⟩ : ∃ N, 32 * 129 = N := ⟨_, rfl⟩
  rw [pow_limb, hN]
  exact h _ (by omega)
theorem len_shift (v : Nat) (n : Int) : (limbs (shiftV v n)).length ≤ (limbs v).length + 129 := by
  unfold shiftV
  split
  · exact Nat.le_trans (limbs_len_mono (Nat.div_le_self _ _)) (by omega)
  · have h3 := len_mul v (2 ^ (min n 4096).toNat)
    have h2 := len_pow2 (k := (min n 4096).toNat) (by omega)
    omega
theorem len_div (a b : Nat) : (limbs (a / b)).length ≤ (limbs a).length := limbs_len_mono (Nat.div_le_self _ _)
theorem len_sub (a b : Nat) : (limbs (a - b)).length ≤ (limbs a).length := limbs_len_mono (Nat.sub_le _ _)
theorem len_rem (a b : Nat) : (limbs (if b = 0 then 0 else a % b)).length ≤ (limbs a).length := limbs_len_mono (by split <;> first | omega | exact Nat.mod_le _ _)

end Go.Proofs.Pv
