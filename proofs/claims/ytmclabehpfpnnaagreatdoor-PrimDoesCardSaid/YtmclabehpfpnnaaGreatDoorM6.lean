/- How long sums, products .. are. -/
import Derived.Test.YtmclabehpfpnnaaGreatDoorM3
import Derived.Test.YtmclabehpfpnnaaGreatDoorW5
set_option linter.unusedSimpArgs false
set_option linter.unusedVariables false
namespace Go.Proofs.Pv

theorem len_add (a b : Nat) : (limbs (a + b)).length ≤ (limbs a).length + (limbs b).length + 1 := by
  refine limbs_len_le ?_
  have h1 := val_lt (limbs_lt a)
  have h2 := val_lt (limbs_lt b)
  rw [val_limbs] at h1 h2
  have h3 := Nat.pow_le_pow_right (n := 4294967296) (by omega) (show (limbs a).length ≤ (limbs a).length + (limbs b).length by omega)
  have h4 := Nat.pow_le_pow_right (n := 4294967296) (by omega) (show (limbs b).length ≤ (limbs a).length + (limbs b).length by omega)
  rw [Nat.pow_succ]
  omega
theorem len_mul (a b : Nat) : (limbs (a * b)).length ≤ (limbs a).length + (limbs b).length := by
  refine limbs_len_le ?_
  have h1 := val_lt (limbs_lt a)
  have h2 := val_lt (limbs_lt b)
  rw [val_limbs] at h1 h2
  rw [Nat.pow_add]
  exact Nat.mul_lt_mul'' h1 h2
theorem len_div (a b : Nat) : (limbs (a / b)).length ≤ (limbs a).length := limbs_len_mono (Nat.div_le_self _ _)
theorem len_sub (a b : Nat) : (limbs (a - b)).length ≤ (limbs a).length := limbs_len_mono (Nat.sub_le _ _)
theorem len_rem (a b : Nat) : (limbs (if b = 0 then 0 else a % b)).length ≤ (limbs a).length := limbs_len_mono (by split <;> first | omega | exact Nat.mod_le _ _)

end Go.Proofs.Pv
