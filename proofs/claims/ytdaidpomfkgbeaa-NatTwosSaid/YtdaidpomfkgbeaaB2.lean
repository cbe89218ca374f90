/- Bits of rows. -/
import Derived.Test.YtdaidpomfkgbeaaB1
import Derived.Test.YtdaidpomfkgbeaaM1
set_option linter.unusedSimpArgs false
set_option linter.unusedVariables false
namespace Go.Proofs.Pv

theorem blen_limbs (n : Nat) : blen n = if (limbs n).length = 0 then 0 else 32 * ((limbs n).length - 1) + blen ((limbs n).getD ((limbs n).length - 1) 0) := by
  induction n using Nat.strongRecOn with
  | _ n ih =>
    by_cases h : n = 0
    · subst h; rw [limbs_zero]; rfl
    · rw [limbs_pos h]
      simp only [List.length_cons, Nat.add_sub_cancel]
      rw [if_neg (by omega)]
      by_cases h2 : n / 4294967296 = 0
      · rw [h2, limbs_zero]
        simp only [List.length_nil, Nat.mul_zero, Nat.zero_add]
        rw [show n % 4294967296 = n by omega]
        rfl
      · have h3 := ih (n / 4294967296) (by omega)
        rw [blen_shift (show 2 ^ 32 ≤ n by omega), show (2 : Nat) ^ 32 = 4294967296 from rfl, h3]
        have h4 : (limbs (n / 4294967296)).length = (limbs (n / 4294967296)).length - 1 + 1 := by rw [limbs_pos h2]; simp
        rw [if_neg (by omega)]
        have h5 : (n % 4294967296 :: limbs (n / 4294967296)).getD (limbs (n / 4294967296)).length 0 = (limbs (n / 4294967296)).getD ((limbs (n / 4294967296)).length - 1) 0 := by
          conv => lhs; rw [h4]
          rfl
        rw [h5]
        omega
end Go.Proofs.Pv
