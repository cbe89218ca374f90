/- Numbers' texts, and back. -/
import Derived.Test.YtmclabehpfpnnaaGreatDoorM3
import Derived.Test.YtmclabehpfpnnaaGreatDoorM2
import Derived.Test.YtmclabehpfpnnaaGreatDoorW10
set_option linter.unusedSimpArgs false
set_option linter.unusedVariables false
namespace Go.Proofs.Pv

theorem txt_step {b n : Nat} (hb : 2 ≤ b) : txt b n = (if n / b = 0 then [] else txt b (n / b)) ++ [if n = 0 then 48 else dch (n % b)] := by
  by_cases h : n = 0
  · subst h; simp [txt]
  · have h1 : txt b n = ((digs b (n / b)).map dch).reverse ++ [dch (n % b)] := by
      unfold txt
      rw [if_neg h, digs_pos hb h]
      simp
    rw [h1, if_neg h]
    congr 1
    by_cases h2 : n / b = 0
    · rw [if_pos h2, h2, digs_zero]; rfl
    · rw [if_neg h2]; unfold txt; rw [if_neg h2]
theorem dch_zero : dch 0 = 48 := rfl
theorem txt_step' {b n : Nat} (hb : 2 ≤ b) : txt b n = (if n / b = 0 then [] else txt b (n / b)) ++ [dch (n % b)] := by
  rw [txt_step hb]
  by_cases h : n = 0
  · subst h; simp [dch_zero]
  · rw [if_neg h]
theorem txt_len {b n : Nat} (hb : 2 ≤ b) : (txt b n).length ≤ blen n + 1 := by
  unfold txt
  split
  · simp
  · have := digs_len hb (blen_lt n)
    simp; omega
end Go.Proofs.Pv
