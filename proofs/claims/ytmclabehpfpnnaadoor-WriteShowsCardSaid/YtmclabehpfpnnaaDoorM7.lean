/- Single bits of rows. -/
import Derived.Test.YtmclabehpfpnnaaDoorD1
import Derived.Test.YtmclabehpfpnnaaDoorW5
import Derived.Test.YtmclabehpfpnnaaDoorW10
set_option linter.unusedSimpArgs false
set_option linter.unusedVariables false
namespace Go.Proofs.Pv

theorem pow_limb (k : Nat) : 4294967296 ^ k = 2 ^ (32 * k) := by rw [show (4294967296 : Nat) = 2 ^ 32 from rfl, ← Nat.pow_mul]
end Go.Proofs.Pv

/- Whole numbers of a sign and a size. -/
namespace Go.Proofs.Pv

/-- A number of a sign and a size. -/
def iv (neg : Bool) (n : Nat) : Int := if neg = true then -(n : Int) else n
section
variable {s t : Bool} {a b : Nat}
theorem iv_natAbs : (iv s a).natAbs = a := by unfold iv; split <;> omega
theorem iv_neg : decide (iv s a < 0) = (s && decide (0 < a)) := by
  unfold iv
  cases s
  · simp
  · simp
theorem iv_self (z : Int) : iv (decide (z < 0)) z.natAbs = z := by
  unfold iv
  by_cases h : z < 0
  · rw [if_pos (by simpa using h)]; omega
  · rw [if_neg (by simpa using h)]; omega
theorem iv_zero : iv s 0 = 0 := by unfold iv; split <;> rfl
end
/-- Cut off downwards. -/
def fq (a b : Int) : Int := if a.tmod b = 0 ∨ ((a.tmod b < 0) ↔ (b < 0)) then a.tdiv b else a.tdiv b - 1
def fr (a b : Int) : Int := if a.tmod b = 0 ∨ ((a.tmod b < 0) ↔ (b < 0)) then a.tmod b else a.tmod b + b

/-- The root, cut off. -/
def isRoot (n r : Nat) : Prop := r * r ≤ n ∧ n < (r + 1) * (r + 1)
theorem isRoot_exists (n : Nat) : ∃ r, isRoot n r := by
  induction n with
  | zero => exact ⟨0, by simp [isRoot]⟩
  | succ n ih =>
    obtain ⟨r, h1, h2⟩ := ih
    by_cases h : (r + 1) * (r + 1) ≤ n + 1
    · refine ⟨r + 1, h, ?_⟩
      have : (r + 1 + 1) * (r + 1 + 1) = (r + 1) * (r + 1) + 2 * (r + 1) + 1 := by rw [Nat.add_mul, Nat.mul_add]; omega
      omega
    · exact ⟨r, by omega, by omega⟩
noncomputable def isqrt (n : Nat) : Nat := Classical.choose (isRoot_exists n)
end Go.Proofs.Pv

/- Numbers' texts, and back. -/
namespace Go.Proofs.Pv

theorem txt_step {b n : Nat} (hb : 2 ≤ b) : txt b n = (if n / b = 0 then [] else txt b (n / b)) ++ [if n = 0 then 48 else dch (n % b)] := by
  by_cases h : n = 0
  · subst h; simp [txt]
  · have h1 : txt b n = ((digs b (n / b)).map dch).reverse ++ [dch (n % b)] := by
      unfold txt
      rw [if_neg h, digs_pos hb h]
      simp
    rw [h1, if_neg h]
    congr 1
    by_cases h2 : n / b = 0
    · rw [if_pos h2, h2, digs_zero]; rfl
    · rw [if_neg h2]; unfold txt; rw [if_neg h2]
theorem dch_zero : dch 0 = 48 := rfl
theorem txt_step' {b n : Nat} (hb : 2 ≤ b) : txt b n = (if n / b = 0 then [] else txt b (n / b)) ++ [dch (n % b)] := by
  rw [txt_step hb]
  by_cases h : n = 0
  · subst h; simp [dch_zero]
  · rw [if_neg h]
theorem txt_len {b n : Nat} (hb : 2 ≤ b) : (txt b n).length ≤ blen n + 1 := by
  unfold txt
  split
  · simp
  · have := digs_len hb (blen_lt n)
    simp; omega
theorem pnum_lt {b : Nat} (hb : b ≤ 36) {l : List Nat} {v : Nat} (h : pnum b l = some v) : v < 36 ^ l.length := by
  have key : ∀ i, i ≤ l.length → ∀ v, pnum b (l.take i) = some v → v < 36 ^ i := by
    intro i
    induction i with
    | zero => intro _ v hv; simp [pnum] at hv; subst hv; simp
    | succ i ih =>
      intro hi v hv
      rw [pnum_succ (by omega)] at hv
      cases hq : pnum b (l.take i) with
      | none => rw [hq] at hv; simp [pstep] at hv
      | some q =>
        rw [hq] at hv
        have h1 := ih (by omega) q hq
        unfold pstep at hv
        cases hd : dv (l.getD i 0) with
        | none => rw [hd] at hv; cases hv
        | some d =>
          rw [hd] at hv
          dsimp only at hv
          split at hv
          · cases hv
            have := Nat.mul_le_mul_left q hb
            rw [Nat.pow_succ]
            omega
          · cases hv
  have := key l.length (Nat.le_refl _) v
  rw [List.take_length] at this
  exact this h

end Go.Proofs.Pv

/- How long sums, products .. are. -/
namespace Go.Proofs.Pv

end Go.Proofs.Pv

/- How whole numbers compare. -/
namespace Go.Proofs.Pv

end Go.Proofs.Pv
