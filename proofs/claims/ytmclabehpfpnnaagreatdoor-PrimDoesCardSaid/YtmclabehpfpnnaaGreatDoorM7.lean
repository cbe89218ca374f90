/- Whole numbers of a sign and a size. -/
import Derived.Test.YtmclabehpfpnnaaGreatDoorM3
import Derived.Test.YtmclabehpfpnnaaGreatDoorW1
set_option linter.unusedSimpArgs false
set_option linter.unusedVariables false
namespace Go.Proofs.Pv

/-- A number of a sign and a size. -/
def iv (neg : Bool) (n : Nat) : Int := if neg = true then -(n : Int) else n
section
variable {s t : Bool} {a b : Nat}
theorem iv_natAbs : (iv s a).natAbs = a := by unfold iv; split <;> omega
theorem iv_neg : decide (iv s a < 0) = (s && decide (0 < a)) := by
  unfold iv
  cases s
  · simp
  · simp
theorem iv_self (z : Int) : iv (decide (z < 0)) z.natAbs = z := by
  unfold iv
  by_cases h : z < 0
  · rw [if_pos (by simpa using h)]; omega
  · rw [if_neg (by simpa using h)]; omega
theorem iv_zero : iv s 0 = 0 := by unfold iv; split <;> rfl
theorem iv_eq_zero : iv s a = 0 ↔ a = 0 := by unfold iv; split <;> omega
theorem iv_same : iv s a + iv s b = iv s (a + b) := by unfold iv; split <;> omega
theorem iv_ge (h : s ≠ t) (hab : b ≤ a) : iv s a + iv t b = iv s (a - b) := by
  unfold iv
  cases s <;> cases t <;> simp at h ⊢ <;> omega
theorem iv_lt (h : s ≠ t) (hab : a < b) : iv s a + iv t b = iv t (b - a) := by
  unfold iv
  cases s <;> cases t <;> simp at h ⊢ <;> omega
theorem iv_not : iv (!s) a = -iv s a := by
  unfold iv
  cases s <;> simp
theorem iv_mul : iv s a * iv t b = iv (s != t) (a * b) := by
  unfold iv
  cases s <;> cases t <;> simp [Int.neg_mul, Int.mul_neg, Int.neg_neg]
theorem iv_tdiv : (iv s a).tdiv (iv t b) = iv (s != t) (a / b) := by
  unfold iv
  cases s <;> cases t <;> simp [Int.neg_tdiv, Int.tdiv_neg, Int.ofNat_tdiv]
theorem iv_tmod : (iv s a).tmod (iv t b) = iv s (a % b) := by
  unfold iv
  have e : ((a : Int)).tmod (b : Int) = ((a % b : Nat) : Int) := rfl
  cases s <;> cases t <;> simp only [Bool.false_eq_true, if_false, if_true, Int.neg_tmod, Int.tmod_neg, e]
end
theorem cmpI_cases (a b : Int) : (cmpI a b = -1 ∧ a < b) ∨ (cmpI a b = 0 ∧ a = b) ∨ (cmpI a b = 1 ∧ b < a) := by
  unfold cmpI
  by_cases h : a < b
  · rw [if_pos h]; exact .inl ⟨rfl, h⟩
  · rw [if_neg h]
    by_cases h2 : b < a
    · rw [if_pos h2]; exact .inr (.inr ⟨rfl, h2⟩)
    · rw [if_neg h2]; exact .inr (.inl ⟨rfl, by omega⟩)
theorem cmpI_neg (a b : Int) : cmpI (-a) (-b) = cmpI b a := by
  rcases cmpI_cases (-a) (-b) with h | h | h <;> rcases cmpI_cases b a with g | g | g <;> omega
theorem cmpI_swap (a b : Int) : cmpI b a = -cmpI a b := by
  rcases cmpI_cases a b with h | h | h <;> rcases cmpI_cases b a with g | g | g <;> omega
/-- Cut off downwards. -/
def fq (a b : Int) : Int := if a.tmod b = 0 ∨ ((a.tmod b < 0) ↔ (b < 0)) then a.tdiv b else a.tdiv b - 1
def fr (a b : Int) : Int := if a.tmod b = 0 ∨ ((a.tmod b < 0) ↔ (b < 0)) then a.tmod b else a.tmod b + b

/-- Of a remainder: smaller than what it was divided by, with the sign of what was divided. -/
theorem tmod_sign (a b : Int) (hb : b ≠ 0) : (a.tmod b).natAbs < b.natAbs ∧ (a.tmod b = 0 ∨ ((a.tmod b < 0 ↔ a < 0) ∧ (0 < a.tmod b ↔ 0 < a))) := by
  have h1 := iv_self a
  have h2 := iv_self b
  rw [← h1, ← h2, iv_tmod, iv_natAbs, iv_natAbs]
  have h3 : a.natAbs % b.natAbs < b.natAbs := Nat.mod_lt _ (by omega)
  have h4 := Nat.mod_le a.natAbs b.natAbs
  refine ⟨h3, ?_⟩
  unfold iv
  by_cases ha : a < 0
  · simp only [ha, decide_true, if_true]; omega
  · simp only [ha, decide_false]; simp; omega
theorem fr_sign (a b : Int) (hb : b ≠ 0) : (fr a b).natAbs < b.natAbs ∧ (fr a b = 0 ∨ ((fr a b < 0 ↔ b < 0) ∧ (0 < fr a b ↔ 0 < b))) := by
  have h := tmod_sign a b hb
  unfold fr
  split <;> omega

/-- The root, cut off. -/
def isRoot (n r : Nat) : Prop := r * r ≤ n ∧ n < (r + 1) * (r + 1)
theorem isRoot_exists (n : Nat) : ∃ r, isRoot n r := by
  induction n with
  | zero => exact ⟨0, by simp [isRoot]⟩
  | succ n ih =>
    obtain ⟨r, h1, h2⟩ := ih
    by_cases h : (r + 1) * (r + 1) ≤ n + 1
    · refine ⟨r + 1, h, ?_⟩
      have : (r + 1 + 1) * (r + 1 + 1) = (r + 1) * (r + 1) + 2 * (r + 1) + 1 := by rw [Nat.add_mul, Nat.mul_add]; omega
      omega
    · exact ⟨r, by omega, by omega⟩
noncomputable def isqrt (n : Nat) : Nat := Classical.choose (isRoot_exists n)
end Go.Proofs.Pv

/- How whole numbers compare. -/
namespace Go.Proofs.Pv

theorem cmp_zero (a b : Int) : (cmpI a b = 0) = (a = b) := by rcases cmpI_cases a b with h | h | h <;> simp <;> omega
theorem cmp_neg (a b : Int) : (cmpI a b < 0) = (a < b) := by rcases cmpI_cases a b with h | h | h <;> simp <;> omega
end Go.Proofs.Pv
