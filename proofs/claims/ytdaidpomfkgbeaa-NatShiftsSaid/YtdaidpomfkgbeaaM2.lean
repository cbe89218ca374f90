/- Digits of numbers. -/
import Derived.Test.YtdaidpomfkgbeaaM1
set_option linter.unusedSimpArgs false
set_option linter.unusedVariables false
namespace Go.Proofs.Pv

/-- A digit's letter. -/
def dch (d : Nat) : Nat := if d < 10 then 48 + d else 87 + d
/-- A letter's digit. -/
def dv (a : Nat) : Option Nat := if 48 ≤ a ∧ a ≤ 57 then some (a - 48) else if 97 ≤ a ||| 32 ∧ a ||| 32 ≤ 122 then some ((a ||| 32) - 97 + 10) else none

theorem dv_all : (List.range 256).all (fun a => dv a == if 48 ≤ a ∧ a ≤ 57 then some (a - 48) else if 97 ≤ a ∧ a ≤ 122 then some (a - 87) else if 65 ≤ a ∧ a ≤ 90 then some (a - 55) else none) = true := by decide +kernel
/-- A letter's digit, letters of either size. -/
theorem dv_eq {a : Nat} (h : a < 256) : dv a = if 48 ≤ a ∧ a ≤ 57 then some (a - 48) else if 97 ≤ a ∧ a ≤ 122 then some (a - 87) else if 65 ≤ a ∧ a ≤ 90 then some (a - 55) else none := by
  simpa using List.all_eq_true.1 dv_all a (List.mem_range.2 h)

/-- Digits, the least first. -/
def digs (b n : Nat) : List Nat := if h : n = 0 ∨ b < 2 then [] else n % b :: digs b (n / b)
termination_by n
decreasing_by exact Nat.div_lt_self (by omega) (by omega)

theorem digs_zero (b : Nat) : digs b 0 = [] := by rw [digs]; simp
theorem digs_pos {b n : Nat} (hb : 2 ≤ b) (h : n ≠ 0) : digs b n = n % b :: digs b (n / b) := by rw [digs, dif_neg (by omega)]
theorem digs_lt {b : Nat} (hb : 2 ≤ b) (n : Nat) : ∀ d ∈ digs b n, d < b := by
  induction n using Nat.strongRecOn with
  | _ n ih =>
    by_cases h : n = 0
    · subst h; rw [digs_zero]; simp
    · rw [digs_pos hb h]
      intro d hd
      rcases List.mem_cons.1 hd with rfl | hd
      · exact Nat.mod_lt _ (by omega)
      · exact ih _ (Nat.div_lt_self (by omega) (by omega)) d hd

/-- A number's text. -/
def txt (b n : Nat) : List Nat := if n = 0 then [48] else ((digs b n).map dch).reverse

theorem digs_len {b n k : Nat} (hb : 2 ≤ b) (h : n < 2 ^ k) : (digs b n).length ≤ k := by
  induction k generalizing n with
  | zero => have : n = 0 := by simpa using h
            subst this; rw [digs_zero]; simp
  | succ k ih =>
    by_cases h0 : n = 0
    · subst h0; rw [digs_zero]; simp
    · rw [digs_pos hb h0, List.length_cons]
      have h2 : n / b ≤ n / 2 := Nat.div_le_div_left hb (by omega)
      have := ih (n := n / b) (by rw [Nat.pow_succ] at h; omega)
      omega
end Go.Proofs.Pv
