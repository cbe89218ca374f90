/- The whole functions' walks, fifth part: what divides both; as a small number; out of a text. -/
import Derived.Test.YtmclabehpfpnnaaGreatDoorW13
set_option linter.unusedSimpArgs false
set_option linter.unusedVariables false
namespace Go.Proofs.Pv
open Go Go.RowKit Go.Proofs
set_option maxRecDepth 20000

/-- A struct's cell is written to: what a slice holds stays. -/
theorem Nm.put {T : St} {x a a' : AV} {l m : List Nat} {r : Nat} {b b' : Bool} (h : Nm T x l) (hr : T[r]? = some (some [.val (.bool b), a])) (ha : Nm T a m) : Nm (T.set r (some [.val (.bool b'), a'])) x l := by
  refine ⟨?_, h.lt⟩
  have hs := h.sl
  cases x with
  | own r' o n c =>
    rw [sl_own_eq] at hs ⊢
    by_cases hrr : r' = r
    · subst hrr
      have hlt : r' < T.length := (List.getElem?_eq_some_iff.1 hr).1
      rw [hr] at hs
      rw [List.getElem?_set_self hlt]
      dsimp only at hs ⊢
      by_cases hc : c = 1
      · rw [if_pos hc] at hs ⊢
        split at hs
        · simp only [Option.some.injEq, Prod.mk.injEq, Nat.mul_one] at hs
          obtain ⟨h1, h2⟩ := hs
          match n, o with
          | 0, o => rw [if_pos (by simp)]; simp only [Nat.zero_mul, List.take_zero, Option.some.injEq, Prod.mk.injEq]; exact ⟨h1, by rw [← h2]; simp⟩
          | n + 1, 0 =>
            cases l with
            | nil => simp at h1
            | cons z l => simp [u32s] at h2
          | n + 1, 1 =>
            cases l with
            | nil => simp at h1
            | cons z l =>
              simp [u32s] at h2
              have := ha.sl
              rw [h2.1] at this
              exact absurd this (by unfold Pv.sl; simp)
          | n + 1, o + 2 => rename_i h3; simp at h3
        · simp at hs
      · rw [if_neg hc] at hs; simp at hs
    · rw [List.getElem?_set_ne (Ne.symm hrr)]; exact hs
  | val v =>
    cases v <;> first | exact hs | (rename_i p q r; cases p <;> first | exact hs | (cases q <;> cases r <;> exact hs))
  | _ => exact hs

def RwGcd (xs : List AV) (st : St) (K : AV → St → Prop) : Prop := ∃ x y s t l m, xs = [x, y] ∧ Wh st x s l ∧ Wh st y t m ∧ l.length ≤ 800 ∧ m.length ≤ 800 ∧ gotI st (Nat.gcd (val l) (val m) : Nat) K
end Go.Proofs.Pv
