/- Numbers' texts, and back. -/
import Derived.Test.YtmclabehpfpnnaaDoorM3
import Derived.Test.YtmclabehpfpnnaaDoorM2
import Derived.Test.YtmclabehpfpnnaaDoorW10
set_option linter.unusedSimpArgs false
set_option linter.unusedVariables false
namespace Go.Proofs.Pv

theorem txt_step {b n : Nat} (hb : 2 ≤ b) : txt b n = (if n / b = 0 then [] else txt b (n / b)) ++ [if n = 0 then 48 else dch (n % b)] := by
  by_cases h : n = 0
  · subst h; simp [txt]
  · have h1 : txt b n = ((digs b (n / b)).map dch).reverse ++ [dch (n % b)] := by
      unfold txt
      rw [if_neg h, digs_pos hb h]
      simp
    rw [h1, if_neg h]
    congr 1
    by_cases h2 : n / b = 0
    · rw [if_pos h2, h2, digs_zero]; rfl
    · rw [if_neg h2]; unfold txt; rw [if_neg h2]
theorem dch_zero : dch 0 = 48 := rfl
theorem txt_step' {b n : Nat} (hb : 2 ≤ b) : txt b n = (if n / b = 0 then [] else txt b (n / b)) ++ [dch (n % b)] := by
  rw [txt_step hb]
  by_cases h : n = 0
  · subst h; simp [dch_zero]
  · rw [if_neg h]
theorem txt_len {b n : Nat} (hb : 2 ≤ b) : (txt b n).length ≤ blen n + 1 := by
  unfold txt
  split
  · simp
  · have := digs_len hb (blen_lt n)
    simp; omega
theorem txt_ne {b n : Nat} (hb : 2 ≤ b) : txt b n ≠ [] := by
  unfold txt
  split
  · simp
  · rename_i h
    intro h2
    have : digs b n = [] := by simpa using h2
    rw [digs_pos hb h] at this; simp at this
theorem dv_dch {d : Nat} (h : d < 36) : dv (dch d) = some d := by
  have : (List.range 36).all (fun d => dv (dch d) == some d) = true := by decide +kernel
  simpa using List.all_eq_true.1 this d (List.mem_range.2 h)
theorem pnum_snoc {b : Nat} {l : List Nat} {c : Nat} : pnum b (l ++ [c]) = pstep b (pnum b l) c := by
  unfold pnum; rw [List.foldl_append]; rfl
theorem pnum_txt {b : Nat} (hb : 2 ≤ b) (hb2 : b ≤ 36) (n : Nat) : pnum b (txt b n) = some n := by
  induction n using Nat.strongRecOn with
  | _ n ih =>
    rw [txt_step' hb, pnum_snoc]
    have hd : n % b < b := Nat.mod_lt _ (by omega)
    have e := Nat.div_add_mod n b
    have h1 : pnum b (if n / b = 0 then [] else txt b (n / b)) = some (n / b) := by
      by_cases h : n / b = 0
      · rw [if_pos h, h]; rfl
      · rw [if_neg h]
        have hn : n ≠ 0 := by rintro rfl; simp at h
        exact ih _ (Nat.div_lt_self (by omega) (by omega))
    rw [h1]
    unfold pstep
    rw [dv_dch (by omega)]
    dsimp only
    rw [if_pos hd, Nat.mul_comm]
    congr 1

theorem pnum_lt {b : Nat} (hb : b ≤ 36) {l : List Nat} {v : Nat} (h : pnum b l = some v) : v < 36 ^ l.length := by
  have key : ∀ i, i ≤ l.length → ∀ v, pnum b (l.take i) = some v → v < 36 ^ i := by
    intro i
    induction i with
    | zero => intro _ v hv; simp [pnum] at hv; subst hv; simp
    | succ i ih =>
      intro hi v hv
      rw [pnum_succ (by omega)] at hv
      cases hq : pnum b (l.take i) with
      | none => rw [hq] at hv; simp [pstep] at hv
      | some q =>
        rw [hq] at hv
        have h1 := ih (by omega) q hq
        unfold pstep at hv
        cases hd : dv (l.getD i 0) with
        | none => rw [hd] at hv; cases hv
        | some d =>
          rw [hd] at hv
          dsimp only at hv
          split at hv
          · cases hv
            have := Nat.mul_le_mul_left q hb
            rw [Nat.pow_succ]
            omega
          · cases hv
  have := key l.length (Nat.le_refl _) v
  rw [List.take_length] at this
  exact this h

/-- Letters of either size, with noughts ahead. -/
theorem pnum_same {b : Nat} {l m : List Nat} (h : l.map dv = m.map dv) : pnum b l = pnum b m := by
  unfold pnum
  generalize some 0 = a
  induction l generalizing m a with
  | nil => cases m with
    | nil => rfl
    | cons _ _ => simp at h
  | cons x l ih => cases m with
    | nil => simp at h
    | cons y m =>
      simp only [List.map_cons, List.cons.injEq] at h
      rw [List.foldl_cons, List.foldl_cons]
      have : pstep b a x = pstep b a y := by unfold pstep; rw [h.1]
      rw [this]
      exact ih h.2 _
theorem pnum_noughts {b k : Nat} (hb : 2 ≤ b) {l : List Nat} : pnum b (List.replicate k 48 ++ l) = pnum b l := by
  induction k with
  | zero => simp
  | succ k ih =>
    rw [List.replicate_succ, List.cons_append]
    have : pnum b (48 :: (List.replicate k 48 ++ l)) = pnum b (List.replicate k 48 ++ l) := by
      unfold pnum
      rw [List.foldl_cons]
      have : pstep b (some 0) 48 = some 0 := by
        unfold pstep
        rw [show dv 48 = some 0 from rfl]
        dsimp only
        rw [if_pos (by omega), Nat.zero_mul]
      rw [this]
    rw [this, ih]
end Go.Proofs.Pv
