/- Names and quotes: the plain mathematics. -/
import Derived.Test.YtmclabehpfpnnaaDoorN17
set_option linter.unusedSimpArgs false
set_option linter.unusedVariables false
namespace Go.Proofs.Pv
open Go Go.RowKit Go.Proofs
set_option maxRecDepth 20000

theorem hexL_inj : ∀ i j : Fin 16, hexL.getD i.val 0 = hexL.getD j.val 0 → i = j := by decide +kernel
theorem hexL_inj' {i j : Nat} (hi : i < 16) (hj : j < 16) (h : hexL.getD i 0 = hexL.getD j 0) : i = j := by
  have := hexL_inj ⟨i, hi⟩ ⟨j, hj⟩ h
  exact congrArg Fin.val this
theorem escL_split {m c d : Nat} {r q : List Nat} (hm : m = 34 ∨ m = 124) (hc : c < 256) (hd : d < 256) (h : escL m c ++ r = escL m d ++ q) : c = d ∧ r = q := by
  have h16 : ∀ {x : Nat}, x < 256 → x / 16 < 16 := fun hx => by omega
  unfold escL at h
  split at h <;> split at h
  · simp only [List.cons_append, List.nil_append, List.cons.injEq, true_and] at h; exact h
  all_goals (try split at h)
  all_goals (try split at h)
  all_goals (try split at h)
  all_goals (try split at h)
  all_goals (try split at h)
  all_goals (try split at h)
  all_goals simp only [List.cons_append, List.nil_append, List.cons.injEq, true_and] at h
  all_goals (try (exfalso; omega))
  all_goals (try (obtain ⟨h1, h2⟩ := h; first | (refine ⟨by omega, h2⟩) | (exfalso; omega)))
  all_goals (try (refine ⟨by omega, h⟩))
  all_goals (try (obtain ⟨h1, h2, h3⟩ := h; have e1 := hexL_inj' (h16 hc) (h16 hd) h1; have e2 := hexL_inj' (i := c % 16) (j := d % 16) (by omega) (by omega) h2; exact ⟨by omega, h3⟩))
theorem escL_head {m c : Nat} (hm : m = 34 ∨ m = 124) {r : List Nat} : escL m c ++ r ≠ [m] := by
  intro h
  unfold escL at h
  split at h
  · simp at h
  split at h
  · simp at h
  split at h
  · simp at h
  split at h
  · simp at h
  · simp at h; omega
theorem flat_inj {m : Nat} (hm : m = 34 ∨ m = 124) : ∀ l k : List Nat, (∀ x ∈ l, x < 256) → (∀ x ∈ k, x < 256) → l.flatMap (escL m) ++ [m] = k.flatMap (escL m) ++ [m] → l = k
  | [], [], _, _, _ => rfl
  | [], d :: k, _, _, h => by
    rw [List.flatMap_cons, List.append_assoc] at h
    exact (escL_head hm h.symm).elim
  | c :: l, [], _, _, h => by
    rw [List.flatMap_cons, List.append_assoc] at h
    exact (escL_head hm h).elim
  | c :: l, d :: k, hl, hk, h => by
    rw [List.flatMap_cons, List.flatMap_cons, List.append_assoc, List.append_assoc] at h
    obtain ⟨rfl, h2⟩ := escL_split hm (hl c (by simp)) (hk d (by simp)) h
    rw [flat_inj hm l k (fun x hx => hl x (by simp [hx])) (fun x hx => hk x (by simp [hx])) h2]
theorem btwL_inj {m : Nat} (hm : m = 34 ∨ m = 124) {l k : List Nat} (hl : ∀ x ∈ l, x < 256) (hk : ∀ x ∈ k, x < 256) : btwL m l = btwL m k ↔ l = k := by
  constructor
  · intro h
    unfold btwL at h
    simp only [List.cons.injEq, true_and] at h
    exact flat_inj hm l k hl hk h
  · rintro rfl; rfl
theorem partB_ok : ∀ c : Fin 256, partB c.val = true → 32 ≤ c.val ∧ c.val ≤ 126 ∧ c.val ≠ 34 ∧ c.val ≠ 124 := by decide +kernel
theorem plainL_all {l : List Nat} (h : plainL l = true) : l ≠ [] ∧ ∀ c ∈ l, partB c = true := by
  unfold plainL at h
  simp only [Bool.and_eq_true, decide_eq_true_eq] at h
  exact ⟨h.1.1.1.1.1.1, List.all_eq_true.1 h.1.1.2⟩
theorem plainL_head {l : List Nat} (h : plainL l = true) (hl : ∀ x ∈ l, x < 256) : ∃ c r, l = c :: r ∧ c ≠ 34 ∧ c ≠ 124 := by
  obtain ⟨h1, h2⟩ := plainL_all h
  cases l with
  | nil => exact (h1 rfl).elim
  | cons c r =>
    have := partB_ok ⟨c, hl c (by simp)⟩ (h2 c (by simp))
    exact ⟨c, r, rfl, this.2.2.1, this.2.2.2⟩
theorem nameL_inj {l k : List Nat} (hl : ∀ x ∈ l, x < 256) (hk : ∀ x ∈ k, x < 256) : nameL l = nameL k ↔ l = k := by
  constructor
  · intro h
    unfold nameL at h
    split at h <;> split at h
    · exact h
    · rename_i h1 _
      obtain ⟨c, r, rfl, _, h2⟩ := plainL_head h1 hl
      unfold btwL at h
      simp only [List.cons.injEq] at h
      exact (h2 h.1).elim
    · rename_i _ h1
      obtain ⟨c, r, rfl, _, h2⟩ := plainL_head h1 hk
      unfold btwL at h
      simp only [List.cons.injEq] at h
      exact (h2 h.1.symm).elim
    · exact (btwL_inj (.inr rfl) hl hk).1 h
  · rintro rfl; rfl
theorem name_quote {l k : List Nat} (hl : ∀ x ∈ l, x < 256) : nameL l ≠ btwL 34 k := by
  intro h
  unfold nameL at h
  split at h
  · rename_i h1
    obtain ⟨c, r, rfl, h2, _⟩ := plainL_head h1 hl
    unfold btwL at h
    simp only [List.cons.injEq] at h
    exact h2 h.1
  · unfold btwL at h
    simp only [List.cons.injEq] at h
    omega
theorem hexL_ok : ∀ i : Fin 16, 48 ≤ hexL.getD i.val 0 ∧ hexL.getD i.val 0 ≤ 102 := by decide
theorem escL_ok {m c : Nat} (hm : m = 34 ∨ m = 124) (hc : c < 256) : ∀ x ∈ escL m c, 32 ≤ x ∧ x ≤ 126 := by
  intro x hx
  have h1 := hexL_ok ⟨c / 16, by omega⟩
  have h2 := hexL_ok ⟨c % 16, by omega⟩
  simp only at h1 h2
  unfold escL at hx
  split at hx
  · simp at hx; omega
  split at hx
  · simp at hx; omega
  split at hx
  · simp at hx; omega
  split at hx
  · simp only [List.mem_cons, List.not_mem_nil, or_false] at hx; omega
  · simp at hx; omega
theorem btwL_ok {m : Nat} {l : List Nat} (hm : m = 34 ∨ m = 124) (hl : ∀ x ∈ l, x < 256) : ∀ x ∈ btwL m l, 32 ≤ x ∧ x ≤ 126 := by
  intro x hx
  unfold btwL at hx
  simp only [List.mem_cons, List.mem_append, List.not_mem_nil, or_false, List.mem_flatMap] at hx
  rcases hx with rfl | ⟨c, hc, hx⟩ | rfl
  · omega
  · exact escL_ok hm (hl c hc) x hx
  · omega
theorem nameL_ok {l : List Nat} (hl : ∀ x ∈ l, x < 256) : ∀ x ∈ nameL l, 32 ≤ x ∧ x ≤ 126 := by
  unfold nameL
  split
  · rename_i h
    intro x hx
    have := partB_ok ⟨x, hl x hx⟩ ((plainL_all h).2 x hx)
    exact ⟨this.1, this.2.1⟩
  · exact btwL_ok (.inr rfl) hl
theorem flat_ge (m : Nat) : ∀ l : List Nat, l.length ≤ (l.flatMap (escL m)).length
  | [] => by simp
  | c :: l => by
    have h1 : 0 < (escL m c).length := by
      unfold escL
      split
      · simp
      split
      · simp
      split
      · simp
      split <;> simp
    have h2 := flat_ge m l
    simp only [List.flatMap_cons, List.length_append, List.length_cons]
    omega
theorem btwL_ge (m : Nat) (l : List Nat) : l.length + 2 ≤ (btwL m l).length := by
  have := flat_ge m l
  unfold btwL
  simp only [List.length_cons, List.length_append, List.length_nil]
  omega
theorem nameL_ge (l : List Nat) : l.length ≤ (nameL l).length := by
  unfold nameL
  split
  · exact Nat.le_refl _
  · have := btwL_ge 124 l; omega
theorem bstr_inj {l k : List Nat} (hl : ∀ x ∈ l, x < 256) (hk : ∀ x ∈ k, x < 256) : bstr l = bstr k ↔ l = k := by
  constructor
  · intro h
    have := congrArg sb h
    rwa [sb_bstr hl, sb_bstr hk] at this
  · rintro rfl; rfl
end Go.Proofs.Pv
