/- One digit of a long division. -/
import Derived.Test.YtmclabehpfpnnaaGreatDoorM2
set_option linter.unusedSimpArgs false
set_option linter.unusedVariables false
namespace Go.Proofs.Pv

theorem val_two {m : List Nat} {k : Nat} (h : m.length = k + 2) : val m = (m.getD (k + 1) 0 * 4294967296 + m.getD k 0) * 4294967296 ^ k + val (m.take k) := by
  have e := val_append (m.take k) (m.drop k)
  rw [List.take_append_drop, List.length_take, Nat.min_eq_left (by omega), val_drop, val_drop m (k + 1), List.drop_eq_nil_of_le (by omega : m.length ≤ k + 1 + 1)] at e
  rw [e, val, Nat.mul_zero, Nat.add_zero, Nat.mul_comm _ (4294967296 ^ k), Nat.add_comm (m.getD k 0), Nat.mul_comm 4294967296 (m.getD (k + 1) 0)]
  omega
theorem val_three {w : List Nat} {k : Nat} (h : w.length = k + 3) : val w = ((w.getD (k + 2) 0 * 4294967296 + w.getD (k + 1) 0) * 4294967296 + w.getD k 0) * 4294967296 ^ k + val (w.take k) := by
  have e := val_append (w.take k) (w.drop k)
  rw [List.take_append_drop, List.length_take, Nat.min_eq_left (by omega), val_drop, val_drop w (k + 1), val_drop w (k + 1 + 1), List.drop_eq_nil_of_le (by omega : w.length ≤ k + 1 + 1 + 1)] at e
  rw [e, val, Nat.mul_zero, Nat.add_zero]
  rw [show (w.getD (k + 2) 0 * 4294967296 + w.getD (k + 1) 0) * 4294967296 + w.getD k 0 = w.getD k 0 + 4294967296 * (w.getD (k + 1) 0 + 4294967296 * w.getD (k + 1 + 1) 0) by rw [show k + 2 = k + 1 + 1 by omega]; omega, Nat.mul_comm, Nat.add_comm]
  rfl

section
variable {P v1 v2 V' u2 U' top g r q : Nat}

/-- The first guess is not too small. -/
theorem guess_ge (hP : 0 < P) (hu2 : u2 < 4294967296) (hU : U' < P) (hq : q * ((v1 * 4294967296 + v2) * P + V') ≤ (top * 4294967296 + u2) * P + U') : q * v1 ≤ top := by
  have h1 : q * v1 * (4294967296 * P) ≤ q * ((v1 * 4294967296 + v2) * P + V') := by
    rw [Nat.mul_assoc]
    refine Nat.mul_le_mul_left q ?_
    rw [Nat.add_mul, Nat.mul_assoc]
    omega
  have h2 : (top * 4294967296 + u2) * P + U' < (top + 1) * (4294967296 * P) := by
    have : (top * 4294967296 + u2 + 1) * P ≤ (top + 1) * 4294967296 * P := Nat.mul_le_mul_right P (by omega)
    rw [Nat.add_mul _ 1, Nat.one_mul] at this
    rw [← Nat.mul_assoc]; omega
  have h3 := Nat.lt_of_mul_lt_mul_right (Nat.lt_of_le_of_lt (Nat.le_trans h1 hq) h2)
  omega

/-- A guess that fails the test is too big. -/
theorem guess_big (hU : U' < P) (ht : top = g * v1 + r) (hf : r * 4294967296 + u2 < g * v2) : (top * 4294967296 + u2) * P + U' < g * ((v1 * 4294967296 + v2) * P + V') := by
  have h1 : top * 4294967296 + u2 + 1 ≤ g * (v1 * 4294967296 + v2) := by
    rw [Nat.mul_add, ← Nat.mul_assoc, ht, Nat.add_mul]; omega
  have h2 := Nat.mul_le_mul_right P h1
  rw [Nat.add_mul _ 1, Nat.one_mul] at h2
  rw [Nat.mul_add, ← Nat.mul_assoc]
  omega

/-- A guess that passes it is too big by one at most. -/
theorem guess_ok (hV : V' < P) (h1 : 1 ≤ v1) (hg : g ≤ 4294967296) (ht : top = g * v1 + r) (hf : g * v2 ≤ r * 4294967296 + u2) : (g - 1) * ((v1 * 4294967296 + v2) * P + V') ≤ (top * 4294967296 + u2) * P + U' := by
  rcases Nat.eq_zero_or_pos g with rfl | h0
  · simp
  · obtain ⟨k, rfl⟩ : ∃ k, g = k + 1 := ⟨g - 1, by omega⟩
    rw [Nat.add_sub_cancel]
    have e1 : (k + 1) * (v1 * 4294967296 + v2) ≤ top * 4294967296 + u2 := by
      rw [Nat.mul_add, ← Nat.mul_assoc, ht, Nat.add_mul]; omega
    have e2 := Nat.mul_le_mul_right P e1
    rw [Nat.add_mul k 1, Nat.one_mul, Nat.add_mul (k * _)] at e2
    have e3 : k * V' ≤ (v1 * 4294967296 + v2) * P := Nat.mul_le_mul (by omega) (Nat.le_of_lt hV)
    rw [Nat.mul_add, ← Nat.mul_assoc]
    omega
end

theorem top_le {P u0 u1 u2 U' v1 v2 V' : Nat} (hV : V' < P) (hv2 : v2 < 4294967296) (h : ((u0 * 4294967296 + u1) * 4294967296 + u2) * P + U' < 4294967296 * ((v1 * 4294967296 + v2) * P + V')) : u0 ≤ v1 := by
  rcases Nat.lt_or_ge v1 u0 with h1 | h1
  · exfalso
    have h2 : (v1 * 4294967296 + v2) * P + V' ≤ (v1 * 4294967296 + v2 + 1) * P := by rw [Nat.add_mul _ 1, Nat.one_mul]; omega
    have h3 : (v1 * 4294967296 + v2 + 1) * P ≤ (u0 * 4294967296) * P := Nat.mul_le_mul_right P (by omega)
    have h4 := Nat.mul_le_mul_left 4294967296 (Nat.le_trans h2 h3)
    have h5 : 4294967296 * (u0 * 4294967296 * P) ≤ ((u0 * 4294967296 + u1) * 4294967296 + u2) * P := by
      rw [← Nat.mul_assoc]
      exact Nat.mul_le_mul_right P (by omega)
    omega
  · exact h1

theorem mod_step {X c d i g x M : Nat} (hM : X = g * M) (hc : c = X / 4294967296 ^ i) (hd : d = X % 4294967296 ^ i) :
    (g * (M + 4294967296 ^ i * x)) / 4294967296 ^ (i + 1) = (c + g * x) / 4294967296 ∧ (g * (M + 4294967296 ^ i * x)) % 4294967296 ^ (i + 1) = d + 4294967296 ^ i * ((c + g * x) % 4294967296) := by
  have hp : 0 < 4294967296 ^ i := Nat.pow_pos (by omega)
  have e : g * (M + 4294967296 ^ i * x) = X + 4294967296 ^ i * (g * x) := by rw [Nat.mul_add, hM, ← Nat.mul_assoc, ← Nat.mul_assoc, Nat.mul_comm g (4294967296 ^ i)]
  have e2 : (X + 4294967296 ^ i * (g * x)) / 4294967296 ^ i = c + g * x := by rw [Nat.add_mul_div_left _ _ hp, hc]
  have e3 : (X + 4294967296 ^ i * (g * x)) % 4294967296 ^ i = d := by rw [Nat.add_mul_mod_self_left, hd]
  rw [e]
  refine ⟨?_, ?_⟩
  · rw [Nat.pow_succ, ← Nat.div_div_eq_div_mul, e2]
  · rw [mod_pow_succ, e2, e3]

theorem carry_lt {g M i : Nat} (hg : g ≤ 4294967296) (hM : M < 4294967296 ^ i) : g * M / 4294967296 ^ i < 4294967296 := by
  have hp : 0 < 4294967296 ^ i := Nat.pow_pos (by omega)
  rw [Nat.div_lt_iff_lt_mul hp]
  rcases Nat.eq_zero_or_pos g with rfl | h0
  · rw [Nat.zero_mul]; exact Nat.mul_pos (by omega) hp
  · exact Nat.lt_of_le_of_lt (Nat.mul_le_mul_right M hg) (Nat.mul_lt_mul_of_pos_left hM (by omega))

/-- What is left: the guess was right. -/
theorem fin_right {U V g W q : Nat} (hV : 0 < V) (hq : q = U / V) (hge : q ≤ g) (h : W + g * V = U) : g = q ∧ W = U % V := by
  have h1 : g ≤ q := by rw [hq, Nat.le_div_iff_mul_le hV]; omega
  have e : g = q := by omega
  subst e
  refine ⟨rfl, ?_⟩
  have := Nat.div_add_mod U V
  rw [← hq, Nat.mul_comm] at this
  omega
/-- What is left: the guess was one too many. -/
theorem fin_over {U V g W q T : Nat} (hV : 0 < V) (hq : q = U / V) (hge : q ≤ g) (hle : (g - 1) * V ≤ U) (hW : W < T) (hVT : V ≤ T) (h : W + g * V = U + T) : g - 1 = q ∧ W + V = U % V + T := by
  have hg0 : 0 < g := by
    rcases Nat.eq_zero_or_pos g with rfl | h0
    · rw [Nat.zero_mul] at h; omega
    · exact h0
  obtain ⟨k, rfl⟩ : ∃ k, g = k + 1 := ⟨g - 1, by omega⟩
  rw [Nat.add_sub_cancel] at hle ⊢
  have h1 : k ≤ q := by rw [hq, Nat.le_div_iff_mul_le hV]; exact hle
  have hgt : U < (k + 1) * V := by omega
  have h2 : q < k + 1 := by rw [hq, Nat.div_lt_iff_lt_mul hV]; exact hgt
  have e : k = q := by omega
  subst e
  refine ⟨rfl, ?_⟩
  have := Nat.div_add_mod U V
  rw [← hq, Nat.mul_comm] at this
  rw [Nat.add_mul, Nat.one_mul] at h
  omega

theorem top_limb {X Y P t : Nat} (hX : X < P) (hY : Y < P) (ht : t ≤ 4294967296) (h : X + P * t = Y + P * 4294967296) : t = 4294967296 ∧ X = Y := by
  rcases Nat.lt_or_ge t 4294967296 with h1 | h1
  · exfalso
    have := Nat.mul_le_mul_left P (show t + 1 ≤ 4294967296 by omega)
    rw [Nat.mul_add, Nat.mul_one] at this
    omega
  · have : t = 4294967296 := by omega
    subst this
    exact ⟨rfl, by omega⟩

theorem limbs_top {n : Nat} (h : n ≠ 0) : (limbs n).getD ((limbs n).length - 1) 0 ≠ 0 := by
  intro h0
  have h1 := limbs_ge h
  have h2 := val_take_succ (limbs n) ((limbs n).length - 1)
  have h3 : 0 < (limbs n).length := by rw [limbs_pos h]; simp
  rw [List.take_of_length_le (by omega), h0, Nat.mul_zero, Nat.add_zero, val_limbs] at h2
  have h4 := val_lt (l := (limbs n).take ((limbs n).length - 1)) fun z hz => limbs_lt n z (List.mem_of_mem_take hz)
  rw [List.length_take, Nat.min_eq_left (by omega)] at h4
  omega

theorem div_first {pre w post : List Nat} {j n V : Nat} (hj : 0 < j) (hp : pre.length = j - 1) (hw : w.length = n + 1) (hV : V < 4294967296 ^ n) (hV0 : 0 < V) (hlt : val (pre ++ (w ++ post)) < 4294967296 ^ j * V) : val w < 4294967296 * V := by
  obtain ⟨k, rfl⟩ : ∃ k, j = k + 1 := ⟨j - 1, by omega⟩
  rw [Nat.add_sub_cancel] at hp
  have e1 := val_append pre (w ++ post)
  have e2 := val_append w post
  rw [hp] at e1
  rw [Nat.pow_succ, Nat.mul_assoc] at hlt
  have h1 : val (w ++ post) < 4294967296 * V := Nat.lt_of_mul_lt_mul_left (a := 4294967296 ^ k) (by omega)
  omega

/-- One round of a long division. -/
theorem div_round {pre w post w' : List Nat} {j n V Q U0 q : Nat} (hj : 0 < j) (hp : pre.length = j - 1) (hw : w.length = n + 1) (hw' : w'.length = n + 1) (hpl : ∀ z ∈ pre, z < 4294967296) (hV : V < 4294967296 ^ n) (hV0 : 0 < V)
    (hlt : val (pre ++ (w ++ post)) < 4294967296 ^ j * V) (hq : q = val w / V) (hr : val w' = val w % V) (hinv : U0 = Q * 4294967296 ^ j * V + val (pre ++ (w ++ post))) :
    val w < 4294967296 * V ∧ U0 = (q + 4294967296 * Q) * 4294967296 ^ (j - 1) * V + val (pre ++ (w' ++ post)) ∧ val (pre ++ (w' ++ post)) < 4294967296 ^ (j - 1) * V := by
  obtain ⟨k, rfl⟩ : ∃ k, j = k + 1 := ⟨j - 1, by omega⟩
  rw [Nat.add_sub_cancel] at *
  have e1 := val_append pre (w ++ post)
  have e2 := val_append w post
  have e3 := val_append pre (w' ++ post)
  have e4 := val_append w' post
  rw [hp] at e1 e3
  rw [hw] at e2
  rw [hw'] at e4
  have hP : 0 < 4294967296 ^ k := Nat.pow_pos (by omega)
  have hpv := val_lt hpl
  rw [hp] at hpv
  generalize hPP : 4294967296 ^ k = P at *
  have hj1 : 4294967296 ^ (k + 1) = P * 4294967296 := by rw [Nat.pow_succ, hPP]
  rw [hj1, Nat.mul_assoc] at hlt
  have h1 : val w + 4294967296 ^ (n + 1) * val post < 4294967296 * V := by
    rw [← e2]
    refine Nat.lt_of_mul_lt_mul_left (a := P) ?_
    omega
  have h2 : val post = 0 := by
    rcases Nat.eq_zero_or_pos (val post) with h | h
    · exact h
    · exfalso
      have h3 := Nat.mul_le_mul_left (4294967296 ^ (n + 1)) h
      rw [Nat.mul_one, Nat.pow_succ] at h3
      rw [Nat.pow_succ] at h1
      omega
  rw [h2, Nat.mul_zero, Nat.add_zero] at e2 e4 h1
  have h5 := Nat.div_add_mod (val w) V
  rw [← hq, ← hr] at h5
  have h6 : val w' < V := by rw [hr]; exact Nat.mod_lt _ hV0
  refine ⟨h1, ?_, ?_⟩
  · rw [hinv, e1, e2, e3, e4, hj1, ← h5, Nat.add_mul, Nat.add_mul, Nat.mul_add]
    have a1 : P * (V * q) = q * P * V := by rw [Nat.mul_comm V q, ← Nat.mul_assoc, Nat.mul_comm P q]
    have a2 : Q * (P * 4294967296) * V = 4294967296 * Q * P * V := by rw [Nat.mul_comm P, ← Nat.mul_assoc, Nat.mul_comm Q]
    omega
  · rw [e3, e4]
    have := Nat.mul_le_mul_left P (show val w' + 1 ≤ V by omega)
    rw [Nat.mul_add, Nat.mul_one] at this
    omega
end Go.Proofs.Pv
