/- Plain numbers in limbs. -/

set_option linter.unusedSimpArgs false
set_option linter.unusedVariables false
namespace Go.Proofs.Pv

/-- A row's number. -/
def val : List Nat → Nat
  | [] => 0
  | x :: l => x + 4294967296 * val l

/-- A number's row: no limb of 0 at its end. -/
def limbs (n : Nat) : List Nat := if h : n = 0 then [] else n % 4294967296 :: limbs (n / 4294967296)
termination_by n
decreasing_by omega

theorem limbs_zero : limbs 0 = [] := by unfold limbs; simp
theorem limbs_pos {n : Nat} (h : n ≠ 0) : limbs n = n % 4294967296 :: limbs (n / 4294967296) := by rw [limbs]; simp [h]

theorem val_limbs (n : Nat) : val (limbs n) = n := by
  induction n using Nat.strongRecOn with
  | _ n ih =>
    by_cases h : n = 0
    · subst h; rw [limbs_zero]; rfl
    · rw [limbs_pos h, val, ih _ (by omega)]; omega

theorem limbs_lt (n : Nat) : ∀ x ∈ limbs n, x < 4294967296 := by
  induction n using Nat.strongRecOn with
  | _ n ih =>
    by_cases h : n = 0
    · subst h; rw [limbs_zero]; simp
    · rw [limbs_pos h]
      intro x hx
      rcases List.mem_cons.1 hx with rfl | hx
      · omega
      · exact ih _ (by omega) x hx

theorem val_append (l m : List Nat) : val (l ++ m) = val l + 4294967296 ^ l.length * val m := by
  induction l with
  | nil => simp [val]
  | cons x l ih => simp only [List.cons_append, val, ih, List.length_cons, Nat.pow_succ, Nat.mul_add]; rw [Nat.mul_comm (4294967296 ^ l.length) 4294967296, Nat.mul_assoc]; omega

theorem val_zeros (n : Nat) : val (List.replicate n 0) = 0 := by
  induction n with
  | zero => rfl
  | succ n ih => rw [List.replicate_succ, val, ih]

theorem val_lt {l : List Nat} (h : ∀ x ∈ l, x < 4294967296) : val l < 4294967296 ^ l.length := by
  induction l with
  | nil => simp [val]
  | cons x l ih =>
    have h1 := h x (by simp)
    have h2 := ih fun y hy => h y (by simp [hy])
    rw [val, List.length_cons, Nat.pow_succ]
    omega

theorem val_all_zero {l : List Nat} (h : ∀ x ∈ l, x = 0) : val l = 0 := by
  induction l with
  | nil => rfl
  | cons x l ih => rw [val, ih fun y hy => h y (by simp [hy]), h x (by simp)]

/-- A row without a limb of 0 at its end is its number's. -/
theorem limbs_val {l : List Nat} (h : ∀ x ∈ l, x < 4294967296) (ht : ∀ x, l.getLast? = some x → x ≠ 0) : limbs (val l) = l := by
  induction l with
  | nil => exact limbs_zero
  | cons x l ih =>
    have h1 := h x (by simp)
    have h2 := ih (fun y hy => h y (by simp [hy])) (fun y hy => ht y (by
      cases l with
      | nil => simp at hy
      | cons z l => rw [List.getLast?_cons_cons]; exact hy))
    have hne : val (x :: l) ≠ 0 := by
      rw [val]
      intro h0
      have hx : x = 0 := by omega
      have hl : val l = 0 := by omega
      rw [hl, limbs_zero] at h2
      subst h2
      exact ht x (by simp) hx
    rw [limbs_pos hne, val]
    congr 1
    · omega
    · rw [show (x + 4294967296 * val l) / 4294967296 = val l by omega]; exact h2

/-- What is left without the noughts at its end. -/
theorem limbs_take {l : List Nat} {m : Nat} (h : ∀ x ∈ l, x < 4294967296) (hm : m ≤ l.length) (hz : ∀ j, m ≤ j → j < l.length → l.getD j 0 = 0) (ht : m = 0 ∨ l.getD (m - 1) 0 ≠ 0) : limbs (val l) = l.take m := by
  have e : val l = val (l.take m) := by
    have := val_append (l.take m) (l.drop m)
    rw [List.take_append_drop] at this
    rw [this, val_all_zero (l := l.drop m), Nat.mul_zero, Nat.add_zero]
    intro x hx
    obtain ⟨j, hj⟩ := List.mem_iff_getElem?.1 hx
    rw [List.getElem?_drop] at hj
    have hlt : m + j < l.length := (List.getElem?_eq_some_iff.1 hj).1
    have := hz (m + j) (by omega) hlt
    rw [List.getD_eq_getElem?_getD, hj] at this
    exact this
  rw [e]
  refine limbs_val (fun x hx => h x (List.mem_of_mem_take hx)) fun x hx => ?_
  have hm0 : m ≠ 0 := by
    rintro rfl
    simp at hx
  rcases ht with rfl | ht
  · exact absurd rfl hm0
  · rw [List.getLast?_eq_getElem?, List.length_take, Nat.min_eq_left hm, List.getElem?_take_of_lt (by omega)] at hx
    rw [List.getD_eq_getElem?_getD, hx] at ht
    exact ht

theorem limbs_cut {l : List Nat} (h : ∀ x ∈ l, x < 4294967296) : l.take (limbs (val l)).length = limbs (val l) := by
  have key : ∀ m, m ≤ l.length → (∀ j, m ≤ j → j < l.length → l.getD j 0 = 0) → l.take (limbs (val l)).length = limbs (val l) := by
    intro m
    induction m with
    | zero => intro _ hz; rw [limbs_take h (Nat.zero_le _) (fun j _ hj => hz j (Nat.zero_le _) hj) (.inl rfl)]; simp
    | succ m ih =>
      intro hm hz
      by_cases h0 : l.getD m 0 = 0
      · exact ih (by omega) fun j hj hjl => by
          by_cases hjm : j = m
          · subst hjm; exact h0
          · exact hz j (by omega) hjl
      · rw [limbs_take h hm hz (.inr h0)]; simp [Nat.min_eq_left hm]
  exact key l.length (Nat.le_refl _) fun j hj hjl => by omega

theorem limbs_len {l : List Nat} (h : ∀ x ∈ l, x < 4294967296) : (limbs (val l)).length ≤ l.length := by
  -- the last one that is not 0
  have key : ∀ m, m ≤ l.length → (∀ j, m ≤ j → j < l.length → l.getD j 0 = 0) → (limbs (val l)).length ≤ l.length := by
    intro m
    induction m with
    | zero => intro _ hz; rw [limbs_take h (Nat.zero_le _) (fun j _ hj => hz j (Nat.zero_le _) hj) (.inl rfl)]; simp
    | succ m ih =>
      intro hm hz
      by_cases h0 : l.getD m 0 = 0
      · exact ih (by omega) fun j hj hjl => by
          by_cases hjm : j = m
          · subst hjm; exact h0
          · exact hz j (by omega) hjl
      · rw [limbs_take h hm hz (.inr h0)]; simp; omega
  exact key l.length (Nat.le_refl _) fun j hj hjl => by omega

theorem val_inj {l m : List Nat} (h : l.length = m.length) (hl : ∀ x ∈ l, x < 4294967296) (hm : ∀ x ∈ m, x < 4294967296) (hv : val l = val m) : l = m := by
  induction l generalizing m with
  | nil => cases m with
    | nil => rfl
    | cons _ _ => cases h
  | cons x l ih => cases m with
    | nil => cases h
    | cons y m =>
      have h1 := hl x (by simp)
      have h2 := hm y (by simp)
      rw [val, val] at hv
      have : x = y := by omega
      subst this
      rw [ih (by simpa using h) (fun z hz => hl z (by simp [hz])) (fun z hz => hm z (by simp [hz])) (by omega)]

theorem limbs_ge {n : Nat} (h : n ≠ 0) : 4294967296 ^ ((limbs n).length - 1) ≤ n := by
  induction n using Nat.strongRecOn with
  | _ n ih =>
    rw [limbs_pos h, List.length_cons, Nat.add_sub_cancel]
    by_cases h2 : n / 4294967296 = 0
    · rw [h2, limbs_zero]; simp; omega
    · have h3 := ih _ (by omega) h2
      have h4 : (limbs (n / 4294967296)).length = (limbs (n / 4294967296)).length - 1 + 1 := by
        rw [limbs_pos h2]; simp
      rw [h4, Nat.pow_succ]
      have := Nat.mul_le_mul_right 4294967296 h3
      omega

theorem limbs_len_lt {a b : Nat} (h : (limbs a).length < (limbs b).length) : a < b := by
  have hb : b ≠ 0 := by rintro rfl; rw [limbs_zero] at h; simp at h
  have h1 := limbs_ge hb
  have h2 := val_lt (limbs_lt a)
  rw [val_limbs] at h2
  have := Nat.pow_le_pow_right (n := 4294967296) (by omega) (show (limbs a).length ≤ (limbs b).length - 1 by omega)
  omega

theorem limbs_len_mono {a b : Nat} (h : a ≤ b) : (limbs a).length ≤ (limbs b).length := by
  rcases Nat.lt_or_ge (limbs b).length (limbs a).length with h1 | h1
  · have := limbs_len_lt h1; omega
  · exact h1

theorem limbs_len_le {a k : Nat} (h : a < 4294967296 ^ k) : (limbs a).length ≤ k := by
  rcases Nat.eq_zero_or_pos a with rfl | h0
  · rw [limbs_zero]; simp
  · have h1 := limbs_ge (show a ≠ 0 by omega)
    rcases Nat.lt_or_ge k (limbs a).length with h2 | h2
    · have := Nat.pow_le_pow_right (n := 4294967296) (by omega) (show k ≤ (limbs a).length - 1 by omega)
      omega
    · exact h2

theorem val_drop_eq {l m : List Nat} (h : l.length = m.length) {k : Nat} (he : ∀ j, k ≤ j → j < l.length → l.getD j 0 = m.getD j 0) : l.drop k = m.drop k := by
  refine List.ext_getElem (by simp [h]) fun i h1 h2 => ?_
  rw [List.getElem_drop, List.getElem_drop]
  simp only [List.length_drop] at h1 h2
  have := he (k + i) (by omega) (by omega)
  simpa [List.getD_eq_getElem?_getD, List.getElem?_eq_getElem (show k + i < l.length by omega), List.getElem?_eq_getElem (show k + i < m.length by omega)] using this

theorem val_split {l : List Nat} {k : Nat} (hk : k < l.length) : val l = val (l.take k) + 4294967296 ^ k * (l.getD k 0 + 4294967296 * val (l.drop (k + 1))) := by
  have e : l = l.take k ++ (l.getD k 0 :: l.drop (k + 1)) := by
    rw [List.getD_eq_getElem?_getD, List.getElem?_eq_getElem hk]
    simp
  conv => lhs; rw [e]
  rw [val_append, val, List.length_take, Nat.min_eq_left (by omega)]

theorem val_cmp {l m : List Nat} (h : l.length = m.length) (hl : ∀ x ∈ l, x < 4294967296) {k : Nat} (hk : k < l.length) (he : ∀ j, k + 1 ≤ j → j < l.length → l.getD j 0 = m.getD j 0) (hlt : l.getD k 0 < m.getD k 0) : val l < val m := by
  rw [val_split hk, val_split (l := m) (k := k) (h ▸ hk), val_drop_eq h he]
  have h1 := val_lt (l := l.take k) fun x hx => hl x (List.mem_of_mem_take hx)
  rw [List.length_take, Nat.min_eq_left (by omega)] at h1
  have h2 := Nat.mul_le_mul_left (4294967296 ^ k) (show l.getD k 0 + 4294967296 * val (m.drop (k + 1)) + 1 ≤ m.getD k 0 + 4294967296 * val (m.drop (k + 1)) by omega)
  rw [Nat.mul_add _ _ 1, Nat.mul_one] at h2
  omega

theorem val_take_succ (l : List Nat) (i : Nat) : val (l.take (i + 1)) = val (l.take i) + 4294967296 ^ i * l.getD i 0 := by
  rcases Nat.lt_or_ge i l.length with h | h
  · rw [List.take_succ_eq_append_getElem h, val_append, List.length_take, Nat.min_eq_left (by omega), List.getD_eq_getElem?_getD, List.getElem?_eq_getElem h]
    simp [val]
  · rw [List.take_of_length_le (by omega), List.take_of_length_le h, List.getD_eq_getElem?_getD, List.getElem?_eq_none h]
    simp

theorem val_take_set {l : List Nat} {i v : Nat} (h : i < l.length) : val ((l.set i v).take (i + 1)) = val (l.take i) + 4294967296 ^ i * v := by
  rw [val_take_succ, List.take_set_of_le (by omega)]
  congr 2
  simp [h]

theorem set_lt {l : List Nat} {i v b : Nat} (hl : ∀ x ∈ l, x < b) (hv : v < b) : ∀ x ∈ l.set i v, x < b := by
  intro x hx
  rcases List.mem_or_eq_of_mem_set hx with h | h
  · exact hl x h
  · rw [h]; exact hv

theorem rep_lt {n b : Nat} (hb : 0 < b) : ∀ x ∈ List.replicate n 0, x < b := by
  intro x hx
  rw [(List.mem_replicate.1 hx).2]; exact hb

theorem getD_lt {l : List Nat} (hl : ∀ x ∈ l, x < 4294967296) (i : Nat) : l.getD i 0 < 4294967296 := by
  rcases Nat.lt_or_ge i l.length with h | h
  · rw [List.getD_eq_getElem?_getD, List.getElem?_eq_getElem h]; exact hl _ (List.getElem_mem h)
  · rw [List.getD_eq_getElem?_getD, List.getElem?_eq_none h]; simp

theorem getD_out {l : List Nat} {i : Nat} (h : l.length ≤ i) : l.getD i 0 = 0 := by rw [List.getD_eq_getElem?_getD, List.getElem?_eq_none h]; rfl

/-- One step of a sum. -/
theorem add_step {A B R c a b i : Nat} (h : R + c * 4294967296 ^ i = A + B) : R + 4294967296 ^ i * ((a + b + c) % 4294967296) + (a + b + c) / 4294967296 * 4294967296 ^ (i + 1) = A + 4294967296 ^ i * a + (B + 4294967296 ^ i * b) := by
  have e := Nat.div_add_mod (a + b + c) 4294967296
  have e2 : 4294967296 ^ i * (4294967296 * ((a + b + c) / 4294967296) + (a + b + c) % 4294967296) = 4294967296 ^ i * (a + b + c) := by rw [e]
  rw [Nat.mul_add, Nat.mul_add, Nat.mul_add] at e2
  rw [Nat.pow_succ, Nat.mul_comm ((a + b + c) / 4294967296) _, Nat.mul_assoc]
  rw [Nat.mul_comm c] at h
  omega

/-- One step of a difference. -/
theorem sub_step {A B R c a b i : Nat} (ha : a < 4294967296) (hb : b < 4294967296) (hc : c ≤ 1) (h : R + B = A + c * 4294967296 ^ i) :
    R + 4294967296 ^ i * ((a + 4294967296 - b - c) % 4294967296) + (B + 4294967296 ^ i * b) = A + 4294967296 ^ i * a + (if a < b + c then 1 else 0) * 4294967296 ^ (i + 1) := by
  have e : (a + 4294967296 - b - c) % 4294967296 + b + c = a + (if a < b + c then 1 else 0) * 4294967296 := by split <;> omega
  have e2 := congrArg (4294967296 ^ i * ·) e
  simp only [Nat.mul_add] at e2
  generalize hd : (if a < b + c then 1 else 0) = d at *
  rw [Nat.pow_succ, Nat.mul_comm d, Nat.mul_assoc, Nat.mul_comm 4294967296 d]
  rw [Nat.mul_comm c] at h
  omega

theorem val_drop_succ {l : List Nat} {k : Nat} (h : k < l.length) : val (l.drop k) = l.getD k 0 + 4294967296 * val (l.drop (k + 1)) := by
  rw [List.drop_eq_getElem_cons h, val, List.getD_eq_getElem?_getD, List.getElem?_eq_getElem h]
  rfl
theorem val_drop_pred {l : List Nat} {k : Nat} (h0 : 0 < k) (h : k ≤ l.length) : val (l.drop (k - 1)) = l.getD (k - 1) 0 + 4294967296 * val (l.drop k) := by
  rw [val_drop_succ (by omega), show k - 1 + 1 = k by omega]
theorem val_drop_set {l : List Nat} {k v : Nat} (h0 : 0 < k) (h : k ≤ l.length) : val ((l.set (k - 1) v).drop (k - 1)) = v + 4294967296 * val (l.drop k) := by
  rw [val_drop_pred h0 (by simpa using h), List.drop_set_of_lt (by omega)]
  congr 1
  simp [show k - 1 < l.length by omega]

/-- One step of a division by a small number. -/
theorem div_step {Q r d a L : Nat} (h : Q * d + r = L) : ((r * 4294967296 + a) / d + 4294967296 * Q) * d + (r * 4294967296 + a) % d = a + 4294967296 * L := by
  have e := Nat.div_add_mod (r * 4294967296 + a) d
  rw [Nat.add_mul, Nat.mul_comm _ d, Nat.mul_assoc]
  omega

theorem val_drop (l : List Nat) (k : Nat) : val (l.drop k) = l.getD k 0 + 4294967296 * val (l.drop (k + 1)) := by
  rcases Nat.lt_or_ge k l.length with h | h
  · exact val_drop_succ h
  · rw [List.drop_eq_nil_of_le h, List.drop_eq_nil_of_le (by omega), getD_out h]; rfl

theorem val_div {l : List Nat} (hl : ∀ x ∈ l, x < 4294967296) (i : Nat) : val l / 4294967296 ^ i = val (l.drop i) := by
  have h1 := val_append (l.take i) (l.drop i)
  rw [List.take_append_drop, List.length_take] at h1
  have h2 := val_lt (l := l.take i) fun x hx => hl x (List.mem_of_mem_take hx)
  rw [List.length_take] at h2
  rcases Nat.lt_or_ge i l.length with h | h
  · rw [Nat.min_eq_left (by omega)] at h1 h2
    rw [h1, Nat.add_mul_div_left _ _ (Nat.pow_pos (by omega)), Nat.div_eq_of_lt h2, Nat.zero_add]
  · rw [List.drop_eq_nil_of_le h]
    rw [Nat.div_eq_of_lt]
    · rfl
    · have := val_lt hl
      have := Nat.pow_le_pow_right (n := 4294967296) (by omega) h
      omega

theorem mod_pow_succ (X i : Nat) : X % 4294967296 ^ (i + 1) = X % 4294967296 ^ i + 4294967296 ^ i * (X / 4294967296 ^ i % 4294967296) := by
  rw [Nat.pow_succ]; exact Nat.mod_mul

/-- One limb of a number moved down. -/
theorem down_limb {l : List Nat} (hl : ∀ x ∈ l, x < 4294967296) (i k : Nat) (hk : k ≤ 32) : val l / 2 ^ k / 4294967296 ^ i % 4294967296 = (l.getD i 0 + l.getD (i + 1) 0 * 4294967296) / 2 ^ k % 4294967296 := by
  rw [Nat.div_div_eq_div_mul, Nat.mul_comm, ← Nat.div_div_eq_div_mul, val_div hl, val_drop, val_drop l (i + 1)]
  generalize l.getD i 0 = a
  generalize l.getD (i + 1) 0 = b
  generalize val (l.drop (i + 1 + 1)) = V
  have e : a + 4294967296 * (b + 4294967296 * V) = a + b * 4294967296 + 2 ^ k * (2 ^ (32 - k) * 4294967296 * V) := by
    have : 2 ^ k * 2 ^ (32 - k) = 4294967296 := by rw [← Nat.pow_add, show k + (32 - k) = 32 by omega]
    rw [← Nat.mul_assoc, ← Nat.mul_assoc, this]
    omega
  rw [e, Nat.add_mul_div_left _ _ (Nat.two_pow_pos k)]
  have : 2 ^ (32 - k) * 4294967296 * V = 4294967296 * (2 ^ (32 - k) * V) := by rw [Nat.mul_comm (2 ^ (32 - k)), Nat.mul_assoc]
  rw [this, Nat.add_mul_mod_self_left]

theorem val_set {l : List Nat} {i v : Nat} (h : i < l.length) : val (l.set i v) + 4294967296 ^ i * l.getD i 0 = val l + 4294967296 ^ i * v := by
  induction l generalizing i with
  | nil => simp at h
  | cons x l ih =>
    cases i with
    | zero => simp [val]; omega
    | succ i =>
      have := ih (i := i) (by simpa using h)
      simp only [List.set_cons_succ, val, List.getD_cons_succ, Nat.pow_succ]
      rw [Nat.mul_comm (4294967296 ^ i) 4294967296, Nat.mul_assoc, Nat.mul_assoc]
      omega
theorem getD_set_self {l : List Nat} {i v : Nat} (h : i < l.length) : (l.set i v).getD i 0 = v := by simp [h]
theorem getD_set_ne' {l : List Nat} {i j v : Nat} (h : i ≠ j) : (l.set i v).getD j 0 = l.getD j 0 := by
  rw [List.getD_eq_getElem?_getD, List.getElem?_set_ne h, List.getD_eq_getElem?_getD]

/-- A limb moved up: its low part. -/
theorem low_part (a k : Nat) (hk : k ≤ 32) : a * 2 ^ k % 4294967296 = 2 ^ k * (a % 2 ^ (32 - k)) := by
  rw [show (4294967296 : Nat) = 2 ^ k * 2 ^ (32 - k) by rw [← Nat.pow_add, show k + (32 - k) = 32 by omega], Nat.mul_comm a, Nat.mul_mod_mul_left]
theorem or_low {a k o : Nat} (hk : k ≤ 32) (ho : o < 2 ^ k) : o ||| a * 2 ^ k % 4294967296 = o + a * 2 ^ k % 4294967296 := by
  rw [low_part a k hk, Nat.or_comm, ← Nat.two_pow_add_eq_or_of_lt ho, Nat.add_comm]
theorem low_sum {a k o : Nat} (hk : k ≤ 32) (ho : o < 2 ^ k) : o + a * 2 ^ k % 4294967296 < 4294967296 := by
  rw [low_part a k hk]
  have h1 : a % 2 ^ (32 - k) + 1 ≤ 2 ^ (32 - k) := Nat.mod_lt _ (Nat.two_pow_pos _)
  have h2 := Nat.mul_le_mul_left (2 ^ k) h1
  rw [← Nat.pow_add, show k + (32 - k) = 32 by omega, Nat.mul_add, Nat.mul_one] at h2
  omega
theorem high_part {a k : Nat} (ha : a < 4294967296) : a * 2 ^ k / 4294967296 < 2 ^ k := by
  rw [Nat.div_lt_iff_lt_mul (by omega), Nat.mul_comm]
  exact Nat.mul_lt_mul_of_pos_left ha (Nat.two_pow_pos k)

theorem rep_getD (n j : Nat) : (List.replicate n 0).getD j 0 = 0 := by
  rw [List.getD_eq_getElem?_getD, List.getElem?_replicate]; split <;> rfl

theorem ext_getD {l m : List Nat} (h : l.length = m.length) (he : ∀ j, j < l.length → l.getD j 0 = m.getD j 0) : l = m := by
  refine List.ext_getElem h fun j h1 h2 => ?_
  have := he j h1
  simpa [List.getD_eq_getElem?_getD, List.getElem?_eq_getElem h1, List.getElem?_eq_getElem h2] using this
theorem getD_reverse {l : List Nat} {j : Nat} (h : j < l.length) : l.reverse.getD j 0 = l.getD (l.length - 1 - j) 0 := by
  rw [List.getD_eq_getElem?_getD, List.getElem?_reverse h, List.getD_eq_getElem?_getD]
end Go.Proofs.Pv

/- Digits of numbers. -/
namespace Go.Proofs.Pv

/-- A digit's letter. -/
def dch (d : Nat) : Nat := if d < 10 then 48 + d else 87 + d
/-- A letter's digit. -/
def dv (a : Nat) : Option Nat := if 48 ≤ a ∧ a ≤ 57 then some (a - 48) else if 97 ≤ a ||| 32 ∧ a ||| 32 ≤ 122 then some ((a ||| 32) - 97 + 10) else none

/-- Digits, the least first. -/
def digs (b n : Nat) : List Nat := if h : n = 0 ∨ b < 2 then [] else n % b :: digs b (n / b)
termination_by n
decreasing_by exact Nat.div_lt_self (by omega) (by omega)

theorem digs_zero (b : Nat) : digs b 0 = [] := by rw [digs]; simp
theorem digs_pos {b n : Nat} (hb : 2 ≤ b) (h : n ≠ 0) : digs b n = n % b :: digs b (n / b) := by rw [digs, dif_neg (by omega)]
theorem digs_lt {b : Nat} (hb : 2 ≤ b) (n : Nat) : ∀ d ∈ digs b n, d < b := by
  induction n using Nat.strongRecOn with
  | _ n ih =>
    by_cases h : n = 0
    · subst h; rw [digs_zero]; simp
    · rw [digs_pos hb h]
      intro d hd
      rcases List.mem_cons.1 hd with rfl | hd
      · exact Nat.mod_lt _ (by omega)
      · exact ih _ (Nat.div_lt_self (by omega) (by omega)) d hd

/-- A number's text. -/
def txt (b n : Nat) : List Nat := if n = 0 then [48] else ((digs b n).map dch).reverse

theorem digs_len {b n k : Nat} (hb : 2 ≤ b) (h : n < 2 ^ k) : (digs b n).length ≤ k := by
  induction k generalizing n with
  | zero => have : n = 0 := by simpa using h
            subst this; rw [digs_zero]; simp
  | succ k ih =>
    by_cases h0 : n = 0
    · subst h0; rw [digs_zero]; simp
    · rw [digs_pos hb h0, List.length_cons]
      have h2 : n / b ≤ n / 2 := Nat.div_le_div_left hb (by omega)
      have := ih (n := n / b) (by rw [Nat.pow_succ] at h; omega)
      omega
end Go.Proofs.Pv
