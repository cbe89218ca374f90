/- Plain numbers in limbs. -/
import Derived.Test.YtmclabehpfpnnaaDoorE3
import Derived.IntWalk
set_option linter.unusedSimpArgs false
set_option linter.unusedVariables false
namespace Go.Proofs.Pv

/-- A row's number. -/
def val : List Nat → Nat
  | [] => 0
  | x :: l => x + 4294967296 * val l

/-- A number's row: no limb of 0 at its end. -/
def limbs (n : Nat) : List Nat := if h : n = 0 then [] else n % 4294967296 :: limbs (n / 4294967296)
termination_by n
decreasing_by omega

theorem limbs_zero : limbs 0 = [] := by unfold limbs; simp
theorem limbs_pos {n : Nat} (h : n ≠ 0) : limbs n = n % 4294967296 :: limbs (n / 4294967296) := by rw [limbs]; simp [h]

theorem val_limbs (n : Nat) : val (limbs n) = n := by
  induction n using Nat.strongRecOn with
  | _ n ih =>
    by_cases h : n = 0
    · subst h; rw [limbs_zero]; rfl
    · rw [limbs_pos h, val, ih _ (by omega)]; omega

theorem limbs_lt (n : Nat) : ∀ x ∈ limbs n, x < 4294967296 := by
  induction n using Nat.strongRecOn with
  | _ n ih =>
    by_cases h : n = 0
    · subst h; rw [limbs_zero]; simp
    · rw [limbs_pos h]
      intro x hx
      rcases List.mem_cons.1 hx with rfl | hx
      · omega
      · exact ih _ (by omega) x hx

theorem val_append (l m : List Nat) : val (l ++ m) = val l + 4294967296 ^ l.length * val m := by
  induction l with
  | nil => simp [val]
  | cons x l ih => simp only [List.cons_append, val, ih, List.length_cons, Nat.pow_succ, Nat.mul_add]; rw [Nat.mul_comm (4294967296 ^ l.length) 4294967296, Nat.mul_assoc]; omega

theorem val_zeros (n : Nat) : val (List.replicate n 0) = 0 := by
  induction n with
  | zero => rfl
  | succ n ih => rw [List.replicate_succ, val, ih]

theorem val_lt {l : List Nat} (h : ∀ x ∈ l, x < 4294967296) : val l < 4294967296 ^ l.length := by
  induction l with
  | nil => simp [val]
  | cons x l ih =>
    have h1 := h x (by simp)
    have h2 := ih fun y hy => h y (by simp [hy])
    rw [val, List.length_cons, Nat.pow_succ]
    omega

theorem val_all_zero {l : List Nat} (h : ∀ x ∈ l, x = 0) : val l = 0 := by
  induction l with
  | nil => rfl
  | cons x l ih => rw [val, ih fun y hy => h y (by simp [hy]), h x (by simp)]

/-- A row without a limb of 0 at its end is its number's. -/
theorem limbs_val {l : List Nat} (h : ∀ x ∈ l, x < 4294967296) (ht : ∀ x, l.getLast? = some x → x ≠ 0) : limbs (val l) = l := by
  induction l with
  | nil => exact limbs_zero
  | cons x l ih =>
    have h1 := h x (by simp)
    have h2 := ih (fun y hy => h y (by simp [hy])) (fun y hy => ht y (by
      cases l with
      | nil => simp at hy
      | cons z l => rw [List.getLast?_cons_cons]; exact hy))
    have hne : val (x :: l) ≠ 0 := by
      rw [val]
      intro h0
      have hx : x = 0 := by omega
      have hl : val l = 0 := by omega
      rw [hl, limbs_zero] at h2
      subst h2
      exact ht x (by simp) hx
    rw [limbs_pos hne, val]
    congr 1
    · omega
    · rw [show (x + 4294967296 * val l) / 4294967296 = val l by omega]; exact h2

/-- What is left without the noughts at its end. -/
theorem limbs_take {l : List Nat} {m : Nat} (h : ∀ x ∈ l, x < 4294967296) (hm : m ≤ l.length) (hz : ∀ j, m ≤ j → j < l.length → l.getD j 0 = 0) (ht : m = 0 ∨ l.getD (m - 1) 0 ≠ 0) : limbs (val l) = l.take m := by
  have e : val l = val (l.take m) := by
    have := val_append (l.take m) (l.drop m)
    rw [List.take_append_drop] at this
    rw [this, val_all_zero (l := l.drop m), Nat.mul_zero, Nat.add_zero]
    intro x hx
    obtain ⟨j, hj⟩ := List.mem_iff_getElem?.1 hx
    rw [List.getElem?_drop] at hj
    have hlt : m + j < l.length := (List.getElem?_eq_some_iff.1 hj).1
    have := hz (m + j) (by omega) hlt
    rw [List.getD_eq_getElem?_getD, hj] at this
    exact this
  rw [e]
  refine limbs_val (fun x hx => h x (List.mem_of_mem_take hx)) fun x hx => ?_
  have hm0 : m ≠ 0 := by
    rintro rfl
    simp at hx
  rcases ht with rfl | ht
  · exact absurd rfl hm0
  · rw [List.getLast?_eq_getElem?, List.length_take, Nat.min_eq_left hm, List.getElem?_take_of_lt (by omega)] at hx
    rw [List.getD_eq_getElem?_getD, hx] at ht
    exact ht

theorem limbs_cut {l : List Nat} (h : ∀ x ∈ l, x < 4294967296) : l.take (limbs (val l)).length = limbs (val l) := by
  have key : ∀ m, m ≤ l.length → (∀ j, m ≤ j → j < l.length → l.getD j 0 = 0) → l.take (limbs (val l)).length = limbs (val l) := by
    intro m
    induction m with
    | zero => intro _ hz; rw [limbs_take h (Nat.zero_le _) (fun j _ hj => hz j (Nat.zero_le _) hj) (.inl rfl)]; simp
    | succ m ih =>
      intro hm hz
      by_cases h0 : l.getD m 0 = 0
      · exact ih (by omega) fun j hj hjl => by
          by_cases hjm : j = m
          · subst hjm; exact h0
          · exact hz j (by omega) hjl
      · rw [limbs_take h hm hz (.inr h0)]; simp [Nat.min_eq_left hm]
  exact key l.length (Nat.le_refl _) fun j hj hjl => by omega

theorem limbs_len {l : List Nat} (h : ∀ x ∈ l, x < 4294967296) : (limbs (val l)).length ≤ l.length := by
  -- the last one that is not 0
  have key : ∀ m, m ≤ l.length → (∀ j, m ≤ j → j < l.length → l.getD j 0 = 0) → (limbs (val l)).length ≤ l.length := by
    intro m
    induction m with
    | zero => intro _ hz; rw [limbs_take h (Nat.zero_le _) (fun j _ hj => hz j (Nat.zero_le _) hj) (.inl rfl)]; simp
    | succ m ih =>
      intro hm hz
      by_cases h0 : l.getD m 0 = 0
      · exact ih (by omega) fun j hj hjl => by
          by_cases hjm : j = m
          · subst hjm; exact h0
          · exact hz j (by omega) hjl
      · rw [limbs_take h hm hz (.inr h0)]; simp; omega
  exact key l.length (Nat.le_refl _) fun j hj hjl => by omega

theorem limbs_ge {n : Nat} (h : n ≠ 0) : 4294967296 ^ ((limbs n).length - 1) ≤ n := by
  induction n using Nat.strongRecOn with
  | _ n ih =>
    rw [limbs_pos h, List.length_cons, Nat.add_sub_cancel]
    by_cases h2 : n / 4294967296 = 0
    · rw [h2, limbs_zero]; simp; omega
    · have h3 := ih _ (by omega) h2
      have h4 : (limbs (n / 4294967296)).length = (limbs (n / 4294967296)).length - 1 + 1 := by
        rw [limbs_pos h2]; simp
      rw [h4, Nat.pow_succ]
      have := Nat.mul_le_mul_right 4294967296 h3
      omega

theorem limbs_len_lt {a b : Nat} (h : (limbs a).length < (limbs b).length) : a < b := by
  have hb : b ≠ 0 := by rintro rfl; rw [limbs_zero] at h; simp at h
  have h1 := limbs_ge hb
  have h2 := val_lt (limbs_lt a)
  rw [val_limbs] at h2
  have := Nat.pow_le_pow_right (n := 4294967296) (by omega) (show (limbs a).length ≤ (limbs b).length - 1 by omega)
  omega

theorem limbs_len_mono {a b : Nat} (h : a ≤ b) : (limbs a).length ≤ (limbs b).length := by
  rcases Nat.lt_or_ge (limbs b).length (limbs a).length with h1 | h1
  · have := limbs_len_lt h1; omega
  · exact h1

theorem limbs_len_le {a k : Nat} (h : a < 4294967296 ^ k) : (limbs a).length ≤ k := by
  rcases Nat.eq_zero_or_pos a with rfl | h0
  · rw [limbs_zero]; simp
  · have h1 := limbs_ge (show a ≠ 0 by omega)
    rcases Nat.lt_or_ge k (limbs a).length with h2 | h2
    · have := Nat.pow_le_pow_right (n := 4294967296) (by omega) (show k ≤ (limbs a).length - 1 by omega)
      omega
    · exact h2

theorem val_take_succ (l : List Nat) (i : Nat) : val (l.take (i + 1)) = val (l.take i) + 4294967296 ^ i * l.getD i 0 := by
  rcases Nat.lt_or_ge i l.length with h | h
  · rw [List.take_succ_eq_append_getElem h, val_append, List.length_take, Nat.min_eq_left (by omega), List.getD_eq_getElem?_getD, List.getElem?_eq_getElem h]
    simp [val]
  · rw [List.take_of_length_le (by omega), List.take_of_length_le h, List.getD_eq_getElem?_getD, List.getElem?_eq_none h]
    simp

theorem val_take_set {l : List Nat} {i v : Nat} (h : i < l.length) : val ((l.set i v).take (i + 1)) = val (l.take i) + 4294967296 ^ i * v := by
  rw [val_take_succ, List.take_set_of_le (by omega)]
  congr 2
  simp [h]

theorem set_lt {l : List Nat} {i v b : Nat} (hl : ∀ x ∈ l, x < b) (hv : v < b) : ∀ x ∈ l.set i v, x < b := by
  intro x hx
  rcases List.mem_or_eq_of_mem_set hx with h | h
  · exact hl x h
  · rw [h]; exact hv

theorem rep_lt {n b : Nat} (hb : 0 < b) : ∀ x ∈ List.replicate n 0, x < b := by
  intro x hx
  rw [(List.mem_replicate.1 hx).2]; exact hb

theorem getD_lt {l : List Nat} (hl : ∀ x ∈ l, x < 4294967296) (i : Nat) : l.getD i 0 < 4294967296 := by
  rcases Nat.lt_or_ge i l.length with h | h
  · rw [List.getD_eq_getElem?_getD, List.getElem?_eq_getElem h]; exact hl _ (List.getElem_mem h)
  · rw [List.getD_eq_getElem?_getD, List.getElem?_eq_none h]; simp

theorem getD_out {l : List Nat} {i : Nat} (h : l.length ≤ i) : l.getD i 0 = 0 := by rw [List.getD_eq_getElem?_getD, List.getElem?_eq_none h]; rfl

/-- One step of a sum. -/
theorem add_step {A B R c a b i : Nat} (h : R + c * 4294967296 ^ i = A + B) : R + 4294967296 ^ i * ((a + b + c) % 4294967296) + (a + b + c) / 4294967296 * 4294967296 ^ (i + 1) = A + 4294967296 ^ i * a + (B + 4294967296 ^ i * b) := by
  have e := Nat.div_add_mod (a + b + c) 4294967296
  have e2 : 4294967296 ^ i * (4294967296 * ((a + b + c) / 4294967296) + (a + b + c) % 4294967296) = 4294967296 ^ i * (a + b + c) := by rw [e]
  rw [Nat.mul_add, Nat.mul_add, Nat.mul_add] at e2
  rw [Nat.pow_succ, Nat.mul_comm ((a + b + c) / 4294967296) _, Nat.mul_assoc]
  rw [Nat.mul_comm c] at h
  omega

theorem val_drop_succ {l : List Nat} {k : Nat} (h : k < l.length) : val (l.drop k) = l.getD k 0 + 4294967296 * val (l.drop (k + 1)) := by
  rw [List.drop_eq_getElem_cons h, val, List.getD_eq_getElem?_getD, List.getElem?_eq_getElem h]
  rfl
theorem val_drop_pred {l : List Nat} {k : Nat} (h0 : 0 < k) (h : k ≤ l.length) : val (l.drop (k - 1)) = l.getD (k - 1) 0 + 4294967296 * val (l.drop k) := by
  rw [val_drop_succ (by omega), show k - 1 + 1 = k by omega]
theorem val_drop_set {l : List Nat} {k v : Nat} (h0 : 0 < k) (h : k ≤ l.length) : val ((l.set (k - 1) v).drop (k - 1)) = v + 4294967296 * val (l.drop k) := by
  rw [val_drop_pred h0 (by simpa using h), List.drop_set_of_lt (by omega)]
  congr 1
  simp [show k - 1 < l.length by omega]

/-- One step of a division by a small number. -/
theorem div_step {Q r d a L : Nat} (h : Q * d + r = L) : ((r * 4294967296 + a) / d + 4294967296 * Q) * d + (r * 4294967296 + a) % d = a + 4294967296 * L := by
  have e := Nat.div_add_mod (r * 4294967296 + a) d
  rw [Nat.add_mul, Nat.mul_comm _ d, Nat.mul_assoc]
  omega

theorem val_set {l : List Nat} {i v : Nat} (h : i < l.length) : val (l.set i v) + 4294967296 ^ i * l.getD i 0 = val l + 4294967296 ^ i * v := by
  induction l generalizing i with
  | nil => simp at h
  | cons x l ih =>
    cases i with
    | zero => simp [val]; omega
    | succ i =>
      have := ih (i := i) (by simpa using h)
      simp only [List.set_cons_succ, val, List.getD_cons_succ, Nat.pow_succ]
      rw [Nat.mul_comm (4294967296 ^ i) 4294967296, Nat.mul_assoc, Nat.mul_assoc]
      omega
theorem getD_set_self {l : List Nat} {i v : Nat} (h : i < l.length) : (l.set i v).getD i 0 = v := by simp [h]
theorem getD_set_ne' {l : List Nat} {i j v : Nat} (h : i ≠ j) : (l.set i v).getD j 0 = l.getD j 0 := by
  rw [List.getD_eq_getElem?_getD, List.getElem?_set_ne h, List.getD_eq_getElem?_getD]

theorem ext_getD {l m : List Nat} (h : l.length = m.length) (he : ∀ j, j < l.length → l.getD j 0 = m.getD j 0) : l = m := by
  refine List.ext_getElem h fun j h1 h2 => ?_
  have := he j h1
  simpa [List.getD_eq_getElem?_getD, List.getElem?_eq_getElem h1, List.getElem?_eq_getElem h2] using this
theorem getD_reverse {l : List Nat} {j : Nat} (h : j < l.length) : l.reverse.getD j 0 = l.getD (l.length - 1 - j) 0 := by
  rw [List.getD_eq_getElem?_getD, List.getElem?_reverse h, List.getD_eq_getElem?_getD]
end Go.Proofs.Pv

/- Digits of numbers. -/
namespace Go.Proofs.Pv

/-- A digit's letter. -/
def dch (d : Nat) : Nat := if d < 10 then 48 + d else 87 + d
/-- A letter's digit. -/
def dv (a : Nat) : Option Nat := if 48 ≤ a ∧ a ≤ 57 then some (a - 48) else if 97 ≤ a ||| 32 ∧ a ||| 32 ≤ 122 then some ((a ||| 32) - 97 + 10) else none

theorem dv_all : (List.range 256).all (fun a => dv a == if 48 ≤ a ∧ a ≤ 57 then some (a - 48) else if 97 ≤ a ∧ a ≤ 122 then some (a - 87) else if 65 ≤ a ∧ a ≤ 90 then some (a - 55) else none) = true := by decide +kernel
/-- A letter's digit, letters of either size. -/
theorem dv_eq {a : Nat} (h : a < 256) : dv a = if 48 ≤ a ∧ a ≤ 57 then some (a - 48) else if 97 ≤ a ∧ a ≤ 122 then some (a - 87) else if 65 ≤ a ∧ a ≤ 90 then some (a - 55) else none := by
  simpa using List.all_eq_true.1 dv_all a (List.mem_range.2 h)

/-- Digits, the least first. -/
def digs (b n : Nat) : List Nat := if h : n = 0 ∨ b < 2 then [] else n % b :: digs b (n / b)
termination_by n
decreasing_by exact Nat.div_lt_self (by omega) (by omega)

theorem digs_zero (b : Nat) : digs b 0 = [] := by rw [digs]; simp
theorem digs_pos {b n : Nat} (hb : 2 ≤ b) (h : n ≠ 0) : digs b n = n % b :: digs b (n / b) := by rw [digs, dif_neg (by omega)]
theorem digs_lt {b : Nat} (hb : 2 ≤ b) (n : Nat) : ∀ d ∈ digs b n, d < b := by
  induction n using Nat.strongRecOn with
  | _ n ih =>
    by_cases h : n = 0
    · subst h; rw [digs_zero]; simp
    · rw [digs_pos hb h]
      intro d hd
      rcases List.mem_cons.1 hd with rfl | hd
      · exact Nat.mod_lt _ (by omega)
      · exact ih _ (Nat.div_lt_self (by omega) (by omega)) d hd

/-- A number's text. -/
def txt (b n : Nat) : List Nat := if n = 0 then [48] else ((digs b n).map dch).reverse

theorem digs_len {b n k : Nat} (hb : 2 ≤ b) (h : n < 2 ^ k) : (digs b n).length ≤ k := by
  induction k generalizing n with
  | zero => have : n = 0 := by simpa using h
            subst this; rw [digs_zero]; simp
  | succ k ih =>
    by_cases h0 : n = 0
    · subst h0; rw [digs_zero]; simp
    · rw [digs_pos hb h0, List.length_cons]
      have h2 : n / b ≤ n / 2 := Nat.div_le_div_left hb (by omega)
      have := ih (n := n / b) (by rw [Nat.pow_succ] at h; omega)
      omega
end Go.Proofs.Pv

/- Bits of numbers of 32 and of 64. -/
namespace Go.Proofs.Pv
open Go Go.RowKit

theorem ofInt_nat (w n : Nat) : BitVec.ofInt w (n : Int) = BitVec.ofNat w n := by
  apply BitVec.eq_of_toInt_eq
  simp

section
variable {a b : Nat}
theorem or64 (ha : a < 18446744073709551616) (hb : b < 18446744073709551616) : bitV .or .u64 (a : Int) (b : Int) = ((a ||| b : Nat) : Int) := by
  have h : a ||| b < 18446744073709551616 := Nat.or_lt_two_pow (n := 64) ha hb
  unfold bitV
  dsimp only
  rw [ofInt_nat, ofInt_nat, BitVec.toNat_or, BitVec.toNat_ofNat, BitVec.toNat_ofNat, show IntKind.u64.bits = 64 from rfl, Nat.mod_eq_of_lt ha, Nat.mod_eq_of_lt hb]
  exact IntWalk.u64_in _ (by omega)
theorem or8 (ha : a < 256) (hb : b < 256) : bitV .or .u8 (a : Int) (b : Int) = ((a ||| b : Nat) : Int) := by
  have h : a ||| b < 256 := Nat.or_lt_two_pow (n := 8) ha hb
  unfold bitV
  dsimp only
  rw [ofInt_nat, ofInt_nat, BitVec.toNat_or, BitVec.toNat_ofNat, BitVec.toNat_ofNat, show IntKind.u8.bits = 8 from rfl, Nat.mod_eq_of_lt ha, Nat.mod_eq_of_lt hb]
  exact IntWalk.u8_in _ (by omega)

theorem or_add {a b : Nat} (hb : b < 4294967296) : a * 4294967296 ||| b = a * 4294967296 + b := by
  rw [Nat.mul_comm]; exact (Nat.two_pow_add_eq_or_of_lt (i := 32) hb a).symm
/-- How many bits. -/
def blen (n : Nat) : Nat := if n = 0 then 0 else n.log2 + 1
theorem blen_lt (n : Nat) : n < 2 ^ blen n := by
  unfold blen
  split
  · omega
  · exact Nat.lt_log2_self
theorem blen_ge {n : Nat} (h : n ≠ 0) : 2 ^ (blen n - 1) ≤ n := by
  unfold blen
  rw [if_neg h, Nat.add_sub_cancel]
  exact Nat.log2_self_le h
theorem blen_le {n k : Nat} (h : n < 2 ^ k) : blen n ≤ k := by
  by_cases h0 : n = 0
  · subst h0; simp [blen]
  · have h1 := blen_ge h0
    rcases Nat.lt_or_ge k (blen n) with h2 | h2
    · have := Nat.pow_le_pow_right (n := 2) (by omega) (show k ≤ blen n - 1 by omega); omega
    · exact h2
theorem blen_eq {n k : Nat} (h1 : n < 2 ^ k) (h2 : 2 ^ (k - 1) ≤ n) (hk : k ≠ 0) : blen n = k := by
  have h3 := blen_le h1
  rcases Nat.lt_or_ge (blen n) k with h4 | h4
  · have := Nat.pow_le_pow_right (n := 2) (by omega) (show blen n ≤ k - 1 by omega)
    have := blen_lt n
    omega
  · omega
theorem blen_pos {n : Nat} (h : n ≠ 0) : 0 < blen n := by unfold blen; rw [if_neg h]; omega
theorem blen_shift {n k : Nat} (h : 2 ^ k ≤ n) : blen n = blen (n / 2 ^ k) + k := by
  have h0 : n ≠ 0 := by have := Nat.two_pow_pos k; omega
  have hq : n / 2 ^ k ≠ 0 := by have := Nat.div_pos h (Nat.two_pow_pos k); omega
  have h1 := blen_lt (n / 2 ^ k)
  have h2 := blen_ge hq
  have hp := blen_pos hq
  refine blen_eq ?_ ?_ (by omega)
  · rw [Nat.pow_add]; exact (Nat.div_lt_iff_lt_mul (Nat.two_pow_pos k)).1 h1
  · rw [show blen (n / 2 ^ k) + k - 1 = blen (n / 2 ^ k) - 1 + k by omega, Nat.pow_add]
    exact (Nat.le_div_iff_mul_le (Nat.two_pow_pos k)).1 h2

end
end Go.Proofs.Pv

/- Bits of rows. -/
namespace Go.Proofs.Pv

theorem blen_limbs (n : Nat) : blen n = if (limbs n).length = 0 then 0 else 32 * ((limbs n).length - 1) + blen ((limbs n).getD ((limbs n).length - 1) 0) := by
  induction n using Nat.strongRecOn with
  | _ n ih =>
    by_cases h : n = 0
    · subst h; rw [limbs_zero]; rfl
    · rw [limbs_pos h]
      simp only [List.length_cons, Nat.add_sub_cancel]
      rw [if_neg (by omega)]
      by_cases h2 : n / 4294967296 = 0
      · rw [h2, limbs_zero]
        simp only [List.length_nil, Nat.mul_zero, Nat.zero_add]
        rw [show n % 4294967296 = n by omega]
        rfl
      · have h3 := ih (n / 4294967296) (by omega)
        rw [blen_shift (show 2 ^ 32 ≤ n by omega), show (2 : Nat) ^ 32 = 4294967296 from rfl, h3]
        have h4 : (limbs (n / 4294967296)).length = (limbs (n / 4294967296)).length - 1 + 1 := by rw [limbs_pos h2]; simp
        rw [if_neg (by omega)]
        have h5 : (n % 4294967296 :: limbs (n / 4294967296)).getD (limbs (n / 4294967296)).length 0 = (limbs (n / 4294967296)).getD ((limbs (n / 4294967296)).length - 1) 0 := by
          conv => lhs; rw [h4]
          rfl
        rw [h5]
        omega
end Go.Proofs.Pv

/- One digit of a long division. -/
namespace Go.Proofs.Pv

section
variable {P v1 v2 V' u2 U' top g r q : Nat}

end

end Go.Proofs.Pv
