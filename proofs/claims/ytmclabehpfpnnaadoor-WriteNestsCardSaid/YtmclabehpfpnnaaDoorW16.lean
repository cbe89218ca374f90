/- The whole functions' walks, fifth part: what divides both; as a small number; out of a text. -/
import Derived.Test.YtmclabehpfpnnaaDoorW14
import Derived.Test.YtmclabehpfpnnaaDoorQ2
import Derived.Test.YtmclabehpfpnnaaDoorR8
import Derived.Test.YtmclabehpfpnnaaDoorM7
set_option linter.unusedSimpArgs false
set_option linter.unusedVariables false
namespace Go.Proofs.Pv
open Go Go.RowKit Go.Proofs
set_option maxRecDepth 20000

/-- A struct's cell is written to: what a slice holds stays. -/
theorem Nm.put {T : St} {x a a' : AV} {l m : List Nat} {r : Nat} {b b' : Bool} (h : Nm T x l) (hr : T[r]? = some (some [.val (.bool b), a])) (ha : Nm T a m) : Nm (T.set r (some [.val (.bool b'), a'])) x l := by
  refine ⟨?_, h.lt⟩
  have hs := h.sl
  cases x with
  | own r' o n c =>
    rw [sl_own_eq] at hs ⊢
    by_cases hrr : r' = r
    · subst hrr
      have hlt : r' < T.length := (List.getElem?_eq_some_iff.1 hr).1
      rw [hr] at hs
      rw [List.getElem?_set_self hlt]
      dsimp only at hs ⊢
      by_cases hc : c = 1
      · rw [if_pos hc] at hs ⊢
        split at hs
        · simp only [Option.some.injEq, Prod.mk.injEq, Nat.mul_one] at hs
          obtain ⟨h1, h2⟩ := hs
          match n, o with
          | 0, o => rw [if_pos (by simp)]; simp only [Nat.zero_mul, List.take_zero, Option.some.injEq, Prod.mk.injEq]; exact ⟨h1, by rw [← h2]; simp⟩
          | n + 1, 0 =>
            cases l with
            | nil => simp at h1
            | cons z l => simp [u32s] at h2
          | n + 1, 1 =>
            cases l with
            | nil => simp at h1
            | cons z l =>
              simp [u32s] at h2
              have := ha.sl
              rw [h2.1] at this
              exact absurd this (by unfold Pv.sl; simp)
          | n + 1, o + 2 => rename_i h3; simp at h3
        · simp at hs
      · rw [if_neg hc] at hs; simp at hs
    · rw [List.getElem?_set_ne (Ne.symm hrr)]; exact hs
  | val v =>
    cases v <;> first | exact hs | (rename_i p q r; cases p <;> first | exact hs | (cases q <;> cases r <;> exact hs))
  | _ => exact hs

def RwGcd (xs : List AV) (st : St) (K : AV → St → Prop) : Prop := ∃ x y s t l m, xs = [x, y] ∧ Wh st x s l ∧ Wh st y t m ∧ l.length ≤ 800 ∧ m.length ≤ 800 ∧ gotI st (Nat.gcd (val l) (val m) : Nat) K
end Go.Proofs.Pv

/- The document's whole numbers, third part: divisions. -/
namespace Go.Proofs.Pv
open Go Go.RowKit Go.Proofs
set_option maxRecDepth 20000

end Go.Proofs.Pv

/- The document's whole numbers, fourth part: what divides both. -/
namespace Go.Proofs.Pv
open Go Go.RowKit Go.Proofs
set_option maxRecDepth 20000

/-- A row that is kept whatever is written to two variables. -/
structure Keeps (st : St) (P : Nat) (T : St) (x : AV) (v : Nat) : Prop where
  all : ∀ (e : St) (b c : Option (List AV)), Ext T e → Got st ((e.set P b).set (P + 1) c) x v
section
variable {st S0 T T' T2 : St} {P v : Nat} {x : AV} {b c : Option (List AV)}
theorem Keeps.ext (h : Keeps st P T x v) (e : Ext T T') : Keeps st P T' x v := ⟨fun e' b c h2 => h.all e' b c (e.trans h2)⟩
theorem set_same (h : T[P]? = some b) : T.set P b = T := by
  apply List.ext_getElem?
  intro i
  by_cases hi : P = i
  · subst hi
    rw [List.getElem?_set_self (List.getElem?_eq_some_iff.1 h).1, h]
  · rw [List.getElem?_set_ne hi]
theorem Keeps.set (h : Keeps st P T x v) (h1 : P + 1 < T.length) (b c : Option (List AV)) : Keeps st P ((T.set P b).set (P + 1) c) x v := by
  refine ⟨?_⟩
  rintro e b' c' ⟨y, rfl⟩
  have e1 : (((T.set P b).set (P + 1) c ++ y).set P b').set (P + 1) c' = ((T ++ y).set P b').set (P + 1) c' := by
    apply List.ext_getElem?
    intro i
    by_cases hi : P + 1 = i
    · subst hi
      rw [List.getElem?_set_self (by simp; omega), List.getElem?_set_self (by simp; omega)]
    · rw [List.getElem?_set_ne hi, List.getElem?_set_ne hi]
      by_cases hj : P = i
      · subst hj
        rw [List.getElem?_set_self (by simp; omega), List.getElem?_set_self (by simp; omega)]
      · rw [List.getElem?_set_ne hj, List.getElem?_set_ne hj]
        by_cases hk : i < T.length
        · rw [List.getElem?_append_left (by simpa using hk), List.getElem?_append_left hk, List.getElem?_set_ne hi, List.getElem?_set_ne hj]
        · rw [List.getElem?_append_right (by simp; omega), List.getElem?_append_right (by omega)]; simp
  rw [e1]
  exact h.all _ _ _ (.add _)
theorem Keeps.got (h : Keeps st P T x v) (hP : T[P]? = some b) (hQ : T[P + 1]? = some c) : Got st T x v := by
  have := h.all T b c .refl
  rwa [set_same hP, set_same hQ] at this
theorem Keeps.old (h : Got st T2 x v) (e : Ext T2 T) (hP : T2.length ≤ P) : Keeps st P T x v := ⟨fun e' b c h2 => h.ext (((e.trans h2).set hP b).set (by omega) c)⟩
theorem Keeps.new (h : Got T T' x v) (e0 : Ext st T) (hP : st.length ≤ P) (h2 : P + 1 < T.length) : Keeps st P T' x v := ⟨fun e b c h3 => Got.pre ((e0.set hP b).set (by omega) c) (((h.ext h3).put (by omega) b).put (by simp; omega) c)⟩
end
end Go.Proofs.Pv

/- The whole functions' walks, sixth part: as a small number. -/
namespace Go.Proofs.Pv
open Go Go.RowKit Go.Proofs
set_option maxRecDepth 20000

def smB (z : Int) : Bool := decide (-9223372036854775808 ≤ z ∧ z ≤ 9223372036854775807)
def smZ (z : Int) : Int := if -9223372036854775808 ≤ z ∧ z ≤ 9223372036854775807 then z else 0
def RwSmall (xs : List AV) (st : St) (K : AV → St → Prop) : Prop := ∃ x s l, xs = [x] ∧ Wh st x s l ∧ l.length ≤ 1000 ∧
  ∀ st', Ext st st' → K (.tup [.val (.int .i64 (smZ (iv s (val l)))), .val (.bool (smB (iv s (val l))))]) st'
end Go.Proofs.Pv
