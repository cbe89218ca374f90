/- The nat functions' walks, fifth part. -/
import Derived.Test.YtmclabehpfpnnaaGreatDoorW4
set_option linter.unusedSimpArgs false
set_option linter.unusedVariables false
namespace Go.Proofs.Pv
open Go Go.RowKit Go.Proofs
set_option maxRecDepth 10000

/-- A number moved by n bits, not more than 4096. -/
def shiftV (v : Nat) (n : Int) : Nat := if n < 0 then v / 2 ^ (min (-n) 4096).toNat else v * 2 ^ (min n 4096).toNat

theorem pow_32 (n : Nat) : 4294967296 ^ (n / 32) * 2 ^ (n % 32) = 2 ^ n := by
  rw [show (4294967296 : Nat) = 2 ^ 32 from rfl, ← Nat.pow_mul, ← Nat.pow_add, Nat.div_add_mod]

def RShift (xs : List AV) (st : St) (K : AV → St → Prop) : Prop := ∃ x l n, xs = [x, .val (.int .i64 n)] ∧ Nm st x l ∧ l.length ≤ 10000 ∧ -9223372036854775808 ≤ n ∧ n ≤ 9223372036854775807 ∧ fresh st (shiftV (val l) n) K
theorem s_Shift : PSpec Tryz.prog 104 RShift := by
  refine fspec_of (fn := Tryz.f104) 2 [.tmp 4] (by kernel_rfl) rfl rfl (by kernel_rfl) mixed (by rintro _ _ _ ⟨x, l, n, rfl, _⟩; rfl) ?_
  rintro X _ st K hP hst ⟨x, l, n, rfl, hx, hl, hn1, hn2, hK⟩
  refine vc_V ?_
  have h1 := hx.sl
  simp (disch:=first|assumption|omega|(simp only [lens];omega)) only [eqs,↓gvd_succ,↓gvd_zero,↓and_of,im_of,im_of trivial,vlt,hP,hst,initS,Nat.reduceBEq,Nat.reduceAdd,Nat.reduceMul,Nat.reduceSub,Nat.reduceDiv,Nat.reduceMod,Nat.reducePow,Nat.reduceLT,Nat.reduceLeDiff,Nat.reduceEqDiff,Int.reduceAdd,Int.reduceSub,Int.reduceNeg,Int.reduceMul,Int.reduceToNat,Int.reducePow,Int.reduceLE,Int.reduceLT,Int.reduceEq,Int.reduceNe,reduceIte,reduceCtorEq,ne_eq,not_true_eq_false,not_false_eq_true,imp_self,implies_true,bls,eq_self,h1]
  generalize hn' : (if -4096 > if 4096 < n then 4096 else n then -4096 else if 4096 < n then 4096 else n) = n'
  have hb : -4096 ≤ n' ∧ n' ≤ 4096 := by rw [← hn']; split <;> split <;> omega
  have hs : shiftV (val l) n = if n' < 0 then val l / 2 ^ (-n').toNat else val l * 2 ^ n'.toNat := by
    unfold shiftV
    have : (n' < 0 ↔ n < 0) ∧ (n < 0 → min (-n) 4096 = -n') ∧ (¬n < 0 → min n 4096 = n') := by
      rw [← hn']; refine ⟨?_, fun _ => ?_, fun _ => ?_⟩ <;> split <;> split <;> omega
    by_cases h2 : n < 0
    · rw [if_pos h2, if_pos (this.1.2 h2), this.2.1 h2]
    · rw [if_neg h2, if_neg (fun h3 => h2 (this.1.1 h3)), this.2.2 h2]
  rw [hs] at hK
  clear hs hn'
  refine C_dec (fun h => ?_) (fun h => ?_)
  · rw [if_pos h] at hK
    simp (disch:=first|assumption|omega|(simp only [lens];omega)) only [eqs,↓gvd_succ,↓gvd_zero,↓and_of,im_of,im_of trivial,vlt,hP,hst,initS,Nat.reduceBEq,Nat.reduceAdd,Nat.reduceMul,Nat.reduceSub,Nat.reduceDiv,Nat.reduceMod,Nat.reducePow,Nat.reduceLT,Nat.reduceLeDiff,Nat.reduceEqDiff,Int.reduceAdd,Int.reduceSub,Int.reduceNeg,Int.reduceMul,Int.reduceToNat,Int.reducePow,Int.reduceLE,Int.reduceLT,Int.reduceEq,Int.reduceNe,reduceIte,reduceCtorEq,ne_eq,not_true_eq_false,not_false_eq_true,imp_self,implies_true,bls,eq_self]
    refine E_call (hP ▸ s_trim) ⟨_, _, rfl, hx, by omega, ?_⟩
    have hl2 := limbs_len hx.lt
    obtain ⟨k, rfl⟩ : ∃ k : Nat, n' = -(k : Int) := ⟨(-n').toNat, by omega⟩
    rw [show (-(-(k : Int))).toNat = k by omega] at hK
    simp (disch:=first|assumption|omega|(simp only [lens];omega)) only [eqs,↓gvd_succ,↓gvd_zero,↓and_of,im_of,im_of trivial,vlt,hP,hst,initS,Nat.reduceBEq,Nat.reduceAdd,Nat.reduceMul,Nat.reduceSub,Nat.reduceDiv,Nat.reduceMod,Nat.reducePow,Nat.reduceLT,Nat.reduceLeDiff,Nat.reduceEqDiff,Int.reduceAdd,Int.reduceSub,Int.reduceNeg,Int.reduceMul,Int.reduceToNat,Int.reducePow,Int.reduceLE,Int.reduceLT,Int.reduceEq,Int.reduceNe,reduceIte,reduceCtorEq,ne_eq,not_true_eq_false,not_false_eq_true,imp_self,implies_true,bls,eq_self,show (0 : Int) - -(k : Int) = k by omega]
    refine E_call (hP ▸ s_down) ⟨_, _, k, rfl, hx.trim, by omega, by omega, ?_⟩
    rw [val_limbs]
    intro rest hrest
    simp (disch:=first|assumption|omega|(simp only [lens];omega)) only [eqs,↓gvd_succ,↓gvd_zero,↓and_of,im_of,im_of trivial,vlt,hP,hst,initS,Nat.reduceBEq,Nat.reduceAdd,Nat.reduceMul,Nat.reduceSub,Nat.reduceDiv,Nat.reduceMod,Nat.reducePow,Nat.reduceLT,Nat.reduceLeDiff,Nat.reduceEqDiff,Int.reduceAdd,Int.reduceSub,Int.reduceNeg,Int.reduceMul,Int.reduceToNat,Int.reducePow,Int.reduceLE,Int.reduceLT,Int.reduceEq,Int.reduceNe,reduceIte,reduceCtorEq,ne_eq,not_true_eq_false,not_false_eq_true,imp_self,implies_true,bls,eq_self]
    exact hK rest hrest
  · rw [if_neg h] at hK
    obtain ⟨k, rfl⟩ : ∃ k : Nat, n' = (k : Int) := ⟨n'.toNat, by omega⟩
    rw [show ((k : Int)).toNat = k by omega] at hK
    have h2 := hx.grow
    simp (disch:=first|assumption|omega|(simp only [lens];omega)) only [eqs,↓gvd_succ,↓gvd_zero,↓and_of,im_of,im_of trivial,vlt,hP,hst,initS,Nat.reduceBEq,Nat.reduceAdd,Nat.reduceMul,Nat.reduceSub,Nat.reduceDiv,Nat.reduceMod,Nat.reducePow,Nat.reduceLT,Nat.reduceLeDiff,Nat.reduceEqDiff,Int.reduceAdd,Int.reduceSub,Int.reduceNeg,Int.reduceMul,Int.reduceToNat,Int.reducePow,Int.reduceLE,Int.reduceLT,Int.reduceEq,Int.reduceNe,reduceIte,reduceCtorEq,ne_eq,not_true_eq_false,not_false_eq_true,imp_self,implies_true,bls,eq_self,h1,h2]
    refine V_loop (ι := Nat × List Nat) (fun e => [(33, .val (.int .i64 (e.1 : Int))), (32, .val (.int .i64 (l.length : Int))), (31, x), (7, .own st.length 0 (l.length + k / 32 + 1) 1), (6, .val (.int .i64 ((k % 32 : Nat) : Int))), (5, .val (.int .i64 ((k / 32 : Nat) : Int))), (0, x)])
      (fun e => st ++ [some (u32s e.2)]) (fun e => e.1 ≤ l.length ∧ e.2.length = l.length + k / 32 + 1 ∧ (∀ z ∈ e.2, z < 4294967296) ∧ val e.2 = val (l.take e.1) * 2 ^ k ∧ e.2.getD (e.1 + k / 32) 0 < 2 ^ (k % 32) ∧ ∀ j, e.1 + k / 32 < j → e.2.getD j 0 = 0) (fun e => l.length - e.1)
      (0, List.replicate (l.length + k / 32 + 1) 0) ⟨by simp, by simp, rep_lt (by simp), by simp [val, val_zeros], ?_, ?_⟩ rfl (by simp (disch:=first|assumption|omega|(simp only [lens];omega)) only [eqs,↓gvd_succ,↓gvd_zero,↓and_of,im_of,im_of trivial,vlt,hP,hst,initS,Nat.reduceBEq,Nat.reduceAdd,Nat.reduceMul,Nat.reduceSub,Nat.reduceDiv,Nat.reduceMod,Nat.reducePow,Nat.reduceLT,Nat.reduceLeDiff,Nat.reduceEqDiff,Int.reduceAdd,Int.reduceSub,Int.reduceNeg,Int.reduceMul,Int.reduceToNat,Int.reducePow,Int.reduceLE,Int.reduceLT,Int.reduceEq,Int.reduceNe,reduceIte,reduceCtorEq,ne_eq,not_true_eq_false,not_false_eq_true,imp_self,implies_true,bls,eq_self]) ?_
    · dsimp only; rw [rep_getD]; exact Nat.two_pow_pos _
    · intro j hj; exact rep_getD _ _
    rintro ⟨i, row⟩ ⟨hi, hr, hrl, hv, ho, hz⟩
    dsimp only at hi hr hrl hv ho hz ⊢
    simp (disch:=first|assumption|omega|(simp only [lens];omega)) only [eqs,↓gvd_succ,↓gvd_zero,↓and_of,im_of,im_of trivial,vlt,hP,hst,initS,Nat.reduceBEq,Nat.reduceAdd,Nat.reduceMul,Nat.reduceSub,Nat.reduceDiv,Nat.reduceMod,Nat.reducePow,Nat.reduceLT,Nat.reduceLeDiff,Nat.reduceEqDiff,Int.reduceAdd,Int.reduceSub,Int.reduceNeg,Int.reduceMul,Int.reduceToNat,Int.reducePow,Int.reduceLE,Int.reduceLT,Int.reduceEq,Int.reduceNe,reduceIte,reduceCtorEq,ne_eq,not_true_eq_false,not_false_eq_true,imp_self,implies_true,bls,eq_self,h1,h2]
    refine C_dec (fun h6 => ?_) (fun h6 => ?_)
    · have b1 := getD_lt hx.lt i
      have b2 := getD_lt hrl (i + k / 32)
      have b3 := low_sum (a := l.getD i 0) (show k % 32 ≤ 32 by omega) ho
      have b4 := high_part (k := k % 32) b1
      have b5 := or_low (a := l.getD i 0) (show k % 32 ≤ 32 by omega) ho
      have b7 : 2 ^ (k % 32) < 4294967296 := Nat.pow_lt_pow_right (a := 2) (n := 32) (by omega) (by omega)
      have b6 : l.getD i 0 * 2 ^ (k % 32) < 18446744073709551616 := Nat.mul_lt_mul'' b1 b7
      have e : val ((row.set (i + k / 32) (row.getD (i + k / 32) 0 + l.getD i 0 * 2 ^ (k % 32) % 4294967296)).set (i + k / 32 + 1) (l.getD i 0 * 2 ^ (k % 32) / 4294967296)) = val (l.take (i + 1)) * 2 ^ k := by
        have e1 := val_set (l := row) (i := i + k / 32) (v := row.getD (i + k / 32) 0 + l.getD i 0 * 2 ^ (k % 32) % 4294967296) (by omega)
        have e2 := val_set (l := row.set (i + k / 32) (row.getD (i + k / 32) 0 + l.getD i 0 * 2 ^ (k % 32) % 4294967296)) (i := i + k / 32 + 1) (v := l.getD i 0 * 2 ^ (k % 32) / 4294967296) (by simp; omega)
        rw [getD_set_ne' (l := row) (i := i + k / 32) (j := i + k / 32 + 1) (by omega), hz (i + k / 32 + 1) (by omega), Nat.mul_zero, Nat.add_zero, Nat.pow_succ] at e2
        rw [e2, val_take_succ, Nat.add_mul, ← hv]
        have e3 : 4294967296 ^ i * l.getD i 0 * 2 ^ k = 4294967296 ^ (i + k / 32) * (l.getD i 0 * 2 ^ (k % 32)) := by
          rw [← pow_32 k, Nat.pow_add, Nat.mul_assoc, Nat.mul_assoc]
          congr 1
          rw [← Nat.mul_assoc, Nat.mul_comm (l.getD i 0), Nat.mul_assoc]
        rw [e3]
        have e4 := Nat.div_add_mod (l.getD i 0 * 2 ^ (k % 32)) 4294967296
        have e5 := congrArg (4294967296 ^ (i + k / 32) * ·) e4
        simp only [Nat.mul_add] at e5 e1
        rw [← Nat.mul_assoc] at e5
        omega
      generalize hw : l.getD i 0 * 2 ^ (k % 32) = w at *
      generalize hp : 2 ^ (k % 32) = p at *
      simp (disch:=first|assumption|omega|(simp only [lens];omega)) only [eqs,↓gvd_succ,↓gvd_zero,↓and_of,im_of,im_of trivial,vlt,hP,hst,initS,Nat.reduceBEq,Nat.reduceAdd,Nat.reduceMul,Nat.reduceSub,Nat.reduceDiv,Nat.reduceMod,Nat.reducePow,Nat.reduceLT,Nat.reduceLeDiff,Nat.reduceEqDiff,Int.reduceAdd,Int.reduceSub,Int.reduceNeg,Int.reduceMul,Int.reduceToNat,Int.reducePow,Int.reduceLE,Int.reduceLT,Int.reduceEq,Int.reduceNe,reduceIte,reduceCtorEq,ne_eq,not_true_eq_false,not_false_eq_true,imp_self,implies_true,bls,eq_self,h1,h2,wrap_u32_nat,hp,hw,or32,b5]
      refine again (i + 1, (row.set (i + k / 32) (row.getD (i + k / 32) 0 + w % 4294967296)).set (i + k / 32 + 1) (w / 4294967296)) ⟨by dsimp only; omega, by simp [hr], set_lt (set_lt hrl b3) (by omega), e, ?_, ?_⟩ (by dsimp only; omega) rfl (by simp (disch:=first|assumption|omega|(simp only [lens];omega)) only [eqs,↓gvd_succ,↓gvd_zero,↓and_of,im_of,im_of trivial,vlt,hP,hst,initS,Nat.reduceBEq,Nat.reduceAdd,Nat.reduceMul,Nat.reduceSub,Nat.reduceDiv,Nat.reduceMod,Nat.reducePow,Nat.reduceLT,Nat.reduceLeDiff,Nat.reduceEqDiff,Int.reduceAdd,Int.reduceSub,Int.reduceNeg,Int.reduceMul,Int.reduceToNat,Int.reducePow,Int.reduceLE,Int.reduceLT,Int.reduceEq,Int.reduceNe,reduceIte,reduceCtorEq,ne_eq,not_true_eq_false,not_false_eq_true,imp_self,implies_true,bls,eq_self])
      · dsimp only
        rw [show i + 1 + k / 32 = i + k / 32 + 1 by omega, getD_set_self (by simp; omega)]
        exact b4
      · intro j hj
        dsimp only at hj ⊢
        rw [getD_set_ne' (by omega), getD_set_ne' (by omega)]
        exact hz j (by omega)
    · simp (disch:=first|assumption|omega|(simp only [lens];omega)) only [eqs,↓gvd_succ,↓gvd_zero,↓and_of,im_of,im_of trivial,vlt,hP,hst,initS,Nat.reduceBEq,Nat.reduceAdd,Nat.reduceMul,Nat.reduceSub,Nat.reduceDiv,Nat.reduceMod,Nat.reducePow,Nat.reduceLT,Nat.reduceLeDiff,Nat.reduceEqDiff,Int.reduceAdd,Int.reduceSub,Int.reduceNeg,Int.reduceMul,Int.reduceToNat,Int.reducePow,Int.reduceLE,Int.reduceLT,Int.reduceEq,Int.reduceNe,reduceIte,reduceCtorEq,ne_eq,not_true_eq_false,not_false_eq_true,imp_self,implies_true,bls,eq_self,h1,h2]
      have hi2 : i = l.length := by omega
      subst hi2
      refine E_call (hP ▸ s_trim) ⟨_, _, rfl, Nm.last hr hrl, by omega, ?_⟩
      simp (disch:=first|assumption|omega|(simp only [lens];omega)) only [eqs,↓gvd_succ,↓gvd_zero,↓and_of,im_of,im_of trivial,vlt,hP,hst,initS,Nat.reduceBEq,Nat.reduceAdd,Nat.reduceMul,Nat.reduceSub,Nat.reduceDiv,Nat.reduceMod,Nat.reducePow,Nat.reduceLT,Nat.reduceLeDiff,Nat.reduceEqDiff,Int.reduceAdd,Int.reduceSub,Int.reduceNeg,Int.reduceMul,Int.reduceToNat,Int.reducePow,Int.reduceLE,Int.reduceLT,Int.reduceEq,Int.reduceNe,reduceIte,reduceCtorEq,ne_eq,not_true_eq_false,not_false_eq_true,imp_self,implies_true,bls,eq_self]
      refine hK.trim hrl ?_
      rw [hv, List.take_of_length_le (Nat.le_refl _)]
end Go.Proofs.Pv
