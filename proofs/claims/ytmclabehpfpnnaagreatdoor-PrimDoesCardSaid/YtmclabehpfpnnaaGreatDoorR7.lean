/- The document's answer's walks, seventh part. -/
import Derived.Test.YtmclabehpfpnnaaGreatDoorR6
set_option linter.unusedSimpArgs false
set_option linter.unusedVariables false
namespace Go.Proofs.Pv
open Go Go.RowKit Go.Proofs
set_option maxRecDepth 20000

theorem shift_bit (v : Nat) {N : Int} (h1 : -4096 ≤ N) (h2 : N ≤ 4096) (i : Nat) : (shiftV v N).testBit i = (decide ((0 : Int) ≤ (i : Int) - N) && v.testBit ((i : Int) - N).toNat) := by
  unfold shiftV
  by_cases h : N < 0
  · rw [if_pos h, Nat.testBit_div_two_pow, decide_eq_true (by omega), Bool.true_and]
    congr 1; omega
  · rw [if_neg h, Nat.mul_comm, Nat.testBit_two_pow_mul]
    by_cases h3 : (0 : Int) ≤ (i : Int) - N
    · rw [decide_eq_true h3, decide_eq_true (by omega)]
      congr 2; omega
    · rw [decide_eq_false h3, decide_eq_false (by omega)]; rfl
theorem shift_clamp (v : Nat) (n : Int) : shiftV v (if n > 4096 then 4096 else if n < -4096 then -4096 else n) = shiftV v n := by
  unfold shiftV
  by_cases h : n > 4096
  · rw [if_pos h, if_neg (by omega), if_neg (by omega)]; congr 2; omega
  · rw [if_neg h]
    by_cases h2 : n < -4096
    · rw [if_pos h2, if_pos (by omega), if_pos (by omega)]; congr 2; omega
    · rw [if_neg h2]
theorem shift_small {v : Nat} {N : Int} (h1 : -4096 ≤ N) (h2 : N ≤ 4096) {k : Nat} (hk : (blen v : Int) + N ≤ (k : Int)) : shiftV v N < 2 ^ k := by
  have hb := blen_lt v
  unfold shiftV
  by_cases h : N < 0
  · rw [if_pos h, Nat.div_lt_iff_lt_mul (Nat.two_pow_pos _), ← Nat.pow_add]
    exact Nat.lt_of_lt_of_le hb (Nat.pow_le_pow_right (by omega) (by omega))
  · rw [if_neg h]
    refine Nat.lt_of_lt_of_le (Nat.mul_lt_mul_of_pos_right hb (Nat.two_pow_pos _)) ?_
    rw [← Nat.pow_add]
    exact Nat.pow_le_pow_right (by omega) (by omega)
theorem shift_zero {v : Nat} {N : Int} (h1 : -4096 ≤ N) (h2 : N ≤ 4096) (h : (blen v : Int) + N ≤ 0 ∨ blen v = 0) : shiftV v N = 0 := by
  rcases h with h | h
  · have := shift_small h1 h2 (k := 0) h
    omega
  · have := blen_lt v
    rw [h] at this
    have h0 : v = 0 := by omega
    subst h0
    unfold shiftV
    split <;> simp
theorem blen_len {l : List Nat} (hl : ∀ z ∈ l, z < 4294967296) : blen (val l) ≤ 32 * l.length := by
  have := val_lt hl
  rw [pow_limb] at this
  exact blen_le this

theorem or_shl {a k : Nat} (ha : a < 4294967296) (hk : k < 32) : bitV .or .u32 (a : Int) (IntKind.u32.wrap (1 * 2 ^ k)) = ((a ||| 2 ^ k : Nat) : Int) := by
  have e3 : 2 ^ k < 4294967296 := Nat.pow_lt_pow_right (a := 2) (n := 32) (by omega) (by omega)
  rw [show (1 : Int) * 2 ^ k = ((2 ^ k : Nat) : Int) by simp]
  generalize 2 ^ k = p at *
  rw [IntWalk.u32_in _ (by omega)]
  exact or32 ha e3

def RrShift (F : St → Nat → (AV → St → Prop) → Prop) (xs : List AV) (st : St) (K : AV → St → Prop) : Prop := ∃ x l n, xs = [x, .val (.int .i64 n)] ∧ Nm st x l ∧ l.length ≤ 100000 ∧ -9223372036854775808 ≤ n ∧ n ≤ 9223372036854775807 ∧ F st (shiftV (val l) n) K
theorem s_rShift : PSpec Tryz.prog 99 (RrShift got) := by
  refine fspec_of (fn := Tryz.f99) 2 [.tmp 4] (by kernel_rfl) rfl rfl (by kernel_rfl) mixed (by rintro _ _ _ ⟨x, l, n, rfl, _⟩; rfl) ?_
  rintro X _ st K hP hst ⟨x, l, n, rfl, hx, hl, hn1, hn2, hK⟩
  refine vc_V ?_
  have hbl := blen_len hx.lt
  rw [← shift_clamp] at hK
  simp (disch:=first|assumption|omega|(simp only [lens];omega)) only [eqs,↓gvd_succ,↓gvd_zero,↓and_of,im_of,im_of trivial,vlt,hP,hst,initS,Nat.reduceBEq,Nat.reduceAdd,Nat.reduceMul,Nat.reduceSub,Nat.reduceDiv,Nat.reduceMod,Nat.reducePow,Nat.reduceLT,Nat.reduceLeDiff,Nat.reduceEqDiff,Int.reduceAdd,Int.reduceSub,Int.reduceNeg,Int.reduceMul,Int.reduceToNat,Int.reducePow,Int.reduceLE,Int.reduceLT,Int.reduceEq,Int.reduceNe,reduceIte,reduceCtorEq,ne_eq,not_true_eq_false,not_false_eq_true,imp_self,implies_true,bls,eq_self]
  refine C_dec (fun h => ?a) (fun h => ?q)
  case' a =>
    rw [if_pos h] at hK
    simp (disch:=first|assumption|omega|(simp only [lens];omega)) only [eqs,↓gvd_succ,↓gvd_zero,↓and_of,im_of,im_of trivial,vlt,hP,hst,initS,Nat.reduceBEq,Nat.reduceAdd,Nat.reduceMul,Nat.reduceSub,Nat.reduceDiv,Nat.reduceMod,Nat.reducePow,Nat.reduceLT,Nat.reduceLeDiff,Nat.reduceEqDiff,Int.reduceAdd,Int.reduceSub,Int.reduceNeg,Int.reduceMul,Int.reduceToNat,Int.reducePow,Int.reduceLE,Int.reduceLT,Int.reduceEq,Int.reduceNe,reduceIte,reduceCtorEq,ne_eq,not_true_eq_false,not_false_eq_true,imp_self,implies_true,bls,eq_self]
    obtain ⟨N, hN⟩ : ∃ N : Int, N = 4096 := ⟨_, rfl⟩
  case' q =>
    simp (disch:=first|assumption|omega|(simp only [lens];omega)) only [eqs,↓gvd_succ,↓gvd_zero,↓and_of,im_of,im_of trivial,vlt,hP,hst,initS,Nat.reduceBEq,Nat.reduceAdd,Nat.reduceMul,Nat.reduceSub,Nat.reduceDiv,Nat.reduceMod,Nat.reducePow,Nat.reduceLT,Nat.reduceLeDiff,Nat.reduceEqDiff,Int.reduceAdd,Int.reduceSub,Int.reduceNeg,Int.reduceMul,Int.reduceToNat,Int.reducePow,Int.reduceLE,Int.reduceLT,Int.reduceEq,Int.reduceNe,reduceIte,reduceCtorEq,ne_eq,not_true_eq_false,not_false_eq_true,imp_self,implies_true,bls,eq_self]
    rw [if_neg (by omega)] at hK
    refine C_dec (fun h2 => ?b) (fun h2 => ?c)
    case' b =>
      rw [if_pos h2] at hK
      simp (disch:=first|assumption|omega|(simp only [lens];omega)) only [eqs,↓gvd_succ,↓gvd_zero,↓and_of,im_of,im_of trivial,vlt,hP,hst,initS,Nat.reduceBEq,Nat.reduceAdd,Nat.reduceMul,Nat.reduceSub,Nat.reduceDiv,Nat.reduceMod,Nat.reducePow,Nat.reduceLT,Nat.reduceLeDiff,Nat.reduceEqDiff,Int.reduceAdd,Int.reduceSub,Int.reduceNeg,Int.reduceMul,Int.reduceToNat,Int.reducePow,Int.reduceLE,Int.reduceLT,Int.reduceEq,Int.reduceNe,reduceIte,reduceCtorEq,ne_eq,not_true_eq_false,not_false_eq_true,imp_self,implies_true,bls,eq_self]
      obtain ⟨N, hN⟩ : ∃ N : Int, N = -4096 := ⟨_, rfl⟩
    case' c =>
      rw [if_neg h2] at hK
      simp (disch:=first|assumption|omega|(simp only [lens];omega)) only [eqs,↓gvd_succ,↓gvd_zero,↓and_of,im_of,im_of trivial,vlt,hP,hst,initS,Nat.reduceBEq,Nat.reduceAdd,Nat.reduceMul,Nat.reduceSub,Nat.reduceDiv,Nat.reduceMod,Nat.reducePow,Nat.reduceLT,Nat.reduceLeDiff,Nat.reduceEqDiff,Int.reduceAdd,Int.reduceSub,Int.reduceNeg,Int.reduceMul,Int.reduceToNat,Int.reducePow,Int.reduceLE,Int.reduceLT,Int.reduceEq,Int.reduceNe,reduceIte,reduceCtorEq,ne_eq,not_true_eq_false,not_false_eq_true,imp_self,implies_true,bls,eq_self]
      obtain ⟨N, hN⟩ : ∃ N : Int, N = n := ⟨_, rfl⟩
  all_goals
    rw [← hN] at hK ⊢
    have hN1 : -4096 ≤ N := by omega
    have hN2 : N ≤ 4096 := by omega
    clear hN
    refine E_call (hP ▸ s_rBits) ⟨x, l, rfl, hx, by omega, fun T hT => ?_⟩
    simp (disch:=first|assumption|omega|(simp only [lens];omega)) only [eqs,↓gvd_succ,↓gvd_zero,↓and_of,im_of,im_of trivial,vlt,hP,hst,initS,Nat.reduceBEq,Nat.reduceAdd,Nat.reduceMul,Nat.reduceSub,Nat.reduceDiv,Nat.reduceMod,Nat.reducePow,Nat.reduceLT,Nat.reduceLeDiff,Nat.reduceEqDiff,Int.reduceAdd,Int.reduceSub,Int.reduceNeg,Int.reduceMul,Int.reduceToNat,Int.reducePow,Int.reduceLE,Int.reduceLT,Int.reduceEq,Int.reduceNe,reduceIte,reduceCtorEq,ne_eq,not_true_eq_false,not_false_eq_true,imp_self,implies_true,bls,eq_self]
    refine G_ndec (fun h3 => ?_) (fun h3 => ?_)
    · simp (disch:=first|assumption|omega|(simp only [lens];omega)) only [eqs,↓gvd_succ,↓gvd_zero,↓and_of,im_of,im_of trivial,vlt,hP,hst,initS,Nat.reduceBEq,Nat.reduceAdd,Nat.reduceMul,Nat.reduceSub,Nat.reduceDiv,Nat.reduceMod,Nat.reducePow,Nat.reduceLT,Nat.reduceLeDiff,Nat.reduceEqDiff,Int.reduceAdd,Int.reduceSub,Int.reduceNeg,Int.reduceMul,Int.reduceToNat,Int.reducePow,Int.reduceLE,Int.reduceLT,Int.reduceEq,Int.reduceNe,reduceIte,reduceCtorEq,ne_eq,not_true_eq_false,not_false_eq_true,imp_self,implies_true,bls,eq_self,h3]
      refine E_call (hP ▸ s_rBits) ⟨x, l, rfl, hx.ext hT, by omega, fun T2 hT2 => ?_⟩
      have hT3 := hT.trans hT2
      clear hT hT2
      simp (disch:=first|assumption|omega|(simp only [lens];omega)) only [eqs,↓gvd_succ,↓gvd_zero,↓and_of,im_of,im_of trivial,vlt,hP,hst,initS,Nat.reduceBEq,Nat.reduceAdd,Nat.reduceMul,Nat.reduceSub,Nat.reduceDiv,Nat.reduceMod,Nat.reducePow,Nat.reduceLT,Nat.reduceLeDiff,Nat.reduceEqDiff,Int.reduceAdd,Int.reduceSub,Int.reduceNeg,Int.reduceMul,Int.reduceToNat,Int.reducePow,Int.reduceLE,Int.reduceLT,Int.reduceEq,Int.reduceNe,reduceIte,reduceCtorEq,ne_eq,not_true_eq_false,not_false_eq_true,imp_self,implies_true,bls,eq_self,h3]
      refine C_dec (fun h4 => ?_) (fun h4 => ?_)
      · simp (disch:=first|assumption|omega|(simp only [lens];omega)) only [eqs,↓gvd_succ,↓gvd_zero,↓and_of,im_of,im_of trivial,vlt,hP,hst,initS,Nat.reduceBEq,Nat.reduceAdd,Nat.reduceMul,Nat.reduceSub,Nat.reduceDiv,Nat.reduceMod,Nat.reducePow,Nat.reduceLT,Nat.reduceLeDiff,Nat.reduceEqDiff,Int.reduceAdd,Int.reduceSub,Int.reduceNeg,Int.reduceMul,Int.reduceToNat,Int.reducePow,Int.reduceLE,Int.reduceLT,Int.reduceEq,Int.reduceNe,reduceIte,reduceCtorEq,ne_eq,not_true_eq_false,not_false_eq_true,imp_self,implies_true,bls,eq_self,zrow]
        rw [shift_zero hN1 hN2 (.inr (by omega))] at hK
        exact hK _ _ (Got.zero hT3)
      · obtain ⟨k, hk⟩ : ∃ k : Nat, (blen (val l) : Int) + N = (k : Int) := ⟨((blen (val l) : Int) + N).toNat, by omega⟩
        have hx2 := hx.ext hT3
        have hx3 := fun y => hx2.app y
        have hV := shift_small (v := val l) hN1 hN2 (k := k) (by omega)
        have hVb := shift_bit (val l) hN1 hN2
        generalize shiftV (val l) N = V at hK hV hVb
        have hk1 : k ≤ 3300000 := by omega
        rw [hk]
        simp (disch:=first|assumption|omega|(simp only [lens];omega)) only [eqs,↓gvd_succ,↓gvd_zero,↓and_of,im_of,im_of trivial,vlt,hP,hst,initS,Nat.reduceBEq,Nat.reduceAdd,Nat.reduceMul,Nat.reduceSub,Nat.reduceDiv,Nat.reduceMod,Nat.reducePow,Nat.reduceLT,Nat.reduceLeDiff,Nat.reduceEqDiff,Int.reduceAdd,Int.reduceSub,Int.reduceNeg,Int.reduceMul,Int.reduceToNat,Int.reducePow,Int.reduceLE,Int.reduceLT,Int.reduceEq,Int.reduceNe,reduceIte,reduceCtorEq,ne_eq,not_true_eq_false,not_false_eq_true,imp_self,implies_true,bls,eq_self]
        refine V_loop (ι := Nat × List Nat) (fun d => [(7, .val (.int .i64 (d.1 : Int))), (6, .own T2.length 0 (k / 32 + 1) 1), (5, .val (.int .i64 (k : Int))), (1, .val (.int .i64 N)), (0, x)])
          (fun d => T2 ++ [some (u32s d.2)]) (fun d => d.1 ≤ k ∧ d.2.length = k / 32 + 1 ∧ (∀ z ∈ d.2, z < 4294967296) ∧ val d.2 = V % 2 ^ d.1) (fun d => k - d.1)
          (0, List.replicate (k / 32 + 1) 0) ⟨by simp, by simp, rep_lt (by simp), by simp [val_zeros, Nat.mod_one]⟩ rfl (by simp (disch:=first|assumption|omega|(simp only [lens];omega)) only [eqs,↓gvd_succ,↓gvd_zero,↓and_of,im_of,im_of trivial,vlt,hP,hst,initS,Nat.reduceBEq,Nat.reduceAdd,Nat.reduceMul,Nat.reduceSub,Nat.reduceDiv,Nat.reduceMod,Nat.reducePow,Nat.reduceLT,Nat.reduceLeDiff,Nat.reduceEqDiff,Int.reduceAdd,Int.reduceSub,Int.reduceNeg,Int.reduceMul,Int.reduceToNat,Int.reducePow,Int.reduceLE,Int.reduceLT,Int.reduceEq,Int.reduceNe,reduceIte,reduceCtorEq,ne_eq,not_true_eq_false,not_false_eq_true,imp_self,implies_true,bls,eq_self] <;> rfl) ?_
        rintro ⟨i, row⟩ ⟨hi, hr, hrl, hv⟩
        dsimp only at hi hr hrl hv ⊢
        have hbs := bit_sum V i
        rw [hVb, ← hv] at hbs
        have hfree : (val row).testBit i = false := bit_out (by rw [hv]; exact Nat.mod_lt _ (Nat.two_pow_pos _))
        have hX1 : T2.length ≥ X.st1.length := by rw [hst]; exact hT3.len
        simp (disch:=first|assumption|omega|(simp only [lens];omega)) only [eqs,↓gvd_succ,↓gvd_zero,↓and_of,im_of,im_of trivial,vlt,hP,hst,initS,Nat.reduceBEq,Nat.reduceAdd,Nat.reduceMul,Nat.reduceSub,Nat.reduceDiv,Nat.reduceMod,Nat.reducePow,Nat.reduceLT,Nat.reduceLeDiff,Nat.reduceEqDiff,Int.reduceAdd,Int.reduceSub,Int.reduceNeg,Int.reduceMul,Int.reduceToNat,Int.reducePow,Int.reduceLE,Int.reduceLT,Int.reduceEq,Int.reduceNe,reduceIte,reduceCtorEq,ne_eq,not_true_eq_false,not_false_eq_true,imp_self,implies_true,bls,eq_self]
        refine C_dec (fun h5 => ?_) (fun h5 => ?_)
        · have hsb := set_bit hrl (show i / 32 < row.length by omega) hfree
          simp (disch:=first|assumption|omega|(simp only [lens];omega)) only [eqs,↓gvd_succ,↓gvd_zero,↓and_of,im_of,im_of trivial,vlt,hP,hst,initS,Nat.reduceBEq,Nat.reduceAdd,Nat.reduceMul,Nat.reduceSub,Nat.reduceDiv,Nat.reduceMod,Nat.reducePow,Nat.reduceLT,Nat.reduceLeDiff,Nat.reduceEqDiff,Int.reduceAdd,Int.reduceSub,Int.reduceNeg,Int.reduceMul,Int.reduceToNat,Int.reducePow,Int.reduceLE,Int.reduceLT,Int.reduceEq,Int.reduceNe,reduceIte,reduceCtorEq,ne_eq,not_true_eq_false,not_false_eq_true,imp_self,implies_true,bls,eq_self]
          refine G_dec (fun h6 => ?_) (fun h6 => ?_)
          · obtain ⟨j, hj⟩ : ∃ j : Nat, (i : Int) - N = (j : Int) := ⟨((i : Int) - N).toNat, by omega⟩
            rw [hj, decide_eq_true (by omega), Bool.true_and, Int.toNat_natCast] at hbs
            have h8 : (0 : Int) ≤ (j : Int) := by omega
            simp (disch:=first|assumption|omega|(simp only [lens];omega)) only [eqs,↓gvd_succ,↓gvd_zero,↓and_of,im_of,im_of trivial,vlt,hP,hst,initS,Nat.reduceBEq,Nat.reduceAdd,Nat.reduceMul,Nat.reduceSub,Nat.reduceDiv,Nat.reduceMod,Nat.reducePow,Nat.reduceLT,Nat.reduceLeDiff,Nat.reduceEqDiff,Int.reduceAdd,Int.reduceSub,Int.reduceNeg,Int.reduceMul,Int.reduceToNat,Int.reducePow,Int.reduceLE,Int.reduceLT,Int.reduceEq,Int.reduceNe,reduceIte,reduceCtorEq,ne_eq,not_true_eq_false,not_false_eq_true,imp_self,implies_true,bls,eq_self,h6,hj,h8]
            refine E_call (hP ▸ s_rbit) ⟨x, l, j, rfl, hx3 _, by omega, ?_⟩
            simp (disch:=first|assumption|omega|(simp only [lens];omega)) only [eqs,↓gvd_succ,↓gvd_zero,↓and_of,im_of,im_of trivial,vlt,hP,hst,initS,Nat.reduceBEq,Nat.reduceAdd,Nat.reduceMul,Nat.reduceSub,Nat.reduceDiv,Nat.reduceMod,Nat.reducePow,Nat.reduceLT,Nat.reduceLeDiff,Nat.reduceEqDiff,Int.reduceAdd,Int.reduceSub,Int.reduceNeg,Int.reduceMul,Int.reduceToNat,Int.reducePow,Int.reduceLE,Int.reduceLT,Int.reduceEq,Int.reduceNe,reduceIte,reduceCtorEq,ne_eq,not_true_eq_false,not_false_eq_true,imp_self,implies_true,bls,eq_self,h6,hj,h8]
            refine C_bool (fun h7 => ?_) (fun h7 => ?_)
            · rw [if_pos h7] at hbs
              have e1 : min (i % 32) 32 = i % 32 := by omega
              have e2 := or_shl (getD_lt hrl (i / 32)) (show i % 32 < 32 by omega)
              simp (disch:=first|assumption|omega|(simp only [lens];omega)) only [eqs,↓gvd_succ,↓gvd_zero,↓and_of,im_of,im_of trivial,vlt,hP,hst,initS,Nat.reduceBEq,Nat.reduceAdd,Nat.reduceMul,Nat.reduceSub,Nat.reduceDiv,Nat.reduceMod,Nat.reducePow,Nat.reduceLT,Nat.reduceLeDiff,Nat.reduceEqDiff,Int.reduceAdd,Int.reduceSub,Int.reduceNeg,Int.reduceMul,Int.reduceToNat,Int.reducePow,Int.reduceLE,Int.reduceLT,Int.reduceEq,Int.reduceNe,reduceIte,reduceCtorEq,ne_eq,not_true_eq_false,not_false_eq_true,imp_self,implies_true,bls,eq_self,e1,e2]
              refine again (i + 1, row.set (i / 32) (row.getD (i / 32) 0 ||| 2 ^ (i % 32))) ⟨by dsimp only; omega, by simp [hr], set_lt hrl hsb.2, by dsimp only; omega⟩ (by dsimp only; omega) rfl (by dsimp only; simp (disch:=first|assumption|omega|(simp only [lens];omega)) only [eqs,↓gvd_succ,↓gvd_zero,↓and_of,im_of,im_of trivial,vlt,hP,hst,initS,Nat.reduceBEq,Nat.reduceAdd,Nat.reduceMul,Nat.reduceSub,Nat.reduceDiv,Nat.reduceMod,Nat.reducePow,Nat.reduceLT,Nat.reduceLeDiff,Nat.reduceEqDiff,Int.reduceAdd,Int.reduceSub,Int.reduceNeg,Int.reduceMul,Int.reduceToNat,Int.reducePow,Int.reduceLE,Int.reduceLT,Int.reduceEq,Int.reduceNe,reduceIte,reduceCtorEq,ne_eq,not_true_eq_false,not_false_eq_true,imp_self,implies_true,bls,eq_self] <;> rfl)
            · rw [if_neg (by simp [h7])] at hbs
              simp (disch:=first|assumption|omega|(simp only [lens];omega)) only [eqs,↓gvd_succ,↓gvd_zero,↓and_of,im_of,im_of trivial,vlt,hP,hst,initS,Nat.reduceBEq,Nat.reduceAdd,Nat.reduceMul,Nat.reduceSub,Nat.reduceDiv,Nat.reduceMod,Nat.reducePow,Nat.reduceLT,Nat.reduceLeDiff,Nat.reduceEqDiff,Int.reduceAdd,Int.reduceSub,Int.reduceNeg,Int.reduceMul,Int.reduceToNat,Int.reducePow,Int.reduceLE,Int.reduceLT,Int.reduceEq,Int.reduceNe,reduceIte,reduceCtorEq,ne_eq,not_true_eq_false,not_false_eq_true,imp_self,implies_true,bls,eq_self]
              refine again (i + 1, row) ⟨by dsimp only; omega, hr, hrl, by dsimp only; omega⟩ (by dsimp only; omega) rfl (by dsimp only; simp (disch:=first|assumption|omega|(simp only [lens];omega)) only [eqs,↓gvd_succ,↓gvd_zero,↓and_of,im_of,im_of trivial,vlt,hP,hst,initS,Nat.reduceBEq,Nat.reduceAdd,Nat.reduceMul,Nat.reduceSub,Nat.reduceDiv,Nat.reduceMod,Nat.reducePow,Nat.reduceLT,Nat.reduceLeDiff,Nat.reduceEqDiff,Int.reduceAdd,Int.reduceSub,Int.reduceNeg,Int.reduceMul,Int.reduceToNat,Int.reducePow,Int.reduceLE,Int.reduceLT,Int.reduceEq,Int.reduceNe,reduceIte,reduceCtorEq,ne_eq,not_true_eq_false,not_false_eq_true,imp_self,implies_true,bls,eq_self] <;> rfl)
          · rw [decide_eq_false (by omega)] at hbs
            simp (disch:=first|assumption|omega|(simp only [lens];omega)) only [eqs,↓gvd_succ,↓gvd_zero,↓and_of,im_of,im_of trivial,vlt,hP,hst,initS,Nat.reduceBEq,Nat.reduceAdd,Nat.reduceMul,Nat.reduceSub,Nat.reduceDiv,Nat.reduceMod,Nat.reducePow,Nat.reduceLT,Nat.reduceLeDiff,Nat.reduceEqDiff,Int.reduceAdd,Int.reduceSub,Int.reduceNeg,Int.reduceMul,Int.reduceToNat,Int.reducePow,Int.reduceLE,Int.reduceLT,Int.reduceEq,Int.reduceNe,reduceIte,reduceCtorEq,ne_eq,not_true_eq_false,not_false_eq_true,imp_self,implies_true,bls,eq_self,h6]
            refine again (i + 1, row) ⟨by dsimp only; omega, hr, hrl, ?_⟩ (by dsimp only; omega) rfl (by dsimp only; simp (disch:=first|assumption|omega|(simp only [lens];omega)) only [eqs,↓gvd_succ,↓gvd_zero,↓and_of,im_of,im_of trivial,vlt,hP,hst,initS,Nat.reduceBEq,Nat.reduceAdd,Nat.reduceMul,Nat.reduceSub,Nat.reduceDiv,Nat.reduceMod,Nat.reducePow,Nat.reduceLT,Nat.reduceLeDiff,Nat.reduceEqDiff,Int.reduceAdd,Int.reduceSub,Int.reduceNeg,Int.reduceMul,Int.reduceToNat,Int.reducePow,Int.reduceLE,Int.reduceLT,Int.reduceEq,Int.reduceNe,reduceIte,reduceCtorEq,ne_eq,not_true_eq_false,not_false_eq_true,imp_self,implies_true,bls,eq_self] <;> rfl)
            simp at hbs
            dsimp only; omega
        · simp (disch:=first|assumption|omega|(simp only [lens];omega)) only [eqs,↓gvd_succ,↓gvd_zero,↓and_of,im_of,im_of trivial,vlt,hP,hst,initS,Nat.reduceBEq,Nat.reduceAdd,Nat.reduceMul,Nat.reduceSub,Nat.reduceDiv,Nat.reduceMod,Nat.reducePow,Nat.reduceLT,Nat.reduceLeDiff,Nat.reduceEqDiff,Int.reduceAdd,Int.reduceSub,Int.reduceNeg,Int.reduceMul,Int.reduceToNat,Int.reducePow,Int.reduceLE,Int.reduceLT,Int.reduceEq,Int.reduceNe,reduceIte,reduceCtorEq,ne_eq,not_true_eq_false,not_false_eq_true,imp_self,implies_true,bls,eq_self]
          have hik : i = k := by omega
          subst hik
          rw [Nat.mod_eq_of_lt hV] at hv
          refine E_call (hP ▸ s_rNorm) ⟨_, row, rfl, Nm.last hr hrl, by omega, fresh_got fun z T' hz => ?_⟩
          simp (disch:=first|assumption|omega|(simp only [lens];omega)) only [eqs,↓gvd_succ,↓gvd_zero,↓and_of,im_of,im_of trivial,vlt,hP,hst,initS,Nat.reduceBEq,Nat.reduceAdd,Nat.reduceMul,Nat.reduceSub,Nat.reduceDiv,Nat.reduceMod,Nat.reducePow,Nat.reduceLT,Nat.reduceLeDiff,Nat.reduceEqDiff,Int.reduceAdd,Int.reduceSub,Int.reduceNeg,Int.reduceMul,Int.reduceToNat,Int.reducePow,Int.reduceLE,Int.reduceLT,Int.reduceEq,Int.reduceNe,reduceIte,reduceCtorEq,ne_eq,not_true_eq_false,not_false_eq_true,imp_self,implies_true,bls,eq_self]
          have hz2 := Got.pre (hT3.app _) hz
          rw [hv] at hz2
          exact hK _ _ hz2
    · simp (disch:=first|assumption|omega|(simp only [lens];omega)) only [eqs,↓gvd_succ,↓gvd_zero,↓and_of,im_of,im_of trivial,vlt,hP,hst,initS,Nat.reduceBEq,Nat.reduceAdd,Nat.reduceMul,Nat.reduceSub,Nat.reduceDiv,Nat.reduceMod,Nat.reducePow,Nat.reduceLT,Nat.reduceLeDiff,Nat.reduceEqDiff,Int.reduceAdd,Int.reduceSub,Int.reduceNeg,Int.reduceMul,Int.reduceToNat,Int.reducePow,Int.reduceLE,Int.reduceLT,Int.reduceEq,Int.reduceNe,reduceIte,reduceCtorEq,ne_eq,not_true_eq_false,not_false_eq_true,imp_self,implies_true,bls,eq_self,h3,zrow]
      rw [shift_zero hN1 hN2 (.inl h3)] at hK
      exact hK _ _ (Got.zero hT)
end Go.Proofs.Pv
