/- The nat functions' walks, sixth part. -/
import Derived.Test.YtmclabehpfpnnaaGreatDoorW5
set_option linter.unusedSimpArgs false
set_option linter.unusedVariables false
namespace Go.Proofs.Pv
open Go Go.RowKit Go.Proofs
set_option maxRecDepth 10000

def RMul (xs : List AV) (st : St) (K : AV → St → Prop) : Prop := ∃ x y l m, xs = [x, y] ∧ Nm st x l ∧ Nm st y m ∧ l.length ≤ 10000 ∧ m.length ≤ 10000 ∧ fresh st (val l * val m) K

theorem mul_step {row : List Nat} {V W c x y i k : Nat} (hk : i + k < row.length) (h : val row + c * 4294967296 ^ (i + k) = V + W) :
    val (row.set (i + k) ((c + (row.getD (i + k) 0 + x * y)) % 4294967296)) + (c + (row.getD (i + k) 0 + x * y)) / 4294967296 * 4294967296 ^ (i + (k + 1)) = V + (W + 4294967296 ^ (i + k) * (x * y)) := by
  have e1 := val_set (v := (c + (row.getD (i + k) 0 + x * y)) % 4294967296) hk
  have e2 := congrArg (4294967296 ^ (i + k) * ·) (Nat.div_add_mod (c + (row.getD (i + k) 0 + x * y)) 4294967296)
  simp only [Nat.mul_add] at e2
  rw [show i + (k + 1) = i + k + 1 by omega, Nat.pow_succ, Nat.mul_comm (_ / _) _]
  rw [← Nat.mul_assoc] at e2
  rw [Nat.mul_comm c] at h
  omega

theorem s_Mul : PSpec Tryz.prog 72 RMul := by
  refine fspec_of (fn := Tryz.f72) 2 [.tmp 4] (by kernel_rfl) rfl rfl (by kernel_rfl) mixed (by rintro _ _ _ ⟨x, y, l, m, rfl, _⟩; rfl) ?_
  rintro X _ st K hP hst ⟨x, y, l, m, rfl, hx, hy, hl, hm, hK⟩
  refine vc_V ?_
  have h1 := hx.sl
  have h2 := hy.sl
  have h3 := hx.grow
  have h4 := hy.grow
  simp (disch:=first|assumption|omega|(simp only [lens];omega)) only [eqs,↓gvd_succ,↓gvd_zero,↓and_of,im_of,im_of trivial,vlt,hP,hst,initS,Nat.reduceBEq,Nat.reduceAdd,Nat.reduceMul,Nat.reduceSub,Nat.reduceDiv,Nat.reduceMod,Nat.reducePow,Nat.reduceLT,Nat.reduceLeDiff,Nat.reduceEqDiff,Int.reduceAdd,Int.reduceSub,Int.reduceNeg,Int.reduceMul,Int.reduceToNat,Int.reducePow,Int.reduceLE,Int.reduceLT,Int.reduceEq,Int.reduceNe,reduceIte,reduceCtorEq,ne_eq,not_true_eq_false,not_false_eq_true,imp_self,implies_true,bls,eq_self,h1,h2,h3,h4]
  refine V_loop (ι := Nat × List Nat) (fun d => [(19, .val (.int .i64 (d.1 : Int))), (18, .val (.int .i64 (l.length : Int))), (17, x), (5, .own st.length 0 (l.length + m.length) 1), (1, y), (0, x)])
    (fun d => st ++ [some (u32s d.2)]) (fun d => d.1 ≤ l.length ∧ d.2.length = l.length + m.length ∧ (∀ z ∈ d.2, z < 4294967296) ∧ val d.2 = val (l.take d.1) * val m ∧ ∀ j, d.1 + m.length ≤ j → d.2.getD j 0 = 0) (fun d => l.length - d.1)
    (0, List.replicate (l.length + m.length) 0) ⟨by simp, by simp, rep_lt (by simp), by simp [val, val_zeros], fun j _ => rep_getD _ _⟩ rfl (by simp (disch:=first|assumption|omega|(simp only [lens];omega)) only [eqs,↓gvd_succ,↓gvd_zero,↓and_of,im_of,im_of trivial,vlt,hP,hst,initS,Nat.reduceBEq,Nat.reduceAdd,Nat.reduceMul,Nat.reduceSub,Nat.reduceDiv,Nat.reduceMod,Nat.reducePow,Nat.reduceLT,Nat.reduceLeDiff,Nat.reduceEqDiff,Int.reduceAdd,Int.reduceSub,Int.reduceNeg,Int.reduceMul,Int.reduceToNat,Int.reducePow,Int.reduceLE,Int.reduceLT,Int.reduceEq,Int.reduceNe,reduceIte,reduceCtorEq,ne_eq,not_true_eq_false,not_false_eq_true,imp_self,implies_true,bls,eq_self]) ?_
  rintro ⟨i, row0⟩ ⟨hi, hr0, hrl0, hv0, hz0⟩
  dsimp only at hi hr0 hrl0 hv0 hz0 ⊢
  simp (disch:=first|assumption|omega|(simp only [lens];omega)) only [eqs,↓gvd_succ,↓gvd_zero,↓and_of,im_of,im_of trivial,vlt,hP,hst,initS,Nat.reduceBEq,Nat.reduceAdd,Nat.reduceMul,Nat.reduceSub,Nat.reduceDiv,Nat.reduceMod,Nat.reducePow,Nat.reduceLT,Nat.reduceLeDiff,Nat.reduceEqDiff,Int.reduceAdd,Int.reduceSub,Int.reduceNeg,Int.reduceMul,Int.reduceToNat,Int.reducePow,Int.reduceLE,Int.reduceLT,Int.reduceEq,Int.reduceNe,reduceIte,reduceCtorEq,ne_eq,not_true_eq_false,not_false_eq_true,imp_self,implies_true,bls,eq_self,h1,h2,h3,h4]
  refine C_dec (fun h6 => ?_) (fun h6 => ?_)
  · simp (disch:=first|assumption|omega|(simp only [lens];omega)) only [eqs,↓gvd_succ,↓gvd_zero,↓and_of,im_of,im_of trivial,vlt,hP,hst,initS,Nat.reduceBEq,Nat.reduceAdd,Nat.reduceMul,Nat.reduceSub,Nat.reduceDiv,Nat.reduceMod,Nat.reducePow,Nat.reduceLT,Nat.reduceLeDiff,Nat.reduceEqDiff,Int.reduceAdd,Int.reduceSub,Int.reduceNeg,Int.reduceMul,Int.reduceToNat,Int.reducePow,Int.reduceLE,Int.reduceLT,Int.reduceEq,Int.reduceNe,reduceIte,reduceCtorEq,ne_eq,not_true_eq_false,not_false_eq_true,imp_self,implies_true,bls,eq_self,h1,h2,h3,h4]
    have b1 := getD_lt hx.lt i
    refine V_loop (ι := Nat × List Nat × Nat) (fun d => [(26, .val (.int .i64 (d.1 : Int))), (25, .val (.int .i64 (m.length : Int))), (24, y), (8, .val (.int .u64 (d.2.2 : Int))), (7, .val (.int .u32 (l.getD i 0 : Nat))), (6, .val (.int .i64 (i : Int))), (19, .val (.int .i64 (i : Int))), (18, .val (.int .i64 (l.length : Int))), (17, x), (5, .own st.length 0 (l.length + m.length) 1), (1, y), (0, x)])
      (fun d => st ++ [some (u32s d.2.1)]) (fun d => d.1 ≤ m.length ∧ d.2.1.length = l.length + m.length ∧ d.2.2 < 4294967296 ∧ (∀ z ∈ d.2.1, z < 4294967296) ∧ val d.2.1 + d.2.2 * 4294967296 ^ (i + d.1) = val row0 + 4294967296 ^ i * l.getD i 0 * val (m.take d.1) ∧ ∀ j, i + m.length ≤ j → d.2.1.getD j 0 = 0) (fun d => m.length - d.1)
      (0, row0, 0) ⟨by simp, hr0, by simp, hrl0, by simp [val], hz0⟩ rfl (by simp (disch:=first|assumption|omega|(simp only [lens];omega)) only [eqs,↓gvd_succ,↓gvd_zero,↓and_of,im_of,im_of trivial,vlt,hP,hst,initS,Nat.reduceBEq,Nat.reduceAdd,Nat.reduceMul,Nat.reduceSub,Nat.reduceDiv,Nat.reduceMod,Nat.reducePow,Nat.reduceLT,Nat.reduceLeDiff,Nat.reduceEqDiff,Int.reduceAdd,Int.reduceSub,Int.reduceNeg,Int.reduceMul,Int.reduceToNat,Int.reducePow,Int.reduceLE,Int.reduceLT,Int.reduceEq,Int.reduceNe,reduceIte,reduceCtorEq,ne_eq,not_true_eq_false,not_false_eq_true,imp_self,implies_true,bls,eq_self]) ?_
    rintro ⟨k, row, c⟩ ⟨hk, hr, hc, hrl, hv, hz⟩
    dsimp only at hk hr hc hrl hv hz ⊢
    simp (disch:=first|assumption|omega|(simp only [lens];omega)) only [eqs,↓gvd_succ,↓gvd_zero,↓and_of,im_of,im_of trivial,vlt,hP,hst,initS,Nat.reduceBEq,Nat.reduceAdd,Nat.reduceMul,Nat.reduceSub,Nat.reduceDiv,Nat.reduceMod,Nat.reducePow,Nat.reduceLT,Nat.reduceLeDiff,Nat.reduceEqDiff,Int.reduceAdd,Int.reduceSub,Int.reduceNeg,Int.reduceMul,Int.reduceToNat,Int.reducePow,Int.reduceLE,Int.reduceLT,Int.reduceEq,Int.reduceNe,reduceIte,reduceCtorEq,ne_eq,not_true_eq_false,not_false_eq_true,imp_self,implies_true,bls,eq_self,h1,h2,h3,h4]
    refine C_dec (fun h7 => ?_) (fun h7 => ?_)
    · have b2 := getD_lt hy.lt k
      have b3 := getD_lt hrl (i + k)
      have b4 := Nat.mul_le_mul (show l.getD i 0 ≤ 4294967295 by omega) (show m.getD k 0 ≤ 4294967295 by omega)
      have e := mul_step (x := l.getD i 0) (y := m.getD k 0) (show i + k < row.length by omega) hv
      have e2 : 4294967296 ^ i * l.getD i 0 * val (m.take k) + 4294967296 ^ (i + k) * (l.getD i 0 * m.getD k 0) = 4294967296 ^ i * l.getD i 0 * val (m.take (k + 1)) := by
        rw [val_take_succ, Nat.mul_add, Nat.pow_add]
        congr 1
        rw [Nat.mul_assoc, Nat.mul_assoc]
        congr 1
        rw [← Nat.mul_assoc, ← Nat.mul_assoc, Nat.mul_comm (4294967296 ^ k)]
      rw [e2] at e
      have e3 : ((l.getD i 0 * m.getD k 0 : Nat) : Int) = (l.getD i 0 : Int) * (m.getD k 0 : Int) := Int.natCast_mul _ _
      generalize l.getD i 0 * m.getD k 0 = p at *
      have e4 : IntKind.u32.wrap ((c : Int) + ((row.getD (i + k) 0 : Nat) + (p : Int))) = (((c + (row.getD (i + k) 0 + p)) % 4294967296 : Nat) : Int) := by rw [IntKind.wrap_u32]; omega
      simp (disch:=first|assumption|omega|(simp only [lens];omega)) only [eqs,↓gvd_succ,↓gvd_zero,↓and_of,im_of,im_of trivial,vlt,hP,hst,initS,Nat.reduceBEq,Nat.reduceAdd,Nat.reduceMul,Nat.reduceSub,Nat.reduceDiv,Nat.reduceMod,Nat.reducePow,Nat.reduceLT,Nat.reduceLeDiff,Nat.reduceEqDiff,Int.reduceAdd,Int.reduceSub,Int.reduceNeg,Int.reduceMul,Int.reduceToNat,Int.reducePow,Int.reduceLE,Int.reduceLT,Int.reduceEq,Int.reduceNe,reduceIte,reduceCtorEq,ne_eq,not_true_eq_false,not_false_eq_true,imp_self,implies_true,bls,eq_self,h1,h2,h3,h4,← e3,e4]
      refine again (k + 1, row.set (i + k) ((c + (row.getD (i + k) 0 + p)) % 4294967296), (c + (row.getD (i + k) 0 + p)) / 4294967296) ⟨by dsimp only; omega, by simp [hr], by dsimp only; omega, set_lt hrl (by omega), e, fun j hj => ?_⟩ (by dsimp only; omega) rfl (by simp (disch:=first|assumption|omega|(simp only [lens];omega)) only [eqs,↓gvd_succ,↓gvd_zero,↓and_of,im_of,im_of trivial,vlt,hP,hst,initS,Nat.reduceBEq,Nat.reduceAdd,Nat.reduceMul,Nat.reduceSub,Nat.reduceDiv,Nat.reduceMod,Nat.reducePow,Nat.reduceLT,Nat.reduceLeDiff,Nat.reduceEqDiff,Int.reduceAdd,Int.reduceSub,Int.reduceNeg,Int.reduceMul,Int.reduceToNat,Int.reducePow,Int.reduceLE,Int.reduceLT,Int.reduceEq,Int.reduceNe,reduceIte,reduceCtorEq,ne_eq,not_true_eq_false,not_false_eq_true,imp_self,implies_true,bls,eq_self] <;> rfl)
      dsimp only
      rw [getD_set_ne' (by omega)]; exact hz j hj
    · simp (disch:=first|assumption|omega|(simp only [lens];omega)) only [eqs,↓gvd_succ,↓gvd_zero,↓and_of,im_of,im_of trivial,vlt,hP,hst,initS,Nat.reduceBEq,Nat.reduceAdd,Nat.reduceMul,Nat.reduceSub,Nat.reduceDiv,Nat.reduceMod,Nat.reducePow,Nat.reduceLT,Nat.reduceLeDiff,Nat.reduceEqDiff,Int.reduceAdd,Int.reduceSub,Int.reduceNeg,Int.reduceMul,Int.reduceToNat,Int.reducePow,Int.reduceLE,Int.reduceLT,Int.reduceEq,Int.reduceNe,reduceIte,reduceCtorEq,ne_eq,not_true_eq_false,not_false_eq_true,imp_self,implies_true,bls,eq_self,h1,h2,h3,h4]
      have hk2 : k = m.length := by omega
      subst hk2
      rw [List.take_of_length_le (Nat.le_refl _)] at hv
      have e1 := val_set (l := row) (i := i + m.length) (v := c) (by omega)
      rw [hz _ (Nat.le_refl _), Nat.mul_zero, Nat.add_zero, Nat.mul_comm _ c, hv, hv0, ← Nat.add_mul, ← val_take_succ] at e1
      refine again (i + 1, row.set (i + m.length) c) ⟨by dsimp only; omega, by simp [hr], set_lt hrl hc, e1, fun j hj => ?_⟩ (by dsimp only; omega) rfl (by simp (disch:=first|assumption|omega|(simp only [lens];omega)) only [eqs,↓gvd_succ,↓gvd_zero,↓and_of,im_of,im_of trivial,vlt,hP,hst,initS,Nat.reduceBEq,Nat.reduceAdd,Nat.reduceMul,Nat.reduceSub,Nat.reduceDiv,Nat.reduceMod,Nat.reducePow,Nat.reduceLT,Nat.reduceLeDiff,Nat.reduceEqDiff,Int.reduceAdd,Int.reduceSub,Int.reduceNeg,Int.reduceMul,Int.reduceToNat,Int.reducePow,Int.reduceLE,Int.reduceLT,Int.reduceEq,Int.reduceNe,reduceIte,reduceCtorEq,ne_eq,not_true_eq_false,not_false_eq_true,imp_self,implies_true,bls,eq_self] <;> rfl)
      dsimp only at hj ⊢
      rw [getD_set_ne' (by omega)]; exact hz j (by omega)
  · simp (disch:=first|assumption|omega|(simp only [lens];omega)) only [eqs,↓gvd_succ,↓gvd_zero,↓and_of,im_of,im_of trivial,vlt,hP,hst,initS,Nat.reduceBEq,Nat.reduceAdd,Nat.reduceMul,Nat.reduceSub,Nat.reduceDiv,Nat.reduceMod,Nat.reducePow,Nat.reduceLT,Nat.reduceLeDiff,Nat.reduceEqDiff,Int.reduceAdd,Int.reduceSub,Int.reduceNeg,Int.reduceMul,Int.reduceToNat,Int.reducePow,Int.reduceLE,Int.reduceLT,Int.reduceEq,Int.reduceNe,reduceIte,reduceCtorEq,ne_eq,not_true_eq_false,not_false_eq_true,imp_self,implies_true,bls,eq_self,h1,h2,h3,h4]
    have hi2 : i = l.length := by omega
    subst hi2
    refine E_call (hP ▸ s_trim) ⟨_, _, rfl, Nm.last hr0 hrl0, by omega, ?_⟩
    simp (disch:=first|assumption|omega|(simp only [lens];omega)) only [eqs,↓gvd_succ,↓gvd_zero,↓and_of,im_of,im_of trivial,vlt,hP,hst,initS,Nat.reduceBEq,Nat.reduceAdd,Nat.reduceMul,Nat.reduceSub,Nat.reduceDiv,Nat.reduceMod,Nat.reducePow,Nat.reduceLT,Nat.reduceLeDiff,Nat.reduceEqDiff,Int.reduceAdd,Int.reduceSub,Int.reduceNeg,Int.reduceMul,Int.reduceToNat,Int.reducePow,Int.reduceLE,Int.reduceLT,Int.reduceEq,Int.reduceNe,reduceIte,reduceCtorEq,ne_eq,not_true_eq_false,not_false_eq_true,imp_self,implies_true,bls,eq_self]
    refine hK.trim hrl0 ?_
    rw [hv0, List.take_of_length_le (Nat.le_refl _)]
end Go.Proofs.Pv
