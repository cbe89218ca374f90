/- The nat functions' walks, fourth part. -/
import Derived.Test.YtmclabehpfpnnaaGreatDoorW3
set_option linter.unusedSimpArgs false
set_option linter.unusedVariables false
namespace Go.Proofs.Pv
open Go Go.RowKit Go.Proofs
set_option maxRecDepth 10000

def RDivSmall (xs : List AV) (st : St) (K : AV → St → Prop) : Prop := ∃ x l d, xs = [x, .val (.int .u32 ((d : Nat) : Int))] ∧ Nm st x l ∧ l.length ≤ 100000 ∧ d < 4294967296 ∧
  fresh st (val l / d) fun z st' => K (.tup [z, .val (.int .u32 ((if d = 0 then 0 else val l % d : Nat) : Int))]) st'

theorem s_DivSmall : PSpec Tryz.prog 81 RDivSmall := by
  refine fspec_of (fn := Tryz.f81) 2 [.tmp 4, .tmp 5] (by kernel_rfl) rfl rfl (by kernel_rfl) mixed (by rintro _ _ _ ⟨x, l, d, rfl, _⟩; rfl) ?_
  rintro X _ st K hP hst ⟨x, l, d, rfl, hx, hl, hd, hK⟩
  refine vc_V ?_
  have h1 := hx.sl
  simp (disch:=first|assumption|omega|(simp only [lens];omega)) only [eqs,↓gvd_succ,↓gvd_zero,↓and_of,im_of,im_of trivial,vlt,hP,hst,initS,Nat.reduceBEq,Nat.reduceAdd,Nat.reduceMul,Nat.reduceSub,Nat.reduceDiv,Nat.reduceMod,Nat.reducePow,Nat.reduceLT,Nat.reduceLeDiff,Nat.reduceEqDiff,Int.reduceAdd,Int.reduceSub,Int.reduceNeg,Int.reduceMul,Int.reduceToNat,Int.reducePow,Int.reduceLE,Int.reduceLT,Int.reduceEq,Int.reduceNe,reduceIte,reduceCtorEq,ne_eq,not_true_eq_false,not_false_eq_true,imp_self,implies_true,bls,eq_self,h1]
  refine C_dec (fun h => ?_) (fun h => ?_)
  · simp (disch:=first|assumption|omega|(simp only [lens];omega)) only [eqs,↓gvd_succ,↓gvd_zero,↓and_of,im_of,im_of trivial,vlt,hP,hst,initS,Nat.reduceBEq,Nat.reduceAdd,Nat.reduceMul,Nat.reduceSub,Nat.reduceDiv,Nat.reduceMod,Nat.reducePow,Nat.reduceLT,Nat.reduceLeDiff,Nat.reduceEqDiff,Int.reduceAdd,Int.reduceSub,Int.reduceNeg,Int.reduceMul,Int.reduceToNat,Int.reducePow,Int.reduceLE,Int.reduceLT,Int.reduceEq,Int.reduceNe,reduceIte,reduceCtorEq,ne_eq,not_true_eq_false,not_false_eq_true,imp_self,implies_true,bls,eq_self,zrow]
    have hd0 : d = 0 := by omega
    subst hd0
    rw [Nat.div_zero] at hK
    exact hK.zero
  · have hd0 : d ≠ 0 := by omega
    rw [if_neg hd0] at hK
    have h3 := hx.grow
    simp (disch:=first|assumption|omega|(simp only [lens];omega)) only [eqs,↓gvd_succ,↓gvd_zero,↓and_of,im_of,im_of trivial,vlt,hP,hst,initS,Nat.reduceBEq,Nat.reduceAdd,Nat.reduceMul,Nat.reduceSub,Nat.reduceDiv,Nat.reduceMod,Nat.reducePow,Nat.reduceLT,Nat.reduceLeDiff,Nat.reduceEqDiff,Int.reduceAdd,Int.reduceSub,Int.reduceNeg,Int.reduceMul,Int.reduceToNat,Int.reducePow,Int.reduceLE,Int.reduceLT,Int.reduceEq,Int.reduceNe,reduceIte,reduceCtorEq,ne_eq,not_true_eq_false,not_false_eq_true,imp_self,implies_true,bls,eq_self,h1,h3]
    refine V_loop (ι := Nat × List Nat × Nat) (fun e => [(8, .val (.int .i64 ((e.1 : Int) - 1))), (7, .val (.int .u32 (e.2.2 : Int))), (6, .own st.length 0 l.length 1), (1, .val (.int .u32 (d : Int))), (0, x)])
      (fun e => st ++ [some (u32s e.2.1)]) (fun e => e.1 ≤ l.length ∧ e.2.1.length = l.length ∧ e.2.2 < d ∧ (∀ z ∈ e.2.1, z < 4294967296) ∧ val (e.2.1.drop e.1) * d + e.2.2 = val (l.drop e.1)) (fun e => e.1)
      (l.length, List.replicate l.length 0, 0) ⟨by simp, by simp, by simp; omega, rep_lt (by simp), by simp [val]⟩ rfl (by simp (disch:=first|assumption|omega|(simp only [lens];omega)) only [eqs,↓gvd_succ,↓gvd_zero,↓and_of,im_of,im_of trivial,vlt,hP,hst,initS,Nat.reduceBEq,Nat.reduceAdd,Nat.reduceMul,Nat.reduceSub,Nat.reduceDiv,Nat.reduceMod,Nat.reducePow,Nat.reduceLT,Nat.reduceLeDiff,Nat.reduceEqDiff,Int.reduceAdd,Int.reduceSub,Int.reduceNeg,Int.reduceMul,Int.reduceToNat,Int.reducePow,Int.reduceLE,Int.reduceLT,Int.reduceEq,Int.reduceNe,reduceIte,reduceCtorEq,ne_eq,not_true_eq_false,not_false_eq_true,imp_self,implies_true,bls,eq_self]) ?_
    rintro ⟨k, row, r⟩ ⟨hk, hr, hc, hrl, hv⟩
    dsimp only at hk hr hc hrl hv ⊢
    simp (disch:=first|assumption|omega|(simp only [lens];omega)) only [eqs,↓gvd_succ,↓gvd_zero,↓and_of,im_of,im_of trivial,vlt,hP,hst,initS,Nat.reduceBEq,Nat.reduceAdd,Nat.reduceMul,Nat.reduceSub,Nat.reduceDiv,Nat.reduceMod,Nat.reducePow,Nat.reduceLT,Nat.reduceLeDiff,Nat.reduceEqDiff,Int.reduceAdd,Int.reduceSub,Int.reduceNeg,Int.reduceMul,Int.reduceToNat,Int.reducePow,Int.reduceLE,Int.reduceLT,Int.reduceEq,Int.reduceNe,reduceIte,reduceCtorEq,ne_eq,not_true_eq_false,not_false_eq_true,imp_self,implies_true,bls,eq_self,h1,h3]
    refine C_dec (fun h6 => ?_) (fun h6 => ?_)
    · simp (disch:=first|assumption|omega|(simp only [lens];omega)) only [eqs,↓gvd_succ,↓gvd_zero,↓and_of,im_of,im_of trivial,vlt,hP,hst,initS,Nat.reduceBEq,Nat.reduceAdd,Nat.reduceMul,Nat.reduceSub,Nat.reduceDiv,Nat.reduceMod,Nat.reducePow,Nat.reduceLT,Nat.reduceLeDiff,Nat.reduceEqDiff,Int.reduceAdd,Int.reduceSub,Int.reduceNeg,Int.reduceMul,Int.reduceToNat,Int.reducePow,Int.reduceLE,Int.reduceLT,Int.reduceEq,Int.reduceNe,reduceIte,reduceCtorEq,ne_eq,not_true_eq_false,not_false_eq_true,imp_self,implies_true,bls,eq_self,h1,h3]
      have b1 := getD_lt hx.lt (k - 1)
      refine E_call (hP ▸ s_Div32) ⟨_, _, _, rfl, hc, b1, hd, ?_⟩
      have e := div_step (a := l.getD (k - 1) 0) hv
      rw [← val_drop_pred (by omega) hk, ← val_drop_set (by omega) (by omega)] at e
      have hq : (r * 4294967296 + l.getD (k - 1) 0) / d < 4294967296 := by
        rw [Nat.div_lt_iff_lt_mul (by omega)]
        have := Nat.mul_le_mul_right 4294967296 (show r + 1 ≤ d by omega)
        omega
      have hr2 : (r * 4294967296 + l.getD (k - 1) 0) % d < d := Nat.mod_lt _ (by omega)
      generalize (r * 4294967296 + l.getD (k - 1) 0) / d = q at *
      generalize (r * 4294967296 + l.getD (k - 1) 0) % d = r2 at *
      simp (disch:=first|assumption|omega|(simp only [lens];omega)) only [eqs,↓gvd_succ,↓gvd_zero,↓and_of,im_of,im_of trivial,vlt,hP,hst,initS,Nat.reduceBEq,Nat.reduceAdd,Nat.reduceMul,Nat.reduceSub,Nat.reduceDiv,Nat.reduceMod,Nat.reducePow,Nat.reduceLT,Nat.reduceLeDiff,Nat.reduceEqDiff,Int.reduceAdd,Int.reduceSub,Int.reduceNeg,Int.reduceMul,Int.reduceToNat,Int.reducePow,Int.reduceLE,Int.reduceLT,Int.reduceEq,Int.reduceNe,reduceIte,reduceCtorEq,ne_eq,not_true_eq_false,not_false_eq_true,imp_self,implies_true,bls,eq_self,h1,h3]
      refine again (k - 1, row.set (k - 1) q, r2) ⟨by dsimp only; omega, by simp [hr], hr2, set_lt hrl hq, e⟩ (by dsimp only; omega) rfl (by
        rw [show ((k - 1 : Nat) : Int) = (k : Int) - 1 by omega]
        simp (disch:=first|assumption|omega|(simp only [lens];omega)) only [eqs,↓gvd_succ,↓gvd_zero,↓and_of,im_of,im_of trivial,vlt,hP,hst,initS,Nat.reduceBEq,Nat.reduceAdd,Nat.reduceMul,Nat.reduceSub,Nat.reduceDiv,Nat.reduceMod,Nat.reducePow,Nat.reduceLT,Nat.reduceLeDiff,Nat.reduceEqDiff,Int.reduceAdd,Int.reduceSub,Int.reduceNeg,Int.reduceMul,Int.reduceToNat,Int.reducePow,Int.reduceLE,Int.reduceLT,Int.reduceEq,Int.reduceNe,reduceIte,reduceCtorEq,ne_eq,not_true_eq_false,not_false_eq_true,imp_self,implies_true,bls,eq_self])
    · simp (disch:=first|assumption|omega|(simp only [lens];omega)) only [eqs,↓gvd_succ,↓gvd_zero,↓and_of,im_of,im_of trivial,vlt,hP,hst,initS,Nat.reduceBEq,Nat.reduceAdd,Nat.reduceMul,Nat.reduceSub,Nat.reduceDiv,Nat.reduceMod,Nat.reducePow,Nat.reduceLT,Nat.reduceLeDiff,Nat.reduceEqDiff,Int.reduceAdd,Int.reduceSub,Int.reduceNeg,Int.reduceMul,Int.reduceToNat,Int.reducePow,Int.reduceLE,Int.reduceLT,Int.reduceEq,Int.reduceNe,reduceIte,reduceCtorEq,ne_eq,not_true_eq_false,not_false_eq_true,imp_self,implies_true,bls,eq_self,h1,h3]
      have hk0 : k = 0 := by omega
      subst hk0
      refine E_call (hP ▸ s_trim) ⟨_, _, rfl, Nm.last hr hrl, by omega, ?_⟩
      simp (disch:=first|assumption|omega|(simp only [lens];omega)) only [eqs,↓gvd_succ,↓gvd_zero,↓and_of,im_of,im_of trivial,vlt,hP,hst,initS,Nat.reduceBEq,Nat.reduceAdd,Nat.reduceMul,Nat.reduceSub,Nat.reduceDiv,Nat.reduceMod,Nat.reducePow,Nat.reduceLT,Nat.reduceLeDiff,Nat.reduceEqDiff,Int.reduceAdd,Int.reduceSub,Int.reduceNeg,Int.reduceMul,Int.reduceToNat,Int.reducePow,Int.reduceLE,Int.reduceLT,Int.reduceEq,Int.reduceNe,reduceIte,reduceCtorEq,ne_eq,not_true_eq_false,not_false_eq_true,imp_self,implies_true,bls,eq_self]
      simp only [List.drop_zero] at hv
      have e1 : val l / d = val row := by
        rw [← hv, Nat.mul_comm, Nat.mul_add_div (by omega), Nat.div_eq_of_lt hc, Nat.add_zero]
      have e2 : val l % d = r := by
        rw [← hv, Nat.mul_comm, Nat.mul_add_mod, Nat.mod_eq_of_lt hc]
      rw [e1, e2] at hK
      exact hK.trim hrl rfl

def RBits (xs : List AV) (st : St) (K : AV → St → Prop) : Prop := ∃ x l, xs = [x] ∧ Nm st x l ∧ l.length ≤ 100000 ∧ K (.val (.int .i64 (blen (val l) : Int))) st
def RDown (xs : List AV) (st : St) (K : AV → St → Prop) : Prop := ∃ x l n, xs = [x, .val (.int .i64 ((n : Nat) : Int))] ∧ Nm st x l ∧ l.length ≤ 100000 ∧ n ≤ 100000 ∧ fresh st (val l / 2 ^ n) K
theorem s_down : PSpec Tryz.prog 106 RDown := by
  refine fspec_of (fn := Tryz.f106) 2 [.tmp 4] (by kernel_rfl) rfl rfl (by kernel_rfl) mixed (by rintro _ _ _ ⟨x, l, n, rfl, _⟩; rfl) ?_
  rintro X _ st K hP hst ⟨x, l, n, rfl, hx, hl, hn, hK⟩
  refine vc_V ?_
  have h1 := hx.sl
  have hn2 : val l / 2 ^ n = val (l.drop (n / 32)) / 2 ^ (n % 32) := by
    rw [← val_div hx.lt, Nat.div_div_eq_div_mul]
    congr 1
    rw [show (4294967296 : Nat) = 2 ^ 32 from rfl, ← Nat.pow_mul, ← Nat.pow_add, Nat.div_add_mod]
  simp (disch:=first|assumption|omega|(simp only [lens];omega)) only [eqs,↓gvd_succ,↓gvd_zero,↓and_of,im_of,im_of trivial,vlt,hP,hst,initS,Nat.reduceBEq,Nat.reduceAdd,Nat.reduceMul,Nat.reduceSub,Nat.reduceDiv,Nat.reduceMod,Nat.reducePow,Nat.reduceLT,Nat.reduceLeDiff,Nat.reduceEqDiff,Int.reduceAdd,Int.reduceSub,Int.reduceNeg,Int.reduceMul,Int.reduceToNat,Int.reducePow,Int.reduceLE,Int.reduceLT,Int.reduceEq,Int.reduceNe,reduceIte,reduceCtorEq,ne_eq,not_true_eq_false,not_false_eq_true,imp_self,implies_true,bls,eq_self,h1]
  refine C_dec (fun h => ?_) (fun h => ?_)
  · simp (disch:=first|assumption|omega|(simp only [lens];omega)) only [eqs,↓gvd_succ,↓gvd_zero,↓and_of,im_of,im_of trivial,vlt,hP,hst,initS,Nat.reduceBEq,Nat.reduceAdd,Nat.reduceMul,Nat.reduceSub,Nat.reduceDiv,Nat.reduceMod,Nat.reducePow,Nat.reduceLT,Nat.reduceLeDiff,Nat.reduceEqDiff,Int.reduceAdd,Int.reduceSub,Int.reduceNeg,Int.reduceMul,Int.reduceToNat,Int.reducePow,Int.reduceLE,Int.reduceLT,Int.reduceEq,Int.reduceNe,reduceIte,reduceCtorEq,ne_eq,not_true_eq_false,not_false_eq_true,imp_self,implies_true,bls,eq_self,zrow]
    rw [hn2, List.drop_eq_nil_of_le (by omega), val, Nat.zero_div] at hK
    exact hK.zero
  · have hx2 := hx.cut (a := n / 32) (m := l.length - n / 32) (by omega)
    rw [List.take_of_length_le (by simp)] at hx2
    have hl2 : (l.drop (n / 32)).length ≤ 100000 := by simp; omega
    rw [hn2] at hK
    simp (disch:=first|assumption|omega|(simp only [lens];omega)) only [eqs,↓gvd_succ,↓gvd_zero,↓and_of,im_of,im_of trivial,vlt,hP,hst,initS,Nat.reduceBEq,Nat.reduceAdd,Nat.reduceMul,Nat.reduceSub,Nat.reduceDiv,Nat.reduceMod,Nat.reducePow,Nat.reduceLT,Nat.reduceLeDiff,Nat.reduceEqDiff,Int.reduceAdd,Int.reduceSub,Int.reduceNeg,Int.reduceMul,Int.reduceToNat,Int.reducePow,Int.reduceLE,Int.reduceLT,Int.reduceEq,Int.reduceNe,reduceIte,reduceCtorEq,ne_eq,not_true_eq_false,not_false_eq_true,imp_self,implies_true,bls,eq_self,h1]
    generalize cutA x (n / 32) (l.length - n / 32) 1 = x' at hx2 ⊢
    generalize l.drop (n / 32) = l' at hx2 hK hl2
    have h2 := hx2.sl
    have h3 := hx2.grow
    simp (disch:=first|assumption|omega|(simp only [lens];omega)) only [eqs,↓gvd_succ,↓gvd_zero,↓and_of,im_of,im_of trivial,vlt,hP,hst,initS,Nat.reduceBEq,Nat.reduceAdd,Nat.reduceMul,Nat.reduceSub,Nat.reduceDiv,Nat.reduceMod,Nat.reducePow,Nat.reduceLT,Nat.reduceLeDiff,Nat.reduceEqDiff,Int.reduceAdd,Int.reduceSub,Int.reduceNeg,Int.reduceMul,Int.reduceToNat,Int.reducePow,Int.reduceLE,Int.reduceLT,Int.reduceEq,Int.reduceNe,reduceIte,reduceCtorEq,ne_eq,not_true_eq_false,not_false_eq_true,imp_self,implies_true,bls,eq_self,h2,h3]
    refine V_loop (ι := Nat × List Nat) (fun e => [(28, .val (.int .i64 (e.1 : Int))), (27, .val (.int .i64 (l'.length : Int))), (26, x'), (7, .own st.length 0 l'.length 1), (6, .val (.int .i64 ((n % 32 : Nat) : Int))), (0, x')])
      (fun e => st ++ [some (u32s e.2)]) (fun e => e.1 ≤ l'.length ∧ e.2.length = l'.length ∧ (∀ z ∈ e.2, z < 4294967296) ∧ val (e.2.take e.1) = val l' / 2 ^ (n % 32) % 4294967296 ^ e.1) (fun e => l'.length - e.1)
      (0, List.replicate l'.length 0) ⟨by simp, by simp, rep_lt (by simp), by simp [val, Nat.mod_one]⟩ rfl (by simp (disch:=first|assumption|omega|(simp only [lens];omega)) only [eqs,↓gvd_succ,↓gvd_zero,↓and_of,im_of,im_of trivial,vlt,hP,hst,initS,Nat.reduceBEq,Nat.reduceAdd,Nat.reduceMul,Nat.reduceSub,Nat.reduceDiv,Nat.reduceMod,Nat.reducePow,Nat.reduceLT,Nat.reduceLeDiff,Nat.reduceEqDiff,Int.reduceAdd,Int.reduceSub,Int.reduceNeg,Int.reduceMul,Int.reduceToNat,Int.reducePow,Int.reduceLE,Int.reduceLT,Int.reduceEq,Int.reduceNe,reduceIte,reduceCtorEq,ne_eq,not_true_eq_false,not_false_eq_true,imp_self,implies_true,bls,eq_self]) ?_
    rintro ⟨i, row⟩ ⟨hi, hr, hrl, hv⟩
    dsimp only at hi hr hrl hv ⊢
    simp (disch:=first|assumption|omega|(simp only [lens];omega)) only [eqs,↓gvd_succ,↓gvd_zero,↓and_of,im_of,im_of trivial,vlt,hP,hst,initS,Nat.reduceBEq,Nat.reduceAdd,Nat.reduceMul,Nat.reduceSub,Nat.reduceDiv,Nat.reduceMod,Nat.reducePow,Nat.reduceLT,Nat.reduceLeDiff,Nat.reduceEqDiff,Int.reduceAdd,Int.reduceSub,Int.reduceNeg,Int.reduceMul,Int.reduceToNat,Int.reducePow,Int.reduceLE,Int.reduceLT,Int.reduceEq,Int.reduceNe,reduceIte,reduceCtorEq,ne_eq,not_true_eq_false,not_false_eq_true,imp_self,implies_true,bls,eq_self,h2,h3]
    refine C_dec (fun h6 => ?_) (fun h6 => ?_)
    · have b1 := getD_lt hx2.lt i
      have b2 := getD_lt hx2.lt (i + 1)
      have e := down_limb hx2.lt i (n % 32) (by omega)
      have e2 := mod_pow_succ (val l' / 2 ^ (n % 32)) i
      rw [e, ← hv, ← val_take_set (by omega)] at e2
      simp (disch:=first|assumption|omega|(simp only [lens];omega)) only [eqs,↓gvd_succ,↓gvd_zero,↓and_of,im_of,im_of trivial,vlt,hP,hst,initS,Nat.reduceBEq,Nat.reduceAdd,Nat.reduceMul,Nat.reduceSub,Nat.reduceDiv,Nat.reduceMod,Nat.reducePow,Nat.reduceLT,Nat.reduceLeDiff,Nat.reduceEqDiff,Int.reduceAdd,Int.reduceSub,Int.reduceNeg,Int.reduceMul,Int.reduceToNat,Int.reducePow,Int.reduceLE,Int.reduceLT,Int.reduceEq,Int.reduceNe,reduceIte,reduceCtorEq,ne_eq,not_true_eq_false,not_false_eq_true,imp_self,implies_true,bls,eq_self,h2,h3]
      refine C_dec (fun h7 => ?_) (fun h7 => ?_)
      · simp (disch:=first|assumption|omega|(simp only [lens];omega)) only [eqs,↓gvd_succ,↓gvd_zero,↓and_of,im_of,im_of trivial,vlt,hP,hst,initS,Nat.reduceBEq,Nat.reduceAdd,Nat.reduceMul,Nat.reduceSub,Nat.reduceDiv,Nat.reduceMod,Nat.reducePow,Nat.reduceLT,Nat.reduceLeDiff,Nat.reduceEqDiff,Int.reduceAdd,Int.reduceSub,Int.reduceNeg,Int.reduceMul,Int.reduceToNat,Int.reducePow,Int.reduceLE,Int.reduceLT,Int.reduceEq,Int.reduceNe,reduceIte,reduceCtorEq,ne_eq,not_true_eq_false,not_false_eq_true,imp_self,implies_true,bls,eq_self,h2,h3,or64_hi,wrap_u32_nat]
        refine again (i + 1, _) ⟨by dsimp only; omega, ?_, ?_, e2.symm⟩ (by dsimp only; omega) rfl (by simp (disch:=first|assumption|omega|(simp only [lens];omega)) only [eqs,↓gvd_succ,↓gvd_zero,↓and_of,im_of,im_of trivial,vlt,hP,hst,initS,Nat.reduceBEq,Nat.reduceAdd,Nat.reduceMul,Nat.reduceSub,Nat.reduceDiv,Nat.reduceMod,Nat.reducePow,Nat.reduceLT,Nat.reduceLeDiff,Nat.reduceEqDiff,Int.reduceAdd,Int.reduceSub,Int.reduceNeg,Int.reduceMul,Int.reduceToNat,Int.reducePow,Int.reduceLE,Int.reduceLT,Int.reduceEq,Int.reduceNe,reduceIte,reduceCtorEq,ne_eq,not_true_eq_false,not_false_eq_true,imp_self,implies_true,bls,eq_self])
        · simp [hr]
        · exact set_lt hrl (Nat.mod_lt _ (by omega))
      · simp (disch:=first|assumption|omega|(simp only [lens];omega)) only [eqs,↓gvd_succ,↓gvd_zero,↓and_of,im_of,im_of trivial,vlt,hP,hst,initS,Nat.reduceBEq,Nat.reduceAdd,Nat.reduceMul,Nat.reduceSub,Nat.reduceDiv,Nat.reduceMod,Nat.reducePow,Nat.reduceLT,Nat.reduceLeDiff,Nat.reduceEqDiff,Int.reduceAdd,Int.reduceSub,Int.reduceNeg,Int.reduceMul,Int.reduceToNat,Int.reducePow,Int.reduceLE,Int.reduceLT,Int.reduceEq,Int.reduceNe,reduceIte,reduceCtorEq,ne_eq,not_true_eq_false,not_false_eq_true,imp_self,implies_true,bls,eq_self,h2,h3,wrap_u32_nat]
        have b3 := getD_out (show l'.length ≤ i + 1 by omega)
        rw [b3, Nat.zero_mul, Nat.add_zero] at e2
        refine again (i + 1, _) ⟨by dsimp only; omega, ?_, ?_, e2.symm⟩ (by dsimp only; omega) rfl (by simp (disch:=first|assumption|omega|(simp only [lens];omega)) only [eqs,↓gvd_succ,↓gvd_zero,↓and_of,im_of,im_of trivial,vlt,hP,hst,initS,Nat.reduceBEq,Nat.reduceAdd,Nat.reduceMul,Nat.reduceSub,Nat.reduceDiv,Nat.reduceMod,Nat.reducePow,Nat.reduceLT,Nat.reduceLeDiff,Nat.reduceEqDiff,Int.reduceAdd,Int.reduceSub,Int.reduceNeg,Int.reduceMul,Int.reduceToNat,Int.reducePow,Int.reduceLE,Int.reduceLT,Int.reduceEq,Int.reduceNe,reduceIte,reduceCtorEq,ne_eq,not_true_eq_false,not_false_eq_true,imp_self,implies_true,bls,eq_self])
        · simp [hr]
        · exact set_lt hrl (Nat.mod_lt _ (by omega))
    · simp (disch:=first|assumption|omega|(simp only [lens];omega)) only [eqs,↓gvd_succ,↓gvd_zero,↓and_of,im_of,im_of trivial,vlt,hP,hst,initS,Nat.reduceBEq,Nat.reduceAdd,Nat.reduceMul,Nat.reduceSub,Nat.reduceDiv,Nat.reduceMod,Nat.reducePow,Nat.reduceLT,Nat.reduceLeDiff,Nat.reduceEqDiff,Int.reduceAdd,Int.reduceSub,Int.reduceNeg,Int.reduceMul,Int.reduceToNat,Int.reducePow,Int.reduceLE,Int.reduceLT,Int.reduceEq,Int.reduceNe,reduceIte,reduceCtorEq,ne_eq,not_true_eq_false,not_false_eq_true,imp_self,implies_true,bls,eq_self,h2,h3]
      have hi2 : i = l'.length := by omega
      subst hi2
      refine E_call (hP ▸ s_trim) ⟨_, _, rfl, Nm.last hr hrl, by omega, ?_⟩
      simp (disch:=first|assumption|omega|(simp only [lens];omega)) only [eqs,↓gvd_succ,↓gvd_zero,↓and_of,im_of,im_of trivial,vlt,hP,hst,initS,Nat.reduceBEq,Nat.reduceAdd,Nat.reduceMul,Nat.reduceSub,Nat.reduceDiv,Nat.reduceMod,Nat.reducePow,Nat.reduceLT,Nat.reduceLeDiff,Nat.reduceEqDiff,Int.reduceAdd,Int.reduceSub,Int.reduceNeg,Int.reduceMul,Int.reduceToNat,Int.reducePow,Int.reduceLE,Int.reduceLT,Int.reduceEq,Int.reduceNe,reduceIte,reduceCtorEq,ne_eq,not_true_eq_false,not_false_eq_true,imp_self,implies_true,bls,eq_self]
      refine hK.trim hrl ?_
      rw [List.take_of_length_le (by omega), Nat.mod_eq_of_lt] at hv
      · exact hv
      · have := val_lt hx2.lt
        have := Nat.div_le_self (val l') (2 ^ (n % 32))
        omega
end Go.Proofs.Pv
