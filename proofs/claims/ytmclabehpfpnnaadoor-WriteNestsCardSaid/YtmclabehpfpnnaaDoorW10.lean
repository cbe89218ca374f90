/- The nat functions' walks, sixth part. -/
import Derived.Test.YtmclabehpfpnnaaDoorW5
import Derived.Test.YtmclabehpfpnnaaDoorD1
import Derived.Laws.Strings
set_option linter.unusedSimpArgs false
set_option linter.unusedVariables false
namespace Go.Proofs.Pv
open Go Go.RowKit Go.Proofs
set_option maxRecDepth 10000

def RMul (xs : List AV) (st : St) (K : AV → St → Prop) : Prop := ∃ x y l m, xs = [x, y] ∧ Nm st x l ∧ Nm st y m ∧ l.length ≤ 10000 ∧ m.length ≤ 10000 ∧ fresh st (val l * val m) K

theorem mul_step {row : List Nat} {V W c x y i k : Nat} (hk : i + k < row.length) (h : val row + c * 4294967296 ^ (i + k) = V + W) :
    val (row.set (i + k) ((c + (row.getD (i + k) 0 + x * y)) % 4294967296)) + (c + (row.getD (i + k) 0 + x * y)) / 4294967296 * 4294967296 ^ (i + (k + 1)) = V + (W + 4294967296 ^ (i + k) * (x * y)) := by
  have e1 := val_set (v := (c + (row.getD (i + k) 0 + x * y)) % 4294967296) hk
  have e2 := congrArg (4294967296 ^ (i + k) * ·) (Nat.div_add_mod (c + (row.getD (i + k) 0 + x * y)) 4294967296)
  simp only [Nat.mul_add] at e2
  rw [show i + (k + 1) = i + k + 1 by omega, Nat.pow_succ, Nat.mul_comm (_ / _) _]
  rw [← Nat.mul_assoc] at e2
  rw [Nat.mul_comm c] at h
  omega

end Go.Proofs.Pv

/- The nat functions' walks, seventh part. -/
namespace Go.Proofs.Pv
open Go Go.RowKit Go.Proofs
set_option maxRecDepth 10000

def RReverse (b : Nat) (xs : List AV) (st : St) (K : AV → St → Prop) : Prop := ∃ r l, xs = [.own r 0 (l.length) 1] ∧ b ≤ r ∧ st[r]? = some (some (u8s l)) ∧ l.length ≤ 1000000 ∧ K (.tup []) (st.set r (some (u8s l.reverse)))

theorem s_Reverse {X : Cx} (hX : X.P = Tryd.prog) : FSpec X 119 (RReverse X.st1.length) := by
  refine wspec_of (fn := Tryd.f119) 1 [] (by kernel_rfl) rfl rfl (by kernel_rfl) mixed (by rintro _ _ _ ⟨r, l, rfl, _⟩; rfl) hX ?_
  rintro X _ st K hP hst ⟨r, l, rfl, hb, hr, hl, hK⟩
  refine vc_V ?_
  have hrl : r < st.length := (List.getElem?_eq_some_iff.1 hr).1
  simp (disch:=first|assumption|omega|(simp only [lens];omega)) only [eqs,↓gvd_succ,↓gvd_zero,↓and_of,im_of,im_of trivial,vlt,hP,hst,initS,Nat.reduceBEq,Nat.reduceAdd,Nat.reduceMul,Nat.reduceSub,Nat.reduceDiv,Nat.reduceMod,Nat.reducePow,Nat.reduceLT,Nat.reduceLeDiff,Nat.reduceEqDiff,Int.reduceAdd,Int.reduceSub,Int.reduceNeg,Int.reduceMul,Int.reduceToNat,Int.reducePow,Int.reduceLE,Int.reduceLT,Int.reduceEq,Int.reduceNe,reduceIte,reduceCtorEq,ne_eq,not_true_eq_false,not_false_eq_true,imp_self,implies_true,bls,eq_self,hr]
  refine V_loop (ι := Nat × List Nat) (fun e => [(0, .own r 0 l.length 1), (2, .val (.int .i64 (e.1 : Int))), (3, .val (.int .i64 ((l.length : Int) - 1 - e.1)))]) (fun e => st.set r (some (u8s e.2)))
    (fun e => e.1 ≤ l.length ∧ e.2.length = l.length ∧ ∀ j, j < l.length → e.2.getD j 0 = if j < e.1 ∨ l.length ≤ j + e.1 then l.getD (l.length - 1 - j) 0 else l.getD j 0) (fun e => l.length - e.1) (0, l) ⟨by simp, rfl, fun j hj => by rw [if_neg (by simp; omega)]⟩ (set_self hr) (by simp (disch:=first|assumption|omega|(simp only [lens];omega)) only [eqs,↓gvd_succ,↓gvd_zero,↓and_of,im_of,im_of trivial,vlt,hP,hst,initS,Nat.reduceBEq,Nat.reduceAdd,Nat.reduceMul,Nat.reduceSub,Nat.reduceDiv,Nat.reduceMod,Nat.reducePow,Nat.reduceLT,Nat.reduceLeDiff,Nat.reduceEqDiff,Int.reduceAdd,Int.reduceSub,Int.reduceNeg,Int.reduceMul,Int.reduceToNat,Int.reducePow,Int.reduceLE,Int.reduceLT,Int.reduceEq,Int.reduceNe,reduceIte,reduceCtorEq,ne_eq,not_true_eq_false,not_false_eq_true,imp_self,implies_true,bls,eq_self] <;> simp) ?_
  rintro ⟨i, row⟩ ⟨hi, hrow, hv⟩
  dsimp only at hi hrow hv ⊢
  simp (disch:=first|assumption|omega|(simp only [lens];omega)) only [eqs,↓gvd_succ,↓gvd_zero,↓and_of,im_of,im_of trivial,vlt,hP,hst,initS,Nat.reduceBEq,Nat.reduceAdd,Nat.reduceMul,Nat.reduceSub,Nat.reduceDiv,Nat.reduceMod,Nat.reducePow,Nat.reduceLT,Nat.reduceLeDiff,Nat.reduceEqDiff,Int.reduceAdd,Int.reduceSub,Int.reduceNeg,Int.reduceMul,Int.reduceToNat,Int.reducePow,Int.reduceLE,Int.reduceLT,Int.reduceEq,Int.reduceNe,reduceIte,reduceCtorEq,ne_eq,not_true_eq_false,not_false_eq_true,imp_self,implies_true,bls,eq_self]
  refine C_dec (fun h => ?_) (fun h => ?_)
  · simp (disch:=first|assumption|omega|(simp only [lens];omega)) only [eqs,↓gvd_succ,↓gvd_zero,↓and_of,im_of,im_of trivial,vlt,hP,hst,initS,Nat.reduceBEq,Nat.reduceAdd,Nat.reduceMul,Nat.reduceSub,Nat.reduceDiv,Nat.reduceMod,Nat.reducePow,Nat.reduceLT,Nat.reduceLeDiff,Nat.reduceEqDiff,Int.reduceAdd,Int.reduceSub,Int.reduceNeg,Int.reduceMul,Int.reduceToNat,Int.reducePow,Int.reduceLE,Int.reduceLT,Int.reduceEq,Int.reduceNe,reduceIte,reduceCtorEq,ne_eq,not_true_eq_false,not_false_eq_true,imp_self,implies_true,bls,eq_self]
    refine V_draw [0, 1, 2, 3, 4, 5, 6, 7, 8, 9, 10, 11, 12, 13, 14, 15] (by kernel_rfl) (.cons rfl <| .cons rfl <| .cons rfl <| .cons rfl <| .cons rfl <| .cons rfl <| .cons rfl <| .cons rfl <| .cons rfl <| .cons rfl <| .cons rfl <| .cons rfl <| .cons rfl <| .cons rfl <| .cons rfl <| .cons rfl <| .nil) ?_
    simp (disch:=first|assumption|omega|(simp only [lens];omega)) only [eqs,↓gvd_succ,↓gvd_zero,↓and_of,im_of,im_of trivial,vlt,hP,hst,initS,Nat.reduceBEq,Nat.reduceAdd,Nat.reduceMul,Nat.reduceSub,Nat.reduceDiv,Nat.reduceMod,Nat.reducePow,Nat.reduceLT,Nat.reduceLeDiff,Nat.reduceEqDiff,Int.reduceAdd,Int.reduceSub,Int.reduceNeg,Int.reduceMul,Int.reduceToNat,Int.reducePow,Int.reduceLE,Int.reduceLT,Int.reduceEq,Int.reduceNe,reduceIte,reduceCtorEq,ne_eq,not_true_eq_false,not_false_eq_true,imp_self,implies_true,bls,eq_self,show ((l.length : Int) - 1 - i).toNat = l.length - 1 - i by omega]
    refine again (i + 1, (row.set i (row.getD (l.length - 1 - i) 0)).set (l.length - 1 - i) (row.getD i 0)) ⟨by dsimp only; omega, by simp [hrow], fun j hj => ?_⟩ (by dsimp only; omega) rfl (by
      rw [show (l.length : Int) - 1 - ((i + 1 : Nat) : Int) = (l.length : Int) - 1 - i - 1 by omega]
      simp (disch:=first|assumption|omega|(simp only [lens];omega)) only [eqs,↓gvd_succ,↓gvd_zero,↓and_of,im_of,im_of trivial,vlt,hP,hst,initS,Nat.reduceBEq,Nat.reduceAdd,Nat.reduceMul,Nat.reduceSub,Nat.reduceDiv,Nat.reduceMod,Nat.reducePow,Nat.reduceLT,Nat.reduceLeDiff,Nat.reduceEqDiff,Int.reduceAdd,Int.reduceSub,Int.reduceNeg,Int.reduceMul,Int.reduceToNat,Int.reducePow,Int.reduceLE,Int.reduceLT,Int.reduceEq,Int.reduceNe,reduceIte,reduceCtorEq,ne_eq,not_true_eq_false,not_false_eq_true,imp_self,implies_true,bls,eq_self])
    dsimp only
    by_cases h1 : j = l.length - 1 - i
    · subst h1
      rw [getD_set_self (by simp; omega), hv i (by omega), if_neg (by omega), if_pos (by omega)]
      congr 1; omega
    · rw [getD_set_ne' (by omega)]
      by_cases h2 : j = i
      · subst h2
        rw [getD_set_self (by omega), hv _ (by omega), if_neg (by omega), if_pos (by omega)]
      · rw [getD_set_ne' (by omega), hv j hj]
        by_cases h3 : j < i ∨ l.length ≤ j + i
        · rw [if_pos h3, if_pos (by omega)]
        · rw [if_neg h3, if_neg (by omega)]
  · simp (disch:=first|assumption|omega|(simp only [lens];omega)) only [eqs,↓gvd_succ,↓gvd_zero,↓and_of,im_of,im_of trivial,vlt,hP,hst,initS,Nat.reduceBEq,Nat.reduceAdd,Nat.reduceMul,Nat.reduceSub,Nat.reduceDiv,Nat.reduceMod,Nat.reducePow,Nat.reduceLT,Nat.reduceLeDiff,Nat.reduceEqDiff,Int.reduceAdd,Int.reduceSub,Int.reduceNeg,Int.reduceMul,Int.reduceToNat,Int.reducePow,Int.reduceLE,Int.reduceLT,Int.reduceEq,Int.reduceNe,reduceIte,reduceCtorEq,ne_eq,not_true_eq_false,not_false_eq_true,imp_self,implies_true,bls,eq_self]
    have e : row = l.reverse := by
      refine ext_getD (by simp [hrow]) fun j hj => ?_
      rw [hv j (by omega), getD_reverse (by omega)]
      split
      · rfl
      · congr 1; omega
    rw [e]; exact hK

def RValue (xs : List AV) (st : St) (K : AV → St → Prop) : Prop := ∃ a : Nat, xs = [.val (.int .u8 (a : Int))] ∧ a < 256 ∧ K (.tup [.val (.int .u32 (((dv a).getD 0 : Nat) : Int)), .val (.bool (dv a).isSome)]) st
theorem s_value : PSpec Tryd.prog 101 RValue := by
  refine fspec_of (fn := Tryd.f101) 1 [.tmp 2, .tmp 3] (by kernel_rfl) rfl rfl (by kernel_rfl) mixed (by rintro _ _ _ ⟨a, rfl, _⟩; rfl) ?_
  rintro X _ st K hP hst ⟨a, rfl, ha, hK⟩
  have ho : bitV .or .u8 (a : Int) 32 = ((a ||| 32 : Nat) : Int) := or8 (b := 32) ha (by omega)
  have ho2 : a ||| 32 < 256 := Nat.or_lt_two_pow (n := 8) ha (by omega)
  unfold dv at hK
  generalize a ||| 32 = c at *
  refine vc_V ?_
  simp (disch:=first|assumption|omega|(simp only [lens];omega)) only [eqs,↓gvd_succ,↓gvd_zero,↓and_of,im_of,im_of trivial,vlt,hP,hst,initS,Nat.reduceBEq,Nat.reduceAdd,Nat.reduceMul,Nat.reduceSub,Nat.reduceDiv,Nat.reduceMod,Nat.reducePow,Nat.reduceLT,Nat.reduceLeDiff,Nat.reduceEqDiff,Int.reduceAdd,Int.reduceSub,Int.reduceNeg,Int.reduceMul,Int.reduceToNat,Int.reducePow,Int.reduceLE,Int.reduceLT,Int.reduceEq,Int.reduceNe,reduceIte,reduceCtorEq,ne_eq,not_true_eq_false,not_false_eq_true,imp_self,implies_true,bls,eq_self]
  have go : ∀ s, Sl.get s 0 = .val (.int .u8 (a : Int)) → (¬(48 ≤ a ∧ a ≤ 57)) → True := fun _ _ _ => trivial
  refine G_dec (fun h => ?_) (fun h => ?_)
  · simp (disch:=first|assumption|omega|(simp only [lens];omega)) only [eqs,↓gvd_succ,↓gvd_zero,↓and_of,im_of,im_of trivial,vlt,hP,hst,initS,Nat.reduceBEq,Nat.reduceAdd,Nat.reduceMul,Nat.reduceSub,Nat.reduceDiv,Nat.reduceMod,Nat.reducePow,Nat.reduceLT,Nat.reduceLeDiff,Nat.reduceEqDiff,Int.reduceAdd,Int.reduceSub,Int.reduceNeg,Int.reduceMul,Int.reduceToNat,Int.reducePow,Int.reduceLE,Int.reduceLT,Int.reduceEq,Int.reduceNe,reduceIte,reduceCtorEq,ne_eq,not_true_eq_false,not_false_eq_true,imp_self,implies_true,bls,eq_self,h]
    refine C_dec (fun h2 => ?_) (fun h2 => ?_)
    · simp (disch:=first|assumption|omega|(simp only [lens];omega)) only [eqs,↓gvd_succ,↓gvd_zero,↓and_of,im_of,im_of trivial,vlt,hP,hst,initS,Nat.reduceBEq,Nat.reduceAdd,Nat.reduceMul,Nat.reduceSub,Nat.reduceDiv,Nat.reduceMod,Nat.reducePow,Nat.reduceLT,Nat.reduceLeDiff,Nat.reduceEqDiff,Int.reduceAdd,Int.reduceSub,Int.reduceNeg,Int.reduceMul,Int.reduceToNat,Int.reducePow,Int.reduceLE,Int.reduceLT,Int.reduceEq,Int.reduceNe,reduceIte,reduceCtorEq,ne_eq,not_true_eq_false,not_false_eq_true,imp_self,implies_true,bls,eq_self,h]
      rw [if_pos (by omega)] at hK
      simpa [show ((a - 48 : Nat) : Int) = (a : Int) - 48 by omega] using hK
    · simp (disch:=first|assumption|omega|(simp only [lens];omega)) only [eqs,↓gvd_succ,↓gvd_zero,↓and_of,im_of,im_of trivial,vlt,hP,hst,initS,Nat.reduceBEq,Nat.reduceAdd,Nat.reduceMul,Nat.reduceSub,Nat.reduceDiv,Nat.reduceMod,Nat.reducePow,Nat.reduceLT,Nat.reduceLeDiff,Nat.reduceEqDiff,Int.reduceAdd,Int.reduceSub,Int.reduceNeg,Int.reduceMul,Int.reduceToNat,Int.reducePow,Int.reduceLE,Int.reduceLT,Int.reduceEq,Int.reduceNe,reduceIte,reduceCtorEq,ne_eq,not_true_eq_false,not_false_eq_true,imp_self,implies_true,bls,eq_self,h,ho]
      rw [if_neg (by omega)] at hK
      refine G_dec (fun h3 => ?_) (fun h3 => ?_)
      · simp (disch:=first|assumption|omega|(simp only [lens];omega)) only [eqs,↓gvd_succ,↓gvd_zero,↓and_of,im_of,im_of trivial,vlt,hP,hst,initS,Nat.reduceBEq,Nat.reduceAdd,Nat.reduceMul,Nat.reduceSub,Nat.reduceDiv,Nat.reduceMod,Nat.reducePow,Nat.reduceLT,Nat.reduceLeDiff,Nat.reduceEqDiff,Int.reduceAdd,Int.reduceSub,Int.reduceNeg,Int.reduceMul,Int.reduceToNat,Int.reducePow,Int.reduceLE,Int.reduceLT,Int.reduceEq,Int.reduceNe,reduceIte,reduceCtorEq,ne_eq,not_true_eq_false,not_false_eq_true,imp_self,implies_true,bls,eq_self,h3,ho]
        refine C_dec (fun h4 => ?_) (fun h4 => ?_)
        · simp (disch:=first|assumption|omega|(simp only [lens];omega)) only [eqs,↓gvd_succ,↓gvd_zero,↓and_of,im_of,im_of trivial,vlt,hP,hst,initS,Nat.reduceBEq,Nat.reduceAdd,Nat.reduceMul,Nat.reduceSub,Nat.reduceDiv,Nat.reduceMod,Nat.reducePow,Nat.reduceLT,Nat.reduceLeDiff,Nat.reduceEqDiff,Int.reduceAdd,Int.reduceSub,Int.reduceNeg,Int.reduceMul,Int.reduceToNat,Int.reducePow,Int.reduceLE,Int.reduceLT,Int.reduceEq,Int.reduceNe,reduceIte,reduceCtorEq,ne_eq,not_true_eq_false,not_false_eq_true,imp_self,implies_true,bls,eq_self,ho]
          rw [if_pos (by omega)] at hK
          simpa [show ((c - 97 + 10 : Nat) : Int) = (c : Int) - 97 + 10 by omega] using hK
        · simp (disch:=first|assumption|omega|(simp only [lens];omega)) only [eqs,↓gvd_succ,↓gvd_zero,↓and_of,im_of,im_of trivial,vlt,hP,hst,initS,Nat.reduceBEq,Nat.reduceAdd,Nat.reduceMul,Nat.reduceSub,Nat.reduceDiv,Nat.reduceMod,Nat.reducePow,Nat.reduceLT,Nat.reduceLeDiff,Nat.reduceEqDiff,Int.reduceAdd,Int.reduceSub,Int.reduceNeg,Int.reduceMul,Int.reduceToNat,Int.reducePow,Int.reduceLE,Int.reduceLT,Int.reduceEq,Int.reduceNe,reduceIte,reduceCtorEq,ne_eq,not_true_eq_false,not_false_eq_true,imp_self,implies_true,bls,eq_self]
          rw [if_neg (by omega)] at hK
          simpa using hK
      · simp (disch:=first|assumption|omega|(simp only [lens];omega)) only [eqs,↓gvd_succ,↓gvd_zero,↓and_of,im_of,im_of trivial,vlt,hP,hst,initS,Nat.reduceBEq,Nat.reduceAdd,Nat.reduceMul,Nat.reduceSub,Nat.reduceDiv,Nat.reduceMod,Nat.reducePow,Nat.reduceLT,Nat.reduceLeDiff,Nat.reduceEqDiff,Int.reduceAdd,Int.reduceSub,Int.reduceNeg,Int.reduceMul,Int.reduceToNat,Int.reducePow,Int.reduceLE,Int.reduceLT,Int.reduceEq,Int.reduceNe,reduceIte,reduceCtorEq,ne_eq,not_true_eq_false,not_false_eq_true,imp_self,implies_true,bls,eq_self,h3]
        rw [if_neg (by omega)] at hK
        simpa using hK
  · simp (disch:=first|assumption|omega|(simp only [lens];omega)) only [eqs,↓gvd_succ,↓gvd_zero,↓and_of,im_of,im_of trivial,vlt,hP,hst,initS,Nat.reduceBEq,Nat.reduceAdd,Nat.reduceMul,Nat.reduceSub,Nat.reduceDiv,Nat.reduceMod,Nat.reducePow,Nat.reduceLT,Nat.reduceLeDiff,Nat.reduceEqDiff,Int.reduceAdd,Int.reduceSub,Int.reduceNeg,Int.reduceMul,Int.reduceToNat,Int.reducePow,Int.reduceLE,Int.reduceLT,Int.reduceEq,Int.reduceNe,reduceIte,reduceCtorEq,ne_eq,not_true_eq_false,not_false_eq_true,imp_self,implies_true,bls,eq_self,h,ho]
    rw [if_neg (by omega)] at hK
    refine G_dec (fun h3 => ?_) (fun h3 => ?_)
    · simp (disch:=first|assumption|omega|(simp only [lens];omega)) only [eqs,↓gvd_succ,↓gvd_zero,↓and_of,im_of,im_of trivial,vlt,hP,hst,initS,Nat.reduceBEq,Nat.reduceAdd,Nat.reduceMul,Nat.reduceSub,Nat.reduceDiv,Nat.reduceMod,Nat.reducePow,Nat.reduceLT,Nat.reduceLeDiff,Nat.reduceEqDiff,Int.reduceAdd,Int.reduceSub,Int.reduceNeg,Int.reduceMul,Int.reduceToNat,Int.reducePow,Int.reduceLE,Int.reduceLT,Int.reduceEq,Int.reduceNe,reduceIte,reduceCtorEq,ne_eq,not_true_eq_false,not_false_eq_true,imp_self,implies_true,bls,eq_self,h3,ho]
      refine C_dec (fun h4 => ?_) (fun h4 => ?_)
      · simp (disch:=first|assumption|omega|(simp only [lens];omega)) only [eqs,↓gvd_succ,↓gvd_zero,↓and_of,im_of,im_of trivial,vlt,hP,hst,initS,Nat.reduceBEq,Nat.reduceAdd,Nat.reduceMul,Nat.reduceSub,Nat.reduceDiv,Nat.reduceMod,Nat.reducePow,Nat.reduceLT,Nat.reduceLeDiff,Nat.reduceEqDiff,Int.reduceAdd,Int.reduceSub,Int.reduceNeg,Int.reduceMul,Int.reduceToNat,Int.reducePow,Int.reduceLE,Int.reduceLT,Int.reduceEq,Int.reduceNe,reduceIte,reduceCtorEq,ne_eq,not_true_eq_false,not_false_eq_true,imp_self,implies_true,bls,eq_self,ho]
        rw [if_pos (by omega)] at hK
        simpa [show ((c - 97 + 10 : Nat) : Int) = (c : Int) - 97 + 10 by omega] using hK
      · simp (disch:=first|assumption|omega|(simp only [lens];omega)) only [eqs,↓gvd_succ,↓gvd_zero,↓and_of,im_of,im_of trivial,vlt,hP,hst,initS,Nat.reduceBEq,Nat.reduceAdd,Nat.reduceMul,Nat.reduceSub,Nat.reduceDiv,Nat.reduceMod,Nat.reducePow,Nat.reduceLT,Nat.reduceLeDiff,Nat.reduceEqDiff,Int.reduceAdd,Int.reduceSub,Int.reduceNeg,Int.reduceMul,Int.reduceToNat,Int.reducePow,Int.reduceLE,Int.reduceLT,Int.reduceEq,Int.reduceNe,reduceIte,reduceCtorEq,ne_eq,not_true_eq_false,not_false_eq_true,imp_self,implies_true,bls,eq_self]
        rw [if_neg (by omega)] at hK
        simpa using hK
    · simp (disch:=first|assumption|omega|(simp only [lens];omega)) only [eqs,↓gvd_succ,↓gvd_zero,↓and_of,im_of,im_of trivial,vlt,hP,hst,initS,Nat.reduceBEq,Nat.reduceAdd,Nat.reduceMul,Nat.reduceSub,Nat.reduceDiv,Nat.reduceMod,Nat.reducePow,Nat.reduceLT,Nat.reduceLeDiff,Nat.reduceEqDiff,Int.reduceAdd,Int.reduceSub,Int.reduceNeg,Int.reduceMul,Int.reduceToNat,Int.reducePow,Int.reduceLE,Int.reduceLT,Int.reduceEq,Int.reduceNe,reduceIte,reduceCtorEq,ne_eq,not_true_eq_false,not_false_eq_true,imp_self,implies_true,bls,eq_self,h3]
      rw [if_neg (by omega)] at hK
      simpa using hK

def RSmall (xs : List AV) (st : St) (K : AV → St → Prop) : Prop := ∃ x l, xs = [x] ∧ Nm st x l ∧ l.length ≤ 10000 ∧
  K (.tup [.val (.int .i64 ((if blen (val l) ≤ 63 then val l else 0 : Nat) : Int)), .val (.bool (decide (blen (val l) ≤ 63)))]) st
/-- What a text says, and whether it says a number. -/
theorem dch_all : (List.range 36).all (fun d => (sb ⟨#[48, 49, 50, 51, 52, 53, 54, 55, 56, 57, 97, 98, 99, 100, 101, 102, 103, 104, 105, 106, 107, 108, 109, 110, 111, 112, 113, 114, 115, 116, 117, 118, 119, 120, 121, 122]⟩).getD d 0 == dch d) = true := by decide +kernel

theorem tab36 {T : List Nat} (hT : (List.range 36).all (fun d => T.getD d 0 == dch d) = true) {d : Nat} (hd : d < 36) : T.getD d 0 = dch d := by
  simpa using List.all_eq_true.1 hT d (List.mem_range.2 hd)

theorem slc_u8s {st : St} {r n : Nat} {l : List Nat} (h : st[r]? = some (some (u8s l))) (hn : l.length = n) : slc st (.own r 0 n 1) = some (l.length, u8s l) := by
  subst hn
  simp only [slc_own_eq, h, List.drop_zero, Nat.mul_one]
  rw [← u8s_length (l := l), List.take_length]

def RText (xs : List AV) (st : St) (K : AV → St → Prop) : Prop := ∃ x l n, xs = [x, .val (.int .i64 n)] ∧ Nm st x l ∧ l.length ≤ 10000 ∧
  K (.val (.string (if n < 2 ∨ 36 < n then ⟨#[]⟩ else bstr (txt n.toNat (val l))))) st
def RText0 (xs : List AV) (st : St) (K : AV → St → Prop) : Prop := ∃ x l n, xs = [x, .val (.int .i64 n)] ∧ Nm st x l ∧ l.length ≤ 10000 ∧
  ∀ y, K (.val (.string (if n < 2 ∨ 36 < n then ⟨#[]⟩ else bstr (txt n.toNat (val l))))) (st ++ y)
theorem s_Text0 : PSpec Tryd.prog 90 RText0 := by
  refine fspec_of (fn := Tryd.f90) 2 [.tmp 4] (by kernel_rfl) rfl rfl (by kernel_rfl) mixed (by rintro _ _ _ ⟨x, l, n, rfl, _⟩; rfl) ?_
  rintro X _ st K hP hst ⟨x, l, n, rfl, hx, hl, hK⟩
  refine vc_V ?_
  simp (disch:=first|assumption|omega|(simp only [lens];omega)) only [eqs,↓gvd_succ,↓gvd_zero,↓and_of,im_of,im_of trivial,vlt,hP,hst,initS,Nat.reduceBEq,Nat.reduceAdd,Nat.reduceMul,Nat.reduceSub,Nat.reduceDiv,Nat.reduceMod,Nat.reducePow,Nat.reduceLT,Nat.reduceLeDiff,Nat.reduceEqDiff,Int.reduceAdd,Int.reduceSub,Int.reduceNeg,Int.reduceMul,Int.reduceToNat,Int.reducePow,Int.reduceLE,Int.reduceLT,Int.reduceEq,Int.reduceNe,reduceIte,reduceCtorEq,ne_eq,not_true_eq_false,not_false_eq_true,imp_self,implies_true,bls,eq_self]
  refine G_ndec (fun h => ?_) (fun h => ?_)
  · simp (disch:=first|assumption|omega|(simp only [lens];omega)) only [eqs,↓gvd_succ,↓gvd_zero,↓and_of,im_of,im_of trivial,vlt,hP,hst,initS,Nat.reduceBEq,Nat.reduceAdd,Nat.reduceMul,Nat.reduceSub,Nat.reduceDiv,Nat.reduceMod,Nat.reducePow,Nat.reduceLT,Nat.reduceLeDiff,Nat.reduceEqDiff,Int.reduceAdd,Int.reduceSub,Int.reduceNeg,Int.reduceMul,Int.reduceToNat,Int.reducePow,Int.reduceLE,Int.reduceLT,Int.reduceEq,Int.reduceNe,reduceIte,reduceCtorEq,ne_eq,not_true_eq_false,not_false_eq_true,imp_self,implies_true,bls,eq_self,h]
    refine C_dec (fun h2 => ?_) (fun h2 => ?_)
    · simp (disch:=first|assumption|omega|(simp only [lens];omega)) only [eqs,↓gvd_succ,↓gvd_zero,↓and_of,im_of,im_of trivial,vlt,hP,hst,initS,Nat.reduceBEq,Nat.reduceAdd,Nat.reduceMul,Nat.reduceSub,Nat.reduceDiv,Nat.reduceMod,Nat.reducePow,Nat.reduceLT,Nat.reduceLeDiff,Nat.reduceEqDiff,Int.reduceAdd,Int.reduceSub,Int.reduceNeg,Int.reduceMul,Int.reduceToNat,Int.reducePow,Int.reduceLE,Int.reduceLT,Int.reduceEq,Int.reduceNe,reduceIte,reduceCtorEq,ne_eq,not_true_eq_false,not_false_eq_true,imp_self,implies_true,bls,eq_self]
      have := hK []
      rw [if_pos (by omega), List.append_nil] at this
      exact this
    · rw [if_neg (by omega)] at hK
      obtain ⟨b, rfl⟩ : ∃ b : Nat, n = (b : Int) := ⟨n.toNat, by omega⟩
      rw [Int.toNat_natCast] at hK
      simp (disch:=first|assumption|omega|(simp only [lens];omega)) only [eqs,↓gvd_succ,↓gvd_zero,↓and_of,im_of,im_of trivial,vlt,hP,hst,initS,Nat.reduceBEq,Nat.reduceAdd,Nat.reduceMul,Nat.reduceSub,Nat.reduceDiv,Nat.reduceMod,Nat.reducePow,Nat.reduceLT,Nat.reduceLeDiff,Nat.reduceEqDiff,Int.reduceAdd,Int.reduceSub,Int.reduceNeg,Int.reduceMul,Int.reduceToNat,Int.reducePow,Int.reduceLE,Int.reduceLT,Int.reduceEq,Int.reduceNe,reduceIte,reduceCtorEq,ne_eq,not_true_eq_false,not_false_eq_true,imp_self,implies_true,bls,eq_self]
      refine E_call (hP ▸ s_trim) ⟨x, l, rfl, hx, by omega, ?_⟩
      have hx2 := hx.trim
      have hl2 := limbs_len hx.lt
      generalize cutA x 0 (limbs (val l)).length 1 = x' at hx2 ⊢
      simp (disch:=first|assumption|omega|(simp only [lens];omega)) only [eqs,↓gvd_succ,↓gvd_zero,↓and_of,im_of,im_of trivial,vlt,hP,hst,initS,Nat.reduceBEq,Nat.reduceAdd,Nat.reduceMul,Nat.reduceSub,Nat.reduceDiv,Nat.reduceMod,Nat.reducePow,Nat.reduceLT,Nat.reduceLeDiff,Nat.reduceEqDiff,Int.reduceAdd,Int.reduceSub,Int.reduceNeg,Int.reduceMul,Int.reduceToNat,Int.reducePow,Int.reduceLE,Int.reduceLT,Int.reduceEq,Int.reduceNe,reduceIte,reduceCtorEq,ne_eq,not_true_eq_false,not_false_eq_true,imp_self,implies_true,bls,eq_self]
      -- data: none: nothing done yet; some: the number that is left, the digits, what is over
      refine V_loop (ι := Option (Nat × List Nat × St × List AV × Option (List AV))) (fun e => match e with
          | none => [(0, x'), (1, .val (.int .i64 (b : Int))), (5, .val (.slice none 0 0))]
          | some (v, ds, g, rest, q) => [(0, .own (st.length + g.length) 0 (limbs v).length 1), (1, .val (.int .i64 (b : Int))), (5, .own (st.length + (g.length + 2)) 0 ds.length 1)])
        (fun e => match e with
          | none => st
          | some (v, ds, g, rest, q) => st ++ (g ++ [some (u32s (limbs v) ++ rest), q, some (u8s ds)]))
        (fun e => match e with
          | none => True
          | some (v, ds, g, rest, q) => (limbs v).length ≤ 10000 ∧ ds.length ≤ 320000 - (digs b v).length ∧ ds ++ (digs b v).map dch = (digs b (val l)).map dch ∧ val l ≠ 0 ∧ ds ≠ [])
        (fun e => match e with
          | none => val l + 1
          | some (v, ds, g, rest, q) => v)
        none trivial rfl (by simp (disch:=first|assumption|omega|(simp only [lens];omega)) only [eqs,↓gvd_succ,↓gvd_zero,↓and_of,im_of,im_of trivial,vlt,hP,hst,initS,Nat.reduceBEq,Nat.reduceAdd,Nat.reduceMul,Nat.reduceSub,Nat.reduceDiv,Nat.reduceMod,Nat.reducePow,Nat.reduceLT,Nat.reduceLeDiff,Nat.reduceEqDiff,Int.reduceAdd,Int.reduceSub,Int.reduceNeg,Int.reduceMul,Int.reduceToNat,Int.reducePow,Int.reduceLE,Int.reduceLT,Int.reduceEq,Int.reduceNe,reduceIte,reduceCtorEq,ne_eq,not_true_eq_false,not_false_eq_true,imp_self,implies_true,bls,eq_self] <;> rfl) ?_
      have hdk : ∀ k, l.length * 32 ≤ k → (digs b (val l)).length ≤ k := fun k hk => by
        refine digs_len (by omega) ?_
        have := val_lt hx.lt
        rw [show (4294967296 : Nat) = 2 ^ 32 from rfl, ← Nat.pow_mul] at this
        exact Nat.lt_of_lt_of_le this (Nat.pow_le_pow_right (by decide) (by omega))
      have hdl := hdk 320000 (by omega)
      rintro (_ | ⟨v, ds, g, rest, q⟩) hp
      · dsimp only at hp ⊢
        have h3 := hx2.sl
        simp (disch:=first|assumption|omega|(simp only [lens];omega)) only [eqs,↓gvd_succ,↓gvd_zero,↓and_of,im_of,im_of trivial,vlt,hP,hst,initS,Nat.reduceBEq,Nat.reduceAdd,Nat.reduceMul,Nat.reduceSub,Nat.reduceDiv,Nat.reduceMod,Nat.reducePow,Nat.reduceLT,Nat.reduceLeDiff,Nat.reduceEqDiff,Int.reduceAdd,Int.reduceSub,Int.reduceNeg,Int.reduceMul,Int.reduceToNat,Int.reducePow,Int.reduceLE,Int.reduceLT,Int.reduceEq,Int.reduceNe,reduceIte,reduceCtorEq,ne_eq,not_true_eq_false,not_false_eq_true,imp_self,implies_true,bls,eq_self,h3]
        refine C_dec (fun h4 => ?_) (fun h4 => ?_)
        · have hv0 : val l ≠ 0 := by rintro h5; rw [h5, limbs_zero] at h4; simp at h4
          simp (disch:=first|assumption|omega|(simp only [lens];omega)) only [eqs,↓gvd_succ,↓gvd_zero,↓and_of,im_of,im_of trivial,vlt,hP,hst,initS,Nat.reduceBEq,Nat.reduceAdd,Nat.reduceMul,Nat.reduceSub,Nat.reduceDiv,Nat.reduceMod,Nat.reducePow,Nat.reduceLT,Nat.reduceLeDiff,Nat.reduceEqDiff,Int.reduceAdd,Int.reduceSub,Int.reduceNeg,Int.reduceMul,Int.reduceToNat,Int.reducePow,Int.reduceLE,Int.reduceLT,Int.reduceEq,Int.reduceNe,reduceIte,reduceCtorEq,ne_eq,not_true_eq_false,not_false_eq_true,imp_self,implies_true,bls,eq_self]
          refine E_call (hP ▸ s_DivSmall) ⟨_, _, b, rfl, hx2, by omega, by omega, ?_⟩
          rw [val_limbs, if_neg (by omega)]
          intro rest _
          have hm : val l % b < b := Nat.mod_lt _ (by omega)
          have hdd := digs_pos (b := b) (by omega) hv0
          have hdr : (limbs (val l / b)).length ≤ 10000 := Nat.le_trans (limbs_len_mono (Nat.div_le_self _ _)) (by omega)
          have hlt : val l / b < val l + 1 := by have := Nat.div_le_self (val l) b; omega
          generalize val l % b = r at *
          generalize hv2 : val l / b = v2 at *
          have ht := tab36 dch_all (show r < 36 by omega)
          simp (disch:=first|assumption|omega|(simp only [lens];omega)) only [eqs,↓gvd_succ,↓gvd_zero,↓and_of,im_of,im_of trivial,vlt,hP,hst,initS,Nat.reduceBEq,Nat.reduceAdd,Nat.reduceMul,Nat.reduceSub,Nat.reduceDiv,Nat.reduceMod,Nat.reducePow,Nat.reduceLT,Nat.reduceLeDiff,Nat.reduceEqDiff,Int.reduceAdd,Int.reduceSub,Int.reduceNeg,Int.reduceMul,Int.reduceToNat,Int.reducePow,Int.reduceLE,Int.reduceLT,Int.reduceEq,Int.reduceNe,reduceIte,reduceCtorEq,ne_eq,not_true_eq_false,not_false_eq_true,imp_self,implies_true,bls,eq_self,ht]
          refine ⟨by rw [show (sb _).length = 36 from by kernel_rfl]; omega, ?_⟩
          refine again (some (v2, [dch r], [], rest, some (AV.val (Value.int IntKind.u8 ↑(dch r)) :: u8s (List.drop 1 (List.replicate 1 0))))) ⟨hdr, ?_, ?_, hv0, by simp⟩ hlt rfl (by simp (disch:=first|assumption|omega|(simp only [lens];omega)) only [eqs,↓gvd_succ,↓gvd_zero,↓and_of,im_of,im_of trivial,vlt,hP,hst,initS,Nat.reduceBEq,Nat.reduceAdd,Nat.reduceMul,Nat.reduceSub,Nat.reduceDiv,Nat.reduceMod,Nat.reducePow,Nat.reduceLT,Nat.reduceLeDiff,Nat.reduceEqDiff,Int.reduceAdd,Int.reduceSub,Int.reduceNeg,Int.reduceMul,Int.reduceToNat,Int.reducePow,Int.reduceLE,Int.reduceLT,Int.reduceEq,Int.reduceNe,reduceIte,reduceCtorEq,ne_eq,not_true_eq_false,not_false_eq_true,imp_self,implies_true,bls,eq_self] <;> rfl)
          · rw [hdd] at hdl; simp at hdl ⊢; omega
          · rw [hdd]; rfl
        · simp (disch:=first|assumption|omega|(simp only [lens];omega)) only [eqs,↓gvd_succ,↓gvd_zero,↓and_of,im_of,im_of trivial,vlt,hP,hst,initS,Nat.reduceBEq,Nat.reduceAdd,Nat.reduceMul,Nat.reduceSub,Nat.reduceDiv,Nat.reduceMod,Nat.reducePow,Nat.reduceLT,Nat.reduceLeDiff,Nat.reduceEqDiff,Int.reduceAdd,Int.reduceSub,Int.reduceNeg,Int.reduceMul,Int.reduceToNat,Int.reducePow,Int.reduceLE,Int.reduceLT,Int.reduceEq,Int.reduceNe,reduceIte,reduceCtorEq,ne_eq,not_true_eq_false,not_false_eq_true,imp_self,implies_true,bls,eq_self]
          have hv0 : val l = 0 := by
            rcases Nat.eq_zero_or_pos (val l) with h5 | h5
            · exact h5
            · rw [limbs_pos (by omega)] at h4; simp at h4
          refine ⟨by decide, ?_⟩
          have := hK []
          rw [hv0, List.append_nil] at this
          exact this
      · dsimp only at hp ⊢
        obtain ⟨hvl, hdl2, hda, hv0, hds⟩ := hp
        have hz : Nm (st ++ (g ++ [some (u32s (limbs v) ++ rest), q, some (u8s ds)])) (.own (st.length + g.length) 0 (limbs v).length 1) (limbs v) :=
          Nm.own (rest := rest) (by rw [get_app, get_app0]; rfl) (limbs_lt v)
        have h3 := hz.sl
        have hbl : ds.length ≠ 0 := by simpa using hds
        simp (disch:=first|assumption|omega|(simp only [lens];omega)) only [eqs,↓gvd_succ,↓gvd_zero,↓and_of,im_of,im_of trivial,vlt,hP,hst,initS,Nat.reduceBEq,Nat.reduceAdd,Nat.reduceMul,Nat.reduceSub,Nat.reduceDiv,Nat.reduceMod,Nat.reducePow,Nat.reduceLT,Nat.reduceLeDiff,Nat.reduceEqDiff,Int.reduceAdd,Int.reduceSub,Int.reduceNeg,Int.reduceMul,Int.reduceToNat,Int.reducePow,Int.reduceLE,Int.reduceLT,Int.reduceEq,Int.reduceNe,reduceIte,reduceCtorEq,ne_eq,not_true_eq_false,not_false_eq_true,imp_self,implies_true,bls,eq_self,h3]
        refine C_dec (fun h4 => ?_) (fun h4 => ?_)
        · have hv1 : v ≠ 0 := by rintro h5; rw [h5, limbs_zero] at h4; simp at h4
          simp (disch:=first|assumption|omega|(simp only [lens];omega)) only [eqs,↓gvd_succ,↓gvd_zero,↓and_of,im_of,im_of trivial,vlt,hP,hst,initS,Nat.reduceBEq,Nat.reduceAdd,Nat.reduceMul,Nat.reduceSub,Nat.reduceDiv,Nat.reduceMod,Nat.reducePow,Nat.reduceLT,Nat.reduceLeDiff,Nat.reduceEqDiff,Int.reduceAdd,Int.reduceSub,Int.reduceNeg,Int.reduceMul,Int.reduceToNat,Int.reducePow,Int.reduceLE,Int.reduceLT,Int.reduceEq,Int.reduceNe,reduceIte,reduceCtorEq,ne_eq,not_true_eq_false,not_false_eq_true,imp_self,implies_true,bls,eq_self]
          refine E_call (hP ▸ s_DivSmall) ⟨_, _, b, rfl, hz, by omega, by omega, ?_⟩
          rw [val_limbs, if_neg (by omega)]
          intro rest2 _
          have hm : v % b < b := Nat.mod_lt _ (by omega)
          have hdd := digs_pos (b := b) (by omega) hv1
          have hdr : (limbs (v / b)).length ≤ 10000 := Nat.le_trans (limbs_len_mono (Nat.div_le_self _ _)) (by omega)
          have hlt : v / b < v := Nat.div_lt_self (by omega) (by omega)
          generalize v % b = r at *
          generalize hv2 : v / b = v2 at *
          have ht := tab36 dch_all (show r < 36 by omega)
          have hdl3 : ds.length + (digs b v2).length + 1 ≤ 320000 := by
            have := congrArg List.length hda
            rw [hdd] at this
            simp at this
            omega
          simp (disch:=first|assumption|omega|(simp only [lens];omega)) only [eqs,↓gvd_succ,↓gvd_zero,↓and_of,im_of,im_of trivial,vlt,hP,hst,initS,Nat.reduceBEq,Nat.reduceAdd,Nat.reduceMul,Nat.reduceSub,Nat.reduceDiv,Nat.reduceMod,Nat.reducePow,Nat.reduceLT,Nat.reduceLeDiff,Nat.reduceEqDiff,Int.reduceAdd,Int.reduceSub,Int.reduceNeg,Int.reduceMul,Int.reduceToNat,Int.reducePow,Int.reduceLE,Int.reduceLT,Int.reduceEq,Int.reduceNe,reduceIte,reduceCtorEq,ne_eq,not_true_eq_false,not_false_eq_true,imp_self,implies_true,bls,eq_self,ht]
          refine ⟨by rw [show (sb _).length = 36 from by kernel_rfl]; omega, ?_⟩
          refine again (some (v2, ds ++ [dch r], g ++ [some (u32s (limbs v) ++ rest), q, none], rest2, some (AV.val (Value.int IntKind.u8 ↑(dch r)) :: u8s (List.drop 1 (List.replicate 1 0))))) ⟨hdr, ?_, ?_, hv0, by simp⟩ hlt (by simp [u8s]) (by simp (disch:=first|assumption|omega|(simp only [lens];omega)) only [eqs,↓gvd_succ,↓gvd_zero,↓and_of,im_of,im_of trivial,vlt,hP,hst,initS,Nat.reduceBEq,Nat.reduceAdd,Nat.reduceMul,Nat.reduceSub,Nat.reduceDiv,Nat.reduceMod,Nat.reducePow,Nat.reduceLT,Nat.reduceLeDiff,Nat.reduceEqDiff,Int.reduceAdd,Int.reduceSub,Int.reduceNeg,Int.reduceMul,Int.reduceToNat,Int.reducePow,Int.reduceLE,Int.reduceLT,Int.reduceEq,Int.reduceNe,reduceIte,reduceCtorEq,ne_eq,not_true_eq_false,not_false_eq_true,imp_self,implies_true,bls,eq_self] <;> rfl)
          · simp; omega
          · rw [← hda, hdd]; simp
        · simp (disch:=first|assumption|omega|(simp only [lens];omega)) only [eqs,↓gvd_succ,↓gvd_zero,↓and_of,im_of,im_of trivial,vlt,hP,hst,initS,Nat.reduceBEq,Nat.reduceAdd,Nat.reduceMul,Nat.reduceSub,Nat.reduceDiv,Nat.reduceMod,Nat.reducePow,Nat.reduceLT,Nat.reduceLeDiff,Nat.reduceEqDiff,Int.reduceAdd,Int.reduceSub,Int.reduceNeg,Int.reduceMul,Int.reduceToNat,Int.reducePow,Int.reduceLE,Int.reduceLT,Int.reduceEq,Int.reduceNe,reduceIte,reduceCtorEq,ne_eq,not_true_eq_false,not_false_eq_true,imp_self,implies_true,bls,eq_self]
          refine C_dec (fun h5 => absurd h5 (by omega)) (fun _ => ?_)
          have hv1 : v = 0 := by
            rcases Nat.eq_zero_or_pos v with h5 | h5
            · exact h5
            · rw [limbs_pos (by omega)] at h4; simp at h4
          subst hv1
          rw [digs_zero] at hda hdl2
          simp only [List.map_nil, List.append_nil] at hda
          simp (disch:=first|assumption|omega|(simp only [lens];omega)) only [eqs,↓gvd_succ,↓gvd_zero,↓and_of,im_of,im_of trivial,vlt,hP,hst,initS,Nat.reduceBEq,Nat.reduceAdd,Nat.reduceMul,Nat.reduceSub,Nat.reduceDiv,Nat.reduceMod,Nat.reducePow,Nat.reduceLT,Nat.reduceLeDiff,Nat.reduceEqDiff,Int.reduceAdd,Int.reduceSub,Int.reduceNeg,Int.reduceMul,Int.reduceToNat,Int.reducePow,Int.reduceLE,Int.reduceLT,Int.reduceEq,Int.reduceNe,reduceIte,reduceCtorEq,ne_eq,not_true_eq_false,not_false_eq_true,imp_self,implies_true,bls,eq_self]
          refine E_callW (s_Reverse hP) ⟨_, ds, rfl, by rw [hst]; omega, by rw [get_app, get_app]; rfl, by omega, ?_⟩
          simp (disch:=first|assumption|omega|(simp only [lens];omega)) only [eqs,↓gvd_succ,↓gvd_zero,↓and_of,im_of,im_of trivial,vlt,hP,hst,initS,Nat.reduceBEq,Nat.reduceAdd,Nat.reduceMul,Nat.reduceSub,Nat.reduceDiv,Nat.reduceMod,Nat.reducePow,Nat.reduceLT,Nat.reduceLeDiff,Nat.reduceEqDiff,Int.reduceAdd,Int.reduceSub,Int.reduceNeg,Int.reduceMul,Int.reduceToNat,Int.reducePow,Int.reduceLE,Int.reduceLT,Int.reduceEq,Int.reduceNe,reduceIte,reduceCtorEq,ne_eq,not_true_eq_false,not_false_eq_true,imp_self,implies_true,bls,eq_self]
          refine F_convS (by rw [hP]; exact ty_u8) (l := ds.reverse) (slc_u8s (by rw [get_app, get_app]; rfl) (by simp)) ?_ ?_
          · intro n hn
            rw [List.mem_reverse, hda, List.mem_map] at hn
            obtain ⟨d, hd, rfl⟩ := hn
            have := digs_lt (b := b) (by omega) (val l) d hd
            unfold dch; split <;> omega
          · simp (disch:=first|assumption|omega|(simp only [lens];omega)) only [eqs,↓gvd_succ,↓gvd_zero,↓and_of,im_of,im_of trivial,vlt,hP,hst,initS,Nat.reduceBEq,Nat.reduceAdd,Nat.reduceMul,Nat.reduceSub,Nat.reduceDiv,Nat.reduceMod,Nat.reducePow,Nat.reduceLT,Nat.reduceLeDiff,Nat.reduceEqDiff,Int.reduceAdd,Int.reduceSub,Int.reduceNeg,Int.reduceMul,Int.reduceToNat,Int.reducePow,Int.reduceLE,Int.reduceLT,Int.reduceEq,Int.reduceNe,reduceIte,reduceCtorEq,ne_eq,not_true_eq_false,not_false_eq_true,imp_self,implies_true,bls,eq_self]
            have := hK (g ++ [some (u32s (limbs 0) ++ rest), q, some (u8s ds.reverse)])
            rw [txt, if_neg hv0, ← hda] at this
            exact this
  · simp (disch:=first|assumption|omega|(simp only [lens];omega)) only [eqs,↓gvd_succ,↓gvd_zero,↓and_of,im_of,im_of trivial,vlt,hP,hst,initS,Nat.reduceBEq,Nat.reduceAdd,Nat.reduceMul,Nat.reduceSub,Nat.reduceDiv,Nat.reduceMod,Nat.reducePow,Nat.reduceLT,Nat.reduceLeDiff,Nat.reduceEqDiff,Int.reduceAdd,Int.reduceSub,Int.reduceNeg,Int.reduceMul,Int.reduceToNat,Int.reducePow,Int.reduceLE,Int.reduceLT,Int.reduceEq,Int.reduceNe,reduceIte,reduceCtorEq,ne_eq,not_true_eq_false,not_false_eq_true,imp_self,implies_true,bls,eq_self,h]
    have := hK []
    rw [if_pos (by omega), List.append_nil] at this
    exact this

theorem s_Text : PSpec Tryd.prog 90 RText := by
  refine tidy s_Text0 ?_
  rintro xs st K ⟨x, l, n, rfl, hx, hl, hK⟩
  exact ⟨x, l, n, rfl, hx, hl, fun y => ⟨[], y, [], _, rfl, List.nodup_nil, rfl, by simp, .val _, by simpa using hK⟩⟩
end Go.Proofs.Pv

/- The nat functions' walks, eighth part: one digit. -/
namespace Go.Proofs.Pv
open Go Go.RowKit Go.Proofs
set_option maxRecDepth 20000

/-- The store with a window in an object. -/
def win (st : St) (r : Nat) (pre w post : List Nat) : St := st.set r (some (u32s (pre ++ (w ++ post))))

def RDigit (b0 : Nat) (xs : List AV) (st : St) (K : AV → St → Prop) : Prop := ∃ r pre w post v m, xs = [.own r pre.length w.length 1, v] ∧ b0 ≤ r ∧ r < st.length ∧ win st r pre w post = st ∧ w.length = m.length + 1 ∧ m.length ≤ 20000 ∧ pre.length + w.length ≤ 100000 ∧
  (∀ z ∈ w, z < 4294967296) ∧ (∀ z ∈ m, z < 4294967296) ∧ (∀ w', sl 1 (win st r pre w' post) v = some (m.length, u32s m)) ∧ 2 ≤ m.length ∧ 2147483648 ≤ m.getD (m.length - 1) 0 ∧ val w < 4294967296 * val m ∧
  ∀ w', w'.length = w.length → (∀ z ∈ w', z < 4294967296) → val w' = val w % val m → K (.val (.int .u32 ((val w / val m : Nat) : Int))) (win st r pre w' post)

end Go.Proofs.Pv

/- The nat functions' walks, ninth part: long division. -/
namespace Go.Proofs.Pv
open Go Go.RowKit Go.Proofs
set_option maxRecDepth 20000

/-- Two new rows of numbers, somewhere among the new objects. -/
def fresh2' (st : St) (u v : Nat) (K : AV → St → Prop) : Prop := ∀ y i j rest rest2, i ≠ j → plain rest → plain rest2 → y[i]? = some (some (u32s (limbs u) ++ rest)) → y[j]? = some (some (u32s (limbs v) ++ rest2)) →
  K (.tup [.own (st.length + i) 0 (limbs u).length 1, .own (st.length + j) 0 (limbs v).length 1]) (st ++ y)
def fresh2 (st : St) (u v : Nat) (K : AV → St → Prop) : Prop := ∀ rest rest2, plain rest → plain rest2 →
  K (.tup [.own st.length 0 (limbs u).length 1, .own (st.length + 1) 0 (limbs v).length 1]) (st ++ [some (u32s (limbs u) ++ rest), some (u32s (limbs v) ++ rest2)])

def RDiv (F : St → Nat → Nat → (AV → St → Prop) → Prop) (xs : List AV) (st : St) (K : AV → St → Prop) : Prop := ∃ x y l m, xs = [x, y] ∧ Nm st x l ∧ Nm st y m ∧ l.length ≤ 5000 ∧ m.length ≤ 5000 ∧
  F st (val l / val m) (if val m = 0 then 0 else val l % val m) K

end Go.Proofs.Pv

/- The nat functions' walks, tenth part: numbers out of texts. -/
namespace Go.Proofs.Pv
open Go Go.RowKit Go.Proofs
set_option maxRecDepth 20000

/-- One letter more. -/
def pstep (b : Nat) (acc : Option Nat) (c : Nat) : Option Nat := match acc, dv c with
  | some v, some d => if d < b then some (v * b + d) else none
  | _, _ => none
/-- A text's number to a base, if it is one: the letters' digits, each below the base. -/
def pnum (b : Nat) (l : List Nat) : Option Nat := l.foldl (pstep b) (some 0)
def parse (b : Int) (s : List Nat) : Option Nat := if b < 2 ∨ 36 < b ∨ s = [] ∨ 1000 < s.length then none else pnum b.toNat s

theorem pstep_none (b : Nat) (l : List Nat) : l.foldl (pstep b) none = none := by
  induction l with
  | nil => rfl
  | cons c l ih => exact ih
theorem pnum_succ {b i : Nat} {l : List Nat} (h : i < l.length) : pnum b (l.take (i + 1)) = pstep b (pnum b (l.take i)) (l.getD i 0) := by
  unfold pnum
  rw [List.take_succ_eq_append_getElem h, List.foldl_append, List.getD_eq_getElem?_getD, List.getElem?_eq_getElem h]
  rfl
theorem pnum_fail {b i : Nat} {l : List Nat} (h : pnum b (l.take i) = none) : pnum b l = none := by
  have := List.take_append_drop i l
  unfold pnum at *
  rw [← this, List.foldl_append, h, pstep_none]

def RParse (F : St → Option Nat → (AV → St → Prop) → Prop) (xs : List AV) (st : St) (K : AV → St → Prop) : Prop := ∃ s b, xs = [.val (.string s), .val (.int .i64 b)] ∧ F st (parse b (sb s)) K
def pres0 (st : St) (p : Option Nat) (K : AV → St → Prop) : Prop := match p with
  | none => ∀ y, K (.tup [.val (.slice none 0 0), .val (.bool false)]) (st ++ y)
  | some v => if v = 0 then K (.tup [.val (.slice none 0 0), .val (.bool true)]) st else ∀ y i, y[i]? = some (some (u32s (limbs v))) → K (.tup [.own (st.length + i) 0 (limbs v).length 1, .val (.bool true)]) (st ++ y)
def pres (st : St) (p : Option Nat) (K : AV → St → Prop) : Prop := match p with
  | none => K (.tup [.val (.slice none 0 0), .val (.bool false)]) st
  | some v => if v = 0 then K (.tup [.val (.slice none 0 0), .val (.bool true)]) st else K (.tup [.own st.length 0 (limbs v).length 1, .val (.bool true)]) (st ++ [some (u32s (limbs v))])

theorem small_step {A V c x b d k : Nat} (h : A + c * 4294967296 ^ k = V * b + d) : A + 4294967296 ^ k * ((c + x * b) % 4294967296) + (c + x * b) / 4294967296 * 4294967296 ^ (k + 1) = (V + 4294967296 ^ k * x) * b + d := by
  have e := congrArg (4294967296 ^ k * ·) (Nat.div_add_mod (c + x * b) 4294967296)
  simp only [Nat.mul_add] at e
  rw [← Nat.mul_assoc] at e
  rw [Nat.pow_succ, Nat.mul_comm (_ / _) _, Nat.add_mul, Nat.mul_assoc _ x b]
  rw [Nat.mul_comm c] at h
  omega

theorem sb_nil {s : ByteArray} : (s.toList == (ByteArray.mk #[]).toList) = decide (sb s = []) := by
  rw [ByteArray.toList_eq, ByteArray.toList_eq]
  cases hs : s.data.toList <;> simp [sb, hs]

theorem s_Parse0 : PSpec Tryd.prog 70 (RParse pres0) := by
  refine fspec_of (fn := Tryd.f70) 2 [.tmp 4, .tmp 5] (by kernel_rfl) rfl rfl (by kernel_rfl) mixed (by rintro _ _ _ ⟨s, b, rfl, _⟩; rfl) ?_
  rintro X _ st K hP hst ⟨s, b, rfl, hK⟩
  refine vc_V ?_
  simp (disch:=first|assumption|omega|(simp only [lens];omega)) only [eqs,↓gvd_succ,↓gvd_zero,↓and_of,im_of,im_of trivial,vlt,hP,hst,initS,Nat.reduceBEq,Nat.reduceAdd,Nat.reduceMul,Nat.reduceSub,Nat.reduceDiv,Nat.reduceMod,Nat.reducePow,Nat.reduceLT,Nat.reduceLeDiff,Nat.reduceEqDiff,Int.reduceAdd,Int.reduceSub,Int.reduceNeg,Int.reduceMul,Int.reduceToNat,Int.reducePow,Int.reduceLE,Int.reduceLT,Int.reduceEq,Int.reduceNe,reduceIte,reduceCtorEq,ne_eq,not_true_eq_false,not_false_eq_true,imp_self,implies_true,bls,eq_self]
  have hbad : (b < 2 ∨ 36 < b ∨ sb s = [] ∨ 1000 < (sb s).length) → K (.tup [.val (.slice none 0 0), .val (.bool false)]) st := fun h => by
    have := hK
    unfold parse at this
    rw [if_pos h] at this
    simpa using this []
  refine G_ndec (fun h => ?_) (fun h => ?_)
  · simp (disch:=first|assumption|omega|(simp only [lens];omega)) only [eqs,↓gvd_succ,↓gvd_zero,↓and_of,im_of,im_of trivial,vlt,hP,hst,initS,Nat.reduceBEq,Nat.reduceAdd,Nat.reduceMul,Nat.reduceSub,Nat.reduceDiv,Nat.reduceMod,Nat.reducePow,Nat.reduceLT,Nat.reduceLeDiff,Nat.reduceEqDiff,Int.reduceAdd,Int.reduceSub,Int.reduceNeg,Int.reduceMul,Int.reduceToNat,Int.reducePow,Int.reduceLE,Int.reduceLT,Int.reduceEq,Int.reduceNe,reduceIte,reduceCtorEq,ne_eq,not_true_eq_false,not_false_eq_true,imp_self,implies_true,bls,eq_self,h]
    refine G_ndec (fun h2 => ?_) (fun h2 => ?_)
    · simp (disch:=first|assumption|omega|(simp only [lens];omega)) only [eqs,↓gvd_succ,↓gvd_zero,↓and_of,im_of,im_of trivial,vlt,hP,hst,initS,Nat.reduceBEq,Nat.reduceAdd,Nat.reduceMul,Nat.reduceSub,Nat.reduceDiv,Nat.reduceMod,Nat.reducePow,Nat.reduceLT,Nat.reduceLeDiff,Nat.reduceEqDiff,Int.reduceAdd,Int.reduceSub,Int.reduceNeg,Int.reduceMul,Int.reduceToNat,Int.reducePow,Int.reduceLE,Int.reduceLT,Int.reduceEq,Int.reduceNe,reduceIte,reduceCtorEq,ne_eq,not_true_eq_false,not_false_eq_true,imp_self,implies_true,bls,eq_self,h,h2,sb_nil]
      refine G_ndec (fun h3 => ?_) (fun h3 => ?_)
      · simp (disch:=first|assumption|omega|(simp only [lens];omega)) only [eqs,↓gvd_succ,↓gvd_zero,↓and_of,im_of,im_of trivial,vlt,hP,hst,initS,Nat.reduceBEq,Nat.reduceAdd,Nat.reduceMul,Nat.reduceSub,Nat.reduceDiv,Nat.reduceMod,Nat.reducePow,Nat.reduceLT,Nat.reduceLeDiff,Nat.reduceEqDiff,Int.reduceAdd,Int.reduceSub,Int.reduceNeg,Int.reduceMul,Int.reduceToNat,Int.reducePow,Int.reduceLE,Int.reduceLT,Int.reduceEq,Int.reduceNe,reduceIte,reduceCtorEq,ne_eq,not_true_eq_false,not_false_eq_true,imp_self,implies_true,bls,eq_self,h,h2,h3,sb_nil]
        refine C_dec (fun h4 => ?_) (fun h4 => ?_)
        · simp (disch:=first|assumption|omega|(simp only [lens];omega)) only [eqs,↓gvd_succ,↓gvd_zero,↓and_of,im_of,im_of trivial,vlt,hP,hst,initS,Nat.reduceBEq,Nat.reduceAdd,Nat.reduceMul,Nat.reduceSub,Nat.reduceDiv,Nat.reduceMod,Nat.reducePow,Nat.reduceLT,Nat.reduceLeDiff,Nat.reduceEqDiff,Int.reduceAdd,Int.reduceSub,Int.reduceNeg,Int.reduceMul,Int.reduceToNat,Int.reducePow,Int.reduceLE,Int.reduceLT,Int.reduceEq,Int.reduceNe,reduceIte,reduceCtorEq,ne_eq,not_true_eq_false,not_false_eq_true,imp_self,implies_true,bls,eq_self]
          exact hbad (by omega)
        · obtain ⟨b, rfl⟩ : ∃ n : Nat, b = (n : Int) := ⟨b.toNat, by omega⟩
          have hpar : parse (b : Int) (sb s) = pnum b (sb s) := by
            unfold parse
            rw [if_neg (by intro h5; rcases h5 with h5 | h5 | h5 | h5 <;> first | omega | exact h3 h5), Int.toNat_natCast]
          rw [hpar] at hK
          clear hbad hpar
          simp (disch:=first|assumption|omega|(simp only [lens];omega)) only [eqs,↓gvd_succ,↓gvd_zero,↓and_of,im_of,im_of trivial,vlt,hP,hst,initS,Nat.reduceBEq,Nat.reduceAdd,Nat.reduceMul,Nat.reduceSub,Nat.reduceDiv,Nat.reduceMod,Nat.reducePow,Nat.reduceLT,Nat.reduceLeDiff,Nat.reduceEqDiff,Int.reduceAdd,Int.reduceSub,Int.reduceNeg,Int.reduceMul,Int.reduceToNat,Int.reducePow,Int.reduceLE,Int.reduceLT,Int.reduceEq,Int.reduceNe,reduceIte,reduceCtorEq,ne_eq,not_true_eq_false,not_false_eq_true,imp_self,implies_true,bls,eq_self]
          refine V_loop (ι := Nat × Option (Nat × St)) (fun e => match e with
              | (i, none) => [(30, .val (.int .i64 (i : Int))), (29, .val (.int .i64 ((sb s).length : Int))), (0, .val (.string s)), (1, .val (.int .i64 (b : Int))), (6, .val (.slice none 0 0))]
              | (i, some (v, g)) => [(30, .val (.int .i64 (i : Int))), (29, .val (.int .i64 ((sb s).length : Int))), (0, .val (.string s)), (1, .val (.int .i64 (b : Int))), (6, .own (st.length + g.length) 0 (limbs v).length 1)])
            (fun e => match e with
              | (_, none) => st
              | (_, some (v, g)) => st ++ (g ++ [some (u32s (limbs v))]))
            (fun e => match e with
              | (i, none) => i ≤ (sb s).length ∧ pnum b ((sb s).take i) = some 0
              | (i, some (v, g)) => i ≤ (sb s).length ∧ pnum b ((sb s).take i) = some v ∧ v ≠ 0 ∧ v < 36 ^ i)
            (fun e => (sb s).length - e.1) (0, none) ⟨by simp, rfl⟩ rfl (by simp (disch:=first|assumption|omega|(simp only [lens];omega)) only [eqs,↓gvd_succ,↓gvd_zero,↓and_of,im_of,im_of trivial,vlt,hP,hst,initS,Nat.reduceBEq,Nat.reduceAdd,Nat.reduceMul,Nat.reduceSub,Nat.reduceDiv,Nat.reduceMod,Nat.reducePow,Nat.reduceLT,Nat.reduceLeDiff,Nat.reduceEqDiff,Int.reduceAdd,Int.reduceSub,Int.reduceNeg,Int.reduceMul,Int.reduceToNat,Int.reducePow,Int.reduceLE,Int.reduceLT,Int.reduceEq,Int.reduceNe,reduceIte,reduceCtorEq,ne_eq,not_true_eq_false,not_false_eq_true,imp_self,implies_true,bls,eq_self] <;> rfl) ?_
          rintro ⟨i, _ | ⟨v, g⟩⟩ hp
          · obtain ⟨hi, hpi⟩ := hp
            dsimp only
            simp (disch:=first|assumption|omega|(simp only [lens];omega)) only [eqs,↓gvd_succ,↓gvd_zero,↓and_of,im_of,im_of trivial,vlt,hP,hst,initS,Nat.reduceBEq,Nat.reduceAdd,Nat.reduceMul,Nat.reduceSub,Nat.reduceDiv,Nat.reduceMod,Nat.reducePow,Nat.reduceLT,Nat.reduceLeDiff,Nat.reduceEqDiff,Int.reduceAdd,Int.reduceSub,Int.reduceNeg,Int.reduceMul,Int.reduceToNat,Int.reducePow,Int.reduceLE,Int.reduceLT,Int.reduceEq,Int.reduceNe,reduceIte,reduceCtorEq,ne_eq,not_true_eq_false,not_false_eq_true,imp_self,implies_true,bls,eq_self]
            refine C_dec (fun h5 => ?_) (fun h5 => ?_)
            · simp (disch:=first|assumption|omega|(simp only [lens];omega)) only [eqs,↓gvd_succ,↓gvd_zero,↓and_of,im_of,im_of trivial,vlt,hP,hst,initS,Nat.reduceBEq,Nat.reduceAdd,Nat.reduceMul,Nat.reduceSub,Nat.reduceDiv,Nat.reduceMod,Nat.reducePow,Nat.reduceLT,Nat.reduceLeDiff,Nat.reduceEqDiff,Int.reduceAdd,Int.reduceSub,Int.reduceNeg,Int.reduceMul,Int.reduceToNat,Int.reducePow,Int.reduceLE,Int.reduceLT,Int.reduceEq,Int.reduceNe,reduceIte,reduceCtorEq,ne_eq,not_true_eq_false,not_false_eq_true,imp_self,implies_true,bls,eq_self]
              have hlt := sb_lt s i
              refine E_call (hP ▸ s_value) ⟨_, rfl, hlt, ?_⟩
              have hstep := pnum_succ (b := b) (l := sb s) (i := i) (by omega)
              rw [hpi] at hstep
              obtain ⟨o, ho⟩ : ∃ o, dv ((sb s).getD i 0) = o := ⟨_, rfl⟩
              rw [ho]
              unfold pstep at hstep
              rw [ho] at hstep
              have hfail : pnum b ((sb s).take (i + 1)) = none → ∀ y, K (.tup [.val (.slice none 0 0), .val (.bool false)]) (st ++ y) := fun h6 => by
                rw [pnum_fail h6] at hK; exact hK
              rcases o with _ | d
              · simp (disch:=first|assumption|omega|(simp only [lens];omega)) only [eqs,↓gvd_succ,↓gvd_zero,↓and_of,im_of,im_of trivial,vlt,hP,hst,initS,Nat.reduceBEq,Nat.reduceAdd,Nat.reduceMul,Nat.reduceSub,Nat.reduceDiv,Nat.reduceMod,Nat.reducePow,Nat.reduceLT,Nat.reduceLeDiff,Nat.reduceEqDiff,Int.reduceAdd,Int.reduceSub,Int.reduceNeg,Int.reduceMul,Int.reduceToNat,Int.reducePow,Int.reduceLE,Int.reduceLT,Int.reduceEq,Int.reduceNe,reduceIte,reduceCtorEq,ne_eq,not_true_eq_false,not_false_eq_true,imp_self,implies_true,bls,eq_self,Option.isSome_none,Option.isSome_some,Option.getD_none,Option.getD_some]
                simpa using hfail hstep []
              · simp (disch:=first|assumption|omega|(simp only [lens];omega)) only [eqs,↓gvd_succ,↓gvd_zero,↓and_of,im_of,im_of trivial,vlt,hP,hst,initS,Nat.reduceBEq,Nat.reduceAdd,Nat.reduceMul,Nat.reduceSub,Nat.reduceDiv,Nat.reduceMod,Nat.reducePow,Nat.reduceLT,Nat.reduceLeDiff,Nat.reduceEqDiff,Int.reduceAdd,Int.reduceSub,Int.reduceNeg,Int.reduceMul,Int.reduceToNat,Int.reducePow,Int.reduceLE,Int.reduceLT,Int.reduceEq,Int.reduceNe,reduceIte,reduceCtorEq,ne_eq,not_true_eq_false,not_false_eq_true,imp_self,implies_true,bls,eq_self,Option.isSome_none,Option.isSome_some,Option.getD_none,Option.getD_some]
                refine C_dec (fun h6 => ?_) (fun h6 => ?_)
                · simp (disch:=first|assumption|omega|(simp only [lens];omega)) only [eqs,↓gvd_succ,↓gvd_zero,↓and_of,im_of,im_of trivial,vlt,hP,hst,initS,Nat.reduceBEq,Nat.reduceAdd,Nat.reduceMul,Nat.reduceSub,Nat.reduceDiv,Nat.reduceMod,Nat.reducePow,Nat.reduceLT,Nat.reduceLeDiff,Nat.reduceEqDiff,Int.reduceAdd,Int.reduceSub,Int.reduceNeg,Int.reduceMul,Int.reduceToNat,Int.reducePow,Int.reduceLE,Int.reduceLT,Int.reduceEq,Int.reduceNe,reduceIte,reduceCtorEq,ne_eq,not_true_eq_false,not_false_eq_true,imp_self,implies_true,bls,eq_self]
                  dsimp only at hstep
                  rw [if_neg (by omega)] at hstep
                  simpa using hfail hstep []
                · dsimp only at hstep
                  rw [if_pos (by omega), Nat.zero_mul, Nat.zero_add] at hstep
                  simp (disch:=first|assumption|omega|(simp only [lens];omega)) only [eqs,↓gvd_succ,↓gvd_zero,↓and_of,im_of,im_of trivial,vlt,hP,hst,initS,Nat.reduceBEq,Nat.reduceAdd,Nat.reduceMul,Nat.reduceSub,Nat.reduceDiv,Nat.reduceMod,Nat.reducePow,Nat.reduceLT,Nat.reduceLeDiff,Nat.reduceEqDiff,Int.reduceAdd,Int.reduceSub,Int.reduceNeg,Int.reduceMul,Int.reduceToNat,Int.reducePow,Int.reduceLE,Int.reduceLT,Int.reduceEq,Int.reduceNe,reduceIte,reduceCtorEq,ne_eq,not_true_eq_false,not_false_eq_true,imp_self,implies_true,bls,eq_self]
                  refine V_loop (ι := Unit) (fun _ => [(52, .val (.int .i64 0)), (51, .val (.int .i64 0)), (50, .val (.slice none 0 0)), (10, .val (.int .u64 (d : Int))), (30, .val (.int .i64 (i : Int))), (29, .val (.int .i64 ((sb s).length : Int))), (0, .val (.string s)), (1, .val (.int .i64 (b : Int))), (6, .val (.slice none 0 0))]) (fun _ => st) (fun _ => True) (fun _ => 0) () trivial rfl (by simp (disch:=first|assumption|omega|(simp only [lens];omega)) only [eqs,↓gvd_succ,↓gvd_zero,↓and_of,im_of,im_of trivial,vlt,hP,hst,initS,Nat.reduceBEq,Nat.reduceAdd,Nat.reduceMul,Nat.reduceSub,Nat.reduceDiv,Nat.reduceMod,Nat.reducePow,Nat.reduceLT,Nat.reduceLeDiff,Nat.reduceEqDiff,Int.reduceAdd,Int.reduceSub,Int.reduceNeg,Int.reduceMul,Int.reduceToNat,Int.reducePow,Int.reduceLE,Int.reduceLT,Int.reduceEq,Int.reduceNe,reduceIte,reduceCtorEq,ne_eq,not_true_eq_false,not_false_eq_true,imp_self,implies_true,bls,eq_self] <;> rfl) ?_
                  rintro _ _
                  simp (disch:=first|assumption|omega|(simp only [lens];omega)) only [eqs,↓gvd_succ,↓gvd_zero,↓and_of,im_of,im_of trivial,vlt,hP,hst,initS,Nat.reduceBEq,Nat.reduceAdd,Nat.reduceMul,Nat.reduceSub,Nat.reduceDiv,Nat.reduceMod,Nat.reducePow,Nat.reduceLT,Nat.reduceLeDiff,Nat.reduceEqDiff,Int.reduceAdd,Int.reduceSub,Int.reduceNeg,Int.reduceMul,Int.reduceToNat,Int.reducePow,Int.reduceLE,Int.reduceLT,Int.reduceEq,Int.reduceNe,reduceIte,reduceCtorEq,ne_eq,not_true_eq_false,not_false_eq_true,imp_self,implies_true,bls,eq_self]
                  refine C_dec (fun h7 => ?_) (fun h7 => ?_)
                  · have hld : limbs d = [d] := by
                      rw [limbs_pos (by omega), show d / 4294967296 = 0 by omega, limbs_zero, Nat.mod_eq_of_lt (by omega)]
                    have hpow : 36 ≤ 36 ^ (i + 1) := by
                      have := Nat.pow_le_pow_right (n := 36) (by omega) (show 1 ≤ i + 1 by omega)
                      simpa using this
                    simp (disch:=first|assumption|omega|(simp only [lens];omega)) only [eqs,↓gvd_succ,↓gvd_zero,↓and_of,im_of,im_of trivial,vlt,hP,hst,initS,Nat.reduceBEq,Nat.reduceAdd,Nat.reduceMul,Nat.reduceSub,Nat.reduceDiv,Nat.reduceMod,Nat.reducePow,Nat.reduceLT,Nat.reduceLeDiff,Nat.reduceEqDiff,Int.reduceAdd,Int.reduceSub,Int.reduceNeg,Int.reduceMul,Int.reduceToNat,Int.reducePow,Int.reduceLE,Int.reduceLT,Int.reduceEq,Int.reduceNe,reduceIte,reduceCtorEq,ne_eq,not_true_eq_false,not_false_eq_true,imp_self,implies_true,bls,eq_self]
                    exact again (i + 1, some (d, [some (AV.val (Value.int IntKind.u32 ↑d) :: u32s (List.drop 1 (List.replicate 1 0)))])) ⟨by omega, hstep, by omega, by omega⟩ (show (sb s).length - (i + 1) < (sb s).length - i by omega) (by simp [hld, u32s]) (by
                      dsimp only
                      rw [hld]
                      simp (disch:=first|assumption|omega|(simp only [lens];omega)) only [eqs,↓gvd_succ,↓gvd_zero,↓and_of,im_of,im_of trivial,vlt,hP,hst,initS,Nat.reduceBEq,Nat.reduceAdd,Nat.reduceMul,Nat.reduceSub,Nat.reduceDiv,Nat.reduceMod,Nat.reducePow,Nat.reduceLT,Nat.reduceLeDiff,Nat.reduceEqDiff,Int.reduceAdd,Int.reduceSub,Int.reduceNeg,Int.reduceMul,Int.reduceToNat,Int.reducePow,Int.reduceLE,Int.reduceLT,Int.reduceEq,Int.reduceNe,reduceIte,reduceCtorEq,ne_eq,not_true_eq_false,not_false_eq_true,imp_self,implies_true,bls,eq_self] <;> rfl)
                  · have hd0 : d = 0 := by omega
                    subst hd0
                    simp (disch:=first|assumption|omega|(simp only [lens];omega)) only [eqs,↓gvd_succ,↓gvd_zero,↓and_of,im_of,im_of trivial,vlt,hP,hst,initS,Nat.reduceBEq,Nat.reduceAdd,Nat.reduceMul,Nat.reduceSub,Nat.reduceDiv,Nat.reduceMod,Nat.reducePow,Nat.reduceLT,Nat.reduceLeDiff,Nat.reduceEqDiff,Int.reduceAdd,Int.reduceSub,Int.reduceNeg,Int.reduceMul,Int.reduceToNat,Int.reducePow,Int.reduceLE,Int.reduceLT,Int.reduceEq,Int.reduceNe,reduceIte,reduceCtorEq,ne_eq,not_true_eq_false,not_false_eq_true,imp_self,implies_true,bls,eq_self]
                    exact again (i + 1, none) ⟨by omega, hstep⟩ (show (sb s).length - (i + 1) < (sb s).length - i by omega) rfl (by simp (disch:=first|assumption|omega|(simp only [lens];omega)) only [eqs,↓gvd_succ,↓gvd_zero,↓and_of,im_of,im_of trivial,vlt,hP,hst,initS,Nat.reduceBEq,Nat.reduceAdd,Nat.reduceMul,Nat.reduceSub,Nat.reduceDiv,Nat.reduceMod,Nat.reducePow,Nat.reduceLT,Nat.reduceLeDiff,Nat.reduceEqDiff,Int.reduceAdd,Int.reduceSub,Int.reduceNeg,Int.reduceMul,Int.reduceToNat,Int.reducePow,Int.reduceLE,Int.reduceLT,Int.reduceEq,Int.reduceNe,reduceIte,reduceCtorEq,ne_eq,not_true_eq_false,not_false_eq_true,imp_self,implies_true,bls,eq_self] <;> rfl)
            · simp (disch:=first|assumption|omega|(simp only [lens];omega)) only [eqs,↓gvd_succ,↓gvd_zero,↓and_of,im_of,im_of trivial,vlt,hP,hst,initS,Nat.reduceBEq,Nat.reduceAdd,Nat.reduceMul,Nat.reduceSub,Nat.reduceDiv,Nat.reduceMod,Nat.reducePow,Nat.reduceLT,Nat.reduceLeDiff,Nat.reduceEqDiff,Int.reduceAdd,Int.reduceSub,Int.reduceNeg,Int.reduceMul,Int.reduceToNat,Int.reducePow,Int.reduceLE,Int.reduceLT,Int.reduceEq,Int.reduceNe,reduceIte,reduceCtorEq,ne_eq,not_true_eq_false,not_false_eq_true,imp_self,implies_true,bls,eq_self]
              rw [List.take_of_length_le (by omega)] at hpi
              rw [hpi] at hK
              simpa [pres0] using hK
          · obtain ⟨hi, hpi, hv0, hv36⟩ := hp
            dsimp only
            simp (disch:=first|assumption|omega|(simp only [lens];omega)) only [eqs,↓gvd_succ,↓gvd_zero,↓and_of,im_of,im_of trivial,vlt,hP,hst,initS,Nat.reduceBEq,Nat.reduceAdd,Nat.reduceMul,Nat.reduceSub,Nat.reduceDiv,Nat.reduceMod,Nat.reducePow,Nat.reduceLT,Nat.reduceLeDiff,Nat.reduceEqDiff,Int.reduceAdd,Int.reduceSub,Int.reduceNeg,Int.reduceMul,Int.reduceToNat,Int.reducePow,Int.reduceLE,Int.reduceLT,Int.reduceEq,Int.reduceNe,reduceIte,reduceCtorEq,ne_eq,not_true_eq_false,not_false_eq_true,imp_self,implies_true,bls,eq_self]
            refine C_dec (fun h5 => ?_) (fun h5 => ?_)
            · simp (disch:=first|assumption|omega|(simp only [lens];omega)) only [eqs,↓gvd_succ,↓gvd_zero,↓and_of,im_of,im_of trivial,vlt,hP,hst,initS,Nat.reduceBEq,Nat.reduceAdd,Nat.reduceMul,Nat.reduceSub,Nat.reduceDiv,Nat.reduceMod,Nat.reducePow,Nat.reduceLT,Nat.reduceLeDiff,Nat.reduceEqDiff,Int.reduceAdd,Int.reduceSub,Int.reduceNeg,Int.reduceMul,Int.reduceToNat,Int.reducePow,Int.reduceLE,Int.reduceLT,Int.reduceEq,Int.reduceNe,reduceIte,reduceCtorEq,ne_eq,not_true_eq_false,not_false_eq_true,imp_self,implies_true,bls,eq_self]
              have hlt := sb_lt s i
              refine E_call (hP ▸ s_value) ⟨_, rfl, hlt, ?_⟩
              have hstep := pnum_succ (b := b) (l := sb s) (i := i) (by omega)
              rw [hpi] at hstep
              obtain ⟨o, ho⟩ : ∃ o, dv ((sb s).getD i 0) = o := ⟨_, rfl⟩
              rw [ho]
              unfold pstep at hstep
              rw [ho] at hstep
              have hfail : pnum b ((sb s).take (i + 1)) = none → ∀ y, K (.tup [.val (.slice none 0 0), .val (.bool false)]) (st ++ y) := fun h6 => by
                rw [pnum_fail h6] at hK; exact hK
              rcases o with _ | d
              · simp (disch:=first|assumption|omega|(simp only [lens];omega)) only [eqs,↓gvd_succ,↓gvd_zero,↓and_of,im_of,im_of trivial,vlt,hP,hst,initS,Nat.reduceBEq,Nat.reduceAdd,Nat.reduceMul,Nat.reduceSub,Nat.reduceDiv,Nat.reduceMod,Nat.reducePow,Nat.reduceLT,Nat.reduceLeDiff,Nat.reduceEqDiff,Int.reduceAdd,Int.reduceSub,Int.reduceNeg,Int.reduceMul,Int.reduceToNat,Int.reducePow,Int.reduceLE,Int.reduceLT,Int.reduceEq,Int.reduceNe,reduceIte,reduceCtorEq,ne_eq,not_true_eq_false,not_false_eq_true,imp_self,implies_true,bls,eq_self,Option.isSome_none,Option.isSome_some,Option.getD_none,Option.getD_some]
                exact hfail hstep _
              · simp (disch:=first|assumption|omega|(simp only [lens];omega)) only [eqs,↓gvd_succ,↓gvd_zero,↓and_of,im_of,im_of trivial,vlt,hP,hst,initS,Nat.reduceBEq,Nat.reduceAdd,Nat.reduceMul,Nat.reduceSub,Nat.reduceDiv,Nat.reduceMod,Nat.reducePow,Nat.reduceLT,Nat.reduceLeDiff,Nat.reduceEqDiff,Int.reduceAdd,Int.reduceSub,Int.reduceNeg,Int.reduceMul,Int.reduceToNat,Int.reducePow,Int.reduceLE,Int.reduceLT,Int.reduceEq,Int.reduceNe,reduceIte,reduceCtorEq,ne_eq,not_true_eq_false,not_false_eq_true,imp_self,implies_true,bls,eq_self,Option.isSome_none,Option.isSome_some,Option.getD_none,Option.getD_some]
                refine C_dec (fun h6 => ?_) (fun h6 => ?_)
                · simp (disch:=first|assumption|omega|(simp only [lens];omega)) only [eqs,↓gvd_succ,↓gvd_zero,↓and_of,im_of,im_of trivial,vlt,hP,hst,initS,Nat.reduceBEq,Nat.reduceAdd,Nat.reduceMul,Nat.reduceSub,Nat.reduceDiv,Nat.reduceMod,Nat.reducePow,Nat.reduceLT,Nat.reduceLeDiff,Nat.reduceEqDiff,Int.reduceAdd,Int.reduceSub,Int.reduceNeg,Int.reduceMul,Int.reduceToNat,Int.reducePow,Int.reduceLE,Int.reduceLT,Int.reduceEq,Int.reduceNe,reduceIte,reduceCtorEq,ne_eq,not_true_eq_false,not_false_eq_true,imp_self,implies_true,bls,eq_self]
                  dsimp only at hstep
                  rw [if_neg (by omega)] at hstep
                  exact hfail hstep _
                · dsimp only at hstep
                  rw [if_pos (by omega)] at hstep
                  have hvl : (limbs v).length ≤ i := limbs_len_le (Nat.lt_of_lt_of_le hv36 (Nat.pow_le_pow_left (by omega) i))
                  simp (disch:=first|assumption|omega|(simp only [lens];omega)) only [eqs,↓gvd_succ,↓gvd_zero,↓and_of,im_of,im_of trivial,vlt,hP,hst,initS,Nat.reduceBEq,Nat.reduceAdd,Nat.reduceMul,Nat.reduceSub,Nat.reduceDiv,Nat.reduceMod,Nat.reducePow,Nat.reduceLT,Nat.reduceLeDiff,Nat.reduceEqDiff,Int.reduceAdd,Int.reduceSub,Int.reduceNeg,Int.reduceMul,Int.reduceToNat,Int.reducePow,Int.reduceLE,Int.reduceLT,Int.reduceEq,Int.reduceNe,reduceIte,reduceCtorEq,ne_eq,not_true_eq_false,not_false_eq_true,imp_self,implies_true,bls,eq_self]
                  refine V_loop (ι := Nat × List Nat × Nat) (fun e => [(52, .val (.int .i64 (e.1 : Int))), (51, .val (.int .i64 ((limbs v).length : Int))), (50, .own (st.length + g.length) 0 (limbs v).length 1), (10, .val (.int .u64 (e.2.2 : Int))), (30, .val (.int .i64 (i : Int))), (29, .val (.int .i64 ((sb s).length : Int))), (0, .val (.string s)), (1, .val (.int .i64 (b : Int))), (6, .own (st.length + g.length) 0 (limbs v).length 1)])
                    (fun e => st ++ (g ++ [some (u32s e.2.1)])) (fun e => e.1 ≤ (limbs v).length ∧ e.2.1.length = (limbs v).length ∧ (∀ z ∈ e.2.1, z < 4294967296) ∧ e.2.2 < 4294967296 ∧ val (e.2.1.take e.1) + e.2.2 * 4294967296 ^ e.1 = val ((limbs v).take e.1) * b + d ∧ ∀ j, e.1 ≤ j → e.2.1.getD j 0 = (limbs v).getD j 0) (fun e => (limbs v).length - e.1)
                    (0, limbs v, d) ⟨by simp, rfl, limbs_lt v, by dsimp only; omega, by simp [val], fun _ _ => rfl⟩ rfl (by simp (disch:=first|assumption|omega|(simp only [lens];omega)) only [eqs,↓gvd_succ,↓gvd_zero,↓and_of,im_of,im_of trivial,vlt,hP,hst,initS,Nat.reduceBEq,Nat.reduceAdd,Nat.reduceMul,Nat.reduceSub,Nat.reduceDiv,Nat.reduceMod,Nat.reducePow,Nat.reduceLT,Nat.reduceLeDiff,Nat.reduceEqDiff,Int.reduceAdd,Int.reduceSub,Int.reduceNeg,Int.reduceMul,Int.reduceToNat,Int.reducePow,Int.reduceLE,Int.reduceLT,Int.reduceEq,Int.reduceNe,reduceIte,reduceCtorEq,ne_eq,not_true_eq_false,not_false_eq_true,imp_self,implies_true,bls,eq_self] <;> rfl) ?_
                  rintro ⟨k, row, c⟩ ⟨hk, hrow, hrl, hc, hinv, hsame⟩
                  dsimp only at hk hrow hrl hc hinv hsame ⊢
                  simp (disch:=first|assumption|omega|(simp only [lens];omega)) only [eqs,↓gvd_succ,↓gvd_zero,↓and_of,im_of,im_of trivial,vlt,hP,hst,initS,Nat.reduceBEq,Nat.reduceAdd,Nat.reduceMul,Nat.reduceSub,Nat.reduceDiv,Nat.reduceMod,Nat.reducePow,Nat.reduceLT,Nat.reduceLeDiff,Nat.reduceEqDiff,Int.reduceAdd,Int.reduceSub,Int.reduceNeg,Int.reduceMul,Int.reduceToNat,Int.reducePow,Int.reduceLE,Int.reduceLT,Int.reduceEq,Int.reduceNe,reduceIte,reduceCtorEq,ne_eq,not_true_eq_false,not_false_eq_true,imp_self,implies_true,bls,eq_self]
                  refine C_dec (fun h7 => ?_) (fun h7 => ?_)
                  · have d1 := getD_lt hrl k
                    have hxb := Nat.mul_le_mul (show row.getD k 0 ≤ 4294967295 by omega) (show b ≤ 36 by omega)
                    have e4 : ((row.getD k 0 * b : Nat) : Int) = (row.getD k 0 : Nat) * (b : Int) := Int.natCast_mul _ _
                    have e := small_step (x := row.getD k 0) hinv
                    rw [hsame k (Nat.le_refl _), ← val_take_succ, ← hsame k (Nat.le_refl _), ← val_take_set (by omega)] at e
                    obtain ⟨p, hp⟩ : ∃ p, row.getD k 0 * b = p := ⟨_, rfl⟩
                    rw [hp] at hxb e4 e
                    have e5 : IntKind.u32.wrap ((c : Int) + (p : Int)) = (((c + p) % 4294967296 : Nat) : Int) := by rw [IntKind.wrap_u32]; omega
                    simp (disch:=first|assumption|omega|(simp only [lens];omega)) only [eqs,↓gvd_succ,↓gvd_zero,↓and_of,im_of,im_of trivial,vlt,hP,hst,initS,Nat.reduceBEq,Nat.reduceAdd,Nat.reduceMul,Nat.reduceSub,Nat.reduceDiv,Nat.reduceMod,Nat.reducePow,Nat.reduceLT,Nat.reduceLeDiff,Nat.reduceEqDiff,Int.reduceAdd,Int.reduceSub,Int.reduceNeg,Int.reduceMul,Int.reduceToNat,Int.reducePow,Int.reduceLE,Int.reduceLT,Int.reduceEq,Int.reduceNe,reduceIte,reduceCtorEq,ne_eq,not_true_eq_false,not_false_eq_true,imp_self,implies_true,bls,eq_self,← e4,e5]
                    refine again (k + 1, row.set k ((c + p) % 4294967296), (c + p) / 4294967296) ⟨by dsimp only; omega, by simp [hrow], set_lt hrl (Nat.mod_lt _ (by omega)), by dsimp only; omega, e, fun j hj => ?_⟩ (show (limbs v).length - (k + 1) < (limbs v).length - k by omega) rfl (by simp (disch:=first|assumption|omega|(simp only [lens];omega)) only [eqs,↓gvd_succ,↓gvd_zero,↓and_of,im_of,im_of trivial,vlt,hP,hst,initS,Nat.reduceBEq,Nat.reduceAdd,Nat.reduceMul,Nat.reduceSub,Nat.reduceDiv,Nat.reduceMod,Nat.reducePow,Nat.reduceLT,Nat.reduceLeDiff,Nat.reduceEqDiff,Int.reduceAdd,Int.reduceSub,Int.reduceNeg,Int.reduceMul,Int.reduceToNat,Int.reducePow,Int.reduceLE,Int.reduceLT,Int.reduceEq,Int.reduceNe,reduceIte,reduceCtorEq,ne_eq,not_true_eq_false,not_false_eq_true,imp_self,implies_true,bls,eq_self] <;> rfl)
                    dsimp only at hj ⊢
                    rw [getD_set_ne' (by omega)]
                    exact hsame j (by omega)
                  · simp (disch:=first|assumption|omega|(simp only [lens];omega)) only [eqs,↓gvd_succ,↓gvd_zero,↓and_of,im_of,im_of trivial,vlt,hP,hst,initS,Nat.reduceBEq,Nat.reduceAdd,Nat.reduceMul,Nat.reduceSub,Nat.reduceDiv,Nat.reduceMod,Nat.reducePow,Nat.reduceLT,Nat.reduceLeDiff,Nat.reduceEqDiff,Int.reduceAdd,Int.reduceSub,Int.reduceNeg,Int.reduceMul,Int.reduceToNat,Int.reducePow,Int.reduceLE,Int.reduceLT,Int.reduceEq,Int.reduceNe,reduceIte,reduceCtorEq,ne_eq,not_true_eq_false,not_false_eq_true,imp_self,implies_true,bls,eq_self]
                    have hk2 : k = (limbs v).length := by omega
                    subst hk2
                    rw [List.take_of_length_le (by omega), List.take_of_length_le (Nat.le_refl _), val_limbs] at hinv
                    have hvb := Nat.mul_le_mul_left v (show b ≤ 36 by omega)
                    have hvb2 := Nat.mul_le_mul_left v (show 1 ≤ b by omega)
                    have hv37 : v * b + d < 36 ^ (i + 1) := by rw [Nat.pow_succ]; omega
                    refine C_dec (fun h8 => ?_) (fun h8 => ?_)
                    · have hrow2 : limbs (v * b + d) = row ++ [c] := by
                        rw [← hinv]
                        have e : val row + c * 4294967296 ^ (limbs v).length = val (row ++ [c]) := by
                          rw [val_append, hrow]; simp [val, Nat.mul_comm]
                        rw [e]
                        refine limbs_val (fun z hz => ?_) (fun z hz => ?_)
                        · rcases List.mem_append.1 hz with h9 | h9
                          · exact hrl z h9
                          · have : z = c := by simpa using h9
                            omega
                        · have : c = z := by simpa using hz
                          omega
                      have hrt : row.take (limbs v).length = row := List.take_of_length_le (by omega)
                      simp (disch:=first|assumption|omega|(simp only [lens];omega)) only [eqs,↓gvd_succ,↓gvd_zero,↓and_of,im_of,im_of trivial,vlt,hP,hst,initS,Nat.reduceBEq,Nat.reduceAdd,Nat.reduceMul,Nat.reduceSub,Nat.reduceDiv,Nat.reduceMod,Nat.reducePow,Nat.reduceLT,Nat.reduceLeDiff,Nat.reduceEqDiff,Int.reduceAdd,Int.reduceSub,Int.reduceNeg,Int.reduceMul,Int.reduceToNat,Int.reducePow,Int.reduceLE,Int.reduceLT,Int.reduceEq,Int.reduceNe,reduceIte,reduceCtorEq,ne_eq,not_true_eq_false,not_false_eq_true,imp_self,implies_true,bls,eq_self,hrt]
                      exact again (i + 1, some (v * b + d, g ++ [none, some (AV.val (Value.int IntKind.u32 ↑c) :: u32s (List.drop 1 (List.replicate 1 0)))])) ⟨by omega, hstep, by omega, hv37⟩ (show (sb s).length - (i + 1) < (sb s).length - i by omega) (by simp [hrow2, u32s]) (by
                        dsimp only
                        rw [hrow2]
                        simp (disch:=first|assumption|omega|(simp only [lens];omega)) only [eqs,↓gvd_succ,↓gvd_zero,↓and_of,im_of,im_of trivial,vlt,hP,hst,initS,Nat.reduceBEq,Nat.reduceAdd,Nat.reduceMul,Nat.reduceSub,Nat.reduceDiv,Nat.reduceMod,Nat.reducePow,Nat.reduceLT,Nat.reduceLeDiff,Nat.reduceEqDiff,Int.reduceAdd,Int.reduceSub,Int.reduceNeg,Int.reduceMul,Int.reduceToNat,Int.reducePow,Int.reduceLE,Int.reduceLT,Int.reduceEq,Int.reduceNe,reduceIte,reduceCtorEq,ne_eq,not_true_eq_false,not_false_eq_true,imp_self,implies_true,bls,eq_self] <;> simp [hrow])
                    · have hc0 : c = 0 := by omega
                      subst hc0
                      rw [Nat.zero_mul, Nat.add_zero] at hinv
                      have hrow2 : limbs (v * b + d) = row := by
                        have h9 := limbs_cut hrl
                        have h10 := limbs_len_mono (show v ≤ val row by omega)
                        rw [List.take_of_length_le (by omega), hinv] at h9
                        exact h9.symm
                      simp (disch:=first|assumption|omega|(simp only [lens];omega)) only [eqs,↓gvd_succ,↓gvd_zero,↓and_of,im_of,im_of trivial,vlt,hP,hst,initS,Nat.reduceBEq,Nat.reduceAdd,Nat.reduceMul,Nat.reduceSub,Nat.reduceDiv,Nat.reduceMod,Nat.reducePow,Nat.reduceLT,Nat.reduceLeDiff,Nat.reduceEqDiff,Int.reduceAdd,Int.reduceSub,Int.reduceNeg,Int.reduceMul,Int.reduceToNat,Int.reducePow,Int.reduceLE,Int.reduceLT,Int.reduceEq,Int.reduceNe,reduceIte,reduceCtorEq,ne_eq,not_true_eq_false,not_false_eq_true,imp_self,implies_true,bls,eq_self]
                      exact again (i + 1, some (v * b + d, g)) ⟨by omega, hstep, by omega, hv37⟩ (show (sb s).length - (i + 1) < (sb s).length - i by omega) (by simp [hrow2]) (by
                        dsimp only
                        rw [hrow2]
                        simp (disch:=first|assumption|omega|(simp only [lens];omega)) only [eqs,↓gvd_succ,↓gvd_zero,↓and_of,im_of,im_of trivial,vlt,hP,hst,initS,Nat.reduceBEq,Nat.reduceAdd,Nat.reduceMul,Nat.reduceSub,Nat.reduceDiv,Nat.reduceMod,Nat.reducePow,Nat.reduceLT,Nat.reduceLeDiff,Nat.reduceEqDiff,Int.reduceAdd,Int.reduceSub,Int.reduceNeg,Int.reduceMul,Int.reduceToNat,Int.reducePow,Int.reduceLE,Int.reduceLT,Int.reduceEq,Int.reduceNe,reduceIte,reduceCtorEq,ne_eq,not_true_eq_false,not_false_eq_true,imp_self,implies_true,bls,eq_self] <;> simp [hrow])
            · simp (disch:=first|assumption|omega|(simp only [lens];omega)) only [eqs,↓gvd_succ,↓gvd_zero,↓and_of,im_of,im_of trivial,vlt,hP,hst,initS,Nat.reduceBEq,Nat.reduceAdd,Nat.reduceMul,Nat.reduceSub,Nat.reduceDiv,Nat.reduceMod,Nat.reducePow,Nat.reduceLT,Nat.reduceLeDiff,Nat.reduceEqDiff,Int.reduceAdd,Int.reduceSub,Int.reduceNeg,Int.reduceMul,Int.reduceToNat,Int.reducePow,Int.reduceLE,Int.reduceLT,Int.reduceEq,Int.reduceNe,reduceIte,reduceCtorEq,ne_eq,not_true_eq_false,not_false_eq_true,imp_self,implies_true,bls,eq_self]
              rw [List.take_of_length_le (by omega)] at hpi
              rw [hpi] at hK
              simp only [pres0, if_neg hv0] at hK
              exact hK _ _ (by rw [get_app0]; rfl)
      · simp (disch:=first|assumption|omega|(simp only [lens];omega)) only [eqs,↓gvd_succ,↓gvd_zero,↓and_of,im_of,im_of trivial,vlt,hP,hst,initS,Nat.reduceBEq,Nat.reduceAdd,Nat.reduceMul,Nat.reduceSub,Nat.reduceDiv,Nat.reduceMod,Nat.reducePow,Nat.reduceLT,Nat.reduceLeDiff,Nat.reduceEqDiff,Int.reduceAdd,Int.reduceSub,Int.reduceNeg,Int.reduceMul,Int.reduceToNat,Int.reducePow,Int.reduceLE,Int.reduceLT,Int.reduceEq,Int.reduceNe,reduceIte,reduceCtorEq,ne_eq,not_true_eq_false,not_false_eq_true,imp_self,implies_true,bls,eq_self,h,h2,h3,sb_nil]
        exact hbad (by simp [h3])
    · simp (disch:=first|assumption|omega|(simp only [lens];omega)) only [eqs,↓gvd_succ,↓gvd_zero,↓and_of,im_of,im_of trivial,vlt,hP,hst,initS,Nat.reduceBEq,Nat.reduceAdd,Nat.reduceMul,Nat.reduceSub,Nat.reduceDiv,Nat.reduceMod,Nat.reducePow,Nat.reduceLT,Nat.reduceLeDiff,Nat.reduceEqDiff,Int.reduceAdd,Int.reduceSub,Int.reduceNeg,Int.reduceMul,Int.reduceToNat,Int.reducePow,Int.reduceLE,Int.reduceLT,Int.reduceEq,Int.reduceNe,reduceIte,reduceCtorEq,ne_eq,not_true_eq_false,not_false_eq_true,imp_self,implies_true,bls,eq_self,h,h2,sb_nil]
      exact hbad (by omega)
  · simp (disch:=first|assumption|omega|(simp only [lens];omega)) only [eqs,↓gvd_succ,↓gvd_zero,↓and_of,im_of,im_of trivial,vlt,hP,hst,initS,Nat.reduceBEq,Nat.reduceAdd,Nat.reduceMul,Nat.reduceSub,Nat.reduceDiv,Nat.reduceMod,Nat.reducePow,Nat.reduceLT,Nat.reduceLeDiff,Nat.reduceEqDiff,Int.reduceAdd,Int.reduceSub,Int.reduceNeg,Int.reduceMul,Int.reduceToNat,Int.reducePow,Int.reduceLE,Int.reduceLT,Int.reduceEq,Int.reduceNe,reduceIte,reduceCtorEq,ne_eq,not_true_eq_false,not_false_eq_true,imp_self,implies_true,bls,eq_self,h]
    exact hbad (by omega)

theorem s_Parse : PSpec Tryd.prog 70 (RParse pres) := by
  refine tidy s_Parse0 ?_
  rintro xs st K ⟨s, b, rfl, hK⟩
  refine ⟨s, b, rfl, ?_⟩
  cases hp : parse b (sb s) with
  | none =>
    rw [hp] at hK
    intro y
    exact ⟨[], y, [], _, rfl, List.nodup_nil, rfl, by simp, .tup (.cons (.val _) (.cons (.val _) .nil)), by simpa [pres] using hK⟩
  | some v =>
    rw [hp] at hK
    simp only [pres] at hK
    simp only [pres0]
    by_cases hv : v = 0
    · rw [if_pos hv] at hK ⊢
      exact ⟨[], [], [], _, by simp, List.nodup_nil, rfl, by simp, .tup (.cons (.val _) (.cons (.val _) .nil)), by simpa using hK⟩
    · rw [if_neg hv] at hK ⊢
      intro y i hy
      exact ⟨[i], y, [u32s (limbs v)], _, rfl, by simp, by simp [hy], by simpa using u32s_plain, .tup (.cons (.new (i := 0) rfl) (.cons (.val _) .nil)), hK⟩
end Go.Proofs.Pv
