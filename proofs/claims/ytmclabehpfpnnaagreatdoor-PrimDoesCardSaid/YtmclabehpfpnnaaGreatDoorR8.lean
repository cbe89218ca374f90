/- The document's answer's walks, eighth part. -/
import Derived.Test.YtmclabehpfpnnaaGreatDoorR7
import Derived.Test.YtmclabehpfpnnaaGreatDoorM7
set_option linter.unusedSimpArgs false
set_option linter.unusedVariables false
namespace Go.Proofs.Pv
open Go Go.RowKit Go.Proofs
set_option maxRecDepth 20000

theorem shift_nat {n k : Nat} (h : k ≤ 4096) : shiftV n (k : Int) = n * 2 ^ k := by
  unfold shiftV
  rw [if_neg (by omega), show (min (k : Int) 4096).toNat = k by omega]
theorem shift_one (n : Nat) : shiftV n 1 = 2 * n := by
  have := shift_nat (n := n) (k := 1) (by omega)
  rw [Nat.pow_one, Nat.mul_comm] at this
  exact this
theorem got_end {st st' T : St} {a : Option (List AV)} {x : AV} {v : Nat} (h : Got (st ++ [a]) T x v) (e : Ext T st') : Got st st' x v := Got.pre (.add _) (h.ext e)

def RrDiv (xs : List AV) (st : St) (K : AV → St → Prop) : Prop := ∃ x y l m, xs = [x, y] ∧ Nm st x l ∧ Nm st y m ∧ l.length ≤ 5000 ∧ m.length ≤ 5000 ∧
  ∀ q r st', Got st st' q (val l / val m) → Got st st' r (if val m = 0 then 0 else val l % val m) → K (.tup [q, r]) st'
theorem s_rDiv : PSpec Tryz.prog 88 RrDiv := by
  refine fspec_of (fn := Tryz.f88) 2 [.tmp 4, .tmp 5] (by kernel_rfl) rfl rfl (by kernel_rfl) mixed (by rintro _ _ _ ⟨x, y, l, m, rfl, _⟩; rfl) ?_
  rintro X _ st K hP hst ⟨x, y, l, m, rfl, hx, hy, hl, hm, hK⟩
  refine vc_V ?_
  simp (disch:=first|assumption|omega|(simp only [lens];omega)) only [eqs,↓gvd_succ,↓gvd_zero,↓and_of,im_of,im_of trivial,vlt,hP,hst,initS,Nat.reduceBEq,Nat.reduceAdd,Nat.reduceMul,Nat.reduceSub,Nat.reduceDiv,Nat.reduceMod,Nat.reducePow,Nat.reduceLT,Nat.reduceLeDiff,Nat.reduceEqDiff,Int.reduceAdd,Int.reduceSub,Int.reduceNeg,Int.reduceMul,Int.reduceToNat,Int.reducePow,Int.reduceLE,Int.reduceLT,Int.reduceEq,Int.reduceNe,reduceIte,reduceCtorEq,ne_eq,not_true_eq_false,not_false_eq_true,imp_self,implies_true,bls,eq_self]
  refine E_call (hP ▸ s_rBits) ⟨y, m, rfl, hy, by omega, fun T hT => ?_⟩
  simp (disch:=first|assumption|omega|(simp only [lens];omega)) only [eqs,↓gvd_succ,↓gvd_zero,↓and_of,im_of,im_of trivial,vlt,hP,hst,initS,Nat.reduceBEq,Nat.reduceAdd,Nat.reduceMul,Nat.reduceSub,Nat.reduceDiv,Nat.reduceMod,Nat.reducePow,Nat.reduceLT,Nat.reduceLeDiff,Nat.reduceEqDiff,Int.reduceAdd,Int.reduceSub,Int.reduceNeg,Int.reduceMul,Int.reduceToNat,Int.reducePow,Int.reduceLE,Int.reduceLT,Int.reduceEq,Int.reduceNe,reduceIte,reduceCtorEq,ne_eq,not_true_eq_false,not_false_eq_true,imp_self,implies_true,bls,eq_self]
  have hblm := blen_len hy.lt
  have hbll := blen_len hx.lt
  refine C_dec (fun h => ?_) (fun h => ?_)
  · have hm0 : val m = 0 := by
      have := blen_lt (val m)
      rw [show blen (val m) = 0 by omega] at this
      omega
    rw [hm0, Nat.div_zero, if_pos rfl] at hK
    simp (disch:=first|assumption|omega|(simp only [lens];omega)) only [eqs,↓gvd_succ,↓gvd_zero,↓and_of,im_of,im_of trivial,vlt,hP,hst,initS,Nat.reduceBEq,Nat.reduceAdd,Nat.reduceMul,Nat.reduceSub,Nat.reduceDiv,Nat.reduceMod,Nat.reducePow,Nat.reduceLT,Nat.reduceLeDiff,Nat.reduceEqDiff,Int.reduceAdd,Int.reduceSub,Int.reduceNeg,Int.reduceMul,Int.reduceToNat,Int.reducePow,Int.reduceLE,Int.reduceLT,Int.reduceEq,Int.reduceNe,reduceIte,reduceCtorEq,ne_eq,not_true_eq_false,not_false_eq_true,imp_self,implies_true,bls,eq_self,zrow]
    exact hK _ _ _ ((Got.zero hT).ext ⟨[some []], by simp⟩) (by simpa using Got.zero (hT.app [some []]))
  · have hm0 : 0 < val m := by
      rcases Nat.eq_zero_or_pos (val m) with h0 | h0
      · rw [h0, blen_zero] at h; exact absurd rfl h
      · exact h0
    rw [if_neg (by omega)] at hK
    have hx2 := hx.ext hT
    have h1 := hx2.sl
    simp (disch:=first|assumption|omega|(simp only [lens];omega)) only [eqs,↓gvd_succ,↓gvd_zero,↓and_of,im_of,im_of trivial,vlt,hP,hst,initS,Nat.reduceBEq,Nat.reduceAdd,Nat.reduceMul,Nat.reduceSub,Nat.reduceDiv,Nat.reduceMod,Nat.reducePow,Nat.reduceLT,Nat.reduceLeDiff,Nat.reduceEqDiff,Int.reduceAdd,Int.reduceSub,Int.reduceNeg,Int.reduceMul,Int.reduceToNat,Int.reducePow,Int.reduceLE,Int.reduceLT,Int.reduceEq,Int.reduceNe,reduceIte,reduceCtorEq,ne_eq,not_true_eq_false,not_false_eq_true,imp_self,implies_true,bls,eq_self,h1]
    refine E_call (hP ▸ s_rBits) ⟨x, l, rfl, hx2.app _, by omega, fun T2 hT2 => ?_⟩
    obtain ⟨g, rfl⟩ := hT2
    simp (disch:=first|assumption|omega|(simp only [lens];omega)) only [eqs,↓gvd_succ,↓gvd_zero,↓and_of,im_of,im_of trivial,vlt,hP,hst,initS,Nat.reduceBEq,Nat.reduceAdd,Nat.reduceMul,Nat.reduceSub,Nat.reduceDiv,Nat.reduceMod,Nat.reducePow,Nat.reduceLT,Nat.reduceLeDiff,Nat.reduceEqDiff,Int.reduceAdd,Int.reduceSub,Int.reduceNeg,Int.reduceMul,Int.reduceToNat,Int.reducePow,Int.reduceLE,Int.reduceLT,Int.reduceEq,Int.reduceNe,reduceIte,reduceCtorEq,ne_eq,not_true_eq_false,not_false_eq_true,imp_self,implies_true,bls,eq_self]
    refine V_loop (ι := Nat × List Nat × AV × St) (fun d => [(8, .val (.int .i64 ((d.1 : Int) - 1))), (7, d.2.2.1), (6, .own T.length 0 l.length 1), (1, y), (0, x)])
      (fun d => d.2.2.2) (fun d => d.1 ≤ blen (val l) ∧ d.2.1.length = l.length ∧ (∀ z ∈ d.2.1, z < 4294967296) ∧ val d.2.1 = val l / 2 ^ d.1 / val m * 2 ^ d.1 ∧ Got (T ++ [some (u32s d.2.1)]) d.2.2.2 d.2.2.1 (val l / 2 ^ d.1 % val m)) (fun d => d.1)
      (blen (val l), List.replicate l.length 0, .own (T.length + 1) 0 0 1, T ++ ([some (u32s (List.replicate l.length 0)), some (u32s (List.replicate 0 0))] ++ g)) ⟨by simp, by simp, rep_lt (by simp), ?_, ?_⟩ (by simp) (by simp (disch:=first|assumption|omega|(simp only [lens];omega)) only [eqs,↓gvd_succ,↓gvd_zero,↓and_of,im_of,im_of trivial,vlt,hP,hst,initS,Nat.reduceBEq,Nat.reduceAdd,Nat.reduceMul,Nat.reduceSub,Nat.reduceDiv,Nat.reduceMod,Nat.reducePow,Nat.reduceLT,Nat.reduceLeDiff,Nat.reduceEqDiff,Int.reduceAdd,Int.reduceSub,Int.reduceNeg,Int.reduceMul,Int.reduceToNat,Int.reducePow,Int.reduceLE,Int.reduceLT,Int.reduceEq,Int.reduceNe,reduceIte,reduceCtorEq,ne_eq,not_true_eq_false,not_false_eq_true,imp_self,implies_true,bls,eq_self] <;> rfl) ?_
    · have := blen_lt (val l)
      simp [val_zeros, Nat.div_eq_of_lt this]
    · have := blen_lt (val l)
      dsimp only
      rw [Nat.div_eq_of_lt this, Nat.zero_mod]
      refine ⟨[some (u32s (List.replicate 0 0))] ++ g, 0, [], by simp, by simp [limbs_zero], by simp [limbs_zero, u32s], by simp [plain]⟩
    rintro ⟨j, row, r, T4⟩ ⟨hj, hr, hrl, hv, hg⟩
    dsimp only at hj hr hrl hv hg ⊢
    simp (disch:=first|assumption|omega|(simp only [lens];omega)) only [eqs,↓gvd_succ,↓gvd_zero,↓and_of,im_of,im_of trivial,vlt,hP,hst,initS,Nat.reduceBEq,Nat.reduceAdd,Nat.reduceMul,Nat.reduceSub,Nat.reduceDiv,Nat.reduceMod,Nat.reducePow,Nat.reduceLT,Nat.reduceLeDiff,Nat.reduceEqDiff,Int.reduceAdd,Int.reduceSub,Int.reduceNeg,Int.reduceMul,Int.reduceToNat,Int.reducePow,Int.reduceLE,Int.reduceLT,Int.reduceEq,Int.reduceNe,reduceIte,reduceCtorEq,ne_eq,not_true_eq_false,not_false_eq_true,imp_self,implies_true,bls,eq_self]
    refine C_dec (fun h5 => ?_) (fun h5 => ?_)
    · obtain ⟨i, rfl⟩ : ∃ i, j = i + 1 := ⟨j - 1, by omega⟩
      have e0 : ((i + 1 : Nat) : Int) - 1 = (i : Int) := by omega
      have hup := bit_up (val l) i
      have hrlt : val l / 2 ^ (i + 1) % val m < val m := Nat.mod_lt _ hm0
      have hlen : (limbs (val l / 2 ^ (i + 1) % val m)).length ≤ 5000 := Nat.le_trans (limbs_len_mono (Nat.le_of_lt hrlt)) (Nat.le_trans (limbs_len hy.lt) hm)
      simp (disch:=first|assumption|omega|(simp only [lens];omega)) only [eqs,↓gvd_succ,↓gvd_zero,↓and_of,im_of,im_of trivial,vlt,hP,hst,initS,Nat.reduceBEq,Nat.reduceAdd,Nat.reduceMul,Nat.reduceSub,Nat.reduceDiv,Nat.reduceMod,Nat.reducePow,Nat.reduceLT,Nat.reduceLeDiff,Nat.reduceEqDiff,Int.reduceAdd,Int.reduceSub,Int.reduceNeg,Int.reduceMul,Int.reduceToNat,Int.reducePow,Int.reduceLE,Int.reduceLT,Int.reduceEq,Int.reduceNe,reduceIte,reduceCtorEq,ne_eq,not_true_eq_false,not_false_eq_true,imp_self,implies_true,bls,eq_self,Int.add_sub_cancel]
      refine E_call (hP ▸ s_rShift) ⟨r, _, 1, rfl, hg.nm, by omega, by omega, by omega, fun r2 T5 hg2 => ?_⟩
      rw [val_limbs, shift_one] at hg2
      have hT4 : Ext st T4 := hT.trans ((Ext.add _).trans hg.ex)
      have hT5 := hT4.trans hg2.ex
      simp (disch:=first|assumption|omega|(simp only [lens];omega)) only [eqs,↓gvd_succ,↓gvd_zero,↓and_of,im_of,im_of trivial,vlt,hP,hst,initS,Nat.reduceBEq,Nat.reduceAdd,Nat.reduceMul,Nat.reduceSub,Nat.reduceDiv,Nat.reduceMod,Nat.reducePow,Nat.reduceLT,Nat.reduceLeDiff,Nat.reduceEqDiff,Int.reduceAdd,Int.reduceSub,Int.reduceNeg,Int.reduceMul,Int.reduceToNat,Int.reducePow,Int.reduceLE,Int.reduceLT,Int.reduceEq,Int.reduceNe,reduceIte,reduceCtorEq,ne_eq,not_true_eq_false,not_false_eq_true,imp_self,implies_true,bls,eq_self,Int.add_sub_cancel]
      refine E_call (hP ▸ s_rbit) ⟨x, l, i, rfl, hx.ext hT5, by omega, ?_⟩
      simp (disch:=first|assumption|omega|(simp only [lens];omega)) only [eqs,↓gvd_succ,↓gvd_zero,↓and_of,im_of,im_of trivial,vlt,hP,hst,initS,Nat.reduceBEq,Nat.reduceAdd,Nat.reduceMul,Nat.reduceSub,Nat.reduceDiv,Nat.reduceMod,Nat.reducePow,Nat.reduceLT,Nat.reduceLeDiff,Nat.reduceEqDiff,Int.reduceAdd,Int.reduceSub,Int.reduceNeg,Int.reduceMul,Int.reduceToNat,Int.reducePow,Int.reduceLE,Int.reduceLT,Int.reduceEq,Int.reduceNe,reduceIte,reduceCtorEq,ne_eq,not_true_eq_false,not_false_eq_true,imp_self,implies_true,bls,eq_self]
      have hg4 := Got.pre hg.ex hg2
      have hmv := val_lt hy.lt
      obtain ⟨xb, hxb⟩ : ∃ xb, (if (val l).testBit i = true then 1 else 0) = xb := ⟨_, rfl⟩
      have hx1 : xb ≤ 1 := by rw [← hxb]; split <;> omega
      rw [hxb] at hup
      have hd := divbit_step (A := val l / 2 ^ (i + 1)) (b := val m) (x := xb) rfl rfl hx1 hm0
      rw [← hup] at hd
      have hfree : (val row).testBit i = false := bit_even (by rw [hv]; exact Nat.mul_mod_left _ _)
      have hp2 : 2 ^ (i + 1) = 2 * 2 ^ i := by rw [Nat.pow_succ, Nat.mul_comm]
      rw [hp2, ← Nat.mul_assoc, Nat.mul_comm _ 2] at hv
      rw [← hp2] at hv
      generalize val l / 2 ^ (i + 1) / val m = q at *
      generalize val l / 2 ^ (i + 1) % val m = R at *
      have hRl : ∀ n, n ≤ 2 * R + 1 → (limbs n).length ≤ 6000 := fun n hn => Nat.le_trans (limbs_len_le (k := m.length + 1) (by rw [Nat.pow_succ]; omega)) (by omega)
      refine C_bool (fun h6 => ?a) (fun h6 => ?b)
      case' a =>
        rw [if_pos h6] at hxb
        simp (disch:=first|assumption|omega|(simp only [lens];omega)) only [eqs,↓gvd_succ,↓gvd_zero,↓and_of,im_of,im_of trivial,vlt,hP,hst,initS,Nat.reduceBEq,Nat.reduceAdd,Nat.reduceMul,Nat.reduceSub,Nat.reduceDiv,Nat.reduceMod,Nat.reducePow,Nat.reduceLT,Nat.reduceLeDiff,Nat.reduceEqDiff,Int.reduceAdd,Int.reduceSub,Int.reduceNeg,Int.reduceMul,Int.reduceToNat,Int.reducePow,Int.reduceLE,Int.reduceLT,Int.reduceEq,Int.reduceNe,reduceIte,reduceCtorEq,ne_eq,not_true_eq_false,not_false_eq_true,imp_self,implies_true,bls,eq_self]
        refine E_call (hP ▸ s_rAdd) ⟨r2, .own T5.length 0 1 1, _, [1], rfl, hg2.nm.app _, Nm.one (w := 1) rfl (by omega), Nat.le_trans (hRl _ (by omega)) (by omega), by simp, fresh_got fun r3 T6 hg3 => ?_⟩
        rw [val_limbs, show val [1] = 1 from rfl] at hg3
        replace hg3 := Got.pre (hg4.ex.app _) hg3
        simp (disch:=first|assumption|omega|(simp only [lens];omega)) only [eqs,↓gvd_succ,↓gvd_zero,↓and_of,im_of,im_of trivial,vlt,hP,hst,initS,Nat.reduceBEq,Nat.reduceAdd,Nat.reduceMul,Nat.reduceSub,Nat.reduceDiv,Nat.reduceMod,Nat.reducePow,Nat.reduceLT,Nat.reduceLeDiff,Nat.reduceEqDiff,Int.reduceAdd,Int.reduceSub,Int.reduceNeg,Int.reduceMul,Int.reduceToNat,Int.reducePow,Int.reduceLE,Int.reduceLT,Int.reduceEq,Int.reduceNe,reduceIte,reduceCtorEq,ne_eq,not_true_eq_false,not_false_eq_true,imp_self,implies_true,bls,eq_self]
      case' b =>
        rw [if_neg (by simp [h6])] at hxb
        obtain ⟨r3, hr3⟩ : ∃ r3, r2 = r3 := ⟨_, rfl⟩
        obtain ⟨T6, hT6⟩ : ∃ T6, T5 = T6 := ⟨_, rfl⟩
        have hg3 : Got (T ++ [some (u32s row)]) T5 r2 (2 * R + 0) := hg4
        rw [hr3, hT6] at hg3
        simp (disch:=first|assumption|omega|(simp only [lens];omega)) only [eqs,↓gvd_succ,↓gvd_zero,↓and_of,im_of,im_of trivial,vlt,hP,hst,initS,Nat.reduceBEq,Nat.reduceAdd,Nat.reduceMul,Nat.reduceSub,Nat.reduceDiv,Nat.reduceMod,Nat.reducePow,Nat.reduceLT,Nat.reduceLeDiff,Nat.reduceEqDiff,Int.reduceAdd,Int.reduceSub,Int.reduceNeg,Int.reduceMul,Int.reduceToNat,Int.reducePow,Int.reduceLE,Int.reduceLT,Int.reduceEq,Int.reduceNe,reduceIte,reduceCtorEq,ne_eq,not_true_eq_false,not_false_eq_true,imp_self,implies_true,bls,eq_self]
        rw [hr3, hT6]
      all_goals
        rw [hxb] at hg3
        clear hg4 hg2 hT5 hg hT4
        have hT6 : Ext st T6 := hT.trans ((Ext.add _).trans hg3.ex)
        refine E_call (hP ▸ s_rCmp) ⟨r3, y, _, m, rfl, hg3.nm, hy.ext hT6, Nat.le_trans (hRl _ (by omega)) (by omega), by omega, ?_⟩
        rw [val_limbs]
        simp (disch:=first|assumption|omega|(simp only [lens];omega)) only [eqs,↓gvd_succ,↓gvd_zero,↓and_of,im_of,im_of trivial,vlt,hP,hst,initS,Nat.reduceBEq,Nat.reduceAdd,Nat.reduceMul,Nat.reduceSub,Nat.reduceDiv,Nat.reduceMod,Nat.reducePow,Nat.reduceLT,Nat.reduceLeDiff,Nat.reduceEqDiff,Int.reduceAdd,Int.reduceSub,Int.reduceNeg,Int.reduceMul,Int.reduceToNat,Int.reducePow,Int.reduceLE,Int.reduceLT,Int.reduceEq,Int.reduceNe,reduceIte,reduceCtorEq,ne_eq,not_true_eq_false,not_false_eq_true,imp_self,implies_true,bls,eq_self]
        refine C_dec (fun h7 => ?_) (fun h7 => ?_)
        · have h8 : val m ≤ 2 * R + xb := by
            rcases cmpI_cases ((2 * R + xb : Nat) : Int) (val m : Nat) with h9 | h9 | h9 <;> omega
          rw [if_pos h8, if_pos h8] at hd
          simp (disch:=first|assumption|omega|(simp only [lens];omega)) only [eqs,↓gvd_succ,↓gvd_zero,↓and_of,im_of,im_of trivial,vlt,hP,hst,initS,Nat.reduceBEq,Nat.reduceAdd,Nat.reduceMul,Nat.reduceSub,Nat.reduceDiv,Nat.reduceMod,Nat.reducePow,Nat.reduceLT,Nat.reduceLeDiff,Nat.reduceEqDiff,Int.reduceAdd,Int.reduceSub,Int.reduceNeg,Int.reduceMul,Int.reduceToNat,Int.reducePow,Int.reduceLE,Int.reduceLT,Int.reduceEq,Int.reduceNe,reduceIte,reduceCtorEq,ne_eq,not_true_eq_false,not_false_eq_true,imp_self,implies_true,bls,eq_self]
          refine E_call (hP ▸ s_rSub) ⟨r3, y, _, m, rfl, hg3.nm, hy.ext hT6, Nat.le_trans (hRl _ (by omega)) (by omega), by omega, fun r4 T7 hg5 => ?_⟩
          rw [val_limbs, hd.2] at hg5
          replace hg5 := Got.pre hg3.ex hg5
          obtain ⟨g7, rfl⟩ := hg5.ex
          have hsb := set_bit hrl (show i / 32 < row.length by omega) hfree
          have e1 : min (i % 32) 32 = i % 32 := by omega
          have e2 := or_shl (getD_lt hrl (i / 32)) (show i % 32 < 32 by omega)
          have hX1 : T.length ≥ X.st1.length := by rw [hst]; exact hT.len
          simp (disch:=first|assumption|omega|(simp only [lens];omega)) only [eqs,↓gvd_succ,↓gvd_zero,↓and_of,im_of,im_of trivial,vlt,hP,hst,initS,Nat.reduceBEq,Nat.reduceAdd,Nat.reduceMul,Nat.reduceSub,Nat.reduceDiv,Nat.reduceMod,Nat.reducePow,Nat.reduceLT,Nat.reduceLeDiff,Nat.reduceEqDiff,Int.reduceAdd,Int.reduceSub,Int.reduceNeg,Int.reduceMul,Int.reduceToNat,Int.reducePow,Int.reduceLE,Int.reduceLT,Int.reduceEq,Int.reduceNe,reduceIte,reduceCtorEq,ne_eq,not_true_eq_false,not_false_eq_true,imp_self,implies_true,bls,eq_self,e1,e2]
          refine again (i, row.set (i / 32) (row.getD (i / 32) 0 ||| 2 ^ (i % 32)), r4, _) ⟨by dsimp only; omega, by simp [hr], set_lt hrl hsb.2, ?_, ?_⟩ (by dsimp only; omega) rfl (by dsimp only; simp (disch:=first|assumption|omega|(simp only [lens];omega)) only [eqs,↓gvd_succ,↓gvd_zero,↓and_of,im_of,im_of trivial,vlt,hP,hst,initS,Nat.reduceBEq,Nat.reduceAdd,Nat.reduceMul,Nat.reduceSub,Nat.reduceDiv,Nat.reduceMod,Nat.reducePow,Nat.reduceLT,Nat.reduceLeDiff,Nat.reduceEqDiff,Int.reduceAdd,Int.reduceSub,Int.reduceNeg,Int.reduceMul,Int.reduceToNat,Int.reducePow,Int.reduceLE,Int.reduceLT,Int.reduceEq,Int.reduceNe,reduceIte,reduceCtorEq,ne_eq,not_true_eq_false,not_false_eq_true,imp_self,implies_true,bls,eq_self] <;> rfl)
          · dsimp only
            rw [hsb.1, ← hd.1, hv, Nat.add_mul, Nat.one_mul]
          · have := Got.set (b := some (u32s (row.set (i / 32) (row.getD (i / 32) 0 ||| 2 ^ (i % 32))))) hg5
            simpa using this
        · have h8 : ¬ val m ≤ 2 * R + xb := by
            rcases cmpI_cases ((2 * R + xb : Nat) : Int) (val m : Nat) with h9 | h9 | h9 <;> omega
          rw [if_neg h8, if_neg h8] at hd
          rw [hd.2] at hg3
          simp (disch:=first|assumption|omega|(simp only [lens];omega)) only [eqs,↓gvd_succ,↓gvd_zero,↓and_of,im_of,im_of trivial,vlt,hP,hst,initS,Nat.reduceBEq,Nat.reduceAdd,Nat.reduceMul,Nat.reduceSub,Nat.reduceDiv,Nat.reduceMod,Nat.reducePow,Nat.reduceLT,Nat.reduceLeDiff,Nat.reduceEqDiff,Int.reduceAdd,Int.reduceSub,Int.reduceNeg,Int.reduceMul,Int.reduceToNat,Int.reducePow,Int.reduceLE,Int.reduceLT,Int.reduceEq,Int.reduceNe,reduceIte,reduceCtorEq,ne_eq,not_true_eq_false,not_false_eq_true,imp_self,implies_true,bls,eq_self]
          refine again (i, row, r3, T6) ⟨by dsimp only; omega, hr, hrl, ?_, hg3⟩ (by dsimp only; omega) rfl (by dsimp only; simp (disch:=first|assumption|omega|(simp only [lens];omega)) only [eqs,↓gvd_succ,↓gvd_zero,↓and_of,im_of,im_of trivial,vlt,hP,hst,initS,Nat.reduceBEq,Nat.reduceAdd,Nat.reduceMul,Nat.reduceSub,Nat.reduceDiv,Nat.reduceMod,Nat.reducePow,Nat.reduceLT,Nat.reduceLeDiff,Nat.reduceEqDiff,Int.reduceAdd,Int.reduceSub,Int.reduceNeg,Int.reduceMul,Int.reduceToNat,Int.reducePow,Int.reduceLE,Int.reduceLT,Int.reduceEq,Int.reduceNe,reduceIte,reduceCtorEq,ne_eq,not_true_eq_false,not_false_eq_true,imp_self,implies_true,bls,eq_self] <;> rfl)
          dsimp only
          rw [← hd.1, hv]
    · simp (disch:=first|assumption|omega|(simp only [lens];omega)) only [eqs,↓gvd_succ,↓gvd_zero,↓and_of,im_of,im_of trivial,vlt,hP,hst,initS,Nat.reduceBEq,Nat.reduceAdd,Nat.reduceMul,Nat.reduceSub,Nat.reduceDiv,Nat.reduceMod,Nat.reducePow,Nat.reduceLT,Nat.reduceLeDiff,Nat.reduceEqDiff,Int.reduceAdd,Int.reduceSub,Int.reduceNeg,Int.reduceMul,Int.reduceToNat,Int.reducePow,Int.reduceLE,Int.reduceLT,Int.reduceEq,Int.reduceNe,reduceIte,reduceCtorEq,ne_eq,not_true_eq_false,not_false_eq_true,imp_self,implies_true,bls,eq_self]
      have hj0 : j = 0 := by omega
      subst hj0
      simp only [Nat.pow_zero, Nat.div_one, Nat.mul_one] at hv hg
      have hNm : Nm T4 (.own T.length 0 l.length 1) row := by
        obtain ⟨g4, rfl⟩ := hg.ex
        rw [← hr]
        exact Nm.own (rest := []) (by simp) hrl
      refine E_call (hP ▸ s_rNorm) ⟨_, row, rfl, hNm, by omega, fresh_got fun z T' hz => ?_⟩
      simp (disch:=first|assumption|omega|(simp only [lens];omega)) only [eqs,↓gvd_succ,↓gvd_zero,↓and_of,im_of,im_of trivial,vlt,hP,hst,initS,Nat.reduceBEq,Nat.reduceAdd,Nat.reduceMul,Nat.reduceSub,Nat.reduceDiv,Nat.reduceMod,Nat.reducePow,Nat.reduceLT,Nat.reduceLeDiff,Nat.reduceEqDiff,Int.reduceAdd,Int.reduceSub,Int.reduceNeg,Int.reduceMul,Int.reduceToNat,Int.reducePow,Int.reduceLE,Int.reduceLT,Int.reduceEq,Int.reduceNe,reduceIte,reduceCtorEq,ne_eq,not_true_eq_false,not_false_eq_true,imp_self,implies_true,bls,eq_self]
      rw [hv] at hz
      exact hK _ _ _ (Got.pre (hT.trans ((Ext.add _).trans hg.ex)) hz) (Got.pre hT (got_end hg hz.ex))

def RrDivSmall (xs : List AV) (st : St) (K : AV → St → Prop) : Prop := ∃ x l d, xs = [x, .val (.int .u32 ((d : Nat) : Int))] ∧ Nm st x l ∧ l.length ≤ 5000 ∧ d < 4294967296 ∧
  ∀ q st', Got st st' q (val l / d) → K (.tup [q, .val (.int .u32 ((if d = 0 then 0 else val l % d : Nat) : Int))]) st'
end Go.Proofs.Pv
