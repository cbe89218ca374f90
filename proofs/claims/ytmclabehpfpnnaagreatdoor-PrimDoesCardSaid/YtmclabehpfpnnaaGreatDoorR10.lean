/- The document's answer's walks, tenth part. -/
import Derived.Test.YtmclabehpfpnnaaGreatDoorR6
import Derived.Test.YtmclabehpfpnnaaGreatDoorS1
set_option linter.unusedSimpArgs false
set_option linter.unusedVariables false
namespace Go.Proofs.Pv
open Go Go.RowKit Go.Proofs
set_option maxRecDepth 20000

def RrText (xs : List AV) (st : St) (K : AV → St → Prop) : Prop := ∃ x l n, xs = [x, .val (.int .i64 n)] ∧ Nm st x l ∧ l.length ≤ 10000 ∧
  anyw st (.string (if n < 2 ∨ 36 < n then ⟨#[]⟩ else bstr (txt n.toNat (val l)))) K
theorem s_rText : PSpec Tryz.prog 65 RrText := by
  refine fspec_of (fn := Tryz.f65) 2 [.tmp 4] (by kernel_rfl) rfl rfl (by kernel_rfl) mixed (by rintro _ _ _ ⟨x, l, n, rfl, _⟩; rfl) ?_
  rintro X _ st K hP hst ⟨x, l, b, rfl, hx, hl, hK⟩
  refine vc_V ?_
  simp (disch:=first|assumption|omega|(simp only [lens];omega)) only [eqs,↓gvd_succ,↓gvd_zero,↓and_of,im_of,im_of trivial,vlt,hP,hst,initS,Nat.reduceBEq,Nat.reduceAdd,Nat.reduceMul,Nat.reduceSub,Nat.reduceDiv,Nat.reduceMod,Nat.reducePow,Nat.reduceLT,Nat.reduceLeDiff,Nat.reduceEqDiff,Int.reduceAdd,Int.reduceSub,Int.reduceNeg,Int.reduceMul,Int.reduceToNat,Int.reducePow,Int.reduceLE,Int.reduceLT,Int.reduceEq,Int.reduceNe,reduceIte,reduceCtorEq,ne_eq,not_true_eq_false,not_false_eq_true,imp_self,implies_true,bls,eq_self]
  refine G_ndec (fun h => ?_) (fun h => ?_)
  · simp (disch:=first|assumption|omega|(simp only [lens];omega)) only [eqs,↓gvd_succ,↓gvd_zero,↓and_of,im_of,im_of trivial,vlt,hP,hst,initS,Nat.reduceBEq,Nat.reduceAdd,Nat.reduceMul,Nat.reduceSub,Nat.reduceDiv,Nat.reduceMod,Nat.reducePow,Nat.reduceLT,Nat.reduceLeDiff,Nat.reduceEqDiff,Int.reduceAdd,Int.reduceSub,Int.reduceNeg,Int.reduceMul,Int.reduceToNat,Int.reducePow,Int.reduceLE,Int.reduceLT,Int.reduceEq,Int.reduceNe,reduceIte,reduceCtorEq,ne_eq,not_true_eq_false,not_false_eq_true,imp_self,implies_true,bls,eq_self,h]
    refine C_dec (fun h2 => ?_) (fun h2 => ?_)
    · rw [if_pos (by omega)] at hK
      simp (disch:=first|assumption|omega|(simp only [lens];omega)) only [eqs,↓gvd_succ,↓gvd_zero,↓and_of,im_of,im_of trivial,vlt,hP,hst,initS,Nat.reduceBEq,Nat.reduceAdd,Nat.reduceMul,Nat.reduceSub,Nat.reduceDiv,Nat.reduceMod,Nat.reducePow,Nat.reduceLT,Nat.reduceLeDiff,Nat.reduceEqDiff,Int.reduceAdd,Int.reduceSub,Int.reduceNeg,Int.reduceMul,Int.reduceToNat,Int.reducePow,Int.reduceLE,Int.reduceLT,Int.reduceEq,Int.reduceNe,reduceIte,reduceCtorEq,ne_eq,not_true_eq_false,not_false_eq_true,imp_self,implies_true,bls,eq_self]
      exact hK _ .refl
    · rw [if_neg (by omega)] at hK
      obtain ⟨b, rfl⟩ : ∃ n : Nat, b = (n : Int) := ⟨b.toNat, by omega⟩
      have hb2 : 2 ≤ b := by omega
      have hb36 : b ≤ 36 := by omega
      rw [Int.toNat_natCast] at hK
      simp (disch:=first|assumption|omega|(simp only [lens];omega)) only [eqs,↓gvd_succ,↓gvd_zero,↓and_of,im_of,im_of trivial,vlt,hP,hst,initS,Nat.reduceBEq,Nat.reduceAdd,Nat.reduceMul,Nat.reduceSub,Nat.reduceDiv,Nat.reduceMod,Nat.reducePow,Nat.reduceLT,Nat.reduceLeDiff,Nat.reduceEqDiff,Int.reduceAdd,Int.reduceSub,Int.reduceNeg,Int.reduceMul,Int.reduceToNat,Int.reducePow,Int.reduceLE,Int.reduceLT,Int.reduceEq,Int.reduceNe,reduceIte,reduceCtorEq,ne_eq,not_true_eq_false,not_false_eq_true,imp_self,implies_true,bls,eq_self]
      refine E_call (hP ▸ s_rNorm) ⟨x, l, rfl, hx, by omega, fresh_got fun z T hz => ?_⟩
      have hln := limbs_len hx.lt
      have htl := txt_len (n := val l) hb2
      have hbl := blen_limbs (val l)
      have hbl2 : blen (val l) ≤ 320000 := by
        have := blen_le (k := 32) (show (limbs (val l)).getD ((limbs (val l)).length - 1) 0 < 2 ^ 32 from getD_lt (limbs_lt _) _)
        split at hbl <;> omega
      simp (disch:=first|assumption|omega|(simp only [lens];omega)) only [eqs,↓gvd_succ,↓gvd_zero,↓and_of,im_of,im_of trivial,vlt,hP,hst,initS,Nat.reduceBEq,Nat.reduceAdd,Nat.reduceMul,Nat.reduceSub,Nat.reduceDiv,Nat.reduceMod,Nat.reducePow,Nat.reduceLT,Nat.reduceLeDiff,Nat.reduceEqDiff,Int.reduceAdd,Int.reduceSub,Int.reduceNeg,Int.reduceMul,Int.reduceToNat,Int.reducePow,Int.reduceLE,Int.reduceLT,Int.reduceEq,Int.reduceNe,reduceIte,reduceCtorEq,ne_eq,not_true_eq_false,not_false_eq_true,imp_self,implies_true,bls,eq_self]
      refine V_loop (ι := Nat × List Nat × AV × St) (fun e => [(1, .val (.int .i64 (b : Int))), (5, .val (.string (bstr e.2.1))), (6, e.2.2.1)]) (fun e => e.2.2.2)
        (fun e => txt b (val l) = txt b e.1 ++ e.2.1 ∧ e.1 ≤ val l ∧ Ext st e.2.2.2 ∧ Nm e.2.2.2 e.2.2.1 (limbs e.1)) (fun e => e.1) (val l, [], z, T) ⟨by simp, Nat.le_refl _, hz.ex, hz.nm⟩ rfl (by simp (disch:=first|assumption|omega|(simp only [lens];omega)) only [eqs,↓gvd_succ,↓gvd_zero,↓and_of,im_of,im_of trivial,vlt,hP,hst,initS,Nat.reduceBEq,Nat.reduceAdd,Nat.reduceMul,Nat.reduceSub,Nat.reduceDiv,Nat.reduceMod,Nat.reducePow,Nat.reduceLT,Nat.reduceLeDiff,Nat.reduceEqDiff,Int.reduceAdd,Int.reduceSub,Int.reduceNeg,Int.reduceMul,Int.reduceToNat,Int.reducePow,Int.reduceLE,Int.reduceLT,Int.reduceEq,Int.reduceNe,reduceIte,reduceCtorEq,ne_eq,not_true_eq_false,not_false_eq_true,imp_self,implies_true,bls,eq_self,bstr_nil] <;> rfl) ?_
      rintro ⟨n, sf, y, T2⟩ ⟨hsf, hn, hT, hy⟩
      dsimp only at hsf hn hT hy ⊢
      have hLl := limbs_len_mono hn
      have hvn := val_limbs n
      generalize limbs n = L at *
      have h1 := hy.sl
      have h3 := hy.grow
      simp (disch:=first|assumption|omega|(simp only [lens];omega)) only [eqs,↓gvd_succ,↓gvd_zero,↓and_of,im_of,im_of trivial,vlt,hP,hst,initS,Nat.reduceBEq,Nat.reduceAdd,Nat.reduceMul,Nat.reduceSub,Nat.reduceDiv,Nat.reduceMod,Nat.reducePow,Nat.reduceLT,Nat.reduceLeDiff,Nat.reduceEqDiff,Int.reduceAdd,Int.reduceSub,Int.reduceNeg,Int.reduceMul,Int.reduceToNat,Int.reducePow,Int.reduceLE,Int.reduceLT,Int.reduceEq,Int.reduceNe,reduceIte,reduceCtorEq,ne_eq,not_true_eq_false,not_false_eq_true,imp_self,implies_true,bls,eq_self,h1,h3]
      refine V_loop (ι := Nat × List Nat × Nat) (fun e => [(9, .val (.int .i64 ((e.1 : Int) - 1))), (7, .val (.int .u64 (e.2.2 : Int))), (8, .own T2.length 0 L.length 1), (1, .val (.int .i64 (b : Int))), (5, .val (.string (bstr sf))), (6, y)])
        (fun e => T2 ++ [some (u32s e.2.1)]) (fun e => e.1 ≤ L.length ∧ e.2.1.length = L.length ∧ e.2.2 < b ∧ (∀ z ∈ e.2.1, z < 4294967296) ∧ val (e.2.1.drop e.1) * b + e.2.2 = val (L.drop e.1)) (fun e => e.1)
        (L.length, List.replicate L.length 0, 0) ⟨by simp, by simp, by simp; omega, rep_lt (by simp), by simp [val]⟩ rfl (by simp (disch:=first|assumption|omega|(simp only [lens];omega)) only [eqs,↓gvd_succ,↓gvd_zero,↓and_of,im_of,im_of trivial,vlt,hP,hst,initS,Nat.reduceBEq,Nat.reduceAdd,Nat.reduceMul,Nat.reduceSub,Nat.reduceDiv,Nat.reduceMod,Nat.reducePow,Nat.reduceLT,Nat.reduceLeDiff,Nat.reduceEqDiff,Int.reduceAdd,Int.reduceSub,Int.reduceNeg,Int.reduceMul,Int.reduceToNat,Int.reducePow,Int.reduceLE,Int.reduceLT,Int.reduceEq,Int.reduceNe,reduceIte,reduceCtorEq,ne_eq,not_true_eq_false,not_false_eq_true,imp_self,implies_true,bls,eq_self] <;> rfl) ?_
      rintro ⟨k, row, r⟩ ⟨hk, hr, hc, hrl, hv⟩
      dsimp only at hk hr hc hrl hv ⊢
      have hX1 : T2.length ≥ X.st1.length := by rw [hst]; exact hT.len
      simp (disch:=first|assumption|omega|(simp only [lens];omega)) only [eqs,↓gvd_succ,↓gvd_zero,↓and_of,im_of,im_of trivial,vlt,hP,hst,initS,Nat.reduceBEq,Nat.reduceAdd,Nat.reduceMul,Nat.reduceSub,Nat.reduceDiv,Nat.reduceMod,Nat.reducePow,Nat.reduceLT,Nat.reduceLeDiff,Nat.reduceEqDiff,Int.reduceAdd,Int.reduceSub,Int.reduceNeg,Int.reduceMul,Int.reduceToNat,Int.reducePow,Int.reduceLE,Int.reduceLT,Int.reduceEq,Int.reduceNe,reduceIte,reduceCtorEq,ne_eq,not_true_eq_false,not_false_eq_true,imp_self,implies_true,bls,eq_self,h1,h3]
      refine C_dec (fun h6 => ?_) (fun h6 => ?_)
      · have b1 := getD_lt hy.lt (k - 1)
        have e := div_step (a := L.getD (k - 1) 0) hv
        rw [← val_drop_pred (by omega) hk, ← val_drop_set (by omega) (by omega)] at e
        have hq : (r * 4294967296 + L.getD (k - 1) 0) / b < 4294967296 := by
          rw [Nat.div_lt_iff_lt_mul (by omega)]
          have := Nat.mul_le_mul_right 4294967296 (show r + 1 ≤ b by omega)
          omega
        have hr2 : (r * 4294967296 + L.getD (k - 1) 0) % b < b := Nat.mod_lt _ (by omega)
        have e3 : (r : Int) * 4294967296 + (L.getD (k - 1) 0 : Nat) = ((r * 4294967296 + L.getD (k - 1) 0 : Nat) : Int) := by omega
        generalize (r * 4294967296 + L.getD (k - 1) 0) = v at *
        obtain ⟨q, hqe⟩ : ∃ q, v / b = q := ⟨_, rfl⟩
        obtain ⟨r2, hre⟩ : ∃ r2, v % b = r2 := ⟨_, rfl⟩
        rw [hqe] at hq e
        rw [hre] at hr2 e
        simp (disch:=first|assumption|omega|(simp only [lens];omega)) only [eqs,↓gvd_succ,↓gvd_zero,↓and_of,im_of,im_of trivial,vlt,hP,hst,initS,Nat.reduceBEq,Nat.reduceAdd,Nat.reduceMul,Nat.reduceSub,Nat.reduceDiv,Nat.reduceMod,Nat.reducePow,Nat.reduceLT,Nat.reduceLeDiff,Nat.reduceEqDiff,Int.reduceAdd,Int.reduceSub,Int.reduceNeg,Int.reduceMul,Int.reduceToNat,Int.reducePow,Int.reduceLE,Int.reduceLT,Int.reduceEq,Int.reduceNe,reduceIte,reduceCtorEq,ne_eq,not_true_eq_false,not_false_eq_true,imp_self,implies_true,bls,eq_self,h1,h3,e3,hqe,hre]
        refine again (k - 1, row.set (k - 1) q, r2) ⟨by dsimp only; omega, by simp [hr], hr2, set_lt hrl hq, e⟩ (by dsimp only; omega) rfl (by
          rw [show ((k - 1 : Nat) : Int) = (k : Int) - 1 by omega]
          simp (disch:=first|assumption|omega|(simp only [lens];omega)) only [eqs,↓gvd_succ,↓gvd_zero,↓and_of,im_of,im_of trivial,vlt,hP,hst,initS,Nat.reduceBEq,Nat.reduceAdd,Nat.reduceMul,Nat.reduceSub,Nat.reduceDiv,Nat.reduceMod,Nat.reducePow,Nat.reduceLT,Nat.reduceLeDiff,Nat.reduceEqDiff,Int.reduceAdd,Int.reduceSub,Int.reduceNeg,Int.reduceMul,Int.reduceToNat,Int.reducePow,Int.reduceLE,Int.reduceLT,Int.reduceEq,Int.reduceNe,reduceIte,reduceCtorEq,ne_eq,not_true_eq_false,not_false_eq_true,imp_self,implies_true,bls,eq_self] <;> rfl)
      · have hk0 : k = 0 := by omega
        subst hk0
        simp only [List.drop_zero] at hv
        have e1 : val row = n / b := by
          rw [← hvn, ← hv, Nat.mul_comm, Nat.mul_add_div (by omega), Nat.div_eq_of_lt hc, Nat.add_zero]
        have e2 : n % b = r := by
          rw [← hvn, ← hv, Nat.mul_comm, Nat.mul_add_mod, Nat.mod_eq_of_lt hc]
        have hst2 := txt_step' (n := n) hb2
        rw [e2] at hst2
        rw [hst2] at hsf
        have hlen := congrArg List.length hsf
        simp only [List.length_append, List.length_cons, List.length_nil] at hlen
        simp (disch:=first|assumption|omega|(simp only [lens];omega)) only [eqs,↓gvd_succ,↓gvd_zero,↓and_of,im_of,im_of trivial,vlt,hP,hst,initS,Nat.reduceBEq,Nat.reduceAdd,Nat.reduceMul,Nat.reduceSub,Nat.reduceDiv,Nat.reduceMod,Nat.reducePow,Nat.reduceLT,Nat.reduceLeDiff,Nat.reduceEqDiff,Int.reduceAdd,Int.reduceSub,Int.reduceNeg,Int.reduceMul,Int.reduceToNat,Int.reducePow,Int.reduceLE,Int.reduceLT,Int.reduceEq,Int.reduceNe,reduceIte,reduceCtorEq,ne_eq,not_true_eq_false,not_false_eq_true,imp_self,implies_true,bls,eq_self,dig_cut,bstr_append,bstr_size]
        refine ⟨show (r : Int) + 1 ≤ ((36 : Nat) : Int) by omega, ?_⟩
        refine E_call (hP ▸ s_rNorm) ⟨_, row, rfl, Nm.last hr hrl, by omega, fresh_got fun z T3 hz => ?_⟩
        rw [e1] at hz
        have hb3 := limbs_len hrl
        rw [e1] at hb3
        have hz1 := hz.nm.sl
        simp (disch:=first|assumption|omega|(simp only [lens];omega)) only [eqs,↓gvd_succ,↓gvd_zero,↓and_of,im_of,im_of trivial,vlt,hP,hst,initS,Nat.reduceBEq,Nat.reduceAdd,Nat.reduceMul,Nat.reduceSub,Nat.reduceDiv,Nat.reduceMod,Nat.reducePow,Nat.reduceLT,Nat.reduceLeDiff,Nat.reduceEqDiff,Int.reduceAdd,Int.reduceSub,Int.reduceNeg,Int.reduceMul,Int.reduceToNat,Int.reducePow,Int.reduceLE,Int.reduceLT,Int.reduceEq,Int.reduceNe,reduceIte,reduceCtorEq,ne_eq,not_true_eq_false,not_false_eq_true,imp_self,implies_true,bls,eq_self,hz1]
        refine C_dec (fun h7 => ?_) (fun h7 => ?_)
        · simp (disch:=first|assumption|omega|(simp only [lens];omega)) only [eqs,↓gvd_succ,↓gvd_zero,↓and_of,im_of,im_of trivial,vlt,hP,hst,initS,Nat.reduceBEq,Nat.reduceAdd,Nat.reduceMul,Nat.reduceSub,Nat.reduceDiv,Nat.reduceMod,Nat.reducePow,Nat.reduceLT,Nat.reduceLeDiff,Nat.reduceEqDiff,Int.reduceAdd,Int.reduceSub,Int.reduceNeg,Int.reduceMul,Int.reduceToNat,Int.reducePow,Int.reduceLE,Int.reduceLT,Int.reduceEq,Int.reduceNe,reduceIte,reduceCtorEq,ne_eq,not_true_eq_false,not_false_eq_true,imp_self,implies_true,bls,eq_self]
          have h8 : n / b = 0 := by
            have := val_limbs (n / b)
            rw [List.eq_nil_of_length_eq_zero (show (limbs (n / b)).length = 0 by omega)] at this
            exact this.symm
          rw [if_pos h8] at hsf
          rw [hsf] at hK
          exact hK _ (hT.trans ((Ext.add _).trans hz.ex))
        · have h8 : n / b ≠ 0 := by
            intro h8
            rw [h8, limbs_zero] at h7
            exact h7 rfl
          rw [if_neg h8] at hsf
          have h9 : n ≠ 0 := by
            rintro rfl
            simp at h8
          have h10 : n / b < n := Nat.div_lt_self (by omega) (by omega)
          simp (disch:=first|assumption|omega|(simp only [lens];omega)) only [eqs,↓gvd_succ,↓gvd_zero,↓and_of,im_of,im_of trivial,vlt,hP,hst,initS,Nat.reduceBEq,Nat.reduceAdd,Nat.reduceMul,Nat.reduceSub,Nat.reduceDiv,Nat.reduceMod,Nat.reducePow,Nat.reduceLT,Nat.reduceLeDiff,Nat.reduceEqDiff,Int.reduceAdd,Int.reduceSub,Int.reduceNeg,Int.reduceMul,Int.reduceToNat,Int.reducePow,Int.reduceLE,Int.reduceLT,Int.reduceEq,Int.reduceNe,reduceIte,reduceCtorEq,ne_eq,not_true_eq_false,not_false_eq_true,imp_self,implies_true,bls,eq_self]
          exact again (n / b, [dch r] ++ sf, z, T3) ⟨by rw [hsf]; simp, by dsimp only; omega, hT.trans ((Ext.add _).trans hz.ex), hz.nm⟩ h10 rfl (by dsimp only; simp (disch:=first|assumption|omega|(simp only [lens];omega)) only [eqs,↓gvd_succ,↓gvd_zero,↓and_of,im_of,im_of trivial,vlt,hP,hst,initS,Nat.reduceBEq,Nat.reduceAdd,Nat.reduceMul,Nat.reduceSub,Nat.reduceDiv,Nat.reduceMod,Nat.reducePow,Nat.reduceLT,Nat.reduceLeDiff,Nat.reduceEqDiff,Int.reduceAdd,Int.reduceSub,Int.reduceNeg,Int.reduceMul,Int.reduceToNat,Int.reducePow,Int.reduceLE,Int.reduceLT,Int.reduceEq,Int.reduceNe,reduceIte,reduceCtorEq,ne_eq,not_true_eq_false,not_false_eq_true,imp_self,implies_true,bls,eq_self] <;> rfl)
  · rw [if_pos (by omega)] at hK
    simp (disch:=first|assumption|omega|(simp only [lens];omega)) only [eqs,↓gvd_succ,↓gvd_zero,↓and_of,im_of,im_of trivial,vlt,hP,hst,initS,Nat.reduceBEq,Nat.reduceAdd,Nat.reduceMul,Nat.reduceSub,Nat.reduceDiv,Nat.reduceMod,Nat.reducePow,Nat.reduceLT,Nat.reduceLeDiff,Nat.reduceEqDiff,Int.reduceAdd,Int.reduceSub,Int.reduceNeg,Int.reduceMul,Int.reduceToNat,Int.reducePow,Int.reduceLE,Int.reduceLT,Int.reduceEq,Int.reduceNe,reduceIte,reduceCtorEq,ne_eq,not_true_eq_false,not_false_eq_true,imp_self,implies_true,bls,eq_self,h]
    exact hK _ .refl
end Go.Proofs.Pv
