/- The nat functions' walks, ninth part: long division. -/
import Derived.Test.YtmclabehpfpnnaaGreatDoorW8
set_option linter.unusedSimpArgs false
set_option linter.unusedVariables false
namespace Go.Proofs.Pv
open Go Go.RowKit Go.Proofs
set_option maxRecDepth 20000

theorem row_split {row : List Nat} (hl : ∀ z ∈ row, z < 4294967296) : u32s (limbs (val row)) ++ u32s (row.drop (limbs (val row)).length) = u32s row := by
  have e := List.take_append_drop (limbs (val row)).length row
  rw [limbs_cut hl] at e
  rw [u32s_app, e]

/-- Two new rows of numbers, somewhere among the new objects. -/
def fresh2' (st : St) (u v : Nat) (K : AV → St → Prop) : Prop := ∀ y i j rest rest2, i ≠ j → plain rest → plain rest2 → y[i]? = some (some (u32s (limbs u) ++ rest)) → y[j]? = some (some (u32s (limbs v) ++ rest2)) →
  K (.tup [.own (st.length + i) 0 (limbs u).length 1, .own (st.length + j) 0 (limbs v).length 1]) (st ++ y)
def fresh2 (st : St) (u v : Nat) (K : AV → St → Prop) : Prop := ∀ rest rest2, plain rest → plain rest2 →
  K (.tup [.own st.length 0 (limbs u).length 1, .own (st.length + 1) 0 (limbs v).length 1]) (st ++ [some (u32s (limbs u) ++ rest), some (u32s (limbs v) ++ rest2)])

def RDiv (F : St → Nat → Nat → (AV → St → Prop) → Prop) (xs : List AV) (st : St) (K : AV → St → Prop) : Prop := ∃ x y l m, xs = [x, y] ∧ Nm st x l ∧ Nm st y m ∧ l.length ≤ 5000 ∧ m.length ≤ 5000 ∧
  F st (val l / val m) (if val m = 0 then 0 else val l % val m) K

theorem s_Div0 : PSpec Tryz.prog 93 (RDiv fresh2') := by
  refine fspec_of (fn := Tryz.f93) 2 [.tmp 4, .tmp 5] (by kernel_rfl) rfl rfl (by kernel_rfl) mixed (by rintro _ _ _ ⟨x, y, l, m, rfl, _⟩; rfl) ?_
  rintro X _ st K hP hst ⟨x, y, l, m, rfl, hx, hy, hl, hm, hK⟩
  refine vc_V ?_
  simp (disch:=first|assumption|omega|(simp only [lens];omega)) only [eqs,↓gvd_succ,↓gvd_zero,↓and_of,im_of,im_of trivial,vlt,hP,hst,initS,Nat.reduceBEq,Nat.reduceAdd,Nat.reduceMul,Nat.reduceSub,Nat.reduceDiv,Nat.reduceMod,Nat.reducePow,Nat.reduceLT,Nat.reduceLeDiff,Nat.reduceEqDiff,Int.reduceAdd,Int.reduceSub,Int.reduceNeg,Int.reduceMul,Int.reduceToNat,Int.reducePow,Int.reduceLE,Int.reduceLT,Int.reduceEq,Int.reduceNe,reduceIte,reduceCtorEq,ne_eq,not_true_eq_false,not_false_eq_true,imp_self,implies_true,bls,eq_self]
  refine E_call (hP ▸ s_trim) ⟨y, m, rfl, hy, by omega, ?_⟩
  have hy2 := hy.trim
  have hml := limbs_len hy.lt
  have hvm := val_limbs (val m)
  generalize cutA y 0 (limbs (val m)).length 1 = y' at hy2 ⊢
  generalize hmm : limbs (val m) = m' at hy2 hml hvm
  have h1 := hy2.sl
  simp (disch:=first|assumption|omega|(simp only [lens];omega)) only [eqs,↓gvd_succ,↓gvd_zero,↓and_of,im_of,im_of trivial,vlt,hP,hst,initS,Nat.reduceBEq,Nat.reduceAdd,Nat.reduceMul,Nat.reduceSub,Nat.reduceDiv,Nat.reduceMod,Nat.reducePow,Nat.reduceLT,Nat.reduceLeDiff,Nat.reduceEqDiff,Int.reduceAdd,Int.reduceSub,Int.reduceNeg,Int.reduceMul,Int.reduceToNat,Int.reducePow,Int.reduceLE,Int.reduceLT,Int.reduceEq,Int.reduceNe,reduceIte,reduceCtorEq,ne_eq,not_true_eq_false,not_false_eq_true,imp_self,implies_true,bls,eq_self,h1]
  have hz : u32s (limbs 0) ++ [] = u32s (List.replicate 0 0) := by rw [limbs_zero]; rfl
  have hp0 : plain ([] : List AV) := by simp [plain]
  refine C_dec (fun h => ?_) (fun h => ?_)
  · simp (disch:=first|assumption|omega|(simp only [lens];omega)) only [eqs,↓gvd_succ,↓gvd_zero,↓and_of,im_of,im_of trivial,vlt,hP,hst,initS,Nat.reduceBEq,Nat.reduceAdd,Nat.reduceMul,Nat.reduceSub,Nat.reduceDiv,Nat.reduceMod,Nat.reducePow,Nat.reduceLT,Nat.reduceLeDiff,Nat.reduceEqDiff,Int.reduceAdd,Int.reduceSub,Int.reduceNeg,Int.reduceMul,Int.reduceToNat,Int.reducePow,Int.reduceLE,Int.reduceLT,Int.reduceEq,Int.reduceNe,reduceIte,reduceCtorEq,ne_eq,not_true_eq_false,not_false_eq_true,imp_self,implies_true,bls,eq_self]
    have hm0 : val m = 0 := by
      have : m' = [] := List.eq_nil_of_length_eq_zero (by omega)
      rw [← hvm, this]; rfl
    rw [if_pos hm0, hm0, Nat.div_zero] at hK
    have := hK [some (u32s (List.replicate 0 0)), some (u32s (List.replicate 0 0))] 0 1 [] [] (by simp) hp0 hp0 (by rw [hz]; rfl) (by rw [hz]; rfl)
    rw [limbs_zero] at this
    exact this
  have hm0 : val m ≠ 0 := by
    intro h0
    rw [h0, limbs_zero] at hmm
    subst hmm
    exact h rfl
  rw [if_neg hm0] at hK
  · simp (disch:=first|assumption|omega|(simp only [lens];omega)) only [eqs,↓gvd_succ,↓gvd_zero,↓and_of,im_of,im_of trivial,vlt,hP,hst,initS,Nat.reduceBEq,Nat.reduceAdd,Nat.reduceMul,Nat.reduceSub,Nat.reduceDiv,Nat.reduceMod,Nat.reducePow,Nat.reduceLT,Nat.reduceLeDiff,Nat.reduceEqDiff,Int.reduceAdd,Int.reduceSub,Int.reduceNeg,Int.reduceMul,Int.reduceToNat,Int.reducePow,Int.reduceLE,Int.reduceLT,Int.reduceEq,Int.reduceNe,reduceIte,reduceCtorEq,ne_eq,not_true_eq_false,not_false_eq_true,imp_self,implies_true,bls,eq_self]
    refine E_call (hP ▸ s_Cmp) ⟨x, y', l, m', rfl, hx, hy2, by omega, by omega, ?_⟩
    simp (disch:=first|assumption|omega|(simp only [lens];omega)) only [eqs,↓gvd_succ,↓gvd_zero,↓and_of,im_of,im_of trivial,vlt,hP,hst,initS,Nat.reduceBEq,Nat.reduceAdd,Nat.reduceMul,Nat.reduceSub,Nat.reduceDiv,Nat.reduceMod,Nat.reducePow,Nat.reduceLT,Nat.reduceLeDiff,Nat.reduceEqDiff,Int.reduceAdd,Int.reduceSub,Int.reduceNeg,Int.reduceMul,Int.reduceToNat,Int.reducePow,Int.reduceLE,Int.reduceLT,Int.reduceEq,Int.reduceNe,reduceIte,reduceCtorEq,ne_eq,not_true_eq_false,not_false_eq_true,imp_self,implies_true,bls,eq_self,cmpI_lt]
    refine C_dec (fun h2 => ?_) (fun h2 => ?_)
    · simp (disch:=first|assumption|omega|(simp only [lens];omega)) only [eqs,↓gvd_succ,↓gvd_zero,↓and_of,im_of,im_of trivial,vlt,hP,hst,initS,Nat.reduceBEq,Nat.reduceAdd,Nat.reduceMul,Nat.reduceSub,Nat.reduceDiv,Nat.reduceMod,Nat.reducePow,Nat.reduceLT,Nat.reduceLeDiff,Nat.reduceEqDiff,Int.reduceAdd,Int.reduceSub,Int.reduceNeg,Int.reduceMul,Int.reduceToNat,Int.reducePow,Int.reduceLE,Int.reduceLT,Int.reduceEq,Int.reduceNe,reduceIte,reduceCtorEq,ne_eq,not_true_eq_false,not_false_eq_true,imp_self,implies_true,bls,eq_self]
      refine E_call (hP ▸ s_Norm) ⟨x, l, rfl, hx.app _, by omega, ?_⟩
      intro rest hrest
      rw [Nat.div_eq_of_lt (by omega), Nat.mod_eq_of_lt (by omega)] at hK
      simp (disch:=first|assumption|omega|(simp only [lens];omega)) only [eqs,↓gvd_succ,↓gvd_zero,↓and_of,im_of,im_of trivial,vlt,hP,hst,initS,Nat.reduceBEq,Nat.reduceAdd,Nat.reduceMul,Nat.reduceSub,Nat.reduceDiv,Nat.reduceMod,Nat.reducePow,Nat.reduceLT,Nat.reduceLeDiff,Nat.reduceEqDiff,Int.reduceAdd,Int.reduceSub,Int.reduceNeg,Int.reduceMul,Int.reduceToNat,Int.reducePow,Int.reduceLE,Int.reduceLT,Int.reduceEq,Int.reduceNe,reduceIte,reduceCtorEq,ne_eq,not_true_eq_false,not_false_eq_true,imp_self,implies_true,bls,eq_self]
      have := hK [some (u32s (List.replicate 0 0)), some (u32s (limbs (val l)) ++ rest)] 0 1 [] rest (by simp) hp0 hrest (by rw [hz]; rfl) rfl
      rw [limbs_zero] at this
      exact this
    · simp (disch:=first|assumption|omega|(simp only [lens];omega)) only [eqs,↓gvd_succ,↓gvd_zero,↓and_of,im_of,im_of trivial,vlt,hP,hst,initS,Nat.reduceBEq,Nat.reduceAdd,Nat.reduceMul,Nat.reduceSub,Nat.reduceDiv,Nat.reduceMod,Nat.reducePow,Nat.reduceLT,Nat.reduceLeDiff,Nat.reduceEqDiff,Int.reduceAdd,Int.reduceSub,Int.reduceNeg,Int.reduceMul,Int.reduceToNat,Int.reducePow,Int.reduceLE,Int.reduceLT,Int.reduceEq,Int.reduceNe,reduceIte,reduceCtorEq,ne_eq,not_true_eq_false,not_false_eq_true,imp_self,implies_true,bls,eq_self,h1]
      refine C_dec (fun h3 => ?_) (fun h3 => ?_)
      · simp (disch:=first|assumption|omega|(simp only [lens];omega)) only [eqs,↓gvd_succ,↓gvd_zero,↓and_of,im_of,im_of trivial,vlt,hP,hst,initS,Nat.reduceBEq,Nat.reduceAdd,Nat.reduceMul,Nat.reduceSub,Nat.reduceDiv,Nat.reduceMod,Nat.reducePow,Nat.reduceLT,Nat.reduceLeDiff,Nat.reduceEqDiff,Int.reduceAdd,Int.reduceSub,Int.reduceNeg,Int.reduceMul,Int.reduceToNat,Int.reducePow,Int.reduceLE,Int.reduceLT,Int.reduceEq,Int.reduceNe,reduceIte,reduceCtorEq,ne_eq,not_true_eq_false,not_false_eq_true,imp_self,implies_true,bls,eq_self,h1]
        have hd : m' = [m'.getD 0 0] := by
          match m', h3 with
          | [a], _ => rfl
          | [], h3 => simp at h3
          | _ :: _ :: _, h3 => simp at h3; omega
        have hvd : val m = m'.getD 0 0 := by rw [← hvm]; conv => lhs; rw [hd]
                                             simp [val]
        have hdl := getD_lt hy2.lt 0
        refine E_call (hP ▸ s_DivSmall) ⟨x, l, m'.getD 0 0, rfl, hx, by omega, hdl, ?_⟩
        intro rest hrest
        rw [← hvd, if_neg hm0]
        have hrl : val l % val m < 4294967296 := by have := Nat.mod_lt (val l) (show 0 < val m by omega); omega
        obtain ⟨r, hr⟩ : ∃ r, val l % val m = r := ⟨_, rfl⟩
        rw [hr] at hrl hK ⊢
        simp (disch:=first|assumption|omega|(simp only [lens];omega)) only [eqs,↓gvd_succ,↓gvd_zero,↓and_of,im_of,im_of trivial,vlt,hP,hst,initS,Nat.reduceBEq,Nat.reduceAdd,Nat.reduceMul,Nat.reduceSub,Nat.reduceDiv,Nat.reduceMod,Nat.reducePow,Nat.reduceLT,Nat.reduceLeDiff,Nat.reduceEqDiff,Int.reduceAdd,Int.reduceSub,Int.reduceNeg,Int.reduceMul,Int.reduceToNat,Int.reducePow,Int.reduceLE,Int.reduceLT,Int.reduceEq,Int.reduceNe,reduceIte,reduceCtorEq,ne_eq,not_true_eq_false,not_false_eq_true,imp_self,implies_true,bls,eq_self]
        have hs : ∀ z ∈ [r], z < 4294967296 := by simpa using hrl
        have hv1 : val [r] = r := by simp [val]
        refine E_call (hP ▸ s_trim) ⟨_, [r], rfl, Nm.own (rest := []) (by rw [get_app]; rfl) hs, by simp, ?_⟩
        simp (disch:=first|assumption|omega|(simp only [lens];omega)) only [eqs,↓gvd_succ,↓gvd_zero,↓and_of,im_of,im_of trivial,vlt,hP,hst,initS,Nat.reduceBEq,Nat.reduceAdd,Nat.reduceMul,Nat.reduceSub,Nat.reduceDiv,Nat.reduceMod,Nat.reducePow,Nat.reduceLT,Nat.reduceLeDiff,Nat.reduceEqDiff,Int.reduceAdd,Int.reduceSub,Int.reduceNeg,Int.reduceMul,Int.reduceToNat,Int.reducePow,Int.reduceLE,Int.reduceLT,Int.reduceEq,Int.reduceNe,reduceIte,reduceCtorEq,ne_eq,not_true_eq_false,not_false_eq_true,imp_self,implies_true,bls,eq_self]
        have hsp := row_split hs
        rw [hv1] at hsp ⊢
        exact hK [some (u32s (limbs (val l / val m)) ++ rest), some (u32s [r])] 0 1 rest (u32s ([r].drop (limbs r).length)) (by simp) hrest u32s_plain rfl (by rw [hsp]; rfl)
      · simp (disch:=first|assumption|omega|(simp only [lens];omega)) only [eqs,↓gvd_succ,↓gvd_zero,↓and_of,im_of,im_of trivial,vlt,hP,hst,initS,Nat.reduceBEq,Nat.reduceAdd,Nat.reduceMul,Nat.reduceSub,Nat.reduceDiv,Nat.reduceMod,Nat.reducePow,Nat.reduceLT,Nat.reduceLeDiff,Nat.reduceEqDiff,Int.reduceAdd,Int.reduceSub,Int.reduceNeg,Int.reduceMul,Int.reduceToNat,Int.reducePow,Int.reduceLE,Int.reduceLT,Int.reduceEq,Int.reduceNe,reduceIte,reduceCtorEq,ne_eq,not_true_eq_false,not_false_eq_true,imp_self,implies_true,bls,eq_self,h1]
        have hn2 : 2 ≤ m'.length := by omega
        have htl := getD_lt hy2.lt (m'.length - 1)
        refine E_call (hP ▸ s_Lead32) ⟨_, rfl, htl, ?_⟩
        obtain ⟨b, hb⟩ : ∃ b, 32 - blen (m'.getD (m'.length - 1) 0) = b := ⟨_, rfl⟩
        rw [hb]
        have hbl := blen_limbs (val m)
        rw [hmm, if_neg (by omega)] at hbl
        have hb32 := blen_le (k := 32) htl
        have hb31 : b ≤ 31 := by
          have : m'.getD (m'.length - 1) 0 ≠ 0 := by
            intro h0
            rw [h0, blen_zero] at hbl
            have h5 := blen_lt (val m)
            rw [hbl] at h5
            have h6 : val m < 4294967296 ^ (m'.length - 1) := by
              rw [show (4294967296 : Nat) = 2 ^ 32 from rfl, ← Nat.pow_mul]; exact h5
            have := limbs_len_le h6
            rw [hmm] at this
            omega
          have := blen_pos this
          omega
        simp (disch:=first|assumption|omega|(simp only [lens];omega)) only [eqs,↓gvd_succ,↓gvd_zero,↓and_of,im_of,im_of trivial,vlt,hP,hst,initS,Nat.reduceBEq,Nat.reduceAdd,Nat.reduceMul,Nat.reduceSub,Nat.reduceDiv,Nat.reduceMod,Nat.reducePow,Nat.reduceLT,Nat.reduceLeDiff,Nat.reduceEqDiff,Int.reduceAdd,Int.reduceSub,Int.reduceNeg,Int.reduceMul,Int.reduceToNat,Int.reducePow,Int.reduceLE,Int.reduceLT,Int.reduceEq,Int.reduceNe,reduceIte,reduceCtorEq,ne_eq,not_true_eq_false,not_false_eq_true,imp_self,implies_true,bls,eq_self]
        refine E_call (hP ▸ s_Shift) ⟨y', m', b, rfl, hy2, by omega, by omega, by omega, ?_⟩
        have hsh : shiftV (val m') b = val m * 2 ^ b := by
          unfold shiftV
          rw [if_neg (by omega), hvm, show (min (b : Int) 4096).toNat = b by omega]
        rw [hsh]
        intro rest hrest
        simp (disch:=first|assumption|omega|(simp only [lens];omega)) only [eqs,↓gvd_succ,↓gvd_zero,↓and_of,im_of,im_of trivial,vlt,hP,hst,initS,Nat.reduceBEq,Nat.reduceAdd,Nat.reduceMul,Nat.reduceSub,Nat.reduceDiv,Nat.reduceMod,Nat.reducePow,Nat.reduceLT,Nat.reduceLeDiff,Nat.reduceEqDiff,Int.reduceAdd,Int.reduceSub,Int.reduceNeg,Int.reduceMul,Int.reduceToNat,Int.reducePow,Int.reduceLE,Int.reduceLT,Int.reduceEq,Int.reduceNe,reduceIte,reduceCtorEq,ne_eq,not_true_eq_false,not_false_eq_true,imp_self,implies_true,bls,eq_self]
        refine E_call (hP ▸ s_trim) ⟨x, l, rfl, hx.app _, by omega, ?_⟩
        have hx2 := hx.trim
        have hxl := limbs_len hx.lt
        have hxv := val_limbs (val l)
        generalize cutA x 0 (limbs (val l)).length 1 = x' at hx2 ⊢
        generalize hll : limbs (val l) = l' at hx2 hxl hxv
        simp (disch:=first|assumption|omega|(simp only [lens];omega)) only [eqs,↓gvd_succ,↓gvd_zero,↓and_of,im_of,im_of trivial,vlt,hP,hst,initS,Nat.reduceBEq,Nat.reduceAdd,Nat.reduceMul,Nat.reduceSub,Nat.reduceDiv,Nat.reduceMod,Nat.reducePow,Nat.reduceLT,Nat.reduceLeDiff,Nat.reduceEqDiff,Int.reduceAdd,Int.reduceSub,Int.reduceNeg,Int.reduceMul,Int.reduceToNat,Int.reducePow,Int.reduceLE,Int.reduceLT,Int.reduceEq,Int.reduceNe,reduceIte,reduceCtorEq,ne_eq,not_true_eq_false,not_false_eq_true,imp_self,implies_true,bls,eq_self]
        refine E_call (hP ▸ s_Shift) ⟨x', l', b, rfl, hx2.app _, by omega, by omega, by omega, ?_⟩
        have hsh2 : shiftV (val l') b = val l * 2 ^ b := by
          unfold shiftV
          rw [if_neg (by omega), hxv, show (min (b : Int) 4096).toNat = b by omega]
        rw [hsh2]
        intro rest2 hrest2
        have hv0l : (limbs (val m * 2 ^ b)).length = m'.length ∧ 2147483648 ≤ (limbs (val m * 2 ^ b)).getD ((limbs (val m * 2 ^ b)).length - 1) 0 := by
          have h5 := blen_limbs (val m * 2 ^ b)
          have h6 := blen_shift (n := val m * 2 ^ b) (k := b) (Nat.le_mul_of_pos_left _ (by omega))
          rw [Nat.mul_div_cancel _ (Nat.two_pow_pos b), hbl] at h6
          have h7 : (limbs (val m * 2 ^ b)).length ≠ 0 := by
            intro h8
            rw [if_pos h8] at h5
            omega
          rw [if_neg h7] at h5
          have h8 := blen_le (k := 32) (getD_lt (limbs_lt (val m * 2 ^ b)) ((limbs (val m * 2 ^ b)).length - 1))
          have h9 := limbs_top (n := val m * 2 ^ b) (by have := Nat.mul_pos (show 0 < val m by omega) (Nat.two_pow_pos b); omega)
          have h10 := blen_pos h9
          have h11 : blen ((limbs (val m * 2 ^ b)).getD ((limbs (val m * 2 ^ b)).length - 1) 0) = 32 := by omega
          have h12 := blen_ge h9
          rw [h11] at h12
          exact ⟨by omega, h12⟩
        have hu0l : (limbs (val l * 2 ^ b)).length ≤ 6000 := by
          refine Nat.le_trans (limbs_len_le (k := l.length + 1) ?_) (by omega)
          have h5 := val_lt hx.lt
          have h6 : 2 ^ b < 4294967296 := Nat.pow_lt_pow_right (a := 2) (n := 32) (by omega) (by omega)
          rw [Nat.pow_succ]
          exact Nat.mul_lt_mul'' h5 h6
        have huv : (limbs (val m * 2 ^ b)).length ≤ (limbs (val l * 2 ^ b)).length := limbs_len_mono (Nat.mul_le_mul_right _ (by omega))
        have hul := limbs_lt (val l * 2 ^ b)
        have hvl := limbs_lt (val m * 2 ^ b)
        have hu0 := val_limbs (val l * 2 ^ b)
        have hv0 := val_limbs (val m * 2 ^ b)
        generalize limbs (val m * 2 ^ b) = v0 at *
        generalize limbs (val l * 2 ^ b) = u0 at *
        obtain ⟨k, hk⟩ : ∃ k, u0.length + 1 = v0.length + k := ⟨u0.length + 1 - v0.length, by omega⟩
        have hk2 : (u0.length : Int) + 1 - (v0.length : Int) = (k : Int) := by omega
        have hneg : ¬((0 : Int) > (k : Int)) := by omega
        have hV0 : 0 < val v0 := by rw [hv0]; exact Nat.mul_pos (by omega) (Nat.two_pow_pos b)
        have hVB := val_lt hvl
        simp (disch:=first|assumption|omega|(simp only [lens];omega)) only [eqs,↓gvd_succ,↓gvd_zero,↓and_of,im_of,im_of trivial,vlt,hP,hst,initS,Nat.reduceBEq,Nat.reduceAdd,Nat.reduceMul,Nat.reduceSub,Nat.reduceDiv,Nat.reduceMod,Nat.reducePow,Nat.reduceLT,Nat.reduceLeDiff,Nat.reduceEqDiff,Int.reduceAdd,Int.reduceSub,Int.reduceNeg,Int.reduceMul,Int.reduceToNat,Int.reducePow,Int.reduceLE,Int.reduceLT,Int.reduceEq,Int.reduceNe,reduceIte,reduceCtorEq,ne_eq,not_true_eq_false,not_false_eq_true,imp_self,implies_true,bls,eq_self,hk2,hneg]
        refine V_loop (ι := Nat × List Nat × List Nat) (fun d => [(13, .val (.int .i64 ((d.1 : Int) - 1))), (12, .own (st.length + 4) 0 k 1), (11, .val (.int .i64 (v0.length : Int))), (10, .own (st.length + 3) 0 (u0.length + 1) 1), (9, .own st.length 0 v0.length 1), (8, .val (.int .i64 (b : Int)))])
          (fun d => st ++ [some (u32s v0 ++ rest), none, some (AV.val (Value.int IntKind.u32 0) :: u32s (List.drop 1 (List.replicate 1 0))), some (u32s d.2.1), some (u32s d.2.2)])
          (fun d => d.1 ≤ k ∧ d.2.1.length = u0.length + 1 ∧ d.2.2.length = k ∧ (∀ z ∈ d.2.1, z < 4294967296) ∧ (∀ z ∈ d.2.2, z < 4294967296) ∧ val u0 = val (d.2.2.drop d.1) * 4294967296 ^ d.1 * val v0 + val d.2.1 ∧ val d.2.1 < 4294967296 ^ d.1 * val v0) (fun d => d.1)
          (k, u0 ++ [0], List.replicate k 0) ⟨by simp, by simp, by simp, ?_, rep_lt (by simp), ?_, ?_⟩ (by simp [u32s]) (by simp (disch:=first|assumption|omega|(simp only [lens];omega)) only [eqs,↓gvd_succ,↓gvd_zero,↓and_of,im_of,im_of trivial,vlt,hP,hst,initS,Nat.reduceBEq,Nat.reduceAdd,Nat.reduceMul,Nat.reduceSub,Nat.reduceDiv,Nat.reduceMod,Nat.reducePow,Nat.reduceLT,Nat.reduceLeDiff,Nat.reduceEqDiff,Int.reduceAdd,Int.reduceSub,Int.reduceNeg,Int.reduceMul,Int.reduceToNat,Int.reducePow,Int.reduceLE,Int.reduceLT,Int.reduceEq,Int.reduceNe,reduceIte,reduceCtorEq,ne_eq,not_true_eq_false,not_false_eq_true,imp_self,implies_true,bls,eq_self] <;> rfl) ?_
        · intro z hz
          rcases List.mem_append.1 hz with h5 | h5
          · exact hul z h5
          · have : z = 0 := by simpa using h5
            omega
        · simp [val, val_append]
        · dsimp only
          rw [val_append]
          have h5 := val_lt hul
          have h6 := val_take_succ v0 (v0.length - 1)
          rw [List.take_of_length_le (by omega)] at h6
          have h7 := Nat.mul_le_mul_left (4294967296 ^ (v0.length - 1)) (show 1 ≤ v0.getD (v0.length - 1) 0 by omega)
          have h8 := Nat.mul_le_mul_left (4294967296 ^ k) (show 4294967296 ^ (v0.length - 1) ≤ val v0 by omega)
          rw [← Nat.pow_add, show k + (v0.length - 1) = u0.length by omega] at h8
          simp [val]
          omega
        rintro ⟨j, uu, qq⟩ ⟨hj, hul2, hql, huu, hqq, hinv, hlt⟩
        dsimp only at hj hul2 hql huu hqq hinv hlt ⊢
        simp (disch:=first|assumption|omega|(simp only [lens];omega)) only [eqs,↓gvd_succ,↓gvd_zero,↓and_of,im_of,im_of trivial,vlt,hP,hst,initS,Nat.reduceBEq,Nat.reduceAdd,Nat.reduceMul,Nat.reduceSub,Nat.reduceDiv,Nat.reduceMod,Nat.reducePow,Nat.reduceLT,Nat.reduceLeDiff,Nat.reduceEqDiff,Int.reduceAdd,Int.reduceSub,Int.reduceNeg,Int.reduceMul,Int.reduceToNat,Int.reducePow,Int.reduceLE,Int.reduceLT,Int.reduceEq,Int.reduceNe,reduceIte,reduceCtorEq,ne_eq,not_true_eq_false,not_false_eq_true,imp_self,implies_true,bls,eq_self]
        refine C_dec (fun h5 => ?_) (fun h5 => ?_)
        · have hjp : 0 < j := by omega
          simp (disch:=first|assumption|omega|(simp only [lens];omega)) only [eqs,↓gvd_succ,↓gvd_zero,↓and_of,im_of,im_of trivial,vlt,hP,hst,initS,Nat.reduceBEq,Nat.reduceAdd,Nat.reduceMul,Nat.reduceSub,Nat.reduceDiv,Nat.reduceMod,Nat.reducePow,Nat.reduceLT,Nat.reduceLeDiff,Nat.reduceEqDiff,Int.reduceAdd,Int.reduceSub,Int.reduceNeg,Int.reduceMul,Int.reduceToNat,Int.reducePow,Int.reduceLE,Int.reduceLT,Int.reduceEq,Int.reduceNe,reduceIte,reduceCtorEq,ne_eq,not_true_eq_false,not_false_eq_true,imp_self,implies_true,bls,eq_self]
          rw [show j - 1 + v0.length + 1 - (j - 1) = v0.length + 1 by omega]
          have hcut : uu.take (j - 1) ++ ((uu.drop (j - 1)).take (v0.length + 1) ++ uu.drop (j + v0.length)) = uu := by
            have e1 := List.take_append_drop (j - 1) uu
            have e2 := List.take_append_drop (v0.length + 1) (uu.drop (j - 1))
            rw [List.drop_drop, show j - 1 + (v0.length + 1) = j + v0.length by omega] at e2
            rw [e2, e1]
          have hpre : (uu.take (j - 1)).length = j - 1 := by rw [List.length_take]; omega
          have hwl : ((uu.drop (j - 1)).take (v0.length + 1)).length = v0.length + 1 := by rw [List.length_take, List.length_drop]; omega
          have hprel : ∀ z ∈ uu.take (j - 1), z < 4294967296 := fun z hz => huu z (List.mem_of_mem_take hz)
          have hwlt : ∀ z ∈ (uu.drop (j - 1)).take (v0.length + 1), z < 4294967296 := fun z hz => huu z (List.mem_of_mem_drop (List.mem_of_mem_take hz))
          have hpostl : ∀ z ∈ uu.drop (j + v0.length), z < 4294967296 := fun z hz => huu z (List.mem_of_mem_drop hz)
          generalize uu.take (j - 1) = pre at *
          generalize (uu.drop (j - 1)).take (v0.length + 1) = w at *
          generalize uu.drop (j + v0.length) = post at *
          subst hcut
          have hround := fun w' (h1 : w'.length = v0.length + 1) (h2 : val w' = val w % val v0) => div_round (w' := w') (U0 := val u0) (Q := val (qq.drop j)) hjp hpre hwl h1 hprel hVB hV0 hlt rfl h2 hinv
          have hwV : val w < 4294967296 * val v0 := by
            -- any row of the right length and number will do
            exact div_first hjp hpre hwl hVB hV0 hlt
          have hwin3 : ∀ w', win (st ++ [some (u32s v0 ++ rest), none, some (AV.val (Value.int IntKind.u32 0) :: u32s (List.drop 1 (List.replicate 1 0))), some (u32s (pre ++ (w ++ post))), some (u32s qq)]) (st.length + 3) pre w' post = st ++ [some (u32s v0 ++ rest), none, some (AV.val (Value.int IntKind.u32 0) :: u32s (List.drop 1 (List.replicate 1 0))), some (u32s (pre ++ (w' ++ post))), some (u32s qq)] := by
            intro w'; unfold win; rw [set_app]; rfl
          refine E_callW (s_digit hP) ⟨st.length + 3, pre, w, post, _, v0, by rw [hpre, hwl]; rfl, by rw [hst]; omega, by simp, hwin3 w, by omega, by omega, by simp at hul2; omega, hwlt, hvl, fun w' => ?_, by omega, hv0l.2, hwV, ?_⟩
          · rw [hwin3]
            exact (Nm.own (rest := rest) (by rw [get_app0]; rfl) hvl).sl
          · intro w' hw'l hw'lt hw'v
            obtain ⟨_, hr1, hr2⟩ := hround w' (by omega) hw'v
            have hqlt : val w / val v0 < 4294967296 := by rw [Nat.div_lt_iff_lt_mul hV0]; exact hwV
            rw [hwin3]
            obtain ⟨q, hq⟩ : ∃ q, val w / val v0 = q := ⟨_, rfl⟩
            rw [hq] at hr1 hqlt ⊢
            simp (disch:=first|assumption|omega|(simp only [lens];omega)) only [eqs,↓gvd_succ,↓gvd_zero,↓and_of,im_of,im_of trivial,vlt,hP,hst,initS,Nat.reduceBEq,Nat.reduceAdd,Nat.reduceMul,Nat.reduceSub,Nat.reduceDiv,Nat.reduceMod,Nat.reducePow,Nat.reduceLT,Nat.reduceLeDiff,Nat.reduceEqDiff,Int.reduceAdd,Int.reduceSub,Int.reduceNeg,Int.reduceMul,Int.reduceToNat,Int.reducePow,Int.reduceLE,Int.reduceLT,Int.reduceEq,Int.reduceNe,reduceIte,reduceCtorEq,ne_eq,not_true_eq_false,not_false_eq_true,imp_self,implies_true,bls,eq_self]
            refine again (j - 1, pre ++ (w' ++ post), qq.set (j - 1) q) ⟨by dsimp only; omega, ?_, by simp [hql], ?_, set_lt hqq hqlt, ?_, hr2⟩ (show j - 1 < j by omega) rfl (by
              rw [show ((j - 1 : Nat) : Int) = (j : Int) - 1 by omega]
              simp (disch:=first|assumption|omega|(simp only [lens];omega)) only [eqs,↓gvd_succ,↓gvd_zero,↓and_of,im_of,im_of trivial,vlt,hP,hst,initS,Nat.reduceBEq,Nat.reduceAdd,Nat.reduceMul,Nat.reduceSub,Nat.reduceDiv,Nat.reduceMod,Nat.reducePow,Nat.reduceLT,Nat.reduceLeDiff,Nat.reduceEqDiff,Int.reduceAdd,Int.reduceSub,Int.reduceNeg,Int.reduceMul,Int.reduceToNat,Int.reducePow,Int.reduceLE,Int.reduceLT,Int.reduceEq,Int.reduceNe,reduceIte,reduceCtorEq,ne_eq,not_true_eq_false,not_false_eq_true,imp_self,implies_true,bls,eq_self] <;> rfl)
            · simp at hul2 ⊢; omega
            · intro z hz
              rcases List.mem_append.1 hz with h6 | h6
              · exact hprel z h6
              · rcases List.mem_append.1 h6 with h7 | h7
                · exact hw'lt z h7
                · exact hpostl z h7
            · dsimp only
              rw [val_drop_set hjp (by omega)]
              exact hr1
        · simp (disch:=first|assumption|omega|(simp only [lens];omega)) only [eqs,↓gvd_succ,↓gvd_zero,↓and_of,im_of,im_of trivial,vlt,hP,hst,initS,Nat.reduceBEq,Nat.reduceAdd,Nat.reduceMul,Nat.reduceSub,Nat.reduceDiv,Nat.reduceMod,Nat.reducePow,Nat.reduceLT,Nat.reduceLeDiff,Nat.reduceEqDiff,Int.reduceAdd,Int.reduceSub,Int.reduceNeg,Int.reduceMul,Int.reduceToNat,Int.reducePow,Int.reduceLE,Int.reduceLT,Int.reduceEq,Int.reduceNe,reduceIte,reduceCtorEq,ne_eq,not_true_eq_false,not_false_eq_true,imp_self,implies_true,bls,eq_self]
          refine V_draw [0, 2, 3, 4, 6, 1, 5, 7, 8, 9] (by kernel_rfl) (.cons rfl <| .cons rfl <| .cons rfl <| .cons rfl <| .cons rfl <| .cons rfl <| .cons rfl <| .cons rfl <| .cons rfl <| .cons rfl <| .nil) ?_
          simp (disch:=first|assumption|omega|(simp only [lens];omega)) only [eqs,↓gvd_succ,↓gvd_zero,↓and_of,im_of,im_of trivial,vlt,hP,hst,initS,Nat.reduceBEq,Nat.reduceAdd,Nat.reduceMul,Nat.reduceSub,Nat.reduceDiv,Nat.reduceMod,Nat.reducePow,Nat.reduceLT,Nat.reduceLeDiff,Nat.reduceEqDiff,Int.reduceAdd,Int.reduceSub,Int.reduceNeg,Int.reduceMul,Int.reduceToNat,Int.reducePow,Int.reduceLE,Int.reduceLT,Int.reduceEq,Int.reduceNe,reduceIte,reduceCtorEq,ne_eq,not_true_eq_false,not_false_eq_true,imp_self,implies_true,bls,eq_self]
          have hj0 : j = 0 := by omega
          subst hj0
          rw [List.drop_zero, Nat.pow_zero, Nat.mul_one, hu0, hv0] at hinv
          rw [Nat.pow_zero, Nat.one_mul] at hlt
          have hp2 := Nat.two_pow_pos b
          have hq1 : val qq = val l / val m := by
            rw [← Nat.mul_div_mul_right (val l) (val m) hp2, hinv, Nat.mul_comm, Nat.mul_add_div (by rw [← hv0]; exact hV0), Nat.div_eq_of_lt (by rw [← hv0]; exact hlt), Nat.add_zero]
          have hr1 : val uu = val l % val m * 2 ^ b := by
            rw [← Nat.mul_mod_mul_right, hinv, Nat.mul_comm, Nat.mul_add_mod, Nat.mod_eq_of_lt (by rw [← hv0]; exact hlt)]
          have hut : val (uu.take v0.length) = val uu := by
            have h6 := val_append (uu.take v0.length) (uu.drop v0.length)
            rw [List.take_append_drop, List.length_take, Nat.min_eq_left (by omega)] at h6
            rcases Nat.eq_zero_or_pos (val (uu.drop v0.length)) with h7 | h7
            · rw [h6, h7]; simp
            · have := Nat.mul_le_mul_left (4294967296 ^ v0.length) h7
              omega
          have hutl : ∀ z ∈ uu.take v0.length, z < 4294967296 := fun z hz => huu z (List.mem_of_mem_take hz)
          have hutn : (uu.take v0.length).length = v0.length := by rw [List.length_take]; omega
          have hNq : Nm (st ++ [some (u32s v0 ++ rest), none, some (AV.val (Value.int IntKind.u32 0) :: u32s (List.drop 1 (List.replicate 1 0))), some (u32s uu), some (u32s qq)]) (.own (st.length + 4) 0 k 1) qq := by
            have := Nm.own (st := st ++ [some (u32s v0 ++ rest), none, some (AV.val (Value.int IntKind.u32 0) :: u32s (List.drop 1 (List.replicate 1 0))), some (u32s uu), some (u32s qq)]) (r := st.length + 4) (l := qq) (rest := []) (by rw [get_app, List.append_nil]; rfl) hqq
            rwa [hql] at this
          have hNu : Nm (st ++ [some (u32s v0 ++ rest), none, some (AV.val (Value.int IntKind.u32 0) :: u32s (List.drop 1 (List.replicate 1 0))), some (u32s uu), some (u32s qq)]) (.own (st.length + 3) 0 v0.length 1) (uu.take v0.length) := by
            have := Nm.own (st := st ++ [some (u32s v0 ++ rest), none, some (AV.val (Value.int IntKind.u32 0) :: u32s (List.drop 1 (List.replicate 1 0))), some (u32s uu), some (u32s qq)]) (r := st.length + 3) (l := uu.take v0.length) (rest := u32s (uu.drop v0.length)) (by rw [get_app, u32s_app, List.take_append_drop]; rfl) hutl
            rwa [hutn] at this
          refine E_call (hP ▸ s_trim) ⟨_, _, rfl, hNq, by omega, ?_⟩
          simp (disch:=first|assumption|omega|(simp only [lens];omega)) only [eqs,↓gvd_succ,↓gvd_zero,↓and_of,im_of,im_of trivial,vlt,hP,hst,initS,Nat.reduceBEq,Nat.reduceAdd,Nat.reduceMul,Nat.reduceSub,Nat.reduceDiv,Nat.reduceMod,Nat.reducePow,Nat.reduceLT,Nat.reduceLeDiff,Nat.reduceEqDiff,Int.reduceAdd,Int.reduceSub,Int.reduceNeg,Int.reduceMul,Int.reduceToNat,Int.reducePow,Int.reduceLE,Int.reduceLT,Int.reduceEq,Int.reduceNe,reduceIte,reduceCtorEq,ne_eq,not_true_eq_false,not_false_eq_true,imp_self,implies_true,bls,eq_self]
          refine E_call (hP ▸ s_trim) ⟨_, _, rfl, hNu, by omega, ?_⟩
          have hNt := hNu.trim
          rw [hut, hr1] at hNt ⊢
          simp (disch:=first|assumption|omega|(simp only [lens];omega)) only [eqs,↓gvd_succ,↓gvd_zero,↓and_of,im_of,im_of trivial,vlt,hP,hst,initS,Nat.reduceBEq,Nat.reduceAdd,Nat.reduceMul,Nat.reduceSub,Nat.reduceDiv,Nat.reduceMod,Nat.reducePow,Nat.reduceLT,Nat.reduceLeDiff,Nat.reduceEqDiff,Int.reduceAdd,Int.reduceSub,Int.reduceNeg,Int.reduceMul,Int.reduceToNat,Int.reducePow,Int.reduceLE,Int.reduceLT,Int.reduceEq,Int.reduceNe,reduceIte,reduceCtorEq,ne_eq,not_true_eq_false,not_false_eq_true,imp_self,implies_true,bls,eq_self]
          refine E_call (hP ▸ s_down) ⟨_, _, b, rfl, by simpa [cutA] using hNt, ?_, by omega, ?_⟩
          · have := limbs_len hutl
            rw [hut, hr1] at this
            omega
          rw [val_limbs, Nat.mul_div_cancel _ hp2]
          intro rest3 hrest3
          simp (disch:=first|assumption|omega|(simp only [lens];omega)) only [eqs,↓gvd_succ,↓gvd_zero,↓and_of,im_of,im_of trivial,vlt,hP,hst,initS,Nat.reduceBEq,Nat.reduceAdd,Nat.reduceMul,Nat.reduceSub,Nat.reduceDiv,Nat.reduceMod,Nat.reducePow,Nat.reduceLT,Nat.reduceLeDiff,Nat.reduceEqDiff,Int.reduceAdd,Int.reduceSub,Int.reduceNeg,Int.reduceMul,Int.reduceToNat,Int.reducePow,Int.reduceLE,Int.reduceLT,Int.reduceEq,Int.reduceNe,reduceIte,reduceCtorEq,ne_eq,not_true_eq_false,not_false_eq_true,imp_self,implies_true,bls,eq_self]
          have hsp := row_split hqq
          rw [hq1] at hsp ⊢
          exact hK _ 4 5 (u32s (qq.drop (limbs (val l / val m)).length)) rest3 (by simp) u32s_plain hrest3 (by rw [hsp]; rfl) rfl

theorem s_Div : PSpec Tryz.prog 93 (RDiv fresh2) := by
  refine tidy s_Div0 ?_
  rintro xs st K ⟨x, y, l, m, rfl, hx, hy, hl, hm, hK⟩
  refine ⟨x, y, l, m, rfl, hx, hy, hl, hm, fun g i j rest rest2 hij hr hr2 h1 h2 => ?_⟩
  refine ⟨[i, j], g, [u32s (limbs (val l / val m)) ++ rest, u32s (limbs (if val m = 0 then 0 else val l % val m)) ++ rest2], _, rfl, by simp [hij], by simp [h1, h2], ?_, .tup (.cons (.new (i := 0) rfl) (.cons (.new (i := 1) rfl) .nil)), hK rest rest2 hr hr2⟩
  intro z hz
  rcases List.mem_cons.1 hz with rfl | hz
  · intro c hc
    rcases List.mem_append.1 hc with h | h
    · exact u32s_plain c h
    · exact hr c h
  · obtain rfl : z = _ := by simpa using hz
    intro c hc
    rcases List.mem_append.1 hc with h | h
    · exact u32s_plain c h
    · exact hr2 c h
end Go.Proofs.Pv
