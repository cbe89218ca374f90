/- The document's answer's walks, fourth part. -/
import Derived.Test.YtmclabehpfpnnaaDoorE16
import Derived.Test.YtmclabehpfpnnaaDoorM7
set_option linter.unusedSimpArgs false
set_option linter.unusedVariables false
namespace Go.Proofs.Pv
open Go Go.RowKit Go.Proofs
set_option maxRecDepth 20000

theorem Got.zero {st st' : St} (e : Ext st st') : Got st (st' ++ [some []]) (.own st'.length 0 0 1) 0 := by
  have := Got.last (v := 0) e (l := []) (rest := []) (by simp [plain]) (by rw [limbs_zero])
  simpa [u32s] using this

def RrSub (F : St → Nat → (AV → St → Prop) → Prop) (xs : List AV) (st : St) (K : AV → St → Prop) : Prop := ∃ x y l m, xs = [x, y] ∧ Nm st x l ∧ Nm st y m ∧ l.length ≤ 100000 ∧ m.length ≤ 100000 ∧ F st (val l - val m) K
end Go.Proofs.Pv

/- The document's answer's walks, fifth part. -/
namespace Go.Proofs.Pv
open Go Go.RowKit Go.Proofs
set_option maxRecDepth 20000

theorem carry_step {row : List Nat} {T c k : Nat} (hk : k < row.length) (h : val row + c * 4294967296 ^ k = T) :
    val (row.set k ((row.getD k 0 + c) % 4294967296)) + (row.getD k 0 + c) / 4294967296 * 4294967296 ^ (k + 1) = T := by
  have e1 := val_set (v := (row.getD k 0 + c) % 4294967296) hk
  have e2 := congrArg (4294967296 ^ k * ·) (Nat.div_add_mod (row.getD k 0 + c) 4294967296)
  simp only [Nat.mul_add] at e2
  rw [Nat.pow_succ, Nat.mul_comm (_ / _) _]
  rw [← Nat.mul_assoc] at e2
  rw [Nat.mul_comm c] at h
  omega

def RrMul (F : St → Nat → (AV → St → Prop) → Prop) (xs : List AV) (st : St) (K : AV → St → Prop) : Prop := ∃ x y l m, xs = [x, y] ∧ Nm st x l ∧ Nm st y m ∧ l.length ≤ 100000 ∧ m.length ≤ 100000 ∧ F st (val l * val m) K
theorem s_rMul : PSpec Tryd.prog 105 (RrMul got) := by
  refine fspec_of (fn := Tryd.f105) 2 [.tmp 4] (by kernel_rfl) rfl rfl (by kernel_rfl) mixed (by rintro _ _ _ ⟨x, y, l, m, rfl, _⟩; rfl) ?_
  rintro X _ st K hP hst ⟨x, y, l, m, rfl, hx, hy, hl, hm, hK⟩
  refine vc_V ?_
  have h1 := hx.sl
  have h2 := hy.sl
  have h3 := hx.grow
  have h4 := hy.grow
  simp (disch:=first|assumption|omega|(simp only [lens];omega)) only [eqs,↓gvd_succ,↓gvd_zero,↓and_of,im_of,im_of trivial,vlt,hP,hst,initS,Nat.reduceBEq,Nat.reduceAdd,Nat.reduceMul,Nat.reduceSub,Nat.reduceDiv,Nat.reduceMod,Nat.reducePow,Nat.reduceLT,Nat.reduceLeDiff,Nat.reduceEqDiff,Int.reduceAdd,Int.reduceSub,Int.reduceNeg,Int.reduceMul,Int.reduceToNat,Int.reducePow,Int.reduceLE,Int.reduceLT,Int.reduceEq,Int.reduceNe,reduceIte,reduceCtorEq,ne_eq,not_true_eq_false,not_false_eq_true,imp_self,implies_true,bls,eq_self,h1,h2,h3,h4]
  refine V_loop (ι := Nat × List Nat) (fun d => [(21, .val (.int .i64 (d.1 : Int))), (20, .val (.int .i64 (l.length : Int))), (5, .own st.length 0 (l.length + m.length + 1) 1), (1, y), (0, x)])
    (fun d => st ++ [some (u32s d.2)]) (fun d => d.1 ≤ l.length ∧ d.2.length = l.length + m.length + 1 ∧ (∀ z ∈ d.2, z < 4294967296) ∧ val d.2 = val (l.take d.1) * val m) (fun d => l.length - d.1)
    (0, List.replicate (l.length + m.length + 1) 0) ⟨by simp, by simp, rep_lt (by simp), by simp [val, val_zeros]⟩ rfl (by simp (disch:=first|assumption|omega|(simp only [lens];omega)) only [eqs,↓gvd_succ,↓gvd_zero,↓and_of,im_of,im_of trivial,vlt,hP,hst,initS,Nat.reduceBEq,Nat.reduceAdd,Nat.reduceMul,Nat.reduceSub,Nat.reduceDiv,Nat.reduceMod,Nat.reducePow,Nat.reduceLT,Nat.reduceLeDiff,Nat.reduceEqDiff,Int.reduceAdd,Int.reduceSub,Int.reduceNeg,Int.reduceMul,Int.reduceToNat,Int.reducePow,Int.reduceLE,Int.reduceLT,Int.reduceEq,Int.reduceNe,reduceIte,reduceCtorEq,ne_eq,not_true_eq_false,not_false_eq_true,imp_self,implies_true,bls,eq_self]) ?_
  rintro ⟨i, row0⟩ ⟨hi, hr0, hrl0, hv0⟩
  dsimp only at hi hr0 hrl0 hv0 ⊢
  simp (disch:=first|assumption|omega|(simp only [lens];omega)) only [eqs,↓gvd_succ,↓gvd_zero,↓and_of,im_of,im_of trivial,vlt,hP,hst,initS,Nat.reduceBEq,Nat.reduceAdd,Nat.reduceMul,Nat.reduceSub,Nat.reduceDiv,Nat.reduceMod,Nat.reducePow,Nat.reduceLT,Nat.reduceLeDiff,Nat.reduceEqDiff,Int.reduceAdd,Int.reduceSub,Int.reduceNeg,Int.reduceMul,Int.reduceToNat,Int.reducePow,Int.reduceLE,Int.reduceLT,Int.reduceEq,Int.reduceNe,reduceIte,reduceCtorEq,ne_eq,not_true_eq_false,not_false_eq_true,imp_self,implies_true,bls,eq_self,h1,h2,h3,h4]
  refine C_dec (fun h6 => ?_) (fun h6 => ?_)
  · simp (disch:=first|assumption|omega|(simp only [lens];omega)) only [eqs,↓gvd_succ,↓gvd_zero,↓and_of,im_of,im_of trivial,vlt,hP,hst,initS,Nat.reduceBEq,Nat.reduceAdd,Nat.reduceMul,Nat.reduceSub,Nat.reduceDiv,Nat.reduceMod,Nat.reducePow,Nat.reduceLT,Nat.reduceLeDiff,Nat.reduceEqDiff,Int.reduceAdd,Int.reduceSub,Int.reduceNeg,Int.reduceMul,Int.reduceToNat,Int.reducePow,Int.reduceLE,Int.reduceLT,Int.reduceEq,Int.reduceNe,reduceIte,reduceCtorEq,ne_eq,not_true_eq_false,not_false_eq_true,imp_self,implies_true,bls,eq_self,h1,h2,h3,h4]
    have b1 := getD_lt hx.lt i
    refine V_loop (ι := Nat × List Nat × Nat) (fun d => [(26, .val (.int .i64 (d.1 : Int))), (25, .val (.int .i64 (m.length : Int))), (7, .val (.int .u64 (d.2.2 : Int))), (6, .val (.int .i64 (i : Int))), (21, .val (.int .i64 (i : Int))), (20, .val (.int .i64 (l.length : Int))), (5, .own st.length 0 (l.length + m.length + 1) 1), (1, y), (0, x)])
      (fun d => st ++ [some (u32s d.2.1)]) (fun d => d.1 ≤ m.length ∧ d.2.1.length = l.length + m.length + 1 ∧ d.2.2 < 4294967296 ∧ (∀ z ∈ d.2.1, z < 4294967296) ∧ val d.2.1 + d.2.2 * 4294967296 ^ (i + d.1) = val row0 + 4294967296 ^ i * l.getD i 0 * val (m.take d.1)) (fun d => m.length - d.1)
      (0, row0, 0) ⟨by simp, hr0, by simp, hrl0, by simp [val]⟩ rfl (by simp (disch:=first|assumption|omega|(simp only [lens];omega)) only [eqs,↓gvd_succ,↓gvd_zero,↓and_of,im_of,im_of trivial,vlt,hP,hst,initS,Nat.reduceBEq,Nat.reduceAdd,Nat.reduceMul,Nat.reduceSub,Nat.reduceDiv,Nat.reduceMod,Nat.reducePow,Nat.reduceLT,Nat.reduceLeDiff,Nat.reduceEqDiff,Int.reduceAdd,Int.reduceSub,Int.reduceNeg,Int.reduceMul,Int.reduceToNat,Int.reducePow,Int.reduceLE,Int.reduceLT,Int.reduceEq,Int.reduceNe,reduceIte,reduceCtorEq,ne_eq,not_true_eq_false,not_false_eq_true,imp_self,implies_true,bls,eq_self]) ?_
    rintro ⟨k, row, c⟩ ⟨hk, hr, hc, hrl, hv⟩
    dsimp only at hk hr hc hrl hv ⊢
    simp (disch:=first|assumption|omega|(simp only [lens];omega)) only [eqs,↓gvd_succ,↓gvd_zero,↓and_of,im_of,im_of trivial,vlt,hP,hst,initS,Nat.reduceBEq,Nat.reduceAdd,Nat.reduceMul,Nat.reduceSub,Nat.reduceDiv,Nat.reduceMod,Nat.reducePow,Nat.reduceLT,Nat.reduceLeDiff,Nat.reduceEqDiff,Int.reduceAdd,Int.reduceSub,Int.reduceNeg,Int.reduceMul,Int.reduceToNat,Int.reducePow,Int.reduceLE,Int.reduceLT,Int.reduceEq,Int.reduceNe,reduceIte,reduceCtorEq,ne_eq,not_true_eq_false,not_false_eq_true,imp_self,implies_true,bls,eq_self,h1,h2,h3,h4]
    refine C_dec (fun h7 => ?_) (fun h7 => ?_)
    · have b2 := getD_lt hy.lt k
      have b3 := getD_lt hrl (i + k)
      have b4 := Nat.mul_le_mul (show l.getD i 0 ≤ 4294967295 by omega) (show m.getD k 0 ≤ 4294967295 by omega)
      have e := mul_step (x := l.getD i 0) (y := m.getD k 0) (show i + k < row.length by omega) hv
      have e2 : 4294967296 ^ i * l.getD i 0 * val (m.take k) + 4294967296 ^ (i + k) * (l.getD i 0 * m.getD k 0) = 4294967296 ^ i * l.getD i 0 * val (m.take (k + 1)) := by
        rw [val_take_succ, Nat.mul_add, Nat.pow_add]
        congr 1
        rw [Nat.mul_assoc, Nat.mul_assoc]
        congr 1
        rw [← Nat.mul_assoc, ← Nat.mul_assoc, Nat.mul_comm (4294967296 ^ k)]
      rw [e2] at e
      have e3 : ((l.getD i 0 * m.getD k 0 : Nat) : Int) = (l.getD i 0 : Int) * (m.getD k 0 : Int) := Int.natCast_mul _ _
      generalize l.getD i 0 * m.getD k 0 = p at *
      have e4 : IntKind.u32.wrap ((row.getD (i + k) 0 : Nat) + (p : Int) + (c : Int)) = (((c + (row.getD (i + k) 0 + p)) % 4294967296 : Nat) : Int) := by rw [IntKind.wrap_u32]; omega
      have e5 : ((row.getD (i + k) 0 : Nat) + (p : Int) + (c : Int)) / 4294967296 = (((c + (row.getD (i + k) 0 + p)) / 4294967296 : Nat) : Int) := by omega
      simp (disch:=first|assumption|omega|(simp only [lens];omega)) only [eqs,↓gvd_succ,↓gvd_zero,↓and_of,im_of,im_of trivial,vlt,hP,hst,initS,Nat.reduceBEq,Nat.reduceAdd,Nat.reduceMul,Nat.reduceSub,Nat.reduceDiv,Nat.reduceMod,Nat.reducePow,Nat.reduceLT,Nat.reduceLeDiff,Nat.reduceEqDiff,Int.reduceAdd,Int.reduceSub,Int.reduceNeg,Int.reduceMul,Int.reduceToNat,Int.reducePow,Int.reduceLE,Int.reduceLT,Int.reduceEq,Int.reduceNe,reduceIte,reduceCtorEq,ne_eq,not_true_eq_false,not_false_eq_true,imp_self,implies_true,bls,eq_self,h1,h2,h3,h4]
      refine V_draw [0, 1, 2, 3, 4, 5, 6, 7, 8, 9, 10, 11, 12, 13, 14, 15, 16, 17, 18, 19, 20, 21] (by kernel_rfl) (.cons rfl <| .cons rfl <| .cons rfl <| .cons rfl <| .cons rfl <| .cons rfl <| .cons rfl <| .cons rfl <| .cons rfl <| .cons rfl <| .cons rfl <| .cons rfl <| .cons rfl <| .cons rfl <| .cons rfl <| .cons rfl <| .cons rfl <| .cons rfl <| .cons rfl <| .cons rfl <| .cons rfl <| .cons rfl <| .nil) ?_
      simp (disch:=first|assumption|omega|(simp only [lens];omega)) only [eqs,↓gvd_succ,↓gvd_zero,↓and_of,im_of,im_of trivial,vlt,hP,hst,initS,Nat.reduceBEq,Nat.reduceAdd,Nat.reduceMul,Nat.reduceSub,Nat.reduceDiv,Nat.reduceMod,Nat.reducePow,Nat.reduceLT,Nat.reduceLeDiff,Nat.reduceEqDiff,Int.reduceAdd,Int.reduceSub,Int.reduceNeg,Int.reduceMul,Int.reduceToNat,Int.reducePow,Int.reduceLE,Int.reduceLT,Int.reduceEq,Int.reduceNe,reduceIte,reduceCtorEq,ne_eq,not_true_eq_false,not_false_eq_true,imp_self,implies_true,bls,eq_self,h1,h2,h3,h4,← e3,e4]
      refine again (k + 1, row.set (i + k) ((c + (row.getD (i + k) 0 + p)) % 4294967296), (c + (row.getD (i + k) 0 + p)) / 4294967296) ⟨by dsimp only; omega, by simp [hr], by dsimp only; omega, set_lt hrl (by omega), e⟩ (by dsimp only; omega) rfl (by simp (disch:=first|assumption|omega|(simp only [lens];omega)) only [eqs,↓gvd_succ,↓gvd_zero,↓and_of,im_of,im_of trivial,vlt,hP,hst,initS,Nat.reduceBEq,Nat.reduceAdd,Nat.reduceMul,Nat.reduceSub,Nat.reduceDiv,Nat.reduceMod,Nat.reducePow,Nat.reduceLT,Nat.reduceLeDiff,Nat.reduceEqDiff,Int.reduceAdd,Int.reduceSub,Int.reduceNeg,Int.reduceMul,Int.reduceToNat,Int.reducePow,Int.reduceLE,Int.reduceLT,Int.reduceEq,Int.reduceNe,reduceIte,reduceCtorEq,ne_eq,not_true_eq_false,not_false_eq_true,imp_self,implies_true,bls,eq_self,← e5] <;> rfl)
    · simp (disch:=first|assumption|omega|(simp only [lens];omega)) only [eqs,↓gvd_succ,↓gvd_zero,↓and_of,im_of,im_of trivial,vlt,hP,hst,initS,Nat.reduceBEq,Nat.reduceAdd,Nat.reduceMul,Nat.reduceSub,Nat.reduceDiv,Nat.reduceMod,Nat.reducePow,Nat.reduceLT,Nat.reduceLeDiff,Nat.reduceEqDiff,Int.reduceAdd,Int.reduceSub,Int.reduceNeg,Int.reduceMul,Int.reduceToNat,Int.reducePow,Int.reduceLE,Int.reduceLT,Int.reduceEq,Int.reduceNe,reduceIte,reduceCtorEq,ne_eq,not_true_eq_false,not_false_eq_true,imp_self,implies_true,bls,eq_self,h1,h2,h3,h4]
      have hk2 : k = m.length := by omega
      subst hk2
      rw [List.take_of_length_le (Nat.le_refl _), hv0, ← Nat.add_mul, ← val_take_succ] at hv
      have hbig : val (l.take (i + 1)) * val m < 4294967296 ^ (l.length + m.length + 1) := by
        have q1 := val_lt (l := l.take (i + 1)) fun z hz => hx.lt z (List.mem_of_mem_take hz)
        rw [List.length_take, Nat.min_eq_left (by omega)] at q1
        have q2 := val_lt hy.lt
        have q3 := Nat.mul_lt_mul'' q1 q2
        rw [← Nat.pow_add] at q3
        exact Nat.lt_of_lt_of_le q3 (Nat.pow_le_pow_right (by omega) (by omega))
      refine V_loop (ι := Nat × List Nat × Nat) (fun d => [(10, .val (.int .i64 (d.1 : Int))), (7, .val (.int .u64 (d.2.2 : Int))), (21, .val (.int .i64 (i : Int))), (20, .val (.int .i64 (l.length : Int))), (5, .own st.length 0 (l.length + m.length + 1) 1), (1, y), (0, x)])
        (fun d => st ++ [some (u32s d.2.1)]) (fun d => d.1 ≤ l.length + m.length + 1 ∧ d.2.1.length = l.length + m.length + 1 ∧ d.2.2 < 4294967296 ∧ (∀ z ∈ d.2.1, z < 4294967296) ∧ val d.2.1 + d.2.2 * 4294967296 ^ d.1 = val (l.take (i + 1)) * val m) (fun d => l.length + m.length + 1 - d.1)
        (i + m.length, row, c) ⟨by dsimp only; omega, hr, hc, hrl, hv⟩ rfl (by simp (disch:=first|assumption|omega|(simp only [lens];omega)) only [eqs,↓gvd_succ,↓gvd_zero,↓and_of,im_of,im_of trivial,vlt,hP,hst,initS,Nat.reduceBEq,Nat.reduceAdd,Nat.reduceMul,Nat.reduceSub,Nat.reduceDiv,Nat.reduceMod,Nat.reducePow,Nat.reduceLT,Nat.reduceLeDiff,Nat.reduceEqDiff,Int.reduceAdd,Int.reduceSub,Int.reduceNeg,Int.reduceMul,Int.reduceToNat,Int.reducePow,Int.reduceLE,Int.reduceLT,Int.reduceEq,Int.reduceNe,reduceIte,reduceCtorEq,ne_eq,not_true_eq_false,not_false_eq_true,imp_self,implies_true,bls,eq_self] <;> rfl) ?_
      rintro ⟨k, row2, c2⟩ ⟨hk3, hr3, hc3, hrl3, hv3⟩
      dsimp only at hk3 hr3 hc3 hrl3 hv3 ⊢
      simp (disch:=first|assumption|omega|(simp only [lens];omega)) only [eqs,↓gvd_succ,↓gvd_zero,↓and_of,im_of,im_of trivial,vlt,hP,hst,initS,Nat.reduceBEq,Nat.reduceAdd,Nat.reduceMul,Nat.reduceSub,Nat.reduceDiv,Nat.reduceMod,Nat.reducePow,Nat.reduceLT,Nat.reduceLeDiff,Nat.reduceEqDiff,Int.reduceAdd,Int.reduceSub,Int.reduceNeg,Int.reduceMul,Int.reduceToNat,Int.reducePow,Int.reduceLE,Int.reduceLT,Int.reduceEq,Int.reduceNe,reduceIte,reduceCtorEq,ne_eq,not_true_eq_false,not_false_eq_true,imp_self,implies_true,bls,eq_self]
      refine C_dec (fun h8 => ?_) (fun h8 => ?_)
      · have hkl : k < row2.length := by
          rcases Nat.lt_or_ge k row2.length with h | h
          · exact h
          · have : k = l.length + m.length + 1 := by omega
            subst this
            have := Nat.mul_le_mul_right (4294967296 ^ (l.length + m.length + 1)) (show 1 ≤ c2 by omega)
            omega
        have b3 := getD_lt hrl3 k
        have e := carry_step hkl hv3
        have e4 : IntKind.u32.wrap ((row2.getD k 0 : Nat) + (c2 : Int)) = (((row2.getD k 0 + c2) % 4294967296 : Nat) : Int) := by rw [IntKind.wrap_u32]; omega
        have e5 : ((row2.getD k 0 : Nat) + (c2 : Int)) / 4294967296 = (((row2.getD k 0 + c2) / 4294967296 : Nat) : Int) := by omega
        simp (disch:=first|assumption|omega|(simp only [lens];omega)) only [eqs,↓gvd_succ,↓gvd_zero,↓and_of,im_of,im_of trivial,vlt,hP,hst,initS,Nat.reduceBEq,Nat.reduceAdd,Nat.reduceMul,Nat.reduceSub,Nat.reduceDiv,Nat.reduceMod,Nat.reducePow,Nat.reduceLT,Nat.reduceLeDiff,Nat.reduceEqDiff,Int.reduceAdd,Int.reduceSub,Int.reduceNeg,Int.reduceMul,Int.reduceToNat,Int.reducePow,Int.reduceLE,Int.reduceLT,Int.reduceEq,Int.reduceNe,reduceIte,reduceCtorEq,ne_eq,not_true_eq_false,not_false_eq_true,imp_self,implies_true,bls,eq_self,e4]
        refine again (k + 1, row2.set k ((row2.getD k 0 + c2) % 4294967296), (row2.getD k 0 + c2) / 4294967296) ⟨by dsimp only; omega, by simp [hr3], by dsimp only; omega, set_lt hrl3 (by omega), e⟩ (by dsimp only; omega) rfl (by simp (disch:=first|assumption|omega|(simp only [lens];omega)) only [eqs,↓gvd_succ,↓gvd_zero,↓and_of,im_of,im_of trivial,vlt,hP,hst,initS,Nat.reduceBEq,Nat.reduceAdd,Nat.reduceMul,Nat.reduceSub,Nat.reduceDiv,Nat.reduceMod,Nat.reducePow,Nat.reduceLT,Nat.reduceLeDiff,Nat.reduceEqDiff,Int.reduceAdd,Int.reduceSub,Int.reduceNeg,Int.reduceMul,Int.reduceToNat,Int.reducePow,Int.reduceLE,Int.reduceLT,Int.reduceEq,Int.reduceNe,reduceIte,reduceCtorEq,ne_eq,not_true_eq_false,not_false_eq_true,imp_self,implies_true,bls,eq_self,← e5] <;> rfl)
      · have hc0 : c2 = 0 := by omega
        subst hc0
        simp (disch:=first|assumption|omega|(simp only [lens];omega)) only [eqs,↓gvd_succ,↓gvd_zero,↓and_of,im_of,im_of trivial,vlt,hP,hst,initS,Nat.reduceBEq,Nat.reduceAdd,Nat.reduceMul,Nat.reduceSub,Nat.reduceDiv,Nat.reduceMod,Nat.reducePow,Nat.reduceLT,Nat.reduceLeDiff,Nat.reduceEqDiff,Int.reduceAdd,Int.reduceSub,Int.reduceNeg,Int.reduceMul,Int.reduceToNat,Int.reducePow,Int.reduceLE,Int.reduceLT,Int.reduceEq,Int.reduceNe,reduceIte,reduceCtorEq,ne_eq,not_true_eq_false,not_false_eq_true,imp_self,implies_true,bls,eq_self]
        refine again (i + 1, row2) ⟨by dsimp only; omega, hr3, hrl3, by simpa using hv3⟩ (by dsimp only; omega) rfl (by simp (disch:=first|assumption|omega|(simp only [lens];omega)) only [eqs,↓gvd_succ,↓gvd_zero,↓and_of,im_of,im_of trivial,vlt,hP,hst,initS,Nat.reduceBEq,Nat.reduceAdd,Nat.reduceMul,Nat.reduceSub,Nat.reduceDiv,Nat.reduceMod,Nat.reducePow,Nat.reduceLT,Nat.reduceLeDiff,Nat.reduceEqDiff,Int.reduceAdd,Int.reduceSub,Int.reduceNeg,Int.reduceMul,Int.reduceToNat,Int.reducePow,Int.reduceLE,Int.reduceLT,Int.reduceEq,Int.reduceNe,reduceIte,reduceCtorEq,ne_eq,not_true_eq_false,not_false_eq_true,imp_self,implies_true,bls,eq_self] <;> rfl)
  · simp (disch:=first|assumption|omega|(simp only [lens];omega)) only [eqs,↓gvd_succ,↓gvd_zero,↓and_of,im_of,im_of trivial,vlt,hP,hst,initS,Nat.reduceBEq,Nat.reduceAdd,Nat.reduceMul,Nat.reduceSub,Nat.reduceDiv,Nat.reduceMod,Nat.reducePow,Nat.reduceLT,Nat.reduceLeDiff,Nat.reduceEqDiff,Int.reduceAdd,Int.reduceSub,Int.reduceNeg,Int.reduceMul,Int.reduceToNat,Int.reducePow,Int.reduceLE,Int.reduceLT,Int.reduceEq,Int.reduceNe,reduceIte,reduceCtorEq,ne_eq,not_true_eq_false,not_false_eq_true,imp_self,implies_true,bls,eq_self,h1,h2,h3,h4]
    have hi2 : i = l.length := by omega
    subst hi2
    rw [List.take_of_length_le (Nat.le_refl _)] at hv0
    refine E_call (hP ▸ s_rNorm) ⟨_, row0, rfl, Nm.last hr0 hrl0, by omega, fresh_got fun z T' hz => ?_⟩
    simp (disch:=first|assumption|omega|(simp only [lens];omega)) only [eqs,↓gvd_succ,↓gvd_zero,↓and_of,im_of,im_of trivial,vlt,hP,hst,initS,Nat.reduceBEq,Nat.reduceAdd,Nat.reduceMul,Nat.reduceSub,Nat.reduceDiv,Nat.reduceMod,Nat.reducePow,Nat.reduceLT,Nat.reduceLeDiff,Nat.reduceEqDiff,Int.reduceAdd,Int.reduceSub,Int.reduceNeg,Int.reduceMul,Int.reduceToNat,Int.reducePow,Int.reduceLE,Int.reduceLT,Int.reduceEq,Int.reduceNe,reduceIte,reduceCtorEq,ne_eq,not_true_eq_false,not_false_eq_true,imp_self,implies_true,bls,eq_self]
    have hz2 := Got.pre (.add _) hz
    rw [hv0] at hz2
    exact hK _ _ hz2
end Go.Proofs.Pv

/- The document's answer's walks, sixth part. -/
namespace Go.Proofs.Pv
open Go Go.RowKit Go.Proofs
set_option maxRecDepth 20000

def RrBit (xs : List AV) (st : St) (K : AV → St → Prop) : Prop := ∃ x l i, xs = [x, .val (.int .i64 ((i : Nat) : Int))] ∧ Nm st x l ∧ i ≤ 9223372036854775807 ∧ K (.val (.bool ((val l).testBit i))) st
def RrBits (xs : List AV) (st : St) (K : AV → St → Prop) : Prop := ∃ x l, xs = [x] ∧ Nm st x l ∧ l.length ≤ 1000000 ∧ ∀ st', Ext st st' → K (.val (.int .i64 (blen (val l) : Int))) st'
def RrSmall (xs : List AV) (st : St) (K : AV → St → Prop) : Prop := ∃ x l, xs = [x] ∧ Nm st x l ∧ l.length ≤ 10000 ∧
  ∀ st', Ext st st' → K (.tup [.val (.int .i64 ((if blen (val l) ≤ 63 then val l else 0 : Nat) : Int)), .val (.bool (decide (blen (val l) ≤ 63)))]) st'
end Go.Proofs.Pv

/- The document's answer's walks, seventh part. -/
namespace Go.Proofs.Pv
open Go Go.RowKit Go.Proofs
set_option maxRecDepth 20000

theorem blen_len {l : List Nat} (hl : ∀ z ∈ l, z < 4294967296) : blen (val l) ≤ 32 * l.length := by
  have := val_lt hl
  rw [pow_limb] at this
  exact blen_le this

def RrShift (F : St → Nat → (AV → St → Prop) → Prop) (xs : List AV) (st : St) (K : AV → St → Prop) : Prop := ∃ x l n, xs = [x, .val (.int .i64 n)] ∧ Nm st x l ∧ l.length ≤ 100000 ∧ -9223372036854775808 ≤ n ∧ n ≤ 9223372036854775807 ∧ F st (shiftV (val l) n) K
end Go.Proofs.Pv

/- The document's answer's walks, eighth part. -/
namespace Go.Proofs.Pv
open Go Go.RowKit Go.Proofs
set_option maxRecDepth 20000

def RrDiv (xs : List AV) (st : St) (K : AV → St → Prop) : Prop := ∃ x y l m, xs = [x, y] ∧ Nm st x l ∧ Nm st y m ∧ l.length ≤ 5000 ∧ m.length ≤ 5000 ∧
  ∀ q r st', Got st st' q (val l / val m) → Got st st' r (if val m = 0 then 0 else val l % val m) → K (.tup [q, r]) st'
def RrDivSmall (xs : List AV) (st : St) (K : AV → St → Prop) : Prop := ∃ x l d, xs = [x, .val (.int .u32 ((d : Nat) : Int))] ∧ Nm st x l ∧ l.length ≤ 5000 ∧ d < 4294967296 ∧
  ∀ q st', Got st st' q (val l / d) → K (.tup [q, .val (.int .u32 ((if d = 0 then 0 else val l % d : Nat) : Int))]) st'
end Go.Proofs.Pv
