/- The document's answer's walks, first part. -/
import Derived.Test.YtmclabehpfpnnaaDoorW10
set_option linter.unusedSimpArgs false
set_option linter.unusedVariables false
namespace Go.Proofs.Pv
open Go Go.RowKit Go.Proofs
set_option maxRecDepth 20000

def RLimb (xs : List AV) (st : St) (K : AV → St → Prop) : Prop := ∃ x l i, xs = [x, .val (.int .i64 ((i : Nat) : Int))] ∧ Nm st x l ∧ l.length ≤ 35184372088832 ∧ K (.val (.int .u64 ((l.getD i 0 : Nat) : Int))) st
theorem s_limb : PSpec Tryd.prog 125 RLimb := by
  refine fspec_of (fn := Tryd.f125) 2 [.tmp 4] (by kernel_rfl) rfl rfl (by kernel_rfl) mixed (by rintro _ _ _ ⟨x, l, i, rfl, _⟩; rfl) ?_
  rintro X _ st K hP hst ⟨x, l, i, rfl, hx, hl, hK⟩
  refine vc_V ?_
  have h1 := hx.sl
  have b1 := getD_lt hx.lt i
  simp (disch:=first|assumption|omega|(simp only [lens];omega)) only [eqs,↓gvd_succ,↓gvd_zero,↓and_of,im_of,im_of trivial,vlt,hP,hst,initS,Nat.reduceBEq,Nat.reduceAdd,Nat.reduceMul,Nat.reduceSub,Nat.reduceDiv,Nat.reduceMod,Nat.reducePow,Nat.reduceLT,Nat.reduceLeDiff,Nat.reduceEqDiff,Int.reduceAdd,Int.reduceSub,Int.reduceNeg,Int.reduceMul,Int.reduceToNat,Int.reducePow,Int.reduceLE,Int.reduceLT,Int.reduceEq,Int.reduceNe,reduceIte,reduceCtorEq,ne_eq,not_true_eq_false,not_false_eq_true,imp_self,implies_true,bls,eq_self,h1]
  refine C_dec (fun h => ?_) (fun h => ?_)
  · simp (disch:=first|assumption|omega|(simp only [lens];omega)) only [eqs,↓gvd_succ,↓gvd_zero,↓and_of,im_of,im_of trivial,vlt,hP,hst,initS,Nat.reduceBEq,Nat.reduceAdd,Nat.reduceMul,Nat.reduceSub,Nat.reduceDiv,Nat.reduceMod,Nat.reducePow,Nat.reduceLT,Nat.reduceLeDiff,Nat.reduceEqDiff,Int.reduceAdd,Int.reduceSub,Int.reduceNeg,Int.reduceMul,Int.reduceToNat,Int.reducePow,Int.reduceLE,Int.reduceLT,Int.reduceEq,Int.reduceNe,reduceIte,reduceCtorEq,ne_eq,not_true_eq_false,not_false_eq_true,imp_self,implies_true,bls,eq_self,h1]
    exact hK
  · simp (disch:=first|assumption|omega|(simp only [lens];omega)) only [eqs,↓gvd_succ,↓gvd_zero,↓and_of,im_of,im_of trivial,vlt,hP,hst,initS,Nat.reduceBEq,Nat.reduceAdd,Nat.reduceMul,Nat.reduceSub,Nat.reduceDiv,Nat.reduceMod,Nat.reducePow,Nat.reduceLT,Nat.reduceLeDiff,Nat.reduceEqDiff,Int.reduceAdd,Int.reduceSub,Int.reduceNeg,Int.reduceMul,Int.reduceToNat,Int.reducePow,Int.reduceLE,Int.reduceLT,Int.reduceEq,Int.reduceNe,reduceIte,reduceCtorEq,ne_eq,not_true_eq_false,not_false_eq_true,imp_self,implies_true,bls,eq_self,h1]
    rw [getD_out (by omega)] at hK
    exact hK

def RSame (xs : List AV) (st : St) (K : AV → St → Prop) : Prop := ∃ x y l m, xs = [x, y] ∧ Nm st x l ∧ Nm st y m ∧ l.length ≤ 35184372088832 ∧ m.length ≤ 35184372088832 ∧ K (.val (.bool (decide (l = m)))) st
/-- As Norm, somewhere among the new objects. -/
def fresh' (st : St) (v : Nat) (K : AV → St → Prop) : Prop := ∀ y i rest, plain rest → y[i]? = some (some (u32s (limbs v) ++ rest)) → K (.own (st.length + i) 0 (limbs v).length 1) (st ++ y)
theorem fresh_tidy {st : St} {v : Nat} {K : AV → St → Prop} (hK : fresh st v K) : fresh' st v fun x st' => ∃ (L : List Nat) (y : St) (zs : List (List AV)) (x' : AV), st' = st ++ y ∧ L.Nodup ∧ L.map (fun r => y[r]?) = zs.map (fun z => some (some z)) ∧ (∀ z ∈ zs, plain z) ∧ Mv st L x x' ∧ K x' (st ++ zs.map some) := by
  intro y i rest hr hy
  refine ⟨[i], y, [u32s (limbs v) ++ rest], _, rfl, by simp, by simp [hy], ?_, .new (i := 0) rfl, hK rest hr⟩
  intro z hz c hc
  obtain rfl : z = _ := by simpa using hz
  rcases List.mem_append.1 hc with h | h
  · exact u32s_plain c h
  · exact hr c h

def RrNorm (F : St → Nat → (AV → St → Prop) → Prop) (xs : List AV) (st : St) (K : AV → St → Prop) : Prop := ∃ x l, xs = [x] ∧ Nm st x l ∧ l.length ≤ 35184372088832 ∧ F st (val l) K
theorem s_rNorm0 : PSpec Tryd.prog 93 (RrNorm fresh') := by
  refine fspec_of (fn := Tryd.f93) 1 [.tmp 2] (by kernel_rfl) rfl rfl (by kernel_rfl) mixed (by rintro _ _ _ ⟨x, l, rfl, _⟩; rfl) ?_
  rintro X _ st K hP hst ⟨x, l, rfl, hx, hl, hK⟩
  refine vc_V ?_
  have h1 := hx.sl
  have h2 := hx.grow
  have fin : ∀ m, m ≤ l.length → limbs (val l) = l.take m → ∀ y i, y[i]? = some (some (u32s (l.take m))) → K (.own (st.length + i) 0 m 1) (st ++ y) := fun m hm he y i hy => by
    have := hK y i [] (by simp [plain]) (by rw [he, List.append_nil]; exact hy)
    rwa [he, List.length_take, Nat.min_eq_left hm] at this
  simp (disch:=first|assumption|omega|(simp only [lens];omega)) only [eqs,↓gvd_succ,↓gvd_zero,↓and_of,im_of,im_of trivial,vlt,hP,hst,initS,Nat.reduceBEq,Nat.reduceAdd,Nat.reduceMul,Nat.reduceSub,Nat.reduceDiv,Nat.reduceMod,Nat.reducePow,Nat.reduceLT,Nat.reduceLeDiff,Nat.reduceEqDiff,Int.reduceAdd,Int.reduceSub,Int.reduceNeg,Int.reduceMul,Int.reduceToNat,Int.reducePow,Int.reduceLE,Int.reduceLT,Int.reduceEq,Int.reduceNe,reduceIte,reduceCtorEq,ne_eq,not_true_eq_false,not_false_eq_true,imp_self,implies_true,bls,eq_self,h1]
  refine V_loop (ι := Nat) (fun m => [(0, x), (3, .val (.int .i64 (m : Int)))]) (fun _ => st) (fun m => m ≤ l.length ∧ ∀ j, m ≤ j → j < l.length → l.getD j 0 = 0) id l.length ⟨Nat.le_refl _, by omega⟩ rfl (by simp (disch:=first|assumption|omega|(simp only [lens];omega)) only [eqs,↓gvd_succ,↓gvd_zero,↓and_of,im_of,im_of trivial,vlt,hP,hst,initS,Nat.reduceBEq,Nat.reduceAdd,Nat.reduceMul,Nat.reduceSub,Nat.reduceDiv,Nat.reduceMod,Nat.reducePow,Nat.reduceLT,Nat.reduceLeDiff,Nat.reduceEqDiff,Int.reduceAdd,Int.reduceSub,Int.reduceNeg,Int.reduceMul,Int.reduceToNat,Int.reducePow,Int.reduceLE,Int.reduceLT,Int.reduceEq,Int.reduceNe,reduceIte,reduceCtorEq,ne_eq,not_true_eq_false,not_false_eq_true,imp_self,implies_true,bls,eq_self] <;> rfl) ?_
  rintro m ⟨hm, hz⟩
  have h3 := (hx.cut0 hm).slcg
  simp (disch:=first|assumption|omega|(simp only [lens];omega)) only [eqs,↓gvd_succ,↓gvd_zero,↓and_of,im_of,im_of trivial,vlt,hP,hst,initS,Nat.reduceBEq,Nat.reduceAdd,Nat.reduceMul,Nat.reduceSub,Nat.reduceDiv,Nat.reduceMod,Nat.reducePow,Nat.reduceLT,Nat.reduceLeDiff,Nat.reduceEqDiff,Int.reduceAdd,Int.reduceSub,Int.reduceNeg,Int.reduceMul,Int.reduceToNat,Int.reducePow,Int.reduceLE,Int.reduceLT,Int.reduceEq,Int.reduceNe,reduceIte,reduceCtorEq,ne_eq,not_true_eq_false,not_false_eq_true,imp_self,implies_true,bls,eq_self,h1,h2]
  refine G_dec (fun h => ?_) (fun h => ?_)
  · simp (disch:=first|assumption|omega|(simp only [lens];omega)) only [eqs,↓gvd_succ,↓gvd_zero,↓and_of,im_of,im_of trivial,vlt,hP,hst,initS,Nat.reduceBEq,Nat.reduceAdd,Nat.reduceMul,Nat.reduceSub,Nat.reduceDiv,Nat.reduceMod,Nat.reducePow,Nat.reduceLT,Nat.reduceLeDiff,Nat.reduceEqDiff,Int.reduceAdd,Int.reduceSub,Int.reduceNeg,Int.reduceMul,Int.reduceToNat,Int.reducePow,Int.reduceLE,Int.reduceLT,Int.reduceEq,Int.reduceNe,reduceIte,reduceCtorEq,ne_eq,not_true_eq_false,not_false_eq_true,imp_self,implies_true,bls,eq_self,h1,h2,h]
    refine C_dec (fun h4 => ?_) (fun h4 => ?_)
    · simp (disch:=first|assumption|omega|(simp only [lens];omega)) only [eqs,↓gvd_succ,↓gvd_zero,↓and_of,im_of,im_of trivial,vlt,hP,hst,initS,Nat.reduceBEq,Nat.reduceAdd,Nat.reduceMul,Nat.reduceSub,Nat.reduceDiv,Nat.reduceMod,Nat.reducePow,Nat.reduceLT,Nat.reduceLeDiff,Nat.reduceEqDiff,Int.reduceAdd,Int.reduceSub,Int.reduceNeg,Int.reduceMul,Int.reduceToNat,Int.reducePow,Int.reduceLE,Int.reduceLT,Int.reduceEq,Int.reduceNe,reduceIte,reduceCtorEq,ne_eq,not_true_eq_false,not_false_eq_true,imp_self,implies_true,bls,eq_self,h1,h2,h,h4]
      refine again (m - 1) ⟨by omega, fun j h5 h6 => ?_⟩ (show m - 1 < m by omega) rfl (by
        rw [show ((m - 1 : Nat) : Int) = (m : Int) - 1 by omega]
        simp (disch:=first|assumption|omega|(simp only [lens];omega)) only [eqs,↓gvd_succ,↓gvd_zero,↓and_of,im_of,im_of trivial,vlt,hP,hst,initS,Nat.reduceBEq,Nat.reduceAdd,Nat.reduceMul,Nat.reduceSub,Nat.reduceDiv,Nat.reduceMod,Nat.reducePow,Nat.reduceLT,Nat.reduceLeDiff,Nat.reduceEqDiff,Int.reduceAdd,Int.reduceSub,Int.reduceNeg,Int.reduceMul,Int.reduceToNat,Int.reducePow,Int.reduceLE,Int.reduceLT,Int.reduceEq,Int.reduceNe,reduceIte,reduceCtorEq,ne_eq,not_true_eq_false,not_false_eq_true,imp_self,implies_true,bls,eq_self] <;> rfl)
      by_cases hj : j = m - 1
      · subst hj; omega
      · exact hz j (by omega) h6
    · have he := limbs_take hx.lt hm hz (.inr (by omega))
      simp (disch:=first|assumption|omega|(simp only [lens];omega)) only [eqs,↓gvd_succ,↓gvd_zero,↓and_of,im_of,im_of trivial,vlt,hP,hst,initS,Nat.reduceBEq,Nat.reduceAdd,Nat.reduceMul,Nat.reduceSub,Nat.reduceDiv,Nat.reduceMod,Nat.reducePow,Nat.reduceLT,Nat.reduceLeDiff,Nat.reduceEqDiff,Int.reduceAdd,Int.reduceSub,Int.reduceNeg,Int.reduceMul,Int.reduceToNat,Int.reducePow,Int.reduceLE,Int.reduceLT,Int.reduceEq,Int.reduceNe,reduceIte,reduceCtorEq,ne_eq,not_true_eq_false,not_false_eq_true,imp_self,implies_true,bls,eq_self,h1,h2,h,h4,h3]
      exact fin m hm he _ 1 rfl
  · have hm0 : m = 0 := by omega
    subst hm0
    have he := limbs_take hx.lt hm hz (.inl rfl)
    simp (disch:=first|assumption|omega|(simp only [lens];omega)) only [eqs,↓gvd_succ,↓gvd_zero,↓and_of,im_of,im_of trivial,vlt,hP,hst,initS,Nat.reduceBEq,Nat.reduceAdd,Nat.reduceMul,Nat.reduceSub,Nat.reduceDiv,Nat.reduceMod,Nat.reducePow,Nat.reduceLT,Nat.reduceLeDiff,Nat.reduceEqDiff,Int.reduceAdd,Int.reduceSub,Int.reduceNeg,Int.reduceMul,Int.reduceToNat,Int.reducePow,Int.reduceLE,Int.reduceLT,Int.reduceEq,Int.reduceNe,reduceIte,reduceCtorEq,ne_eq,not_true_eq_false,not_false_eq_true,imp_self,implies_true,bls,eq_self,h1,h2,h,h3]
    exact fin 0 hm he _ 1 rfl

theorem s_rNorm : PSpec Tryd.prog 93 (RrNorm fresh) := by
  refine tidy s_rNorm0 ?_
  rintro xs st K ⟨x, l, rfl, hx, hl, hK⟩
  exact ⟨x, l, rfl, hx, hl, fresh_tidy hK⟩
end Go.Proofs.Pv

/- The document's answer's walks, second part. -/
namespace Go.Proofs.Pv
open Go Go.RowKit Go.Proofs
set_option maxRecDepth 20000

def RrAdd (F : St → Nat → (AV → St → Prop) → Prop) (xs : List AV) (st : St) (K : AV → St → Prop) : Prop := ∃ x y l m, xs = [x, y] ∧ Nm st x l ∧ Nm st y m ∧ l.length ≤ 100000 ∧ m.length ≤ 100000 ∧ F st (val l + val m) K
theorem s_rAdd0 : PSpec Tryd.prog 104 (RrAdd fresh') := by
  refine fspec_of (fn := Tryd.f104) 2 [.tmp 4] (by kernel_rfl) rfl rfl (by kernel_rfl) mixed (by rintro _ _ _ ⟨x, y, l, m, rfl, _⟩; rfl) ?_
  rintro X _ st K hP hst ⟨x, y, l, m, rfl, hx, hy, hl, hm, hK⟩
  refine vc_V ?_
  have h1 := hx.sl
  have h2 := hy.sl
  have h3 := hx.grow
  have h4 := hy.grow
  simp (disch:=first|assumption|omega|(simp only [lens];omega)) only [eqs,↓gvd_succ,↓gvd_zero,↓and_of,im_of,im_of trivial,vlt,hP,hst,initS,Nat.reduceBEq,Nat.reduceAdd,Nat.reduceMul,Nat.reduceSub,Nat.reduceDiv,Nat.reduceMod,Nat.reducePow,Nat.reduceLT,Nat.reduceLeDiff,Nat.reduceEqDiff,Int.reduceAdd,Int.reduceSub,Int.reduceNeg,Int.reduceMul,Int.reduceToNat,Int.reducePow,Int.reduceLE,Int.reduceLT,Int.reduceEq,Int.reduceNe,reduceIte,reduceCtorEq,ne_eq,not_true_eq_false,not_false_eq_true,imp_self,implies_true,bls,eq_self]
  refine V_loop (ι := Option (List Nat × Nat × St)) (fun e => match e with
      | none => [(0, x), (1, y), (7, .val (.int .i64 0)), (6, .val (.int .u64 0)), (5, .val (.slice none 0 0))]
      | some (o, c, g) => [(0, x), (1, y), (7, .val (.int .i64 (o.length : Int))), (6, .val (.int .u64 (c : Int))), (5, .own (st.length + g.length) 0 o.length 1)])
    (fun e => match e with
      | none => st
      | some (o, c, g) => st ++ (g ++ [some (u32s o)]))
    (fun e => match e with
      | none => True
      | some (o, c, g) => 0 < o.length ∧ o.length ≤ 100001 ∧ c ≤ 1 ∧ (∀ z ∈ o, z < 4294967296) ∧ val o + c * 4294967296 ^ o.length = val (l.take o.length) + val (m.take o.length) ∧ (o.length = 100001 → c = 0))
    (fun e => match e with
      | none => 100002
      | some (o, c, g) => 100001 - o.length) none trivial rfl (by simp (disch:=first|assumption|omega|(simp only [lens];omega)) only [eqs,↓gvd_succ,↓gvd_zero,↓and_of,im_of,im_of trivial,vlt,hP,hst,initS,Nat.reduceBEq,Nat.reduceAdd,Nat.reduceMul,Nat.reduceSub,Nat.reduceDiv,Nat.reduceMod,Nat.reducePow,Nat.reduceLT,Nat.reduceLeDiff,Nat.reduceEqDiff,Int.reduceAdd,Int.reduceSub,Int.reduceNeg,Int.reduceMul,Int.reduceToNat,Int.reducePow,Int.reduceLE,Int.reduceLT,Int.reduceEq,Int.reduceNe,reduceIte,reduceCtorEq,ne_eq,not_true_eq_false,not_false_eq_true,imp_self,implies_true,bls,eq_self] <;> rfl) ?_
  rintro (_ | ⟨o, c, g⟩) hp
  · dsimp only
    have b1 := getD_lt hx.lt 0
    have b2 := getD_lt hy.lt 0
    have e := add_step (A := 0) (B := 0) (R := 0) (c := 0) (i := 0) (a := l.getD 0 0) (b := m.getD 0 0) (by simp)
    rw [Nat.pow_zero, Nat.one_mul, Nat.one_mul, Nat.one_mul, Nat.zero_add, Nat.zero_add, Nat.zero_add, Nat.add_zero] at e
    have v1 := val_take_succ l 0
    have v2 := val_take_succ m 0
    simp (disch:=first|assumption|omega|(simp only [lens];omega)) only [eqs,↓gvd_succ,↓gvd_zero,↓and_of,im_of,im_of trivial,vlt,hP,hst,initS,Nat.reduceBEq,Nat.reduceAdd,Nat.reduceMul,Nat.reduceSub,Nat.reduceDiv,Nat.reduceMod,Nat.reducePow,Nat.reduceLT,Nat.reduceLeDiff,Nat.reduceEqDiff,Int.reduceAdd,Int.reduceSub,Int.reduceNeg,Int.reduceMul,Int.reduceToNat,Int.reducePow,Int.reduceLE,Int.reduceLT,Int.reduceEq,Int.reduceNe,reduceIte,reduceCtorEq,ne_eq,not_true_eq_false,not_false_eq_true,imp_self,implies_true,bls,eq_self,h1,h2]
    refine G_ndec (fun h5 => ?a) (fun h5 => ?b)
    case' a =>
      simp (disch:=first|assumption|omega|(simp only [lens];omega)) only [eqs,↓gvd_succ,↓gvd_zero,↓and_of,im_of,im_of trivial,vlt,hP,hst,initS,Nat.reduceBEq,Nat.reduceAdd,Nat.reduceMul,Nat.reduceSub,Nat.reduceDiv,Nat.reduceMod,Nat.reducePow,Nat.reduceLT,Nat.reduceLeDiff,Nat.reduceEqDiff,Int.reduceAdd,Int.reduceSub,Int.reduceNeg,Int.reduceMul,Int.reduceToNat,Int.reducePow,Int.reduceLE,Int.reduceLT,Int.reduceEq,Int.reduceNe,reduceIte,reduceCtorEq,ne_eq,not_true_eq_false,not_false_eq_true,imp_self,implies_true,bls,eq_self,h1,h2,h5]
      refine G_ndec (fun h6 => ?_) (fun h6 => ?_)
      · have hl0 : l = [] := List.eq_nil_of_length_eq_zero (by omega)
        have hm0 : m = [] := List.eq_nil_of_length_eq_zero (by omega)
        subst hl0; subst hm0
        simp (disch:=first|assumption|omega|(simp only [lens];omega)) only [eqs,↓gvd_succ,↓gvd_zero,↓and_of,im_of,im_of trivial,vlt,hP,hst,initS,Nat.reduceBEq,Nat.reduceAdd,Nat.reduceMul,Nat.reduceSub,Nat.reduceDiv,Nat.reduceMod,Nat.reducePow,Nat.reduceLT,Nat.reduceLeDiff,Nat.reduceEqDiff,Int.reduceAdd,Int.reduceSub,Int.reduceNeg,Int.reduceMul,Int.reduceToNat,Int.reducePow,Int.reduceLE,Int.reduceLT,Int.reduceEq,Int.reduceNe,reduceIte,reduceCtorEq,ne_eq,not_true_eq_false,not_false_eq_true,imp_self,implies_true,bls,eq_self,h1,h2,h5,h6]
        refine E_call (hP ▸ s_rNorm) ⟨_, [], rfl, Nm.nil, by simp, ?_⟩
        intro rest hrest
        simp (disch:=first|assumption|omega|(simp only [lens];omega)) only [eqs,↓gvd_succ,↓gvd_zero,↓and_of,im_of,im_of trivial,vlt,hP,hst,initS,Nat.reduceBEq,Nat.reduceAdd,Nat.reduceMul,Nat.reduceSub,Nat.reduceDiv,Nat.reduceMod,Nat.reducePow,Nat.reduceLT,Nat.reduceLeDiff,Nat.reduceEqDiff,Int.reduceAdd,Int.reduceSub,Int.reduceNeg,Int.reduceMul,Int.reduceToNat,Int.reducePow,Int.reduceLE,Int.reduceLT,Int.reduceEq,Int.reduceNe,reduceIte,reduceCtorEq,ne_eq,not_true_eq_false,not_false_eq_true,imp_self,implies_true,bls,eq_self]
        exact hK [some (u32s (limbs 0) ++ rest)] 0 rest hrest rfl
      simp (disch:=first|assumption|omega|(simp only [lens];omega)) only [eqs,↓gvd_succ,↓gvd_zero,↓and_of,im_of,im_of trivial,vlt,hP,hst,initS,Nat.reduceBEq,Nat.reduceAdd,Nat.reduceMul,Nat.reduceSub,Nat.reduceDiv,Nat.reduceMod,Nat.reducePow,Nat.reduceLT,Nat.reduceLeDiff,Nat.reduceEqDiff,Int.reduceAdd,Int.reduceSub,Int.reduceNeg,Int.reduceMul,Int.reduceToNat,Int.reducePow,Int.reduceLE,Int.reduceLT,Int.reduceEq,Int.reduceNe,reduceIte,reduceCtorEq,ne_eq,not_true_eq_false,not_false_eq_true,imp_self,implies_true,bls,eq_self,h1,h2,h5,h6]
    case' b =>
      simp (disch:=first|assumption|omega|(simp only [lens];omega)) only [eqs,↓gvd_succ,↓gvd_zero,↓and_of,im_of,im_of trivial,vlt,hP,hst,initS,Nat.reduceBEq,Nat.reduceAdd,Nat.reduceMul,Nat.reduceSub,Nat.reduceDiv,Nat.reduceMod,Nat.reducePow,Nat.reduceLT,Nat.reduceLeDiff,Nat.reduceEqDiff,Int.reduceAdd,Int.reduceSub,Int.reduceNeg,Int.reduceMul,Int.reduceToNat,Int.reducePow,Int.reduceLE,Int.reduceLT,Int.reduceEq,Int.reduceNe,reduceIte,reduceCtorEq,ne_eq,not_true_eq_false,not_false_eq_true,imp_self,implies_true,bls,eq_self,h1,h2,h5]
    all_goals
      refine E_call (hP ▸ s_limb) ⟨x, l, 0, rfl, hx, by omega, ?_⟩
      simp (disch:=first|assumption|omega|(simp only [lens];omega)) only [eqs,↓gvd_succ,↓gvd_zero,↓and_of,im_of,im_of trivial,vlt,hP,hst,initS,Nat.reduceBEq,Nat.reduceAdd,Nat.reduceMul,Nat.reduceSub,Nat.reduceDiv,Nat.reduceMod,Nat.reducePow,Nat.reduceLT,Nat.reduceLeDiff,Nat.reduceEqDiff,Int.reduceAdd,Int.reduceSub,Int.reduceNeg,Int.reduceMul,Int.reduceToNat,Int.reducePow,Int.reduceLE,Int.reduceLT,Int.reduceEq,Int.reduceNe,reduceIte,reduceCtorEq,ne_eq,not_true_eq_false,not_false_eq_true,imp_self,implies_true,bls,eq_self]
      refine E_call (hP ▸ s_limb) ⟨y, m, 0, rfl, hy, by omega, ?_⟩
      have e5 : IntKind.u32.wrap ((l.getD 0 0 : Nat) + (m.getD 0 0 : Nat) : Int) = (((l.getD 0 0 + m.getD 0 0) % 4294967296 : Nat) : Int) := by rw [IntKind.wrap_u32]; omega
      simp (disch:=first|assumption|omega|(simp only [lens];omega)) only [eqs,↓gvd_succ,↓gvd_zero,↓and_of,im_of,im_of trivial,vlt,hP,hst,initS,Nat.reduceBEq,Nat.reduceAdd,Nat.reduceMul,Nat.reduceSub,Nat.reduceDiv,Nat.reduceMod,Nat.reducePow,Nat.reduceLT,Nat.reduceLeDiff,Nat.reduceEqDiff,Int.reduceAdd,Int.reduceSub,Int.reduceNeg,Int.reduceMul,Int.reduceToNat,Int.reducePow,Int.reduceLE,Int.reduceLT,Int.reduceEq,Int.reduceNe,reduceIte,reduceCtorEq,ne_eq,not_true_eq_false,not_false_eq_true,imp_self,implies_true,bls,eq_self,Int.add_zero,e5]
      refine again (some ([(l.getD 0 0 + m.getD 0 0) % 4294967296], (l.getD 0 0 + m.getD 0 0) / 4294967296, [some (AV.val (Value.int IntKind.u32 (((l.getD 0 0 + m.getD 0 0) % 4294967296 : Nat) : Int)) :: u32s (List.drop 1 (List.replicate 1 0)))])) ⟨by simp, by simp, by omega, ?_, ?_, by simp⟩ (by simp) rfl (by
        dsimp only
        simp (disch:=first|assumption|omega|(simp only [lens];omega)) only [eqs,↓gvd_succ,↓gvd_zero,↓and_of,im_of,im_of trivial,vlt,hP,hst,initS,Nat.reduceBEq,Nat.reduceAdd,Nat.reduceMul,Nat.reduceSub,Nat.reduceDiv,Nat.reduceMod,Nat.reducePow,Nat.reduceLT,Nat.reduceLeDiff,Nat.reduceEqDiff,Int.reduceAdd,Int.reduceSub,Int.reduceNeg,Int.reduceMul,Int.reduceToNat,Int.reducePow,Int.reduceLE,Int.reduceLT,Int.reduceEq,Int.reduceNe,reduceIte,reduceCtorEq,ne_eq,not_true_eq_false,not_false_eq_true,imp_self,implies_true,bls,eq_self] <;> rfl)
      · intro z hz
        have : z = (l.getD 0 0 + m.getD 0 0) % 4294967296 := by simpa using hz
        omega
      · simp only [List.length_cons, List.length_nil]
        rw [v1, v2]
        simp [val] at e ⊢
        omega
  · dsimp only
    obtain ⟨ho, ho2, hc, hol, hv, hfin⟩ := hp
    have b1 := getD_lt hx.lt o.length
    have b2 := getD_lt hy.lt o.length
    have e := add_step (a := l.getD o.length 0) (b := m.getD o.length 0) hv
    rw [← val_take_succ, ← val_take_succ] at e
    have hN : Nm (st ++ (g ++ [some (u32s o)])) (.own (st.length + g.length) 0 o.length 1) o := Nm.own (rest := []) (by rw [get_app, get_app0, List.append_nil]; rfl) hol
    simp (disch:=first|assumption|omega|(simp only [lens];omega)) only [eqs,↓gvd_succ,↓gvd_zero,↓and_of,im_of,im_of trivial,vlt,hP,hst,initS,Nat.reduceBEq,Nat.reduceAdd,Nat.reduceMul,Nat.reduceSub,Nat.reduceDiv,Nat.reduceMod,Nat.reducePow,Nat.reduceLT,Nat.reduceLeDiff,Nat.reduceEqDiff,Int.reduceAdd,Int.reduceSub,Int.reduceNeg,Int.reduceMul,Int.reduceToNat,Int.reducePow,Int.reduceLE,Int.reduceLT,Int.reduceEq,Int.reduceNe,reduceIte,reduceCtorEq,ne_eq,not_true_eq_false,not_false_eq_true,imp_self,implies_true,bls,eq_self,h1,h2,h3,h4]
    refine G_ndec (fun h5 => ?c) (fun h5 => ?d)
    case' c =>
      simp (disch:=first|assumption|omega|(simp only [lens];omega)) only [eqs,↓gvd_succ,↓gvd_zero,↓and_of,im_of,im_of trivial,vlt,hP,hst,initS,Nat.reduceBEq,Nat.reduceAdd,Nat.reduceMul,Nat.reduceSub,Nat.reduceDiv,Nat.reduceMod,Nat.reducePow,Nat.reduceLT,Nat.reduceLeDiff,Nat.reduceEqDiff,Int.reduceAdd,Int.reduceSub,Int.reduceNeg,Int.reduceMul,Int.reduceToNat,Int.reducePow,Int.reduceLE,Int.reduceLT,Int.reduceEq,Int.reduceNe,reduceIte,reduceCtorEq,ne_eq,not_true_eq_false,not_false_eq_true,imp_self,implies_true,bls,eq_self,h1,h2,h3,h4,h5]
      refine G_ndec (fun h6 => ?c1) (fun h6 => ?c2)
      case' c1 =>
        simp (disch:=first|assumption|omega|(simp only [lens];omega)) only [eqs,↓gvd_succ,↓gvd_zero,↓and_of,im_of,im_of trivial,vlt,hP,hst,initS,Nat.reduceBEq,Nat.reduceAdd,Nat.reduceMul,Nat.reduceSub,Nat.reduceDiv,Nat.reduceMod,Nat.reducePow,Nat.reduceLT,Nat.reduceLeDiff,Nat.reduceEqDiff,Int.reduceAdd,Int.reduceSub,Int.reduceNeg,Int.reduceMul,Int.reduceToNat,Int.reducePow,Int.reduceLE,Int.reduceLT,Int.reduceEq,Int.reduceNe,reduceIte,reduceCtorEq,ne_eq,not_true_eq_false,not_false_eq_true,imp_self,implies_true,bls,eq_self,h1,h2,h3,h4,h5,h6]
        refine C_dec (fun h7 => ?_) (fun h7 => ?_)
        rotate_left
        · have hc0 : c = 0 := by omega
          subst hc0
          rw [Nat.zero_mul, Nat.add_zero, List.take_of_length_le (by omega), List.take_of_length_le (by omega)] at hv
          simp (disch:=first|assumption|omega|(simp only [lens];omega)) only [eqs,↓gvd_succ,↓gvd_zero,↓and_of,im_of,im_of trivial,vlt,hP,hst,initS,Nat.reduceBEq,Nat.reduceAdd,Nat.reduceMul,Nat.reduceSub,Nat.reduceDiv,Nat.reduceMod,Nat.reducePow,Nat.reduceLT,Nat.reduceLeDiff,Nat.reduceEqDiff,Int.reduceAdd,Int.reduceSub,Int.reduceNeg,Int.reduceMul,Int.reduceToNat,Int.reducePow,Int.reduceLE,Int.reduceLT,Int.reduceEq,Int.reduceNe,reduceIte,reduceCtorEq,ne_eq,not_true_eq_false,not_false_eq_true,imp_self,implies_true,bls,eq_self]
          refine E_call (hP ▸ s_rNorm) ⟨_, o, rfl, hN, by omega, ?_⟩
          intro rest hrest
          rw [hv]
          simp (disch:=first|assumption|omega|(simp only [lens];omega)) only [eqs,↓gvd_succ,↓gvd_zero,↓and_of,im_of,im_of trivial,vlt,hP,hst,initS,Nat.reduceBEq,Nat.reduceAdd,Nat.reduceMul,Nat.reduceSub,Nat.reduceDiv,Nat.reduceMod,Nat.reducePow,Nat.reduceLT,Nat.reduceLeDiff,Nat.reduceEqDiff,Int.reduceAdd,Int.reduceSub,Int.reduceNeg,Int.reduceMul,Int.reduceToNat,Int.reducePow,Int.reduceLE,Int.reduceLT,Int.reduceEq,Int.reduceNe,reduceIte,reduceCtorEq,ne_eq,not_true_eq_false,not_false_eq_true,imp_self,implies_true,bls,eq_self]
          exact hK (g ++ [some (u32s o), some (u32s (limbs (val l + val m)) ++ rest)]) (g.length + 1) rest hrest (by rw [get_app]; rfl)
        simp (disch:=first|assumption|omega|(simp only [lens];omega)) only [eqs,↓gvd_succ,↓gvd_zero,↓and_of,im_of,im_of trivial,vlt,hP,hst,initS,Nat.reduceBEq,Nat.reduceAdd,Nat.reduceMul,Nat.reduceSub,Nat.reduceDiv,Nat.reduceMod,Nat.reducePow,Nat.reduceLT,Nat.reduceLeDiff,Nat.reduceEqDiff,Int.reduceAdd,Int.reduceSub,Int.reduceNeg,Int.reduceMul,Int.reduceToNat,Int.reducePow,Int.reduceLE,Int.reduceLT,Int.reduceEq,Int.reduceNe,reduceIte,reduceCtorEq,ne_eq,not_true_eq_false,not_false_eq_true,imp_self,implies_true,bls,eq_self,h1,h2,h3,h4,h5,h6]
      case' c2 => simp (disch:=first|assumption|omega|(simp only [lens];omega)) only [eqs,↓gvd_succ,↓gvd_zero,↓and_of,im_of,im_of trivial,vlt,hP,hst,initS,Nat.reduceBEq,Nat.reduceAdd,Nat.reduceMul,Nat.reduceSub,Nat.reduceDiv,Nat.reduceMod,Nat.reducePow,Nat.reduceLT,Nat.reduceLeDiff,Nat.reduceEqDiff,Int.reduceAdd,Int.reduceSub,Int.reduceNeg,Int.reduceMul,Int.reduceToNat,Int.reducePow,Int.reduceLE,Int.reduceLT,Int.reduceEq,Int.reduceNe,reduceIte,reduceCtorEq,ne_eq,not_true_eq_false,not_false_eq_true,imp_self,implies_true,bls,eq_self,h1,h2,h3,h4,h5,h6]
    case' d =>
      simp (disch:=first|assumption|omega|(simp only [lens];omega)) only [eqs,↓gvd_succ,↓gvd_zero,↓and_of,im_of,im_of trivial,vlt,hP,hst,initS,Nat.reduceBEq,Nat.reduceAdd,Nat.reduceMul,Nat.reduceSub,Nat.reduceDiv,Nat.reduceMod,Nat.reducePow,Nat.reduceLT,Nat.reduceLeDiff,Nat.reduceEqDiff,Int.reduceAdd,Int.reduceSub,Int.reduceNeg,Int.reduceMul,Int.reduceToNat,Int.reducePow,Int.reduceLE,Int.reduceLT,Int.reduceEq,Int.reduceNe,reduceIte,reduceCtorEq,ne_eq,not_true_eq_false,not_false_eq_true,imp_self,implies_true,bls,eq_self,h1,h2,h3,h4,h5]
    all_goals
      refine E_call (hP ▸ s_limb) ⟨x, l, o.length, rfl, hx.app _, by omega, ?_⟩
      simp (disch:=first|assumption|omega|(simp only [lens];omega)) only [eqs,↓gvd_succ,↓gvd_zero,↓and_of,im_of,im_of trivial,vlt,hP,hst,initS,Nat.reduceBEq,Nat.reduceAdd,Nat.reduceMul,Nat.reduceSub,Nat.reduceDiv,Nat.reduceMod,Nat.reducePow,Nat.reduceLT,Nat.reduceLeDiff,Nat.reduceEqDiff,Int.reduceAdd,Int.reduceSub,Int.reduceNeg,Int.reduceMul,Int.reduceToNat,Int.reducePow,Int.reduceLE,Int.reduceLT,Int.reduceEq,Int.reduceNe,reduceIte,reduceCtorEq,ne_eq,not_true_eq_false,not_false_eq_true,imp_self,implies_true,bls,eq_self]
      refine E_call (hP ▸ s_limb) ⟨y, m, o.length, rfl, hy.app _, by omega, ?_⟩
      have e5 : IntKind.u32.wrap ((l.getD o.length 0 : Nat) + (m.getD o.length 0 : Nat) + (c : Int)) = (((l.getD o.length 0 + m.getD o.length 0 + c) % 4294967296 : Nat) : Int) := by rw [IntKind.wrap_u32]; omega
      simp (disch:=first|assumption|omega|(simp only [lens];omega)) only [eqs,↓gvd_succ,↓gvd_zero,↓and_of,im_of,im_of trivial,vlt,hP,hst,initS,Nat.reduceBEq,Nat.reduceAdd,Nat.reduceMul,Nat.reduceSub,Nat.reduceDiv,Nat.reduceMod,Nat.reducePow,Nat.reduceLT,Nat.reduceLeDiff,Nat.reduceEqDiff,Int.reduceAdd,Int.reduceSub,Int.reduceNeg,Int.reduceMul,Int.reduceToNat,Int.reducePow,Int.reduceLE,Int.reduceLT,Int.reduceEq,Int.reduceNe,reduceIte,reduceCtorEq,ne_eq,not_true_eq_false,not_false_eq_true,imp_self,implies_true,bls,eq_self,e5]
      have z1 : 100000 ≤ o.length → l.getD o.length 0 = 0 ∧ m.getD o.length 0 = 0 := fun h => ⟨getD_out (by omega), getD_out (by omega)⟩
      obtain ⟨q, hq⟩ : ∃ q, (l.getD o.length 0 + m.getD o.length 0 + c) % 4294967296 = q := ⟨_, rfl⟩
      rw [hq] at e e5
      refine again (some (o ++ [q], (l.getD o.length 0 + m.getD o.length 0 + c) / 4294967296, g ++ [none, some (AV.val (Value.int IntKind.u32 ((q : Nat) : Int)) :: u32s (List.drop 1 (List.replicate 1 0)))])) ⟨by simp, by simp; omega, by omega, ?_, ?_, ?_⟩ (by simp; omega) (by
        rw [hq]
        simp [u32s]) (by
        dsimp only
        simp (disch:=first|assumption|omega|(simp only [lens];omega)) only [eqs,↓gvd_succ,↓gvd_zero,↓and_of,im_of,im_of trivial,vlt,hP,hst,initS,Nat.reduceBEq,Nat.reduceAdd,Nat.reduceMul,Nat.reduceSub,Nat.reduceDiv,Nat.reduceMod,Nat.reducePow,Nat.reduceLT,Nat.reduceLeDiff,Nat.reduceEqDiff,Int.reduceAdd,Int.reduceSub,Int.reduceNeg,Int.reduceMul,Int.reduceToNat,Int.reducePow,Int.reduceLE,Int.reduceLT,Int.reduceEq,Int.reduceNe,reduceIte,reduceCtorEq,ne_eq,not_true_eq_false,not_false_eq_true,imp_self,implies_true,bls,eq_self] <;> rfl)
      · intro z hz
        rcases List.mem_append.1 hz with h8 | h8
        · exact hol z h8
        · have : z = q := by simpa using h8
          omega
      · rw [List.length_append, List.length_cons, List.length_nil, val_append]
        simp only [val, Nat.mul_zero, Nat.add_zero, Nat.zero_add]
        exact e
      · intro h8
        simp at h8
        have := z1 (by omega)
        omega

theorem s_rAdd : PSpec Tryd.prog 104 (RrAdd fresh) := by
  refine tidy s_rAdd0 ?_
  rintro xs st K ⟨x, y, l, m, rfl, hx, hy, hl, hm, hK⟩
  exact ⟨x, y, l, m, rfl, hx, hy, hl, hm, fresh_tidy hK⟩
end Go.Proofs.Pv

/- The document's answer's walks, third part. -/
namespace Go.Proofs.Pv
open Go Go.RowKit Go.Proofs
set_option maxRecDepth 20000

def RrCmp (F : St → Int → (AV → St → Prop) → Prop) (xs : List AV) (st : St) (K : AV → St → Prop) : Prop := ∃ x y l m, xs = [x, y] ∧ Nm st x l ∧ Nm st y m ∧ l.length ≤ 100000 ∧ m.length ≤ 100000 ∧ F st (cmpI (val l) (val m)) K
end Go.Proofs.Pv
