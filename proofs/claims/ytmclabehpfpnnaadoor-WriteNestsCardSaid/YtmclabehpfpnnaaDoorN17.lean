/- write: digit, part, Plain. -/
import Derived.Test.YtmclabehpfpnnaaDoorN11
import Derived.Test.YtmclabehpfpnnaaDoorQ6
import Derived.Test.YtmclabehpfpnnaaDoorW14
set_option linter.unusedSimpArgs false
set_option linter.unusedVariables false
namespace Go.Proofs.Pv
open Go Go.RowKit Go.Proofs
set_option maxRecDepth 20000

def digB (c : Nat) : Bool := decide (48 ≤ c) && decide (c ≤ 57)
def signsW : List Nat := [33, 36, 37, 38, 42, 47, 58, 60, 61, 62, 63, 94, 95, 126, 43, 45, 46, 64]
def partB (c : Nat) : Bool := digB c || (decide (97 ≤ c ||| 32) && decide (c ||| 32 ≤ 122)) || decide (c ∈ signsW)
/-- What the table of signs holds. -/
def GW (w : World) : Prop := VRel w [] (.pointer (some ⟨0, 0, none⟩)) (.imp (signsW.map fun (n : Nat) => AV.val (.int .u8 (n : Int))))

section
variable {X : Cx} {k : List Fr} {Q : Post} {s : Sl} {st : St} {d : Bool} {full rest : List Oper} {dst : Option Nat}
theorem F_loadW {u} {T : TI} {v : Value} {cs : List AV} (h : VRel X.w0 [] v (.imp cs)) (hk : F d X dst full rest k Q () s st (.load T (.imp cs))) : F d X dst full rest k Q u s st (.load T (.val v)) := ⟨cs, h, hk⟩
end
def RDig (xs : List AV) (st : St) (K : AV → St → Prop) : Prop := ∃ c : Nat, xs = [.val (.int .u8 (c : Int))] ∧ K (.val (.bool (digB c))) st
theorem s_wdigit : PSpec Tryd.prog 34 RDig := by
  refine fspec_of (fn := Tryd.f34) 1 [.tmp 2] (by kernel_rfl) rfl rfl (by kernel_rfl) mixed (by rintro _ _ _ ⟨c, rfl, _⟩; rfl) ?_
  rintro X _ st K hP hst ⟨c, rfl, hK⟩
  unfold digB at hK
  refine vc_V ?_
  simp (disch:=first|assumption|omega|(simp only [lens];omega)) only [eqs,↓gvd_succ,↓gvd_zero,↓and_of,im_of,im_of trivial,vlt,hP,hst,initS,Nat.reduceBEq,Nat.reduceAdd,Nat.reduceMul,Nat.reduceSub,Nat.reduceDiv,Nat.reduceMod,Nat.reducePow,Nat.reduceLT,Nat.reduceLeDiff,Nat.reduceEqDiff,Int.reduceAdd,Int.reduceSub,Int.reduceNeg,Int.reduceMul,Int.reduceToNat,Int.reducePow,Int.reduceLE,Int.reduceLT,Int.reduceEq,Int.reduceNe,reduceIte,reduceCtorEq,ne_eq,not_true_eq_false,not_false_eq_true,imp_self,implies_true,bls,eq_self]
  refine G_dec (fun h => ?_) (fun h => ?_)
  · rw [decide_eq_true (by omega : 48 ≤ c), Bool.true_and] at hK
    simp (disch:=first|assumption|omega|(simp only [lens];omega)) only [eqs,↓gvd_succ,↓gvd_zero,↓and_of,im_of,im_of trivial,vlt,hP,hst,initS,Nat.reduceBEq,Nat.reduceAdd,Nat.reduceMul,Nat.reduceSub,Nat.reduceDiv,Nat.reduceMod,Nat.reducePow,Nat.reduceLT,Nat.reduceLeDiff,Nat.reduceEqDiff,Int.reduceAdd,Int.reduceSub,Int.reduceNeg,Int.reduceMul,Int.reduceToNat,Int.reducePow,Int.reduceLE,Int.reduceLT,Int.reduceEq,Int.reduceNe,reduceIte,reduceCtorEq,ne_eq,not_true_eq_false,not_false_eq_true,imp_self,implies_true,bls,eq_self,h]
    have e : decide ((c : Int) ≤ 57) = decide (c ≤ 57) := decide_eq_decide.2 (by omega)
    rw [e]
    exact hK
  · rw [decide_eq_false (by omega : ¬48 ≤ c), Bool.false_and] at hK
    simp (disch:=first|assumption|omega|(simp only [lens];omega)) only [eqs,↓gvd_succ,↓gvd_zero,↓and_of,im_of,im_of trivial,vlt,hP,hst,initS,Nat.reduceBEq,Nat.reduceAdd,Nat.reduceMul,Nat.reduceSub,Nat.reduceDiv,Nat.reduceMod,Nat.reducePow,Nat.reduceLT,Nat.reduceLeDiff,Nat.reduceEqDiff,Int.reduceAdd,Int.reduceSub,Int.reduceNeg,Int.reduceMul,Int.reduceToNat,Int.reducePow,Int.reduceLE,Int.reduceLT,Int.reduceEq,Int.reduceNe,reduceIte,reduceCtorEq,ne_eq,not_true_eq_false,not_false_eq_true,imp_self,implies_true,bls,eq_self,h]
    exact hK
theorem or32W (c : Nat) (hc : c < 256) : bitV BinOp.or IntKind.u8 (c : Int) 32 = ((c ||| 32 : Nat) : Int) := by
  have : ∀ c : Fin 256, bitV BinOp.or IntKind.u8 ((c.val : Nat) : Int) 32 = ((c.val ||| 32 : Nat) : Int) := by decide +kernel
  exact this ⟨c, hc⟩
theorem wty_sg : ti Tryd.prog 70 = .arr 18 1 18 false (List.replicate 18 (.int .u8 0)) := by kernel_rfl
theorem wr_good {n e sz : Nat} {a : Bool} {z : List Value} : (TI.arr n e sz a z).good = true := rfl
theorem wr_size {n e sz : Nat} {a : Bool} {z : List Value} : (TI.arr n e sz a z).size = sz := rfl
theorem wr_agg {n e sz : Nat} {a : Bool} {z : List Value} : (TI.arr n e sz a z).isAgg = true := rfl
theorem wsg_take : List.take 18 (signsW.map fun (n : Nat) => AV.val (.int .u8 (n : Int))) = signsW.map fun (n : Nat) => AV.val (.int .u8 (n : Int)) := rfl
theorem wsg_len : (signsW.map fun (n : Nat) => AV.val (.int .u8 (n : Int))).length = 18 := rfl
theorem wsg_at {i : Nat} (h : i < 18) : ∃ x, signsW[i]? = some x ∧ (signsW.map fun (n : Nat) => AV.val (.int .u8 (n : Int)))[i]? = some (.val (.int .u8 (x : Int))) := by
  have hl : i < signsW.length := h
  exact ⟨signsW[i], List.getElem?_eq_getElem hl, by rw [List.getElem?_map, List.getElem?_eq_getElem hl]; rfl⟩
def RPartB (xs : List AV) (st : St) (K : AV → St → Prop) : Prop := ∃ c : Nat, xs = [.val (.int .u8 (c : Int))] ∧ c < 256 ∧ K (.val (.bool (partB c))) st
theorem s_part : ∀ w0, GW w0 → PSpecAt Tryd.prog w0 35 RPartB := by
  refine gspec_of (fn := Tryd.f35) 1 [.tmp 2] (by kernel_rfl) rfl rfl (by kernel_rfl) mixed (by rintro _ _ _ ⟨p, rfl, _⟩; rfl) ?_
  rintro X _ st K hP hst hG ⟨c, rfl, hc, hK⟩
  refine vc_V ?_
  simp (disch:=first|assumption|omega|(simp only [lens];omega)) only [eqs,↓gvd_succ,↓gvd_zero,↓and_of,im_of,im_of trivial,vlt,hP,hst,initS,Nat.reduceBEq,Nat.reduceAdd,Nat.reduceMul,Nat.reduceSub,Nat.reduceDiv,Nat.reduceMod,Nat.reducePow,Nat.reduceLT,Nat.reduceLeDiff,Nat.reduceEqDiff,Int.reduceAdd,Int.reduceSub,Int.reduceNeg,Int.reduceMul,Int.reduceToNat,Int.reducePow,Int.reduceLE,Int.reduceLT,Int.reduceEq,Int.reduceNe,reduceIte,reduceCtorEq,ne_eq,not_true_eq_false,not_false_eq_true,imp_self,implies_true,bls,eq_self]
  refine E_call (hP ▸ s_wdigit) ⟨c, rfl, ?_⟩
  simp (disch:=first|assumption|omega|(simp only [lens];omega)) only [eqs,↓gvd_succ,↓gvd_zero,↓and_of,im_of,im_of trivial,vlt,hP,hst,initS,Nat.reduceBEq,Nat.reduceAdd,Nat.reduceMul,Nat.reduceSub,Nat.reduceDiv,Nat.reduceMod,Nat.reducePow,Nat.reduceLT,Nat.reduceLeDiff,Nat.reduceEqDiff,Int.reduceAdd,Int.reduceSub,Int.reduceNeg,Int.reduceMul,Int.reduceToNat,Int.reducePow,Int.reduceLE,Int.reduceLT,Int.reduceEq,Int.reduceNe,reduceIte,reduceCtorEq,ne_eq,not_true_eq_false,not_false_eq_true,imp_self,implies_true,bls,eq_self]
  unfold partB at hK
  have ho := or32W c hc
  generalize hv : c ||| 32 = v at hK ho
  refine G_bool (fun h => ?_) (fun h => ?_)
  rotate_left
  · have h : digB c = true := by simpa using h
    rw [h] at hK
    simp (disch:=first|assumption|omega|(simp only [lens];omega)) only [eqs,↓gvd_succ,↓gvd_zero,↓and_of,im_of,im_of trivial,vlt,hP,hst,initS,Nat.reduceBEq,Nat.reduceAdd,Nat.reduceMul,Nat.reduceSub,Nat.reduceDiv,Nat.reduceMod,Nat.reducePow,Nat.reduceLT,Nat.reduceLeDiff,Nat.reduceEqDiff,Int.reduceAdd,Int.reduceSub,Int.reduceNeg,Int.reduceMul,Int.reduceToNat,Int.reducePow,Int.reduceLE,Int.reduceLT,Int.reduceEq,Int.reduceNe,reduceIte,reduceCtorEq,ne_eq,not_true_eq_false,not_false_eq_true,imp_self,implies_true,bls,eq_self,h]
    exact hK
  rw [h, Bool.false_or] at hK
  simp (disch:=first|assumption|omega|(simp only [lens];omega)) only [eqs,↓gvd_succ,↓gvd_zero,↓and_of,im_of,im_of trivial,vlt,hP,hst,initS,Nat.reduceBEq,Nat.reduceAdd,Nat.reduceMul,Nat.reduceSub,Nat.reduceDiv,Nat.reduceMod,Nat.reducePow,Nat.reduceLT,Nat.reduceLeDiff,Nat.reduceEqDiff,Int.reduceAdd,Int.reduceSub,Int.reduceNeg,Int.reduceMul,Int.reduceToNat,Int.reducePow,Int.reduceLE,Int.reduceLT,Int.reduceEq,Int.reduceNe,reduceIte,reduceCtorEq,ne_eq,not_true_eq_false,not_false_eq_true,imp_self,implies_true,bls,eq_self,h,ho]
  refine G_dec (fun h1 => ?_) (fun h1 => ?_)
  · simp (disch:=first|assumption|omega|(simp only [lens];omega)) only [eqs,↓gvd_succ,↓gvd_zero,↓and_of,im_of,im_of trivial,vlt,hP,hst,initS,Nat.reduceBEq,Nat.reduceAdd,Nat.reduceMul,Nat.reduceSub,Nat.reduceDiv,Nat.reduceMod,Nat.reducePow,Nat.reduceLT,Nat.reduceLeDiff,Nat.reduceEqDiff,Int.reduceAdd,Int.reduceSub,Int.reduceNeg,Int.reduceMul,Int.reduceToNat,Int.reducePow,Int.reduceLE,Int.reduceLT,Int.reduceEq,Int.reduceNe,reduceIte,reduceCtorEq,ne_eq,not_true_eq_false,not_false_eq_true,imp_self,implies_true,bls,eq_self,h1,ho]
    refine C_dec (fun h2 => ?_) (fun h2 => ?_)
    · rw [decide_eq_true (by omega), decide_eq_true (by omega)] at hK
      simp (disch:=first|assumption|omega|(simp only [lens];omega)) only [eqs,↓gvd_succ,↓gvd_zero,↓and_of,im_of,im_of trivial,vlt,hP,hst,initS,Nat.reduceBEq,Nat.reduceAdd,Nat.reduceMul,Nat.reduceSub,Nat.reduceDiv,Nat.reduceMod,Nat.reducePow,Nat.reduceLT,Nat.reduceLeDiff,Nat.reduceEqDiff,Int.reduceAdd,Int.reduceSub,Int.reduceNeg,Int.reduceMul,Int.reduceToNat,Int.reducePow,Int.reduceLE,Int.reduceLT,Int.reduceEq,Int.reduceNe,reduceIte,reduceCtorEq,ne_eq,not_true_eq_false,not_false_eq_true,imp_self,implies_true,bls,eq_self]
      exact hK
    · rw [decide_eq_false (by omega : ¬v ≤ 122), Bool.and_false, Bool.false_or] at hK
      simp (disch:=first|assumption|omega|(simp only [lens];omega)) only [eqs,↓gvd_succ,↓gvd_zero,↓and_of,im_of,im_of trivial,vlt,hP,hst,initS,Nat.reduceBEq,Nat.reduceAdd,Nat.reduceMul,Nat.reduceSub,Nat.reduceDiv,Nat.reduceMod,Nat.reducePow,Nat.reduceLT,Nat.reduceLeDiff,Nat.reduceEqDiff,Int.reduceAdd,Int.reduceSub,Int.reduceNeg,Int.reduceMul,Int.reduceToNat,Int.reducePow,Int.reduceLE,Int.reduceLT,Int.reduceEq,Int.reduceNe,reduceIte,reduceCtorEq,ne_eq,not_true_eq_false,not_false_eq_true,imp_self,implies_true,bls,eq_self,ev_global]
      refine F_loadW hG ?_
      simp (disch:=first|assumption|omega|(simp only [lens];omega)) only [eqs,↓gvd_succ,↓gvd_zero,↓and_of,im_of,im_of trivial,vlt,hP,hst,initS,Nat.reduceBEq,Nat.reduceAdd,Nat.reduceMul,Nat.reduceSub,Nat.reduceDiv,Nat.reduceMod,Nat.reducePow,Nat.reduceLT,Nat.reduceLeDiff,Nat.reduceEqDiff,Int.reduceAdd,Int.reduceSub,Int.reduceNeg,Int.reduceMul,Int.reduceToNat,Int.reducePow,Int.reduceLE,Int.reduceLT,Int.reduceEq,Int.reduceNe,reduceIte,reduceCtorEq,ne_eq,not_true_eq_false,not_false_eq_true,imp_self,implies_true,bls,eq_self,wty_sg,wsg_len,wr_good,wr_size,wr_agg,wsg_take,ev_global]
      refine V_loop (ι := Nat) (fun e => [(18, .val (.int .i64 (e : Int))), (17, .agg (signsW.map fun (n : Nat) => AV.val (.int .u8 (n : Int)))), (0, .val (.int .u8 (c : Int)))]) (fun e => st) (fun e => e ≤ 18 ∧ ∀ (j x : Nat), j < e → signsW[j]? = some x → x ≠ c) (fun e => 18 - e) 0 ⟨by simp, by simp⟩ rfl (by simp (disch:=first|assumption|omega|(simp only [lens];omega)) only [eqs,↓gvd_succ,↓gvd_zero,↓and_of,im_of,im_of trivial,vlt,hP,hst,initS,Nat.reduceBEq,Nat.reduceAdd,Nat.reduceMul,Nat.reduceSub,Nat.reduceDiv,Nat.reduceMod,Nat.reducePow,Nat.reduceLT,Nat.reduceLeDiff,Nat.reduceEqDiff,Int.reduceAdd,Int.reduceSub,Int.reduceNeg,Int.reduceMul,Int.reduceToNat,Int.reducePow,Int.reduceLE,Int.reduceLT,Int.reduceEq,Int.reduceNe,reduceIte,reduceCtorEq,ne_eq,not_true_eq_false,not_false_eq_true,imp_self,implies_true,bls,eq_self] <;> rfl) ?_
      rintro i ⟨hi, hj⟩
      simp (disch:=first|assumption|omega|(simp only [lens];omega)) only [eqs,↓gvd_succ,↓gvd_zero,↓and_of,im_of,im_of trivial,vlt,hP,hst,initS,Nat.reduceBEq,Nat.reduceAdd,Nat.reduceMul,Nat.reduceSub,Nat.reduceDiv,Nat.reduceMod,Nat.reducePow,Nat.reduceLT,Nat.reduceLeDiff,Nat.reduceEqDiff,Int.reduceAdd,Int.reduceSub,Int.reduceNeg,Int.reduceMul,Int.reduceToNat,Int.reducePow,Int.reduceLE,Int.reduceLT,Int.reduceEq,Int.reduceNe,reduceIte,reduceCtorEq,ne_eq,not_true_eq_false,not_false_eq_true,imp_self,implies_true,bls,eq_self]
      refine C_dec (fun h4 => ?_) (fun h4 => ?_)
      · have hx := wsg_at (i := i) (by omega)
        obtain ⟨x, hx1, hx2⟩ := hx
        simp (disch:=first|assumption|omega|(simp only [lens];omega)) only [eqs,↓gvd_succ,↓gvd_zero,↓and_of,im_of,im_of trivial,vlt,hP,hst,initS,Nat.reduceBEq,Nat.reduceAdd,Nat.reduceMul,Nat.reduceSub,Nat.reduceDiv,Nat.reduceMod,Nat.reducePow,Nat.reduceLT,Nat.reduceLeDiff,Nat.reduceEqDiff,Int.reduceAdd,Int.reduceSub,Int.reduceNeg,Int.reduceMul,Int.reduceToNat,Int.reducePow,Int.reduceLE,Int.reduceLT,Int.reduceEq,Int.reduceNe,reduceIte,reduceCtorEq,ne_eq,not_true_eq_false,not_false_eq_true,imp_self,implies_true,bls,eq_self,wty_sg]
        refine F_idx (i := i) hx2 rfl (by omega) ?_
        simp (disch:=first|assumption|omega|(simp only [lens];omega)) only [eqs,↓gvd_succ,↓gvd_zero,↓and_of,im_of,im_of trivial,vlt,hP,hst,initS,Nat.reduceBEq,Nat.reduceAdd,Nat.reduceMul,Nat.reduceSub,Nat.reduceDiv,Nat.reduceMod,Nat.reducePow,Nat.reduceLT,Nat.reduceLeDiff,Nat.reduceEqDiff,Int.reduceAdd,Int.reduceSub,Int.reduceNeg,Int.reduceMul,Int.reduceToNat,Int.reducePow,Int.reduceLE,Int.reduceLT,Int.reduceEq,Int.reduceNe,reduceIte,reduceCtorEq,ne_eq,not_true_eq_false,not_false_eq_true,imp_self,implies_true,bls,eq_self]
        refine C_dec (fun h5 => ?_) (fun h5 => ?_)
        · have : x = c := by omega
          subst this
          rw [decide_eq_true (List.mem_of_getElem? hx1)] at hK
          simp (disch:=first|assumption|omega|(simp only [lens];omega)) only [eqs,↓gvd_succ,↓gvd_zero,↓and_of,im_of,im_of trivial,vlt,hP,hst,initS,Nat.reduceBEq,Nat.reduceAdd,Nat.reduceMul,Nat.reduceSub,Nat.reduceDiv,Nat.reduceMod,Nat.reducePow,Nat.reduceLT,Nat.reduceLeDiff,Nat.reduceEqDiff,Int.reduceAdd,Int.reduceSub,Int.reduceNeg,Int.reduceMul,Int.reduceToNat,Int.reducePow,Int.reduceLE,Int.reduceLT,Int.reduceEq,Int.reduceNe,reduceIte,reduceCtorEq,ne_eq,not_true_eq_false,not_false_eq_true,imp_self,implies_true,bls,eq_self]
          exact hK
        · simp (disch:=first|assumption|omega|(simp only [lens];omega)) only [eqs,↓gvd_succ,↓gvd_zero,↓and_of,im_of,im_of trivial,vlt,hP,hst,initS,Nat.reduceBEq,Nat.reduceAdd,Nat.reduceMul,Nat.reduceSub,Nat.reduceDiv,Nat.reduceMod,Nat.reducePow,Nat.reduceLT,Nat.reduceLeDiff,Nat.reduceEqDiff,Int.reduceAdd,Int.reduceSub,Int.reduceNeg,Int.reduceMul,Int.reduceToNat,Int.reducePow,Int.reduceLE,Int.reduceLT,Int.reduceEq,Int.reduceNe,reduceIte,reduceCtorEq,ne_eq,not_true_eq_false,not_false_eq_true,imp_self,implies_true,bls,eq_self]
          exact again (i + 1) ⟨by omega, fun j y hj2 hy => by
            by_cases hji : j = i
            · subst hji; rw [hx1] at hy; cases hy; omega
            · exact hj j y (by omega) hy⟩ (by omega) rfl (by simp (disch:=first|assumption|omega|(simp only [lens];omega)) only [eqs,↓gvd_succ,↓gvd_zero,↓and_of,im_of,im_of trivial,vlt,hP,hst,initS,Nat.reduceBEq,Nat.reduceAdd,Nat.reduceMul,Nat.reduceSub,Nat.reduceDiv,Nat.reduceMod,Nat.reducePow,Nat.reduceLT,Nat.reduceLeDiff,Nat.reduceEqDiff,Int.reduceAdd,Int.reduceSub,Int.reduceNeg,Int.reduceMul,Int.reduceToNat,Int.reducePow,Int.reduceLE,Int.reduceLT,Int.reduceEq,Int.reduceNe,reduceIte,reduceCtorEq,ne_eq,not_true_eq_false,not_false_eq_true,imp_self,implies_true,bls,eq_self] <;> rfl)
      · rw [decide_eq_false (fun hm => by
          obtain ⟨j, hjl, hje⟩ := List.getElem_of_mem hm
          exact hj j c (by have : signsW.length = 18 := rfl; omega) (by rw [List.getElem?_eq_getElem hjl, hje]) rfl)] at hK
        simp (disch:=first|assumption|omega|(simp only [lens];omega)) only [eqs,↓gvd_succ,↓gvd_zero,↓and_of,im_of,im_of trivial,vlt,hP,hst,initS,Nat.reduceBEq,Nat.reduceAdd,Nat.reduceMul,Nat.reduceSub,Nat.reduceDiv,Nat.reduceMod,Nat.reducePow,Nat.reduceLT,Nat.reduceLeDiff,Nat.reduceEqDiff,Int.reduceAdd,Int.reduceSub,Int.reduceNeg,Int.reduceMul,Int.reduceToNat,Int.reducePow,Int.reduceLE,Int.reduceLT,Int.reduceEq,Int.reduceNe,reduceIte,reduceCtorEq,ne_eq,not_true_eq_false,not_false_eq_true,imp_self,implies_true,bls,eq_self]
        exact hK
  · rw [decide_eq_false (by omega : ¬97 ≤ v), Bool.false_and, Bool.false_or] at hK
    simp (disch:=first|assumption|omega|(simp only [lens];omega)) only [eqs,↓gvd_succ,↓gvd_zero,↓and_of,im_of,im_of trivial,vlt,hP,hst,initS,Nat.reduceBEq,Nat.reduceAdd,Nat.reduceMul,Nat.reduceSub,Nat.reduceDiv,Nat.reduceMod,Nat.reducePow,Nat.reduceLT,Nat.reduceLeDiff,Nat.reduceEqDiff,Int.reduceAdd,Int.reduceSub,Int.reduceNeg,Int.reduceMul,Int.reduceToNat,Int.reducePow,Int.reduceLE,Int.reduceLT,Int.reduceEq,Int.reduceNe,reduceIte,reduceCtorEq,ne_eq,not_true_eq_false,not_false_eq_true,imp_self,implies_true,bls,eq_self,h1,ev_global]
    refine F_loadW hG ?_
    simp (disch:=first|assumption|omega|(simp only [lens];omega)) only [eqs,↓gvd_succ,↓gvd_zero,↓and_of,im_of,im_of trivial,vlt,hP,hst,initS,Nat.reduceBEq,Nat.reduceAdd,Nat.reduceMul,Nat.reduceSub,Nat.reduceDiv,Nat.reduceMod,Nat.reducePow,Nat.reduceLT,Nat.reduceLeDiff,Nat.reduceEqDiff,Int.reduceAdd,Int.reduceSub,Int.reduceNeg,Int.reduceMul,Int.reduceToNat,Int.reducePow,Int.reduceLE,Int.reduceLT,Int.reduceEq,Int.reduceNe,reduceIte,reduceCtorEq,ne_eq,not_true_eq_false,not_false_eq_true,imp_self,implies_true,bls,eq_self,wty_sg,wsg_len,wr_good,wr_size,wr_agg,wsg_take,ev_global]
    refine V_loop (ι := Nat) (fun e => [(18, .val (.int .i64 (e : Int))), (17, .agg (signsW.map fun (n : Nat) => AV.val (.int .u8 (n : Int)))), (0, .val (.int .u8 (c : Int)))]) (fun e => st) (fun e => e ≤ 18 ∧ ∀ (j x : Nat), j < e → signsW[j]? = some x → x ≠ c) (fun e => 18 - e) 0 ⟨by simp, by simp⟩ rfl (by simp (disch:=first|assumption|omega|(simp only [lens];omega)) only [eqs,↓gvd_succ,↓gvd_zero,↓and_of,im_of,im_of trivial,vlt,hP,hst,initS,Nat.reduceBEq,Nat.reduceAdd,Nat.reduceMul,Nat.reduceSub,Nat.reduceDiv,Nat.reduceMod,Nat.reducePow,Nat.reduceLT,Nat.reduceLeDiff,Nat.reduceEqDiff,Int.reduceAdd,Int.reduceSub,Int.reduceNeg,Int.reduceMul,Int.reduceToNat,Int.reducePow,Int.reduceLE,Int.reduceLT,Int.reduceEq,Int.reduceNe,reduceIte,reduceCtorEq,ne_eq,not_true_eq_false,not_false_eq_true,imp_self,implies_true,bls,eq_self] <;> rfl) ?_
    rintro i ⟨hi, hj⟩
    simp (disch:=first|assumption|omega|(simp only [lens];omega)) only [eqs,↓gvd_succ,↓gvd_zero,↓and_of,im_of,im_of trivial,vlt,hP,hst,initS,Nat.reduceBEq,Nat.reduceAdd,Nat.reduceMul,Nat.reduceSub,Nat.reduceDiv,Nat.reduceMod,Nat.reducePow,Nat.reduceLT,Nat.reduceLeDiff,Nat.reduceEqDiff,Int.reduceAdd,Int.reduceSub,Int.reduceNeg,Int.reduceMul,Int.reduceToNat,Int.reducePow,Int.reduceLE,Int.reduceLT,Int.reduceEq,Int.reduceNe,reduceIte,reduceCtorEq,ne_eq,not_true_eq_false,not_false_eq_true,imp_self,implies_true,bls,eq_self]
    refine C_dec (fun h4 => ?_) (fun h4 => ?_)
    · have hx := wsg_at (i := i) (by omega)
      obtain ⟨x, hx1, hx2⟩ := hx
      simp (disch:=first|assumption|omega|(simp only [lens];omega)) only [eqs,↓gvd_succ,↓gvd_zero,↓and_of,im_of,im_of trivial,vlt,hP,hst,initS,Nat.reduceBEq,Nat.reduceAdd,Nat.reduceMul,Nat.reduceSub,Nat.reduceDiv,Nat.reduceMod,Nat.reducePow,Nat.reduceLT,Nat.reduceLeDiff,Nat.reduceEqDiff,Int.reduceAdd,Int.reduceSub,Int.reduceNeg,Int.reduceMul,Int.reduceToNat,Int.reducePow,Int.reduceLE,Int.reduceLT,Int.reduceEq,Int.reduceNe,reduceIte,reduceCtorEq,ne_eq,not_true_eq_false,not_false_eq_true,imp_self,implies_true,bls,eq_self,wty_sg]
      refine F_idx (i := i) hx2 rfl (by omega) ?_
      simp (disch:=first|assumption|omega|(simp only [lens];omega)) only [eqs,↓gvd_succ,↓gvd_zero,↓and_of,im_of,im_of trivial,vlt,hP,hst,initS,Nat.reduceBEq,Nat.reduceAdd,Nat.reduceMul,Nat.reduceSub,Nat.reduceDiv,Nat.reduceMod,Nat.reducePow,Nat.reduceLT,Nat.reduceLeDiff,Nat.reduceEqDiff,Int.reduceAdd,Int.reduceSub,Int.reduceNeg,Int.reduceMul,Int.reduceToNat,Int.reducePow,Int.reduceLE,Int.reduceLT,Int.reduceEq,Int.reduceNe,reduceIte,reduceCtorEq,ne_eq,not_true_eq_false,not_false_eq_true,imp_self,implies_true,bls,eq_self]
      refine C_dec (fun h5 => ?_) (fun h5 => ?_)
      · have : x = c := by omega
        subst this
        rw [decide_eq_true (List.mem_of_getElem? hx1)] at hK
        simp (disch:=first|assumption|omega|(simp only [lens];omega)) only [eqs,↓gvd_succ,↓gvd_zero,↓and_of,im_of,im_of trivial,vlt,hP,hst,initS,Nat.reduceBEq,Nat.reduceAdd,Nat.reduceMul,Nat.reduceSub,Nat.reduceDiv,Nat.reduceMod,Nat.reducePow,Nat.reduceLT,Nat.reduceLeDiff,Nat.reduceEqDiff,Int.reduceAdd,Int.reduceSub,Int.reduceNeg,Int.reduceMul,Int.reduceToNat,Int.reducePow,Int.reduceLE,Int.reduceLT,Int.reduceEq,Int.reduceNe,reduceIte,reduceCtorEq,ne_eq,not_true_eq_false,not_false_eq_true,imp_self,implies_true,bls,eq_self]
        exact hK
      · simp (disch:=first|assumption|omega|(simp only [lens];omega)) only [eqs,↓gvd_succ,↓gvd_zero,↓and_of,im_of,im_of trivial,vlt,hP,hst,initS,Nat.reduceBEq,Nat.reduceAdd,Nat.reduceMul,Nat.reduceSub,Nat.reduceDiv,Nat.reduceMod,Nat.reducePow,Nat.reduceLT,Nat.reduceLeDiff,Nat.reduceEqDiff,Int.reduceAdd,Int.reduceSub,Int.reduceNeg,Int.reduceMul,Int.reduceToNat,Int.reducePow,Int.reduceLE,Int.reduceLT,Int.reduceEq,Int.reduceNe,reduceIte,reduceCtorEq,ne_eq,not_true_eq_false,not_false_eq_true,imp_self,implies_true,bls,eq_self]
        exact again (i + 1) ⟨by omega, fun j y hj2 hy => by
          by_cases hji : j = i
          · subst hji; rw [hx1] at hy; cases hy; omega
          · exact hj j y (by omega) hy⟩ (by omega) rfl (by simp (disch:=first|assumption|omega|(simp only [lens];omega)) only [eqs,↓gvd_succ,↓gvd_zero,↓and_of,im_of,im_of trivial,vlt,hP,hst,initS,Nat.reduceBEq,Nat.reduceAdd,Nat.reduceMul,Nat.reduceSub,Nat.reduceDiv,Nat.reduceMod,Nat.reducePow,Nat.reduceLT,Nat.reduceLeDiff,Nat.reduceEqDiff,Int.reduceAdd,Int.reduceSub,Int.reduceNeg,Int.reduceMul,Int.reduceToNat,Int.reducePow,Int.reduceLE,Int.reduceLT,Int.reduceEq,Int.reduceNe,reduceIte,reduceCtorEq,ne_eq,not_true_eq_false,not_false_eq_true,imp_self,implies_true,bls,eq_self] <;> rfl)
    · rw [decide_eq_false (fun hm => by
        obtain ⟨j, hjl, hje⟩ := List.getElem_of_mem hm
        exact hj j c (by have : signsW.length = 18 := rfl; omega) (by rw [List.getElem?_eq_getElem hjl, hje]) rfl)] at hK
      simp (disch:=first|assumption|omega|(simp only [lens];omega)) only [eqs,↓gvd_succ,↓gvd_zero,↓and_of,im_of,im_of trivial,vlt,hP,hst,initS,Nat.reduceBEq,Nat.reduceAdd,Nat.reduceMul,Nat.reduceSub,Nat.reduceDiv,Nat.reduceMod,Nat.reducePow,Nat.reduceLT,Nat.reduceLeDiff,Nat.reduceEqDiff,Int.reduceAdd,Int.reduceSub,Int.reduceNeg,Int.reduceMul,Int.reduceToNat,Int.reducePow,Int.reduceLE,Int.reduceLT,Int.reduceEq,Int.reduceNe,reduceIte,reduceCtorEq,ne_eq,not_true_eq_false,not_false_eq_true,imp_self,implies_true,bls,eq_self]
      exact hK
def signB (c : Nat) : Bool := decide (c = 43) || decide (c = 45) || decide (c = 46)
/-- Does a symbol need no bars? -/
def plainL (l : List Nat) : Bool := decide (l ≠ []) && decide (l.length ≤ 64) && decide (l ≠ [46]) && !digB (l.getD 0 0) && l.all partB && !(signB (l.getD 0 0) && decide (1 < l.length) && digB (l.getD 1 0)) && (parseI l).isNone
theorem signI_ge (c : Nat) : decide (0 ≤ signI c) = signB c := by
  unfold signI signB
  by_cases h1 : c = 43
  · simp [h1]
  by_cases h2 : c = 45
  · simp [h2]
  by_cases h3 : c = 46
  · simp [h3]
  · simp [h1, h2, h3]
theorem nil_sb {s : ByteArray} : s = ⟨#[]⟩ ↔ sb s = [] := ⟨fun h => by rw [h]; rfl, fun h => sb_inj (by rw [h]; rfl)⟩
theorem dot_sb {s : ByteArray} : s = ⟨#[46]⟩ ↔ sb s = [46] := ⟨fun h => by rw [h]; rfl, fun h => sb_inj (by rw [h]; rfl)⟩
def RPlainW (xs : List AV) (st : St) (K : AV → St → Prop) : Prop := ∃ s, xs = [.val (.string s)] ∧ anyw st (.bool (plainL (sb s))) K
set_option maxHeartbeats 2000000 in
theorem s_PlainW : ∀ w0, GW w0 → PSpecAt Tryd.prog w0 16 RPlainW := by
  refine gspec_of (fn := Tryd.f16) 1 [.tmp 2] (by kernel_rfl) rfl rfl (by kernel_rfl) mixed (by rintro _ _ _ ⟨p, rfl, _⟩; rfl) ?_
  rintro X _ st K hP hst hG ⟨s, rfl, hK⟩
  obtain ⟨l, hl⟩ : ∃ l, sb s = l := ⟨_, rfl⟩
  have hlt := sb_lt' s
  rw [hl] at hK hlt
  have hKf : plainL l = false → anyw st (.bool false) K := fun h => by rw [h] at hK; exact hK
  refine vc_V ?_
  simp (disch:=first|assumption|omega|(simp only [lens];omega)) only [eqs,↓gvd_succ,↓gvd_zero,↓and_of,im_of,im_of trivial,vlt,hP,hst,initS,Nat.reduceBEq,Nat.reduceAdd,Nat.reduceMul,Nat.reduceSub,Nat.reduceDiv,Nat.reduceMod,Nat.reducePow,Nat.reduceLT,Nat.reduceLeDiff,Nat.reduceEqDiff,Int.reduceAdd,Int.reduceSub,Int.reduceNeg,Int.reduceMul,Int.reduceToNat,Int.reducePow,Int.reduceLE,Int.reduceLT,Int.reduceEq,Int.reduceNe,reduceIte,reduceCtorEq,ne_eq,not_true_eq_false,not_false_eq_true,imp_self,implies_true,bls,eq_self,str_eq2]
  refine G_ndec (fun h1 => ?_) (fun h1 => ?_)
  rotate_left
  · have hf := hKf (by unfold plainL; rw [nil_sb, hl] at h1; simp [h1])
    simp (disch:=first|assumption|omega|(simp only [lens];omega)) only [eqs,↓gvd_succ,↓gvd_zero,↓and_of,im_of,im_of trivial,vlt,hP,hst,initS,Nat.reduceBEq,Nat.reduceAdd,Nat.reduceMul,Nat.reduceSub,Nat.reduceDiv,Nat.reduceMod,Nat.reducePow,Nat.reduceLT,Nat.reduceLeDiff,Nat.reduceEqDiff,Int.reduceAdd,Int.reduceSub,Int.reduceNeg,Int.reduceMul,Int.reduceToNat,Int.reducePow,Int.reduceLE,Int.reduceLT,Int.reduceEq,Int.reduceNe,reduceIte,reduceCtorEq,ne_eq,not_true_eq_false,not_false_eq_true,imp_self,implies_true,bls,eq_self,h1]
    exact hf _ .refl
  have h1' : l ≠ [] := fun h => h1 (nil_sb.2 (hl.trans h))
  simp (disch:=first|assumption|omega|(simp only [lens];omega)) only [eqs,↓gvd_succ,↓gvd_zero,↓and_of,im_of,im_of trivial,vlt,hP,hst,initS,Nat.reduceBEq,Nat.reduceAdd,Nat.reduceMul,Nat.reduceSub,Nat.reduceDiv,Nat.reduceMod,Nat.reducePow,Nat.reduceLT,Nat.reduceLeDiff,Nat.reduceEqDiff,Int.reduceAdd,Int.reduceSub,Int.reduceNeg,Int.reduceMul,Int.reduceToNat,Int.reducePow,Int.reduceLE,Int.reduceLT,Int.reduceEq,Int.reduceNe,reduceIte,reduceCtorEq,ne_eq,not_true_eq_false,not_false_eq_true,imp_self,implies_true,bls,eq_self,h1,hl]
  refine G_ndec (fun h2 => ?_) (fun h2 => ?_)
  rotate_left
  · have hf := hKf (by unfold plainL; rw [decide_eq_false (by omega : ¬l.length ≤ 64)]; simp)
    simp (disch:=first|assumption|omega|(simp only [lens];omega)) only [eqs,↓gvd_succ,↓gvd_zero,↓and_of,im_of,im_of trivial,vlt,hP,hst,initS,Nat.reduceBEq,Nat.reduceAdd,Nat.reduceMul,Nat.reduceSub,Nat.reduceDiv,Nat.reduceMod,Nat.reducePow,Nat.reduceLT,Nat.reduceLeDiff,Nat.reduceEqDiff,Int.reduceAdd,Int.reduceSub,Int.reduceNeg,Int.reduceMul,Int.reduceToNat,Int.reducePow,Int.reduceLE,Int.reduceLT,Int.reduceEq,Int.reduceNe,reduceIte,reduceCtorEq,ne_eq,not_true_eq_false,not_false_eq_true,imp_self,implies_true,bls,eq_self,h2]
    exact hf _ .refl
  simp (disch:=first|assumption|omega|(simp only [lens];omega)) only [eqs,↓gvd_succ,↓gvd_zero,↓and_of,im_of,im_of trivial,vlt,hP,hst,initS,Nat.reduceBEq,Nat.reduceAdd,Nat.reduceMul,Nat.reduceSub,Nat.reduceDiv,Nat.reduceMod,Nat.reducePow,Nat.reduceLT,Nat.reduceLeDiff,Nat.reduceEqDiff,Int.reduceAdd,Int.reduceSub,Int.reduceNeg,Int.reduceMul,Int.reduceToNat,Int.reducePow,Int.reduceLE,Int.reduceLT,Int.reduceEq,Int.reduceNe,reduceIte,reduceCtorEq,ne_eq,not_true_eq_false,not_false_eq_true,imp_self,implies_true,bls,eq_self,h2,str_eq2]
  refine G_ndec (fun h3 => ?_) (fun h3 => ?_)
  rotate_left
  · have hf := hKf (by unfold plainL; rw [dot_sb, hl] at h3; simp [h3])
    simp (disch:=first|assumption|omega|(simp only [lens];omega)) only [eqs,↓gvd_succ,↓gvd_zero,↓and_of,im_of,im_of trivial,vlt,hP,hst,initS,Nat.reduceBEq,Nat.reduceAdd,Nat.reduceMul,Nat.reduceSub,Nat.reduceDiv,Nat.reduceMod,Nat.reducePow,Nat.reduceLT,Nat.reduceLeDiff,Nat.reduceEqDiff,Int.reduceAdd,Int.reduceSub,Int.reduceNeg,Int.reduceMul,Int.reduceToNat,Int.reducePow,Int.reduceLE,Int.reduceLT,Int.reduceEq,Int.reduceNe,reduceIte,reduceCtorEq,ne_eq,not_true_eq_false,not_false_eq_true,imp_self,implies_true,bls,eq_self,h3]
    exact hf _ .refl
  have h3' : l ≠ [46] := fun h => h3 (dot_sb.2 (hl.trans h))
  have hpos : 0 < l.length := List.length_pos_iff.2 h1'
  simp (disch:=first|assumption|omega|(simp only [lens];omega)) only [eqs,↓gvd_succ,↓gvd_zero,↓and_of,im_of,im_of trivial,vlt,hP,hst,initS,Nat.reduceBEq,Nat.reduceAdd,Nat.reduceMul,Nat.reduceSub,Nat.reduceDiv,Nat.reduceMod,Nat.reducePow,Nat.reduceLT,Nat.reduceLeDiff,Nat.reduceEqDiff,Int.reduceAdd,Int.reduceSub,Int.reduceNeg,Int.reduceMul,Int.reduceToNat,Int.reducePow,Int.reduceLE,Int.reduceLT,Int.reduceEq,Int.reduceNe,reduceIte,reduceCtorEq,ne_eq,not_true_eq_false,not_false_eq_true,imp_self,implies_true,bls,eq_self,h3,hl,hpos]
  refine E_call (hP ▸ s_wdigit) ⟨l.getD 0 0, rfl, ?_⟩
  simp (disch:=first|assumption|omega|(simp only [lens];omega)) only [eqs,↓gvd_succ,↓gvd_zero,↓and_of,im_of,im_of trivial,vlt,hP,hst,initS,Nat.reduceBEq,Nat.reduceAdd,Nat.reduceMul,Nat.reduceSub,Nat.reduceDiv,Nat.reduceMod,Nat.reducePow,Nat.reduceLT,Nat.reduceLeDiff,Nat.reduceEqDiff,Int.reduceAdd,Int.reduceSub,Int.reduceNeg,Int.reduceMul,Int.reduceToNat,Int.reducePow,Int.reduceLE,Int.reduceLT,Int.reduceEq,Int.reduceNe,reduceIte,reduceCtorEq,ne_eq,not_true_eq_false,not_false_eq_true,imp_self,implies_true,bls,eq_self]
  refine C_bool (fun h4 => ?_) (fun h4 => ?_)
  · have hf := hKf (by unfold plainL; rw [h4]; simp)
    simp (disch:=first|assumption|omega|(simp only [lens];omega)) only [eqs,↓gvd_succ,↓gvd_zero,↓and_of,im_of,im_of trivial,vlt,hP,hst,initS,Nat.reduceBEq,Nat.reduceAdd,Nat.reduceMul,Nat.reduceSub,Nat.reduceDiv,Nat.reduceMod,Nat.reducePow,Nat.reduceLT,Nat.reduceLeDiff,Nat.reduceEqDiff,Int.reduceAdd,Int.reduceSub,Int.reduceNeg,Int.reduceMul,Int.reduceToNat,Int.reducePow,Int.reduceLE,Int.reduceLT,Int.reduceEq,Int.reduceNe,reduceIte,reduceCtorEq,ne_eq,not_true_eq_false,not_false_eq_true,imp_self,implies_true,bls,eq_self]
    exact hf _ .refl
  simp (disch:=first|assumption|omega|(simp only [lens];omega)) only [eqs,↓gvd_succ,↓gvd_zero,↓and_of,im_of,im_of trivial,vlt,hP,hst,initS,Nat.reduceBEq,Nat.reduceAdd,Nat.reduceMul,Nat.reduceSub,Nat.reduceDiv,Nat.reduceMod,Nat.reducePow,Nat.reduceLT,Nat.reduceLeDiff,Nat.reduceEqDiff,Int.reduceAdd,Int.reduceSub,Int.reduceNeg,Int.reduceMul,Int.reduceToNat,Int.reducePow,Int.reduceLE,Int.reduceLT,Int.reduceEq,Int.reduceNe,reduceIte,reduceCtorEq,ne_eq,not_true_eq_false,not_false_eq_true,imp_self,implies_true,bls,eq_self,hl]
  refine V_loop (ι := Nat) (fun e => [(24, .val (.int .i64 (e : Int))), (23, .val (.int .i64 (l.length : Int))), (0, .val (.string s))]) (fun e => st) (fun e => e ≤ l.length ∧ ∀ (j x : Nat), j < e → l[j]? = some x → partB x = true) (fun e => l.length - e) 0 ⟨by simp, by simp⟩ rfl (by simp (disch:=first|assumption|omega|(simp only [lens];omega)) only [eqs,↓gvd_succ,↓gvd_zero,↓and_of,im_of,im_of trivial,vlt,hP,hst,initS,Nat.reduceBEq,Nat.reduceAdd,Nat.reduceMul,Nat.reduceSub,Nat.reduceDiv,Nat.reduceMod,Nat.reducePow,Nat.reduceLT,Nat.reduceLeDiff,Nat.reduceEqDiff,Int.reduceAdd,Int.reduceSub,Int.reduceNeg,Int.reduceMul,Int.reduceToNat,Int.reducePow,Int.reduceLE,Int.reduceLT,Int.reduceEq,Int.reduceNe,reduceIte,reduceCtorEq,ne_eq,not_true_eq_false,not_false_eq_true,imp_self,implies_true,bls,eq_self] <;> rfl) ?_
  rintro i ⟨hi, hj⟩
  simp (disch:=first|assumption|omega|(simp only [lens];omega)) only [eqs,↓gvd_succ,↓gvd_zero,↓and_of,im_of,im_of trivial,vlt,hP,hst,initS,Nat.reduceBEq,Nat.reduceAdd,Nat.reduceMul,Nat.reduceSub,Nat.reduceDiv,Nat.reduceMod,Nat.reducePow,Nat.reduceLT,Nat.reduceLeDiff,Nat.reduceEqDiff,Int.reduceAdd,Int.reduceSub,Int.reduceNeg,Int.reduceMul,Int.reduceToNat,Int.reducePow,Int.reduceLE,Int.reduceLT,Int.reduceEq,Int.reduceNe,reduceIte,reduceCtorEq,ne_eq,not_true_eq_false,not_false_eq_true,imp_self,implies_true,bls,eq_self]
  refine C_dec (fun h5 => ?_) (fun h5 => ?_)
  · have hil : i < l.length := by omega
    have hgi : l[i]? = some (l.getD i 0) := by rw [List.getElem?_eq_getElem hil]; simp [List.getD_eq_getElem?_getD, hil]
    simp (disch:=first|assumption|omega|(simp only [lens];omega)) only [eqs,↓gvd_succ,↓gvd_zero,↓and_of,im_of,im_of trivial,vlt,hP,hst,initS,Nat.reduceBEq,Nat.reduceAdd,Nat.reduceMul,Nat.reduceSub,Nat.reduceDiv,Nat.reduceMod,Nat.reducePow,Nat.reduceLT,Nat.reduceLeDiff,Nat.reduceEqDiff,Int.reduceAdd,Int.reduceSub,Int.reduceNeg,Int.reduceMul,Int.reduceToNat,Int.reducePow,Int.reduceLE,Int.reduceLT,Int.reduceEq,Int.reduceNe,reduceIte,reduceCtorEq,ne_eq,not_true_eq_false,not_false_eq_true,imp_self,implies_true,bls,eq_self,hl,hil]
    refine E_callA (hP ▸ s_part _ hG) ⟨l.getD i 0, rfl, hlt _ (List.mem_of_getElem? hgi), ?_⟩
    simp (disch:=first|assumption|omega|(simp only [lens];omega)) only [eqs,↓gvd_succ,↓gvd_zero,↓and_of,im_of,im_of trivial,vlt,hP,hst,initS,Nat.reduceBEq,Nat.reduceAdd,Nat.reduceMul,Nat.reduceSub,Nat.reduceDiv,Nat.reduceMod,Nat.reducePow,Nat.reduceLT,Nat.reduceLeDiff,Nat.reduceEqDiff,Int.reduceAdd,Int.reduceSub,Int.reduceNeg,Int.reduceMul,Int.reduceToNat,Int.reducePow,Int.reduceLE,Int.reduceLT,Int.reduceEq,Int.reduceNe,reduceIte,reduceCtorEq,ne_eq,not_true_eq_false,not_false_eq_true,imp_self,implies_true,bls,eq_self]
    refine C_bool (fun h6 => ?_) (fun h6 => ?_)
    · have h6 : partB (l.getD i 0) = false := by simpa using h6
      have hf := hKf (by
        have : l.all partB = false := by
          rw [Bool.eq_false_iff]
          intro h7
          rw [List.all_eq_true.1 h7 _ (List.mem_of_getElem? hgi)] at h6
          cases h6
        unfold plainL; rw [this]; simp)
      simp (disch:=first|assumption|omega|(simp only [lens];omega)) only [eqs,↓gvd_succ,↓gvd_zero,↓and_of,im_of,im_of trivial,vlt,hP,hst,initS,Nat.reduceBEq,Nat.reduceAdd,Nat.reduceMul,Nat.reduceSub,Nat.reduceDiv,Nat.reduceMod,Nat.reducePow,Nat.reduceLT,Nat.reduceLeDiff,Nat.reduceEqDiff,Int.reduceAdd,Int.reduceSub,Int.reduceNeg,Int.reduceMul,Int.reduceToNat,Int.reducePow,Int.reduceLE,Int.reduceLT,Int.reduceEq,Int.reduceNe,reduceIte,reduceCtorEq,ne_eq,not_true_eq_false,not_false_eq_true,imp_self,implies_true,bls,eq_self]
      exact hf _ .refl
    · have h6 : partB (l.getD i 0) = true := by simpa using h6
      simp (disch:=first|assumption|omega|(simp only [lens];omega)) only [eqs,↓gvd_succ,↓gvd_zero,↓and_of,im_of,im_of trivial,vlt,hP,hst,initS,Nat.reduceBEq,Nat.reduceAdd,Nat.reduceMul,Nat.reduceSub,Nat.reduceDiv,Nat.reduceMod,Nat.reducePow,Nat.reduceLT,Nat.reduceLeDiff,Nat.reduceEqDiff,Int.reduceAdd,Int.reduceSub,Int.reduceNeg,Int.reduceMul,Int.reduceToNat,Int.reducePow,Int.reduceLE,Int.reduceLT,Int.reduceEq,Int.reduceNe,reduceIte,reduceCtorEq,ne_eq,not_true_eq_false,not_false_eq_true,imp_self,implies_true,bls,eq_self]
      exact again (i + 1) ⟨by omega, fun j y hj2 hy => by
        by_cases hji : j = i
        · subst hji; rw [hgi] at hy; cases hy; exact h6
        · exact hj j y (by omega) hy⟩ (by omega) rfl (by simp (disch:=first|assumption|omega|(simp only [lens];omega)) only [eqs,↓gvd_succ,↓gvd_zero,↓and_of,im_of,im_of trivial,vlt,hP,hst,initS,Nat.reduceBEq,Nat.reduceAdd,Nat.reduceMul,Nat.reduceSub,Nat.reduceDiv,Nat.reduceMod,Nat.reducePow,Nat.reduceLT,Nat.reduceLeDiff,Nat.reduceEqDiff,Int.reduceAdd,Int.reduceSub,Int.reduceNeg,Int.reduceMul,Int.reduceToNat,Int.reducePow,Int.reduceLE,Int.reduceLT,Int.reduceEq,Int.reduceNe,reduceIte,reduceCtorEq,ne_eq,not_true_eq_false,not_false_eq_true,imp_self,implies_true,bls,eq_self] <;> rfl)
  have hall : l.all partB = true := by
    rw [List.all_eq_true]
    intro x hx
    obtain ⟨j, hjl, hje⟩ := List.getElem_of_mem hx
    exact hj j x (by omega) (by rw [List.getElem?_eq_getElem hjl, hje])
  simp (disch:=first|assumption|omega|(simp only [lens];omega)) only [eqs,↓gvd_succ,↓gvd_zero,↓and_of,im_of,im_of trivial,vlt,hP,hst,initS,Nat.reduceBEq,Nat.reduceAdd,Nat.reduceMul,Nat.reduceSub,Nat.reduceDiv,Nat.reduceMod,Nat.reducePow,Nat.reduceLT,Nat.reduceLeDiff,Nat.reduceEqDiff,Int.reduceAdd,Int.reduceSub,Int.reduceNeg,Int.reduceMul,Int.reduceToNat,Int.reducePow,Int.reduceLE,Int.reduceLT,Int.reduceEq,Int.reduceNe,reduceIte,reduceCtorEq,ne_eq,not_true_eq_false,not_false_eq_true,imp_self,implies_true,bls,eq_self,hl,hpos]
  refine E_call (hP ▸ s_IndexByte) ⟨l.getD 0 0, rfl, hlt _ (by rw [List.getD_eq_getElem?_getD, List.getElem?_eq_getElem hpos]; exact List.getElem_mem _), ?_⟩
  have hdone : ∀ b, (signB (l.getD 0 0) && decide (1 < l.length) && digB (l.getD 1 0)) = b → plainL l = (!b && (parseI l).isNone) := by
    intro b hb
    unfold plainL
    rw [hb, hall, h4, decide_eq_true h1', decide_eq_true h3', decide_eq_true (by omega : l.length ≤ 64)]
    rfl
  have hXs : X.st1.length ≤ st.length := by rw [hst]; omega
  simp (disch:=first|assumption|omega|(simp only [lens];omega)) only [eqs,↓gvd_succ,↓gvd_zero,↓and_of,im_of,im_of trivial,vlt,hP,hst,initS,Nat.reduceBEq,Nat.reduceAdd,Nat.reduceMul,Nat.reduceSub,Nat.reduceDiv,Nat.reduceMod,Nat.reducePow,Nat.reduceLT,Nat.reduceLeDiff,Nat.reduceEqDiff,Int.reduceAdd,Int.reduceSub,Int.reduceNeg,Int.reduceMul,Int.reduceToNat,Int.reducePow,Int.reduceLE,Int.reduceLT,Int.reduceEq,Int.reduceNe,reduceIte,reduceCtorEq,ne_eq,not_true_eq_false,not_false_eq_true,imp_self,implies_true,bls,eq_self,signI_ge]
  refine G_bool (fun h7 => ?_) (fun h7 => ?_)
  · simp (disch:=first|assumption|omega|(simp only [lens];omega)) only [eqs,↓gvd_succ,↓gvd_zero,↓and_of,im_of,im_of trivial,vlt,hP,hst,initS,Nat.reduceBEq,Nat.reduceAdd,Nat.reduceMul,Nat.reduceSub,Nat.reduceDiv,Nat.reduceMod,Nat.reducePow,Nat.reduceLT,Nat.reduceLeDiff,Nat.reduceEqDiff,Int.reduceAdd,Int.reduceSub,Int.reduceNeg,Int.reduceMul,Int.reduceToNat,Int.reducePow,Int.reduceLE,Int.reduceLT,Int.reduceEq,Int.reduceNe,reduceIte,reduceCtorEq,ne_eq,not_true_eq_false,not_false_eq_true,imp_self,implies_true,bls,eq_self,h7,hl]
    refine G_dec (fun h8 => ?_) (fun h8 => ?_)
    · have h8' : 1 < l.length := by omega
      simp (disch:=first|assumption|omega|(simp only [lens];omega)) only [eqs,↓gvd_succ,↓gvd_zero,↓and_of,im_of,im_of trivial,vlt,hP,hst,initS,Nat.reduceBEq,Nat.reduceAdd,Nat.reduceMul,Nat.reduceSub,Nat.reduceDiv,Nat.reduceMod,Nat.reducePow,Nat.reduceLT,Nat.reduceLeDiff,Nat.reduceEqDiff,Int.reduceAdd,Int.reduceSub,Int.reduceNeg,Int.reduceMul,Int.reduceToNat,Int.reducePow,Int.reduceLE,Int.reduceLT,Int.reduceEq,Int.reduceNe,reduceIte,reduceCtorEq,ne_eq,not_true_eq_false,not_false_eq_true,imp_self,implies_true,bls,eq_self,h8,hl,h8']
      refine E_call (hP ▸ s_wdigit) ⟨l.getD 1 0, rfl, ?_⟩
      simp (disch:=first|assumption|omega|(simp only [lens];omega)) only [eqs,↓gvd_succ,↓gvd_zero,↓and_of,im_of,im_of trivial,vlt,hP,hst,initS,Nat.reduceBEq,Nat.reduceAdd,Nat.reduceMul,Nat.reduceSub,Nat.reduceDiv,Nat.reduceMod,Nat.reducePow,Nat.reduceLT,Nat.reduceLeDiff,Nat.reduceEqDiff,Int.reduceAdd,Int.reduceSub,Int.reduceNeg,Int.reduceMul,Int.reduceToNat,Int.reducePow,Int.reduceLE,Int.reduceLT,Int.reduceEq,Int.reduceNe,reduceIte,reduceCtorEq,ne_eq,not_true_eq_false,not_false_eq_true,imp_self,implies_true,bls,eq_self]
      refine C_bool (fun h9 => ?_) (fun h9 => ?_)
      · have hf := hKf (by rw [hdone true (by rw [h7, h9, decide_eq_true h8']; rfl)]; rfl)
        simp (disch:=first|assumption|omega|(simp only [lens];omega)) only [eqs,↓gvd_succ,↓gvd_zero,↓and_of,im_of,im_of trivial,vlt,hP,hst,initS,Nat.reduceBEq,Nat.reduceAdd,Nat.reduceMul,Nat.reduceSub,Nat.reduceDiv,Nat.reduceMod,Nat.reducePow,Nat.reduceLT,Nat.reduceLeDiff,Nat.reduceEqDiff,Int.reduceAdd,Int.reduceSub,Int.reduceNeg,Int.reduceMul,Int.reduceToNat,Int.reducePow,Int.reduceLE,Int.reduceLT,Int.reduceEq,Int.reduceNe,reduceIte,reduceCtorEq,ne_eq,not_true_eq_false,not_false_eq_true,imp_self,implies_true,bls,eq_self]
        exact hf _ .refl
      · have hd := hdone false (by rw [h9]; simp)
        rw [Bool.not_false, Bool.true_and] at hd
        rw [hd] at hK
        simp (disch:=first|assumption|omega|(simp only [lens];omega)) only [eqs,↓gvd_succ,↓gvd_zero,↓and_of,im_of,im_of trivial,vlt,hP,hst,initS,Nat.reduceBEq,Nat.reduceAdd,Nat.reduceMul,Nat.reduceSub,Nat.reduceDiv,Nat.reduceMod,Nat.reducePow,Nat.reduceLT,Nat.reduceLeDiff,Nat.reduceEqDiff,Int.reduceAdd,Int.reduceSub,Int.reduceNeg,Int.reduceMul,Int.reduceToNat,Int.reducePow,Int.reduceLE,Int.reduceLT,Int.reduceEq,Int.reduceNe,reduceIte,reduceCtorEq,ne_eq,not_true_eq_false,not_false_eq_true,imp_self,implies_true,bls,eq_self]
        refine E_call (hP ▸ s_wParse) ⟨s, rfl, trivial, fun z v T hz hg => ?_, fun hz T eT => ?_⟩
        · rw [hl] at hz
          rw [hz] at hK
          obtain ⟨a, rfl, hg'⟩ := hg
          have la := hg'.nm.leaf
          have hXT : X.st1.length ≤ T.length := Nat.le_trans hXs hg'.ex.len
          simp (disch:=first|assumption|omega|(simp only [lens];omega)) only [eqs,↓gvd_succ,↓gvd_zero,↓and_of,im_of,im_of trivial,vlt,hP,hst,initS,Nat.reduceBEq,Nat.reduceAdd,Nat.reduceMul,Nat.reduceSub,Nat.reduceDiv,Nat.reduceMod,Nat.reducePow,Nat.reduceLT,Nat.reduceLeDiff,Nat.reduceEqDiff,Int.reduceAdd,Int.reduceSub,Int.reduceNeg,Int.reduceMul,Int.reduceToNat,Int.reducePow,Int.reduceLE,Int.reduceLT,Int.reduceEq,Int.reduceNe,reduceIte,reduceCtorEq,ne_eq,not_true_eq_false,not_false_eq_true,imp_self,implies_true,bls,eq_self,la,hXT]
          exact hK _ (hg'.ex.trans (.add _))
        · rw [hl] at hz
          rw [hz] at hK
          have hXT : X.st1.length ≤ T.length := Nat.le_trans hXs eT.len
          simp (disch:=first|assumption|omega|(simp only [lens];omega)) only [eqs,↓gvd_succ,↓gvd_zero,↓and_of,im_of,im_of trivial,vlt,hP,hst,initS,Nat.reduceBEq,Nat.reduceAdd,Nat.reduceMul,Nat.reduceSub,Nat.reduceDiv,Nat.reduceMod,Nat.reducePow,Nat.reduceLT,Nat.reduceLeDiff,Nat.reduceEqDiff,Int.reduceAdd,Int.reduceSub,Int.reduceNeg,Int.reduceMul,Int.reduceToNat,Int.reducePow,Int.reduceLE,Int.reduceLT,Int.reduceEq,Int.reduceNe,reduceIte,reduceCtorEq,ne_eq,not_true_eq_false,not_false_eq_true,imp_self,implies_true,bls,eq_self,zeroI,hXT]
          exact hK _ (eT.trans (.add _))
    · have hd := hdone false (by rw [decide_eq_false (by omega : ¬1 < l.length)]; simp)
      rw [Bool.not_false, Bool.true_and] at hd
      rw [hd] at hK
      simp (disch:=first|assumption|omega|(simp only [lens];omega)) only [eqs,↓gvd_succ,↓gvd_zero,↓and_of,im_of,im_of trivial,vlt,hP,hst,initS,Nat.reduceBEq,Nat.reduceAdd,Nat.reduceMul,Nat.reduceSub,Nat.reduceDiv,Nat.reduceMod,Nat.reducePow,Nat.reduceLT,Nat.reduceLeDiff,Nat.reduceEqDiff,Int.reduceAdd,Int.reduceSub,Int.reduceNeg,Int.reduceMul,Int.reduceToNat,Int.reducePow,Int.reduceLE,Int.reduceLT,Int.reduceEq,Int.reduceNe,reduceIte,reduceCtorEq,ne_eq,not_true_eq_false,not_false_eq_true,imp_self,implies_true,bls,eq_self,h8]
      refine E_call (hP ▸ s_wParse) ⟨s, rfl, trivial, fun z v T hz hg => ?_, fun hz T eT => ?_⟩
      · rw [hl] at hz
        rw [hz] at hK
        obtain ⟨a, rfl, hg'⟩ := hg
        have la := hg'.nm.leaf
        have hXT : X.st1.length ≤ T.length := Nat.le_trans hXs hg'.ex.len
        simp (disch:=first|assumption|omega|(simp only [lens];omega)) only [eqs,↓gvd_succ,↓gvd_zero,↓and_of,im_of,im_of trivial,vlt,hP,hst,initS,Nat.reduceBEq,Nat.reduceAdd,Nat.reduceMul,Nat.reduceSub,Nat.reduceDiv,Nat.reduceMod,Nat.reducePow,Nat.reduceLT,Nat.reduceLeDiff,Nat.reduceEqDiff,Int.reduceAdd,Int.reduceSub,Int.reduceNeg,Int.reduceMul,Int.reduceToNat,Int.reducePow,Int.reduceLE,Int.reduceLT,Int.reduceEq,Int.reduceNe,reduceIte,reduceCtorEq,ne_eq,not_true_eq_false,not_false_eq_true,imp_self,implies_true,bls,eq_self,la,hXT]
        exact hK _ (hg'.ex.trans (.add _))
      · rw [hl] at hz
        rw [hz] at hK
        have hXT : X.st1.length ≤ T.length := Nat.le_trans hXs eT.len
        simp (disch:=first|assumption|omega|(simp only [lens];omega)) only [eqs,↓gvd_succ,↓gvd_zero,↓and_of,im_of,im_of trivial,vlt,hP,hst,initS,Nat.reduceBEq,Nat.reduceAdd,Nat.reduceMul,Nat.reduceSub,Nat.reduceDiv,Nat.reduceMod,Nat.reducePow,Nat.reduceLT,Nat.reduceLeDiff,Nat.reduceEqDiff,Int.reduceAdd,Int.reduceSub,Int.reduceNeg,Int.reduceMul,Int.reduceToNat,Int.reducePow,Int.reduceLE,Int.reduceLT,Int.reduceEq,Int.reduceNe,reduceIte,reduceCtorEq,ne_eq,not_true_eq_false,not_false_eq_true,imp_self,implies_true,bls,eq_self,zeroI,hXT]
        exact hK _ (eT.trans (.add _))
  · have h7 : signB (l.getD 0 0) = false := by simpa using h7
    have hd := hdone false (by rw [h7]; simp)
    rw [Bool.not_false, Bool.true_and] at hd
    rw [hd] at hK
    simp (disch:=first|assumption|omega|(simp only [lens];omega)) only [eqs,↓gvd_succ,↓gvd_zero,↓and_of,im_of,im_of trivial,vlt,hP,hst,initS,Nat.reduceBEq,Nat.reduceAdd,Nat.reduceMul,Nat.reduceSub,Nat.reduceDiv,Nat.reduceMod,Nat.reducePow,Nat.reduceLT,Nat.reduceLeDiff,Nat.reduceEqDiff,Int.reduceAdd,Int.reduceSub,Int.reduceNeg,Int.reduceMul,Int.reduceToNat,Int.reducePow,Int.reduceLE,Int.reduceLT,Int.reduceEq,Int.reduceNe,reduceIte,reduceCtorEq,ne_eq,not_true_eq_false,not_false_eq_true,imp_self,implies_true,bls,eq_self,h7]
    refine E_call (hP ▸ s_wParse) ⟨s, rfl, trivial, fun z v T hz hg => ?_, fun hz T eT => ?_⟩
    · rw [hl] at hz
      rw [hz] at hK
      obtain ⟨a, rfl, hg'⟩ := hg
      have la := hg'.nm.leaf
      have hXT : X.st1.length ≤ T.length := Nat.le_trans hXs hg'.ex.len
      simp (disch:=first|assumption|omega|(simp only [lens];omega)) only [eqs,↓gvd_succ,↓gvd_zero,↓and_of,im_of,im_of trivial,vlt,hP,hst,initS,Nat.reduceBEq,Nat.reduceAdd,Nat.reduceMul,Nat.reduceSub,Nat.reduceDiv,Nat.reduceMod,Nat.reducePow,Nat.reduceLT,Nat.reduceLeDiff,Nat.reduceEqDiff,Int.reduceAdd,Int.reduceSub,Int.reduceNeg,Int.reduceMul,Int.reduceToNat,Int.reducePow,Int.reduceLE,Int.reduceLT,Int.reduceEq,Int.reduceNe,reduceIte,reduceCtorEq,ne_eq,not_true_eq_false,not_false_eq_true,imp_self,implies_true,bls,eq_self,la,hXT]
      exact hK _ (hg'.ex.trans (.add _))
    · rw [hl] at hz
      rw [hz] at hK
      have hXT : X.st1.length ≤ T.length := Nat.le_trans hXs eT.len
      simp (disch:=first|assumption|omega|(simp only [lens];omega)) only [eqs,↓gvd_succ,↓gvd_zero,↓and_of,im_of,im_of trivial,vlt,hP,hst,initS,Nat.reduceBEq,Nat.reduceAdd,Nat.reduceMul,Nat.reduceSub,Nat.reduceDiv,Nat.reduceMod,Nat.reducePow,Nat.reduceLT,Nat.reduceLeDiff,Nat.reduceEqDiff,Int.reduceAdd,Int.reduceSub,Int.reduceNeg,Int.reduceMul,Int.reduceToNat,Int.reducePow,Int.reduceLE,Int.reduceLT,Int.reduceEq,Int.reduceNe,reduceIte,reduceCtorEq,ne_eq,not_true_eq_false,not_false_eq_true,imp_self,implies_true,bls,eq_self,zeroI,hXT]
      exact hK _ (eT.trans (.add _))
end Go.Proofs.Pv

/- write: between, Name, Quote. -/
namespace Go.Proofs.Pv
open Go Go.RowKit Go.Proofs
set_option maxRecDepth 20000

theorem ty_bld : ti Tryd.prog 67 = .struct [(0, 1, false), (1, 1, false)] 2 [.pointer none, .slice none 0 0] := by kernel_rfl
theorem bz_bld : bz [.pointer none, .slice none 0 0] = true := rfl
/-- A contract out of a walk, of a function that may write to what its caller may write to; the world in which all began is the caller's. -/
theorem wspecG_of {P : Program} {f : FuncId} {fn : Func} {c : Code} (n : Nat) (rs : List ResultVar) {R : List AV → St → (AV → St → Prop) → Prop} (hf : P.funcs[f]? = some fn) (hb : fn.body = some c) (hrs : fn.results.toList = rs) (hok : fnOK P f n = true) (hm : P.follows .mixedOrders = true)
    (hn : ∀ xs st K, R xs st K → xs.length = n) {X : Cx} (hX : X.P = P)
    (h : ∀ (Y : Cx) xs st K, Y.P = P → Y.st1 = X.st1 → Y.w0 = X.w0 → R xs st K → vc Y c (bodyK Y rs K) (initS 0 xs) st) : FSpec X f R := by
  subst hrs
  constructor
  · unfold fnOK at hok
    unfold enterOK
    simp only [hX, hf, hb, Bool.and_eq_true] at hok ⊢
    exact ⟨rfl, hok.1.1⟩
  · intro mk β st w vs xs K hI hv hR
    rw [hX]
    have hI' : Inv ⟨P, X.w0, X.w1, X.st1, β, mk, []⟩ β st w := ⟨hI.b0, hI.b1, hI.len, hI.stp, ⟨[], by simp⟩, hI.nw, hI.ow, hI.obj, hI.inj, hI.gh, hI.gi, hI.gm, hI.mks, hI.nd⟩
    refine (calls_of_vc (X := ⟨P, X.w0, X.w1, X.st1, β, mk, []⟩) hf hb hok rfl hm hI' hv (hn _ _ _ hR) rfl (h _ _ _ _ rfl rfl rfl hR)).mono ?_
    rintro e w' ⟨v, x, ex, st', he, h1, h2, h3⟩
    refine ⟨v, x, ex, st', he, ⟨h1.b0, h1.b1, h1.len, h1.stp, ?_, h1.nw, h1.ow, h1.obj, h1.inj, h1.gh, h1.gi, h1.gm, h1.mks, h1.nd⟩, h2, h3⟩
    obtain ⟨y, hy⟩ := hI.bep
    exact ⟨y ++ ex, by rw [hy, List.append_assoc]⟩

theorem Sub.refl {L : Nat} {st : St} : Sub L st st := ⟨Nat.le_refl _, ⟨st.drop L, by simp⟩, fun _ _ h _ => h, fun _ _ _ h => ⟨_, _, h⟩⟩
theorem Sub.trans {L : Nat} {a b c : St} (hl : L ≤ a.length) (h : Sub L a b) (k : Sub L b c) : Sub L a c := by
  refine ⟨Nat.le_trans h.len k.len, ?_, fun i cs hi hn => k.get i cs (h.get i cs hi hn) hn, fun i S G hi => ?_⟩
  rotate_left
  · obtain ⟨S', G', h'⟩ := h.ghs i S G hi
    exact k.ghs i S' G' h'
  obtain ⟨y, hy⟩ := h.pre
  obtain ⟨z, hz⟩ := k.pre
  refine ⟨z, ?_⟩
  rw [hz, hy, List.take_append_of_le_length (by simp; omega), List.take_take, Nat.min_self]
theorem Sub.ext {L : Nat} {a b : St} (hl : L ≤ a.length) (e : Ext a b) : Sub L a b := by
  obtain ⟨y, rfl⟩ := e
  refine ⟨by simp, ⟨a.drop L ++ y, by rw [← List.append_assoc, List.take_append_drop]⟩, fun i cs hi _ => ?_, fun i S G hi => ⟨S, G, ?_⟩⟩
  · rw [List.getElem?_append_left (List.getElem?_eq_some_iff.1 hi).1]; exact hi
  · rw [List.getElem?_append_left (List.getElem?_eq_some_iff.1 hi).1]; exact hi
theorem Bd.ext {L : Nat} {st st' : St} {b : Nat} {bs : List Nat} (h : Bd L st b bs) (e : Ext st st') : Bd L st' b bs := by
  obtain ⟨r, S, h1, h2⟩ := h
  exact ⟨r, S, h1, e.le _ _ h2⟩
def hexS : ByteArray := ⟨#[48, 49, 50, 51, 52, 53, 54, 55, 56, 57, 97, 98, 99, 100, 101, 102]⟩
def hexL : List Nat := [48, 49, 50, 51, 52, 53, 54, 55, 56, 57, 97, 98, 99, 100, 101, 102]
def escL (m c : Nat) : List Nat := if c = m ∨ c = 92 then [92, c] else if m = 34 ∧ c = 10 then [92, 110] else if m = 34 ∧ c = 9 then [92, 116] else if c < 32 ∨ 126 < c then [92, 120, hexL.getD (c / 16) 0, hexL.getD (c % 16) 0, 59] else [c]
/-- A text between marks. -/
def btwL (m : Nat) (l : List Nat) : List Nat := m :: (l.flatMap (escL m) ++ [m])
theorem escL_len (m c : Nat) : (escL m c).length ≤ 5 := by
  unfold escL
  split
  · simp
  split
  · simp
  split
  · simp
  split <;> simp
theorem hexL_lt (i : Nat) : hexL.getD i 0 < 128 := by
  rcases Nat.lt_or_ge i 16 with h | h
  · have : ∀ i : Fin 16, hexL.getD i.val 0 < 128 := by decide
    exact this ⟨i, h⟩
  · rw [List.getD_eq_getElem?_getD, List.getElem?_eq_none (by simpa [hexL] using h)]
    decide
theorem escL_lt {m c : Nat} (hm : m < 256) (hc : c < 256) : ∀ x ∈ escL m c, x < 256 := by
  have h1 := hexL_lt (c / 16)
  have h2 := hexL_lt (c % 16)
  intro x hx
  unfold escL at hx
  split at hx
  · simp at hx; omega
  split at hx
  · simp at hx; omega
  split at hx
  · simp at hx; omega
  split at hx
  · simp only [List.mem_cons, List.not_mem_nil, or_false] at hx; omega
  · simp at hx; omega
def pf (m : Nat) (l : List Nat) (i : Nat) : List Nat := m :: (l.take i).flatMap (escL m)
theorem pf_succ {m : Nat} {l : List Nat} {i c : Nat} (h : l[i]? = some c) : pf m l (i + 1) = pf m l i ++ escL m c := by
  unfold pf
  rw [take_succ' h, List.flatMap_append]
  simp
theorem flat_len (m : Nat) : ∀ l : List Nat, (l.flatMap (escL m)).length ≤ 5 * l.length
  | [] => by simp
  | c :: l => by
    have h1 := escL_len m c
    have h2 := flat_len m l
    simp only [List.flatMap_cons, List.length_append, List.length_cons]
    omega
theorem pf_len (m : Nat) (l : List Nat) (i : Nat) : (pf m l i).length ≤ 1 + 5 * l.length := by
  have h1 := flat_len m (l.take i)
  have h2 : (l.take i).length ≤ l.length := by rw [List.length_take]; omega
  unfold pf
  simp only [List.length_cons]
  omega
theorem btwL_len (m : Nat) (l : List Nat) : (btwL m l).length ≤ 2 + 5 * l.length := by
  have h1 := flat_len m l
  unfold btwL
  simp only [List.length_cons, List.length_append, List.length_nil]
  omega
theorem btwL_lt {m : Nat} {l : List Nat} (hm : m < 256) (hl : ∀ n ∈ l, n < 256) : ∀ x ∈ btwL m l, x < 256 := by
  intro x hx
  unfold btwL at hx
  simp only [List.mem_cons, List.mem_append, List.not_mem_nil, or_false, List.mem_flatMap] at hx
  rcases hx with rfl | ⟨c, hc, hx⟩ | rfl
  · exact hm
  · exact escL_lt hm (hl c hc) x hx
  · exact hm
theorem preExt {L : Nat} {st T0 T : St} (e : Ext st T0) (hL : L = st.length) (h : ∃ y, T = T0.take L ++ y) : Ext st T := by
  subst hL
  obtain ⟨z, rfl⟩ := e
  obtain ⟨y, hy⟩ := h
  rw [List.take_left] at hy
  exact ⟨y, hy⟩
theorem subExt {L : Nat} {st T0 T : St} (e : Ext st T0) (hL : L = st.length) (h : Sub L T0 T) : Ext st T := preExt e hL h.pre
theorem bnd1 {m : Nat} {l : List Nat} {i : Nat} (h : l.length ≤ 1000000000) {ys : List Nat} (hy : ys.length ≤ 6) : (pf m l i ++ ys).length + 1 ≤ 140737488355328 := by
  have := pf_len m l i
  rw [List.length_append]; omega
theorem bnd1s {m : Nat} {l : List Nat} {i : Nat} {s : ByteArray} (h : l.length ≤ 1000000000) (hy : s.size = 2) : (pf m l i ++ []).length + s.size ≤ 140737488355328 := by
  have := pf_len m l i
  rw [List.append_nil]; omega
theorem hexL_get {i : Nat} (h : i < 16) : (sb (⟨#[48, 49, 50, 51, 52, 53, 54, 55, 56, 57, 97, 98, 99, 100, 101, 102]⟩ : ByteArray)).getD i 0 = hexL.getD i 0 := rfl
theorem shr4w (c : Nat) : ((c : Int) / 16).toNat = c / 16 := by omega
theorem and15w (c : Nat) (hc : c < 256) : bitV BinOp.and IntKind.u8 (c : Int) 15 = ((c % 16 : Nat) : Int) := by
  have : ∀ c : Fin 256, bitV BinOp.and IntKind.u8 ((c.val : Nat) : Int) 15 = ((c.val % 16 : Nat) : Int) := by decide +kernel
  exact this ⟨c, hc⟩
theorem hex_len : (sb (⟨#[48, 49, 50, 51, 52, 53, 54, 55, 56, 57, 97, 98, 99, 100, 101, 102]⟩ : ByteArray)).length = 16 := rfl
def RBtw (xs : List AV) (st : St) (K : AV → St → Prop) : Prop := ∃ (s : ByteArray) (m : Nat), xs = [.val (.string s), .val (.int .u8 (m : Int))] ∧ m < 256 ∧ s.size ≤ 1000000000 ∧ anyw st (.string (bstr (btwL m (sb s)))) K
set_option maxHeartbeats 4000000 in
theorem s_between' : PSpec Tryd.prog 41 RBtw := by
  refine fspec_of (fn := Tryd.f41) 2 [.tmp 4] (by kernel_rfl) rfl rfl (by kernel_rfl) mixed (by rintro _ _ _ ⟨s, m, rfl, _⟩; rfl) ?_
  rintro X _ st K hP hst ⟨s, m, rfl, hm, hsz, hK⟩
  obtain ⟨l, hl⟩ : ∃ l, sb s = l := ⟨_, rfl⟩
  have hlt := sb_lt' s
  rw [hl] at hK hlt
  refine vc_V ?_
  simp (disch:=first|assumption|omega|(simp only [lens];omega)) only [eqs,↓gvd_succ,↓gvd_zero,↓and_of,im_of,im_of trivial,vlt,hP,hst,initS,Nat.reduceBEq,Nat.reduceAdd,Nat.reduceMul,Nat.reduceSub,Nat.reduceDiv,Nat.reduceMod,Nat.reducePow,Nat.reduceLT,Nat.reduceLeDiff,Nat.reduceEqDiff,Int.reduceAdd,Int.reduceSub,Int.reduceNeg,Int.reduceMul,Int.reduceToNat,Int.reducePow,Int.reduceLE,Int.reduceLT,Int.reduceEq,Int.reduceNe,reduceIte,reduceCtorEq,ne_eq,not_true_eq_false,not_false_eq_true,imp_self,implies_true,bls,eq_self,ty_bld,bz_bld]
  have hXl : X.st1.length = st.length := by rw [hst]
  have hlen : l.length ≤ 1000000000 := by rw [← hl, sb_length]; exact hsz
  refine ⟨5, fun b => ?_⟩
  refine E_callW (s_writeByte hP) ⟨b, [], m, rfl, ⟨st.length + 1, [b], by omega, by rw [get_app]; rfl⟩, by simp, fun T0 hS0 hB0 => ?_⟩
  have e0 := subExt (.add _) hXl hS0
  simp (disch:=first|assumption|omega|(simp only [lens];omega)) only [eqs,↓gvd_succ,↓gvd_zero,↓and_of,im_of,im_of trivial,vlt,hP,hst,initS,Nat.reduceBEq,Nat.reduceAdd,Nat.reduceMul,Nat.reduceSub,Nat.reduceDiv,Nat.reduceMod,Nat.reducePow,Nat.reduceLT,Nat.reduceLeDiff,Nat.reduceEqDiff,Int.reduceAdd,Int.reduceSub,Int.reduceNeg,Int.reduceMul,Int.reduceToNat,Int.reducePow,Int.reduceLE,Int.reduceLT,Int.reduceEq,Int.reduceNe,reduceIte,reduceCtorEq,ne_eq,not_true_eq_false,not_false_eq_true,imp_self,implies_true,bls,eq_self,hl]
  refine V_loop (ι := Nat × St) (fun e => [(15, .val (.int .i64 (e.1 : Int))), (14, .val (.int .i64 (l.length : Int))), (5, .val (.pointer (some ⟨b, 0, none⟩))), (6, .fn (.func 73) [.val (.pointer (some ⟨b, 0, none⟩))] []), (0, .val (.string s)), (1, .val (.int .u8 (m : Int)))]) (fun e => e.2)
    (fun e => e.1 ≤ l.length ∧ Ext st e.2 ∧ Bd X.st1.length e.2 b (pf m l e.1)) (fun e => l.length - e.1) (0, T0) ⟨by simp, e0, hB0⟩ rfl (by simp (disch:=first|assumption|omega|(simp only [lens];omega)) only [eqs,↓gvd_succ,↓gvd_zero,↓and_of,im_of,im_of trivial,vlt,hP,hst,initS,Nat.reduceBEq,Nat.reduceAdd,Nat.reduceMul,Nat.reduceSub,Nat.reduceDiv,Nat.reduceMod,Nat.reducePow,Nat.reduceLT,Nat.reduceLeDiff,Nat.reduceEqDiff,Int.reduceAdd,Int.reduceSub,Int.reduceNeg,Int.reduceMul,Int.reduceToNat,Int.reducePow,Int.reduceLE,Int.reduceLT,Int.reduceEq,Int.reduceNe,reduceIte,reduceCtorEq,ne_eq,not_true_eq_false,not_false_eq_true,imp_self,implies_true,bls,eq_self] <;> rfl) ?_
  rintro ⟨i, T⟩ ⟨hi, hT, hB⟩
  dsimp only at hi hT hB ⊢
  simp (disch:=first|assumption|omega|(simp only [lens];omega)) only [eqs,↓gvd_succ,↓gvd_zero,↓and_of,im_of,im_of trivial,vlt,hP,hst,initS,Nat.reduceBEq,Nat.reduceAdd,Nat.reduceMul,Nat.reduceSub,Nat.reduceDiv,Nat.reduceMod,Nat.reducePow,Nat.reduceLT,Nat.reduceLeDiff,Nat.reduceEqDiff,Int.reduceAdd,Int.reduceSub,Int.reduceNeg,Int.reduceMul,Int.reduceToNat,Int.reducePow,Int.reduceLE,Int.reduceLT,Int.reduceEq,Int.reduceNe,reduceIte,reduceCtorEq,ne_eq,not_true_eq_false,not_false_eq_true,imp_self,implies_true,bls,eq_self]
  refine C_dec (fun h5 => ?_) (fun h5 => ?_)
  · have hil : i < l.length := by omega
    obtain ⟨c, hc⟩ : ∃ c, l.getD i 0 = c := ⟨_, rfl⟩
    have hgi : l[i]? = some c := by rw [← hc, List.getElem?_eq_getElem hil]; simp [List.getD_eq_getElem?_getD, hil]
    have hc256 := hlt _ (List.mem_of_getElem? hgi)
    simp (disch:=first|assumption|omega|(simp only [lens];omega)) only [eqs,↓gvd_succ,↓gvd_zero,↓and_of,im_of,im_of trivial,vlt,hP,hst,initS,Nat.reduceBEq,Nat.reduceAdd,Nat.reduceMul,Nat.reduceSub,Nat.reduceDiv,Nat.reduceMod,Nat.reducePow,Nat.reduceLT,Nat.reduceLeDiff,Nat.reduceEqDiff,Int.reduceAdd,Int.reduceSub,Int.reduceNeg,Int.reduceMul,Int.reduceToNat,Int.reducePow,Int.reduceLE,Int.reduceLT,Int.reduceEq,Int.reduceNe,reduceIte,reduceCtorEq,ne_eq,not_true_eq_false,not_false_eq_true,imp_self,implies_true,bls,eq_self,hl,hil,hc]
    refine G_ndec (fun h1 => ?_) (fun h1 => ?_)
    rotate_left
    · have h1' : c = m := by omega
      simp (disch:=first|assumption|omega|(simp only [lens];omega)) only [eqs,↓gvd_succ,↓gvd_zero,↓and_of,im_of,im_of trivial,vlt,hP,hst,initS,Nat.reduceBEq,Nat.reduceAdd,Nat.reduceMul,Nat.reduceSub,Nat.reduceDiv,Nat.reduceMod,Nat.reducePow,Nat.reduceLT,Nat.reduceLeDiff,Nat.reduceEqDiff,Int.reduceAdd,Int.reduceSub,Int.reduceNeg,Int.reduceMul,Int.reduceToNat,Int.reducePow,Int.reduceLE,Int.reduceLT,Int.reduceEq,Int.reduceNe,reduceIte,reduceCtorEq,ne_eq,not_true_eq_false,not_false_eq_true,imp_self,implies_true,bls,eq_self,h1]
      refine E_callW (s_writeByte hP) ⟨b, pf m l i ++ [], 92, rfl, (by simpa using hB), bnd1 hlen (by simp), fun T1 hS1 hB1 => ?_⟩
      have e1 := subExt hT hXl hS1
      replace hB1 : Bd X.st1.length T1 b (pf m l i ++ [92]) := by simpa using hB1
      simp (disch:=first|assumption|omega|(simp only [lens];omega)) only [eqs,↓gvd_succ,↓gvd_zero,↓and_of,im_of,im_of trivial,vlt,hP,hst,initS,Nat.reduceBEq,Nat.reduceAdd,Nat.reduceMul,Nat.reduceSub,Nat.reduceDiv,Nat.reduceMod,Nat.reducePow,Nat.reduceLT,Nat.reduceLeDiff,Nat.reduceEqDiff,Int.reduceAdd,Int.reduceSub,Int.reduceNeg,Int.reduceMul,Int.reduceToNat,Int.reducePow,Int.reduceLE,Int.reduceLT,Int.reduceEq,Int.reduceNe,reduceIte,reduceCtorEq,ne_eq,not_true_eq_false,not_false_eq_true,imp_self,implies_true,bls,eq_self,hl,hil,hc]
      refine E_callW (s_writeByte hP) ⟨b, pf m l i ++ [92], m, rfl, hB1, bnd1 hlen (by simp), fun T2 hS2 hB2 => ?_⟩
      have e2 := subExt e1 hXl hS2
      replace hB2 : Bd X.st1.length T2 b (pf m l i ++ [92, m]) := by simpa using hB2
      simp (disch:=first|assumption|omega|(simp only [lens];omega)) only [eqs,↓gvd_succ,↓gvd_zero,↓and_of,im_of,im_of trivial,vlt,hP,hst,initS,Nat.reduceBEq,Nat.reduceAdd,Nat.reduceMul,Nat.reduceSub,Nat.reduceDiv,Nat.reduceMod,Nat.reducePow,Nat.reduceLT,Nat.reduceLeDiff,Nat.reduceEqDiff,Int.reduceAdd,Int.reduceSub,Int.reduceNeg,Int.reduceMul,Int.reduceToNat,Int.reducePow,Int.reduceLE,Int.reduceLT,Int.reduceEq,Int.reduceNe,reduceIte,reduceCtorEq,ne_eq,not_true_eq_false,not_false_eq_true,imp_self,implies_true,bls,eq_self,hl,hil,hc]
      exact again (i + 1, T2) ⟨by dsimp only; omega, e2, by rw [pf_succ hgi, show escL m c = [92, m] by unfold escL; rw [if_pos (by omega), h1']]; exact hB2⟩ (by dsimp only; omega) rfl (by dsimp only; simp (disch:=first|assumption|omega|(simp only [lens];omega)) only [eqs,↓gvd_succ,↓gvd_zero,↓and_of,im_of,im_of trivial,vlt,hP,hst,initS,Nat.reduceBEq,Nat.reduceAdd,Nat.reduceMul,Nat.reduceSub,Nat.reduceDiv,Nat.reduceMod,Nat.reducePow,Nat.reduceLT,Nat.reduceLeDiff,Nat.reduceEqDiff,Int.reduceAdd,Int.reduceSub,Int.reduceNeg,Int.reduceMul,Int.reduceToNat,Int.reducePow,Int.reduceLE,Int.reduceLT,Int.reduceEq,Int.reduceNe,reduceIte,reduceCtorEq,ne_eq,not_true_eq_false,not_false_eq_true,imp_self,implies_true,bls,eq_self] <;> rfl)
    simp (disch:=first|assumption|omega|(simp only [lens];omega)) only [eqs,↓gvd_succ,↓gvd_zero,↓and_of,im_of,im_of trivial,vlt,hP,hst,initS,Nat.reduceBEq,Nat.reduceAdd,Nat.reduceMul,Nat.reduceSub,Nat.reduceDiv,Nat.reduceMod,Nat.reducePow,Nat.reduceLT,Nat.reduceLeDiff,Nat.reduceEqDiff,Int.reduceAdd,Int.reduceSub,Int.reduceNeg,Int.reduceMul,Int.reduceToNat,Int.reducePow,Int.reduceLE,Int.reduceLT,Int.reduceEq,Int.reduceNe,reduceIte,reduceCtorEq,ne_eq,not_true_eq_false,not_false_eq_true,imp_self,implies_true,bls,eq_self,h1]
    refine C_dec (fun h2 => ?_) (fun h2 => ?_)
    · simp (disch:=first|assumption|omega|(simp only [lens];omega)) only [eqs,↓gvd_succ,↓gvd_zero,↓and_of,im_of,im_of trivial,vlt,hP,hst,initS,Nat.reduceBEq,Nat.reduceAdd,Nat.reduceMul,Nat.reduceSub,Nat.reduceDiv,Nat.reduceMod,Nat.reducePow,Nat.reduceLT,Nat.reduceLeDiff,Nat.reduceEqDiff,Int.reduceAdd,Int.reduceSub,Int.reduceNeg,Int.reduceMul,Int.reduceToNat,Int.reducePow,Int.reduceLE,Int.reduceLT,Int.reduceEq,Int.reduceNe,reduceIte,reduceCtorEq,ne_eq,not_true_eq_false,not_false_eq_true,imp_self,implies_true,bls,eq_self]
      refine E_callW (s_writeByte hP) ⟨b, pf m l i ++ [], 92, rfl, (by simpa using hB), bnd1 hlen (by simp), fun T1 hS1 hB1 => ?_⟩
      have e1 := subExt hT hXl hS1
      replace hB1 : Bd X.st1.length T1 b (pf m l i ++ [92]) := by simpa using hB1
      simp (disch:=first|assumption|omega|(simp only [lens];omega)) only [eqs,↓gvd_succ,↓gvd_zero,↓and_of,im_of,im_of trivial,vlt,hP,hst,initS,Nat.reduceBEq,Nat.reduceAdd,Nat.reduceMul,Nat.reduceSub,Nat.reduceDiv,Nat.reduceMod,Nat.reducePow,Nat.reduceLT,Nat.reduceLeDiff,Nat.reduceEqDiff,Int.reduceAdd,Int.reduceSub,Int.reduceNeg,Int.reduceMul,Int.reduceToNat,Int.reducePow,Int.reduceLE,Int.reduceLT,Int.reduceEq,Int.reduceNe,reduceIte,reduceCtorEq,ne_eq,not_true_eq_false,not_false_eq_true,imp_self,implies_true,bls,eq_self,hl,hil,hc]
      refine E_callW (s_writeByte hP) ⟨b, pf m l i ++ [92], c, rfl, hB1, bnd1 hlen (by simp), fun T2 hS2 hB2 => ?_⟩
      have e2 := subExt e1 hXl hS2
      replace hB2 : Bd X.st1.length T2 b (pf m l i ++ [92, c]) := by simpa using hB2
      simp (disch:=first|assumption|omega|(simp only [lens];omega)) only [eqs,↓gvd_succ,↓gvd_zero,↓and_of,im_of,im_of trivial,vlt,hP,hst,initS,Nat.reduceBEq,Nat.reduceAdd,Nat.reduceMul,Nat.reduceSub,Nat.reduceDiv,Nat.reduceMod,Nat.reducePow,Nat.reduceLT,Nat.reduceLeDiff,Nat.reduceEqDiff,Int.reduceAdd,Int.reduceSub,Int.reduceNeg,Int.reduceMul,Int.reduceToNat,Int.reducePow,Int.reduceLE,Int.reduceLT,Int.reduceEq,Int.reduceNe,reduceIte,reduceCtorEq,ne_eq,not_true_eq_false,not_false_eq_true,imp_self,implies_true,bls,eq_self,hl,hil,hc]
      exact again (i + 1, T2) ⟨by dsimp only; omega, e2, by rw [pf_succ hgi, show escL m c = [92, c] by unfold escL; rw [if_pos (by omega)]]; exact hB2⟩ (by dsimp only; omega) rfl (by dsimp only; simp (disch:=first|assumption|omega|(simp only [lens];omega)) only [eqs,↓gvd_succ,↓gvd_zero,↓and_of,im_of,im_of trivial,vlt,hP,hst,initS,Nat.reduceBEq,Nat.reduceAdd,Nat.reduceMul,Nat.reduceSub,Nat.reduceDiv,Nat.reduceMod,Nat.reducePow,Nat.reduceLT,Nat.reduceLeDiff,Nat.reduceEqDiff,Int.reduceAdd,Int.reduceSub,Int.reduceNeg,Int.reduceMul,Int.reduceToNat,Int.reducePow,Int.reduceLE,Int.reduceLT,Int.reduceEq,Int.reduceNe,reduceIte,reduceCtorEq,ne_eq,not_true_eq_false,not_false_eq_true,imp_self,implies_true,bls,eq_self] <;> rfl)
    have hn : ¬(c = m ∨ c = 92) := by omega
    simp (disch:=first|assumption|omega|(simp only [lens];omega)) only [eqs,↓gvd_succ,↓gvd_zero,↓and_of,im_of,im_of trivial,vlt,hP,hst,initS,Nat.reduceBEq,Nat.reduceAdd,Nat.reduceMul,Nat.reduceSub,Nat.reduceDiv,Nat.reduceMod,Nat.reducePow,Nat.reduceLT,Nat.reduceLeDiff,Nat.reduceEqDiff,Int.reduceAdd,Int.reduceSub,Int.reduceNeg,Int.reduceMul,Int.reduceToNat,Int.reducePow,Int.reduceLE,Int.reduceLT,Int.reduceEq,Int.reduceNe,reduceIte,reduceCtorEq,ne_eq,not_true_eq_false,not_false_eq_true,imp_self,implies_true,bls,eq_self]
    refine G_dec (fun h3 => ?_) (fun h3 => ?_)
    · simp (disch:=first|assumption|omega|(simp only [lens];omega)) only [eqs,↓gvd_succ,↓gvd_zero,↓and_of,im_of,im_of trivial,vlt,hP,hst,initS,Nat.reduceBEq,Nat.reduceAdd,Nat.reduceMul,Nat.reduceSub,Nat.reduceDiv,Nat.reduceMod,Nat.reducePow,Nat.reduceLT,Nat.reduceLeDiff,Nat.reduceEqDiff,Int.reduceAdd,Int.reduceSub,Int.reduceNeg,Int.reduceMul,Int.reduceToNat,Int.reducePow,Int.reduceLE,Int.reduceLT,Int.reduceEq,Int.reduceNe,reduceIte,reduceCtorEq,ne_eq,not_true_eq_false,not_false_eq_true,imp_self,implies_true,bls,eq_self,h3]
      refine C_dec (fun h4 => ?_) (fun h4 => ?_)
      · simp (disch:=first|assumption|omega|(simp only [lens];omega)) only [eqs,↓gvd_succ,↓gvd_zero,↓and_of,im_of,im_of trivial,vlt,hP,hst,initS,Nat.reduceBEq,Nat.reduceAdd,Nat.reduceMul,Nat.reduceSub,Nat.reduceDiv,Nat.reduceMod,Nat.reducePow,Nat.reduceLT,Nat.reduceLeDiff,Nat.reduceEqDiff,Int.reduceAdd,Int.reduceSub,Int.reduceNeg,Int.reduceMul,Int.reduceToNat,Int.reducePow,Int.reduceLE,Int.reduceLT,Int.reduceEq,Int.reduceNe,reduceIte,reduceCtorEq,ne_eq,not_true_eq_false,not_false_eq_true,imp_self,implies_true,bls,eq_self]
        refine E_callW (s_writeString hP) ⟨b, pf m l i ++ [], ⟨#[92, 110]⟩, rfl, (by simpa using hB), bnd1s hlen rfl, fun T1 v1 hS1 hB1 => ?_⟩
        have e1 := subExt hT hXl hS1
        replace hB1 : Bd X.st1.length T1 b (pf m l i ++ [92, 110]) := by simpa [sb] using hB1
        simp (disch:=first|assumption|omega|(simp only [lens];omega)) only [eqs,↓gvd_succ,↓gvd_zero,↓and_of,im_of,im_of trivial,vlt,hP,hst,initS,Nat.reduceBEq,Nat.reduceAdd,Nat.reduceMul,Nat.reduceSub,Nat.reduceDiv,Nat.reduceMod,Nat.reducePow,Nat.reduceLT,Nat.reduceLeDiff,Nat.reduceEqDiff,Int.reduceAdd,Int.reduceSub,Int.reduceNeg,Int.reduceMul,Int.reduceToNat,Int.reducePow,Int.reduceLE,Int.reduceLT,Int.reduceEq,Int.reduceNe,reduceIte,reduceCtorEq,ne_eq,not_true_eq_false,not_false_eq_true,imp_self,implies_true,bls,eq_self,hl,hil,hc]
        exact again (i + 1, T1) ⟨by dsimp only; omega, e1, by rw [pf_succ hgi, show escL m c = [92, 110] by unfold escL; rw [if_neg hn, if_pos (by omega)]]; exact hB1⟩ (by dsimp only; omega) rfl (by dsimp only; simp (disch:=first|assumption|omega|(simp only [lens];omega)) only [eqs,↓gvd_succ,↓gvd_zero,↓and_of,im_of,im_of trivial,vlt,hP,hst,initS,Nat.reduceBEq,Nat.reduceAdd,Nat.reduceMul,Nat.reduceSub,Nat.reduceDiv,Nat.reduceMod,Nat.reducePow,Nat.reduceLT,Nat.reduceLeDiff,Nat.reduceEqDiff,Int.reduceAdd,Int.reduceSub,Int.reduceNeg,Int.reduceMul,Int.reduceToNat,Int.reducePow,Int.reduceLE,Int.reduceLT,Int.reduceEq,Int.reduceNe,reduceIte,reduceCtorEq,ne_eq,not_true_eq_false,not_false_eq_true,imp_self,implies_true,bls,eq_self,h3] <;> rfl)
      simp (disch:=first|assumption|omega|(simp only [lens];omega)) only [eqs,↓gvd_succ,↓gvd_zero,↓and_of,im_of,im_of trivial,vlt,hP,hst,initS,Nat.reduceBEq,Nat.reduceAdd,Nat.reduceMul,Nat.reduceSub,Nat.reduceDiv,Nat.reduceMod,Nat.reducePow,Nat.reduceLT,Nat.reduceLeDiff,Nat.reduceEqDiff,Int.reduceAdd,Int.reduceSub,Int.reduceNeg,Int.reduceMul,Int.reduceToNat,Int.reducePow,Int.reduceLE,Int.reduceLT,Int.reduceEq,Int.reduceNe,reduceIte,reduceCtorEq,ne_eq,not_true_eq_false,not_false_eq_true,imp_self,implies_true,bls,eq_self,h3]
      refine C_dec (fun h8 => ?_) (fun h8 => ?_)
      · simp (disch:=first|assumption|omega|(simp only [lens];omega)) only [eqs,↓gvd_succ,↓gvd_zero,↓and_of,im_of,im_of trivial,vlt,hP,hst,initS,Nat.reduceBEq,Nat.reduceAdd,Nat.reduceMul,Nat.reduceSub,Nat.reduceDiv,Nat.reduceMod,Nat.reducePow,Nat.reduceLT,Nat.reduceLeDiff,Nat.reduceEqDiff,Int.reduceAdd,Int.reduceSub,Int.reduceNeg,Int.reduceMul,Int.reduceToNat,Int.reducePow,Int.reduceLE,Int.reduceLT,Int.reduceEq,Int.reduceNe,reduceIte,reduceCtorEq,ne_eq,not_true_eq_false,not_false_eq_true,imp_self,implies_true,bls,eq_self]
        refine E_callW (s_writeString hP) ⟨b, pf m l i ++ [], ⟨#[92, 116]⟩, rfl, (by simpa using hB), bnd1s hlen rfl, fun T1 v1 hS1 hB1 => ?_⟩
        have e1 := subExt hT hXl hS1
        replace hB1 : Bd X.st1.length T1 b (pf m l i ++ [92, 116]) := by simpa [sb] using hB1
        simp (disch:=first|assumption|omega|(simp only [lens];omega)) only [eqs,↓gvd_succ,↓gvd_zero,↓and_of,im_of,im_of trivial,vlt,hP,hst,initS,Nat.reduceBEq,Nat.reduceAdd,Nat.reduceMul,Nat.reduceSub,Nat.reduceDiv,Nat.reduceMod,Nat.reducePow,Nat.reduceLT,Nat.reduceLeDiff,Nat.reduceEqDiff,Int.reduceAdd,Int.reduceSub,Int.reduceNeg,Int.reduceMul,Int.reduceToNat,Int.reducePow,Int.reduceLE,Int.reduceLT,Int.reduceEq,Int.reduceNe,reduceIte,reduceCtorEq,ne_eq,not_true_eq_false,not_false_eq_true,imp_self,implies_true,bls,eq_self,hl,hil,hc]
        exact again (i + 1, T1) ⟨by dsimp only; omega, e1, by rw [pf_succ hgi, show escL m c = [92, 116] by unfold escL; rw [if_neg hn, if_neg (by omega), if_pos (by omega)]]; exact hB1⟩ (by dsimp only; omega) rfl (by dsimp only; simp (disch:=first|assumption|omega|(simp only [lens];omega)) only [eqs,↓gvd_succ,↓gvd_zero,↓and_of,im_of,im_of trivial,vlt,hP,hst,initS,Nat.reduceBEq,Nat.reduceAdd,Nat.reduceMul,Nat.reduceSub,Nat.reduceDiv,Nat.reduceMod,Nat.reducePow,Nat.reduceLT,Nat.reduceLeDiff,Nat.reduceEqDiff,Int.reduceAdd,Int.reduceSub,Int.reduceNeg,Int.reduceMul,Int.reduceToNat,Int.reducePow,Int.reduceLE,Int.reduceLT,Int.reduceEq,Int.reduceNe,reduceIte,reduceCtorEq,ne_eq,not_true_eq_false,not_false_eq_true,imp_self,implies_true,bls,eq_self,h3] <;> rfl)
      have hq1 : ¬(m = 34 ∧ c = 10) := by omega
      have hq2 : ¬(m = 34 ∧ c = 9) := by omega
      simp (disch:=first|assumption|omega|(simp only [lens];omega)) only [eqs,↓gvd_succ,↓gvd_zero,↓and_of,im_of,im_of trivial,vlt,hP,hst,initS,Nat.reduceBEq,Nat.reduceAdd,Nat.reduceMul,Nat.reduceSub,Nat.reduceDiv,Nat.reduceMod,Nat.reducePow,Nat.reduceLT,Nat.reduceLeDiff,Nat.reduceEqDiff,Int.reduceAdd,Int.reduceSub,Int.reduceNeg,Int.reduceMul,Int.reduceToNat,Int.reducePow,Int.reduceLE,Int.reduceLT,Int.reduceEq,Int.reduceNe,reduceIte,reduceCtorEq,ne_eq,not_true_eq_false,not_false_eq_true,imp_self,implies_true,bls,eq_self]
      refine G_ndec (fun h6 => ?_) (fun h6 => ?_)
      rotate_left
      · simp (disch:=first|assumption|omega|(simp only [lens];omega)) only [eqs,↓gvd_succ,↓gvd_zero,↓and_of,im_of,im_of trivial,vlt,hP,hst,initS,Nat.reduceBEq,Nat.reduceAdd,Nat.reduceMul,Nat.reduceSub,Nat.reduceDiv,Nat.reduceMod,Nat.reducePow,Nat.reduceLT,Nat.reduceLeDiff,Nat.reduceEqDiff,Int.reduceAdd,Int.reduceSub,Int.reduceNeg,Int.reduceMul,Int.reduceToNat,Int.reducePow,Int.reduceLE,Int.reduceLT,Int.reduceEq,Int.reduceNe,reduceIte,reduceCtorEq,ne_eq,not_true_eq_false,not_false_eq_true,imp_self,implies_true,bls,eq_self,h6]
        refine E_callW (s_writeString hP) ⟨b, pf m l i ++ [], ⟨#[92, 120]⟩, rfl, (by simpa using hB), bnd1s hlen rfl, fun T1 v1 hS1 hB1 => ?_⟩
        have e1 := subExt hT hXl hS1
        replace hB1 : Bd X.st1.length T1 b (pf m l i ++ [92, 120]) := by simpa [sb] using hB1
        simp (disch:=first|assumption|omega|(simp only [lens];omega)) only [eqs,↓gvd_succ,↓gvd_zero,↓and_of,im_of,im_of trivial,vlt,hP,hst,initS,Nat.reduceBEq,Nat.reduceAdd,Nat.reduceMul,Nat.reduceSub,Nat.reduceDiv,Nat.reduceMod,Nat.reducePow,Nat.reduceLT,Nat.reduceLeDiff,Nat.reduceEqDiff,Int.reduceAdd,Int.reduceSub,Int.reduceNeg,Int.reduceMul,Int.reduceToNat,Int.reducePow,Int.reduceLE,Int.reduceLT,Int.reduceEq,Int.reduceNe,reduceIte,reduceCtorEq,ne_eq,not_true_eq_false,not_false_eq_true,imp_self,implies_true,bls,eq_self,hl,hil,hc]
        have g1 := hexL_get (i := c / 16) (by omega)
        have g2 := hexL_get (i := c % 16) (by omega)
        have ha15 := and15w c hc256
        have hx1 : c / 16 < 16 := by omega
        have hx2 : c % 16 < 16 := by omega
        rw [shr4w, hex_len, g1]
        refine ⟨hx1, ?_⟩
        refine E_callW (s_writeByte hP) ⟨b, pf m l i ++ [92, 120], hexL.getD (c / 16) 0, rfl, hB1, bnd1 hlen (by simp), fun T2 hS2 hB2 => ?_⟩
        have e2 := subExt e1 hXl hS2
        replace hB2 : Bd X.st1.length T2 b (pf m l i ++ [92, 120, hexL.getD (c / 16) 0]) := by simpa using hB2
        simp (disch:=first|assumption|omega|(simp only [lens];omega)) only [eqs,↓gvd_succ,↓gvd_zero,↓and_of,im_of,im_of trivial,vlt,hP,hst,initS,Nat.reduceBEq,Nat.reduceAdd,Nat.reduceMul,Nat.reduceSub,Nat.reduceDiv,Nat.reduceMod,Nat.reducePow,Nat.reduceLT,Nat.reduceLeDiff,Nat.reduceEqDiff,Int.reduceAdd,Int.reduceSub,Int.reduceNeg,Int.reduceMul,Int.reduceToNat,Int.reducePow,Int.reduceLE,Int.reduceLT,Int.reduceEq,Int.reduceNe,reduceIte,reduceCtorEq,ne_eq,not_true_eq_false,not_false_eq_true,imp_self,implies_true,bls,eq_self,ha15,hex_len,g2,hx2]
        refine E_callW (s_writeByte hP) ⟨b, pf m l i ++ [92, 120, hexL.getD (c / 16) 0], hexL.getD (c % 16) 0, rfl, hB2, bnd1 hlen (by simp), fun T3 hS3 hB3 => ?_⟩
        have e3 := subExt e2 hXl hS3
        replace hB3 : Bd X.st1.length T3 b (pf m l i ++ [92, 120, hexL.getD (c / 16) 0, hexL.getD (c % 16) 0]) := by simpa using hB3
        simp (disch:=first|assumption|omega|(simp only [lens];omega)) only [eqs,↓gvd_succ,↓gvd_zero,↓and_of,im_of,im_of trivial,vlt,hP,hst,initS,Nat.reduceBEq,Nat.reduceAdd,Nat.reduceMul,Nat.reduceSub,Nat.reduceDiv,Nat.reduceMod,Nat.reducePow,Nat.reduceLT,Nat.reduceLeDiff,Nat.reduceEqDiff,Int.reduceAdd,Int.reduceSub,Int.reduceNeg,Int.reduceMul,Int.reduceToNat,Int.reducePow,Int.reduceLE,Int.reduceLT,Int.reduceEq,Int.reduceNe,reduceIte,reduceCtorEq,ne_eq,not_true_eq_false,not_false_eq_true,imp_self,implies_true,bls,eq_self,hl,hil,hc]
        refine E_callW (s_writeByte hP) ⟨b, pf m l i ++ [92, 120, hexL.getD (c / 16) 0, hexL.getD (c % 16) 0], 59, rfl, hB3, bnd1 hlen (by simp), fun T4 hS4 hB4 => ?_⟩
        have e4 := subExt e3 hXl hS4
        replace hB4 : Bd X.st1.length T4 b (pf m l i ++ [92, 120, hexL.getD (c / 16) 0, hexL.getD (c % 16) 0, 59]) := by simpa using hB4
        simp (disch:=first|assumption|omega|(simp only [lens];omega)) only [eqs,↓gvd_succ,↓gvd_zero,↓and_of,im_of,im_of trivial,vlt,hP,hst,initS,Nat.reduceBEq,Nat.reduceAdd,Nat.reduceMul,Nat.reduceSub,Nat.reduceDiv,Nat.reduceMod,Nat.reducePow,Nat.reduceLT,Nat.reduceLeDiff,Nat.reduceEqDiff,Int.reduceAdd,Int.reduceSub,Int.reduceNeg,Int.reduceMul,Int.reduceToNat,Int.reducePow,Int.reduceLE,Int.reduceLT,Int.reduceEq,Int.reduceNe,reduceIte,reduceCtorEq,ne_eq,not_true_eq_false,not_false_eq_true,imp_self,implies_true,bls,eq_self,hl,hil,hc]
        exact again (i + 1, T4) ⟨by dsimp only; omega, e4, by rw [pf_succ hgi, show escL m c = [92, 120, hexL.getD (c / 16) 0, hexL.getD (c % 16) 0, 59] by unfold escL; rw [if_neg hn, if_neg hq1, if_neg hq2, if_pos (by omega)]]; exact hB4⟩ (by dsimp only; omega) rfl (by dsimp only; simp (disch:=first|assumption|omega|(simp only [lens];omega)) only [eqs,↓gvd_succ,↓gvd_zero,↓and_of,im_of,im_of trivial,vlt,hP,hst,initS,Nat.reduceBEq,Nat.reduceAdd,Nat.reduceMul,Nat.reduceSub,Nat.reduceDiv,Nat.reduceMod,Nat.reducePow,Nat.reduceLT,Nat.reduceLeDiff,Nat.reduceEqDiff,Int.reduceAdd,Int.reduceSub,Int.reduceNeg,Int.reduceMul,Int.reduceToNat,Int.reducePow,Int.reduceLE,Int.reduceLT,Int.reduceEq,Int.reduceNe,reduceIte,reduceCtorEq,ne_eq,not_true_eq_false,not_false_eq_true,imp_self,implies_true,bls,eq_self,h3] <;> rfl)
      simp (disch:=first|assumption|omega|(simp only [lens];omega)) only [eqs,↓gvd_succ,↓gvd_zero,↓and_of,im_of,im_of trivial,vlt,hP,hst,initS,Nat.reduceBEq,Nat.reduceAdd,Nat.reduceMul,Nat.reduceSub,Nat.reduceDiv,Nat.reduceMod,Nat.reducePow,Nat.reduceLT,Nat.reduceLeDiff,Nat.reduceEqDiff,Int.reduceAdd,Int.reduceSub,Int.reduceNeg,Int.reduceMul,Int.reduceToNat,Int.reducePow,Int.reduceLE,Int.reduceLT,Int.reduceEq,Int.reduceNe,reduceIte,reduceCtorEq,ne_eq,not_true_eq_false,not_false_eq_true,imp_self,implies_true,bls,eq_self,h6]
      refine C_dec (fun h7 => ?_) (fun h7 => ?_)
      · simp (disch:=first|assumption|omega|(simp only [lens];omega)) only [eqs,↓gvd_succ,↓gvd_zero,↓and_of,im_of,im_of trivial,vlt,hP,hst,initS,Nat.reduceBEq,Nat.reduceAdd,Nat.reduceMul,Nat.reduceSub,Nat.reduceDiv,Nat.reduceMod,Nat.reducePow,Nat.reduceLT,Nat.reduceLeDiff,Nat.reduceEqDiff,Int.reduceAdd,Int.reduceSub,Int.reduceNeg,Int.reduceMul,Int.reduceToNat,Int.reducePow,Int.reduceLE,Int.reduceLT,Int.reduceEq,Int.reduceNe,reduceIte,reduceCtorEq,ne_eq,not_true_eq_false,not_false_eq_true,imp_self,implies_true,bls,eq_self]
        refine E_callW (s_writeString hP) ⟨b, pf m l i ++ [], ⟨#[92, 120]⟩, rfl, (by simpa using hB), bnd1s hlen rfl, fun T1 v1 hS1 hB1 => ?_⟩
        have e1 := subExt hT hXl hS1
        replace hB1 : Bd X.st1.length T1 b (pf m l i ++ [92, 120]) := by simpa [sb] using hB1
        simp (disch:=first|assumption|omega|(simp only [lens];omega)) only [eqs,↓gvd_succ,↓gvd_zero,↓and_of,im_of,im_of trivial,vlt,hP,hst,initS,Nat.reduceBEq,Nat.reduceAdd,Nat.reduceMul,Nat.reduceSub,Nat.reduceDiv,Nat.reduceMod,Nat.reducePow,Nat.reduceLT,Nat.reduceLeDiff,Nat.reduceEqDiff,Int.reduceAdd,Int.reduceSub,Int.reduceNeg,Int.reduceMul,Int.reduceToNat,Int.reducePow,Int.reduceLE,Int.reduceLT,Int.reduceEq,Int.reduceNe,reduceIte,reduceCtorEq,ne_eq,not_true_eq_false,not_false_eq_true,imp_self,implies_true,bls,eq_self,hl,hil,hc]
        have g1 := hexL_get (i := c / 16) (by omega)
        have g2 := hexL_get (i := c % 16) (by omega)
        have ha15 := and15w c hc256
        have hx1 : c / 16 < 16 := by omega
        have hx2 : c % 16 < 16 := by omega
        rw [shr4w, hex_len, g1]
        refine ⟨hx1, ?_⟩
        refine E_callW (s_writeByte hP) ⟨b, pf m l i ++ [92, 120], hexL.getD (c / 16) 0, rfl, hB1, bnd1 hlen (by simp), fun T2 hS2 hB2 => ?_⟩
        have e2 := subExt e1 hXl hS2
        replace hB2 : Bd X.st1.length T2 b (pf m l i ++ [92, 120, hexL.getD (c / 16) 0]) := by simpa using hB2
        simp (disch:=first|assumption|omega|(simp only [lens];omega)) only [eqs,↓gvd_succ,↓gvd_zero,↓and_of,im_of,im_of trivial,vlt,hP,hst,initS,Nat.reduceBEq,Nat.reduceAdd,Nat.reduceMul,Nat.reduceSub,Nat.reduceDiv,Nat.reduceMod,Nat.reducePow,Nat.reduceLT,Nat.reduceLeDiff,Nat.reduceEqDiff,Int.reduceAdd,Int.reduceSub,Int.reduceNeg,Int.reduceMul,Int.reduceToNat,Int.reducePow,Int.reduceLE,Int.reduceLT,Int.reduceEq,Int.reduceNe,reduceIte,reduceCtorEq,ne_eq,not_true_eq_false,not_false_eq_true,imp_self,implies_true,bls,eq_self,ha15,hex_len,g2,hx2]
        refine E_callW (s_writeByte hP) ⟨b, pf m l i ++ [92, 120, hexL.getD (c / 16) 0], hexL.getD (c % 16) 0, rfl, hB2, bnd1 hlen (by simp), fun T3 hS3 hB3 => ?_⟩
        have e3 := subExt e2 hXl hS3
        replace hB3 : Bd X.st1.length T3 b (pf m l i ++ [92, 120, hexL.getD (c / 16) 0, hexL.getD (c % 16) 0]) := by simpa using hB3
        simp (disch:=first|assumption|omega|(simp only [lens];omega)) only [eqs,↓gvd_succ,↓gvd_zero,↓and_of,im_of,im_of trivial,vlt,hP,hst,initS,Nat.reduceBEq,Nat.reduceAdd,Nat.reduceMul,Nat.reduceSub,Nat.reduceDiv,Nat.reduceMod,Nat.reducePow,Nat.reduceLT,Nat.reduceLeDiff,Nat.reduceEqDiff,Int.reduceAdd,Int.reduceSub,Int.reduceNeg,Int.reduceMul,Int.reduceToNat,Int.reducePow,Int.reduceLE,Int.reduceLT,Int.reduceEq,Int.reduceNe,reduceIte,reduceCtorEq,ne_eq,not_true_eq_false,not_false_eq_true,imp_self,implies_true,bls,eq_self,hl,hil,hc]
        refine E_callW (s_writeByte hP) ⟨b, pf m l i ++ [92, 120, hexL.getD (c / 16) 0, hexL.getD (c % 16) 0], 59, rfl, hB3, bnd1 hlen (by simp), fun T4 hS4 hB4 => ?_⟩
        have e4 := subExt e3 hXl hS4
        replace hB4 : Bd X.st1.length T4 b (pf m l i ++ [92, 120, hexL.getD (c / 16) 0, hexL.getD (c % 16) 0, 59]) := by simpa using hB4
        simp (disch:=first|assumption|omega|(simp only [lens];omega)) only [eqs,↓gvd_succ,↓gvd_zero,↓and_of,im_of,im_of trivial,vlt,hP,hst,initS,Nat.reduceBEq,Nat.reduceAdd,Nat.reduceMul,Nat.reduceSub,Nat.reduceDiv,Nat.reduceMod,Nat.reducePow,Nat.reduceLT,Nat.reduceLeDiff,Nat.reduceEqDiff,Int.reduceAdd,Int.reduceSub,Int.reduceNeg,Int.reduceMul,Int.reduceToNat,Int.reducePow,Int.reduceLE,Int.reduceLT,Int.reduceEq,Int.reduceNe,reduceIte,reduceCtorEq,ne_eq,not_true_eq_false,not_false_eq_true,imp_self,implies_true,bls,eq_self,hl,hil,hc]
        exact again (i + 1, T4) ⟨by dsimp only; omega, e4, by rw [pf_succ hgi, show escL m c = [92, 120, hexL.getD (c / 16) 0, hexL.getD (c % 16) 0, 59] by unfold escL; rw [if_neg hn, if_neg hq1, if_neg hq2, if_pos (by omega)]]; exact hB4⟩ (by dsimp only; omega) rfl (by dsimp only; simp (disch:=first|assumption|omega|(simp only [lens];omega)) only [eqs,↓gvd_succ,↓gvd_zero,↓and_of,im_of,im_of trivial,vlt,hP,hst,initS,Nat.reduceBEq,Nat.reduceAdd,Nat.reduceMul,Nat.reduceSub,Nat.reduceDiv,Nat.reduceMod,Nat.reducePow,Nat.reduceLT,Nat.reduceLeDiff,Nat.reduceEqDiff,Int.reduceAdd,Int.reduceSub,Int.reduceNeg,Int.reduceMul,Int.reduceToNat,Int.reducePow,Int.reduceLE,Int.reduceLT,Int.reduceEq,Int.reduceNe,reduceIte,reduceCtorEq,ne_eq,not_true_eq_false,not_false_eq_true,imp_self,implies_true,bls,eq_self,h3] <;> rfl)
      · simp (disch:=first|assumption|omega|(simp only [lens];omega)) only [eqs,↓gvd_succ,↓gvd_zero,↓and_of,im_of,im_of trivial,vlt,hP,hst,initS,Nat.reduceBEq,Nat.reduceAdd,Nat.reduceMul,Nat.reduceSub,Nat.reduceDiv,Nat.reduceMod,Nat.reducePow,Nat.reduceLT,Nat.reduceLeDiff,Nat.reduceEqDiff,Int.reduceAdd,Int.reduceSub,Int.reduceNeg,Int.reduceMul,Int.reduceToNat,Int.reducePow,Int.reduceLE,Int.reduceLT,Int.reduceEq,Int.reduceNe,reduceIte,reduceCtorEq,ne_eq,not_true_eq_false,not_false_eq_true,imp_self,implies_true,bls,eq_self]
        refine E_callW (s_writeByte hP) ⟨b, pf m l i ++ [], c, rfl, (by simpa using hB), bnd1 hlen (by simp), fun T1 hS1 hB1 => ?_⟩
        have e1 := subExt hT hXl hS1
        replace hB1 : Bd X.st1.length T1 b (pf m l i ++ [c]) := by simpa using hB1
        simp (disch:=first|assumption|omega|(simp only [lens];omega)) only [eqs,↓gvd_succ,↓gvd_zero,↓and_of,im_of,im_of trivial,vlt,hP,hst,initS,Nat.reduceBEq,Nat.reduceAdd,Nat.reduceMul,Nat.reduceSub,Nat.reduceDiv,Nat.reduceMod,Nat.reducePow,Nat.reduceLT,Nat.reduceLeDiff,Nat.reduceEqDiff,Int.reduceAdd,Int.reduceSub,Int.reduceNeg,Int.reduceMul,Int.reduceToNat,Int.reducePow,Int.reduceLE,Int.reduceLT,Int.reduceEq,Int.reduceNe,reduceIte,reduceCtorEq,ne_eq,not_true_eq_false,not_false_eq_true,imp_self,implies_true,bls,eq_self,hl,hil,hc]
        exact again (i + 1, T1) ⟨by dsimp only; omega, e1, by rw [pf_succ hgi, show escL m c = [c] by unfold escL; rw [if_neg hn, if_neg hq1, if_neg hq2, if_neg (by omega)]]; exact hB1⟩ (by dsimp only; omega) rfl (by dsimp only; simp (disch:=first|assumption|omega|(simp only [lens];omega)) only [eqs,↓gvd_succ,↓gvd_zero,↓and_of,im_of,im_of trivial,vlt,hP,hst,initS,Nat.reduceBEq,Nat.reduceAdd,Nat.reduceMul,Nat.reduceSub,Nat.reduceDiv,Nat.reduceMod,Nat.reducePow,Nat.reduceLT,Nat.reduceLeDiff,Nat.reduceEqDiff,Int.reduceAdd,Int.reduceSub,Int.reduceNeg,Int.reduceMul,Int.reduceToNat,Int.reducePow,Int.reduceLE,Int.reduceLT,Int.reduceEq,Int.reduceNe,reduceIte,reduceCtorEq,ne_eq,not_true_eq_false,not_false_eq_true,imp_self,implies_true,bls,eq_self,h3] <;> rfl)
    · have hq1 : ¬(m = 34 ∧ c = 10) := by omega
      have hq2 : ¬(m = 34 ∧ c = 9) := by omega
      simp (disch:=first|assumption|omega|(simp only [lens];omega)) only [eqs,↓gvd_succ,↓gvd_zero,↓and_of,im_of,im_of trivial,vlt,hP,hst,initS,Nat.reduceBEq,Nat.reduceAdd,Nat.reduceMul,Nat.reduceSub,Nat.reduceDiv,Nat.reduceMod,Nat.reducePow,Nat.reduceLT,Nat.reduceLeDiff,Nat.reduceEqDiff,Int.reduceAdd,Int.reduceSub,Int.reduceNeg,Int.reduceMul,Int.reduceToNat,Int.reducePow,Int.reduceLE,Int.reduceLT,Int.reduceEq,Int.reduceNe,reduceIte,reduceCtorEq,ne_eq,not_true_eq_false,not_false_eq_true,imp_self,implies_true,bls,eq_self,h3]
      refine G_ndec (fun h6 => ?_) (fun h6 => ?_)
      rotate_left
      · simp (disch:=first|assumption|omega|(simp only [lens];omega)) only [eqs,↓gvd_succ,↓gvd_zero,↓and_of,im_of,im_of trivial,vlt,hP,hst,initS,Nat.reduceBEq,Nat.reduceAdd,Nat.reduceMul,Nat.reduceSub,Nat.reduceDiv,Nat.reduceMod,Nat.reducePow,Nat.reduceLT,Nat.reduceLeDiff,Nat.reduceEqDiff,Int.reduceAdd,Int.reduceSub,Int.reduceNeg,Int.reduceMul,Int.reduceToNat,Int.reducePow,Int.reduceLE,Int.reduceLT,Int.reduceEq,Int.reduceNe,reduceIte,reduceCtorEq,ne_eq,not_true_eq_false,not_false_eq_true,imp_self,implies_true,bls,eq_self,h6]
        refine E_callW (s_writeString hP) ⟨b, pf m l i ++ [], ⟨#[92, 120]⟩, rfl, (by simpa using hB), bnd1s hlen rfl, fun T1 v1 hS1 hB1 => ?_⟩
        have e1 := subExt hT hXl hS1
        replace hB1 : Bd X.st1.length T1 b (pf m l i ++ [92, 120]) := by simpa [sb] using hB1
        simp (disch:=first|assumption|omega|(simp only [lens];omega)) only [eqs,↓gvd_succ,↓gvd_zero,↓and_of,im_of,im_of trivial,vlt,hP,hst,initS,Nat.reduceBEq,Nat.reduceAdd,Nat.reduceMul,Nat.reduceSub,Nat.reduceDiv,Nat.reduceMod,Nat.reducePow,Nat.reduceLT,Nat.reduceLeDiff,Nat.reduceEqDiff,Int.reduceAdd,Int.reduceSub,Int.reduceNeg,Int.reduceMul,Int.reduceToNat,Int.reducePow,Int.reduceLE,Int.reduceLT,Int.reduceEq,Int.reduceNe,reduceIte,reduceCtorEq,ne_eq,not_true_eq_false,not_false_eq_true,imp_self,implies_true,bls,eq_self,hl,hil,hc]
        have g1 := hexL_get (i := c / 16) (by omega)
        have g2 := hexL_get (i := c % 16) (by omega)
        have ha15 := and15w c hc256
        have hx1 : c / 16 < 16 := by omega
        have hx2 : c % 16 < 16 := by omega
        rw [shr4w, hex_len, g1]
        refine ⟨hx1, ?_⟩
        refine E_callW (s_writeByte hP) ⟨b, pf m l i ++ [92, 120], hexL.getD (c / 16) 0, rfl, hB1, bnd1 hlen (by simp), fun T2 hS2 hB2 => ?_⟩
        have e2 := subExt e1 hXl hS2
        replace hB2 : Bd X.st1.length T2 b (pf m l i ++ [92, 120, hexL.getD (c / 16) 0]) := by simpa using hB2
        simp (disch:=first|assumption|omega|(simp only [lens];omega)) only [eqs,↓gvd_succ,↓gvd_zero,↓and_of,im_of,im_of trivial,vlt,hP,hst,initS,Nat.reduceBEq,Nat.reduceAdd,Nat.reduceMul,Nat.reduceSub,Nat.reduceDiv,Nat.reduceMod,Nat.reducePow,Nat.reduceLT,Nat.reduceLeDiff,Nat.reduceEqDiff,Int.reduceAdd,Int.reduceSub,Int.reduceNeg,Int.reduceMul,Int.reduceToNat,Int.reducePow,Int.reduceLE,Int.reduceLT,Int.reduceEq,Int.reduceNe,reduceIte,reduceCtorEq,ne_eq,not_true_eq_false,not_false_eq_true,imp_self,implies_true,bls,eq_self,ha15,hex_len,g2,hx2]
        refine E_callW (s_writeByte hP) ⟨b, pf m l i ++ [92, 120, hexL.getD (c / 16) 0], hexL.getD (c % 16) 0, rfl, hB2, bnd1 hlen (by simp), fun T3 hS3 hB3 => ?_⟩
        have e3 := subExt e2 hXl hS3
        replace hB3 : Bd X.st1.length T3 b (pf m l i ++ [92, 120, hexL.getD (c / 16) 0, hexL.getD (c % 16) 0]) := by simpa using hB3
        simp (disch:=first|assumption|omega|(simp only [lens];omega)) only [eqs,↓gvd_succ,↓gvd_zero,↓and_of,im_of,im_of trivial,vlt,hP,hst,initS,Nat.reduceBEq,Nat.reduceAdd,Nat.reduceMul,Nat.reduceSub,Nat.reduceDiv,Nat.reduceMod,Nat.reducePow,Nat.reduceLT,Nat.reduceLeDiff,Nat.reduceEqDiff,Int.reduceAdd,Int.reduceSub,Int.reduceNeg,Int.reduceMul,Int.reduceToNat,Int.reducePow,Int.reduceLE,Int.reduceLT,Int.reduceEq,Int.reduceNe,reduceIte,reduceCtorEq,ne_eq,not_true_eq_false,not_false_eq_true,imp_self,implies_true,bls,eq_self,hl,hil,hc]
        refine E_callW (s_writeByte hP) ⟨b, pf m l i ++ [92, 120, hexL.getD (c / 16) 0, hexL.getD (c % 16) 0], 59, rfl, hB3, bnd1 hlen (by simp), fun T4 hS4 hB4 => ?_⟩
        have e4 := subExt e3 hXl hS4
        replace hB4 : Bd X.st1.length T4 b (pf m l i ++ [92, 120, hexL.getD (c / 16) 0, hexL.getD (c % 16) 0, 59]) := by simpa using hB4
        simp (disch:=first|assumption|omega|(simp only [lens];omega)) only [eqs,↓gvd_succ,↓gvd_zero,↓and_of,im_of,im_of trivial,vlt,hP,hst,initS,Nat.reduceBEq,Nat.reduceAdd,Nat.reduceMul,Nat.reduceSub,Nat.reduceDiv,Nat.reduceMod,Nat.reducePow,Nat.reduceLT,Nat.reduceLeDiff,Nat.reduceEqDiff,Int.reduceAdd,Int.reduceSub,Int.reduceNeg,Int.reduceMul,Int.reduceToNat,Int.reducePow,Int.reduceLE,Int.reduceLT,Int.reduceEq,Int.reduceNe,reduceIte,reduceCtorEq,ne_eq,not_true_eq_false,not_false_eq_true,imp_self,implies_true,bls,eq_self,hl,hil,hc]
        exact again (i + 1, T4) ⟨by dsimp only; omega, e4, by rw [pf_succ hgi, show escL m c = [92, 120, hexL.getD (c / 16) 0, hexL.getD (c % 16) 0, 59] by unfold escL; rw [if_neg hn, if_neg hq1, if_neg hq2, if_pos (by omega)]]; exact hB4⟩ (by dsimp only; omega) rfl (by dsimp only; simp (disch:=first|assumption|omega|(simp only [lens];omega)) only [eqs,↓gvd_succ,↓gvd_zero,↓and_of,im_of,im_of trivial,vlt,hP,hst,initS,Nat.reduceBEq,Nat.reduceAdd,Nat.reduceMul,Nat.reduceSub,Nat.reduceDiv,Nat.reduceMod,Nat.reducePow,Nat.reduceLT,Nat.reduceLeDiff,Nat.reduceEqDiff,Int.reduceAdd,Int.reduceSub,Int.reduceNeg,Int.reduceMul,Int.reduceToNat,Int.reducePow,Int.reduceLE,Int.reduceLT,Int.reduceEq,Int.reduceNe,reduceIte,reduceCtorEq,ne_eq,not_true_eq_false,not_false_eq_true,imp_self,implies_true,bls,eq_self] <;> rfl)
      simp (disch:=first|assumption|omega|(simp only [lens];omega)) only [eqs,↓gvd_succ,↓gvd_zero,↓and_of,im_of,im_of trivial,vlt,hP,hst,initS,Nat.reduceBEq,Nat.reduceAdd,Nat.reduceMul,Nat.reduceSub,Nat.reduceDiv,Nat.reduceMod,Nat.reducePow,Nat.reduceLT,Nat.reduceLeDiff,Nat.reduceEqDiff,Int.reduceAdd,Int.reduceSub,Int.reduceNeg,Int.reduceMul,Int.reduceToNat,Int.reducePow,Int.reduceLE,Int.reduceLT,Int.reduceEq,Int.reduceNe,reduceIte,reduceCtorEq,ne_eq,not_true_eq_false,not_false_eq_true,imp_self,implies_true,bls,eq_self,h6]
      refine C_dec (fun h7 => ?_) (fun h7 => ?_)
      · simp (disch:=first|assumption|omega|(simp only [lens];omega)) only [eqs,↓gvd_succ,↓gvd_zero,↓and_of,im_of,im_of trivial,vlt,hP,hst,initS,Nat.reduceBEq,Nat.reduceAdd,Nat.reduceMul,Nat.reduceSub,Nat.reduceDiv,Nat.reduceMod,Nat.reducePow,Nat.reduceLT,Nat.reduceLeDiff,Nat.reduceEqDiff,Int.reduceAdd,Int.reduceSub,Int.reduceNeg,Int.reduceMul,Int.reduceToNat,Int.reducePow,Int.reduceLE,Int.reduceLT,Int.reduceEq,Int.reduceNe,reduceIte,reduceCtorEq,ne_eq,not_true_eq_false,not_false_eq_true,imp_self,implies_true,bls,eq_self]
        refine E_callW (s_writeString hP) ⟨b, pf m l i ++ [], ⟨#[92, 120]⟩, rfl, (by simpa using hB), bnd1s hlen rfl, fun T1 v1 hS1 hB1 => ?_⟩
        have e1 := subExt hT hXl hS1
        replace hB1 : Bd X.st1.length T1 b (pf m l i ++ [92, 120]) := by simpa [sb] using hB1
        simp (disch:=first|assumption|omega|(simp only [lens];omega)) only [eqs,↓gvd_succ,↓gvd_zero,↓and_of,im_of,im_of trivial,vlt,hP,hst,initS,Nat.reduceBEq,Nat.reduceAdd,Nat.reduceMul,Nat.reduceSub,Nat.reduceDiv,Nat.reduceMod,Nat.reducePow,Nat.reduceLT,Nat.reduceLeDiff,Nat.reduceEqDiff,Int.reduceAdd,Int.reduceSub,Int.reduceNeg,Int.reduceMul,Int.reduceToNat,Int.reducePow,Int.reduceLE,Int.reduceLT,Int.reduceEq,Int.reduceNe,reduceIte,reduceCtorEq,ne_eq,not_true_eq_false,not_false_eq_true,imp_self,implies_true,bls,eq_self,hl,hil,hc]
        have g1 := hexL_get (i := c / 16) (by omega)
        have g2 := hexL_get (i := c % 16) (by omega)
        have ha15 := and15w c hc256
        have hx1 : c / 16 < 16 := by omega
        have hx2 : c % 16 < 16 := by omega
        rw [shr4w, hex_len, g1]
        refine ⟨hx1, ?_⟩
        refine E_callW (s_writeByte hP) ⟨b, pf m l i ++ [92, 120], hexL.getD (c / 16) 0, rfl, hB1, bnd1 hlen (by simp), fun T2 hS2 hB2 => ?_⟩
        have e2 := subExt e1 hXl hS2
        replace hB2 : Bd X.st1.length T2 b (pf m l i ++ [92, 120, hexL.getD (c / 16) 0]) := by simpa using hB2
        simp (disch:=first|assumption|omega|(simp only [lens];omega)) only [eqs,↓gvd_succ,↓gvd_zero,↓and_of,im_of,im_of trivial,vlt,hP,hst,initS,Nat.reduceBEq,Nat.reduceAdd,Nat.reduceMul,Nat.reduceSub,Nat.reduceDiv,Nat.reduceMod,Nat.reducePow,Nat.reduceLT,Nat.reduceLeDiff,Nat.reduceEqDiff,Int.reduceAdd,Int.reduceSub,Int.reduceNeg,Int.reduceMul,Int.reduceToNat,Int.reducePow,Int.reduceLE,Int.reduceLT,Int.reduceEq,Int.reduceNe,reduceIte,reduceCtorEq,ne_eq,not_true_eq_false,not_false_eq_true,imp_self,implies_true,bls,eq_self,ha15,hex_len,g2,hx2]
        refine E_callW (s_writeByte hP) ⟨b, pf m l i ++ [92, 120, hexL.getD (c / 16) 0], hexL.getD (c % 16) 0, rfl, hB2, bnd1 hlen (by simp), fun T3 hS3 hB3 => ?_⟩
        have e3 := subExt e2 hXl hS3
        replace hB3 : Bd X.st1.length T3 b (pf m l i ++ [92, 120, hexL.getD (c / 16) 0, hexL.getD (c % 16) 0]) := by simpa using hB3
        simp (disch:=first|assumption|omega|(simp only [lens];omega)) only [eqs,↓gvd_succ,↓gvd_zero,↓and_of,im_of,im_of trivial,vlt,hP,hst,initS,Nat.reduceBEq,Nat.reduceAdd,Nat.reduceMul,Nat.reduceSub,Nat.reduceDiv,Nat.reduceMod,Nat.reducePow,Nat.reduceLT,Nat.reduceLeDiff,Nat.reduceEqDiff,Int.reduceAdd,Int.reduceSub,Int.reduceNeg,Int.reduceMul,Int.reduceToNat,Int.reducePow,Int.reduceLE,Int.reduceLT,Int.reduceEq,Int.reduceNe,reduceIte,reduceCtorEq,ne_eq,not_true_eq_false,not_false_eq_true,imp_self,implies_true,bls,eq_self,hl,hil,hc]
        refine E_callW (s_writeByte hP) ⟨b, pf m l i ++ [92, 120, hexL.getD (c / 16) 0, hexL.getD (c % 16) 0], 59, rfl, hB3, bnd1 hlen (by simp), fun T4 hS4 hB4 => ?_⟩
        have e4 := subExt e3 hXl hS4
        replace hB4 : Bd X.st1.length T4 b (pf m l i ++ [92, 120, hexL.getD (c / 16) 0, hexL.getD (c % 16) 0, 59]) := by simpa using hB4
        simp (disch:=first|assumption|omega|(simp only [lens];omega)) only [eqs,↓gvd_succ,↓gvd_zero,↓and_of,im_of,im_of trivial,vlt,hP,hst,initS,Nat.reduceBEq,Nat.reduceAdd,Nat.reduceMul,Nat.reduceSub,Nat.reduceDiv,Nat.reduceMod,Nat.reducePow,Nat.reduceLT,Nat.reduceLeDiff,Nat.reduceEqDiff,Int.reduceAdd,Int.reduceSub,Int.reduceNeg,Int.reduceMul,Int.reduceToNat,Int.reducePow,Int.reduceLE,Int.reduceLT,Int.reduceEq,Int.reduceNe,reduceIte,reduceCtorEq,ne_eq,not_true_eq_false,not_false_eq_true,imp_self,implies_true,bls,eq_self,hl,hil,hc]
        exact again (i + 1, T4) ⟨by dsimp only; omega, e4, by rw [pf_succ hgi, show escL m c = [92, 120, hexL.getD (c / 16) 0, hexL.getD (c % 16) 0, 59] by unfold escL; rw [if_neg hn, if_neg hq1, if_neg hq2, if_pos (by omega)]]; exact hB4⟩ (by dsimp only; omega) rfl (by dsimp only; simp (disch:=first|assumption|omega|(simp only [lens];omega)) only [eqs,↓gvd_succ,↓gvd_zero,↓and_of,im_of,im_of trivial,vlt,hP,hst,initS,Nat.reduceBEq,Nat.reduceAdd,Nat.reduceMul,Nat.reduceSub,Nat.reduceDiv,Nat.reduceMod,Nat.reducePow,Nat.reduceLT,Nat.reduceLeDiff,Nat.reduceEqDiff,Int.reduceAdd,Int.reduceSub,Int.reduceNeg,Int.reduceMul,Int.reduceToNat,Int.reducePow,Int.reduceLE,Int.reduceLT,Int.reduceEq,Int.reduceNe,reduceIte,reduceCtorEq,ne_eq,not_true_eq_false,not_false_eq_true,imp_self,implies_true,bls,eq_self] <;> rfl)
      · simp (disch:=first|assumption|omega|(simp only [lens];omega)) only [eqs,↓gvd_succ,↓gvd_zero,↓and_of,im_of,im_of trivial,vlt,hP,hst,initS,Nat.reduceBEq,Nat.reduceAdd,Nat.reduceMul,Nat.reduceSub,Nat.reduceDiv,Nat.reduceMod,Nat.reducePow,Nat.reduceLT,Nat.reduceLeDiff,Nat.reduceEqDiff,Int.reduceAdd,Int.reduceSub,Int.reduceNeg,Int.reduceMul,Int.reduceToNat,Int.reducePow,Int.reduceLE,Int.reduceLT,Int.reduceEq,Int.reduceNe,reduceIte,reduceCtorEq,ne_eq,not_true_eq_false,not_false_eq_true,imp_self,implies_true,bls,eq_self]
        refine E_callW (s_writeByte hP) ⟨b, pf m l i ++ [], c, rfl, (by simpa using hB), bnd1 hlen (by simp), fun T1 hS1 hB1 => ?_⟩
        have e1 := subExt hT hXl hS1
        replace hB1 : Bd X.st1.length T1 b (pf m l i ++ [c]) := by simpa using hB1
        simp (disch:=first|assumption|omega|(simp only [lens];omega)) only [eqs,↓gvd_succ,↓gvd_zero,↓and_of,im_of,im_of trivial,vlt,hP,hst,initS,Nat.reduceBEq,Nat.reduceAdd,Nat.reduceMul,Nat.reduceSub,Nat.reduceDiv,Nat.reduceMod,Nat.reducePow,Nat.reduceLT,Nat.reduceLeDiff,Nat.reduceEqDiff,Int.reduceAdd,Int.reduceSub,Int.reduceNeg,Int.reduceMul,Int.reduceToNat,Int.reducePow,Int.reduceLE,Int.reduceLT,Int.reduceEq,Int.reduceNe,reduceIte,reduceCtorEq,ne_eq,not_true_eq_false,not_false_eq_true,imp_self,implies_true,bls,eq_self,hl,hil,hc]
        exact again (i + 1, T1) ⟨by dsimp only; omega, e1, by rw [pf_succ hgi, show escL m c = [c] by unfold escL; rw [if_neg hn, if_neg hq1, if_neg hq2, if_neg (by omega)]]; exact hB1⟩ (by dsimp only; omega) rfl (by dsimp only; simp (disch:=first|assumption|omega|(simp only [lens];omega)) only [eqs,↓gvd_succ,↓gvd_zero,↓and_of,im_of,im_of trivial,vlt,hP,hst,initS,Nat.reduceBEq,Nat.reduceAdd,Nat.reduceMul,Nat.reduceSub,Nat.reduceDiv,Nat.reduceMod,Nat.reducePow,Nat.reduceLT,Nat.reduceLeDiff,Nat.reduceEqDiff,Int.reduceAdd,Int.reduceSub,Int.reduceNeg,Int.reduceMul,Int.reduceToNat,Int.reducePow,Int.reduceLE,Int.reduceLT,Int.reduceEq,Int.reduceNe,reduceIte,reduceCtorEq,ne_eq,not_true_eq_false,not_false_eq_true,imp_self,implies_true,bls,eq_self] <;> rfl)
  · have : i = l.length := by omega
    subst this
    simp (disch:=first|assumption|omega|(simp only [lens];omega)) only [eqs,↓gvd_succ,↓gvd_zero,↓and_of,im_of,im_of trivial,vlt,hP,hst,initS,Nat.reduceBEq,Nat.reduceAdd,Nat.reduceMul,Nat.reduceSub,Nat.reduceDiv,Nat.reduceMod,Nat.reducePow,Nat.reduceLT,Nat.reduceLeDiff,Nat.reduceEqDiff,Int.reduceAdd,Int.reduceSub,Int.reduceNeg,Int.reduceMul,Int.reduceToNat,Int.reducePow,Int.reduceLE,Int.reduceLT,Int.reduceEq,Int.reduceNe,reduceIte,reduceCtorEq,ne_eq,not_true_eq_false,not_false_eq_true,imp_self,implies_true,bls,eq_self]
    refine E_callW (s_writeByte hP) ⟨b, _, m, rfl, hB, by simpa using bnd1 (m := m) (i := l.length) hlen (ys := []) (by simp), fun T1 hS1 hB1 => ?_⟩
    have e1 := subExt hT hXl hS1
    simp (disch:=first|assumption|omega|(simp only [lens];omega)) only [eqs,↓gvd_succ,↓gvd_zero,↓and_of,im_of,im_of trivial,vlt,hP,hst,initS,Nat.reduceBEq,Nat.reduceAdd,Nat.reduceMul,Nat.reduceSub,Nat.reduceDiv,Nat.reduceMod,Nat.reducePow,Nat.reduceLT,Nat.reduceLeDiff,Nat.reduceEqDiff,Int.reduceAdd,Int.reduceSub,Int.reduceNeg,Int.reduceMul,Int.reduceToNat,Int.reducePow,Int.reduceLE,Int.reduceLT,Int.reduceEq,Int.reduceNe,reduceIte,reduceCtorEq,ne_eq,not_true_eq_false,not_false_eq_true,imp_self,implies_true,bls,eq_self]
    refine E_callW (s_bString hP) ⟨b, _, rfl, hB1, ?_, fun T2 hS2 => ?_⟩
    · intro x hx
      refine btwL_lt hm hlt x ?_
      unfold pf at hx
      unfold btwL
      rw [List.take_length] at hx
      simpa using hx
    · simp (disch:=first|assumption|omega|(simp only [lens];omega)) only [eqs,↓gvd_succ,↓gvd_zero,↓and_of,im_of,im_of trivial,vlt,hP,hst,initS,Nat.reduceBEq,Nat.reduceAdd,Nat.reduceMul,Nat.reduceSub,Nat.reduceDiv,Nat.reduceMod,Nat.reducePow,Nat.reduceLT,Nat.reduceLeDiff,Nat.reduceEqDiff,Int.reduceAdd,Int.reduceSub,Int.reduceNeg,Int.reduceMul,Int.reduceToNat,Int.reducePow,Int.reduceLE,Int.reduceLT,Int.reduceEq,Int.reduceNe,reduceIte,reduceCtorEq,ne_eq,not_true_eq_false,not_false_eq_true,imp_self,implies_true,bls,eq_self]
      have := hK T2 (preExt e1 hXl hS2)
      unfold btwL at this
      unfold pf
      rw [List.take_length]
      exact this
end Go.Proofs.Pv

/- Data as texts: the plain mathematics; what a builder's methods leave. -/
namespace Go.Proofs.Pv
open Go Go.RowKit Go.Proofs
set_option maxRecDepth 20000

def nameL (l : List Nat) : List Nat := if plainL l then l else btwL 124 l
mutual
def textL (raw : Bool) : Dt → List Nat
  | .mk k g l b s its tls => if k = 1 then txtI (iv g (val l)) else if k = 2 then (if b then [35, 116] else [35, 102]) else if raw = true ∧ (k = 3 ∨ k = 4) then sb s else if k = 3 then nameL (sb s) else if k = 4 then btwL 34 (sb s) else if k = 5 then 40 :: (itsL raw its ++ tlsL raw tls ++ [41]) else [35, 118]
def itsL (raw : Bool) : List Dt → List Nat
  | [] => []
  | d :: ds => textL raw d ++ moreL raw ds
def moreL (raw : Bool) : List Dt → List Nat
  | [] => []
  | d :: ds => 32 :: (textL raw d ++ moreL raw ds)
def tlsL (raw : Bool) : List Dt → List Nat
  | [] => []
  | d :: ds => 32 :: 46 :: 32 :: (textL raw d ++ tlsL raw ds)
end
theorem text_mk {raw : Bool} {k : Int} {g : Bool} {l : List Nat} {b : Bool} {s : ByteArray} {its tls : List Dt} : textL raw (.mk k g l b s its tls) = if k = 1 then txtI (iv g (val l)) else if k = 2 then (if b then [35, 116] else [35, 102]) else if raw = true ∧ (k = 3 ∨ k = 4) then sb s else if k = 3 then nameL (sb s) else if k = 4 then btwL 34 (sb s) else if k = 5 then 40 :: (itsL raw its ++ tlsL raw tls ++ [41]) else [35, 118] := by rw [textL]
section
variable {raw : Bool} {l m : List Dt} {e : Dt}
theorem more_app : moreL raw (l ++ m) = moreL raw l ++ moreL raw m := by
  induction l with
  | nil => rfl
  | cons d l ih => simp only [List.cons_append, moreL, ih, List.append_assoc]
theorem its_app : itsL raw (l ++ m) = itsL raw l ++ (if l.length = 0 then itsL raw m else moreL raw m) := by
  cases l with
  | nil => simp [itsL]
  | cons d l => simp only [List.cons_append, itsL, more_app, List.append_assoc, List.length_cons]; rw [if_neg (by omega)]
theorem its_snoc : itsL raw (l ++ [e]) = itsL raw l ++ ((if l.length = 0 then [] else [32]) ++ textL raw e) := by
  rw [its_app]
  split
  · simp [itsL, moreL]
  · simp [moreL]
theorem tls_app : tlsL raw (l ++ m) = tlsL raw l ++ tlsL raw m := by
  induction l with
  | nil => rfl
  | cons d l ih => simp only [List.cons_append, tlsL, ih, List.append_assoc]
theorem tls_snoc : tlsL raw (l ++ [e]) = tlsL raw l ++ (32 :: 46 :: 32 :: textL raw e) := by rw [tls_app]; simp [tlsL]
theorem its_take {i : Nat} : (itsL raw (l.take i)).length ≤ (itsL raw l).length := by
  conv => rhs; rw [← List.take_append_drop i l, its_app]
  rw [List.length_append]; omega
theorem tls_take {i : Nat} : (tlsL raw (l.take i)).length ≤ (tlsL raw l).length := by
  conv => rhs; rw [← List.take_append_drop i l, tls_app]
  rw [List.length_append]; omega
end
mutual
/-- Numbers and texts not too long. -/
def wOk : Dt → Prop
  | .mk _ _ l _ s its tls => l.length ≤ 1000 ∧ s.size ≤ 1000000 ∧ wOks its ∧ wOks tls
def wOks : List Dt → Prop
  | [] => True
  | d :: ds => wOk d ∧ wOks ds
end
theorem wOk_mk {k : Int} {g : Bool} {l : List Nat} {b : Bool} {s : ByteArray} {its tls : List Dt} : wOk (.mk k g l b s its tls) = (l.length ≤ 1000 ∧ s.size ≤ 1000000 ∧ wOks its ∧ wOks tls) := by rw [wOk]
theorem wOks_mem {d : Dt} {ds : List Dt} (h : wOks ds) (hd : d ∈ ds) : wOk d := by
  induction ds with
  | nil => cases hd
  | cons e ds ih =>
    rw [wOks] at h
    rcases List.mem_cons.1 hd with rfl | hd
    · exact h.1
    · exact ih h.2 hd
theorem txtI_lt2 (z : Int) : ∀ c ∈ txtI z, c < 256 := by
  unfold txtI
  intro c hc
  split at hc
  · rcases List.mem_cons.1 hc with rfl | hc
    · omega
    · exact txt_lt (by omega) (by omega) c hc
  · exact txt_lt (by omega) (by omega) c hc
theorem nameL_lt {l : List Nat} (hl : ∀ n ∈ l, n < 256) : ∀ x ∈ nameL l, x < 256 := by
  unfold nameL
  split
  · exact hl
  · exact btwL_lt (by omega) hl
mutual
theorem textL_lt (raw : Bool) : ∀ d : Dt, ∀ x ∈ textL raw d, x < 256
  | .mk k g l b s its tls => by
    have h1 := itsL_lt raw its
    have h2 := tlsL_lt raw tls
    rw [text_mk]
    split
    · exact txtI_lt2 _
    split
    · intro x hx; split at hx <;> simp at hx <;> omega
    split
    · exact sb_lt' s
    split
    · exact nameL_lt (sb_lt' s)
    split
    · exact btwL_lt (by omega) (sb_lt' s)
    split
    · intro x hx
      simp only [List.mem_cons, List.mem_append, List.not_mem_nil, or_false] at hx
      rcases hx with rfl | (hx | hx) | rfl
      · omega
      · exact h1 x hx
      · exact h2 x hx
      · omega
    · intro x hx; simp at hx; omega
theorem itsL_lt (raw : Bool) : ∀ ds : List Dt, ∀ x ∈ itsL raw ds, x < 256
  | [] => by simp [itsL]
  | d :: ds => by
    intro x hx
    rw [itsL, List.mem_append] at hx
    rcases hx with hx | hx
    · exact textL_lt raw d x hx
    · exact moreL_lt raw ds x hx
theorem moreL_lt (raw : Bool) : ∀ ds : List Dt, ∀ x ∈ moreL raw ds, x < 256
  | [] => by simp [moreL]
  | d :: ds => by
    intro x hx
    rw [moreL, List.mem_cons, List.mem_append] at hx
    rcases hx with rfl | hx | hx
    · omega
    · exact textL_lt raw d x hx
    · exact moreL_lt raw ds x hx
theorem tlsL_lt (raw : Bool) : ∀ ds : List Dt, ∀ x ∈ tlsL raw ds, x < 256
  | [] => by simp [tlsL]
  | d :: ds => by
    intro x hx
    simp only [tlsL, List.mem_cons, List.mem_append] at hx
    rcases hx with rfl | rfl | rfl | hx | hx
    · omega
    · omega
    · omega
    · exact textL_lt raw d x hx
    · exact tlsL_lt raw ds x hx
end

/-! ### Data behind a write -/
section
variable {L : Nat} {st T : St} {x a : AV}
theorem sl_sub {sz n : Nat} {cs : List AV} (h : Pv.sl sz st x = some (n, cs)) (hl : cs.all Pv.leaf = true) (e : Sub L st T) : Pv.sl sz T x = some (n, cs) := by
  rcases sl_cases h with ⟨rfl, h2⟩ | ⟨r, off, c, rfl, hc, hd, h2⟩ | ⟨rfl, rfl, rfl⟩
  · exact h
  · by_cases hg : ∃ S G, c = [.gh S G]
    · obtain ⟨S, G, rfl⟩ := hg
      obtain ⟨S', G', h'⟩ := e.ghs r S G hc
      have hcs : cs = [] := by
        cases cs with
        | nil => rfl
        | cons y ys =>
          exfalso
          have hy : y ∈ (([.gh S G] : List AV).drop off).take (n * sz) := by rw [hd]; simp
          have := List.mem_of_mem_drop (List.mem_of_mem_take hy)
          simp at this
          subst this
          simp [Pv.leaf] at hl
      subst hcs
      have h0 : n * sz = 0 := by simpa using h2.symm
      rw [sl_own_eq, if_pos rfl, h']
      simp [h0]
    · have := e.get r c hc (fun S G hh => hg ⟨S, G, hh⟩)
      unfold Pv.sl at h ⊢
      simp only [hc, this] at h ⊢
      exact h
  · exact h
theorem Nm.sub {l : List Nat} (h : Nm st x l) (e : Sub L st T) : Nm T x l := ⟨sl_sub h.sl u32s_leaf e, h.lt⟩
mutual
theorem DC.sub (e : Sub L st T) {c : List AV} {d : Dt} : DC st c d → DC T c d
  | .mk ha hx hy => .mk (ha.sub e) (hx.sub e) (hy.sub e)
theorem DS.sub (e : Sub L st T) {x : AV} {ds : List Dt} : DS st x ds → DS T x ds
  | .mk hs hd => .mk (sl_sub hs hd.all e) (hd.sub e)
theorem DL.sub (e : Sub L st T) {cs : List AV} {ds : List Dt} : DL st cs ds → DL T cs ds
  | .nil => .nil
  | .cons hc hd => .cons (hc.sub e) (hd.sub e)
end
theorem At.sub {r : Nat} {c : List AV} (h : At st r c) (hg : ∀ S G, c ≠ [.gh S G]) (e : Sub L st T) : At T r c := ⟨e.get r c h.get hg⟩
end
end Go.Proofs.Pv

/- write: Name, Quote, text. -/
namespace Go.Proofs.Pv
open Go Go.RowKit Go.Proofs
set_option maxRecDepth 20000

def RNameW (xs : List AV) (st : St) (K : AV → St → Prop) : Prop := ∃ s : ByteArray, xs = [.val (.string s)] ∧ s.size ≤ 1000000000 ∧ anyw st (.string (bstr (nameL (sb s)))) K
theorem s_NameW : ∀ w0, GW w0 → PSpecAt Tryd.prog w0 18 RNameW := by
  refine gspec_of (fn := Tryd.f18) 1 [.tmp 2] (by kernel_rfl) rfl rfl (by kernel_rfl) mixed (by rintro _ _ _ ⟨p, rfl, _⟩; rfl) ?_
  rintro X _ st K hP hst hG ⟨s, rfl, hs, hK⟩
  refine vc_V ?_
  simp (disch:=first|assumption|omega|(simp only [lens];omega)) only [eqs,↓gvd_succ,↓gvd_zero,↓and_of,im_of,im_of trivial,vlt,hP,hst,initS,Nat.reduceBEq,Nat.reduceAdd,Nat.reduceMul,Nat.reduceSub,Nat.reduceDiv,Nat.reduceMod,Nat.reducePow,Nat.reduceLT,Nat.reduceLeDiff,Nat.reduceEqDiff,Int.reduceAdd,Int.reduceSub,Int.reduceNeg,Int.reduceMul,Int.reduceToNat,Int.reducePow,Int.reduceLE,Int.reduceLT,Int.reduceEq,Int.reduceNe,reduceIte,reduceCtorEq,ne_eq,not_true_eq_false,not_false_eq_true,imp_self,implies_true,bls,eq_self]
  refine E_callA (hP ▸ s_PlainW _ hG) ⟨s, rfl, fun T eT => ?_⟩
  unfold nameL at hK
  simp (disch:=first|assumption|omega|(simp only [lens];omega)) only [eqs,↓gvd_succ,↓gvd_zero,↓and_of,im_of,im_of trivial,vlt,hP,hst,initS,Nat.reduceBEq,Nat.reduceAdd,Nat.reduceMul,Nat.reduceSub,Nat.reduceDiv,Nat.reduceMod,Nat.reducePow,Nat.reduceLT,Nat.reduceLeDiff,Nat.reduceEqDiff,Int.reduceAdd,Int.reduceSub,Int.reduceNeg,Int.reduceMul,Int.reduceToNat,Int.reducePow,Int.reduceLE,Int.reduceLT,Int.reduceEq,Int.reduceNe,reduceIte,reduceCtorEq,ne_eq,not_true_eq_false,not_false_eq_true,imp_self,implies_true,bls,eq_self]
  refine C_bool (fun h => ?_) (fun h => ?_)
  · rw [if_pos h, bstr_sb] at hK
    simp (disch:=first|assumption|omega|(simp only [lens];omega)) only [eqs,↓gvd_succ,↓gvd_zero,↓and_of,im_of,im_of trivial,vlt,hP,hst,initS,Nat.reduceBEq,Nat.reduceAdd,Nat.reduceMul,Nat.reduceSub,Nat.reduceDiv,Nat.reduceMod,Nat.reducePow,Nat.reduceLT,Nat.reduceLeDiff,Nat.reduceEqDiff,Int.reduceAdd,Int.reduceSub,Int.reduceNeg,Int.reduceMul,Int.reduceToNat,Int.reducePow,Int.reduceLE,Int.reduceLT,Int.reduceEq,Int.reduceNe,reduceIte,reduceCtorEq,ne_eq,not_true_eq_false,not_false_eq_true,imp_self,implies_true,bls,eq_self]
    exact hK _ eT
  · rw [if_neg (by rw [h]; decide)] at hK
    simp (disch:=first|assumption|omega|(simp only [lens];omega)) only [eqs,↓gvd_succ,↓gvd_zero,↓and_of,im_of,im_of trivial,vlt,hP,hst,initS,Nat.reduceBEq,Nat.reduceAdd,Nat.reduceMul,Nat.reduceSub,Nat.reduceDiv,Nat.reduceMod,Nat.reducePow,Nat.reduceLT,Nat.reduceLeDiff,Nat.reduceEqDiff,Int.reduceAdd,Int.reduceSub,Int.reduceNeg,Int.reduceMul,Int.reduceToNat,Int.reducePow,Int.reduceLE,Int.reduceLT,Int.reduceEq,Int.reduceNe,reduceIte,reduceCtorEq,ne_eq,not_true_eq_false,not_false_eq_true,imp_self,implies_true,bls,eq_self]
    refine E_call (hP ▸ s_between') ⟨s, 124, rfl, by omega, hs, fun T2 e2 => ?_⟩
    simp (disch:=first|assumption|omega|(simp only [lens];omega)) only [eqs,↓gvd_succ,↓gvd_zero,↓and_of,im_of,im_of trivial,vlt,hP,hst,initS,Nat.reduceBEq,Nat.reduceAdd,Nat.reduceMul,Nat.reduceSub,Nat.reduceDiv,Nat.reduceMod,Nat.reducePow,Nat.reduceLT,Nat.reduceLeDiff,Nat.reduceEqDiff,Int.reduceAdd,Int.reduceSub,Int.reduceNeg,Int.reduceMul,Int.reduceToNat,Int.reducePow,Int.reduceLE,Int.reduceLT,Int.reduceEq,Int.reduceNe,reduceIte,reduceCtorEq,ne_eq,not_true_eq_false,not_false_eq_true,imp_self,implies_true,bls,eq_self]
    exact hK _ (eT.trans e2)
def RQuoteW (xs : List AV) (st : St) (K : AV → St → Prop) : Prop := ∃ s : ByteArray, xs = [.val (.string s)] ∧ s.size ≤ 1000000000 ∧ anyw st (.string (bstr (btwL 34 (sb s)))) K
theorem s_QuoteW : PSpec Tryd.prog 20 RQuoteW := by
  refine fspec_of (fn := Tryd.f20) 1 [.tmp 2] (by kernel_rfl) rfl rfl (by kernel_rfl) mixed (by rintro _ _ _ ⟨p, rfl, _⟩; rfl) ?_
  rintro X _ st K hP hst ⟨s, rfl, hs, hK⟩
  refine vc_V ?_
  simp (disch:=first|assumption|omega|(simp only [lens];omega)) only [eqs,↓gvd_succ,↓gvd_zero,↓and_of,im_of,im_of trivial,vlt,hP,hst,initS,Nat.reduceBEq,Nat.reduceAdd,Nat.reduceMul,Nat.reduceSub,Nat.reduceDiv,Nat.reduceMod,Nat.reducePow,Nat.reduceLT,Nat.reduceLeDiff,Nat.reduceEqDiff,Int.reduceAdd,Int.reduceSub,Int.reduceNeg,Int.reduceMul,Int.reduceToNat,Int.reducePow,Int.reduceLE,Int.reduceLT,Int.reduceEq,Int.reduceNe,reduceIte,reduceCtorEq,ne_eq,not_true_eq_false,not_false_eq_true,imp_self,implies_true,bls,eq_self]
  refine E_call (hP ▸ s_between') ⟨s, 34, rfl, by omega, hs, fun T2 e2 => ?_⟩
  simp (disch:=first|assumption|omega|(simp only [lens];omega)) only [eqs,↓gvd_succ,↓gvd_zero,↓and_of,im_of,im_of trivial,vlt,hP,hst,initS,Nat.reduceBEq,Nat.reduceAdd,Nat.reduceMul,Nat.reduceSub,Nat.reduceDiv,Nat.reduceMod,Nat.reducePow,Nat.reduceLT,Nat.reduceLeDiff,Nat.reduceEqDiff,Int.reduceAdd,Int.reduceSub,Int.reduceNeg,Int.reduceMul,Int.reduceToNat,Int.reducePow,Int.reduceLE,Int.reduceLT,Int.reduceEq,Int.reduceNe,reduceIte,reduceCtorEq,ne_eq,not_true_eq_false,not_false_eq_true,imp_self,implies_true,bls,eq_self]
  exact hK _ e2
def RTextW (L N : Nat) (xs : List AV) (st : St) (K : AV → St → Prop) : Prop := ∃ (b : Nat) (bs : List Nat) (x : AV) (raw : Bool) (d : Dt), xs = [.val (.pointer (some ⟨b, 0, none⟩)), x, .val (.bool raw)] ∧ DA st x d ∧ Bd L st b bs ∧ L ≤ st.length ∧ d.sz < N ∧ d.sz ≤ 100000 ∧ wOk d ∧ bs.length + (textL raw d).length ≤ 140737488355328 ∧
  ∀ T, Sub L st T → Bd L T b (bs ++ textL raw d) → K (.tup []) T
set_option maxHeartbeats 4000000 in
theorem s_textW (N : Nat) : ∀ X : Cx, X.P = Tryd.prog → GW X.w0 → FSpec X 63 (RTextW X.st1.length N) := by
  induction N with
  | zero =>
    intro X hP0 hG0
    refine wspecG_of (fn := Tryd.f63) 3 [] (by kernel_rfl) rfl rfl (by kernel_rfl) mixed (by rintro _ _ _ ⟨_, _, _, _, _, rfl, _⟩; rfl) hP0 ?_
    rintro Y _ st K hP hst hw ⟨b, bs, x, raw, d, rfl, hx, hB, hLs, hN, _⟩
    omega
  | succ N ih =>
  intro X hP0 hG0
  refine wspecG_of (fn := Tryd.f63) 3 [] (by kernel_rfl) rfl rfl (by kernel_rfl) mixed (by rintro _ _ _ ⟨_, _, _, _, _, rfl, _⟩; rfl) hP0 ?_
  rintro Y _ st K hP hst hw ⟨b, bs, x, raw, d, rfl, hx, hB, hLs, hN, hM, hok, hlen, hK⟩
  rw [← hst] at hB hK hLs
  have hG : GW Y.w0 := by rw [hw]; exact hG0
  obtain ⟨k, g, a, l, bb, s, x, y, its, tls, rfl, rfl, ha, hxs, hy⟩ := hx.inv
  have la := ha.leaf
  have lx := hxs.leaf
  have ly := hy.leaf
  rw [sz_mk] at hN hM
  rw [wOk_mk] at hok
  rw [text_mk] at hK hlen
  obtain ⟨st1, hst1⟩ : ∃ st1, st1 = st ++ [some [.val (.int .i64 k), .val (.bool g), a, .val (.bool bb), .val (.string s), x, y]] := ⟨_, rfl⟩
  have e1 : Ext st st1 := ⟨_, hst1⟩
  have hB1 := hB.ext e1
  have s1 : Sub Y.st1.length st st1 := Sub.ext hLs e1
  have gA : At st1 st.length [.val (.int .i64 k), .val (.bool g), a, .val (.bool bb), .val (.string s), x, y] := ⟨by rw [hst1, get_app0]; rfl⟩
  have gA0 := gA.get
  refine vc_V ?_
  simp (disch:=first|assumption|omega|(simp only [lens];omega)) only [eqs,↓gvd_succ,↓gvd_zero,↓and_of,im_of,im_of trivial,vlt,hP,hst,initS,Nat.reduceBEq,Nat.reduceAdd,Nat.reduceMul,Nat.reduceSub,Nat.reduceDiv,Nat.reduceMod,Nat.reducePow,Nat.reduceLT,Nat.reduceLeDiff,Nat.reduceEqDiff,Int.reduceAdd,Int.reduceSub,Int.reduceNeg,Int.reduceMul,Int.reduceToNat,Int.reducePow,Int.reduceLE,Int.reduceLT,Int.reduceEq,Int.reduceNe,reduceIte,reduceCtorEq,ne_eq,not_true_eq_false,not_false_eq_true,imp_self,implies_true,bls,eq_self,la,lx,ly]
  rw [← hst1]
  refine C_dec (fun h1 => ?_) (fun h1 => ?_)
  · subst h1
    rw [if_pos rfl] at hK hlen
    simp (disch:=first|assumption|omega|(simp only [lens];omega)) only [eqs,↓gvd_succ,↓gvd_zero,↓and_of,im_of,im_of trivial,vlt,hP,hst,initS,Nat.reduceBEq,Nat.reduceAdd,Nat.reduceMul,Nat.reduceSub,Nat.reduceDiv,Nat.reduceMod,Nat.reducePow,Nat.reduceLT,Nat.reduceLeDiff,Nat.reduceEqDiff,Int.reduceAdd,Int.reduceSub,Int.reduceNeg,Int.reduceMul,Int.reduceToNat,Int.reducePow,Int.reduceLE,Int.reduceLT,Int.reduceEq,Int.reduceNe,reduceIte,reduceCtorEq,ne_eq,not_true_eq_false,not_false_eq_true,imp_self,implies_true,bls,eq_self,gA0]
    refine E_call (hP ▸ s_wText) ⟨_, g, l, rfl, ⟨a, rfl, ha.ext e1⟩, hok.1, fun T eT => ?_⟩
    have hLT : Y.st1.length ≤ st1.length := Nat.le_trans hLs e1.len
    have hsT := s1.trans hLs (Sub.ext hLT eT)
    have htx := sb_bstr (txtI_lt2 (iv g (val l)))
    simp (disch:=first|assumption|omega|(simp only [lens];omega)) only [eqs,↓gvd_succ,↓gvd_zero,↓and_of,im_of,im_of trivial,vlt,hP,hst,initS,Nat.reduceBEq,Nat.reduceAdd,Nat.reduceMul,Nat.reduceSub,Nat.reduceDiv,Nat.reduceMod,Nat.reducePow,Nat.reduceLT,Nat.reduceLeDiff,Nat.reduceEqDiff,Int.reduceAdd,Int.reduceSub,Int.reduceNeg,Int.reduceMul,Int.reduceToNat,Int.reducePow,Int.reduceLE,Int.reduceLT,Int.reduceEq,Int.reduceNe,reduceIte,reduceCtorEq,ne_eq,not_true_eq_false,not_false_eq_true,imp_self,implies_true,bls,eq_self]
    refine E_callW (s_writeString hP) ⟨b, bs, bstr (txtI (iv g (val l))), rfl, hB1.ext eT, by rw [bstr_size]; exact hlen, fun T2 v2 hS2 hB2 => ?_⟩
    simp (disch:=first|assumption|omega|(simp only [lens];omega)) only [eqs,↓gvd_succ,↓gvd_zero,↓and_of,im_of,im_of trivial,vlt,hP,hst,initS,Nat.reduceBEq,Nat.reduceAdd,Nat.reduceMul,Nat.reduceSub,Nat.reduceDiv,Nat.reduceMod,Nat.reducePow,Nat.reduceLT,Nat.reduceLeDiff,Nat.reduceEqDiff,Int.reduceAdd,Int.reduceSub,Int.reduceNeg,Int.reduceMul,Int.reduceToNat,Int.reducePow,Int.reduceLE,Int.reduceLT,Int.reduceEq,Int.reduceNe,reduceIte,reduceCtorEq,ne_eq,not_true_eq_false,not_false_eq_true,imp_self,implies_true,bls,eq_self]
    rw [htx] at hB2
    exact hK T2 (hsT.trans hLs hS2) hB2
  rw [if_neg h1] at hK hlen
  simp (disch:=first|assumption|omega|(simp only [lens];omega)) only [eqs,↓gvd_succ,↓gvd_zero,↓and_of,im_of,im_of trivial,vlt,hP,hst,initS,Nat.reduceBEq,Nat.reduceAdd,Nat.reduceMul,Nat.reduceSub,Nat.reduceDiv,Nat.reduceMod,Nat.reducePow,Nat.reduceLT,Nat.reduceLeDiff,Nat.reduceEqDiff,Int.reduceAdd,Int.reduceSub,Int.reduceNeg,Int.reduceMul,Int.reduceToNat,Int.reducePow,Int.reduceLE,Int.reduceLT,Int.reduceEq,Int.reduceNe,reduceIte,reduceCtorEq,ne_eq,not_true_eq_false,not_false_eq_true,imp_self,implies_true,bls,eq_self,gA0]
  refine G_dec (fun h2 => ?_) (fun h2 => ?_)
  · subst h2
    rw [if_pos rfl] at hK hlen
    simp (disch:=first|assumption|omega|(simp only [lens];omega)) only [eqs,↓gvd_succ,↓gvd_zero,↓and_of,im_of,im_of trivial,vlt,hP,hst,initS,Nat.reduceBEq,Nat.reduceAdd,Nat.reduceMul,Nat.reduceSub,Nat.reduceDiv,Nat.reduceMod,Nat.reducePow,Nat.reduceLT,Nat.reduceLeDiff,Nat.reduceEqDiff,Int.reduceAdd,Int.reduceSub,Int.reduceNeg,Int.reduceMul,Int.reduceToNat,Int.reducePow,Int.reduceLE,Int.reduceLT,Int.reduceEq,Int.reduceNe,reduceIte,reduceCtorEq,ne_eq,not_true_eq_false,not_false_eq_true,imp_self,implies_true,bls,eq_self,gA0]
    refine C_bool (fun h3 => ?_) (fun h3 => ?_)
    · rw [if_pos h3] at hK hlen
      simp (disch:=first|assumption|omega|(simp only [lens];omega)) only [eqs,↓gvd_succ,↓gvd_zero,↓and_of,im_of,im_of trivial,vlt,hP,hst,initS,Nat.reduceBEq,Nat.reduceAdd,Nat.reduceMul,Nat.reduceSub,Nat.reduceDiv,Nat.reduceMod,Nat.reducePow,Nat.reduceLT,Nat.reduceLeDiff,Nat.reduceEqDiff,Int.reduceAdd,Int.reduceSub,Int.reduceNeg,Int.reduceMul,Int.reduceToNat,Int.reducePow,Int.reduceLE,Int.reduceLT,Int.reduceEq,Int.reduceNe,reduceIte,reduceCtorEq,ne_eq,not_true_eq_false,not_false_eq_true,imp_self,implies_true,bls,eq_self]
      refine E_callW (s_writeString hP) ⟨b, bs, ⟨#[35, 116]⟩, rfl, hB1, hlen, fun T2 v2 hS2 hB2 => ?_⟩
      simp (disch:=first|assumption|omega|(simp only [lens];omega)) only [eqs,↓gvd_succ,↓gvd_zero,↓and_of,im_of,im_of trivial,vlt,hP,hst,initS,Nat.reduceBEq,Nat.reduceAdd,Nat.reduceMul,Nat.reduceSub,Nat.reduceDiv,Nat.reduceMod,Nat.reducePow,Nat.reduceLT,Nat.reduceLeDiff,Nat.reduceEqDiff,Int.reduceAdd,Int.reduceSub,Int.reduceNeg,Int.reduceMul,Int.reduceToNat,Int.reducePow,Int.reduceLE,Int.reduceLT,Int.reduceEq,Int.reduceNe,reduceIte,reduceCtorEq,ne_eq,not_true_eq_false,not_false_eq_true,imp_self,implies_true,bls,eq_self]
      exact hK T2 (s1.trans hLs hS2) (by simpa [sb] using hB2)
    · rw [if_neg (by rw [h3]; decide)] at hK hlen
      simp (disch:=first|assumption|omega|(simp only [lens];omega)) only [eqs,↓gvd_succ,↓gvd_zero,↓and_of,im_of,im_of trivial,vlt,hP,hst,initS,Nat.reduceBEq,Nat.reduceAdd,Nat.reduceMul,Nat.reduceSub,Nat.reduceDiv,Nat.reduceMod,Nat.reducePow,Nat.reduceLT,Nat.reduceLeDiff,Nat.reduceEqDiff,Int.reduceAdd,Int.reduceSub,Int.reduceNeg,Int.reduceMul,Int.reduceToNat,Int.reducePow,Int.reduceLE,Int.reduceLT,Int.reduceEq,Int.reduceNe,reduceIte,reduceCtorEq,ne_eq,not_true_eq_false,not_false_eq_true,imp_self,implies_true,bls,eq_self,gA0]
      refine E_callW (s_writeString hP) ⟨b, bs, ⟨#[35, 102]⟩, rfl, hB1, hlen, fun T2 v2 hS2 hB2 => ?_⟩
      simp (disch:=first|assumption|omega|(simp only [lens];omega)) only [eqs,↓gvd_succ,↓gvd_zero,↓and_of,im_of,im_of trivial,vlt,hP,hst,initS,Nat.reduceBEq,Nat.reduceAdd,Nat.reduceMul,Nat.reduceSub,Nat.reduceDiv,Nat.reduceMod,Nat.reducePow,Nat.reduceLT,Nat.reduceLeDiff,Nat.reduceEqDiff,Int.reduceAdd,Int.reduceSub,Int.reduceNeg,Int.reduceMul,Int.reduceToNat,Int.reducePow,Int.reduceLE,Int.reduceLT,Int.reduceEq,Int.reduceNe,reduceIte,reduceCtorEq,ne_eq,not_true_eq_false,not_false_eq_true,imp_self,implies_true,bls,eq_self]
      exact hK T2 (s1.trans hLs hS2) (by simpa [sb] using hB2)
  rw [if_neg h2] at hK hlen
  simp (disch:=first|assumption|omega|(simp only [lens];omega)) only [eqs,↓gvd_succ,↓gvd_zero,↓and_of,im_of,im_of trivial,vlt,hP,hst,initS,Nat.reduceBEq,Nat.reduceAdd,Nat.reduceMul,Nat.reduceSub,Nat.reduceDiv,Nat.reduceMod,Nat.reducePow,Nat.reduceLT,Nat.reduceLeDiff,Nat.reduceEqDiff,Int.reduceAdd,Int.reduceSub,Int.reduceNeg,Int.reduceMul,Int.reduceToNat,Int.reducePow,Int.reduceLE,Int.reduceLT,Int.reduceEq,Int.reduceNe,reduceIte,reduceCtorEq,ne_eq,not_true_eq_false,not_false_eq_true,imp_self,implies_true,bls,eq_self,h2,gA0]
  by_cases h5 : k = 5
  rotate_left
  · rcases Bool.eq_false_or_eq_true raw with hr | hr
    · simp (disch:=first|assumption|omega|(simp only [lens];omega)) only [eqs,↓gvd_succ,↓gvd_zero,↓and_of,im_of,im_of trivial,vlt,hP,hst,initS,Nat.reduceBEq,Nat.reduceAdd,Nat.reduceMul,Nat.reduceSub,Nat.reduceDiv,Nat.reduceMod,Nat.reducePow,Nat.reduceLT,Nat.reduceLeDiff,Nat.reduceEqDiff,Int.reduceAdd,Int.reduceSub,Int.reduceNeg,Int.reduceMul,Int.reduceToNat,Int.reducePow,Int.reduceLE,Int.reduceLT,Int.reduceEq,Int.reduceNe,reduceIte,reduceCtorEq,ne_eq,not_true_eq_false,not_false_eq_true,imp_self,implies_true,bls,eq_self,hr,gA0]
      refine G_ndec (fun h3 => ?_) (fun h3 => ?_)
      rotate_left
      · rw [if_pos ⟨hr, .inl h3⟩] at hK hlen
        simp (disch:=first|assumption|omega|(simp only [lens];omega)) only [eqs,↓gvd_succ,↓gvd_zero,↓and_of,im_of,im_of trivial,vlt,hP,hst,initS,Nat.reduceBEq,Nat.reduceAdd,Nat.reduceMul,Nat.reduceSub,Nat.reduceDiv,Nat.reduceMod,Nat.reducePow,Nat.reduceLT,Nat.reduceLeDiff,Nat.reduceEqDiff,Int.reduceAdd,Int.reduceSub,Int.reduceNeg,Int.reduceMul,Int.reduceToNat,Int.reducePow,Int.reduceLE,Int.reduceLT,Int.reduceEq,Int.reduceNe,reduceIte,reduceCtorEq,ne_eq,not_true_eq_false,not_false_eq_true,imp_self,implies_true,bls,eq_self,h3,gA0]
        refine E_callW (s_writeString hP) ⟨b, bs, s, rfl, hB1, by rw [← sb_length]; exact hlen, fun T2 v2 hS2 hB2 => ?_⟩
        simp (disch:=first|assumption|omega|(simp only [lens];omega)) only [eqs,↓gvd_succ,↓gvd_zero,↓and_of,im_of,im_of trivial,vlt,hP,hst,initS,Nat.reduceBEq,Nat.reduceAdd,Nat.reduceMul,Nat.reduceSub,Nat.reduceDiv,Nat.reduceMod,Nat.reducePow,Nat.reduceLT,Nat.reduceLeDiff,Nat.reduceEqDiff,Int.reduceAdd,Int.reduceSub,Int.reduceNeg,Int.reduceMul,Int.reduceToNat,Int.reducePow,Int.reduceLE,Int.reduceLT,Int.reduceEq,Int.reduceNe,reduceIte,reduceCtorEq,ne_eq,not_true_eq_false,not_false_eq_true,imp_self,implies_true,bls,eq_self]
        exact hK T2 (s1.trans hLs hS2) hB2
      simp (disch:=first|assumption|omega|(simp only [lens];omega)) only [eqs,↓gvd_succ,↓gvd_zero,↓and_of,im_of,im_of trivial,vlt,hP,hst,initS,Nat.reduceBEq,Nat.reduceAdd,Nat.reduceMul,Nat.reduceSub,Nat.reduceDiv,Nat.reduceMod,Nat.reducePow,Nat.reduceLT,Nat.reduceLeDiff,Nat.reduceEqDiff,Int.reduceAdd,Int.reduceSub,Int.reduceNeg,Int.reduceMul,Int.reduceToNat,Int.reducePow,Int.reduceLE,Int.reduceLT,Int.reduceEq,Int.reduceNe,reduceIte,reduceCtorEq,ne_eq,not_true_eq_false,not_false_eq_true,imp_self,implies_true,bls,eq_self,h3,gA0]
      refine C_dec (fun h4 => ?_) (fun h4 => ?_)
      · rw [if_pos ⟨hr, .inr h4⟩] at hK hlen
        simp (disch:=first|assumption|omega|(simp only [lens];omega)) only [eqs,↓gvd_succ,↓gvd_zero,↓and_of,im_of,im_of trivial,vlt,hP,hst,initS,Nat.reduceBEq,Nat.reduceAdd,Nat.reduceMul,Nat.reduceSub,Nat.reduceDiv,Nat.reduceMod,Nat.reducePow,Nat.reduceLT,Nat.reduceLeDiff,Nat.reduceEqDiff,Int.reduceAdd,Int.reduceSub,Int.reduceNeg,Int.reduceMul,Int.reduceToNat,Int.reducePow,Int.reduceLE,Int.reduceLT,Int.reduceEq,Int.reduceNe,reduceIte,reduceCtorEq,ne_eq,not_true_eq_false,not_false_eq_true,imp_self,implies_true,bls,eq_self,gA0]
        refine E_callW (s_writeString hP) ⟨b, bs, s, rfl, hB1, by rw [← sb_length]; exact hlen, fun T2 v2 hS2 hB2 => ?_⟩
        simp (disch:=first|assumption|omega|(simp only [lens];omega)) only [eqs,↓gvd_succ,↓gvd_zero,↓and_of,im_of,im_of trivial,vlt,hP,hst,initS,Nat.reduceBEq,Nat.reduceAdd,Nat.reduceMul,Nat.reduceSub,Nat.reduceDiv,Nat.reduceMod,Nat.reducePow,Nat.reduceLT,Nat.reduceLeDiff,Nat.reduceEqDiff,Int.reduceAdd,Int.reduceSub,Int.reduceNeg,Int.reduceMul,Int.reduceToNat,Int.reducePow,Int.reduceLE,Int.reduceLT,Int.reduceEq,Int.reduceNe,reduceIte,reduceCtorEq,ne_eq,not_true_eq_false,not_false_eq_true,imp_self,implies_true,bls,eq_self]
        exact hK T2 (s1.trans hLs hS2) hB2
      · rw [if_neg (fun h => h.2.elim h3 h4), if_neg h3, if_neg h4, if_neg h5] at hK hlen
        simp (disch:=first|assumption|omega|(simp only [lens];omega)) only [eqs,↓gvd_succ,↓gvd_zero,↓and_of,im_of,im_of trivial,vlt,hP,hst,initS,Nat.reduceBEq,Nat.reduceAdd,Nat.reduceMul,Nat.reduceSub,Nat.reduceDiv,Nat.reduceMod,Nat.reducePow,Nat.reduceLT,Nat.reduceLeDiff,Nat.reduceEqDiff,Int.reduceAdd,Int.reduceSub,Int.reduceNeg,Int.reduceMul,Int.reduceToNat,Int.reducePow,Int.reduceLE,Int.reduceLT,Int.reduceEq,Int.reduceNe,reduceIte,reduceCtorEq,ne_eq,not_true_eq_false,not_false_eq_true,imp_self,implies_true,bls,eq_self,gA0,h3,h4,h5]
        refine E_callW (s_writeString hP) ⟨b, bs, ⟨#[35, 118]⟩, rfl, hB1, hlen, fun T2 v2 hS2 hB2 => ?_⟩
        simp (disch:=first|assumption|omega|(simp only [lens];omega)) only [eqs,↓gvd_succ,↓gvd_zero,↓and_of,im_of,im_of trivial,vlt,hP,hst,initS,Nat.reduceBEq,Nat.reduceAdd,Nat.reduceMul,Nat.reduceSub,Nat.reduceDiv,Nat.reduceMod,Nat.reducePow,Nat.reduceLT,Nat.reduceLeDiff,Nat.reduceEqDiff,Int.reduceAdd,Int.reduceSub,Int.reduceNeg,Int.reduceMul,Int.reduceToNat,Int.reducePow,Int.reduceLE,Int.reduceLT,Int.reduceEq,Int.reduceNe,reduceIte,reduceCtorEq,ne_eq,not_true_eq_false,not_false_eq_true,imp_self,implies_true,bls,eq_self]
        exact hK T2 (s1.trans hLs hS2) (by simpa [sb] using hB2)
    · rw [if_neg (fun h => by rw [hr] at h; cases h.1)] at hK hlen
      simp (disch:=first|assumption|omega|(simp only [lens];omega)) only [eqs,↓gvd_succ,↓gvd_zero,↓and_of,im_of,im_of trivial,vlt,hP,hst,initS,Nat.reduceBEq,Nat.reduceAdd,Nat.reduceMul,Nat.reduceSub,Nat.reduceDiv,Nat.reduceMod,Nat.reducePow,Nat.reduceLT,Nat.reduceLeDiff,Nat.reduceEqDiff,Int.reduceAdd,Int.reduceSub,Int.reduceNeg,Int.reduceMul,Int.reduceToNat,Int.reducePow,Int.reduceLE,Int.reduceLT,Int.reduceEq,Int.reduceNe,reduceIte,reduceCtorEq,ne_eq,not_true_eq_false,not_false_eq_true,imp_self,implies_true,bls,eq_self,hr,gA0]
      refine C_dec (fun h3 => ?_) (fun h3 => ?_)
      · rw [if_pos h3] at hK hlen
        simp (disch:=first|assumption|omega|(simp only [lens];omega)) only [eqs,↓gvd_succ,↓gvd_zero,↓and_of,im_of,im_of trivial,vlt,hP,hst,initS,Nat.reduceBEq,Nat.reduceAdd,Nat.reduceMul,Nat.reduceSub,Nat.reduceDiv,Nat.reduceMod,Nat.reducePow,Nat.reduceLT,Nat.reduceLeDiff,Nat.reduceEqDiff,Int.reduceAdd,Int.reduceSub,Int.reduceNeg,Int.reduceMul,Int.reduceToNat,Int.reducePow,Int.reduceLE,Int.reduceLT,Int.reduceEq,Int.reduceNe,reduceIte,reduceCtorEq,ne_eq,not_true_eq_false,not_false_eq_true,imp_self,implies_true,bls,eq_self,gA0]
        refine E_callA (hP ▸ s_NameW _ hG) ⟨s, rfl, by have := hok.2.1; omega, fun T eT => ?_⟩
        have hLT : Y.st1.length ≤ st1.length := Nat.le_trans hLs e1.len
        have hsT := s1.trans hLs (Sub.ext hLT eT)
        have htx := sb_bstr (nameL_lt (sb_lt' s))
        simp (disch:=first|assumption|omega|(simp only [lens];omega)) only [eqs,↓gvd_succ,↓gvd_zero,↓and_of,im_of,im_of trivial,vlt,hP,hst,initS,Nat.reduceBEq,Nat.reduceAdd,Nat.reduceMul,Nat.reduceSub,Nat.reduceDiv,Nat.reduceMod,Nat.reducePow,Nat.reduceLT,Nat.reduceLeDiff,Nat.reduceEqDiff,Int.reduceAdd,Int.reduceSub,Int.reduceNeg,Int.reduceMul,Int.reduceToNat,Int.reducePow,Int.reduceLE,Int.reduceLT,Int.reduceEq,Int.reduceNe,reduceIte,reduceCtorEq,ne_eq,not_true_eq_false,not_false_eq_true,imp_self,implies_true,bls,eq_self]
        refine E_callW (s_writeString hP) ⟨b, bs, bstr (nameL (sb s)), rfl, hB1.ext eT, by rw [bstr_size]; exact hlen, fun T2 v2 hS2 hB2 => ?_⟩
        simp (disch:=first|assumption|omega|(simp only [lens];omega)) only [eqs,↓gvd_succ,↓gvd_zero,↓and_of,im_of,im_of trivial,vlt,hP,hst,initS,Nat.reduceBEq,Nat.reduceAdd,Nat.reduceMul,Nat.reduceSub,Nat.reduceDiv,Nat.reduceMod,Nat.reducePow,Nat.reduceLT,Nat.reduceLeDiff,Nat.reduceEqDiff,Int.reduceAdd,Int.reduceSub,Int.reduceNeg,Int.reduceMul,Int.reduceToNat,Int.reducePow,Int.reduceLE,Int.reduceLT,Int.reduceEq,Int.reduceNe,reduceIte,reduceCtorEq,ne_eq,not_true_eq_false,not_false_eq_true,imp_self,implies_true,bls,eq_self]
        rw [htx] at hB2
        exact hK T2 (hsT.trans hLs hS2) hB2
      rw [if_neg h3] at hK hlen
      simp (disch:=first|assumption|omega|(simp only [lens];omega)) only [eqs,↓gvd_succ,↓gvd_zero,↓and_of,im_of,im_of trivial,vlt,hP,hst,initS,Nat.reduceBEq,Nat.reduceAdd,Nat.reduceMul,Nat.reduceSub,Nat.reduceDiv,Nat.reduceMod,Nat.reducePow,Nat.reduceLT,Nat.reduceLeDiff,Nat.reduceEqDiff,Int.reduceAdd,Int.reduceSub,Int.reduceNeg,Int.reduceMul,Int.reduceToNat,Int.reducePow,Int.reduceLE,Int.reduceLT,Int.reduceEq,Int.reduceNe,reduceIte,reduceCtorEq,ne_eq,not_true_eq_false,not_false_eq_true,imp_self,implies_true,bls,eq_self,gA0]
      refine C_dec (fun h4 => ?_) (fun h4 => ?_)
      · rw [if_pos h4] at hK hlen
        simp (disch:=first|assumption|omega|(simp only [lens];omega)) only [eqs,↓gvd_succ,↓gvd_zero,↓and_of,im_of,im_of trivial,vlt,hP,hst,initS,Nat.reduceBEq,Nat.reduceAdd,Nat.reduceMul,Nat.reduceSub,Nat.reduceDiv,Nat.reduceMod,Nat.reducePow,Nat.reduceLT,Nat.reduceLeDiff,Nat.reduceEqDiff,Int.reduceAdd,Int.reduceSub,Int.reduceNeg,Int.reduceMul,Int.reduceToNat,Int.reducePow,Int.reduceLE,Int.reduceLT,Int.reduceEq,Int.reduceNe,reduceIte,reduceCtorEq,ne_eq,not_true_eq_false,not_false_eq_true,imp_self,implies_true,bls,eq_self,gA0]
        refine E_call (hP ▸ s_QuoteW) ⟨s, rfl, by have := hok.2.1; omega, fun T eT => ?_⟩
        have hLT : Y.st1.length ≤ st1.length := Nat.le_trans hLs e1.len
        have hsT := s1.trans hLs (Sub.ext hLT eT)
        have htx := sb_bstr (btwL_lt (m := 34) (by omega) (sb_lt' s))
        simp (disch:=first|assumption|omega|(simp only [lens];omega)) only [eqs,↓gvd_succ,↓gvd_zero,↓and_of,im_of,im_of trivial,vlt,hP,hst,initS,Nat.reduceBEq,Nat.reduceAdd,Nat.reduceMul,Nat.reduceSub,Nat.reduceDiv,Nat.reduceMod,Nat.reducePow,Nat.reduceLT,Nat.reduceLeDiff,Nat.reduceEqDiff,Int.reduceAdd,Int.reduceSub,Int.reduceNeg,Int.reduceMul,Int.reduceToNat,Int.reducePow,Int.reduceLE,Int.reduceLT,Int.reduceEq,Int.reduceNe,reduceIte,reduceCtorEq,ne_eq,not_true_eq_false,not_false_eq_true,imp_self,implies_true,bls,eq_self]
        refine E_callW (s_writeString hP) ⟨b, bs, bstr (btwL 34 (sb s)), rfl, hB1.ext eT, by rw [bstr_size]; exact hlen, fun T2 v2 hS2 hB2 => ?_⟩
        simp (disch:=first|assumption|omega|(simp only [lens];omega)) only [eqs,↓gvd_succ,↓gvd_zero,↓and_of,im_of,im_of trivial,vlt,hP,hst,initS,Nat.reduceBEq,Nat.reduceAdd,Nat.reduceMul,Nat.reduceSub,Nat.reduceDiv,Nat.reduceMod,Nat.reducePow,Nat.reduceLT,Nat.reduceLeDiff,Nat.reduceEqDiff,Int.reduceAdd,Int.reduceSub,Int.reduceNeg,Int.reduceMul,Int.reduceToNat,Int.reducePow,Int.reduceLE,Int.reduceLT,Int.reduceEq,Int.reduceNe,reduceIte,reduceCtorEq,ne_eq,not_true_eq_false,not_false_eq_true,imp_self,implies_true,bls,eq_self]
        rw [htx] at hB2
        exact hK T2 (hsT.trans hLs hS2) hB2
      · rw [if_neg h4, if_neg h5] at hK hlen
        simp (disch:=first|assumption|omega|(simp only [lens];omega)) only [eqs,↓gvd_succ,↓gvd_zero,↓and_of,im_of,im_of trivial,vlt,hP,hst,initS,Nat.reduceBEq,Nat.reduceAdd,Nat.reduceMul,Nat.reduceSub,Nat.reduceDiv,Nat.reduceMod,Nat.reducePow,Nat.reduceLT,Nat.reduceLeDiff,Nat.reduceEqDiff,Int.reduceAdd,Int.reduceSub,Int.reduceNeg,Int.reduceMul,Int.reduceToNat,Int.reducePow,Int.reduceLE,Int.reduceLT,Int.reduceEq,Int.reduceNe,reduceIte,reduceCtorEq,ne_eq,not_true_eq_false,not_false_eq_true,imp_self,implies_true,bls,eq_self,gA0,h5]
        refine E_callW (s_writeString hP) ⟨b, bs, ⟨#[35, 118]⟩, rfl, hB1, hlen, fun T2 v2 hS2 hB2 => ?_⟩
        simp (disch:=first|assumption|omega|(simp only [lens];omega)) only [eqs,↓gvd_succ,↓gvd_zero,↓and_of,im_of,im_of trivial,vlt,hP,hst,initS,Nat.reduceBEq,Nat.reduceAdd,Nat.reduceMul,Nat.reduceSub,Nat.reduceDiv,Nat.reduceMod,Nat.reducePow,Nat.reduceLT,Nat.reduceLeDiff,Nat.reduceEqDiff,Int.reduceAdd,Int.reduceSub,Int.reduceNeg,Int.reduceMul,Int.reduceToNat,Int.reducePow,Int.reduceLE,Int.reduceLT,Int.reduceEq,Int.reduceNe,reduceIte,reduceCtorEq,ne_eq,not_true_eq_false,not_false_eq_true,imp_self,implies_true,bls,eq_self]
        exact hK T2 (s1.trans hLs hS2) (by simpa [sb] using hB2)
  subst h5
  rw [if_neg (by rintro ⟨_, h | h⟩ <;> cases h), if_neg (by decide), if_neg (by decide), if_pos rfl] at hK hlen
  have hl1 := szs_len (ds := its)
  have hl2 := szs_len (ds := tls)
  have hxs1 := hxs.ext e1
  have hy1 := hy.ext e1
  have hL1 : Y.st1.length ≤ st1.length := Nat.le_trans hLs e1.len
  have htot : bs.length + 2 + (itsL raw its).length + (tlsL raw tls).length ≤ 140737488355328 := by
    simp only [List.length_cons, List.length_append, List.length_nil] at hlen
    omega
  have hng : ∀ S G, ([.val (.int .i64 5), .val (.bool g), a, .val (.bool bb), .val (.string s), x, y] : List AV) ≠ [.gh S G] := fun S G h => by simp at h
  rcases Bool.eq_false_or_eq_true raw with hr | hr
  all_goals
    simp (disch:=first|assumption|omega|(simp only [lens];omega)) only [eqs,↓gvd_succ,↓gvd_zero,↓and_of,im_of,im_of trivial,vlt,hP,hst,initS,Nat.reduceBEq,Nat.reduceAdd,Nat.reduceMul,Nat.reduceSub,Nat.reduceDiv,Nat.reduceMod,Nat.reducePow,Nat.reduceLT,Nat.reduceLeDiff,Nat.reduceEqDiff,Int.reduceAdd,Int.reduceSub,Int.reduceNeg,Int.reduceMul,Int.reduceToNat,Int.reducePow,Int.reduceLE,Int.reduceLT,Int.reduceEq,Int.reduceNe,reduceIte,reduceCtorEq,ne_eq,not_true_eq_false,not_false_eq_true,imp_self,implies_true,bls,eq_self,hr,gA0]
    refine E_callW (s_writeByte hP) ⟨b, bs, 40, rfl, hB1, by omega, fun T0 hS0 hB0 => ?_⟩
    have s2 := s1.trans hLs hS0
    have hx0 := hxs1.sub hS0
    have hy0 := hy1.sub hS0
    have gT0 := (gA.sub hng hS0).get
    obtain ⟨cs, hsl, hdl, hcl⟩ := hx0.inv
    simp (disch:=first|assumption|omega|(simp only [lens];omega)) only [eqs,↓gvd_succ,↓gvd_zero,↓and_of,im_of,im_of trivial,vlt,hP,hst,initS,Nat.reduceBEq,Nat.reduceAdd,Nat.reduceMul,Nat.reduceSub,Nat.reduceDiv,Nat.reduceMod,Nat.reducePow,Nat.reduceLT,Nat.reduceLeDiff,Nat.reduceEqDiff,Int.reduceAdd,Int.reduceSub,Int.reduceNeg,Int.reduceMul,Int.reduceToNat,Int.reducePow,Int.reduceLE,Int.reduceLT,Int.reduceEq,Int.reduceNe,reduceIte,reduceCtorEq,ne_eq,not_true_eq_false,not_false_eq_true,imp_self,implies_true,bls,eq_self,gT0,lx,hsl]
    refine V_loop (ι := Nat × St) (fun e => [(80, .val (.int .i64 (e.1 : Int))), (79, .val (.int .i64 (its.length : Int))), (78, x), (4, .ptr st.length 0), (0, .val (.pointer (some ⟨b, 0, none⟩))), (2, .val (.bool raw))]) (fun e => e.2)
      (fun e => e.1 ≤ its.length ∧ Sub Y.st1.length st1 e.2 ∧ Bd Y.st1.length e.2 b (bs ++ 40 :: itsL raw (its.take e.1))) (fun e => its.length - e.1) (0, T0) ⟨by simp, hS0, by simpa [itsL] using hB0⟩ rfl (by simp (disch:=first|assumption|omega|(simp only [lens];omega)) only [eqs,↓gvd_succ,↓gvd_zero,↓and_of,im_of,im_of trivial,vlt,hP,hst,initS,Nat.reduceBEq,Nat.reduceAdd,Nat.reduceMul,Nat.reduceSub,Nat.reduceDiv,Nat.reduceMod,Nat.reducePow,Nat.reduceLT,Nat.reduceLeDiff,Nat.reduceEqDiff,Int.reduceAdd,Int.reduceSub,Int.reduceNeg,Int.reduceMul,Int.reduceToNat,Int.reducePow,Int.reduceLE,Int.reduceLT,Int.reduceEq,Int.reduceNe,reduceIte,reduceCtorEq,ne_eq,not_true_eq_false,not_false_eq_true,imp_self,implies_true,bls,eq_self,hr] <;> rfl) ?_
    rintro ⟨i, T⟩ ⟨hi, hS, hB⟩
    dsimp only at hi hS hB ⊢
    have hxT := hxs1.sub hS
    have gT := (gA.sub hng hS).get
    have hXT : Y.st1.length ≤ T.length := Nat.le_trans hL1 hS.len
    simp (disch:=first|assumption|omega|(simp only [lens];omega)) only [eqs,↓gvd_succ,↓gvd_zero,↓and_of,im_of,im_of trivial,vlt,hP,hst,initS,Nat.reduceBEq,Nat.reduceAdd,Nat.reduceMul,Nat.reduceSub,Nat.reduceDiv,Nat.reduceMod,Nat.reducePow,Nat.reduceLT,Nat.reduceLeDiff,Nat.reduceEqDiff,Int.reduceAdd,Int.reduceSub,Int.reduceNeg,Int.reduceMul,Int.reduceToNat,Int.reducePow,Int.reduceLE,Int.reduceLT,Int.reduceEq,Int.reduceNe,reduceIte,reduceCtorEq,ne_eq,not_true_eq_false,not_false_eq_true,imp_self,implies_true,bls,eq_self,hr]
    refine C_dec (fun h6 => ?_) (fun h6 => ?_)
    · obtain ⟨cs', c, e, hsl', hcl', hc', hc7', hca', he, hec, hb1, hb2⟩ := hxT.at (i := i) (by omega)
      have t7' := List.take_of_length_le (Nat.le_of_eq hc7')
      have hes := szs_mem (List.mem_of_getElem? he)
      have heo := wOks_mem hok.2.2.1 (List.mem_of_getElem? he)
      have hm1 : min 7 (its.length * 7 - i * 7) = 7 := by omega
      have hcg : ∀ S G, c ≠ [.gh S G] := fun S G h => by rw [h] at hc7'; simp at hc7'
      have hbd := its_take (raw := raw) (l := its) (i := i + 1)
      rw [take_succ' he, its_snoc, List.length_append, List.length_append] at hbd
      have htl : (its.take i).length = i := by rw [List.length_take]; omega
      rw [htl] at hbd
      simp (disch:=first|assumption|omega|(simp only [lens];omega)) only [eqs,↓gvd_succ,↓gvd_zero,↓and_of,im_of,im_of trivial,vlt,hP,hst,initS,Nat.reduceBEq,Nat.reduceAdd,Nat.reduceMul,Nat.reduceSub,Nat.reduceDiv,Nat.reduceMod,Nat.reducePow,Nat.reduceLT,Nat.reduceLeDiff,Nat.reduceEqDiff,Int.reduceAdd,Int.reduceSub,Int.reduceNeg,Int.reduceMul,Int.reduceToNat,Int.reducePow,Int.reduceLE,Int.reduceLT,Int.reduceEq,Int.reduceNe,reduceIte,reduceCtorEq,ne_eq,not_true_eq_false,not_false_eq_true,imp_self,implies_true,bls,eq_self,hr,hsl',hcl',hc',hca',hc7',take7 hc7',hm1,t7',zD_drop,zD_len,List.append_nil,hXT,hb1,hb2]
      have hBc : Bd Y.st1.length (T ++ [some c]) b (bs ++ 40 :: itsL raw (its.take i)) := hB.ext (.add _)
      have hSc : Sub Y.st1.length st1 (T ++ [some c]) := hS.trans hL1 (Sub.ext hXT (.add _))
      have hXc : Y.st1.length ≤ (T ++ [some c]).length := by simp; omega
      refine C_dec (fun h7 => ?_) (fun h7 => ?_)
      · rw [if_neg (by omega)] at hbd
        simp (disch:=first|assumption|omega|(simp only [lens];omega)) only [eqs,↓gvd_succ,↓gvd_zero,↓and_of,im_of,im_of trivial,vlt,hP,hst,initS,Nat.reduceBEq,Nat.reduceAdd,Nat.reduceMul,Nat.reduceSub,Nat.reduceDiv,Nat.reduceMod,Nat.reducePow,Nat.reduceLT,Nat.reduceLeDiff,Nat.reduceEqDiff,Int.reduceAdd,Int.reduceSub,Int.reduceNeg,Int.reduceMul,Int.reduceToNat,Int.reducePow,Int.reduceLE,Int.reduceLT,Int.reduceEq,Int.reduceNe,reduceIte,reduceCtorEq,ne_eq,not_true_eq_false,not_false_eq_true,imp_self,implies_true,bls,eq_self,hr]
        refine E_callW (s_writeByte hP) ⟨b, _, 32, rfl, hBc, by simp only [List.length_append, List.length_cons, List.length_nil] at hbd ⊢; omega, fun T1 hS1 hB1 => ?_⟩
        have g7 := (At.sub (c := c) At.mk0 hcg hS1).get
        have hec1 := (hec.ext (.add [some c])).sub hS1
        have hX1 := Nat.le_trans hXc hS1.len
        simp (disch:=first|assumption|omega|(simp only [lens];omega)) only [eqs,↓gvd_succ,↓gvd_zero,↓and_of,im_of,im_of trivial,vlt,hP,hst,initS,Nat.reduceBEq,Nat.reduceAdd,Nat.reduceMul,Nat.reduceSub,Nat.reduceDiv,Nat.reduceMod,Nat.reducePow,Nat.reduceLT,Nat.reduceLeDiff,Nat.reduceEqDiff,Int.reduceAdd,Int.reduceSub,Int.reduceNeg,Int.reduceMul,Int.reduceToNat,Int.reducePow,Int.reduceLE,Int.reduceLT,Int.reduceEq,Int.reduceNe,reduceIte,reduceCtorEq,ne_eq,not_true_eq_false,not_false_eq_true,imp_self,implies_true,bls,eq_self,hr,g7,hc7',t7']
        refine E_callW (ih Y hP hG) ⟨b, _, _, raw, e, by rw [hr]; rfl, ⟨c, rfl, hec1⟩, hB1, hX1, by omega, by omega, heo, by simp only [List.length_append, List.length_cons, List.length_nil] at hbd ⊢; omega, fun T2 hS2 hB2 => ?_⟩
        simp (disch:=first|assumption|omega|(simp only [lens];omega)) only [eqs,↓gvd_succ,↓gvd_zero,↓and_of,im_of,im_of trivial,vlt,hP,hst,initS,Nat.reduceBEq,Nat.reduceAdd,Nat.reduceMul,Nat.reduceSub,Nat.reduceDiv,Nat.reduceMod,Nat.reducePow,Nat.reduceLT,Nat.reduceLeDiff,Nat.reduceEqDiff,Int.reduceAdd,Int.reduceSub,Int.reduceNeg,Int.reduceMul,Int.reduceToNat,Int.reducePow,Int.reduceLE,Int.reduceLT,Int.reduceEq,Int.reduceNe,reduceIte,reduceCtorEq,ne_eq,not_true_eq_false,not_false_eq_true,imp_self,implies_true,bls,eq_self]
        exact again (i + 1, T2) ⟨by dsimp only; omega, (hSc.trans hL1 hS1).trans hL1 hS2, by rw [take_succ' he, its_snoc, htl, if_neg (by omega)]; simpa using hB2⟩ (by dsimp only; omega) rfl (by dsimp only; simp (disch:=first|assumption|omega|(simp only [lens];omega)) only [eqs,↓gvd_succ,↓gvd_zero,↓and_of,im_of,im_of trivial,vlt,hP,hst,initS,Nat.reduceBEq,Nat.reduceAdd,Nat.reduceMul,Nat.reduceSub,Nat.reduceDiv,Nat.reduceMod,Nat.reducePow,Nat.reduceLT,Nat.reduceLeDiff,Nat.reduceEqDiff,Int.reduceAdd,Int.reduceSub,Int.reduceNeg,Int.reduceMul,Int.reduceToNat,Int.reducePow,Int.reduceLE,Int.reduceLT,Int.reduceEq,Int.reduceNe,reduceIte,reduceCtorEq,ne_eq,not_true_eq_false,not_false_eq_true,imp_self,implies_true,bls,eq_self,hr] <;> rfl)
      · rw [if_pos (by omega)] at hbd
        have g7 := (At.mk0 : At (T ++ [some c]) T.length c).get
        have hec1 := hec.ext (.add [some c])
        simp (disch:=first|assumption|omega|(simp only [lens];omega)) only [eqs,↓gvd_succ,↓gvd_zero,↓and_of,im_of,im_of trivial,vlt,hP,hst,initS,Nat.reduceBEq,Nat.reduceAdd,Nat.reduceMul,Nat.reduceSub,Nat.reduceDiv,Nat.reduceMod,Nat.reducePow,Nat.reduceLT,Nat.reduceLeDiff,Nat.reduceEqDiff,Int.reduceAdd,Int.reduceSub,Int.reduceNeg,Int.reduceMul,Int.reduceToNat,Int.reducePow,Int.reduceLE,Int.reduceLT,Int.reduceEq,Int.reduceNe,reduceIte,reduceCtorEq,ne_eq,not_true_eq_false,not_false_eq_true,imp_self,implies_true,bls,eq_self,hr,g7,hc7',t7']
        refine E_callW (ih Y hP hG) ⟨b, _, _, raw, e, by rw [hr]; rfl, ⟨c, rfl, hec1⟩, hBc, hXc, by omega, by omega, heo, by simp only [List.length_append, List.length_cons, List.length_nil] at hbd ⊢; omega, fun T2 hS2 hB2 => ?_⟩
        simp (disch:=first|assumption|omega|(simp only [lens];omega)) only [eqs,↓gvd_succ,↓gvd_zero,↓and_of,im_of,im_of trivial,vlt,hP,hst,initS,Nat.reduceBEq,Nat.reduceAdd,Nat.reduceMul,Nat.reduceSub,Nat.reduceDiv,Nat.reduceMod,Nat.reducePow,Nat.reduceLT,Nat.reduceLeDiff,Nat.reduceEqDiff,Int.reduceAdd,Int.reduceSub,Int.reduceNeg,Int.reduceMul,Int.reduceToNat,Int.reducePow,Int.reduceLE,Int.reduceLT,Int.reduceEq,Int.reduceNe,reduceIte,reduceCtorEq,ne_eq,not_true_eq_false,not_false_eq_true,imp_self,implies_true,bls,eq_self]
        exact again (i + 1, T2) ⟨by dsimp only; omega, hSc.trans hL1 hS2, by rw [take_succ' he, its_snoc, htl, if_pos (by omega)]; simpa using hB2⟩ (by dsimp only; omega) rfl (by dsimp only; simp (disch:=first|assumption|omega|(simp only [lens];omega)) only [eqs,↓gvd_succ,↓gvd_zero,↓and_of,im_of,im_of trivial,vlt,hP,hst,initS,Nat.reduceBEq,Nat.reduceAdd,Nat.reduceMul,Nat.reduceSub,Nat.reduceDiv,Nat.reduceMod,Nat.reducePow,Nat.reduceLT,Nat.reduceLeDiff,Nat.reduceEqDiff,Int.reduceAdd,Int.reduceSub,Int.reduceNeg,Int.reduceMul,Int.reduceToNat,Int.reducePow,Int.reduceLE,Int.reduceLT,Int.reduceEq,Int.reduceNe,reduceIte,reduceCtorEq,ne_eq,not_true_eq_false,not_false_eq_true,imp_self,implies_true,bls,eq_self,hr] <;> rfl)
    have : i = its.length := by omega
    subst this
    rw [List.take_length] at hB
    have hyT := hy1.sub hS
    obtain ⟨ct, hst', hdt, hct⟩ := hyT.inv
    simp (disch:=first|assumption|omega|(simp only [lens];omega)) only [eqs,↓gvd_succ,↓gvd_zero,↓and_of,im_of,im_of trivial,vlt,hP,hst,initS,Nat.reduceBEq,Nat.reduceAdd,Nat.reduceMul,Nat.reduceSub,Nat.reduceDiv,Nat.reduceMod,Nat.reducePow,Nat.reduceLT,Nat.reduceLeDiff,Nat.reduceEqDiff,Int.reduceAdd,Int.reduceSub,Int.reduceNeg,Int.reduceMul,Int.reduceToNat,Int.reducePow,Int.reduceLE,Int.reduceLT,Int.reduceEq,Int.reduceNe,reduceIte,reduceCtorEq,ne_eq,not_true_eq_false,not_false_eq_true,imp_self,implies_true,bls,eq_self,hr,gT,ly,hst']
    refine V_loop (ι := Nat × St) (fun e => [(97, .val (.int .i64 (e.1 : Int))), (96, .val (.int .i64 (tls.length : Int))), (95, y), (4, .ptr st.length 0), (0, .val (.pointer (some ⟨b, 0, none⟩))), (2, .val (.bool raw))]) (fun e => e.2)
      (fun e => e.1 ≤ tls.length ∧ Sub Y.st1.length st1 e.2 ∧ Bd Y.st1.length e.2 b (bs ++ 40 :: (itsL raw its ++ tlsL raw (tls.take e.1)))) (fun e => tls.length - e.1) (0, T) ⟨by simp, hS, by simpa [tlsL] using hB⟩ rfl (by simp (disch:=first|assumption|omega|(simp only [lens];omega)) only [eqs,↓gvd_succ,↓gvd_zero,↓and_of,im_of,im_of trivial,vlt,hP,hst,initS,Nat.reduceBEq,Nat.reduceAdd,Nat.reduceMul,Nat.reduceSub,Nat.reduceDiv,Nat.reduceMod,Nat.reducePow,Nat.reduceLT,Nat.reduceLeDiff,Nat.reduceEqDiff,Int.reduceAdd,Int.reduceSub,Int.reduceNeg,Int.reduceMul,Int.reduceToNat,Int.reducePow,Int.reduceLE,Int.reduceLT,Int.reduceEq,Int.reduceNe,reduceIte,reduceCtorEq,ne_eq,not_true_eq_false,not_false_eq_true,imp_self,implies_true,bls,eq_self,hr] <;> rfl) ?_
    rintro ⟨j, U⟩ ⟨hj, hU, hC⟩
    dsimp only at hj hU hC ⊢
    have hyU := hy1.sub hU
    have hXU : Y.st1.length ≤ U.length := Nat.le_trans hL1 hU.len
    simp (disch:=first|assumption|omega|(simp only [lens];omega)) only [eqs,↓gvd_succ,↓gvd_zero,↓and_of,im_of,im_of trivial,vlt,hP,hst,initS,Nat.reduceBEq,Nat.reduceAdd,Nat.reduceMul,Nat.reduceSub,Nat.reduceDiv,Nat.reduceMod,Nat.reducePow,Nat.reduceLT,Nat.reduceLeDiff,Nat.reduceEqDiff,Int.reduceAdd,Int.reduceSub,Int.reduceNeg,Int.reduceMul,Int.reduceToNat,Int.reducePow,Int.reduceLE,Int.reduceLT,Int.reduceEq,Int.reduceNe,reduceIte,reduceCtorEq,ne_eq,not_true_eq_false,not_false_eq_true,imp_self,implies_true,bls,eq_self,hr]
    refine C_dec (fun h8 => ?_) (fun h8 => ?_)
    · obtain ⟨cs', c, e, hsl', hcl', hc', hc7', hca', he, hec, hb1, hb2⟩ := hyU.at (i := j) (by omega)
      have t7' := List.take_of_length_le (Nat.le_of_eq hc7')
      have hes := szs_mem (List.mem_of_getElem? he)
      have heo := wOks_mem hok.2.2.2 (List.mem_of_getElem? he)
      have hm1 : min 7 (tls.length * 7 - j * 7) = 7 := by omega
      have hcg : ∀ S G, c ≠ [.gh S G] := fun S G h => by rw [h] at hc7'; simp at hc7'
      have hbd := tls_take (raw := raw) (l := tls) (i := j + 1)
      rw [take_succ' he, tls_snoc, List.length_append] at hbd
      simp only [List.length_cons] at hbd
      simp (disch:=first|assumption|omega|(simp only [lens];omega)) only [eqs,↓gvd_succ,↓gvd_zero,↓and_of,im_of,im_of trivial,vlt,hP,hst,initS,Nat.reduceBEq,Nat.reduceAdd,Nat.reduceMul,Nat.reduceSub,Nat.reduceDiv,Nat.reduceMod,Nat.reducePow,Nat.reduceLT,Nat.reduceLeDiff,Nat.reduceEqDiff,Int.reduceAdd,Int.reduceSub,Int.reduceNeg,Int.reduceMul,Int.reduceToNat,Int.reducePow,Int.reduceLE,Int.reduceLT,Int.reduceEq,Int.reduceNe,reduceIte,reduceCtorEq,ne_eq,not_true_eq_false,not_false_eq_true,imp_self,implies_true,bls,eq_self,hr,hsl',hcl',hc',hca',hc7',take7 hc7',hm1,t7',zD_drop,zD_len,List.append_nil,hXU,hb1,hb2]
      have hBc : Bd Y.st1.length (U ++ [some c]) b (bs ++ 40 :: (itsL raw its ++ tlsL raw (tls.take j))) := hC.ext (.add _)
      have hSc : Sub Y.st1.length st1 (U ++ [some c]) := hU.trans hL1 (Sub.ext hXU (.add _))
      have hXc : Y.st1.length ≤ (U ++ [some c]).length := by simp; omega
      refine E_callW (s_writeString hP) ⟨b, _, ⟨#[32, 46, 32]⟩, rfl, hBc, by simp only [List.length_append, List.length_cons, List.length_nil]; show _ + 3 ≤ _; omega, fun T1 v1 hS1 hB1 => ?_⟩
      have g7 := (At.sub (c := c) At.mk0 hcg hS1).get
      have hec1 := (hec.ext (.add [some c])).sub hS1
      have hX1 := Nat.le_trans hXc hS1.len
      have hs3 : sb ⟨#[32, 46, 32]⟩ = [32, 46, 32] := rfl
      rw [hs3] at hB1
      simp (disch:=first|assumption|omega|(simp only [lens];omega)) only [eqs,↓gvd_succ,↓gvd_zero,↓and_of,im_of,im_of trivial,vlt,hP,hst,initS,Nat.reduceBEq,Nat.reduceAdd,Nat.reduceMul,Nat.reduceSub,Nat.reduceDiv,Nat.reduceMod,Nat.reducePow,Nat.reduceLT,Nat.reduceLeDiff,Nat.reduceEqDiff,Int.reduceAdd,Int.reduceSub,Int.reduceNeg,Int.reduceMul,Int.reduceToNat,Int.reducePow,Int.reduceLE,Int.reduceLT,Int.reduceEq,Int.reduceNe,reduceIte,reduceCtorEq,ne_eq,not_true_eq_false,not_false_eq_true,imp_self,implies_true,bls,eq_self,hr,g7,hc7',t7']
      refine E_callW (ih Y hP hG) ⟨b, _, _, raw, e, by rw [hr]; rfl, ⟨c, rfl, hec1⟩, hB1, hX1, by omega, by omega, heo, by simp only [List.length_append, List.length_cons, List.length_nil]; omega, fun T2 hS2 hB2 => ?_⟩
      simp (disch:=first|assumption|omega|(simp only [lens];omega)) only [eqs,↓gvd_succ,↓gvd_zero,↓and_of,im_of,im_of trivial,vlt,hP,hst,initS,Nat.reduceBEq,Nat.reduceAdd,Nat.reduceMul,Nat.reduceSub,Nat.reduceDiv,Nat.reduceMod,Nat.reducePow,Nat.reduceLT,Nat.reduceLeDiff,Nat.reduceEqDiff,Int.reduceAdd,Int.reduceSub,Int.reduceNeg,Int.reduceMul,Int.reduceToNat,Int.reducePow,Int.reduceLE,Int.reduceLT,Int.reduceEq,Int.reduceNe,reduceIte,reduceCtorEq,ne_eq,not_true_eq_false,not_false_eq_true,imp_self,implies_true,bls,eq_self]
      exact again (j + 1, T2) ⟨by dsimp only; omega, (hSc.trans hL1 hS1).trans hL1 hS2, by rw [take_succ' he, tls_snoc]; simpa using hB2⟩ (by dsimp only; omega) rfl (by dsimp only; simp (disch:=first|assumption|omega|(simp only [lens];omega)) only [eqs,↓gvd_succ,↓gvd_zero,↓and_of,im_of,im_of trivial,vlt,hP,hst,initS,Nat.reduceBEq,Nat.reduceAdd,Nat.reduceMul,Nat.reduceSub,Nat.reduceDiv,Nat.reduceMod,Nat.reducePow,Nat.reduceLT,Nat.reduceLeDiff,Nat.reduceEqDiff,Int.reduceAdd,Int.reduceSub,Int.reduceNeg,Int.reduceMul,Int.reduceToNat,Int.reducePow,Int.reduceLE,Int.reduceLT,Int.reduceEq,Int.reduceNe,reduceIte,reduceCtorEq,ne_eq,not_true_eq_false,not_false_eq_true,imp_self,implies_true,bls,eq_self,hr] <;> rfl)
    · have : j = tls.length := by omega
      subst this
      rw [List.take_length] at hC
      simp (disch:=first|assumption|omega|(simp only [lens];omega)) only [eqs,↓gvd_succ,↓gvd_zero,↓and_of,im_of,im_of trivial,vlt,hP,hst,initS,Nat.reduceBEq,Nat.reduceAdd,Nat.reduceMul,Nat.reduceSub,Nat.reduceDiv,Nat.reduceMod,Nat.reducePow,Nat.reduceLT,Nat.reduceLeDiff,Nat.reduceEqDiff,Int.reduceAdd,Int.reduceSub,Int.reduceNeg,Int.reduceMul,Int.reduceToNat,Int.reducePow,Int.reduceLE,Int.reduceLT,Int.reduceEq,Int.reduceNe,reduceIte,reduceCtorEq,ne_eq,not_true_eq_false,not_false_eq_true,imp_self,implies_true,bls,eq_self,hr]
      refine E_callW (s_writeByte hP) ⟨b, _, 41, rfl, hC, by simp only [List.length_append, List.length_cons]; omega, fun T2 hS2 hB2 => ?_⟩
      simp (disch:=first|assumption|omega|(simp only [lens];omega)) only [eqs,↓gvd_succ,↓gvd_zero,↓and_of,im_of,im_of trivial,vlt,hP,hst,initS,Nat.reduceBEq,Nat.reduceAdd,Nat.reduceMul,Nat.reduceSub,Nat.reduceDiv,Nat.reduceMod,Nat.reducePow,Nat.reduceLT,Nat.reduceLeDiff,Nat.reduceEqDiff,Int.reduceAdd,Int.reduceSub,Int.reduceNeg,Int.reduceMul,Int.reduceToNat,Int.reducePow,Int.reduceLE,Int.reduceLT,Int.reduceEq,Int.reduceNe,reduceIte,reduceCtorEq,ne_eq,not_true_eq_false,not_false_eq_true,imp_self,implies_true,bls,eq_self]
      exact hK T2 (s1.trans hLs (hU.trans hL1 hS2)) (by simpa using hB2)
end Go.Proofs.Pv

/- write: written, Write, Display. -/
namespace Go.Proofs.Pv
open Go Go.RowKit Go.Proofs
set_option maxRecDepth 20000

mutual
def lts : Dt → Prop
  | .mk _ _ l _ _ its tls => (∀ n ∈ l, n < 4294967296) ∧ ltss its ∧ ltss tls
def ltss : List Dt → Prop
  | [] => True
  | d :: ds => lts d ∧ ltss ds
end
mutual
theorem DC.lts {st : St} {c : List AV} {d : Dt} : DC st c d → lts d
  | .mk ha hx hy => by rw [Pv.lts]; exact ⟨ha.lt, hx.lts, hy.lts⟩
theorem DS.lts {st : St} {x : AV} {ds : List Dt} : DS st x ds → ltss ds
  | .mk hs hd => hd.lts
theorem DL.lts {st : St} {cs : List AV} {ds : List Dt} : DL st cs ds → ltss ds
  | .nil => by rw [ltss]; trivial
  | .cons hc hd => by rw [ltss]; exact ⟨hc.lts, hd.lts⟩
end
theorem DA.lts {st : St} {x : AV} {d : Dt} (h : DA st x d) : lts d := by obtain ⟨c, _, h⟩ := h; exact h.lts
theorem wOks_app {l m : List Dt} : wOks (l ++ m) ↔ wOks l ∧ wOks m := by
  induction l with
  | nil => simp [wOks]
  | cons d l ih => simp only [List.cons_append, wOks, ih, and_assoc]
theorem wOk0 {k : Int} {g : Bool} {l : List Nat} {b : Bool} {s : ByteArray} (h1 : l.length ≤ 1000) (h2 : s.size ≤ 1000000) : wOk (.mk k g l b s [] []) := by
  rw [wOk_mk]; exact ⟨h1, h2, by rw [wOks]; trivial, by rw [wOks]; trivial⟩
theorem sz0 : (⟨#[]⟩ : ByteArray).size ≤ 1000000 := by decide
mutual
theorem nrm_wOk : ∀ d : Dt, wOk d → lts d → wOk (nrm d)
  | .mk k g l b s its tls, h, hl => by
    rw [wOk_mk] at h
    rw [lts] at hl
    have h1 := nrms_wOk its h.2.2.1 hl.2.1
    have h2 := nrms_wOk tls h.2.2.2 hl.2.2
    rw [nrm]
    split
    · refine wOk0 ?_ sz0
      rw [iv_natAbs]
      exact Nat.le_trans (limbs_len hl.1) h.1
    split
    · exact wOk0 (by simp) sz0
    split
    · exact wOk0 (by simp) h.2.1
    split
    · split
      · rw [wOk_mk]; exact ⟨by simp, sz0, h1, by rw [wOks]; trivial⟩
      · rename_i t ts hts
        rw [hts, wOks] at h2
        unfold jn
        split
        · exact h2.1
        split
        · obtain ⟨k', g', l', b', s', its', tls'⟩ := t
          have h3 := h2.1
          rw [wOk_mk] at h3
          rw [wOk_mk]
          exact ⟨by simp, sz0, wOks_app.2 ⟨h1, h3.2.2.1⟩, h3.2.2.2⟩
        · rw [wOk_mk]
          exact ⟨by simp, sz0, h1, by rw [wOks]; exact ⟨h2.1, by rw [wOks]; trivial⟩⟩
    · exact wOk0 (by simp) sz0
theorem nrms_wOk : ∀ ds : List Dt, wOks ds → ltss ds → wOks (nrms ds)
  | [], _, _ => by rw [nrms, wOks]; trivial
  | d :: ds, h, hl => by
    rw [wOks] at h
    rw [ltss] at hl
    rw [nrms, wOks]
    exact ⟨nrm_wOk d h.1 hl.1, nrms_wOk ds h.2 hl.2⟩
end
/- No longer than this. -/
theorem txtI_len2 {z : Int} (h : (limbs z.natAbs).length ≤ 1001) : (txtI z).length ≤ 40000 := by
  have h0 := blen_len (limbs_lt z.natAbs)
  rw [val_limbs] at h0
  have h2 := txt_len (b := 10) (n := z.natAbs) (by omega)
  unfold txtI
  split
  · simp only [List.length_cons]; omega
  · omega
theorem nameL_len (l : List Nat) : (nameL l).length ≤ 2 + 5 * l.length := by
  unfold nameL
  split
  · omega
  · exact btwL_len 124 l
mutual
theorem textL_len (raw : Bool) : ∀ d : Dt, wOk d → lts d → (textL raw d).length + 10 ≤ d.sz * 10000000
  | .mk k g l b s its tls, h, hl => by
    rw [wOk_mk] at h
    rw [lts] at hl
    have h1 := itsL_len raw its h.2.2.1 hl.2.1
    have h2 := tlsL_len raw tls h.2.2.2 hl.2.2
    have hs : (sb s).length ≤ 1000000 := by rw [sb_length]; exact h.2.1
    have hn := nameL_len (sb s)
    have hb := btwL_len 34 (sb s)
    rw [text_mk, sz_mk]
    split
    · have := txtI_len2 (z := iv g (val l)) (by rw [iv_natAbs]; exact Nat.le_trans (limbs_len hl.1) (by omega))
      omega
    split
    · split <;> simp <;> omega
    split
    · omega
    split
    · omega
    split
    · omega
    split
    · simp only [List.length_cons, List.length_append, List.length_nil]; omega
    · simp; omega
theorem itsL_len (raw : Bool) : ∀ ds : List Dt, wOks ds → ltss ds → (itsL raw ds).length ≤ szs ds * 10000000
  | [], _, _ => by simp [itsL]
  | d :: ds, h, hl => by
    rw [wOks] at h
    rw [ltss] at hl
    have h1 := textL_len raw d h.1 hl.1
    have h2 := moreL_len raw ds h.2 hl.2
    simp only [itsL, List.length_append, szs]
    omega
theorem moreL_len (raw : Bool) : ∀ ds : List Dt, wOks ds → ltss ds → (moreL raw ds).length ≤ szs ds * 10000000
  | [], _, _ => by simp [moreL]
  | d :: ds, h, hl => by
    rw [wOks] at h
    rw [ltss] at hl
    have h1 := textL_len raw d h.1 hl.1
    have h2 := moreL_len raw ds h.2 hl.2
    have h3 := sz_pos d
    simp only [moreL, List.length_cons, List.length_append, szs]
    omega
theorem tlsL_len (raw : Bool) : ∀ ds : List Dt, wOks ds → ltss ds → (tlsL raw ds).length ≤ szs ds * 10000000
  | [], _, _ => by simp [tlsL]
  | d :: ds, h, hl => by
    rw [wOks] at h
    rw [ltss] at hl
    have h1 := textL_len raw d h.1 hl.1
    have h2 := tlsL_len raw ds h.2 hl.2
    have h3 := sz_pos d
    simp only [tlsL, List.length_cons, List.length_append, szs]
    omega
end
def wrtL (raw : Bool) (d : Dt) : List Nat := if d.sz ≤ 100000 ∧ d.dp ≤ 10000 then textL raw (nrm d) else []
def RWrit (xs : List AV) (st : St) (K : AV → St → Prop) : Prop := ∃ x raw d, xs = [x, .val (.bool raw)] ∧ DA st x d ∧ d.fit ∧ wOk d ∧ anyw st (.string (bstr (wrtL raw d))) K
set_option maxHeartbeats 1000000 in
theorem s_written : ∀ w0, GW w0 → PSpecAt Tryd.prog w0 31 RWrit := by
  refine gspec_of (fn := Tryd.f31) 2 [.tmp 4] (by kernel_rfl) rfl rfl (by kernel_rfl) mixed (by rintro _ _ _ ⟨_, _, _, rfl, _⟩; rfl) ?_
  rintro X _ st K hP hst hG ⟨x, raw, d, rfl, hx, hfit, hok, hK⟩
  have hXl : X.st1.length = st.length := by rw [hst]
  have hda := hx
  have hlts := hx.lts
  obtain ⟨c, rfl, hdc⟩ := hx
  have hca := hdc.all
  have hc7 := hdc.len
  have t7 := List.take_of_length_le (Nat.le_of_eq hc7)
  unfold wrtL at hK
  refine vc_V ?_
  simp (disch:=first|assumption|omega|(simp only [lens];omega)) only [eqs,↓gvd_succ,↓gvd_zero,↓and_of,im_of,im_of trivial,vlt,hP,hst,initS,Nat.reduceBEq,Nat.reduceAdd,Nat.reduceMul,Nat.reduceSub,Nat.reduceDiv,Nat.reduceMod,Nat.reducePow,Nat.reduceLT,Nat.reduceLeDiff,Nat.reduceEqDiff,Int.reduceAdd,Int.reduceSub,Int.reduceNeg,Int.reduceMul,Int.reduceToNat,Int.reducePow,Int.reduceLE,Int.reduceLT,Int.reduceEq,Int.reduceNe,reduceIte,reduceCtorEq,ne_eq,not_true_eq_false,not_false_eq_true,imp_self,implies_true,bls,eq_self,hca,hc7,t7]
  refine E_call (hP ▸ s_Depth (d.sz + 1)) ⟨_, d, rfl, hda.ext (.add _), by omega, fun T eT => ?_⟩
  have gT := At.ext (c := c) At.mk0 eT
  have gT0 := gT.get
  have e0 : Ext st T := (Ext.add _).trans eT
  have hdp := dp_pos d
  by_cases hf : d.sz ≤ 100000 ∧ d.dp ≤ 10000
  rotate_left
  · rw [if_neg hf] at hK ⊢
    simp (disch:=first|assumption|omega|(simp only [lens];omega)) only [eqs,↓gvd_succ,↓gvd_zero,↓and_of,im_of,im_of trivial,vlt,hP,hst,initS,Nat.reduceBEq,Nat.reduceAdd,Nat.reduceMul,Nat.reduceSub,Nat.reduceDiv,Nat.reduceMod,Nat.reducePow,Nat.reduceLT,Nat.reduceLeDiff,Nat.reduceEqDiff,Int.reduceAdd,Int.reduceSub,Int.reduceNeg,Int.reduceMul,Int.reduceToNat,Int.reducePow,Int.reduceLE,Int.reduceLT,Int.reduceEq,Int.reduceNe,reduceIte,reduceCtorEq,ne_eq,not_true_eq_false,not_false_eq_true,imp_self,implies_true,bls,eq_self]
    exact hK _ e0
  rw [if_pos hf] at hK ⊢
  simp (disch:=first|assumption|omega|(simp only [lens];omega)) only [eqs,↓gvd_succ,↓gvd_zero,↓and_of,im_of,im_of trivial,vlt,hP,hst,initS,Nat.reduceBEq,Nat.reduceAdd,Nat.reduceMul,Nat.reduceSub,Nat.reduceDiv,Nat.reduceMod,Nat.reducePow,Nat.reduceLT,Nat.reduceLeDiff,Nat.reduceEqDiff,Int.reduceAdd,Int.reduceSub,Int.reduceNeg,Int.reduceMul,Int.reduceToNat,Int.reducePow,Int.reduceLE,Int.reduceLT,Int.reduceEq,Int.reduceNe,reduceIte,reduceCtorEq,ne_eq,not_true_eq_false,not_false_eq_true,imp_self,implies_true,bls,eq_self]
  refine C_dec (fun h => by omega) (fun _ => ?_)
  simp (disch:=first|assumption|omega|(simp only [lens];omega)) only [eqs,↓gvd_succ,↓gvd_zero,↓and_of,im_of,im_of trivial,vlt,hP,hst,initS,Nat.reduceBEq,Nat.reduceAdd,Nat.reduceMul,Nat.reduceSub,Nat.reduceDiv,Nat.reduceMod,Nat.reducePow,Nat.reduceLT,Nat.reduceLeDiff,Nat.reduceEqDiff,Int.reduceAdd,Int.reduceSub,Int.reduceNeg,Int.reduceMul,Int.reduceToNat,Int.reducePow,Int.reduceLE,Int.reduceLT,Int.reduceEq,Int.reduceNe,reduceIte,reduceCtorEq,ne_eq,not_true_eq_false,not_false_eq_true,imp_self,implies_true,bls,eq_self,ty_bld,bz_bld]
  refine ⟨5, fun b => ?_⟩
  have g1 := (gT.ext (.add [none, some [.gh [b] (BldG [b] 67 5 b [])]])).get
  simp (disch:=first|assumption|omega|(simp only [lens];omega)) only [eqs,↓gvd_succ,↓gvd_zero,↓and_of,im_of,im_of trivial,vlt,hP,hst,initS,Nat.reduceBEq,Nat.reduceAdd,Nat.reduceMul,Nat.reduceSub,Nat.reduceDiv,Nat.reduceMod,Nat.reducePow,Nat.reduceLT,Nat.reduceLeDiff,Nat.reduceEqDiff,Int.reduceAdd,Int.reduceSub,Int.reduceNeg,Int.reduceMul,Int.reduceToNat,Int.reducePow,Int.reduceLE,Int.reduceLT,Int.reduceEq,Int.reduceNe,reduceIte,reduceCtorEq,ne_eq,not_true_eq_false,not_false_eq_true,imp_self,implies_true,bls,eq_self,g1,hc7,t7]
  have hLT : X.st1.length ≤ T.length := by rw [hXl]; exact e0.len
  have hB0 : Bd X.st1.length (T ++ [none, some [.gh [b] (BldG [b] 67 5 b [])]]) b [] := ⟨T.length + 1, [b], by omega, by rw [get_app]; rfl⟩
  have e1 : Ext st (T ++ [none, some [.gh [b] (BldG [b] 67 5 b [])]]) := e0.trans (.add _)
  refine E_call (hP ▸ s_NormD) ⟨_, d, rfl, hda.ext e1, hfit, hf, fun x' T2 hN => ?_⟩
  have hn := nrm_sz d
  have hlen := textL_len raw (nrm d) (nrm_wOk d hok hlts) hN.da.lts
  have hL2 : X.st1.length ≤ T2.length := by rw [hXl]; exact (e1.trans hN.ex).len
  simp (disch:=first|assumption|omega|(simp only [lens];omega)) only [eqs,↓gvd_succ,↓gvd_zero,↓and_of,im_of,im_of trivial,vlt,hP,hst,initS,Nat.reduceBEq,Nat.reduceAdd,Nat.reduceMul,Nat.reduceSub,Nat.reduceDiv,Nat.reduceMod,Nat.reducePow,Nat.reduceLT,Nat.reduceLeDiff,Nat.reduceEqDiff,Int.reduceAdd,Int.reduceSub,Int.reduceNeg,Int.reduceMul,Int.reduceToNat,Int.reducePow,Int.reduceLE,Int.reduceLT,Int.reduceEq,Int.reduceNe,reduceIte,reduceCtorEq,ne_eq,not_true_eq_false,not_false_eq_true,imp_self,implies_true,bls,eq_self]
  refine E_callW (s_textW ((nrm d).sz + 1) X hP hG) ⟨b, [], x', raw, nrm d, rfl, hN.da, hB0.ext hN.ex, hL2, by omega, by omega, nrm_wOk d hok hlts, by simp; omega, fun T3 hS3 hB3 => ?_⟩
  rw [List.nil_append] at hB3
  simp (disch:=first|assumption|omega|(simp only [lens];omega)) only [eqs,↓gvd_succ,↓gvd_zero,↓and_of,im_of,im_of trivial,vlt,hP,hst,initS,Nat.reduceBEq,Nat.reduceAdd,Nat.reduceMul,Nat.reduceSub,Nat.reduceDiv,Nat.reduceMod,Nat.reducePow,Nat.reduceLT,Nat.reduceLeDiff,Nat.reduceEqDiff,Int.reduceAdd,Int.reduceSub,Int.reduceNeg,Int.reduceMul,Int.reduceToNat,Int.reducePow,Int.reduceLE,Int.reduceLT,Int.reduceEq,Int.reduceNe,reduceIte,reduceCtorEq,ne_eq,not_true_eq_false,not_false_eq_true,imp_self,implies_true,bls,eq_self]
  refine E_callW (s_bString hP) ⟨b, _, rfl, hB3, textL_lt raw _, fun T4 hS4 => ?_⟩
  simp (disch:=first|assumption|omega|(simp only [lens];omega)) only [eqs,↓gvd_succ,↓gvd_zero,↓and_of,im_of,im_of trivial,vlt,hP,hst,initS,Nat.reduceBEq,Nat.reduceAdd,Nat.reduceMul,Nat.reduceSub,Nat.reduceDiv,Nat.reduceMod,Nat.reducePow,Nat.reduceLT,Nat.reduceLeDiff,Nat.reduceEqDiff,Int.reduceAdd,Int.reduceSub,Int.reduceNeg,Int.reduceMul,Int.reduceToNat,Int.reducePow,Int.reduceLE,Int.reduceLT,Int.reduceEq,Int.reduceNe,reduceIte,reduceCtorEq,ne_eq,not_true_eq_false,not_false_eq_true,imp_self,implies_true,bls,eq_self]
  exact hK _ (preExt (subExt (e1.trans hN.ex) hXl hS3) hXl hS4)
def RWrD (raw : Bool) (xs : List AV) (st : St) (K : AV → St → Prop) : Prop := ∃ x d, xs = [x] ∧ DA st x d ∧ d.fit ∧ wOk d ∧ anyw st (.string (bstr (wrtL raw d))) K
theorem s_Write : ∀ w0, GW w0 → PSpecAt Tryd.prog w0 12 (RWrD false) := by
  refine gspec_of (fn := Tryd.f12) 1 [.tmp 2] (by kernel_rfl) rfl rfl (by kernel_rfl) mixed (by rintro _ _ _ ⟨_, _, rfl, _⟩; rfl) ?_
  rintro X _ st K hP hst hG ⟨x, d, rfl, hx, hfit, hok, hK⟩
  have hda := hx
  obtain ⟨c, rfl, hdc⟩ := hx
  have hca := hdc.all
  have hc7 := hdc.len
  have t7 := List.take_of_length_le (Nat.le_of_eq hc7)
  refine vc_V ?_
  simp (disch:=first|assumption|omega|(simp only [lens];omega)) only [eqs,↓gvd_succ,↓gvd_zero,↓and_of,im_of,im_of trivial,vlt,hP,hst,initS,Nat.reduceBEq,Nat.reduceAdd,Nat.reduceMul,Nat.reduceSub,Nat.reduceDiv,Nat.reduceMod,Nat.reducePow,Nat.reduceLT,Nat.reduceLeDiff,Nat.reduceEqDiff,Int.reduceAdd,Int.reduceSub,Int.reduceNeg,Int.reduceMul,Int.reduceToNat,Int.reducePow,Int.reduceLE,Int.reduceLT,Int.reduceEq,Int.reduceNe,reduceIte,reduceCtorEq,ne_eq,not_true_eq_false,not_false_eq_true,imp_self,implies_true,bls,eq_self,hca,hc7,t7]
  refine E_callA (hP ▸ s_written _ hG) ⟨_, false, d, rfl, hda.ext (.add _), hfit, hok, fun T eT => ?_⟩
  simp (disch:=first|assumption|omega|(simp only [lens];omega)) only [eqs,↓gvd_succ,↓gvd_zero,↓and_of,im_of,im_of trivial,vlt,hP,hst,initS,Nat.reduceBEq,Nat.reduceAdd,Nat.reduceMul,Nat.reduceSub,Nat.reduceDiv,Nat.reduceMod,Nat.reducePow,Nat.reduceLT,Nat.reduceLeDiff,Nat.reduceEqDiff,Int.reduceAdd,Int.reduceSub,Int.reduceNeg,Int.reduceMul,Int.reduceToNat,Int.reducePow,Int.reduceLE,Int.reduceLT,Int.reduceEq,Int.reduceNe,reduceIte,reduceCtorEq,ne_eq,not_true_eq_false,not_false_eq_true,imp_self,implies_true,bls,eq_self]
  exact hK _ ((Ext.add _).trans eT)
theorem s_Display : ∀ w0, GW w0 → PSpecAt Tryd.prog w0 14 (RWrD true) := by
  refine gspec_of (fn := Tryd.f14) 1 [.tmp 2] (by kernel_rfl) rfl rfl (by kernel_rfl) mixed (by rintro _ _ _ ⟨_, _, rfl, _⟩; rfl) ?_
  rintro X _ st K hP hst hG ⟨x, d, rfl, hx, hfit, hok, hK⟩
  have hda := hx
  obtain ⟨c, rfl, hdc⟩ := hx
  have hca := hdc.all
  have hc7 := hdc.len
  have t7 := List.take_of_length_le (Nat.le_of_eq hc7)
  refine vc_V ?_
  simp (disch:=first|assumption|omega|(simp only [lens];omega)) only [eqs,↓gvd_succ,↓gvd_zero,↓and_of,im_of,im_of trivial,vlt,hP,hst,initS,Nat.reduceBEq,Nat.reduceAdd,Nat.reduceMul,Nat.reduceSub,Nat.reduceDiv,Nat.reduceMod,Nat.reducePow,Nat.reduceLT,Nat.reduceLeDiff,Nat.reduceEqDiff,Int.reduceAdd,Int.reduceSub,Int.reduceNeg,Int.reduceMul,Int.reduceToNat,Int.reducePow,Int.reduceLE,Int.reduceLT,Int.reduceEq,Int.reduceNe,reduceIte,reduceCtorEq,ne_eq,not_true_eq_false,not_false_eq_true,imp_self,implies_true,bls,eq_self,hca,hc7,t7]
  refine E_callA (hP ▸ s_written _ hG) ⟨_, true, d, rfl, hda.ext (.add _), hfit, hok, fun T eT => ?_⟩
  simp (disch:=first|assumption|omega|(simp only [lens];omega)) only [eqs,↓gvd_succ,↓gvd_zero,↓and_of,im_of,im_of trivial,vlt,hP,hst,initS,Nat.reduceBEq,Nat.reduceAdd,Nat.reduceMul,Nat.reduceSub,Nat.reduceDiv,Nat.reduceMod,Nat.reducePow,Nat.reduceLT,Nat.reduceLeDiff,Nat.reduceEqDiff,Int.reduceAdd,Int.reduceSub,Int.reduceNeg,Int.reduceMul,Int.reduceToNat,Int.reducePow,Int.reduceLE,Int.reduceLT,Int.reduceEq,Int.reduceNe,reduceIte,reduceCtorEq,ne_eq,not_true_eq_false,not_false_eq_true,imp_self,implies_true,bls,eq_self]
  exact hK _ ((Ext.add _).trans eT)
end Go.Proofs.Pv

/- pavanelaw04.lives: the document's examples. -/
namespace Go.Proofs.Pv
open Go Go.RowKit Go.Proofs
set_option maxRecDepth 20000

theorem zrA3 : zrow 3 zeroD = [.val (.int .i64 0), .val (.bool false), .val (.slice none 0 0), .val (.bool false), .val (.string ⟨#[]⟩), .val (.slice none 0 0), .val (.slice none 0 0), .val (.int .i64 0), .val (.bool false), .val (.slice none 0 0), .val (.bool false), .val (.string ⟨#[]⟩), .val (.slice none 0 0), .val (.slice none 0 0), .val (.int .i64 0), .val (.bool false), .val (.slice none 0 0), .val (.bool false), .val (.string ⟨#[]⟩), .val (.slice none 0 0), .val (.slice none 0 0)] := rfl
def dA (k : Int) (s : ByteArray) : Dt := .mk k false [] false s [] []
def dEx : Dt := .mk 5 false [] false ⟨#[]⟩ [dA 3 ⟨#[97]⟩, dA 4 ⟨#[98]⟩, dA 3 ⟨#[97, 32, 98]⟩] []
theorem ex_few : dEx.sz ≤ 100000 ∧ dEx.dp ≤ 10000 := by
  unfold dEx dA
  simp only [sz_mk, dp_mk, szs, dps]
  decide
theorem ex_fit : dEx.fit := by
  unfold dEx dA
  simp only [fit_mk, fits]
  simp
theorem ex_ok : wOk dEx := by
  unfold dEx dA
  simp only [wOk_mk, wOks]
  decide
theorem ex_a : plainL [97] = true := by decide +kernel
theorem ex_ab : plainL [97, 32, 98] = false := by decide +kernel
theorem ex_nrm : nrm dEx = dEx := by
  unfold dEx dA
  rw [nrm_mk]
  simp [nrm_mk]
theorem ex_its (raw : Bool) : textL raw dEx = 40 :: (textL raw (dA 3 ⟨#[97]⟩) ++ 32 :: (textL raw (dA 4 ⟨#[98]⟩) ++ 32 :: (textL raw (dA 3 ⟨#[97, 32, 98]⟩))) ++ [41]) := by
  unfold dEx
  rw [text_mk]
  simp [itsL, moreL, tlsL]
theorem ex_w : bstr (wrtL false dEx) = ⟨#[40, 97, 32, 34, 98, 34, 32, 124, 97, 32, 98, 124, 41]⟩ := by
  unfold wrtL
  rw [if_pos ex_few, ex_nrm, ex_its]
  have e1 : textL false (dA 3 ⟨#[97]⟩) = [97] := by
    unfold dA; rw [text_mk]
    simp only [show sb ⟨#[97]⟩ = [97] from rfl, nameL, ex_a]
    decide
  have e2 : textL false (dA 4 ⟨#[98]⟩) = [34, 98, 34] := by
    unfold dA; rw [text_mk]
    simp only [show sb ⟨#[98]⟩ = [98] from rfl]
    decide
  have e3 : textL false (dA 3 ⟨#[97, 32, 98]⟩) = [124, 97, 32, 98, 124] := by
    unfold dA; rw [text_mk]
    simp only [show sb ⟨#[97, 32, 98]⟩ = [97, 32, 98] from rfl, nameL, ex_ab]
    decide
  rw [e1, e2, e3]
  rfl
theorem ex_d : bstr (wrtL true dEx) = ⟨#[40, 97, 32, 98, 32, 97, 32, 98, 41]⟩ := by
  unfold wrtL
  rw [if_pos ex_few, ex_nrm, ex_its]
  have e1 : ∀ k s, k = 3 ∨ k = 4 → textL true (dA k s) = sb s := fun k s h => by
    unfold dA; rw [text_mk, if_neg (by omega), if_neg (by omega), if_pos ⟨rfl, h⟩]
  rw [e1 _ _ (.inl rfl), e1 _ _ (.inr rfl), e1 _ _ (.inl rfl)]
  rfl
def RLivesW (xs : List AV) (st : St) (K : AV → St → Prop) : Prop := xs = [] ∧ anyw st (.bool true) K
theorem s_livesW : ∀ w0, GW w0 → PSpecAt Tryd.prog w0 11 RLivesW := by
  refine gspec_of (fn := Tryd.f11) 0 [.tmp 0] (by kernel_rfl) rfl rfl (by kernel_rfl) mixed (by rintro _ _ _ ⟨rfl, _⟩; rfl) ?_
  rintro X _ st K hP hst hG ⟨rfl, hK⟩
  have hX1 : X.st1.length ≤ st.length + 1 := by rw [hst]; omega
  refine vc_V ?_
  simp (disch:=first|assumption|omega|(simp only [lens];omega)) only [eqs,↓gvd_succ,↓gvd_zero,↓and_of,im_of,im_of trivial,vlt,hP,hst,initS,Nat.reduceBEq,Nat.reduceAdd,Nat.reduceMul,Nat.reduceSub,Nat.reduceDiv,Nat.reduceMod,Nat.reducePow,Nat.reduceLT,Nat.reduceLeDiff,Nat.reduceEqDiff,Int.reduceAdd,Int.reduceSub,Int.reduceNeg,Int.reduceMul,Int.reduceToNat,Int.reducePow,Int.reduceLE,Int.reduceLT,Int.reduceEq,Int.reduceNe,reduceIte,reduceCtorEq,ne_eq,not_true_eq_false,not_false_eq_true,imp_self,implies_true,bls,eq_self,zD_map,zrA3,zD7,List.append_nil,hX1]
  obtain ⟨T0, hT0⟩ : ∃ T0, T0 = st ++ [some [.val (.int .i64 3), .val (.bool false), .val (.slice none 0 0), .val (.bool false), .val (.string ⟨#[97]⟩), .val (.slice none 0 0), .val (.slice none 0 0), .val (.int .i64 4), .val (.bool false), .val (.slice none 0 0), .val (.bool false), .val (.string ⟨#[98]⟩), .val (.slice none 0 0), .val (.slice none 0 0), .val (.int .i64 3), .val (.bool false), .val (.slice none 0 0), .val (.bool false), .val (.string ⟨#[97, 32, 98]⟩), .val (.slice none 0 0), .val (.slice none 0 0)], some [.val (.int .i64 5), .val (.bool false), .val (.slice none 0 0), .val (.bool false), .val (.string ⟨#[]⟩), .own st.length 0 3 7, .val (.slice none 0 0)]] := ⟨_, rfl⟩
  have hda : DA T0 (.agg [.val (.int .i64 5), .val (.bool false), .val (.slice none 0 0), .val (.bool false), .val (.string ⟨#[]⟩), .own st.length 0 3 7, .val (.slice none 0 0)]) dEx := by
    refine DA.mk' Nm.nil (DS.own (ds := [dA 3 ⟨#[97]⟩, dA 4 ⟨#[98]⟩, dA 3 ⟨#[97, 32, 98]⟩]) (cs := [.val (.int .i64 3), .val (.bool false), .val (.slice none 0 0), .val (.bool false), .val (.string ⟨#[97]⟩), .val (.slice none 0 0), .val (.slice none 0 0), .val (.int .i64 4), .val (.bool false), .val (.slice none 0 0), .val (.bool false), .val (.string ⟨#[98]⟩), .val (.slice none 0 0), .val (.slice none 0 0), .val (.int .i64 3), .val (.bool false), .val (.slice none 0 0), .val (.bool false), .val (.string ⟨#[97, 32, 98]⟩), .val (.slice none 0 0), .val (.slice none 0 0)]) (by rw [hT0]; exact At.mk0) ?_) DS.nil
    exact DL.cons (DC.mk Nm.nil DS.nil DS.nil) (DL.cons (DC.mk Nm.nil DS.nil DS.nil) (DL.cons (DC.mk Nm.nil DS.nil DS.nil) DL.nil))
  have e0 : Ext st T0 := ⟨_, hT0⟩
  have g1 : At T0 (st.length + 1) [.val (.int .i64 5), .val (.bool false), .val (.slice none 0 0), .val (.bool false), .val (.string ⟨#[]⟩), .own st.length 0 3 7, .val (.slice none 0 0)] := by rw [hT0]; exact At.mk1
  rw [← hT0]
  refine E_callA (hP ▸ s_Write _ hG) ⟨_, dEx, rfl, hda, ex_fit, ex_ok, fun T eT => ?_⟩
  rw [ex_w]
  have g2 := (g1.ext eT).get
  simp (disch:=first|assumption|omega|(simp only [lens];omega)) only [eqs,↓gvd_succ,↓gvd_zero,↓and_of,im_of,im_of trivial,vlt,hP,hst,initS,Nat.reduceBEq,Nat.reduceAdd,Nat.reduceMul,Nat.reduceSub,Nat.reduceDiv,Nat.reduceMod,Nat.reducePow,Nat.reduceLT,Nat.reduceLeDiff,Nat.reduceEqDiff,Int.reduceAdd,Int.reduceSub,Int.reduceNeg,Int.reduceMul,Int.reduceToNat,Int.reducePow,Int.reduceLE,Int.reduceLT,Int.reduceEq,Int.reduceNe,reduceIte,reduceCtorEq,ne_eq,not_true_eq_false,not_false_eq_true,imp_self,implies_true,bls,eq_self,g2,str_eq2]
  refine E_callA (hP ▸ s_Display _ hG) ⟨_, dEx, rfl, hda.ext eT, ex_fit, ex_ok, fun T2 eT2 => ?_⟩
  rw [ex_d]
  simp (disch:=first|assumption|omega|(simp only [lens];omega)) only [eqs,↓gvd_succ,↓gvd_zero,↓and_of,im_of,im_of trivial,vlt,hP,hst,initS,Nat.reduceBEq,Nat.reduceAdd,Nat.reduceMul,Nat.reduceSub,Nat.reduceDiv,Nat.reduceMod,Nat.reducePow,Nat.reduceLT,Nat.reduceLeDiff,Nat.reduceEqDiff,Int.reduceAdd,Int.reduceSub,Int.reduceNeg,Int.reduceMul,Int.reduceToNat,Int.reducePow,Int.reduceLE,Int.reduceLT,Int.reduceEq,Int.reduceNe,reduceIte,reduceCtorEq,ne_eq,not_true_eq_false,not_false_eq_true,imp_self,implies_true,bls,eq_self,str_eq2]
  exact hK _ ((e0.trans eT).trans eT2)
end Go.Proofs.Pv
