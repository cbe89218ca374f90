/- Go's strings: a prefix. -/
import Derived.Test.YtmclabehpfpnnaaDoorS1
import Derived.Test.YtmclabehpfpnnaaDoorQ2
import Derived.Test.YtmclabehpfpnnaaDoorW16
import Derived.Test.YtmclabehpfpnnaaDoorW14
import Derived.Test.YtmclabehpfpnnaaDoorR8
import Derived.Test.YtmclabehpfpnnaaDoorR10
set_option linter.unusedSimpArgs false
set_option linter.unusedVariables false
namespace Go.Proofs.Pv
open Go Go.RowKit Go.Proofs
set_option maxRecDepth 20000

theorem size_sb (s : ByteArray) : s.size = (sb s).length := by
  show s.data.size = _
  unfold sb
  rw [List.length_map, Array.length_toList]
def RHas (xs : List AV) (st : St) (K : AV → St → Prop) : Prop := ∃ s p : ByteArray, xs = [.val (.string s), .val (.string p)] ∧ True ∧ (sb p).length ≤ 1000 ∧ K (.val (.bool (decide ((sb s).take (sb p).length = sb p)))) st
theorem s_HasPrefix : PSpec Tryd.prog 124 RHas := by
  refine fspec_of (fn := Tryd.f124) 2 [.tmp 4] (by kernel_rfl) rfl rfl (by kernel_rfl) mixed (by rintro _ _ _ ⟨s, p, rfl, _⟩; rfl) ?_
  rintro X _ st K hP hst ⟨s, p, rfl, hs, hp, hK⟩
  refine vc_V ?_
  simp (disch:=first|assumption|omega|(simp only [lens];omega)) only [eqs,↓gvd_succ,↓gvd_zero,↓and_of,im_of,im_of trivial,vlt,hP,hst,initS,Nat.reduceBEq,Nat.reduceAdd,Nat.reduceMul,Nat.reduceSub,Nat.reduceDiv,Nat.reduceMod,Nat.reducePow,Nat.reduceLT,Nat.reduceLeDiff,Nat.reduceEqDiff,Int.reduceAdd,Int.reduceSub,Int.reduceNeg,Int.reduceMul,Int.reduceToNat,Int.reducePow,Int.reduceLE,Int.reduceLT,Int.reduceEq,Int.reduceNe,reduceIte,reduceCtorEq,ne_eq,not_true_eq_false,not_false_eq_true,imp_self,implies_true,bls,eq_self]
  refine G_dec (fun h => ?_) (fun h => ?_)
  · have e1 : decide (s.extract 0 (sb p).length = p) = decide ((sb s).take (sb p).length = sb p) := by
      rw [decide_eq_decide]
      constructor
      · intro h2
        have := congrArg sb h2
        rwa [sb_extract, List.drop_zero] at this
      · intro h2
        apply sb_inj
        rw [sb_extract, List.drop_zero, h2]
    have h3 : ((sb p).length : Int) ≤ (s.size : Int) := by rw [size_sb]; exact h
    simp (disch:=first|assumption|omega|(simp only [lens];omega)) only [eqs,↓gvd_succ,↓gvd_zero,↓and_of,im_of,im_of trivial,vlt,hP,hst,initS,Nat.reduceBEq,Nat.reduceAdd,Nat.reduceMul,Nat.reduceSub,Nat.reduceDiv,Nat.reduceMod,Nat.reducePow,Nat.reduceLT,Nat.reduceLeDiff,Nat.reduceEqDiff,Int.reduceAdd,Int.reduceSub,Int.reduceNeg,Int.reduceMul,Int.reduceToNat,Int.reducePow,Int.reduceLE,Int.reduceLT,Int.reduceEq,Int.reduceNe,reduceIte,reduceCtorEq,ne_eq,not_true_eq_false,not_false_eq_true,imp_self,implies_true,bls,eq_self,h,h3,str_eq2,e1]
    exact hK
  · have e1 : decide ((sb s).take (sb p).length = sb p) = false := decide_eq_false fun h2 => by
      have := congrArg List.length h2
      rw [List.length_take] at this
      omega
    rw [e1] at hK
    simp (disch:=first|assumption|omega|(simp only [lens];omega)) only [eqs,↓gvd_succ,↓gvd_zero,↓and_of,im_of,im_of trivial,vlt,hP,hst,initS,Nat.reduceBEq,Nat.reduceAdd,Nat.reduceMul,Nat.reduceSub,Nat.reduceDiv,Nat.reduceMod,Nat.reducePow,Nat.reduceLT,Nat.reduceLeDiff,Nat.reduceEqDiff,Int.reduceAdd,Int.reduceSub,Int.reduceNeg,Int.reduceMul,Int.reduceToNat,Int.reducePow,Int.reduceLE,Int.reduceLT,Int.reduceEq,Int.reduceNe,reduceIte,reduceCtorEq,ne_eq,not_true_eq_false,not_false_eq_true,imp_self,implies_true,bls,eq_self,h]
    exact hK
def RCut (xs : List AV) (st : St) (K : AV → St → Prop) : Prop := ∃ s p : ByteArray, xs = [.val (.string s), .val (.string p)] ∧ True ∧ (sb p).length ≤ 1000 ∧
  ((sb s).take (sb p).length = sb p → K (.tup [.val (.string (bstr ((sb s).drop (sb p).length))), .val (.bool true)]) st) ∧ ((sb s).take (sb p).length ≠ sb p → K (.tup [.val (.string s), .val (.bool false)]) st)
theorem s_CutPrefix0 : PSpec Tryd.prog 99 RCut := by
  refine fspec_of (fn := Tryd.f99) 2 [.tmp 4, .tmp 5] (by kernel_rfl) rfl rfl (by kernel_rfl) mixed (by rintro _ _ _ ⟨s, p, rfl, _⟩; rfl) ?_
  rintro X _ st K hP hst ⟨s, p, rfl, hs, hp, hK, hK0⟩
  refine vc_V ?_
  simp (disch:=first|assumption|omega|(simp only [lens];omega)) only [eqs,↓gvd_succ,↓gvd_zero,↓and_of,im_of,im_of trivial,vlt,hP,hst,initS,Nat.reduceBEq,Nat.reduceAdd,Nat.reduceMul,Nat.reduceSub,Nat.reduceDiv,Nat.reduceMod,Nat.reducePow,Nat.reduceLT,Nat.reduceLeDiff,Nat.reduceEqDiff,Int.reduceAdd,Int.reduceSub,Int.reduceNeg,Int.reduceMul,Int.reduceToNat,Int.reducePow,Int.reduceLE,Int.reduceLT,Int.reduceEq,Int.reduceNe,reduceIte,reduceCtorEq,ne_eq,not_true_eq_false,not_false_eq_true,imp_self,implies_true,bls,eq_self]
  refine E_call (hP ▸ s_HasPrefix) ⟨s, p, rfl, hs, hp, ?_⟩
  simp (disch:=first|assumption|omega|(simp only [lens];omega)) only [eqs,↓gvd_succ,↓gvd_zero,↓and_of,im_of,im_of trivial,vlt,hP,hst,initS,Nat.reduceBEq,Nat.reduceAdd,Nat.reduceMul,Nat.reduceSub,Nat.reduceDiv,Nat.reduceMod,Nat.reducePow,Nat.reduceLT,Nat.reduceLeDiff,Nat.reduceEqDiff,Int.reduceAdd,Int.reduceSub,Int.reduceNeg,Int.reduceMul,Int.reduceToNat,Int.reducePow,Int.reduceLE,Int.reduceLT,Int.reduceEq,Int.reduceNe,reduceIte,reduceCtorEq,ne_eq,not_true_eq_false,not_false_eq_true,imp_self,implies_true,bls,eq_self]
  refine C_dec (fun h => ?_) (fun h => ?_)
  · simp (disch:=first|assumption|omega|(simp only [lens];omega)) only [eqs,↓gvd_succ,↓gvd_zero,↓and_of,im_of,im_of trivial,vlt,hP,hst,initS,Nat.reduceBEq,Nat.reduceAdd,Nat.reduceMul,Nat.reduceSub,Nat.reduceDiv,Nat.reduceMod,Nat.reducePow,Nat.reduceLT,Nat.reduceLeDiff,Nat.reduceEqDiff,Int.reduceAdd,Int.reduceSub,Int.reduceNeg,Int.reduceMul,Int.reduceToNat,Int.reducePow,Int.reduceLE,Int.reduceLT,Int.reduceEq,Int.reduceNe,reduceIte,reduceCtorEq,ne_eq,not_true_eq_false,not_false_eq_true,imp_self,implies_true,bls,eq_self]
    exact hK0 h
  · have h := Classical.not_not.1 h
    have h2 : (sb p).length ≤ (sb s).length := by
      have := congrArg List.length h
      rw [List.length_take] at this
      omega
    have h3 : ((sb p).length : Int) ≤ (s.size : Int) := by rw [size_sb]; exact Int.ofNat_le.2 h2
    have e1 : s.extract (sb p).length s.size = bstr ((sb s).drop (sb p).length) := sb_inj (by rw [sb_extract, size_sb, sb_bstr (fun n hn => sb_lt' s n (List.mem_of_mem_drop hn)), List.take_length])
    simp (disch:=first|assumption|omega|(simp only [lens];omega)) only [eqs,↓gvd_succ,↓gvd_zero,↓and_of,im_of,im_of trivial,vlt,hP,hst,initS,Nat.reduceBEq,Nat.reduceAdd,Nat.reduceMul,Nat.reduceSub,Nat.reduceDiv,Nat.reduceMod,Nat.reducePow,Nat.reduceLT,Nat.reduceLeDiff,Nat.reduceEqDiff,Int.reduceAdd,Int.reduceSub,Int.reduceNeg,Int.reduceMul,Int.reduceToNat,Int.reducePow,Int.reduceLE,Int.reduceLT,Int.reduceEq,Int.reduceNe,reduceIte,reduceCtorEq,ne_eq,not_true_eq_false,not_false_eq_true,imp_self,implies_true,bls,eq_self,h3,e1]
    exact hK h
theorem s_CutPrefix : PSpec Tryd.prog 68 RCut := by
  refine fspec_of (fn := Tryd.f68) 2 [.tmp 4, .tmp 5] (by kernel_rfl) rfl rfl (by kernel_rfl) mixed (by rintro _ _ _ ⟨s, p, rfl, _⟩; rfl) ?_
  rintro X _ st K hP hst ⟨s, p, rfl, hs, hp, hK, hK0⟩
  refine vc_V ?_
  simp (disch:=first|assumption|omega|(simp only [lens];omega)) only [eqs,↓gvd_succ,↓gvd_zero,↓and_of,im_of,im_of trivial,vlt,hP,hst,initS,Nat.reduceBEq,Nat.reduceAdd,Nat.reduceMul,Nat.reduceSub,Nat.reduceDiv,Nat.reduceMod,Nat.reducePow,Nat.reduceLT,Nat.reduceLeDiff,Nat.reduceEqDiff,Int.reduceAdd,Int.reduceSub,Int.reduceNeg,Int.reduceMul,Int.reduceToNat,Int.reducePow,Int.reduceLE,Int.reduceLT,Int.reduceEq,Int.reduceNe,reduceIte,reduceCtorEq,ne_eq,not_true_eq_false,not_false_eq_true,imp_self,implies_true,bls,eq_self]
  refine E_call (hP ▸ s_CutPrefix0) ⟨s, p, rfl, hs, hp, fun h => ?_, fun h => ?_⟩
  · simp (disch:=first|assumption|omega|(simp only [lens];omega)) only [eqs,↓gvd_succ,↓gvd_zero,↓and_of,im_of,im_of trivial,vlt,hP,hst,initS,Nat.reduceBEq,Nat.reduceAdd,Nat.reduceMul,Nat.reduceSub,Nat.reduceDiv,Nat.reduceMod,Nat.reducePow,Nat.reduceLT,Nat.reduceLeDiff,Nat.reduceEqDiff,Int.reduceAdd,Int.reduceSub,Int.reduceNeg,Int.reduceMul,Int.reduceToNat,Int.reducePow,Int.reduceLE,Int.reduceLT,Int.reduceEq,Int.reduceNe,reduceIte,reduceCtorEq,ne_eq,not_true_eq_false,not_false_eq_true,imp_self,implies_true,bls,eq_self]
    exact hK h
  · simp (disch:=first|assumption|omega|(simp only [lens];omega)) only [eqs,↓gvd_succ,↓gvd_zero,↓and_of,im_of,im_of trivial,vlt,hP,hst,initS,Nat.reduceBEq,Nat.reduceAdd,Nat.reduceMul,Nat.reduceSub,Nat.reduceDiv,Nat.reduceMod,Nat.reducePow,Nat.reduceLT,Nat.reduceLeDiff,Nat.reduceEqDiff,Int.reduceAdd,Int.reduceSub,Int.reduceNeg,Int.reduceMul,Int.reduceToNat,Int.reducePow,Int.reduceLE,Int.reduceLT,Int.reduceEq,Int.reduceNe,reduceIte,reduceCtorEq,ne_eq,not_true_eq_false,not_false_eq_true,imp_self,implies_true,bls,eq_self]
    exact hK0 h
def RTrimP (xs : List AV) (st : St) (K : AV → St → Prop) : Prop := ∃ s p : ByteArray, xs = [.val (.string s), .val (.string p)] ∧ True ∧ (sb p).length ≤ 1000 ∧
  ((sb s).take (sb p).length = sb p → K (.val (.string (bstr ((sb s).drop (sb p).length)))) st) ∧ ((sb s).take (sb p).length ≠ sb p → K (.val (.string s)) st)
theorem s_TrimPrefix0 : PSpec Tryd.prog 100 RTrimP := by
  refine fspec_of (fn := Tryd.f100) 2 [.tmp 4] (by kernel_rfl) rfl rfl (by kernel_rfl) mixed (by rintro _ _ _ ⟨s, p, rfl, _⟩; rfl) ?_
  rintro X _ st K hP hst ⟨s, p, rfl, hs, hp, hK, hK0⟩
  refine vc_V ?_
  simp (disch:=first|assumption|omega|(simp only [lens];omega)) only [eqs,↓gvd_succ,↓gvd_zero,↓and_of,im_of,im_of trivial,vlt,hP,hst,initS,Nat.reduceBEq,Nat.reduceAdd,Nat.reduceMul,Nat.reduceSub,Nat.reduceDiv,Nat.reduceMod,Nat.reducePow,Nat.reduceLT,Nat.reduceLeDiff,Nat.reduceEqDiff,Int.reduceAdd,Int.reduceSub,Int.reduceNeg,Int.reduceMul,Int.reduceToNat,Int.reducePow,Int.reduceLE,Int.reduceLT,Int.reduceEq,Int.reduceNe,reduceIte,reduceCtorEq,ne_eq,not_true_eq_false,not_false_eq_true,imp_self,implies_true,bls,eq_self]
  refine E_call (hP ▸ s_HasPrefix) ⟨s, p, rfl, hs, hp, ?_⟩
  simp (disch:=first|assumption|omega|(simp only [lens];omega)) only [eqs,↓gvd_succ,↓gvd_zero,↓and_of,im_of,im_of trivial,vlt,hP,hst,initS,Nat.reduceBEq,Nat.reduceAdd,Nat.reduceMul,Nat.reduceSub,Nat.reduceDiv,Nat.reduceMod,Nat.reducePow,Nat.reduceLT,Nat.reduceLeDiff,Nat.reduceEqDiff,Int.reduceAdd,Int.reduceSub,Int.reduceNeg,Int.reduceMul,Int.reduceToNat,Int.reducePow,Int.reduceLE,Int.reduceLT,Int.reduceEq,Int.reduceNe,reduceIte,reduceCtorEq,ne_eq,not_true_eq_false,not_false_eq_true,imp_self,implies_true,bls,eq_self]
  refine C_dec (fun h => ?_) (fun h => ?_)
  · have h2 : (sb p).length ≤ (sb s).length := by
      have := congrArg List.length h
      rw [List.length_take] at this
      omega
    have h3 : ((sb p).length : Int) ≤ (s.size : Int) := by rw [size_sb]; exact Int.ofNat_le.2 h2
    have e1 : s.extract (sb p).length s.size = bstr ((sb s).drop (sb p).length) := sb_inj (by rw [sb_extract, size_sb, sb_bstr (fun n hn => sb_lt' s n (List.mem_of_mem_drop hn)), List.take_length])
    simp (disch:=first|assumption|omega|(simp only [lens];omega)) only [eqs,↓gvd_succ,↓gvd_zero,↓and_of,im_of,im_of trivial,vlt,hP,hst,initS,Nat.reduceBEq,Nat.reduceAdd,Nat.reduceMul,Nat.reduceSub,Nat.reduceDiv,Nat.reduceMod,Nat.reducePow,Nat.reduceLT,Nat.reduceLeDiff,Nat.reduceEqDiff,Int.reduceAdd,Int.reduceSub,Int.reduceNeg,Int.reduceMul,Int.reduceToNat,Int.reducePow,Int.reduceLE,Int.reduceLT,Int.reduceEq,Int.reduceNe,reduceIte,reduceCtorEq,ne_eq,not_true_eq_false,not_false_eq_true,imp_self,implies_true,bls,eq_self,h3,e1]
    exact hK h
  · simp (disch:=first|assumption|omega|(simp only [lens];omega)) only [eqs,↓gvd_succ,↓gvd_zero,↓and_of,im_of,im_of trivial,vlt,hP,hst,initS,Nat.reduceBEq,Nat.reduceAdd,Nat.reduceMul,Nat.reduceSub,Nat.reduceDiv,Nat.reduceMod,Nat.reducePow,Nat.reduceLT,Nat.reduceLeDiff,Nat.reduceEqDiff,Int.reduceAdd,Int.reduceSub,Int.reduceNeg,Int.reduceMul,Int.reduceToNat,Int.reducePow,Int.reduceLE,Int.reduceLT,Int.reduceEq,Int.reduceNe,reduceIte,reduceCtorEq,ne_eq,not_true_eq_false,not_false_eq_true,imp_self,implies_true,bls,eq_self]
    exact hK0 h
theorem s_TrimPrefix : PSpec Tryd.prog 69 RTrimP := by
  refine fspec_of (fn := Tryd.f69) 2 [.tmp 4] (by kernel_rfl) rfl rfl (by kernel_rfl) mixed (by rintro _ _ _ ⟨s, p, rfl, _⟩; rfl) ?_
  rintro X _ st K hP hst ⟨s, p, rfl, hs, hp, hK, hK0⟩
  refine vc_V ?_
  simp (disch:=first|assumption|omega|(simp only [lens];omega)) only [eqs,↓gvd_succ,↓gvd_zero,↓and_of,im_of,im_of trivial,vlt,hP,hst,initS,Nat.reduceBEq,Nat.reduceAdd,Nat.reduceMul,Nat.reduceSub,Nat.reduceDiv,Nat.reduceMod,Nat.reducePow,Nat.reduceLT,Nat.reduceLeDiff,Nat.reduceEqDiff,Int.reduceAdd,Int.reduceSub,Int.reduceNeg,Int.reduceMul,Int.reduceToNat,Int.reducePow,Int.reduceLE,Int.reduceLT,Int.reduceEq,Int.reduceNe,reduceIte,reduceCtorEq,ne_eq,not_true_eq_false,not_false_eq_true,imp_self,implies_true,bls,eq_self]
  refine E_call (hP ▸ s_TrimPrefix0) ⟨s, p, rfl, hs, hp, fun h => ?_, fun h => ?_⟩
  · simp (disch:=first|assumption|omega|(simp only [lens];omega)) only [eqs,↓gvd_succ,↓gvd_zero,↓and_of,im_of,im_of trivial,vlt,hP,hst,initS,Nat.reduceBEq,Nat.reduceAdd,Nat.reduceMul,Nat.reduceSub,Nat.reduceDiv,Nat.reduceMod,Nat.reducePow,Nat.reduceLT,Nat.reduceLeDiff,Nat.reduceEqDiff,Int.reduceAdd,Int.reduceSub,Int.reduceNeg,Int.reduceMul,Int.reduceToNat,Int.reducePow,Int.reduceLE,Int.reduceLT,Int.reduceEq,Int.reduceNe,reduceIte,reduceCtorEq,ne_eq,not_true_eq_false,not_false_eq_true,imp_self,implies_true,bls,eq_self]
    exact hK h
  · simp (disch:=first|assumption|omega|(simp only [lens];omega)) only [eqs,↓gvd_succ,↓gvd_zero,↓and_of,im_of,im_of trivial,vlt,hP,hst,initS,Nat.reduceBEq,Nat.reduceAdd,Nat.reduceMul,Nat.reduceSub,Nat.reduceDiv,Nat.reduceMod,Nat.reducePow,Nat.reduceLT,Nat.reduceLeDiff,Nat.reduceEqDiff,Int.reduceAdd,Int.reduceSub,Int.reduceNeg,Int.reduceMul,Int.reduceToNat,Int.reducePow,Int.reduceLE,Int.reduceLT,Int.reduceEq,Int.reduceNe,reduceIte,reduceCtorEq,ne_eq,not_true_eq_false,not_false_eq_true,imp_self,implies_true,bls,eq_self]
    exact hK0 h
end Go.Proofs.Pv

/- The document's whole numbers, fifth part: as a small number; as a text. -/
namespace Go.Proofs.Pv
open Go Go.RowKit Go.Proofs
set_option maxRecDepth 20000

theorem s_qText : PSpec Tryd.prog 66 RwText := by
  refine fspec_of (fn := Tryd.f66) 1 [.tmp 2] (by kernel_rfl) rfl rfl (by kernel_rfl) mixed (by rintro _ _ _ ⟨x, s, l, rfl, _⟩; rfl) ?_
  rintro X _ st K hP hst ⟨x, s, l, rfl, hx, hl, hK⟩
  have hx1 := hx
  obtain ⟨a, rfl, ha, hal⟩ := hx.iv
  refine vc_V ?_
  have b1 := limbs_len ha.lt
  have hbl := blen_len ha.lt
  have htl := txt_len (b := 10) (n := val l) (by omega)
  simp (disch:=first|assumption|omega|(simp only [lens];omega)) only [eqs,↓gvd_succ,↓gvd_zero,↓and_of,im_of,im_of trivial,vlt,hP,hst,initS,Nat.reduceBEq,Nat.reduceAdd,Nat.reduceMul,Nat.reduceSub,Nat.reduceDiv,Nat.reduceMod,Nat.reducePow,Nat.reduceLT,Nat.reduceLeDiff,Nat.reduceEqDiff,Int.reduceAdd,Int.reduceSub,Int.reduceNeg,Int.reduceMul,Int.reduceToNat,Int.reducePow,Int.reduceLE,Int.reduceLT,Int.reduceEq,Int.reduceNe,reduceIte,reduceCtorEq,ne_eq,not_true_eq_false,not_false_eq_true,imp_self,implies_true,bls,eq_self,hal]
  refine E_call (hP ▸ s_qNorm) ⟨_, s, l, rfl, hx1.ext (.add _), by omega, fun z T hz => ?_⟩
  have e0 : Ext st T := (Ext.add _).trans hz.ex
  unfold txtI at hK
  rw [iv_natAbs] at hK
  have c1 : (limbs (iv s (val l)).natAbs).length ≤ 1000 := by rw [iv_natAbs]; omega
  have c2 : (iv s (val l)).natAbs = val l := iv_natAbs
  obtain ⟨Z, hZ⟩ : ∃ Z, iv s (val l) = Z := ⟨_, rfl⟩
  rw [hZ] at hz hK c1 c2
  obtain ⟨a', rfl, ha'⟩ := hz
  have hal' := ha'.nm.leaf
  have hX0 := e0.len
  simp (disch:=first|assumption|omega|(simp only [lens];omega)) only [eqs,↓gvd_succ,↓gvd_zero,↓and_of,im_of,im_of trivial,vlt,hP,hst,initS,Nat.reduceBEq,Nat.reduceAdd,Nat.reduceMul,Nat.reduceSub,Nat.reduceDiv,Nat.reduceMod,Nat.reducePow,Nat.reduceLT,Nat.reduceLeDiff,Nat.reduceEqDiff,Int.reduceAdd,Int.reduceSub,Int.reduceNeg,Int.reduceMul,Int.reduceToNat,Int.reducePow,Int.reduceLE,Int.reduceLT,Int.reduceEq,Int.reduceNe,reduceIte,reduceCtorEq,ne_eq,not_true_eq_false,not_false_eq_true,imp_self,implies_true,bls,eq_self,hal',hX0]
  obtain ⟨S, hS⟩ : ∃ S, T ++ [some [.val (.bool (decide (Z < 0))), a']] = S := ⟨_, rfl⟩
  have hTS : Ext T S := ⟨_, hS.symm⟩
  have hSA : At S T.length [.val (.bool (decide (Z < 0))), a'] := ⟨hS ▸ by rw [get_app0]; rfl⟩
  rw [hS]
  clear hS
  have g1 := hSA.get
  refine E_call (hP ▸ s_rText) ⟨a', _, 10, rfl, ha'.nm.ext hTS, by omega, fun T2 hT2 => ?_⟩
  rw [if_neg (by omega), show Int.toNat 10 = 10 from rfl, val_limbs, c2]
  generalize txt 10 (val l) = t at *
  have g2 := (hSA.ext hT2).get
  have hE : Ext st T2 := e0.trans (hTS.trans hT2)
  simp (disch:=first|assumption|omega|(simp only [lens];omega)) only [eqs,↓gvd_succ,↓gvd_zero,↓and_of,im_of,im_of trivial,vlt,hP,hst,initS,Nat.reduceBEq,Nat.reduceAdd,Nat.reduceMul,Nat.reduceSub,Nat.reduceDiv,Nat.reduceMod,Nat.reducePow,Nat.reduceLT,Nat.reduceLeDiff,Nat.reduceEqDiff,Int.reduceAdd,Int.reduceSub,Int.reduceNeg,Int.reduceMul,Int.reduceToNat,Int.reducePow,Int.reduceLE,Int.reduceLT,Int.reduceEq,Int.reduceNe,reduceIte,reduceCtorEq,ne_eq,not_true_eq_false,not_false_eq_true,imp_self,implies_true,bls,eq_self,g2]
  refine C_dec (fun h => ?_) (fun h => ?_)
  · rw [if_pos h] at hK
    have e1 : ((⟨#[45]⟩ : ByteArray) ++ bstr t) = bstr (45 :: t) := by rw [show (⟨#[45]⟩ : ByteArray) = bstr [45] from rfl, bstr_append]; rfl
    have e2 : (⟨#[45]⟩ : ByteArray).size + (bstr t).size ≤ 9223372036854775807 := by rw [bstr_size, show (⟨#[45]⟩ : ByteArray).size = 1 from rfl]; omega
    simp (disch:=first|assumption|omega|(simp only [lens];omega)) only [eqs,↓gvd_succ,↓gvd_zero,↓and_of,im_of,im_of trivial,vlt,hP,hst,initS,Nat.reduceBEq,Nat.reduceAdd,Nat.reduceMul,Nat.reduceSub,Nat.reduceDiv,Nat.reduceMod,Nat.reducePow,Nat.reduceLT,Nat.reduceLeDiff,Nat.reduceEqDiff,Int.reduceAdd,Int.reduceSub,Int.reduceNeg,Int.reduceMul,Int.reduceToNat,Int.reducePow,Int.reduceLE,Int.reduceLT,Int.reduceEq,Int.reduceNe,reduceIte,reduceCtorEq,ne_eq,not_true_eq_false,not_false_eq_true,imp_self,implies_true,bls,eq_self,e1,e2]
    exact hK _ hE
  · rw [if_neg h] at hK
    simp (disch:=first|assumption|omega|(simp only [lens];omega)) only [eqs,↓gvd_succ,↓gvd_zero,↓and_of,im_of,im_of trivial,vlt,hP,hst,initS,Nat.reduceBEq,Nat.reduceAdd,Nat.reduceMul,Nat.reduceSub,Nat.reduceDiv,Nat.reduceMod,Nat.reducePow,Nat.reduceLT,Nat.reduceLeDiff,Nat.reduceEqDiff,Int.reduceAdd,Int.reduceSub,Int.reduceNeg,Int.reduceMul,Int.reduceToNat,Int.reducePow,Int.reduceLE,Int.reduceLT,Int.reduceEq,Int.reduceNe,reduceIte,reduceCtorEq,ne_eq,not_true_eq_false,not_false_eq_true,imp_self,implies_true,bls,eq_self]
    exact hK _ hE
end Go.Proofs.Pv

/- The whole functions' walks, seventh part: out of a text. -/
namespace Go.Proofs.Pv
open Go Go.RowKit Go.Proofs
set_option maxRecDepth 20000

/-- A text's whole number: a sign, if any, and digits. -/
def parseI (l : List Nat) : Option Int :=
  if l.take 1 = [45] then (parse 10 (l.drop 1)).map fun n : Nat => -(n : Int) else if l.take 1 = [43] then (parse 10 (l.drop 1)).map fun n : Nat => (n : Int) else (parse 10 l).map fun n : Nat => (n : Int)
theorem parse_len {l : List Nat} {n : Nat} (h : parse 10 l = some n) : (limbs n).length ≤ 1000 := by
  unfold parse at h
  split at h
  · simp at h
  · rename_i h2
    have h3 : n < 36 ^ l.length := pnum_lt (by omega) h
    have h4 : l.length ≤ 1000 := by omega
    have h5 := Nat.pow_le_pow_left (show 36 ≤ 4294967296 by omega) l.length
    exact Nat.le_trans (limbs_len_le (Nat.lt_of_lt_of_le h3 h5)) h4
def RwParse (xs : List AV) (st : St) (K : AV → St → Prop) : Prop := ∃ s, xs = [.val (.string s)] ∧ True ∧
  (∀ z v st', parseI (sb s) = some z → GotI st st' v z → K (.tup [v, .val (.bool true)]) st') ∧ (parseI (sb s) = none → ∀ st', Ext st st' → K (.tup [zeroI, .val (.bool false)]) st')
theorem s_minus : sb ⟨#[45]⟩ = [45] := rfl
theorem s_plus : sb ⟨#[43]⟩ = [43] := rfl
set_option maxHeartbeats 4000000 in
theorem s_wParse : PSpec Tryd.prog 37 RwParse := by
  refine fspec_of (fn := Tryd.f37) 1 [.cell 2 24, .tmp 3] (by kernel_rfl) rfl rfl (by kernel_rfl) mixed (by rintro _ _ _ ⟨s, rfl, _⟩; rfl) ?_
  rintro X _ st K hP hst ⟨s, rfl, hs, hK, hK0⟩
  have hX : X.st1.length ≤ st.length := by rw [hst]; omega
  have hd : sb (bstr ((sb s).drop 1)) = (sb s).drop 1 := sb_bstr fun n hn => sb_lt' s n (List.mem_of_mem_drop hn)
  refine vc_V ?_
  simp (disch:=first|assumption|omega|(simp only [lens];omega)) only [eqs,↓gvd_succ,↓gvd_zero,↓and_of,im_of,im_of trivial,vlt,hP,hst,initS,Nat.reduceBEq,Nat.reduceAdd,Nat.reduceMul,Nat.reduceSub,Nat.reduceDiv,Nat.reduceMod,Nat.reducePow,Nat.reduceLT,Nat.reduceLeDiff,Nat.reduceEqDiff,Int.reduceAdd,Int.reduceSub,Int.reduceNeg,Int.reduceMul,Int.reduceToNat,Int.reducePow,Int.reduceLE,Int.reduceLT,Int.reduceEq,Int.reduceNe,reduceIte,reduceCtorEq,ne_eq,not_true_eq_false,not_false_eq_true,imp_self,implies_true,bls,eq_self]
  refine E_call (hP ▸ s_CutPrefix) ⟨s, ⟨#[45]⟩, rfl, hs, by rw [s_minus]; simp, fun h => ?_, fun h => ?_⟩
  · have h1 : (sb s).take 1 = [45] := h
    rw [s_minus, show ([45] : List Nat).length = 1 from rfl]
    simp (disch:=first|assumption|omega|(simp only [lens];omega)) only [eqs,↓gvd_succ,↓gvd_zero,↓and_of,im_of,im_of trivial,vlt,hP,hst,initS,Nat.reduceBEq,Nat.reduceAdd,Nat.reduceMul,Nat.reduceSub,Nat.reduceDiv,Nat.reduceMod,Nat.reducePow,Nat.reduceLT,Nat.reduceLeDiff,Nat.reduceEqDiff,Int.reduceAdd,Int.reduceSub,Int.reduceNeg,Int.reduceMul,Int.reduceToNat,Int.reducePow,Int.reduceLE,Int.reduceLT,Int.reduceEq,Int.reduceNe,reduceIte,reduceCtorEq,ne_eq,not_true_eq_false,not_false_eq_true,imp_self,implies_true,bls,eq_self]
    refine E_call (hP ▸ s_Parse) ⟨_, 10, rfl, gotP_pres fun x T hT hx => ?_⟩
    rw [hd] at hx ⊢
    have hl := show parseI (sb s) = (parse 10 ((sb s).drop 1)).map (fun n : Nat => -(n : Int)) by unfold parseI; rw [if_pos h1]
    have hC : At T st.length [.val (.bool false), .val (.slice none 0 0)] := At.ext ⟨by rw [get_app0]; rfl⟩ hT
    have gC := hC.get
    have gC2 := hC.lt
    have e0 : Ext st T := (Ext.add _).trans hT
    rcases hp : parse 10 ((sb s).drop 1) with _ | n
    · rw [hp] at hx hl
      simp only [Option.isSome_none]
      simp (disch:=first|assumption|omega|(simp only [lens];omega)) only [eqs,↓gvd_succ,↓gvd_zero,↓and_of,im_of,im_of trivial,vlt,hP,hst,initS,Nat.reduceBEq,Nat.reduceAdd,Nat.reduceMul,Nat.reduceSub,Nat.reduceDiv,Nat.reduceMod,Nat.reducePow,Nat.reduceLT,Nat.reduceLeDiff,Nat.reduceEqDiff,Int.reduceAdd,Int.reduceSub,Int.reduceNeg,Int.reduceMul,Int.reduceToNat,Int.reducePow,Int.reduceLE,Int.reduceLT,Int.reduceEq,Int.reduceNe,reduceIte,reduceCtorEq,ne_eq,not_true_eq_false,not_false_eq_true,imp_self,implies_true,bls,eq_self,gC,hX]
      exact hK0 hl _ (e0.set (Nat.le_refl _) _)
    · rw [hp] at hx hl
      simp only [Option.isSome_some, Option.getD_some] at hx ⊢
      have hln := parse_len hp
      simp (disch:=first|assumption|omega|(simp only [lens];omega)) only [eqs,↓gvd_succ,↓gvd_zero,↓and_of,im_of,im_of trivial,vlt,hP,hst,initS,Nat.reduceBEq,Nat.reduceAdd,Nat.reduceMul,Nat.reduceSub,Nat.reduceDiv,Nat.reduceMod,Nat.reducePow,Nat.reduceLT,Nat.reduceLeDiff,Nat.reduceEqDiff,Int.reduceAdd,Int.reduceSub,Int.reduceNeg,Int.reduceMul,Int.reduceToNat,Int.reducePow,Int.reduceLE,Int.reduceLT,Int.reduceEq,Int.reduceNe,reduceIte,reduceCtorEq,ne_eq,not_true_eq_false,not_false_eq_true,imp_self,implies_true,bls,eq_self]
      refine E_call (hP ▸ s_of) ⟨true, x, _, rfl, hx, by omega, fun z T2 hz => ?_⟩
      rw [val_limbs] at hz
      have hz0 := hz
      obtain ⟨z', rfl, hz'⟩ := hz
      have hzl := hz'.nm.leaf
      have gD := (hC.ext hz'.ex).get
      have gE := (hC.ext hz'.ex).lt
      simp (disch:=first|assumption|omega|(simp only [lens];omega)) only [eqs,↓gvd_succ,↓gvd_zero,↓and_of,im_of,im_of trivial,vlt,hP,hst,initS,Nat.reduceBEq,Nat.reduceAdd,Nat.reduceMul,Nat.reduceSub,Nat.reduceDiv,Nat.reduceMod,Nat.reducePow,Nat.reduceLT,Nat.reduceLeDiff,Nat.reduceEqDiff,Int.reduceAdd,Int.reduceSub,Int.reduceNeg,Int.reduceMul,Int.reduceToNat,Int.reducePow,Int.reduceLE,Int.reduceLT,Int.reduceEq,Int.reduceNe,reduceIte,reduceCtorEq,ne_eq,not_true_eq_false,not_false_eq_true,imp_self,implies_true,bls,eq_self,hzl,gD,gE,hX]
      exact hK _ _ _ hl (hz0.end1 e0 (Nat.le_refl _) gC2)
  · have h1 : (sb s).take 1 ≠ [45] := h
    simp (disch:=first|assumption|omega|(simp only [lens];omega)) only [eqs,↓gvd_succ,↓gvd_zero,↓and_of,im_of,im_of trivial,vlt,hP,hst,initS,Nat.reduceBEq,Nat.reduceAdd,Nat.reduceMul,Nat.reduceSub,Nat.reduceDiv,Nat.reduceMod,Nat.reducePow,Nat.reduceLT,Nat.reduceLeDiff,Nat.reduceEqDiff,Int.reduceAdd,Int.reduceSub,Int.reduceNeg,Int.reduceMul,Int.reduceToNat,Int.reducePow,Int.reduceLE,Int.reduceLT,Int.reduceEq,Int.reduceNe,reduceIte,reduceCtorEq,ne_eq,not_true_eq_false,not_false_eq_true,imp_self,implies_true,bls,eq_self]
    refine E_call (hP ▸ s_TrimPrefix) ⟨s, ⟨#[43]⟩, rfl, hs, by rw [s_plus]; simp, fun h2 => ?_, fun h2 => ?_⟩
    · have h3 : (sb s).take 1 = [43] := h2
      rw [s_plus, show ([43] : List Nat).length = 1 from rfl]
      simp (disch:=first|assumption|omega|(simp only [lens];omega)) only [eqs,↓gvd_succ,↓gvd_zero,↓and_of,im_of,im_of trivial,vlt,hP,hst,initS,Nat.reduceBEq,Nat.reduceAdd,Nat.reduceMul,Nat.reduceSub,Nat.reduceDiv,Nat.reduceMod,Nat.reducePow,Nat.reduceLT,Nat.reduceLeDiff,Nat.reduceEqDiff,Int.reduceAdd,Int.reduceSub,Int.reduceNeg,Int.reduceMul,Int.reduceToNat,Int.reducePow,Int.reduceLE,Int.reduceLT,Int.reduceEq,Int.reduceNe,reduceIte,reduceCtorEq,ne_eq,not_true_eq_false,not_false_eq_true,imp_self,implies_true,bls,eq_self]
      refine E_call (hP ▸ s_Parse) ⟨_, 10, rfl, gotP_pres fun x T hT hx => ?_⟩
      rw [hd] at hx ⊢
      have hl := show parseI (sb s) = (parse 10 ((sb s).drop 1)).map (fun n : Nat => (n : Int)) by unfold parseI; rw [if_neg h1, if_pos h3]
      have hC : At T st.length [.val (.bool false), .val (.slice none 0 0)] := At.ext ⟨by rw [get_app0]; rfl⟩ hT
      have gC := hC.get
      have gC2 := hC.lt
      have e0 : Ext st T := (Ext.add _).trans hT
      rcases hp : parse 10 ((sb s).drop 1) with _ | n
      · rw [hp] at hx hl
        simp only [Option.isSome_none]
        simp (disch:=first|assumption|omega|(simp only [lens];omega)) only [eqs,↓gvd_succ,↓gvd_zero,↓and_of,im_of,im_of trivial,vlt,hP,hst,initS,Nat.reduceBEq,Nat.reduceAdd,Nat.reduceMul,Nat.reduceSub,Nat.reduceDiv,Nat.reduceMod,Nat.reducePow,Nat.reduceLT,Nat.reduceLeDiff,Nat.reduceEqDiff,Int.reduceAdd,Int.reduceSub,Int.reduceNeg,Int.reduceMul,Int.reduceToNat,Int.reducePow,Int.reduceLE,Int.reduceLT,Int.reduceEq,Int.reduceNe,reduceIte,reduceCtorEq,ne_eq,not_true_eq_false,not_false_eq_true,imp_self,implies_true,bls,eq_self,gC,hX]
        exact hK0 hl _ (e0.set (Nat.le_refl _) _)
      · rw [hp] at hx hl
        simp only [Option.isSome_some, Option.getD_some] at hx ⊢
        have hln := parse_len hp
        simp (disch:=first|assumption|omega|(simp only [lens];omega)) only [eqs,↓gvd_succ,↓gvd_zero,↓and_of,im_of,im_of trivial,vlt,hP,hst,initS,Nat.reduceBEq,Nat.reduceAdd,Nat.reduceMul,Nat.reduceSub,Nat.reduceDiv,Nat.reduceMod,Nat.reducePow,Nat.reduceLT,Nat.reduceLeDiff,Nat.reduceEqDiff,Int.reduceAdd,Int.reduceSub,Int.reduceNeg,Int.reduceMul,Int.reduceToNat,Int.reducePow,Int.reduceLE,Int.reduceLT,Int.reduceEq,Int.reduceNe,reduceIte,reduceCtorEq,ne_eq,not_true_eq_false,not_false_eq_true,imp_self,implies_true,bls,eq_self]
        refine E_call (hP ▸ s_of) ⟨false, x, _, rfl, hx, by omega, fun z T2 hz => ?_⟩
        rw [val_limbs] at hz
        have hz0 := hz
        obtain ⟨z', rfl, hz'⟩ := hz
        have hzl := hz'.nm.leaf
        have gD := (hC.ext hz'.ex).get
        have gE := (hC.ext hz'.ex).lt
        simp (disch:=first|assumption|omega|(simp only [lens];omega)) only [eqs,↓gvd_succ,↓gvd_zero,↓and_of,im_of,im_of trivial,vlt,hP,hst,initS,Nat.reduceBEq,Nat.reduceAdd,Nat.reduceMul,Nat.reduceSub,Nat.reduceDiv,Nat.reduceMod,Nat.reducePow,Nat.reduceLT,Nat.reduceLeDiff,Nat.reduceEqDiff,Int.reduceAdd,Int.reduceSub,Int.reduceNeg,Int.reduceMul,Int.reduceToNat,Int.reducePow,Int.reduceLE,Int.reduceLT,Int.reduceEq,Int.reduceNe,reduceIte,reduceCtorEq,ne_eq,not_true_eq_false,not_false_eq_true,imp_self,implies_true,bls,eq_self,hzl,gD,gE,hX]
        exact hK _ _ _ hl (hz0.end1 e0 (Nat.le_refl _) gC2)
    · have h3 : (sb s).take 1 ≠ [43] := h2
      simp (disch:=first|assumption|omega|(simp only [lens];omega)) only [eqs,↓gvd_succ,↓gvd_zero,↓and_of,im_of,im_of trivial,vlt,hP,hst,initS,Nat.reduceBEq,Nat.reduceAdd,Nat.reduceMul,Nat.reduceSub,Nat.reduceDiv,Nat.reduceMod,Nat.reducePow,Nat.reduceLT,Nat.reduceLeDiff,Nat.reduceEqDiff,Int.reduceAdd,Int.reduceSub,Int.reduceNeg,Int.reduceMul,Int.reduceToNat,Int.reducePow,Int.reduceLE,Int.reduceLT,Int.reduceEq,Int.reduceNe,reduceIte,reduceCtorEq,ne_eq,not_true_eq_false,not_false_eq_true,imp_self,implies_true,bls,eq_self]
      refine E_call (hP ▸ s_Parse) ⟨_, 10, rfl, gotP_pres fun x T hT hx => ?_⟩
      have hl := show parseI (sb s) = (parse 10 (sb s)).map (fun n : Nat => (n : Int)) by unfold parseI; rw [if_neg h1, if_neg h3]
      have hC : At T st.length [.val (.bool false), .val (.slice none 0 0)] := At.ext ⟨by rw [get_app0]; rfl⟩ hT
      have gC := hC.get
      have gC2 := hC.lt
      have e0 : Ext st T := (Ext.add _).trans hT
      rcases hp : parse 10 (sb s) with _ | n
      · rw [hp] at hx hl
        simp only [Option.isSome_none]
        simp (disch:=first|assumption|omega|(simp only [lens];omega)) only [eqs,↓gvd_succ,↓gvd_zero,↓and_of,im_of,im_of trivial,vlt,hP,hst,initS,Nat.reduceBEq,Nat.reduceAdd,Nat.reduceMul,Nat.reduceSub,Nat.reduceDiv,Nat.reduceMod,Nat.reducePow,Nat.reduceLT,Nat.reduceLeDiff,Nat.reduceEqDiff,Int.reduceAdd,Int.reduceSub,Int.reduceNeg,Int.reduceMul,Int.reduceToNat,Int.reducePow,Int.reduceLE,Int.reduceLT,Int.reduceEq,Int.reduceNe,reduceIte,reduceCtorEq,ne_eq,not_true_eq_false,not_false_eq_true,imp_self,implies_true,bls,eq_self,gC,hX]
        exact hK0 hl _ (e0.set (Nat.le_refl _) _)
      · rw [hp] at hx hl
        simp only [Option.isSome_some, Option.getD_some] at hx ⊢
        have hln := parse_len hp
        simp (disch:=first|assumption|omega|(simp only [lens];omega)) only [eqs,↓gvd_succ,↓gvd_zero,↓and_of,im_of,im_of trivial,vlt,hP,hst,initS,Nat.reduceBEq,Nat.reduceAdd,Nat.reduceMul,Nat.reduceSub,Nat.reduceDiv,Nat.reduceMod,Nat.reducePow,Nat.reduceLT,Nat.reduceLeDiff,Nat.reduceEqDiff,Int.reduceAdd,Int.reduceSub,Int.reduceNeg,Int.reduceMul,Int.reduceToNat,Int.reducePow,Int.reduceLE,Int.reduceLT,Int.reduceEq,Int.reduceNe,reduceIte,reduceCtorEq,ne_eq,not_true_eq_false,not_false_eq_true,imp_self,implies_true,bls,eq_self]
        refine E_call (hP ▸ s_of) ⟨false, x, _, rfl, hx, by omega, fun z T2 hz => ?_⟩
        rw [val_limbs] at hz
        have hz0 := hz
        obtain ⟨z', rfl, hz'⟩ := hz
        have hzl := hz'.nm.leaf
        have gD := (hC.ext hz'.ex).get
        have gE := (hC.ext hz'.ex).lt
        simp (disch:=first|assumption|omega|(simp only [lens];omega)) only [eqs,↓gvd_succ,↓gvd_zero,↓and_of,im_of,im_of trivial,vlt,hP,hst,initS,Nat.reduceBEq,Nat.reduceAdd,Nat.reduceMul,Nat.reduceSub,Nat.reduceDiv,Nat.reduceMod,Nat.reducePow,Nat.reduceLT,Nat.reduceLeDiff,Nat.reduceEqDiff,Int.reduceAdd,Int.reduceSub,Int.reduceNeg,Int.reduceMul,Int.reduceToNat,Int.reducePow,Int.reduceLE,Int.reduceLT,Int.reduceEq,Int.reduceNe,reduceIte,reduceCtorEq,ne_eq,not_true_eq_false,not_false_eq_true,imp_self,implies_true,bls,eq_self,hzl,gD,gE,hX]
        exact hK _ _ _ hl (hz0.end1 e0 (Nat.le_refl _) gC2)
end Go.Proofs.Pv

/- The document's whole numbers, sixth part: out of a text. -/
namespace Go.Proofs.Pv
open Go Go.RowKit Go.Proofs
set_option maxRecDepth 20000

set_option maxHeartbeats 4000000 in
theorem s_qParse : PSpec Tryd.prog 40 RwParse := by
  refine fspec_of (fn := Tryd.f40) 1 [.cell 2 24, .tmp 3] (by kernel_rfl) rfl rfl (by kernel_rfl) mixed (by rintro _ _ _ ⟨s, rfl, _⟩; rfl) ?_
  rintro X _ st K hP hst ⟨s, rfl, hs, hK, hK0⟩
  have hX : X.st1.length ≤ st.length := by rw [hst]; omega
  refine vc_V ?_
  rcases hsb : sb s with _ | ⟨c, r⟩
  · simp (disch:=first|assumption|omega|(simp only [lens];omega)) only [eqs,↓gvd_succ,↓gvd_zero,↓and_of,im_of,im_of trivial,vlt,hP,hst,initS,Nat.reduceBEq,Nat.reduceAdd,Nat.reduceMul,Nat.reduceSub,Nat.reduceDiv,Nat.reduceMod,Nat.reducePow,Nat.reduceLT,Nat.reduceLeDiff,Nat.reduceEqDiff,Int.reduceAdd,Int.reduceSub,Int.reduceNeg,Int.reduceMul,Int.reduceToNat,Int.reducePow,Int.reduceLE,Int.reduceLT,Int.reduceEq,Int.reduceNe,reduceIte,reduceCtorEq,ne_eq,not_true_eq_false,not_false_eq_true,imp_self,implies_true,bls,eq_self,sb_nil,hsb]
    refine E_call (hP ▸ s_rParse) ⟨_, 10, rfl, fun x T hT hx => ?_⟩
    have hl : parseI (sb s) = (parse 10 (sb s)).map (fun n : Nat => (n : Int)) := by rw [hsb]; rfl
    have hC : At T st.length [.val (.bool false), .val (.slice none 0 0)] := At.ext ⟨by rw [get_app0]; rfl⟩ hT
    have gC := hC.get
    have gC2 := hC.lt
    have e0 : Ext st T := (Ext.add _).trans hT
    have hxl := hx.leaf
    rcases hp : parse 10 (sb s) with _ | n
    · rw [hp] at hx hl
      simp only [Option.isSome_none]
      simp (disch:=first|assumption|omega|(simp only [lens];omega)) only [eqs,↓gvd_succ,↓gvd_zero,↓and_of,im_of,im_of trivial,vlt,hP,hst,initS,Nat.reduceBEq,Nat.reduceAdd,Nat.reduceMul,Nat.reduceSub,Nat.reduceDiv,Nat.reduceMod,Nat.reducePow,Nat.reduceLT,Nat.reduceLeDiff,Nat.reduceEqDiff,Int.reduceAdd,Int.reduceSub,Int.reduceNeg,Int.reduceMul,Int.reduceToNat,Int.reducePow,Int.reduceLE,Int.reduceLT,Int.reduceEq,Int.reduceNe,reduceIte,reduceCtorEq,ne_eq,not_true_eq_false,not_false_eq_true,imp_self,implies_true,bls,eq_self,gC,hX]
      exact hK0 hl _ (e0.set (Nat.le_refl _) _)
    · rw [hp] at hx hl
      simp only [Option.isSome_some, Option.getD_some] at hx ⊢
      have hln := parse_len hp
      simp (disch:=first|assumption|omega|(simp only [lens];omega)) only [eqs,↓gvd_succ,↓gvd_zero,↓and_of,im_of,im_of trivial,vlt,hP,hst,initS,Nat.reduceBEq,Nat.reduceAdd,Nat.reduceMul,Nat.reduceSub,Nat.reduceDiv,Nat.reduceMod,Nat.reducePow,Nat.reduceLT,Nat.reduceLeDiff,Nat.reduceEqDiff,Int.reduceAdd,Int.reduceSub,Int.reduceNeg,Int.reduceMul,Int.reduceToNat,Int.reducePow,Int.reduceLE,Int.reduceLT,Int.reduceEq,Int.reduceNe,reduceIte,reduceCtorEq,ne_eq,not_true_eq_false,not_false_eq_true,imp_self,implies_true,bls,eq_self,hxl]
      refine E_call (hP ▸ s_qNorm) ⟨_, false, _, rfl, ⟨x, rfl, hx⟩, by omega, fun z T2 hz => ?_⟩
      rw [val_limbs] at hz
      have hz0 := hz
      obtain ⟨z', rfl, hz'⟩ := hz
      have hzl := hz'.nm.leaf
      have gD := (hC.ext hz'.ex).get
      have gE := (hC.ext hz'.ex).lt
      simp (disch:=first|assumption|omega|(simp only [lens];omega)) only [eqs,↓gvd_succ,↓gvd_zero,↓and_of,im_of,im_of trivial,vlt,hP,hst,initS,Nat.reduceBEq,Nat.reduceAdd,Nat.reduceMul,Nat.reduceSub,Nat.reduceDiv,Nat.reduceMod,Nat.reducePow,Nat.reduceLT,Nat.reduceLeDiff,Nat.reduceEqDiff,Int.reduceAdd,Int.reduceSub,Int.reduceNeg,Int.reduceMul,Int.reduceToNat,Int.reducePow,Int.reduceLE,Int.reduceLT,Int.reduceEq,Int.reduceNe,reduceIte,reduceCtorEq,ne_eq,not_true_eq_false,not_false_eq_true,imp_self,implies_true,bls,eq_self,hzl,gD,gE,hX]
      exact hK _ _ _ hl (hz0.end1 e0 (Nat.le_refl _) gC2)
  · have hne : ¬sb s = [] := by rw [hsb]; simp
    have hg : (sb s).getD 0 0 = c := by rw [hsb]; rfl
    have hlen : 0 < (sb s).length := by rw [hsb]; simp
    have hd : sb (bstr r) = r := sb_bstr fun n hn => sb_lt' s n (by rw [hsb]; exact List.mem_cons_of_mem _ hn)
    have h3 : (1 : Int) ≤ (s.size : Int) := by rw [size_sb]; omega
    have e1 : s.extract 1 s.size = bstr r := sb_inj (by rw [sb_extract, hd, size_sb, List.take_length, hsb]; rfl)
    by_cases h45 : c = 45
    · subst h45
      simp (disch:=first|assumption|omega|(simp only [lens];omega)) only [eqs,↓gvd_succ,↓gvd_zero,↓and_of,im_of,im_of trivial,vlt,hP,hst,initS,Nat.reduceBEq,Nat.reduceAdd,Nat.reduceMul,Nat.reduceSub,Nat.reduceDiv,Nat.reduceMod,Nat.reducePow,Nat.reduceLT,Nat.reduceLeDiff,Nat.reduceEqDiff,Int.reduceAdd,Int.reduceSub,Int.reduceNeg,Int.reduceMul,Int.reduceToNat,Int.reducePow,Int.reduceLE,Int.reduceLT,Int.reduceEq,Int.reduceNe,reduceIte,reduceCtorEq,ne_eq,not_true_eq_false,not_false_eq_true,imp_self,implies_true,bls,eq_self,sb_nil,hne,hg,hlen,h3,e1]
      refine E_call (hP ▸ s_rParse) ⟨_, 10, rfl, fun x T hT hx => ?_⟩
      rw [hd] at hx ⊢
      have hl : parseI (sb s) = (parse 10 r).map (fun n : Nat => -(n : Int)) := by rw [hsb]; unfold parseI; rw [if_pos (by rfl)]; rfl
      have hC : At T st.length [.val (.bool false), .val (.slice none 0 0)] := At.ext ⟨by rw [get_app0]; rfl⟩ hT
      have gC := hC.get
      have gC2 := hC.lt
      have e0 : Ext st T := (Ext.add _).trans hT
      have hxl := hx.leaf
      rcases hp : parse 10 r with _ | n
      · rw [hp] at hx hl
        simp only [Option.isSome_none]
        simp (disch:=first|assumption|omega|(simp only [lens];omega)) only [eqs,↓gvd_succ,↓gvd_zero,↓and_of,im_of,im_of trivial,vlt,hP,hst,initS,Nat.reduceBEq,Nat.reduceAdd,Nat.reduceMul,Nat.reduceSub,Nat.reduceDiv,Nat.reduceMod,Nat.reducePow,Nat.reduceLT,Nat.reduceLeDiff,Nat.reduceEqDiff,Int.reduceAdd,Int.reduceSub,Int.reduceNeg,Int.reduceMul,Int.reduceToNat,Int.reducePow,Int.reduceLE,Int.reduceLT,Int.reduceEq,Int.reduceNe,reduceIte,reduceCtorEq,ne_eq,not_true_eq_false,not_false_eq_true,imp_self,implies_true,bls,eq_self,gC,hX]
        exact hK0 hl _ (e0.set (Nat.le_refl _) _)
      · rw [hp] at hx hl
        simp only [Option.isSome_some, Option.getD_some] at hx ⊢
        have hln := parse_len hp
        simp (disch:=first|assumption|omega|(simp only [lens];omega)) only [eqs,↓gvd_succ,↓gvd_zero,↓and_of,im_of,im_of trivial,vlt,hP,hst,initS,Nat.reduceBEq,Nat.reduceAdd,Nat.reduceMul,Nat.reduceSub,Nat.reduceDiv,Nat.reduceMod,Nat.reducePow,Nat.reduceLT,Nat.reduceLeDiff,Nat.reduceEqDiff,Int.reduceAdd,Int.reduceSub,Int.reduceNeg,Int.reduceMul,Int.reduceToNat,Int.reducePow,Int.reduceLE,Int.reduceLT,Int.reduceEq,Int.reduceNe,reduceIte,reduceCtorEq,ne_eq,not_true_eq_false,not_false_eq_true,imp_self,implies_true,bls,eq_self,hxl]
        refine E_call (hP ▸ s_qNorm) ⟨_, true, _, rfl, ⟨x, rfl, hx⟩, by omega, fun z T2 hz => ?_⟩
        rw [val_limbs] at hz
        have hz0 := hz
        obtain ⟨z', rfl, hz'⟩ := hz
        have hzl := hz'.nm.leaf
        have gD := (hC.ext hz'.ex).get
        have gE := (hC.ext hz'.ex).lt
        simp (disch:=first|assumption|omega|(simp only [lens];omega)) only [eqs,↓gvd_succ,↓gvd_zero,↓and_of,im_of,im_of trivial,vlt,hP,hst,initS,Nat.reduceBEq,Nat.reduceAdd,Nat.reduceMul,Nat.reduceSub,Nat.reduceDiv,Nat.reduceMod,Nat.reducePow,Nat.reduceLT,Nat.reduceLeDiff,Nat.reduceEqDiff,Int.reduceAdd,Int.reduceSub,Int.reduceNeg,Int.reduceMul,Int.reduceToNat,Int.reducePow,Int.reduceLE,Int.reduceLT,Int.reduceEq,Int.reduceNe,reduceIte,reduceCtorEq,ne_eq,not_true_eq_false,not_false_eq_true,imp_self,implies_true,bls,eq_self,hzl,gD,gE,hX]
        exact hK _ _ _ hl (hz0.end1 e0 (Nat.le_refl _) gC2)
    · have n45 : ¬(c : Int) = 45 := by omega
      by_cases h43 : c = 43
      · subst h43
        simp (disch:=first|assumption|omega|(simp only [lens];omega)) only [eqs,↓gvd_succ,↓gvd_zero,↓and_of,im_of,im_of trivial,vlt,hP,hst,initS,Nat.reduceBEq,Nat.reduceAdd,Nat.reduceMul,Nat.reduceSub,Nat.reduceDiv,Nat.reduceMod,Nat.reducePow,Nat.reduceLT,Nat.reduceLeDiff,Nat.reduceEqDiff,Int.reduceAdd,Int.reduceSub,Int.reduceNeg,Int.reduceMul,Int.reduceToNat,Int.reducePow,Int.reduceLE,Int.reduceLT,Int.reduceEq,Int.reduceNe,reduceIte,reduceCtorEq,ne_eq,not_true_eq_false,not_false_eq_true,imp_self,implies_true,bls,eq_self,sb_nil,hne,hg,hlen,h3,e1]
        refine E_call (hP ▸ s_rParse) ⟨_, 10, rfl, fun x T hT hx => ?_⟩
        rw [hd] at hx ⊢
        have hl : parseI (sb s) = (parse 10 r).map (fun n : Nat => (n : Int)) := by rw [hsb]; unfold parseI; rw [if_neg (by simp), if_pos (by rfl)]; rfl
        have hC : At T st.length [.val (.bool false), .val (.slice none 0 0)] := At.ext ⟨by rw [get_app0]; rfl⟩ hT
        have gC := hC.get
        have gC2 := hC.lt
        have e0 : Ext st T := (Ext.add _).trans hT
        have hxl := hx.leaf
        rcases hp : parse 10 r with _ | n
        · rw [hp] at hx hl
          simp only [Option.isSome_none]
          simp (disch:=first|assumption|omega|(simp only [lens];omega)) only [eqs,↓gvd_succ,↓gvd_zero,↓and_of,im_of,im_of trivial,vlt,hP,hst,initS,Nat.reduceBEq,Nat.reduceAdd,Nat.reduceMul,Nat.reduceSub,Nat.reduceDiv,Nat.reduceMod,Nat.reducePow,Nat.reduceLT,Nat.reduceLeDiff,Nat.reduceEqDiff,Int.reduceAdd,Int.reduceSub,Int.reduceNeg,Int.reduceMul,Int.reduceToNat,Int.reducePow,Int.reduceLE,Int.reduceLT,Int.reduceEq,Int.reduceNe,reduceIte,reduceCtorEq,ne_eq,not_true_eq_false,not_false_eq_true,imp_self,implies_true,bls,eq_self,gC,hX]
          exact hK0 hl _ (e0.set (Nat.le_refl _) _)
        · rw [hp] at hx hl
          simp only [Option.isSome_some, Option.getD_some] at hx ⊢
          have hln := parse_len hp
          simp (disch:=first|assumption|omega|(simp only [lens];omega)) only [eqs,↓gvd_succ,↓gvd_zero,↓and_of,im_of,im_of trivial,vlt,hP,hst,initS,Nat.reduceBEq,Nat.reduceAdd,Nat.reduceMul,Nat.reduceSub,Nat.reduceDiv,Nat.reduceMod,Nat.reducePow,Nat.reduceLT,Nat.reduceLeDiff,Nat.reduceEqDiff,Int.reduceAdd,Int.reduceSub,Int.reduceNeg,Int.reduceMul,Int.reduceToNat,Int.reducePow,Int.reduceLE,Int.reduceLT,Int.reduceEq,Int.reduceNe,reduceIte,reduceCtorEq,ne_eq,not_true_eq_false,not_false_eq_true,imp_self,implies_true,bls,eq_self,hxl]
          refine E_call (hP ▸ s_qNorm) ⟨_, false, _, rfl, ⟨x, rfl, hx⟩, by omega, fun z T2 hz => ?_⟩
          rw [val_limbs] at hz
          have hz0 := hz
          obtain ⟨z', rfl, hz'⟩ := hz
          have hzl := hz'.nm.leaf
          have gD := (hC.ext hz'.ex).get
          have gE := (hC.ext hz'.ex).lt
          simp (disch:=first|assumption|omega|(simp only [lens];omega)) only [eqs,↓gvd_succ,↓gvd_zero,↓and_of,im_of,im_of trivial,vlt,hP,hst,initS,Nat.reduceBEq,Nat.reduceAdd,Nat.reduceMul,Nat.reduceSub,Nat.reduceDiv,Nat.reduceMod,Nat.reducePow,Nat.reduceLT,Nat.reduceLeDiff,Nat.reduceEqDiff,Int.reduceAdd,Int.reduceSub,Int.reduceNeg,Int.reduceMul,Int.reduceToNat,Int.reducePow,Int.reduceLE,Int.reduceLT,Int.reduceEq,Int.reduceNe,reduceIte,reduceCtorEq,ne_eq,not_true_eq_false,not_false_eq_true,imp_self,implies_true,bls,eq_self,hzl,gD,gE,hX]
          exact hK _ _ _ hl (hz0.end1 e0 (Nat.le_refl _) gC2)
      · have n43 : ¬(c : Int) = 43 := by omega
        simp (disch:=first|assumption|omega|(simp only [lens];omega)) only [eqs,↓gvd_succ,↓gvd_zero,↓and_of,im_of,im_of trivial,vlt,hP,hst,initS,Nat.reduceBEq,Nat.reduceAdd,Nat.reduceMul,Nat.reduceSub,Nat.reduceDiv,Nat.reduceMod,Nat.reducePow,Nat.reduceLT,Nat.reduceLeDiff,Nat.reduceEqDiff,Int.reduceAdd,Int.reduceSub,Int.reduceNeg,Int.reduceMul,Int.reduceToNat,Int.reducePow,Int.reduceLE,Int.reduceLT,Int.reduceEq,Int.reduceNe,reduceIte,reduceCtorEq,ne_eq,not_true_eq_false,not_false_eq_true,imp_self,implies_true,bls,eq_self,sb_nil,hne,hg,hlen,n45,n43]
        refine E_call (hP ▸ s_rParse) ⟨_, 10, rfl, fun x T hT hx => ?_⟩
        have hl : parseI (sb s) = (parse 10 (sb s)).map (fun n : Nat => (n : Int)) := by rw [hsb]; unfold parseI; rw [if_neg (by simpa using h45), if_neg (by simpa using h43)]
        have hC : At T st.length [.val (.bool false), .val (.slice none 0 0)] := At.ext ⟨by rw [get_app0]; rfl⟩ hT
        have gC := hC.get
        have gC2 := hC.lt
        have e0 : Ext st T := (Ext.add _).trans hT
        have hxl := hx.leaf
        rcases hp : parse 10 (sb s) with _ | n
        · rw [hp] at hx hl
          simp only [Option.isSome_none]
          simp (disch:=first|assumption|omega|(simp only [lens];omega)) only [eqs,↓gvd_succ,↓gvd_zero,↓and_of,im_of,im_of trivial,vlt,hP,hst,initS,Nat.reduceBEq,Nat.reduceAdd,Nat.reduceMul,Nat.reduceSub,Nat.reduceDiv,Nat.reduceMod,Nat.reducePow,Nat.reduceLT,Nat.reduceLeDiff,Nat.reduceEqDiff,Int.reduceAdd,Int.reduceSub,Int.reduceNeg,Int.reduceMul,Int.reduceToNat,Int.reducePow,Int.reduceLE,Int.reduceLT,Int.reduceEq,Int.reduceNe,reduceIte,reduceCtorEq,ne_eq,not_true_eq_false,not_false_eq_true,imp_self,implies_true,bls,eq_self,gC,hX]
          exact hK0 hl _ (e0.set (Nat.le_refl _) _)
        · rw [hp] at hx hl
          simp only [Option.isSome_some, Option.getD_some] at hx ⊢
          have hln := parse_len hp
          simp (disch:=first|assumption|omega|(simp only [lens];omega)) only [eqs,↓gvd_succ,↓gvd_zero,↓and_of,im_of,im_of trivial,vlt,hP,hst,initS,Nat.reduceBEq,Nat.reduceAdd,Nat.reduceMul,Nat.reduceSub,Nat.reduceDiv,Nat.reduceMod,Nat.reducePow,Nat.reduceLT,Nat.reduceLeDiff,Nat.reduceEqDiff,Int.reduceAdd,Int.reduceSub,Int.reduceNeg,Int.reduceMul,Int.reduceToNat,Int.reducePow,Int.reduceLE,Int.reduceLT,Int.reduceEq,Int.reduceNe,reduceIte,reduceCtorEq,ne_eq,not_true_eq_false,not_false_eq_true,imp_self,implies_true,bls,eq_self,hxl]
          refine E_call (hP ▸ s_qNorm) ⟨_, false, _, rfl, ⟨x, rfl, hx⟩, by omega, fun z T2 hz => ?_⟩
          rw [val_limbs] at hz
          have hz0 := hz
          obtain ⟨z', rfl, hz'⟩ := hz
          have hzl := hz'.nm.leaf
          have gD := (hC.ext hz'.ex).get
          have gE := (hC.ext hz'.ex).lt
          simp (disch:=first|assumption|omega|(simp only [lens];omega)) only [eqs,↓gvd_succ,↓gvd_zero,↓and_of,im_of,im_of trivial,vlt,hP,hst,initS,Nat.reduceBEq,Nat.reduceAdd,Nat.reduceMul,Nat.reduceSub,Nat.reduceDiv,Nat.reduceMod,Nat.reducePow,Nat.reduceLT,Nat.reduceLeDiff,Nat.reduceEqDiff,Int.reduceAdd,Int.reduceSub,Int.reduceNeg,Int.reduceMul,Int.reduceToNat,Int.reducePow,Int.reduceLE,Int.reduceLT,Int.reduceEq,Int.reduceNe,reduceIte,reduceCtorEq,ne_eq,not_true_eq_false,not_false_eq_true,imp_self,implies_true,bls,eq_self,hzl,gD,gE,hX]
          exact hK _ _ _ hl (hz0.end1 e0 (Nat.le_refl _) gC2)
end Go.Proofs.Pv
