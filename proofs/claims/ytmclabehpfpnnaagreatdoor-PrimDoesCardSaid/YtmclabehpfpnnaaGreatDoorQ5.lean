/- The document's whole numbers, fifth part: as a small number; as a text. -/
import Derived.Test.YtmclabehpfpnnaaGreatDoorQ2
import Derived.Test.YtmclabehpfpnnaaGreatDoorW16
import Derived.Test.YtmclabehpfpnnaaGreatDoorW14
import Derived.Test.YtmclabehpfpnnaaGreatDoorR6
import Derived.Test.YtmclabehpfpnnaaGreatDoorR10
set_option linter.unusedSimpArgs false
set_option linter.unusedVariables false
namespace Go.Proofs.Pv
open Go Go.RowKit Go.Proofs
set_option maxRecDepth 20000

theorem s_qText : PSpec Tryz.prog 34 RwText := by
  refine fspec_of (fn := Tryz.f34) 1 [.tmp 2] (by kernel_rfl) rfl rfl (by kernel_rfl) mixed (by rintro _ _ _ ⟨x, s, l, rfl, _⟩; rfl) ?_
  rintro X _ st K hP hst ⟨x, s, l, rfl, hx, hl, hK⟩
  have hx1 := hx
  obtain ⟨a, rfl, ha, hal⟩ := hx.iv
  refine vc_V ?_
  have b1 := limbs_len ha.lt
  have hbl := blen_len ha.lt
  have htl := txt_len (b := 10) (n := val l) (by omega)
  simp (disch:=first|assumption|omega|(simp only [lens];omega)) only [eqs,↓gvd_succ,↓gvd_zero,↓and_of,im_of,im_of trivial,vlt,hP,hst,initS,Nat.reduceBEq,Nat.reduceAdd,Nat.reduceMul,Nat.reduceSub,Nat.reduceDiv,Nat.reduceMod,Nat.reducePow,Nat.reduceLT,Nat.reduceLeDiff,Nat.reduceEqDiff,Int.reduceAdd,Int.reduceSub,Int.reduceNeg,Int.reduceMul,Int.reduceToNat,Int.reducePow,Int.reduceLE,Int.reduceLT,Int.reduceEq,Int.reduceNe,reduceIte,reduceCtorEq,ne_eq,not_true_eq_false,not_false_eq_true,imp_self,implies_true,bls,eq_self,hal]
  refine E_call (hP ▸ s_qNorm) ⟨_, s, l, rfl, hx1.ext (.add _), by omega, fun z T hz => ?_⟩
  have e0 : Ext st T := (Ext.add _).trans hz.ex
  unfold txtI at hK
  rw [iv_natAbs] at hK
  have c1 : (limbs (iv s (val l)).natAbs).length ≤ 1000 := by rw [iv_natAbs]; omega
  have c2 : (iv s (val l)).natAbs = val l := iv_natAbs
  obtain ⟨Z, hZ⟩ : ∃ Z, iv s (val l) = Z := ⟨_, rfl⟩
  rw [hZ] at hz hK c1 c2
  obtain ⟨a', rfl, ha'⟩ := hz
  have hal' := ha'.nm.leaf
  have hX0 := e0.len
  simp (disch:=first|assumption|omega|(simp only [lens];omega)) only [eqs,↓gvd_succ,↓gvd_zero,↓and_of,im_of,im_of trivial,vlt,hP,hst,initS,Nat.reduceBEq,Nat.reduceAdd,Nat.reduceMul,Nat.reduceSub,Nat.reduceDiv,Nat.reduceMod,Nat.reducePow,Nat.reduceLT,Nat.reduceLeDiff,Nat.reduceEqDiff,Int.reduceAdd,Int.reduceSub,Int.reduceNeg,Int.reduceMul,Int.reduceToNat,Int.reducePow,Int.reduceLE,Int.reduceLT,Int.reduceEq,Int.reduceNe,reduceIte,reduceCtorEq,ne_eq,not_true_eq_false,not_false_eq_true,imp_self,implies_true,bls,eq_self,hal',hX0]
  obtain ⟨S, hS⟩ : ∃ S, T ++ [some [.val (.bool (decide (Z < 0))), a']] = S := ⟨_, rfl⟩
  have hTS : Ext T S := ⟨_, hS.symm⟩
  have hSA : At S T.length [.val (.bool (decide (Z < 0))), a'] := ⟨hS ▸ by rw [get_app0]; rfl⟩
  rw [hS]
  clear hS
  have g1 := hSA.get
  refine E_call (hP ▸ s_rText) ⟨a', _, 10, rfl, ha'.nm.ext hTS, by omega, fun T2 hT2 => ?_⟩
  rw [if_neg (by omega), show Int.toNat 10 = 10 from rfl, val_limbs, c2]
  generalize txt 10 (val l) = t at *
  have g2 := (hSA.ext hT2).get
  have hE : Ext st T2 := e0.trans (hTS.trans hT2)
  simp (disch:=first|assumption|omega|(simp only [lens];omega)) only [eqs,↓gvd_succ,↓gvd_zero,↓and_of,im_of,im_of trivial,vlt,hP,hst,initS,Nat.reduceBEq,Nat.reduceAdd,Nat.reduceMul,Nat.reduceSub,Nat.reduceDiv,Nat.reduceMod,Nat.reducePow,Nat.reduceLT,Nat.reduceLeDiff,Nat.reduceEqDiff,Int.reduceAdd,Int.reduceSub,Int.reduceNeg,Int.reduceMul,Int.reduceToNat,Int.reducePow,Int.reduceLE,Int.reduceLT,Int.reduceEq,Int.reduceNe,reduceIte,reduceCtorEq,ne_eq,not_true_eq_false,not_false_eq_true,imp_self,implies_true,bls,eq_self,g2]
  refine C_dec (fun h => ?_) (fun h => ?_)
  · rw [if_pos h] at hK
    have e1 : ((⟨#[45]⟩ : ByteArray) ++ bstr t) = bstr (45 :: t) := by rw [show (⟨#[45]⟩ : ByteArray) = bstr [45] from rfl, bstr_append]; rfl
    have e2 : (⟨#[45]⟩ : ByteArray).size + (bstr t).size ≤ 9223372036854775807 := by rw [bstr_size, show (⟨#[45]⟩ : ByteArray).size = 1 from rfl]; omega
    simp (disch:=first|assumption|omega|(simp only [lens];omega)) only [eqs,↓gvd_succ,↓gvd_zero,↓and_of,im_of,im_of trivial,vlt,hP,hst,initS,Nat.reduceBEq,Nat.reduceAdd,Nat.reduceMul,Nat.reduceSub,Nat.reduceDiv,Nat.reduceMod,Nat.reducePow,Nat.reduceLT,Nat.reduceLeDiff,Nat.reduceEqDiff,Int.reduceAdd,Int.reduceSub,Int.reduceNeg,Int.reduceMul,Int.reduceToNat,Int.reducePow,Int.reduceLE,Int.reduceLT,Int.reduceEq,Int.reduceNe,reduceIte,reduceCtorEq,ne_eq,not_true_eq_false,not_false_eq_true,imp_self,implies_true,bls,eq_self,e1,e2]
    exact hK _ hE
  · rw [if_neg h] at hK
    simp (disch:=first|assumption|omega|(simp only [lens];omega)) only [eqs,↓gvd_succ,↓gvd_zero,↓and_of,im_of,im_of trivial,vlt,hP,hst,initS,Nat.reduceBEq,Nat.reduceAdd,Nat.reduceMul,Nat.reduceSub,Nat.reduceDiv,Nat.reduceMod,Nat.reducePow,Nat.reduceLT,Nat.reduceLeDiff,Nat.reduceEqDiff,Int.reduceAdd,Int.reduceSub,Int.reduceNeg,Int.reduceMul,Int.reduceToNat,Int.reducePow,Int.reduceLE,Int.reduceLT,Int.reduceEq,Int.reduceNe,reduceIte,reduceCtorEq,ne_eq,not_true_eq_false,not_false_eq_true,imp_self,implies_true,bls,eq_self]
    exact hK _ hE
end Go.Proofs.Pv
