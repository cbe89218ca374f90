/- The whole functions' walks, fourth part: texts. -/
import Derived.Test.YtmclabehpfpnnaaGreatDoorW11
import Derived.Test.YtmclabehpfpnnaaGreatDoorS1
import Derived.Test.YtmclabehpfpnnaaGreatDoorR7
set_option linter.unusedSimpArgs false
set_option linter.unusedVariables false
namespace Go.Proofs.Pv
open Go Go.RowKit Go.Proofs
set_option maxRecDepth 20000

/-- A whole number's text. -/
def txtI (z : Int) : List Nat := if z < 0 then 45 :: txt 10 z.natAbs else txt 10 z.natAbs
def RwText (xs : List AV) (st : St) (K : AV → St → Prop) : Prop := ∃ x s l, xs = [x] ∧ Wh st x s l ∧ l.length ≤ 1000 ∧ anyw st (.string (bstr (txtI (iv s (val l))))) K
theorem s_wText : PSpec Tryz.prog 27 RwText := by
  refine fspec_of (fn := Tryz.f27) 1 [.tmp 2] (by kernel_rfl) rfl rfl (by kernel_rfl) mixed (by rintro _ _ _ ⟨x, s, l, rfl, _⟩; rfl) ?_
  rintro X _ st K hP hst ⟨x, s, l, rfl, hx, hl, hK⟩
  have hx1 := hx
  obtain ⟨a, rfl, ha, hal⟩ := hx.iv
  refine vc_V ?_
  have hbl := blen_len ha.lt
  have htl := txt_len (b := 10) (n := val l) (by omega)
  simp (disch:=first|assumption|omega|(simp only [lens];omega)) only [eqs,↓gvd_succ,↓gvd_zero,↓and_of,im_of,im_of trivial,vlt,hP,hst,initS,Nat.reduceBEq,Nat.reduceAdd,Nat.reduceMul,Nat.reduceSub,Nat.reduceDiv,Nat.reduceMod,Nat.reducePow,Nat.reduceLT,Nat.reduceLeDiff,Nat.reduceEqDiff,Int.reduceAdd,Int.reduceSub,Int.reduceNeg,Int.reduceMul,Int.reduceToNat,Int.reducePow,Int.reduceLE,Int.reduceLT,Int.reduceEq,Int.reduceNe,reduceIte,reduceCtorEq,ne_eq,not_true_eq_false,not_false_eq_true,imp_self,implies_true,bls,eq_self,hal]
  refine E_call (hP ▸ s_Text) ⟨a, l, 10, rfl, ha.app _, by omega, ?_⟩
  rw [if_neg (by omega), show Int.toNat 10 = 10 from rfl]
  simp (disch:=first|assumption|omega|(simp only [lens];omega)) only [eqs,↓gvd_succ,↓gvd_zero,↓and_of,im_of,im_of trivial,vlt,hP,hst,initS,Nat.reduceBEq,Nat.reduceAdd,Nat.reduceMul,Nat.reduceSub,Nat.reduceDiv,Nat.reduceMod,Nat.reducePow,Nat.reduceLT,Nat.reduceLeDiff,Nat.reduceEqDiff,Int.reduceAdd,Int.reduceSub,Int.reduceNeg,Int.reduceMul,Int.reduceToNat,Int.reducePow,Int.reduceLE,Int.reduceLT,Int.reduceEq,Int.reduceNe,reduceIte,reduceCtorEq,ne_eq,not_true_eq_false,not_false_eq_true,imp_self,implies_true,bls,eq_self]
  refine E_call (hP ▸ s_wNorm) ⟨_, s, l, rfl, hx1.ext (.add _), by omega, fun z T hz => ?_⟩
  have hT := (Ext.add _).trans hz.ex
  obtain ⟨c, rfl, hc⟩ := hz
  unfold txtI at hK
  rw [iv_natAbs] at hK
  generalize hzz : iv s (val l) = Z at *
  generalize txt 10 (val l) = t at *
  simp (disch:=first|assumption|omega|(simp only [lens];omega)) only [eqs,↓gvd_succ,↓gvd_zero,↓and_of,im_of,im_of trivial,vlt,hP,hst,initS,Nat.reduceBEq,Nat.reduceAdd,Nat.reduceMul,Nat.reduceSub,Nat.reduceDiv,Nat.reduceMod,Nat.reducePow,Nat.reduceLT,Nat.reduceLeDiff,Nat.reduceEqDiff,Int.reduceAdd,Int.reduceSub,Int.reduceNeg,Int.reduceMul,Int.reduceToNat,Int.reducePow,Int.reduceLE,Int.reduceLT,Int.reduceEq,Int.reduceNe,reduceIte,reduceCtorEq,ne_eq,not_true_eq_false,not_false_eq_true,imp_self,implies_true,bls,eq_self]
  refine C_dec (fun h => ?_) (fun h => ?_)
  · rw [if_pos h] at hK
    have e1 : ((⟨#[45]⟩ : ByteArray) ++ bstr t) = bstr (45 :: t) := by rw [show (⟨#[45]⟩ : ByteArray) = bstr [45] from rfl, bstr_append]; rfl
    have e2 : (⟨#[45]⟩ : ByteArray).size + (bstr t).size ≤ 9223372036854775807 := by rw [bstr_size, show (⟨#[45]⟩ : ByteArray).size = 1 from rfl]; omega
    simp (disch:=first|assumption|omega|(simp only [lens];omega)) only [eqs,↓gvd_succ,↓gvd_zero,↓and_of,im_of,im_of trivial,vlt,hP,hst,initS,Nat.reduceBEq,Nat.reduceAdd,Nat.reduceMul,Nat.reduceSub,Nat.reduceDiv,Nat.reduceMod,Nat.reducePow,Nat.reduceLT,Nat.reduceLeDiff,Nat.reduceEqDiff,Int.reduceAdd,Int.reduceSub,Int.reduceNeg,Int.reduceMul,Int.reduceToNat,Int.reducePow,Int.reduceLE,Int.reduceLT,Int.reduceEq,Int.reduceNe,reduceIte,reduceCtorEq,ne_eq,not_true_eq_false,not_false_eq_true,imp_self,implies_true,bls,eq_self,e1,e2]
    exact hK _ hT
  · rw [if_neg h] at hK
    simp (disch:=first|assumption|omega|(simp only [lens];omega)) only [eqs,↓gvd_succ,↓gvd_zero,↓and_of,im_of,im_of trivial,vlt,hP,hst,initS,Nat.reduceBEq,Nat.reduceAdd,Nat.reduceMul,Nat.reduceSub,Nat.reduceDiv,Nat.reduceMod,Nat.reducePow,Nat.reduceLT,Nat.reduceLeDiff,Nat.reduceEqDiff,Int.reduceAdd,Int.reduceSub,Int.reduceNeg,Int.reduceMul,Int.reduceToNat,Int.reducePow,Int.reduceLE,Int.reduceLT,Int.reduceEq,Int.reduceNe,reduceIte,reduceCtorEq,ne_eq,not_true_eq_false,not_false_eq_true,imp_self,implies_true,bls,eq_self]
    exact hK _ hT
end Go.Proofs.Pv
