/- The document's answer for whole numbers: its walks, first part. -/
import Derived.Test.YtmclabehpfpnnaaDoorW14
import Derived.Test.YtmclabehpfpnnaaDoorR8
set_option linter.unusedSimpArgs false
set_option linter.unusedVariables false
namespace Go.Proofs.Pv
open Go Go.RowKit Go.Proofs
set_option maxRecDepth 20000

theorem s_qNorm : PSpec Tryd.prog 60 RwNorm := by
  refine fspec_of (fn := Tryd.f60) 1 [.cell 2 24] (by kernel_rfl) rfl rfl (by kernel_rfl) mixed (by rintro _ _ _ ⟨x, neg, l, rfl, _⟩; rfl) ?_
  rintro X _ st K hP hst ⟨x, neg, l, rfl, hx, hl, hK⟩
  obtain ⟨a, rfl, ha, hle⟩ := hx.iv
  refine vc_V ?_
  simp (disch:=first|assumption|omega|(simp only [lens];omega)) only [eqs,↓gvd_succ,↓gvd_zero,↓and_of,im_of,im_of trivial,vlt,hP,hst,initS,Nat.reduceBEq,Nat.reduceAdd,Nat.reduceMul,Nat.reduceSub,Nat.reduceDiv,Nat.reduceMod,Nat.reducePow,Nat.reduceLT,Nat.reduceLeDiff,Nat.reduceEqDiff,Int.reduceAdd,Int.reduceSub,Int.reduceNeg,Int.reduceMul,Int.reduceToNat,Int.reducePow,Int.reduceLE,Int.reduceLT,Int.reduceEq,Int.reduceNe,reduceIte,reduceCtorEq,ne_eq,not_true_eq_false,not_false_eq_true,imp_self,implies_true,bls,eq_self,hle]
  refine E_call (hP ▸ s_rNorm) ⟨a, l, rfl, ha.app _, by omega, fresh_got fun z T hz => ?_⟩
  have hlen := limbs_len ha.lt
  have h1 := hz.nm.sl
  have h2 := hz.nm.leaf
  obtain ⟨g, rfl⟩ := hz.ex
  simp only [List.append_assoc, List.cons_append, List.nil_append] at h1
  have hpl := limbs_pos_len (v := val l)
  cases neg
  · simp (disch:=first|assumption|omega|(simp only [lens];omega)) only [eqs,↓gvd_succ,↓gvd_zero,↓and_of,im_of,im_of trivial,vlt,hP,hst,initS,Nat.reduceBEq,Nat.reduceAdd,Nat.reduceMul,Nat.reduceSub,Nat.reduceDiv,Nat.reduceMod,Nat.reducePow,Nat.reduceLT,Nat.reduceLeDiff,Nat.reduceEqDiff,Int.reduceAdd,Int.reduceSub,Int.reduceNeg,Int.reduceMul,Int.reduceToNat,Int.reducePow,Int.reduceLE,Int.reduceLT,Int.reduceEq,Int.reduceNe,reduceIte,reduceCtorEq,ne_eq,not_true_eq_false,not_false_eq_true,imp_self,implies_true,bls,eq_self,h2]
    exact hK _ _ (GotI.mk (hz.fin (pre' := [_, _]) (by simp)) rfl (by simp))
  · simp (disch:=first|assumption|omega|(simp only [lens];omega)) only [eqs,↓gvd_succ,↓gvd_zero,↓and_of,im_of,im_of trivial,vlt,hP,hst,initS,Nat.reduceBEq,Nat.reduceAdd,Nat.reduceMul,Nat.reduceSub,Nat.reduceDiv,Nat.reduceMod,Nat.reducePow,Nat.reduceLT,Nat.reduceLeDiff,Nat.reduceEqDiff,Int.reduceAdd,Int.reduceSub,Int.reduceNeg,Int.reduceMul,Int.reduceToNat,Int.reducePow,Int.reduceLE,Int.reduceLT,Int.reduceEq,Int.reduceNe,reduceIte,reduceCtorEq,ne_eq,not_true_eq_false,not_false_eq_true,imp_self,implies_true,bls,eq_self,h1,h2]
    exact hK _ _ (GotI.mk (b := decide ((0 : Int) < ((limbs (val l)).length : Int))) (hz.fin (pre' := [_, _]) (by simp)) (by
      by_cases h0 : 0 < val l
      · rw [decide_eq_true (by omega)]
      · rw [decide_eq_false (by omega), show val l = 0 by omega, iv_zero, iv_zero]) (fun h => by have := of_decide_eq_true h; omega))

def RwSame (xs : List AV) (st : St) (K : AV → St → Prop) : Prop := ∃ x y s t l m, xs = [x, y] ∧ Wh st x s l ∧ Wh st y t m ∧ l.length ≤ 35184372088832 ∧ m.length ≤ 35184372088832 ∧ anyw st (.bool (decide (s = t ∧ l = m))) K
/-- Two normed ones, each in a variable made at any time. -/
structure Two (st S : St) (r q : Nat) (Z W : Int) (a b : AV) : Prop where
  ex : Ext st S
  na : Nm S a (limbs Z.natAbs)
  nb : Nm S b (limbs W.natAbs)
  ra : S[r]? = some (some [.val (.bool (decide (Z < 0))), a])
  rb : S[q]? = some (some [.val (.bool (decide (W < 0))), b])

end Go.Proofs.Pv

/- The document's answer for whole numbers: its walks, second part. -/
namespace Go.Proofs.Pv
open Go Go.RowKit Go.Proofs
set_option maxRecDepth 20000

end Go.Proofs.Pv
