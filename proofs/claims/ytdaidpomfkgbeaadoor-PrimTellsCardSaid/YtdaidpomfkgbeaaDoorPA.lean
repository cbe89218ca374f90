/- PrimTells, walked. -/
import Derived.Test.YtdaidpomfkgbeaaDoorP9
set_option linter.unusedSimpArgs false
set_option linter.unusedVariables false
namespace Go.Proofs.Pv
open Go Go.RowKit Go.Proofs
set_option maxRecDepth 20000

theorem drop14 {c : List AV} (h : c.length = 7) {x1 x2 x3 x4 x5 x6 x7 : AV} : List.drop 14 (c ++ [x1, x2, x3, x4, x5, x6, x7]) = [] := List.drop_eq_nil_of_le (by rw [List.length_append, h]; exact Nat.le_refl _)
theorem light_few {d : Dt} (h : light1 d) : d.few := ⟨by have := h.1; omega, by have := h.2.1; omega⟩
def RTells (xs : List AV) (st : St) (K : AV → St → Prop) : Prop := ∃ x y d e, xs = [x, y] ∧ DA st x d ∧ DA st y e ∧ d.fit ∧ e.fit ∧ anyw st (.bool true) K
set_option maxHeartbeats 2000000 in
theorem s_PrimTells : ∀ w0, GP w0 → PSpecAt Tryd.prog w0 10 RTells := by
  refine gspec_of (fn := Tryd.f10) 2 [.tmp 4] (by kernel_rfl) rfl rfl (by kernel_rfl) mixed (by rintro _ _ _ ⟨x, y, d, e, rfl, _⟩; rfl) ?_
  rintro X _ st K hP hst hG ⟨x, y, d, e, rfl, hx, hy, hf, hg, hK⟩
  obtain ⟨c, rfl, hc, hc7, hca, t7⟩ := hx.all
  obtain ⟨c', rfl, hc', hc7', hca', t7'⟩ := hy.all
  refine vc_V ?_
  simp (disch := first | assumption | omega | (simp only [lens]; omega)) only [eqs, ↓gvd_succ, ↓gvd_zero, ↓and_of, im_of, im_of trivial, vals, lsts, tys, hP, hst, initS, Nat.reduceBEq, Nat.reduceAdd, Nat.reduceMul, Nat.reduceSub, Nat.reduceDiv, Nat.reduceMod, Nat.reducePow, Nat.reduceLT, Nat.reduceLeDiff, Nat.reduceEqDiff, Int.reduceAdd, Int.reduceSub, Int.reduceNeg, Int.reduceMul, Int.reduceToNat, Int.reducePow, Int.reduceLE, Int.reduceLT, Int.reduceEq, Int.reduceNe, reduceIte, reduceCtorEq, ne_eq, not_true_eq_false, not_false_eq_true, imp_self, implies_true, bls, eq_self, hca, hc7, t7, hca', hc7', t7', zrD2, take7 hc7, take7 hc7', drop14 hc7, zD7, List.append_nil]
  have hDS : DS (st ++ [some c, some c', some (c ++ c')]) (.own (st.length + 2) 0 2 7) [d, e] := DS.own (cs := c ++ (c' ++ [])) (by rw [List.append_nil]; exact At.mk2) (.cons (hc.ext (.add _)) (.cons (hc'.ext (.add _)) .nil))
  refine E_call (hP ▸ s_light) ⟨_, [d, e], rfl, hDS, fun hl T hT => ?_, fun hl T hT => ?_⟩
  rotate_left
  · simp (disch := first | assumption | omega | (simp only [lens]; omega)) only [eqs, ↓gvd_succ, ↓gvd_zero, ↓and_of, im_of, im_of trivial, vals, lsts, tys, hP, hst, initS, Nat.reduceBEq, Nat.reduceAdd, Nat.reduceMul, Nat.reduceSub, Nat.reduceDiv, Nat.reduceMod, Nat.reducePow, Nat.reduceLT, Nat.reduceLeDiff, Nat.reduceEqDiff, Int.reduceAdd, Int.reduceSub, Int.reduceNeg, Int.reduceMul, Int.reduceToNat, Int.reducePow, Int.reduceLE, Int.reduceLT, Int.reduceEq, Int.reduceNe, reduceIte, reduceCtorEq, ne_eq, not_true_eq_false, not_false_eq_true, imp_self, implies_true, bls, eq_self]
    refine E_callA (hP ▸ s_lives9 _ hG) ⟨rfl, fun T2 hT2 => ?_⟩
    simp (disch := first | assumption | omega | (simp only [lens]; omega)) only [eqs, ↓gvd_succ, ↓gvd_zero, ↓and_of, im_of, im_of trivial, vals, lsts, tys, hP, hst, initS, Nat.reduceBEq, Nat.reduceAdd, Nat.reduceMul, Nat.reduceSub, Nat.reduceDiv, Nat.reduceMod, Nat.reducePow, Nat.reduceLT, Nat.reduceLeDiff, Nat.reduceEqDiff, Int.reduceAdd, Int.reduceSub, Int.reduceNeg, Int.reduceMul, Int.reduceToNat, Int.reducePow, Int.reduceLE, Int.reduceLT, Int.reduceEq, Int.reduceNe, reduceIte, reduceCtorEq, ne_eq, not_true_eq_false, not_false_eq_true, imp_self, implies_true, bls, eq_self]
    exact hK _ (((Ext.add _).trans hT).trans hT2)
  have f0 := light_few (hl.2 d (by simp))
  have f1 := light_few (hl.2 e (by simp))
  have gA := At.mk0.ext hT
  have gB := At.mk1.ext hT
  have e0 : Ext st T := (Ext.add _).trans hT
  simp (disch := first | assumption | omega | (simp only [lens]; omega)) only [eqs, ↓gvd_succ, ↓gvd_zero, ↓and_of, im_of, im_of trivial, vals, lsts, tys, hP, hst, initS, Nat.reduceBEq, Nat.reduceAdd, Nat.reduceMul, Nat.reduceSub, Nat.reduceDiv, Nat.reduceMod, Nat.reducePow, Nat.reduceLT, Nat.reduceLeDiff, Nat.reduceEqDiff, Int.reduceAdd, Int.reduceSub, Int.reduceNeg, Int.reduceMul, Int.reduceToNat, Int.reducePow, Int.reduceLE, Int.reduceLT, Int.reduceEq, Int.reduceNe, reduceIte, reduceCtorEq, ne_eq, not_true_eq_false, not_false_eq_true, imp_self, implies_true, bls, eq_self]
  refine V_draw [0, 2, 1, 3, 4, 5, 6, 7, 9, 10, 8, 11, 12, 13, 14, 15, 16, 18, 19, 17, 20, 21, 22, 23, 24, 25, 26] (by kernel_rfl) (.cons rfl <| .cons rfl <| .cons rfl <| .cons rfl <| .cons rfl <| .cons rfl <| .cons rfl <| .cons rfl <| .cons rfl <| .cons rfl <| .cons rfl <| .cons rfl <| .cons rfl <| .cons rfl <| .cons rfl <| .cons rfl <| .cons rfl <| .cons rfl <| .cons rfl <| .cons rfl <| .cons rfl <| .cons rfl <| .cons rfl <| .cons rfl <| .cons rfl <| .cons rfl <| .cons rfl <| .nil) ?_
  have gA0 := gA.get
  have gB0 := gB.get
  have da := fun (T' : St) (h : Ext st T') => (show DA T' (.agg c) d from ⟨c, rfl, hc.ext h⟩)
  have db := fun (T' : St) (h : Ext st T') => (show DA T' (.agg c') e from ⟨c', rfl, hc'.ext h⟩)
  simp (disch := first | assumption | omega | (simp only [lens]; omega)) only [eqs, ↓gvd_succ, ↓gvd_zero, ↓and_of, im_of, im_of trivial, vals, lsts, tys, hP, hst, initS, Nat.reduceBEq, Nat.reduceAdd, Nat.reduceMul, Nat.reduceSub, Nat.reduceDiv, Nat.reduceMod, Nat.reducePow, Nat.reduceLT, Nat.reduceLeDiff, Nat.reduceEqDiff, Int.reduceAdd, Int.reduceSub, Int.reduceNeg, Int.reduceMul, Int.reduceToNat, Int.reducePow, Int.reduceLE, Int.reduceLT, Int.reduceEq, Int.reduceNe, reduceIte, reduceCtorEq, ne_eq, not_true_eq_false, not_false_eq_true, imp_self, implies_true, bls, eq_self, gA0, hc7, t7]
  refine E_call (hP ▸ s_True) ⟨_, d, rfl, da _ e0, fun T1 hT1 => ?_⟩
  have e1 := e0.trans hT1
  simp (disch := first | assumption | omega | (simp only [lens]; omega)) only [eqs, ↓gvd_succ, ↓gvd_zero, ↓and_of, im_of, im_of trivial, vals, lsts, tys, hP, hst, initS, Nat.reduceBEq, Nat.reduceAdd, Nat.reduceMul, Nat.reduceSub, Nat.reduceDiv, Nat.reduceMod, Nat.reducePow, Nat.reduceLT, Nat.reduceLeDiff, Nat.reduceEqDiff, Int.reduceAdd, Int.reduceSub, Int.reduceNeg, Int.reduceMul, Int.reduceToNat, Int.reducePow, Int.reduceLE, Int.reduceLT, Int.reduceEq, Int.reduceNe, reduceIte, reduceCtorEq, ne_eq, not_true_eq_false, not_false_eq_true, imp_self, implies_true, bls, eq_self]
  refine E_call (hP ▸ s_qTrue) ⟨_, d, rfl, da _ e1, fun T2 hT2 => ?_⟩
  have e2 := e1.trans hT2
  have gA2 := (gA.ext (hT1.trans hT2)).get
  have gB2 := (gB.ext (hT1.trans hT2)).get
  simp (disch := first | assumption | omega | (simp only [lens]; omega)) only [eqs, ↓gvd_succ, ↓gvd_zero, ↓and_of, im_of, im_of trivial, vals, lsts, tys, hP, hst, initS, Nat.reduceBEq, Nat.reduceAdd, Nat.reduceMul, Nat.reduceSub, Nat.reduceDiv, Nat.reduceMod, Nat.reducePow, Nat.reduceLT, Nat.reduceLeDiff, Nat.reduceEqDiff, Int.reduceAdd, Int.reduceSub, Int.reduceNeg, Int.reduceMul, Int.reduceToNat, Int.reducePow, Int.reduceLE, Int.reduceLT, Int.reduceEq, Int.reduceNe, reduceIte, reduceCtorEq, ne_eq, not_true_eq_false, not_false_eq_true, imp_self, implies_true, bls, eq_self, beq_self_eq_true, gA2, gB2, hc7, t7, hc7', t7']
  refine E_call (hP ▸ s_Eq) ⟨_, _, d, e, rfl, da _ e2, db _ e2, hf, hg, f0, f1, fun T3 hT3 => ?_⟩
  have e3 := e2.trans hT3
  simp (disch := first | assumption | omega | (simp only [lens]; omega)) only [eqs, ↓gvd_succ, ↓gvd_zero, ↓and_of, im_of, im_of trivial, vals, lsts, tys, hP, hst, initS, Nat.reduceBEq, Nat.reduceAdd, Nat.reduceMul, Nat.reduceSub, Nat.reduceDiv, Nat.reduceMod, Nat.reducePow, Nat.reduceLT, Nat.reduceLeDiff, Nat.reduceEqDiff, Int.reduceAdd, Int.reduceSub, Int.reduceNeg, Int.reduceMul, Int.reduceToNat, Int.reducePow, Int.reduceLE, Int.reduceLT, Int.reduceEq, Int.reduceNe, reduceIte, reduceCtorEq, ne_eq, not_true_eq_false, not_false_eq_true, imp_self, implies_true, bls, eq_self]
  refine E_call (hP ▸ s_qEq) ⟨_, _, d, e, rfl, da _ e3, db _ e3, hf, hg, f0, f1, fun T4 hT4 => ?_⟩
  have e4 := e3.trans hT4
  have gA4 := (gA.ext (((hT1.trans hT2).trans hT3).trans hT4)).get
  have gB4 := (gB.ext (((hT1.trans hT2).trans hT3).trans hT4)).get
  simp (disch := first | assumption | omega | (simp only [lens]; omega)) only [eqs, ↓gvd_succ, ↓gvd_zero, ↓and_of, im_of, im_of trivial, vals, lsts, tys, hP, hst, initS, Nat.reduceBEq, Nat.reduceAdd, Nat.reduceMul, Nat.reduceSub, Nat.reduceDiv, Nat.reduceMod, Nat.reducePow, Nat.reduceLT, Nat.reduceLeDiff, Nat.reduceEqDiff, Int.reduceAdd, Int.reduceSub, Int.reduceNeg, Int.reduceMul, Int.reduceToNat, Int.reducePow, Int.reduceLE, Int.reduceLT, Int.reduceEq, Int.reduceNe, reduceIte, reduceCtorEq, ne_eq, not_true_eq_false, not_false_eq_true, imp_self, implies_true, bls, eq_self, beq_self_eq_true, gA4, gB4, hc7, t7, hc7', t7']
  refine E_call (hP ▸ s_Eq) ⟨_, _, d, e, rfl, da _ e4, db _ e4, hf, hg, f0, f1, fun T5 hT5 => ?_⟩
  have e5 := e4.trans hT5
  simp (disch := first | assumption | omega | (simp only [lens]; omega)) only [eqs, ↓gvd_succ, ↓gvd_zero, ↓and_of, im_of, im_of trivial, vals, lsts, tys, hP, hst, initS, Nat.reduceBEq, Nat.reduceAdd, Nat.reduceMul, Nat.reduceSub, Nat.reduceDiv, Nat.reduceMod, Nat.reducePow, Nat.reduceLT, Nat.reduceLeDiff, Nat.reduceEqDiff, Int.reduceAdd, Int.reduceSub, Int.reduceNeg, Int.reduceMul, Int.reduceToNat, Int.reducePow, Int.reduceLE, Int.reduceLT, Int.reduceEq, Int.reduceNe, reduceIte, reduceCtorEq, ne_eq, not_true_eq_false, not_false_eq_true, imp_self, implies_true, bls, eq_self]
  refine E_call (hP ▸ s_Eq) ⟨_, _, e, d, rfl, db _ e5, da _ e5, hg, hf, f1, f0, fun T6 hT6 => ?_⟩
  have e6 := e5.trans hT6
  rw [eqM_comm e d]
  simp (disch := first | assumption | omega | (simp only [lens]; omega)) only [eqs, ↓gvd_succ, ↓gvd_zero, ↓and_of, im_of, im_of trivial, vals, lsts, tys, hP, hst, initS, Nat.reduceBEq, Nat.reduceAdd, Nat.reduceMul, Nat.reduceSub, Nat.reduceDiv, Nat.reduceMod, Nat.reducePow, Nat.reduceLT, Nat.reduceLeDiff, Nat.reduceEqDiff, Int.reduceAdd, Int.reduceSub, Int.reduceNeg, Int.reduceMul, Int.reduceToNat, Int.reducePow, Int.reduceLE, Int.reduceLT, Int.reduceEq, Int.reduceNe, reduceIte, reduceCtorEq, ne_eq, not_true_eq_false, not_false_eq_true, imp_self, implies_true, bls, eq_self, beq_self_eq_true]
  refine E_callA (hP ▸ s_lives9 _ hG) ⟨rfl, fun T7 hT7 => ?_⟩
  simp (disch := first | assumption | omega | (simp only [lens]; omega)) only [eqs, ↓gvd_succ, ↓gvd_zero, ↓and_of, im_of, im_of trivial, vals, lsts, tys, hP, hst, initS, Nat.reduceBEq, Nat.reduceAdd, Nat.reduceMul, Nat.reduceSub, Nat.reduceDiv, Nat.reduceMod, Nat.reducePow, Nat.reduceLT, Nat.reduceLeDiff, Nat.reduceEqDiff, Int.reduceAdd, Int.reduceSub, Int.reduceNeg, Int.reduceMul, Int.reduceToNat, Int.reducePow, Int.reduceLE, Int.reduceLT, Int.reduceEq, Int.reduceNe, reduceIte, reduceCtorEq, ne_eq, not_true_eq_false, not_false_eq_true, imp_self, implies_true, bls, eq_self]
  exact hK _ (e6.trans hT7)
end Go.Proofs.Pv
