/- The document's answer for whole numbers: its walks, first part. -/
import Derived.Test.YtmclabehpfpnnaaDoorW11
import Derived.Test.YtmclabehpfpnnaaDoorR5
set_option linter.unusedSimpArgs false
set_option linter.unusedVariables false
namespace Go.Proofs.Pv
open Go Go.RowKit Go.Proofs
set_option maxRecDepth 20000

theorem s_qNorm : PSpec Tryd.prog 60 RwNorm := by
  refine fspec_of (fn := Tryd.f60) 1 [.cell 2 24] (by kernel_rfl) rfl rfl (by kernel_rfl) mixed (by rintro _ _ _ ⟨x, neg, l, rfl, _⟩; rfl) ?_
  rintro X _ st K hP hst ⟨x, neg, l, rfl, hx, hl, hK⟩
  obtain ⟨a, rfl, ha, hle⟩ := hx.iv
  refine vc_V ?_
  simp (disch := first | assumption | omega | (simp only [lens]; omega)) only [eqs, ↓gvd_succ, ↓gvd_zero, ↓and_of, im_of, im_of trivial, vals, lsts, tys, hP, hst, initS, Nat.reduceBEq, Nat.reduceAdd, Nat.reduceMul, Nat.reduceSub, Nat.reduceDiv, Nat.reduceMod, Nat.reducePow, Nat.reduceLT, Nat.reduceLeDiff, Nat.reduceEqDiff, Int.reduceAdd, Int.reduceSub, Int.reduceNeg, Int.reduceMul, Int.reduceToNat, Int.reducePow, Int.reduceLE, Int.reduceLT, Int.reduceEq, Int.reduceNe, reduceIte, reduceCtorEq, ne_eq, not_true_eq_false, not_false_eq_true, imp_self, implies_true, bls, eq_self, hle]
  refine E_call (hP ▸ s_rNorm) ⟨a, l, rfl, ha.app _, by omega, fresh_got fun z T hz => ?_⟩
  have hlen := limbs_len ha.lt
  have h1 := hz.nm.sl
  have h2 := hz.nm.leaf
  obtain ⟨g, rfl⟩ := hz.ex
  simp only [List.append_assoc, List.cons_append, List.nil_append] at h1
  have hpl := limbs_pos_len (v := val l)
  cases neg
  · simp (disch := first | assumption | omega | (simp only [lens]; omega)) only [eqs, ↓gvd_succ, ↓gvd_zero, ↓and_of, im_of, im_of trivial, vals, lsts, tys, hP, hst, initS, Nat.reduceBEq, Nat.reduceAdd, Nat.reduceMul, Nat.reduceSub, Nat.reduceDiv, Nat.reduceMod, Nat.reducePow, Nat.reduceLT, Nat.reduceLeDiff, Nat.reduceEqDiff, Int.reduceAdd, Int.reduceSub, Int.reduceNeg, Int.reduceMul, Int.reduceToNat, Int.reducePow, Int.reduceLE, Int.reduceLT, Int.reduceEq, Int.reduceNe, reduceIte, reduceCtorEq, ne_eq, not_true_eq_false, not_false_eq_true, imp_self, implies_true, bls, eq_self, h2]
    exact hK _ _ (GotI.mk (hz.fin (pre' := [_, _]) (by simp)) rfl (by simp))
  · simp (disch := first | assumption | omega | (simp only [lens]; omega)) only [eqs, ↓gvd_succ, ↓gvd_zero, ↓and_of, im_of, im_of trivial, vals, lsts, tys, hP, hst, initS, Nat.reduceBEq, Nat.reduceAdd, Nat.reduceMul, Nat.reduceSub, Nat.reduceDiv, Nat.reduceMod, Nat.reducePow, Nat.reduceLT, Nat.reduceLeDiff, Nat.reduceEqDiff, Int.reduceAdd, Int.reduceSub, Int.reduceNeg, Int.reduceMul, Int.reduceToNat, Int.reducePow, Int.reduceLE, Int.reduceLT, Int.reduceEq, Int.reduceNe, reduceIte, reduceCtorEq, ne_eq, not_true_eq_false, not_false_eq_true, imp_self, implies_true, bls, eq_self, h1, h2]
    exact hK _ _ (GotI.mk (b := decide ((0 : Int) < ((limbs (val l)).length : Int))) (hz.fin (pre' := [_, _]) (by simp)) (by
      by_cases h0 : 0 < val l
      · rw [decide_eq_true (by omega)]
      · rw [decide_eq_false (by omega), show val l = 0 by omega, iv_zero, iv_zero]) (fun h => by have := of_decide_eq_true h; omega))

theorem s_qGood : PSpec Tryd.prog 76 RwGood := by
  refine fspec_of (fn := Tryd.f76) 1 [.tmp 2] (by kernel_rfl) rfl rfl (by kernel_rfl) mixed (by rintro _ _ _ ⟨x, neg, l, rfl, _⟩; rfl) ?_
  rintro X _ st K hP hst ⟨x, neg, l, rfl, hx, hl, hK⟩
  obtain ⟨a, rfl, ha, hle⟩ := hx.iv
  refine vc_V ?_
  have h1 := ha.grow
  simp (disch := first | assumption | omega | (simp only [lens]; omega)) only [eqs, ↓gvd_succ, ↓gvd_zero, ↓and_of, im_of, im_of trivial, vals, lsts, tys, hP, hst, initS, Nat.reduceBEq, Nat.reduceAdd, Nat.reduceMul, Nat.reduceSub, Nat.reduceDiv, Nat.reduceMod, Nat.reducePow, Nat.reduceLT, Nat.reduceLeDiff, Nat.reduceEqDiff, Int.reduceAdd, Int.reduceSub, Int.reduceNeg, Int.reduceMul, Int.reduceToNat, Int.reducePow, Int.reduceLE, Int.reduceLT, Int.reduceEq, Int.reduceNe, reduceIte, reduceCtorEq, ne_eq, not_true_eq_false, not_false_eq_true, imp_self, implies_true, bls, eq_self, hle, h1]
  refine G_ndec (fun h => ?_) (fun h => ?_)
  · rw [if_neg (by omega)] at hK
    simp (disch := first | assumption | omega | (simp only [lens]; omega)) only [eqs, ↓gvd_succ, ↓gvd_zero, ↓and_of, im_of, im_of trivial, vals, lsts, tys, hP, hst, initS, Nat.reduceBEq, Nat.reduceAdd, Nat.reduceMul, Nat.reduceSub, Nat.reduceDiv, Nat.reduceMod, Nat.reducePow, Nat.reduceLT, Nat.reduceLeDiff, Nat.reduceEqDiff, Int.reduceAdd, Int.reduceSub, Int.reduceNeg, Int.reduceMul, Int.reduceToNat, Int.reducePow, Int.reduceLE, Int.reduceLT, Int.reduceEq, Int.reduceNe, reduceIte, reduceCtorEq, ne_eq, not_true_eq_false, not_false_eq_true, imp_self, implies_true, bls, eq_self, hle, h1, h]
    have h4 : (0 : Int) < (l.length : Int) := by omega
    refine G_dec (fun h3 => ?_) (fun h3 => ?_)
    · simp (disch := first | assumption | omega | (simp only [lens]; omega)) only [eqs, ↓gvd_succ, ↓gvd_zero, ↓and_of, im_of, im_of trivial, vals, lsts, tys, hP, hst, initS, Nat.reduceBEq, Nat.reduceAdd, Nat.reduceMul, Nat.reduceSub, Nat.reduceDiv, Nat.reduceMod, Nat.reducePow, Nat.reduceLT, Nat.reduceLeDiff, Nat.reduceEqDiff, Int.reduceAdd, Int.reduceSub, Int.reduceNeg, Int.reduceMul, Int.reduceToNat, Int.reducePow, Int.reduceLE, Int.reduceLT, Int.reduceEq, Int.reduceNe, reduceIte, reduceCtorEq, ne_eq, not_true_eq_false, not_false_eq_true, imp_self, implies_true, bls, eq_self, h3, h4]
      rw [decide_eq_true (by omega)] at hK
      exact hK _ (.add _)
    · simp (disch := first | assumption | omega | (simp only [lens]; omega)) only [eqs, ↓gvd_succ, ↓gvd_zero, ↓and_of, im_of, im_of trivial, vals, lsts, tys, hP, hst, initS, Nat.reduceBEq, Nat.reduceAdd, Nat.reduceMul, Nat.reduceSub, Nat.reduceDiv, Nat.reduceMod, Nat.reducePow, Nat.reduceLT, Nat.reduceLeDiff, Nat.reduceEqDiff, Int.reduceAdd, Int.reduceSub, Int.reduceNeg, Int.reduceMul, Int.reduceToNat, Int.reducePow, Int.reduceLE, Int.reduceLT, Int.reduceEq, Int.reduceNe, reduceIte, reduceCtorEq, ne_eq, not_true_eq_false, not_false_eq_true, imp_self, implies_true, bls, eq_self, h3, h4]
      rw [decide_eq_false (by omega)] at hK
      exact hK _ (.add _)
  · rw [if_pos (by omega)] at hK
    have h4 : ¬((0 : Int) < (l.length : Int)) := by omega
    simp (disch := first | assumption | omega | (simp only [lens]; omega)) only [eqs, ↓gvd_succ, ↓gvd_zero, ↓and_of, im_of, im_of trivial, vals, lsts, tys, hP, hst, initS, Nat.reduceBEq, Nat.reduceAdd, Nat.reduceMul, Nat.reduceSub, Nat.reduceDiv, Nat.reduceMod, Nat.reducePow, Nat.reduceLT, Nat.reduceLeDiff, Nat.reduceEqDiff, Int.reduceAdd, Int.reduceSub, Int.reduceNeg, Int.reduceMul, Int.reduceToNat, Int.reducePow, Int.reduceLE, Int.reduceLT, Int.reduceEq, Int.reduceNe, reduceIte, reduceCtorEq, ne_eq, not_true_eq_false, not_false_eq_true, imp_self, implies_true, bls, eq_self, hle, h, h1, h4]
    exact hK _ (.add _)

def RwSame (xs : List AV) (st : St) (K : AV → St → Prop) : Prop := ∃ x y s t l m, xs = [x, y] ∧ Wh st x s l ∧ Wh st y t m ∧ l.length ≤ 35184372088832 ∧ m.length ≤ 35184372088832 ∧ anyw st (.bool (decide (s = t ∧ l = m))) K
theorem s_qSame : PSpec Tryd.prog 59 RwSame := by
  refine fspec_of (fn := Tryd.f59) 2 [.tmp 4] (by kernel_rfl) rfl rfl (by kernel_rfl) mixed (by rintro _ _ _ ⟨x, y, s, t, l, m, rfl, _⟩; rfl) ?_
  rintro X _ st K hP hst ⟨x, y, s, t, l, m, rfl, hx, hy, hl, hm, hK⟩
  obtain ⟨a, rfl, ha, hal⟩ := hx.iv
  obtain ⟨b, rfl, hb, hbl⟩ := hy.iv
  refine vc_V ?_
  by_cases hst2 : s = t
  · subst hst2
    simp (disch := first | assumption | omega | (simp only [lens]; omega)) only [eqs, ↓gvd_succ, ↓gvd_zero, ↓and_of, im_of, im_of trivial, vals, lsts, tys, hP, hst, initS, Nat.reduceBEq, Nat.reduceAdd, Nat.reduceMul, Nat.reduceSub, Nat.reduceDiv, Nat.reduceMod, Nat.reducePow, Nat.reduceLT, Nat.reduceLeDiff, Nat.reduceEqDiff, Int.reduceAdd, Int.reduceSub, Int.reduceNeg, Int.reduceMul, Int.reduceToNat, Int.reducePow, Int.reduceLE, Int.reduceLT, Int.reduceEq, Int.reduceNe, reduceIte, reduceCtorEq, ne_eq, not_true_eq_false, not_false_eq_true, imp_self, implies_true, bls, eq_self, hal, hbl, beq_self_eq_true]
    refine E_call (hP ▸ s_Same) ⟨a, b, l, m, rfl, ha.app _, hb.app _, hl, hm, ?_⟩
    simp (disch := first | assumption | omega | (simp only [lens]; omega)) only [eqs, ↓gvd_succ, ↓gvd_zero, ↓and_of, im_of, im_of trivial, vals, lsts, tys, hP, hst, initS, Nat.reduceBEq, Nat.reduceAdd, Nat.reduceMul, Nat.reduceSub, Nat.reduceDiv, Nat.reduceMod, Nat.reducePow, Nat.reduceLT, Nat.reduceLeDiff, Nat.reduceEqDiff, Int.reduceAdd, Int.reduceSub, Int.reduceNeg, Int.reduceMul, Int.reduceToNat, Int.reducePow, Int.reduceLE, Int.reduceLT, Int.reduceEq, Int.reduceNe, reduceIte, reduceCtorEq, ne_eq, not_true_eq_false, not_false_eq_true, imp_self, implies_true, bls, eq_self, beq_self_eq_true]
    rw [show decide (s = s ∧ l = m) = decide (l = m) by simp] at hK
    exact hK _ (.add _)
  · have e : (s == t) = false := by simpa using hst2
    simp (disch := first | assumption | omega | (simp only [lens]; omega)) only [eqs, ↓gvd_succ, ↓gvd_zero, ↓and_of, im_of, im_of trivial, vals, lsts, tys, hP, hst, initS, Nat.reduceBEq, Nat.reduceAdd, Nat.reduceMul, Nat.reduceSub, Nat.reduceDiv, Nat.reduceMod, Nat.reducePow, Nat.reduceLT, Nat.reduceLeDiff, Nat.reduceEqDiff, Int.reduceAdd, Int.reduceSub, Int.reduceNeg, Int.reduceMul, Int.reduceToNat, Int.reducePow, Int.reduceLE, Int.reduceLT, Int.reduceEq, Int.reduceNe, reduceIte, reduceCtorEq, ne_eq, not_true_eq_false, not_false_eq_true, imp_self, implies_true, bls, eq_self, hal, hbl, e]
    rw [decide_eq_false (fun h => hst2 h.1)] at hK
    exact hK _ (.add _)

theorem s_qOf : PSpec Tryd.prog 75 RwOfInt := by
  refine fspec_of (fn := Tryd.f75) 1 [.cell 2 24] (by kernel_rfl) rfl rfl (by kernel_rfl) mixed (by rintro _ _ _ ⟨n, rfl, _⟩; rfl) ?_
  rintro X _ st K hP hst ⟨n, rfl, hn1, hn2, hK⟩
  refine vc_V ?_
  simp (disch := first | assumption | omega | (simp only [lens]; omega)) only [eqs, ↓gvd_succ, ↓gvd_zero, ↓and_of, im_of, im_of trivial, vals, lsts, tys, hP, hst, initS, Nat.reduceBEq, Nat.reduceAdd, Nat.reduceMul, Nat.reduceSub, Nat.reduceDiv, Nat.reduceMod, Nat.reducePow, Nat.reduceLT, Nat.reduceLeDiff, Nat.reduceEqDiff, Int.reduceAdd, Int.reduceSub, Int.reduceNeg, Int.reduceMul, Int.reduceToNat, Int.reducePow, Int.reduceLE, Int.reduceLT, Int.reduceEq, Int.reduceNe, reduceIte, reduceCtorEq, ne_eq, not_true_eq_false, not_false_eq_true, imp_self, implies_true, bls, eq_self]
  refine C_dec (fun h => ?_) (fun h => ?_)
  · obtain ⟨u, hu⟩ : ∃ u : Nat, n = -(u : Int) := ⟨n.natAbs, by omega⟩
    subst hu
    have e1 : IntKind.u64.wrap (0 - IntKind.u64.wrap (-(u : Int))) = (u : Int) := by rw [wrap64, wrap64]; omega
    have hu2 : u < 18446744073709551616 := by omega
    simp (disch := first | assumption | omega | (simp only [lens]; omega)) only [eqs, ↓gvd_succ, ↓gvd_zero, ↓and_of, im_of, im_of trivial, vals, lsts, tys, hP, hst, initS, Nat.reduceBEq, Nat.reduceAdd, Nat.reduceMul, Nat.reduceSub, Nat.reduceDiv, Nat.reduceMod, Nat.reducePow, Nat.reduceLT, Nat.reduceLeDiff, Nat.reduceEqDiff, Int.reduceAdd, Int.reduceSub, Int.reduceNeg, Int.reduceMul, Int.reduceToNat, Int.reducePow, Int.reduceLE, Int.reduceLT, Int.reduceEq, Int.reduceNe, reduceIte, reduceCtorEq, ne_eq, not_true_eq_false, not_false_eq_true, imp_self, implies_true, bls, eq_self, e1, h]
    refine E_call (hP ▸ s_qNorm) ⟨_, _, [u % 4294967296, u / 4294967296], rfl, ⟨_, rfl, Nm.two (by rw [get_app]; rfl) (by rw [IntKind.wrap_u32]; omega) (by omega) (by omega) (by omega)⟩, by simp, fun z T hz => ?_⟩
    rw [split64 u hu2] at hz
    have hz0 := hz
    obtain ⟨c, rfl, hc⟩ := hz
    have hcl := hc.nm.leaf
    obtain ⟨g, rfl⟩ := hc.ex
    simp (disch := first | assumption | omega | (simp only [lens]; omega)) only [eqs, ↓gvd_succ, ↓gvd_zero, ↓and_of, im_of, im_of trivial, vals, lsts, tys, hP, hst, initS, Nat.reduceBEq, Nat.reduceAdd, Nat.reduceMul, Nat.reduceSub, Nat.reduceDiv, Nat.reduceMod, Nat.reducePow, Nat.reduceLT, Nat.reduceLeDiff, Nat.reduceEqDiff, Int.reduceAdd, Int.reduceSub, Int.reduceNeg, Int.reduceMul, Int.reduceToNat, Int.reducePow, Int.reduceLE, Int.reduceLT, Int.reduceEq, Int.reduceNe, reduceIte, reduceCtorEq, ne_eq, not_true_eq_false, not_false_eq_true, imp_self, implies_true, bls, eq_self, hcl]
    exact hK _ _ (hz0.fin (pre' := [_, _]) (by simp))
  · obtain ⟨u, hu⟩ : ∃ u : Nat, n = (u : Int) := ⟨n.toNat, by omega⟩
    subst hu
    have hu2 : u < 18446744073709551616 := by omega
    simp (disch := first | assumption | omega | (simp only [lens]; omega)) only [eqs, ↓gvd_succ, ↓gvd_zero, ↓and_of, im_of, im_of trivial, vals, lsts, tys, hP, hst, initS, Nat.reduceBEq, Nat.reduceAdd, Nat.reduceMul, Nat.reduceSub, Nat.reduceDiv, Nat.reduceMod, Nat.reducePow, Nat.reduceLT, Nat.reduceLeDiff, Nat.reduceEqDiff, Int.reduceAdd, Int.reduceSub, Int.reduceNeg, Int.reduceMul, Int.reduceToNat, Int.reducePow, Int.reduceLE, Int.reduceLT, Int.reduceEq, Int.reduceNe, reduceIte, reduceCtorEq, ne_eq, not_true_eq_false, not_false_eq_true, imp_self, implies_true, bls, eq_self, h]
    refine E_call (hP ▸ s_qNorm) ⟨_, _, [u % 4294967296, u / 4294967296], rfl, ⟨_, rfl, Nm.two (by rw [get_app]; rfl) (by rw [IntKind.wrap_u32]; omega) (by omega) (by omega) (by omega)⟩, by simp, fun z T hz => ?_⟩
    rw [split64 u hu2] at hz
    have hz0 := hz
    obtain ⟨c, rfl, hc⟩ := hz
    have hcl := hc.nm.leaf
    obtain ⟨g, rfl⟩ := hc.ex
    simp (disch := first | assumption | omega | (simp only [lens]; omega)) only [eqs, ↓gvd_succ, ↓gvd_zero, ↓and_of, im_of, im_of trivial, vals, lsts, tys, hP, hst, initS, Nat.reduceBEq, Nat.reduceAdd, Nat.reduceMul, Nat.reduceSub, Nat.reduceDiv, Nat.reduceMod, Nat.reducePow, Nat.reduceLT, Nat.reduceLeDiff, Nat.reduceEqDiff, Int.reduceAdd, Int.reduceSub, Int.reduceNeg, Int.reduceMul, Int.reduceToNat, Int.reducePow, Int.reduceLE, Int.reduceLT, Int.reduceEq, Int.reduceNe, reduceIte, reduceCtorEq, ne_eq, not_true_eq_false, not_false_eq_true, imp_self, implies_true, bls, eq_self, hcl]
    exact hK _ _ (hz0.fin (pre' := [_, _]) (by simp))

/-- Two normed ones, each in a variable made at any time. -/
structure Two (st S : St) (r q : Nat) (Z W : Int) (a b : AV) : Prop where
  ex : Ext st S
  na : Nm S a (limbs Z.natAbs)
  nb : Nm S b (limbs W.natAbs)
  ra : S[r]? = some (some [.val (.bool (decide (Z < 0))), a])
  rb : S[q]? = some (some [.val (.bool (decide (W < 0))), b])

end Go.Proofs.Pv

/- The document's answer for whole numbers: its walks, second part. -/
namespace Go.Proofs.Pv
open Go Go.RowKit Go.Proofs
set_option maxRecDepth 20000

end Go.Proofs.Pv
