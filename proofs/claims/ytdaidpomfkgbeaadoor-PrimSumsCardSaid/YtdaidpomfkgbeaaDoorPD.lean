/- PrimSums, walked. -/
import Derived.Test.YtdaidpomfkgbeaaDoorP9
import Derived.Test.YtdaidpomfkgbeaaDoorE23
set_option linter.unusedSimpArgs false
set_option linter.unusedVariables false
namespace Go.Proofs.Pv
open Go Go.RowKit Go.Proofs
set_option maxRecDepth 20000

theorem zlt {z : Int} {n : Nat} (h : (limbs z.natAbs).length ≤ n) : z.natAbs < 4294967296 ^ n := by
  have h1 := val_lt (limbs_lt z.natAbs)
  rw [val_limbs] at h1
  exact Nat.lt_of_lt_of_le h1 (Nat.pow_le_pow_right (by omega) h)
theorem zlen_add1 {a b : Int} {n : Nat} (h : (limbs a.natAbs).length ≤ n) (h2 : (limbs b.natAbs).length ≤ n) : (limbs (a + b).natAbs).length ≤ n + 1 := by
  refine limbs_len_le ?_
  have := zlt h
  have := zlt h2
  have := Int.natAbs_add_le a b
  rw [Nat.pow_succ]
  omega
theorem zlen_back {z w : Int} {n : Nat} (h : (limbs z.natAbs).length ≤ n) : (limbs (z.tdiv w * w).natAbs).length ≤ n := by
  refine Nat.le_trans (limbs_len_mono ?_) h
  rw [Int.natAbs_mul, Int.natAbs_tdiv]
  exact Nat.div_mul_le_self _ _
theorem sz_num {z : Int} : (dNum z).sz < 2 := by unfold dNum; rw [sz_mk]; simp [szs]
def RSums (xs : List AV) (st : St) (K : AV → St → Prop) : Prop := ∃ x y s t l m, xs = [x, y] ∧ Wh st x s l ∧ Wh st y t m ∧ l.length ≤ 35184372088832 ∧ m.length ≤ 35184372088832 ∧ anyw st (.bool true) K
set_option maxHeartbeats 4000000 in
theorem s_PrimSums : ∀ w0, GP w0 → PSpecAt Tryd.prog w0 12 RSums := by
  refine gspec_of (fn := Tryd.f12) 2 [.tmp 4] (by kernel_rfl) rfl rfl (by kernel_rfl) mixed (by rintro _ _ _ ⟨x, y, s, t, l, m, rfl, _⟩; rfl) ?_
  rintro X _ st K hP hst hG ⟨x, y, s, t, l, m, rfl, hx, hy, hl, hm, hK⟩
  have hX : X.st1.length ≤ st.length := by rw [hst]; omega
  obtain ⟨a, rfl, ha, la⟩ := hx.iv
  obtain ⟨b, rfl, hb, lb⟩ := hy.iv
  refine vc_V ?_
  simp (disch := first | assumption | omega | (simp only [lens]; omega)) only [eqs, ↓gvd_succ, ↓gvd_zero, ↓and_of, im_of, im_of trivial, vals, lsts, tys, hP, hst, initS, Nat.reduceBEq, Nat.reduceAdd, Nat.reduceMul, Nat.reduceSub, Nat.reduceDiv, Nat.reduceMod, Nat.reducePow, Nat.reduceLT, Nat.reduceLeDiff, Nat.reduceEqDiff, Int.reduceAdd, Int.reduceSub, Int.reduceNeg, Int.reduceMul, Int.reduceToNat, Int.reducePow, Int.reduceLE, Int.reduceLT, Int.reduceEq, Int.reduceNe, reduceIte, reduceCtorEq, ne_eq, not_true_eq_false, not_false_eq_true, imp_self, implies_true, bls, eq_self, la, lb]
  refine V_late (s' := (5, AV.junk) :: (6, AV.junk) :: _) [6, 7] [0, 3, 1, 2, 4, 5] [8, 9] hP (by kernel_rfl) (by kernel_rfl) (.cons rfl <| .cons rfl <| .cons rfl <| .cons rfl <| .cons rfl <| .cons rfl <| .cons rfl <| .cons rfl <| .cons rfl <| .cons rfl <| .nil) rfl ?_; rw [mask_nil]
  simp (disch := first | assumption | omega | (simp only [lens]; omega)) only [eqs, ↓gvd_succ, ↓gvd_zero, ↓and_of, im_of, im_of trivial, vals, lsts, tys, hP, hst, initS, Nat.reduceBEq, Nat.reduceAdd, Nat.reduceMul, Nat.reduceSub, Nat.reduceDiv, Nat.reduceMod, Nat.reducePow, Nat.reduceLT, Nat.reduceLeDiff, Nat.reduceEqDiff, Int.reduceAdd, Int.reduceSub, Int.reduceNeg, Int.reduceMul, Int.reduceToNat, Int.reducePow, Int.reduceLE, Int.reduceLT, Int.reduceEq, Int.reduceNe, reduceIte, reduceCtorEq, ne_eq, not_true_eq_false, not_false_eq_true, imp_self, implies_true, bls, eq_self, la, lb]
  obtain ⟨T0, hT0⟩ : ∃ T, st ++ [some [.val (.bool s), a], some [.val (.bool t), b]] = T := ⟨_, rfl⟩
  have e0 : Ext st T0 := ⟨_, hT0.symm⟩
  rw [hT0]
  clear hT0
  obtain ⟨z, hz⟩ : ∃ z, iv s (val l) = z := ⟨_, rfl⟩
  obtain ⟨w, hw⟩ : ∃ w, iv t (val m) = w := ⟨_, rfl⟩
  refine E_call (hP ▸ s_qNorm) ⟨_, s, l, rfl, ⟨a, rfl, ha.ext e0⟩, hl, fun v1 T1 hv1 => ?_⟩
  have e1 := hv1.ex
  rw [hz] at hv1
  obtain ⟨c, rfl, hc⟩ := hv1
  have lA := hc.nm.leaf
  simp (disch := first | assumption | omega | (simp only [lens]; omega)) only [eqs, ↓gvd_succ, ↓gvd_zero, ↓and_of, im_of, im_of trivial, vals, lsts, tys, hP, hst, initS, Nat.reduceBEq, Nat.reduceAdd, Nat.reduceMul, Nat.reduceSub, Nat.reduceDiv, Nat.reduceMod, Nat.reducePow, Nat.reduceLT, Nat.reduceLeDiff, Nat.reduceEqDiff, Int.reduceAdd, Int.reduceSub, Int.reduceNeg, Int.reduceMul, Int.reduceToNat, Int.reducePow, Int.reduceLE, Int.reduceLT, Int.reduceEq, Int.reduceNe, reduceIte, reduceCtorEq, ne_eq, not_true_eq_false, not_false_eq_true, imp_self, implies_true, bls, eq_self, lA]
  refine E_call (hP ▸ s_qNorm) ⟨_, t, m, rfl, ⟨b, rfl, hb.ext (e0.trans e1)⟩, hm, fun v2 T2 hv2 => ?_⟩
  have e2 := hv2.ex
  rw [hw] at hv2
  obtain ⟨d, rfl, hd⟩ := hv2
  have n1 := hc.nm.ext e2
  have n2 := hd.nm
  have lB := n2.leaf
  have x2 := Nat.le_trans hX ((e0.trans e1).trans e2).len
  have x2b : X.st1.length ≤ T2.length + 1 := by omega
  have hA : DA0 T2 (.agg [.val (.int .i64 1), .val (.bool (decide (z < 0))), c, .val (.bool false), .val (.string ⟨#[]⟩), .val (.slice none 0 0), .val (.slice none 0 0)]) (dNum z) := DA0.mk n1
  have hB : DA0 T2 (.agg [.val (.int .i64 1), .val (.bool (decide (w < 0))), d, .val (.bool false), .val (.string ⟨#[]⟩), .val (.slice none 0 0), .val (.slice none 0 0)]) (dNum w) := DA0.mk n2
  simp (disch := first | assumption | omega | (simp only [lens]; omega)) only [eqs, ↓gvd_succ, ↓gvd_zero, ↓and_of, im_of, im_of trivial, vals, lsts, tys, hP, hst, initS, Nat.reduceBEq, Nat.reduceAdd, Nat.reduceMul, Nat.reduceSub, Nat.reduceDiv, Nat.reduceMod, Nat.reducePow, Nat.reduceLT, Nat.reduceLeDiff, Nat.reduceEqDiff, Int.reduceAdd, Int.reduceSub, Int.reduceNeg, Int.reduceMul, Int.reduceToNat, Int.reducePow, Int.reduceLE, Int.reduceLT, Int.reduceEq, Int.reduceNe, reduceIte, reduceCtorEq, ne_eq, not_true_eq_false, not_false_eq_true, imp_self, implies_true, bls, eq_self, lA, lB, x2, x2b, zD_map, zrD2, zD7, List.append_nil]
  refine E_call (hP ▸ s_light) ⟨_, [dNum z, dNum w], rfl, DS.own At.mk2 (.cons (hA.ext (.add _)).dc (.cons (hB.ext (.add _)).dc .nil)), fun hl3 T3 f3 => ?_, fun hl3 T3 f3 => ?_⟩
  rotate_left
  · simp (disch := first | assumption | omega | (simp only [lens]; omega)) only [eqs, ↓gvd_succ, ↓gvd_zero, ↓and_of, im_of, im_of trivial, vals, lsts, tys, hP, hst, initS, Nat.reduceBEq, Nat.reduceAdd, Nat.reduceMul, Nat.reduceSub, Nat.reduceDiv, Nat.reduceMod, Nat.reducePow, Nat.reduceLT, Nat.reduceLeDiff, Nat.reduceEqDiff, Int.reduceAdd, Int.reduceSub, Int.reduceNeg, Int.reduceMul, Int.reduceToNat, Int.reducePow, Int.reduceLE, Int.reduceLT, Int.reduceEq, Int.reduceNe, reduceIte, reduceCtorEq, ne_eq, not_true_eq_false, not_false_eq_true, imp_self, implies_true, bls, eq_self]
    have e3 : Ext T2 T3 := (Ext.add _).trans f3
    refine E_callA (hP ▸ s_lives9 _ hG) ⟨rfl, fun T4 f4 => ?_⟩
    simp (disch := first | assumption | omega | (simp only [lens]; omega)) only [eqs, ↓gvd_succ, ↓gvd_zero, ↓and_of, im_of, im_of trivial, vals, lsts, tys, hP, hst, initS, Nat.reduceBEq, Nat.reduceAdd, Nat.reduceMul, Nat.reduceSub, Nat.reduceDiv, Nat.reduceMod, Nat.reducePow, Nat.reduceLT, Nat.reduceLeDiff, Nat.reduceEqDiff, Int.reduceAdd, Int.reduceSub, Int.reduceNeg, Int.reduceMul, Int.reduceToNat, Int.reducePow, Int.reduceLE, Int.reduceLT, Int.reduceEq, Int.reduceNe, reduceIte, reduceCtorEq, ne_eq, not_true_eq_false, not_false_eq_true, imp_self, implies_true, bls, eq_self]
    exact hK _ ((((e0.trans e1).trans e2).trans e3).trans f4)
  have e3 : Ext T2 T3 := (Ext.add _).trans f3
  have atA := At.mk0.ext f3
  have atB := At.mk1.ext f3
  have sA := (n1.ext e3).sl
  have sB := (n2.ext e3).sl
  have gA := (atA.ext Ext.refl).get
  have gB := (atB.ext Ext.refl).get
  simp (disch := first | assumption | omega | (simp only [lens]; omega)) only [eqs, ↓gvd_succ, ↓gvd_zero, ↓and_of, im_of, im_of trivial, vals, lsts, tys, hP, hst, initS, Nat.reduceBEq, Nat.reduceAdd, Nat.reduceMul, Nat.reduceSub, Nat.reduceDiv, Nat.reduceMod, Nat.reducePow, Nat.reduceLT, Nat.reduceLeDiff, Nat.reduceEqDiff, Int.reduceAdd, Int.reduceSub, Int.reduceNeg, Int.reduceMul, Int.reduceToNat, Int.reducePow, Int.reduceLE, Int.reduceLT, Int.reduceEq, Int.reduceNe, reduceIte, reduceCtorEq, ne_eq, not_true_eq_false, not_false_eq_true, imp_self, implies_true, bls, eq_self, gA, gB, lA, lB, zD7, List.append_nil, sA, sB]
  refine fun _ => ?_
  refine G_ndec (fun h => ?_) (fun h => ?_)
  rotate_left
  · simp (disch := first | assumption | omega | (simp only [lens]; omega)) only [eqs, ↓gvd_succ, ↓gvd_zero, ↓and_of, im_of, im_of trivial, vals, lsts, tys, hP, hst, initS, Nat.reduceBEq, Nat.reduceAdd, Nat.reduceMul, Nat.reduceSub, Nat.reduceDiv, Nat.reduceMod, Nat.reducePow, Nat.reduceLT, Nat.reduceLeDiff, Nat.reduceEqDiff, Int.reduceAdd, Int.reduceSub, Int.reduceNeg, Int.reduceMul, Int.reduceToNat, Int.reducePow, Int.reduceLE, Int.reduceLT, Int.reduceEq, Int.reduceNe, reduceIte, reduceCtorEq, ne_eq, not_true_eq_false, not_false_eq_true, imp_self, implies_true, bls, eq_self, h]
    refine E_callA (hP ▸ s_lives9 _ hG) ⟨rfl, fun T4 f4 => ?_⟩
    simp (disch := first | assumption | omega | (simp only [lens]; omega)) only [eqs, ↓gvd_succ, ↓gvd_zero, ↓and_of, im_of, im_of trivial, vals, lsts, tys, hP, hst, initS, Nat.reduceBEq, Nat.reduceAdd, Nat.reduceMul, Nat.reduceSub, Nat.reduceDiv, Nat.reduceMod, Nat.reducePow, Nat.reduceLT, Nat.reduceLeDiff, Nat.reduceEqDiff, Int.reduceAdd, Int.reduceSub, Int.reduceNeg, Int.reduceMul, Int.reduceToNat, Int.reducePow, Int.reduceLE, Int.reduceLT, Int.reduceEq, Int.reduceNe, reduceIte, reduceCtorEq, ne_eq, not_true_eq_false, not_false_eq_true, imp_self, implies_true, bls, eq_self]
    exact hK _ ((((e0.trans e1).trans e2).trans e3).trans f4)
  simp (disch := first | assumption | omega | (simp only [lens]; omega)) only [eqs, ↓gvd_succ, ↓gvd_zero, ↓and_of, im_of, im_of trivial, vals, lsts, tys, hP, hst, initS, Nat.reduceBEq, Nat.reduceAdd, Nat.reduceMul, Nat.reduceSub, Nat.reduceDiv, Nat.reduceMod, Nat.reducePow, Nat.reduceLT, Nat.reduceLeDiff, Nat.reduceEqDiff, Int.reduceAdd, Int.reduceSub, Int.reduceNeg, Int.reduceMul, Int.reduceToNat, Int.reducePow, Int.reduceLE, Int.reduceLT, Int.reduceEq, Int.reduceNe, reduceIte, reduceCtorEq, ne_eq, not_true_eq_false, not_false_eq_true, imp_self, implies_true, bls, eq_self, h, gA, gB, sA, sB]
  refine fun _ => ?_
  refine C_dec (fun h2 => ?_) (fun h2 => ?_)
  · simp (disch := first | assumption | omega | (simp only [lens]; omega)) only [eqs, ↓gvd_succ, ↓gvd_zero, ↓and_of, im_of, im_of trivial, vals, lsts, tys, hP, hst, initS, Nat.reduceBEq, Nat.reduceAdd, Nat.reduceMul, Nat.reduceSub, Nat.reduceDiv, Nat.reduceMod, Nat.reducePow, Nat.reduceLT, Nat.reduceLeDiff, Nat.reduceEqDiff, Int.reduceAdd, Int.reduceSub, Int.reduceNeg, Int.reduceMul, Int.reduceToNat, Int.reducePow, Int.reduceLE, Int.reduceLT, Int.reduceEq, Int.reduceNe, reduceIte, reduceCtorEq, ne_eq, not_true_eq_false, not_false_eq_true, imp_self, implies_true, bls, eq_self]
    refine E_callA (hP ▸ s_lives9 _ hG) ⟨rfl, fun T4 f4 => ?_⟩
    simp (disch := first | assumption | omega | (simp only [lens]; omega)) only [eqs, ↓gvd_succ, ↓gvd_zero, ↓and_of, im_of, im_of trivial, vals, lsts, tys, hP, hst, initS, Nat.reduceBEq, Nat.reduceAdd, Nat.reduceMul, Nat.reduceSub, Nat.reduceDiv, Nat.reduceMod, Nat.reducePow, Nat.reduceLT, Nat.reduceLeDiff, Nat.reduceEqDiff, Int.reduceAdd, Int.reduceSub, Int.reduceNeg, Int.reduceMul, Int.reduceToNat, Int.reducePow, Int.reduceLE, Int.reduceLT, Int.reduceEq, Int.reduceNe, reduceIte, reduceCtorEq, ne_eq, not_true_eq_false, not_false_eq_true, imp_self, implies_true, bls, eq_self]
    exact hK _ ((((e0.trans e1).trans e2).trans e3).trans f4)
  have k1 : (limbs z.natAbs).length ≤ 60 := by omega
  have k2 : (limbs w.natAbs).length ≤ 60 := by omega
  have k3 := zlen_add1 k1 k2
  have fA : fineD (dNum z) := fine_num (by omega)
  have fB : fineD (dNum w) := fine_num (by omega)
  have fJ : fineD (dNum (z + w)) := fine_num (by omega)
  have gA := (atA.ext Ext.refl).get
  have gB := (atB.ext Ext.refl).get
  simp (disch := first | assumption | omega | (simp only [lens]; omega)) only [eqs, ↓gvd_succ, ↓gvd_zero, ↓and_of, im_of, im_of trivial, vals, lsts, tys, hP, hst, initS, Nat.reduceBEq, Nat.reduceAdd, Nat.reduceMul, Nat.reduceSub, Nat.reduceDiv, Nat.reduceMod, Nat.reducePow, Nat.reduceLT, Nat.reduceLeDiff, Nat.reduceEqDiff, Int.reduceAdd, Int.reduceSub, Int.reduceNeg, Int.reduceMul, Int.reduceToNat, Int.reducePow, Int.reduceLE, Int.reduceLT, Int.reduceEq, Int.reduceNe, reduceIte, reduceCtorEq, ne_eq, not_true_eq_false, not_false_eq_true, imp_self, implies_true, bls, eq_self, gA, gB, lA, lB, zrD2, zD7, List.append_nil]
  refine E_callA (hP ▸ s_Do _ hG) ⟨1, _, [(dNum z), (dNum w)], rfl, DS.own At.mk0 (.cons ((hA.ext e3).ext (.add _)).dc (.cons ((hB.ext e3).ext (.add _)).dc .nil)), by simp, fine2 fA fB, fun v T4 f4 hJ => ?_⟩
  have e4 : Ext T3 T4 := (Ext.add _).trans f4
  have hdo : doM 1 [(dNum z), (dNum w)] = ((dNum (z + w)), 0) := (by rw [doM_num (by omega)]; exact told_small (by omega))
  have hd1 := congrArg Prod.fst hdo
  have hd2 := congrArg Prod.snd hdo
  dsimp only at hd1 hd2
  rw [hd1] at hJ
  rw [hd2]
  clear hdo hd1 hd2
  obtain ⟨aJ, rfl, nJ⟩ := hJ.invN
  have lJ := nJ.leaf
  have x4 := Nat.le_trans hX ((((e0.trans e1).trans e2).trans e3).trans e4).len
  have gB := fun y => (atB.ext e4).gr y
  simp (disch := first | assumption | omega | (simp only [lens]; omega)) only [eqs, ↓gvd_succ, ↓gvd_zero, ↓and_of, im_of, im_of trivial, vals, lsts, tys, hP, hst, initS, Nat.reduceBEq, Nat.reduceAdd, Nat.reduceMul, Nat.reduceSub, Nat.reduceDiv, Nat.reduceMod, Nat.reducePow, Nat.reduceLT, Nat.reduceLeDiff, Nat.reduceEqDiff, Int.reduceAdd, Int.reduceSub, Int.reduceNeg, Int.reduceMul, Int.reduceToNat, Int.reducePow, Int.reduceLE, Int.reduceLT, Int.reduceEq, Int.reduceNe, reduceIte, reduceCtorEq, ne_eq, not_true_eq_false, not_false_eq_true, imp_self, implies_true, bls, eq_self, gB, lJ, x4, zD_map, lB, zrD2, zD7, List.append_nil]
  refine E_callA (hP ▸ s_Do _ hG) ⟨2, _, [(dNum (z + w)), (dNum w)], rfl, DS.own At.mk1 (.cons ((hJ.ext Ext.refl).ext (.add _)).dc (.cons ((hB.ext (e3.trans e4)).ext (.add _)).dc .nil)), by simp, fine2 fJ fB, fun v T5 f5 hH => ?_⟩
  have e5 : Ext T4 T5 := (Ext.add _).trans f5
  have atJ := At.mk0.ext f5
  have hdo : doM 2 [(dNum (z + w)), (dNum w)] = ((dNum z), 0) := (by rw [doM_num (by omega)]; show toldM (z + w - w) = _; rw [Int.add_sub_cancel]; exact told_small (by omega))
  have hd1 := congrArg Prod.fst hdo
  have hd2 := congrArg Prod.snd hdo
  dsimp only at hd1 hd2
  rw [hd1] at hH
  rw [hd2]
  clear hdo hd1 hd2
  obtain ⟨aH, rfl, nH⟩ := hH.invN
  have lH := nH.leaf
  have x5 := Nat.le_trans hX (((((e0.trans e1).trans e2).trans e3).trans e4).trans e5).len
  have gA := fun y => (atA.ext (e4.trans e5)).gr y
  simp (disch := first | assumption | omega | (simp only [lens]; omega)) only [eqs, ↓gvd_succ, ↓gvd_zero, ↓and_of, im_of, im_of trivial, vals, lsts, tys, hP, hst, initS, Nat.reduceBEq, Nat.reduceAdd, Nat.reduceMul, Nat.reduceSub, Nat.reduceDiv, Nat.reduceMod, Nat.reducePow, Nat.reduceLT, Nat.reduceLeDiff, Nat.reduceEqDiff, Int.reduceAdd, Int.reduceSub, Int.reduceNeg, Int.reduceMul, Int.reduceToNat, Int.reducePow, Int.reduceLE, Int.reduceLT, Int.reduceEq, Int.reduceNe, reduceIte, reduceCtorEq, ne_eq, not_true_eq_false, not_false_eq_true, imp_self, implies_true, bls, eq_self, gA, lH, x5, zD_map, lA, zD7, List.append_nil]
  obtain ⟨T6, hT6⟩ : ∃ T, T5 ++ [some [.val (.int .i64 1), .val (.bool (decide (z < 0))), aH, .val (.bool false), .val (.string ⟨#[]⟩), .val (.slice none 0 0), .val (.slice none 0 0)]] = T := ⟨_, rfl⟩
  have atH : At T6 T5.length _ := hT6 ▸ At.mk0
  have e6 : Ext T5 T6 := ⟨_, hT6.symm⟩
  rw [hT6]
  clear hT6
  refine E_call (hP ▸ s_Same3 2) ⟨_, _, _, _, rfl, (hH.ext e6).da, (hA.ext (((e3.trans e4).trans e5).trans e6)).da, sz_num, fA.1, fA.1, fun T7 e7 => ?_⟩
  rw [sm_self]
  by_cases hw0 : w = 0
  · have gA := (atA.ext (((e4.trans e5).trans e6).trans e7)).get
    have gB := (atB.ext (((e4.trans e5).trans e6).trans e7)).get
    simp (disch := first | assumption | omega | (simp only [lens]; omega)) only [eqs, ↓gvd_succ, ↓gvd_zero, ↓and_of, im_of, im_of trivial, vals, lsts, tys, hP, hst, initS, Nat.reduceBEq, Nat.reduceAdd, Nat.reduceMul, Nat.reduceSub, Nat.reduceDiv, Nat.reduceMod, Nat.reducePow, Nat.reduceLT, Nat.reduceLeDiff, Nat.reduceEqDiff, Int.reduceAdd, Int.reduceSub, Int.reduceNeg, Int.reduceMul, Int.reduceToNat, Int.reducePow, Int.reduceLE, Int.reduceLT, Int.reduceEq, Int.reduceNe, reduceIte, reduceCtorEq, ne_eq, not_true_eq_false, not_false_eq_true, imp_self, implies_true, bls, eq_self, gA, gB, lA, lB, zrD2, zD7, List.append_nil]
    refine E_callA (hP ▸ s_Do _ hG) ⟨4, _, [(dNum z), (dNum w)], rfl, DS.own At.mk0 (.cons ((hA.ext ((((e3.trans e4).trans e5).trans e6).trans e7)).ext (.add _)).dc (.cons ((hB.ext ((((e3.trans e4).trans e5).trans e6).trans e7)).ext (.add _)).dc .nil)), by simp, fine2 fA fB, fun v T8 f8 hQ => ?_⟩
    have e8 : Ext T7 T8 := (Ext.add _).trans f8
    have hdo : doM 4 [(dNum z), (dNum w)] = ((dNil), 3) := (by rw [doM_num (by omega)]; exact if_pos hw0)
    have hd1 := congrArg Prod.fst hdo
    have hd2 := congrArg Prod.snd hdo
    dsimp only at hd1 hd2
    rw [hd1] at hQ
    rw [hd2]
    clear hdo hd1 hd2
    obtain ⟨aQ, rfl, nQ⟩ := hQ.invZ
    have lQ := nQ.leaf
    have x8 := Nat.le_trans hX ((((((((e0.trans e1).trans e2).trans e3).trans e4).trans e5).trans e6).trans e7).trans e8).len
    have gA := fun y => (atA.ext ((((e4.trans e5).trans e6).trans e7).trans e8)).gr y
    have gB := fun y => (atB.ext ((((e4.trans e5).trans e6).trans e7).trans e8)).gr y
    simp (disch := first | assumption | omega | (simp only [lens]; omega)) only [eqs, ↓gvd_succ, ↓gvd_zero, ↓and_of, im_of, im_of trivial, vals, lsts, tys, hP, hst, initS, Nat.reduceBEq, Nat.reduceAdd, Nat.reduceMul, Nat.reduceSub, Nat.reduceDiv, Nat.reduceMod, Nat.reducePow, Nat.reduceLT, Nat.reduceLeDiff, Nat.reduceEqDiff, Int.reduceAdd, Int.reduceSub, Int.reduceNeg, Int.reduceMul, Int.reduceToNat, Int.reducePow, Int.reduceLE, Int.reduceLT, Int.reduceEq, Int.reduceNe, reduceIte, reduceCtorEq, ne_eq, not_true_eq_false, not_false_eq_true, imp_self, implies_true, bls, eq_self, gA, gB, lQ, x8, zD_map, lA, lB, zrD2, zD7, List.append_nil]
    refine E_callA (hP ▸ s_Do _ hG) ⟨5, _, [(dNum z), (dNum w)], rfl, DS.own At.mk1 (.cons ((hA.ext (((((e3.trans e4).trans e5).trans e6).trans e7).trans e8)).ext (.add _)).dc (.cons ((hB.ext (((((e3.trans e4).trans e5).trans e6).trans e7).trans e8)).ext (.add _)).dc .nil)), by simp, fine2 fA fB, fun v T9 f9 hR => ?_⟩
    have e9 : Ext T8 T9 := (Ext.add _).trans f9
    have atQ := At.mk0.ext f9
    have hdo : doM 5 [(dNum z), (dNum w)] = ((dNil), 3) := (by rw [doM_num (by omega)]; exact if_pos hw0)
    have hd1 := congrArg Prod.fst hdo
    have hd2 := congrArg Prod.snd hdo
    dsimp only at hd1 hd2
    rw [hd1] at hR
    rw [hd2]
    clear hdo hd1 hd2
    obtain ⟨aR, rfl, nR⟩ := hR.invZ
    have lR := nR.leaf
    have x9 := Nat.le_trans hX (((((((((e0.trans e1).trans e2).trans e3).trans e4).trans e5).trans e6).trans e7).trans e8).trans e9).len
    have sB := (n2.ext ((((((e3.trans e4).trans e5).trans e6).trans e7).trans e8).trans e9)).grow
    have gB := fun y => (atB.ext (((((e4.trans e5).trans e6).trans e7).trans e8).trans e9)).gr y
    simp (disch := first | assumption | omega | (simp only [lens]; omega)) only [eqs, ↓gvd_succ, ↓gvd_zero, ↓and_of, im_of, im_of trivial, vals, lsts, tys, hP, hst, initS, Nat.reduceBEq, Nat.reduceAdd, Nat.reduceMul, Nat.reduceSub, Nat.reduceDiv, Nat.reduceMod, Nat.reducePow, Nat.reduceLT, Nat.reduceLeDiff, Nat.reduceEqDiff, Int.reduceAdd, Int.reduceSub, Int.reduceNeg, Int.reduceMul, Int.reduceToNat, Int.reducePow, Int.reduceLE, Int.reduceLT, Int.reduceEq, Int.reduceNe, reduceIte, reduceCtorEq, ne_eq, not_true_eq_false, not_false_eq_true, imp_self, implies_true, bls, eq_self, gB, lR, x9, zD_map, lB, zD7, List.append_nil, sB]
    refine C_dec (fun h3 => ?_) (fun h3 => ?_)
    rotate_left
    · exact absurd (by rw [hw0, show (0 : Int).natAbs = 0 from rfl, limbs_zero]; rfl) h3
    simp (disch := first | assumption | omega | (simp only [lens]; omega)) only [eqs, ↓gvd_succ, ↓gvd_zero, ↓and_of, im_of, im_of trivial, vals, lsts, tys, hP, hst, initS, Nat.reduceBEq, Nat.reduceAdd, Nat.reduceMul, Nat.reduceSub, Nat.reduceDiv, Nat.reduceMod, Nat.reducePow, Nat.reduceLT, Nat.reduceLeDiff, Nat.reduceEqDiff, Int.reduceAdd, Int.reduceSub, Int.reduceNeg, Int.reduceMul, Int.reduceToNat, Int.reducePow, Int.reduceLE, Int.reduceLT, Int.reduceEq, Int.reduceNe, reduceIte, reduceCtorEq, ne_eq, not_true_eq_false, not_false_eq_true, imp_self, implies_true, bls, eq_self]
    refine E_callA (hP ▸ s_lives9 _ hG) ⟨rfl, fun TT fT => ?_⟩
    simp (disch := first | assumption | omega | (simp only [lens]; omega)) only [eqs, ↓gvd_succ, ↓gvd_zero, ↓and_of, im_of, im_of trivial, vals, lsts, tys, hP, hst, initS, Nat.reduceBEq, Nat.reduceAdd, Nat.reduceMul, Nat.reduceSub, Nat.reduceDiv, Nat.reduceMod, Nat.reducePow, Nat.reduceLT, Nat.reduceLeDiff, Nat.reduceEqDiff, Int.reduceAdd, Int.reduceSub, Int.reduceNeg, Int.reduceMul, Int.reduceToNat, Int.reducePow, Int.reduceLE, Int.reduceLT, Int.reduceEq, Int.reduceNe, reduceIte, reduceCtorEq, ne_eq, not_true_eq_false, not_false_eq_true, imp_self, implies_true, bls, eq_self]
    exact hK _ ((((((((((e0.trans e1).trans e2).trans e3).trans e4).trans e5).trans e6).trans e7).trans e8).trans e9).trans ((Ext.add _).trans fT))
  · have gA := (atA.ext (((e4.trans e5).trans e6).trans e7)).get
    have gB := (atB.ext (((e4.trans e5).trans e6).trans e7)).get
    simp (disch := first | assumption | omega | (simp only [lens]; omega)) only [eqs, ↓gvd_succ, ↓gvd_zero, ↓and_of, im_of, im_of trivial, vals, lsts, tys, hP, hst, initS, Nat.reduceBEq, Nat.reduceAdd, Nat.reduceMul, Nat.reduceSub, Nat.reduceDiv, Nat.reduceMod, Nat.reducePow, Nat.reduceLT, Nat.reduceLeDiff, Nat.reduceEqDiff, Int.reduceAdd, Int.reduceSub, Int.reduceNeg, Int.reduceMul, Int.reduceToNat, Int.reducePow, Int.reduceLE, Int.reduceLT, Int.reduceEq, Int.reduceNe, reduceIte, reduceCtorEq, ne_eq, not_true_eq_false, not_false_eq_true, imp_self, implies_true, bls, eq_self, gA, gB, lA, lB, zrD2, zD7, List.append_nil]
    refine E_callA (hP ▸ s_Do _ hG) ⟨4, _, [(dNum z), (dNum w)], rfl, DS.own At.mk0 (.cons ((hA.ext ((((e3.trans e4).trans e5).trans e6).trans e7)).ext (.add _)).dc (.cons ((hB.ext ((((e3.trans e4).trans e5).trans e6).trans e7)).ext (.add _)).dc .nil)), by simp, fine2 fA fB, fun v T8 f8 hQ => ?_⟩
    have e8 : Ext T7 T8 := (Ext.add _).trans f8
    have hdo : doM 4 [(dNum z), (dNum w)] = ((dNum (z.tdiv w)), 0) := (by rw [doM_num (by omega)]; exact (if_neg hw0).trans (told_small (Nat.le_trans (zlen_tdiv k1) (by omega))))
    have hd1 := congrArg Prod.fst hdo
    have hd2 := congrArg Prod.snd hdo
    dsimp only at hd1 hd2
    rw [hd1] at hQ
    rw [hd2]
    clear hdo hd1 hd2
    obtain ⟨aQ, rfl, nQ⟩ := hQ.invN
    have lQ := nQ.leaf
    have x8 := Nat.le_trans hX ((((((((e0.trans e1).trans e2).trans e3).trans e4).trans e5).trans e6).trans e7).trans e8).len
    have gA := fun y => (atA.ext ((((e4.trans e5).trans e6).trans e7).trans e8)).gr y
    have gB := fun y => (atB.ext ((((e4.trans e5).trans e6).trans e7).trans e8)).gr y
    simp (disch := first | assumption | omega | (simp only [lens]; omega)) only [eqs, ↓gvd_succ, ↓gvd_zero, ↓and_of, im_of, im_of trivial, vals, lsts, tys, hP, hst, initS, Nat.reduceBEq, Nat.reduceAdd, Nat.reduceMul, Nat.reduceSub, Nat.reduceDiv, Nat.reduceMod, Nat.reducePow, Nat.reduceLT, Nat.reduceLeDiff, Nat.reduceEqDiff, Int.reduceAdd, Int.reduceSub, Int.reduceNeg, Int.reduceMul, Int.reduceToNat, Int.reducePow, Int.reduceLE, Int.reduceLT, Int.reduceEq, Int.reduceNe, reduceIte, reduceCtorEq, ne_eq, not_true_eq_false, not_false_eq_true, imp_self, implies_true, bls, eq_self, gA, gB, lQ, x8, zD_map, lA, lB, zrD2, zD7, List.append_nil]
    refine E_callA (hP ▸ s_Do _ hG) ⟨5, _, [(dNum z), (dNum w)], rfl, DS.own At.mk1 (.cons ((hA.ext (((((e3.trans e4).trans e5).trans e6).trans e7).trans e8)).ext (.add _)).dc (.cons ((hB.ext (((((e3.trans e4).trans e5).trans e6).trans e7).trans e8)).ext (.add _)).dc .nil)), by simp, fine2 fA fB, fun v T9 f9 hR => ?_⟩
    have e9 : Ext T8 T9 := (Ext.add _).trans f9
    have atQ := At.mk0.ext f9
    have hdo : doM 5 [(dNum z), (dNum w)] = ((dNum (z.tmod w)), 0) := (by rw [doM_num (by omega)]; exact (if_neg hw0).trans (told_small (Nat.le_trans (zlen_tmod hw0 k2) (by omega))))
    have hd1 := congrArg Prod.fst hdo
    have hd2 := congrArg Prod.snd hdo
    dsimp only at hd1 hd2
    rw [hd1] at hR
    rw [hd2]
    clear hdo hd1 hd2
    obtain ⟨aR, rfl, nR⟩ := hR.invN
    have lR := nR.leaf
    have x9 := Nat.le_trans hX (((((((((e0.trans e1).trans e2).trans e3).trans e4).trans e5).trans e6).trans e7).trans e8).trans e9).len
    have fQ : fineD (dNum (z.tdiv w)) := fine_num (Nat.le_trans (zlen_tdiv k1) (by omega))
    have fR : fineD (dNum (z.tmod w)) := fine_num (Nat.le_trans (zlen_tmod hw0 k2) (by omega))
    have fM : fineD (dNum (z.tdiv w * w)) := fine_num (Nat.le_trans (zlen_back k1) (by omega))
    have sB := (n2.ext ((((((e3.trans e4).trans e5).trans e6).trans e7).trans e8).trans e9)).grow
    have gB := fun y => (atB.ext (((((e4.trans e5).trans e6).trans e7).trans e8).trans e9)).gr y
    have gQ := fun y => (atQ.ext Ext.refl).gr y
    have gA := fun y => (atA.ext (((((e4.trans e5).trans e6).trans e7).trans e8).trans e9)).gr y
    simp (disch := first | assumption | omega | (simp only [lens]; omega)) only [eqs, ↓gvd_succ, ↓gvd_zero, ↓and_of, im_of, im_of trivial, vals, lsts, tys, hP, hst, initS, Nat.reduceBEq, Nat.reduceAdd, Nat.reduceMul, Nat.reduceSub, Nat.reduceDiv, Nat.reduceMod, Nat.reducePow, Nat.reduceLT, Nat.reduceLeDiff, Nat.reduceEqDiff, Int.reduceAdd, Int.reduceSub, Int.reduceNeg, Int.reduceMul, Int.reduceToNat, Int.reducePow, Int.reduceLE, Int.reduceLT, Int.reduceEq, Int.reduceNe, reduceIte, reduceCtorEq, ne_eq, not_true_eq_false, not_false_eq_true, imp_self, implies_true, bls, eq_self, gB, gQ, gA, lR, x9, zD_map, lB, lQ, lA, zD7, List.append_nil, sB]
    refine C_dec (fun h3 => ?_) (fun h3 => ?_)
    · exfalso
      have h4 : limbs w.natAbs = [] := List.eq_nil_of_length_eq_zero (by omega)
      have h5 := val_limbs w.natAbs
      rw [h4] at h5
      exact hw0 (Int.natAbs_eq_zero.1 h5.symm)
    have gQ := fun y => (atQ.ext Ext.refl).gr y
    have gB := fun y => (atB.ext (((((e4.trans e5).trans e6).trans e7).trans e8).trans e9)).gr y
    simp (disch := first | assumption | omega | (simp only [lens]; omega)) only [eqs, ↓gvd_succ, ↓gvd_zero, ↓and_of, im_of, im_of trivial, vals, lsts, tys, hP, hst, initS, Nat.reduceBEq, Nat.reduceAdd, Nat.reduceMul, Nat.reduceSub, Nat.reduceDiv, Nat.reduceMod, Nat.reducePow, Nat.reduceLT, Nat.reduceLeDiff, Nat.reduceEqDiff, Int.reduceAdd, Int.reduceSub, Int.reduceNeg, Int.reduceMul, Int.reduceToNat, Int.reducePow, Int.reduceLE, Int.reduceLT, Int.reduceEq, Int.reduceNe, reduceIte, reduceCtorEq, ne_eq, not_true_eq_false, not_false_eq_true, imp_self, implies_true, bls, eq_self, gQ, gB, lR, x9, zD_map, lQ, lB, zrD2, zD7, List.append_nil]
    refine E_callA (hP ▸ s_Do _ hG) ⟨3, _, [(dNum (z.tdiv w)), (dNum w)], rfl, DS.own At.mk1 (.cons ((hQ.ext e9).ext (.add _)).dc (.cons ((hB.ext ((((((e3.trans e4).trans e5).trans e6).trans e7).trans e8).trans e9)).ext (.add _)).dc .nil)), by simp, fine2 fQ fB, fun v T10 f10 hM => ?_⟩
    have e10 : Ext T9 T10 := (Ext.add _).trans f10
    have atR := At.mk0.ext f10
    have hdo : doM 3 [(dNum (z.tdiv w)), (dNum w)] = ((dNum (z.tdiv w * w)), 0) := (by rw [doM_num (by omega)]; exact told_small (Nat.le_trans (zlen_back k1) (by omega)))
    have hd1 := congrArg Prod.fst hdo
    have hd2 := congrArg Prod.snd hdo
    dsimp only at hd1 hd2
    rw [hd1] at hM
    rw [hd2]
    clear hdo hd1 hd2
    obtain ⟨aM, rfl, nM⟩ := hM.invN
    have lM := nM.leaf
    have x10 := Nat.le_trans hX ((((((((((e0.trans e1).trans e2).trans e3).trans e4).trans e5).trans e6).trans e7).trans e8).trans e9).trans e10).len
    have gR := fun y => (atR.ext Ext.refl).gr y
    simp (disch := first | assumption | omega | (simp only [lens]; omega)) only [eqs, ↓gvd_succ, ↓gvd_zero, ↓and_of, im_of, im_of trivial, vals, lsts, tys, hP, hst, initS, Nat.reduceBEq, Nat.reduceAdd, Nat.reduceMul, Nat.reduceSub, Nat.reduceDiv, Nat.reduceMod, Nat.reducePow, Nat.reduceLT, Nat.reduceLeDiff, Nat.reduceEqDiff, Int.reduceAdd, Int.reduceSub, Int.reduceNeg, Int.reduceMul, Int.reduceToNat, Int.reducePow, Int.reduceLE, Int.reduceLT, Int.reduceEq, Int.reduceNe, reduceIte, reduceCtorEq, ne_eq, not_true_eq_false, not_false_eq_true, imp_self, implies_true, bls, eq_self, gR, lM, x10, zD_map, lR, zrD2, zD7, List.append_nil]
    refine E_callA (hP ▸ s_Do _ hG) ⟨1, _, [(dNum (z.tdiv w * w)), (dNum (z.tmod w))], rfl, DS.own At.mk1 (.cons ((hM.ext Ext.refl).ext (.add _)).dc (.cons ((hR.ext e10).ext (.add _)).dc .nil)), by simp, fine2 fM fR, fun v T11 f11 hS => ?_⟩
    have e11 : Ext T10 T11 := (Ext.add _).trans f11
    have atM := At.mk0.ext f11
    have hdo : doM 1 [(dNum (z.tdiv w * w)), (dNum (z.tmod w))] = ((dNum z), 0) := (by rw [doM_num (by omega)]; show toldM (z.tdiv w * w + z.tmod w) = _; rw [tdiv_back]; exact told_small (by omega))
    have hd1 := congrArg Prod.fst hdo
    have hd2 := congrArg Prod.snd hdo
    dsimp only at hd1 hd2
    rw [hd1] at hS
    rw [hd2]
    clear hdo hd1 hd2
    obtain ⟨aS, rfl, nS⟩ := hS.invN
    have lS := nS.leaf
    have x11 := Nat.le_trans hX (((((((((((e0.trans e1).trans e2).trans e3).trans e4).trans e5).trans e6).trans e7).trans e8).trans e9).trans e10).trans e11).len
    have gA := fun y => (atA.ext (((((((e4.trans e5).trans e6).trans e7).trans e8).trans e9).trans e10).trans e11)).gr y
    simp (disch := first | assumption | omega | (simp only [lens]; omega)) only [eqs, ↓gvd_succ, ↓gvd_zero, ↓and_of, im_of, im_of trivial, vals, lsts, tys, hP, hst, initS, Nat.reduceBEq, Nat.reduceAdd, Nat.reduceMul, Nat.reduceSub, Nat.reduceDiv, Nat.reduceMod, Nat.reducePow, Nat.reduceLT, Nat.reduceLeDiff, Nat.reduceEqDiff, Int.reduceAdd, Int.reduceSub, Int.reduceNeg, Int.reduceMul, Int.reduceToNat, Int.reducePow, Int.reduceLE, Int.reduceLT, Int.reduceEq, Int.reduceNe, reduceIte, reduceCtorEq, ne_eq, not_true_eq_false, not_false_eq_true, imp_self, implies_true, bls, eq_self, gA, lS, x11, zD_map, lA, zD7, List.append_nil]
    obtain ⟨T12, hT12⟩ : ∃ T, T11 ++ [some [.val (.int .i64 1), .val (.bool (decide (z < 0))), aS, .val (.bool false), .val (.string ⟨#[]⟩), .val (.slice none 0 0), .val (.slice none 0 0)]] = T := ⟨_, rfl⟩
    have atS : At T12 T11.length _ := hT12 ▸ At.mk0
    have e12 : Ext T11 T12 := ⟨_, hT12.symm⟩
    rw [hT12]
    clear hT12
    refine E_call (hP ▸ s_Same3 2) ⟨_, _, _, _, rfl, (hS.ext e12).da, (hA.ext (((((((((e3.trans e4).trans e5).trans e6).trans e7).trans e8).trans e9).trans e10).trans e11).trans e12)).da, sz_num, fA.1, fA.1, fun T13 e13 => ?_⟩
    rw [sm_self]
    simp (disch := first | assumption | omega | (simp only [lens]; omega)) only [eqs, ↓gvd_succ, ↓gvd_zero, ↓and_of, im_of, im_of trivial, vals, lsts, tys, hP, hst, initS, Nat.reduceBEq, Nat.reduceAdd, Nat.reduceMul, Nat.reduceSub, Nat.reduceDiv, Nat.reduceMod, Nat.reducePow, Nat.reduceLT, Nat.reduceLeDiff, Nat.reduceEqDiff, Int.reduceAdd, Int.reduceSub, Int.reduceNeg, Int.reduceMul, Int.reduceToNat, Int.reducePow, Int.reduceLE, Int.reduceLT, Int.reduceEq, Int.reduceNe, reduceIte, reduceCtorEq, ne_eq, not_true_eq_false, not_false_eq_true, imp_self, implies_true, bls, eq_self]
    refine E_callA (hP ▸ s_lives9 _ hG) ⟨rfl, fun T14 e14 => ?_⟩
    simp (disch := first | assumption | omega | (simp only [lens]; omega)) only [eqs, ↓gvd_succ, ↓gvd_zero, ↓and_of, im_of, im_of trivial, vals, lsts, tys, hP, hst, initS, Nat.reduceBEq, Nat.reduceAdd, Nat.reduceMul, Nat.reduceSub, Nat.reduceDiv, Nat.reduceMod, Nat.reducePow, Nat.reduceLT, Nat.reduceLeDiff, Nat.reduceEqDiff, Int.reduceAdd, Int.reduceSub, Int.reduceNeg, Int.reduceMul, Int.reduceToNat, Int.reducePow, Int.reduceLE, Int.reduceLT, Int.reduceEq, Int.reduceNe, reduceIte, reduceCtorEq, ne_eq, not_true_eq_false, not_false_eq_true, imp_self, implies_true, bls, eq_self]
    exact hK _ ((((((((((((((e0.trans e1).trans e2).trans e3).trans e4).trans e5).trans e6).trans e7).trans e8).trans e9).trans e10).trans e11).trans e12).trans e13).trans e14)
end Go.Proofs.Pv
