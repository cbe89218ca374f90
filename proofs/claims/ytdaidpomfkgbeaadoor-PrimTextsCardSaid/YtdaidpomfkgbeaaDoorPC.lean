/- PrimTexts, walked. -/
import Derived.Test.YtdaidpomfkgbeaaDoorP9
import Derived.Test.YtdaidpomfkgbeaaDoorE23
set_option linter.unusedSimpArgs false
set_option linter.unusedVariables false
namespace Go.Proofs.Pv
open Go Go.RowKit Go.Proofs
set_option maxRecDepth 20000

theorem doM_24 {a b : ByteArray} (h : a.size + b.size ≤ 1024) : doM 24 [dStr a, dStr b] = (dStr (a ++ b), 0) := by
  unfold doM
  rw [if_neg (by simp [plainM]), if_neg (by rw [arM_2 (by omega)]; simp), doL_gt (by omega)]
  have h2 : ¬(1024 < sumT [dStr a, dStr b]) := by simp [sumT, dStr, Dt.tx]; omega
  have q : ∀ s, (dStr s).kd = 4 := fun _ => rfl
  have q2 : ∀ s, (dStr s).tx = s := fun _ => rfl
  simp [doK, textsM, h2, q, q2]
theorem doM_25 {a b : ByteArray} : doM 25 [dStr a, dStr b] = (dBool (decide (a = b)), 0) := by
  unfold doM
  rw [if_neg (by simp [plainM]), if_neg (by rw [arM_2 (by omega)]; simp), doL_gt (by omega)]
  simp [doK, textsM, dStr, Dt.tx, Dt.kd]
theorem doM_23 {a : ByteArray} : doM 23 [dStr a] = (dNum (a.size : Nat), 0) := by
  unfold doM
  rw [if_neg (by simp [plainM]), if_neg (by rw [arM_1 (by omega)]; simp), doL_gt (by omega)]
  simp [doK, textsM, sumT, dStr, Dt.tx, Dt.kd]
theorem doM_26 {g b : Bool} {l : List Nat} {a : ByteArray} : doM 26 [.mk 3 g l b a [] []] = (dStr a, 0) := by
  unfold doM
  rw [if_neg (by simp [plainM]), if_neg (by rw [arM_1 (by omega)]; simp), doL_gt (by omega)]
  simp [doK, Dt.tx, Dt.kd]
theorem doM_27 {s b : Bool} {l : List Nat} {a : ByteArray} {z : Int} (h : iv s (val l) = z) : doM 27 [.mk 1 s l b a [] []] = (dStr (bstr (txtI z)), 0) := by
  subst h
  unfold doM
  rw [if_neg (by simp [plainM]), if_neg (by rw [arM_1 (by omega)]; simp), doL_gt (by omega)]
  simp [doK, Dt.kd]
  rfl
theorem gvd_anil {m : List Oper} {s : Sl} {n : Nat} : gvd (List.append [] m) s n = gvd m s n := rfl
theorem gvd_asucc {o : Oper} {l m : List Oper} {s : Sl} {n : Nat} : gvd (List.append (o :: l) m) s (n + 1) = gvd (List.append l m) s n := rfl
theorem gvd_azero {op : Op} {t : TypeId} {p : String} {af : Array Edge} {g : Option (Nat × Bool)} {k : Nat} {l m : List Oper} {s : Sl} : gvd (List.append (⟨some k, op, t, p, af, g⟩ :: l) m) s 0 = Sl.get s k := rfl
theorem eqM_str {a b : ByteArray} : eqM (dStr a) (dStr b) = false := by simp [eqM, dStr, Dt.kd]
theorem size_app {a b : ByteArray} : (a ++ b).size = a.size + b.size := ByteArray.size_append
theorem sz_num {z : Int} : (dNum z).sz < 2 := by unfold dNum; rw [sz_mk]; simp [szs]
def RTextsL (xs : List AV) (st : St) (K : AV → St → Prop) : Prop := ∃ a b x s l, xs = [.val (.string a), .val (.string b), x] ∧ a.size ≤ 140737488355328 ∧ b.size ≤ 140737488355328 ∧ Wh st x s l ∧ anyw st (.bool true) K
set_option maxHeartbeats 4000000 in
theorem s_PrimTexts : ∀ w0, GP w0 → PSpecAt Tryd.prog w0 3 RTextsL := by
  refine gspec_of (fn := Tryd.f3) 3 [.tmp 6] (by kernel_rfl) rfl rfl (by kernel_rfl) mixed (by rintro _ _ _ ⟨a, b, x, s, l, rfl, _⟩; rfl) ?_
  rintro X _ st K hP hst hG ⟨a, b, x, s, l, rfl, ha, hb, hx, hK⟩
  have hX : X.st1.length ≤ st.length := by rw [hst]; omega
  obtain ⟨c, rfl, hc, lc⟩ := hx.iv
  refine vc_V ?_
  simp (disch := first | assumption | omega | (simp only [lens]; omega)) only [eqs, ↓gvd_succ, ↓gvd_zero, ↓and_of, im_of, im_of trivial, vals, lsts, tys, hP, hst, initS, Nat.reduceBEq, Nat.reduceAdd, Nat.reduceMul, Nat.reduceSub, Nat.reduceDiv, Nat.reduceMod, Nat.reducePow, Nat.reduceLT, Nat.reduceLeDiff, Nat.reduceEqDiff, Int.reduceAdd, Int.reduceSub, Int.reduceNeg, Int.reduceMul, Int.reduceToNat, Int.reducePow, Int.reduceLE, Int.reduceLT, Int.reduceEq, Int.reduceNe, reduceIte, reduceCtorEq, ne_eq, not_true_eq_false, not_false_eq_true, imp_self, implies_true, bls, eq_self, lc]
  obtain ⟨T0, hT0⟩ : ∃ T, st ++ [some [.val (.bool s), c]] = T := ⟨_, rfl⟩
  have e0 : Ext st T0 := ⟨_, hT0.symm⟩
  have atU : At T0 st.length _ := hT0 ▸ At.mk0
  rw [hT0]
  clear hT0
  have ka : (sb a).length ≤ 140737488355328 := by rw [sb_length]; exact ha
  have kb : (sb b).length ≤ 140737488355328 := by rw [sb_length]; exact hb
  have gU := atU.get
  have sc := (hc.ext e0).sl
  simp (disch := first | assumption | omega | (simp only [lens]; omega)) only [eqs, ↓gvd_succ, ↓gvd_zero, ↓and_of, im_of, im_of trivial, vals, lsts, tys, hP, hst, initS, Nat.reduceBEq, Nat.reduceAdd, Nat.reduceMul, Nat.reduceSub, Nat.reduceDiv, Nat.reduceMod, Nat.reducePow, Nat.reduceLT, Nat.reduceLeDiff, Nat.reduceEqDiff, Int.reduceAdd, Int.reduceSub, Int.reduceNeg, Int.reduceMul, Int.reduceToNat, Int.reducePow, Int.reduceLE, Int.reduceLT, Int.reduceEq, Int.reduceNe, reduceIte, reduceCtorEq, ne_eq, not_true_eq_false, not_false_eq_true, imp_self, implies_true, bls, eq_self]
  refine G_ndec (fun h => ?_) (fun h => ?_)
  rotate_left
  · simp (disch := first | assumption | omega | (simp only [lens]; omega)) only [eqs, ↓gvd_succ, ↓gvd_zero, ↓and_of, im_of, im_of trivial, vals, lsts, tys, hP, hst, initS, Nat.reduceBEq, Nat.reduceAdd, Nat.reduceMul, Nat.reduceSub, Nat.reduceDiv, Nat.reduceMod, Nat.reducePow, Nat.reduceLT, Nat.reduceLeDiff, Nat.reduceEqDiff, Int.reduceAdd, Int.reduceSub, Int.reduceNeg, Int.reduceMul, Int.reduceToNat, Int.reducePow, Int.reduceLE, Int.reduceLT, Int.reduceEq, Int.reduceNe, reduceIte, reduceCtorEq, ne_eq, not_true_eq_false, not_false_eq_true, imp_self, implies_true, bls, eq_self, h]
    refine E_callA (hP ▸ s_lives9 _ hG) ⟨rfl, fun T1 f1 => ?_⟩
    simp (disch := first | assumption | omega | (simp only [lens]; omega)) only [eqs, ↓gvd_succ, ↓gvd_zero, ↓and_of, im_of, im_of trivial, vals, lsts, tys, hP, hst, initS, Nat.reduceBEq, Nat.reduceAdd, Nat.reduceMul, Nat.reduceSub, Nat.reduceDiv, Nat.reduceMod, Nat.reducePow, Nat.reduceLT, Nat.reduceLeDiff, Nat.reduceEqDiff, Int.reduceAdd, Int.reduceSub, Int.reduceNeg, Int.reduceMul, Int.reduceToNat, Int.reducePow, Int.reduceLE, Int.reduceLT, Int.reduceEq, Int.reduceNe, reduceIte, reduceCtorEq, ne_eq, not_true_eq_false, not_false_eq_true, imp_self, implies_true, bls, eq_self]
    exact hK _ (e0.trans f1)
  simp (disch := first | assumption | omega | (simp only [lens]; omega)) only [eqs, ↓gvd_succ, ↓gvd_zero, ↓and_of, im_of, im_of trivial, vals, lsts, tys, hP, hst, initS, Nat.reduceBEq, Nat.reduceAdd, Nat.reduceMul, Nat.reduceSub, Nat.reduceDiv, Nat.reduceMod, Nat.reducePow, Nat.reduceLT, Nat.reduceLeDiff, Nat.reduceEqDiff, Int.reduceAdd, Int.reduceSub, Int.reduceNeg, Int.reduceMul, Int.reduceToNat, Int.reducePow, Int.reduceLE, Int.reduceLT, Int.reduceEq, Int.reduceNe, reduceIte, reduceCtorEq, ne_eq, not_true_eq_false, not_false_eq_true, imp_self, implies_true, bls, eq_self, h]
  refine G_ndec (fun h2 => ?_) (fun h2 => ?_)
  rotate_left
  · simp (disch := first | assumption | omega | (simp only [lens]; omega)) only [eqs, ↓gvd_succ, ↓gvd_zero, ↓and_of, im_of, im_of trivial, vals, lsts, tys, hP, hst, initS, Nat.reduceBEq, Nat.reduceAdd, Nat.reduceMul, Nat.reduceSub, Nat.reduceDiv, Nat.reduceMod, Nat.reducePow, Nat.reduceLT, Nat.reduceLeDiff, Nat.reduceEqDiff, Int.reduceAdd, Int.reduceSub, Int.reduceNeg, Int.reduceMul, Int.reduceToNat, Int.reducePow, Int.reduceLE, Int.reduceLT, Int.reduceEq, Int.reduceNe, reduceIte, reduceCtorEq, ne_eq, not_true_eq_false, not_false_eq_true, imp_self, implies_true, bls, eq_self, h2]
    refine E_callA (hP ▸ s_lives9 _ hG) ⟨rfl, fun T1 f1 => ?_⟩
    simp (disch := first | assumption | omega | (simp only [lens]; omega)) only [eqs, ↓gvd_succ, ↓gvd_zero, ↓and_of, im_of, im_of trivial, vals, lsts, tys, hP, hst, initS, Nat.reduceBEq, Nat.reduceAdd, Nat.reduceMul, Nat.reduceSub, Nat.reduceDiv, Nat.reduceMod, Nat.reducePow, Nat.reduceLT, Nat.reduceLeDiff, Nat.reduceEqDiff, Int.reduceAdd, Int.reduceSub, Int.reduceNeg, Int.reduceMul, Int.reduceToNat, Int.reducePow, Int.reduceLE, Int.reduceLT, Int.reduceEq, Int.reduceNe, reduceIte, reduceCtorEq, ne_eq, not_true_eq_false, not_false_eq_true, imp_self, implies_true, bls, eq_self]
    exact hK _ (e0.trans f1)
  simp (disch := first | assumption | omega | (simp only [lens]; omega)) only [eqs, ↓gvd_succ, ↓gvd_zero, ↓and_of, im_of, im_of trivial, vals, lsts, tys, hP, hst, initS, Nat.reduceBEq, Nat.reduceAdd, Nat.reduceMul, Nat.reduceSub, Nat.reduceDiv, Nat.reduceMod, Nat.reducePow, Nat.reduceLT, Nat.reduceLeDiff, Nat.reduceEqDiff, Int.reduceAdd, Int.reduceSub, Int.reduceNeg, Int.reduceMul, Int.reduceToNat, Int.reducePow, Int.reduceLE, Int.reduceLT, Int.reduceEq, Int.reduceNe, reduceIte, reduceCtorEq, ne_eq, not_true_eq_false, not_false_eq_true, imp_self, implies_true, bls, eq_self, h2, gU, sc]
  refine fun _ => ?_
  refine C_dec (fun h3 => ?_) (fun h3 => ?_)
  · simp (disch := first | assumption | omega | (simp only [lens]; omega)) only [eqs, ↓gvd_succ, ↓gvd_zero, ↓and_of, im_of, im_of trivial, vals, lsts, tys, hP, hst, initS, Nat.reduceBEq, Nat.reduceAdd, Nat.reduceMul, Nat.reduceSub, Nat.reduceDiv, Nat.reduceMod, Nat.reducePow, Nat.reduceLT, Nat.reduceLeDiff, Nat.reduceEqDiff, Int.reduceAdd, Int.reduceSub, Int.reduceNeg, Int.reduceMul, Int.reduceToNat, Int.reducePow, Int.reduceLE, Int.reduceLT, Int.reduceEq, Int.reduceNe, reduceIte, reduceCtorEq, ne_eq, not_true_eq_false, not_false_eq_true, imp_self, implies_true, bls, eq_self]
    refine E_callA (hP ▸ s_lives9 _ hG) ⟨rfl, fun T1 f1 => ?_⟩
    simp (disch := first | assumption | omega | (simp only [lens]; omega)) only [eqs, ↓gvd_succ, ↓gvd_zero, ↓and_of, im_of, im_of trivial, vals, lsts, tys, hP, hst, initS, Nat.reduceBEq, Nat.reduceAdd, Nat.reduceMul, Nat.reduceSub, Nat.reduceDiv, Nat.reduceMod, Nat.reducePow, Nat.reduceLT, Nat.reduceLeDiff, Nat.reduceEqDiff, Int.reduceAdd, Int.reduceSub, Int.reduceNeg, Int.reduceMul, Int.reduceToNat, Int.reducePow, Int.reduceLE, Int.reduceLT, Int.reduceEq, Int.reduceNe, reduceIte, reduceCtorEq, ne_eq, not_true_eq_false, not_false_eq_true, imp_self, implies_true, bls, eq_self]
    exact hK _ (e0.trans f1)
  have x0 := Nat.le_trans hX e0.len
  have x0b : X.st1.length ≤ T0.length + 1 := by omega
  rw [sb_length] at h2
  rw [sb_length, sb_length] at h
  have sA : a.size + b.size ≤ 1024 := by omega
  have hA : DA0 T0 (.agg [.val (.int .i64 4), .val (.bool false), .val (.slice none 0 0), .val (.bool false), .val (.string a), .val (.slice none 0 0), .val (.slice none 0 0)]) (dStr a) := DA0.mk Nm.nil
  have fA : fineD (dStr a) := fine_str (by omega)
  have lA := lc
  have hB : DA0 T0 (.agg [.val (.int .i64 4), .val (.bool false), .val (.slice none 0 0), .val (.bool false), .val (.string b), .val (.slice none 0 0), .val (.slice none 0 0)]) (dStr b) := DA0.mk Nm.nil
  have fB : fineD (dStr b) := fine_str (by omega)
  have lB := lc
  have lU := lc
  simp (disch := first | assumption | omega | (simp only [lens]; omega)) only [eqs, ↓gvd_succ, ↓gvd_zero, ↓and_of, im_of, im_of trivial, vals, lsts, tys, hP, hst, initS, Nat.reduceBEq, Nat.reduceAdd, Nat.reduceMul, Nat.reduceSub, Nat.reduceDiv, Nat.reduceMod, Nat.reducePow, Nat.reduceLT, Nat.reduceLeDiff, Nat.reduceEqDiff, Int.reduceAdd, Int.reduceSub, Int.reduceNeg, Int.reduceMul, Int.reduceToNat, Int.reducePow, Int.reduceLE, Int.reduceLT, Int.reduceEq, Int.reduceNe, reduceIte, reduceCtorEq, ne_eq, not_true_eq_false, not_false_eq_true, imp_self, implies_true, bls, eq_self, x0, x0b, zD_map, zrD2, zD7, List.append_nil]
  refine E_callA (hP ▸ s_Do _ hG) ⟨24, _, [dStr a, dStr b], rfl, DS.own At.mk2 (.cons (hA.ext (.add _)).dc (.cons (hB.ext (.add _)).dc .nil)), by simp, fine2 fA fB, fun v T1 f1 hJ => ?_⟩
  have e1 : Ext T0 T1 := (Ext.add _).trans f1
  have atA := At.mk0.ext f1
  have atB := At.mk1.ext f1
  have hdo : doM 24 [dStr a, dStr b] = (dStr (a ++ b), 0) := doM_24 sA
  have hd1 := congrArg Prod.fst hdo
  have hd2 := congrArg Prod.snd hdo
  dsimp only at hd1 hd2
  rw [hd1] at hJ
  rw [hd2]
  clear hdo hd1 hd2
  obtain ⟨aJ, rfl, nJ⟩ := hJ.invS
  have lJ := nJ.leaf
  have x1 := Nat.le_trans hX (e0.trans e1).len
  have fJ : fineD (dStr (a ++ b)) := fine_str (by rw [size_app]; omega)
  simp (disch := first | assumption | omega | (simp only [lens]; omega)) only [eqs, ↓gvd_succ, ↓gvd_zero, ↓and_of, im_of, im_of trivial, vals, lsts, tys, hP, hst, initS, Nat.reduceBEq, Nat.reduceAdd, Nat.reduceMul, Nat.reduceSub, Nat.reduceDiv, Nat.reduceMod, Nat.reducePow, Nat.reduceLT, Nat.reduceLeDiff, Nat.reduceEqDiff, Int.reduceAdd, Int.reduceSub, Int.reduceNeg, Int.reduceMul, Int.reduceToNat, Int.reducePow, Int.reduceLE, Int.reduceLT, Int.reduceEq, Int.reduceNe, reduceIte, reduceCtorEq, ne_eq, not_true_eq_false, not_false_eq_true, imp_self, implies_true, bls, eq_self, lJ, x1, zD_map, zrD1, zD7, List.append_nil]
  refine E_callA (hP ▸ s_Do _ hG) ⟨23, _, [(dStr (a ++ b))], rfl, DS.own At.mk1 (.cons ((hJ.ext Ext.refl).ext (.add _)).dc .nil), by simp, fine1 fJ, fun v T2 f2 hH => ?_⟩
  have e2 : Ext T1 T2 := (Ext.add _).trans f2
  have atJ := At.mk0.ext f2
  have hdo : doM 23 [(dStr (a ++ b))] = ((dNum ((a ++ b).size : Nat)), 0) := doM_23
  have hd1 := congrArg Prod.fst hdo
  have hd2 := congrArg Prod.snd hdo
  dsimp only at hd1 hd2
  rw [hd1] at hH
  rw [hd2]
  clear hdo hd1 hd2
  obtain ⟨aH, rfl, nH⟩ := hH.invN
  have lH := nH.leaf
  have x2 := Nat.le_trans hX ((e0.trans e1).trans e2).len
  have gA := fun y => (atA.ext e2).gr y
  have gB := fun y => (atB.ext e2).gr y
  simp (disch := first | assumption | omega | (simp only [lens]; omega)) only [eqs, ↓gvd_succ, ↓gvd_zero, ↓and_of, im_of, im_of trivial, vals, lsts, tys, hP, hst, initS, Nat.reduceBEq, Nat.reduceAdd, Nat.reduceMul, Nat.reduceSub, Nat.reduceDiv, Nat.reduceMod, Nat.reducePow, Nat.reduceLT, Nat.reduceLeDiff, Nat.reduceEqDiff, Int.reduceAdd, Int.reduceSub, Int.reduceNeg, Int.reduceMul, Int.reduceToNat, Int.reducePow, Int.reduceLE, Int.reduceLT, Int.reduceEq, Int.reduceNe, reduceIte, reduceCtorEq, ne_eq, not_true_eq_false, not_false_eq_true, imp_self, implies_true, bls, eq_self, gA, gB, lH, x2, zD_map, lA, lB, zrD2, zD7, List.append_nil]
  refine E_callA (hP ▸ s_Do _ hG) ⟨25, _, [(dStr a), (dStr b)], rfl, DS.own At.mk1 (.cons ((hA.ext (e1.trans e2)).ext (.add _)).dc (.cons ((hB.ext (e1.trans e2)).ext (.add _)).dc .nil)), by simp, fine2 fA fB, fun v T3 f3 hI => ?_⟩
  have e3 : Ext T2 T3 := (Ext.add _).trans f3
  have atH := At.mk0.ext f3
  have hdo : doM 25 [(dStr a), (dStr b)] = ((dBool (decide (a = b))), 0) := doM_25
  have hd1 := congrArg Prod.fst hdo
  have hd2 := congrArg Prod.snd hdo
  dsimp only at hd1 hd2
  rw [hd1] at hI
  rw [hd2]
  clear hdo hd1 hd2
  obtain ⟨aI, rfl, nI⟩ := hI.invB
  have lI := nI.leaf
  have x3 := Nat.le_trans hX (((e0.trans e1).trans e2).trans e3).len
  have hN : DA0 T0 (.agg [.val (.int .i64 1), .val (.bool s), c, .val (.bool false), .val (.string ⟨#[]⟩), .val (.slice none 0 0), .val (.slice none 0 0)]) (.mk 1 s l false ⟨#[]⟩ [] []) := DA0.mk (hc.ext e0)
  have lN := lc
  have fN : fineD (.mk 1 s l false ⟨#[]⟩ [] []) := fine0 (by omega) (Nat.zero_le _)
  have hV : DA0 T0 (.agg [.val (.int .i64 3), .val (.bool false), .val (.slice none 0 0), .val (.bool false), .val (.string a), .val (.slice none 0 0), .val (.slice none 0 0)]) (.mk 3 false [] false a [] []) := DA0.mk Nm.nil
  have lV := lc
  have fV : fineD (.mk 3 false [] false a [] []) := fine0 (Nat.zero_le _) (by omega)
  have gU := fun y => (atU.ext ((e1.trans e2).trans e3)).gr y
  simp (disch := first | assumption | omega | (simp only [lens]; omega)) only [eqs, ↓gvd_succ, ↓gvd_zero, ↓and_of, im_of, im_of trivial, vals, lsts, tys, hP, hst, initS, Nat.reduceBEq, Nat.reduceAdd, Nat.reduceMul, Nat.reduceSub, Nat.reduceDiv, Nat.reduceMod, Nat.reducePow, Nat.reduceLT, Nat.reduceLeDiff, Nat.reduceEqDiff, Int.reduceAdd, Int.reduceSub, Int.reduceNeg, Int.reduceMul, Int.reduceToNat, Int.reducePow, Int.reduceLE, Int.reduceLT, Int.reduceEq, Int.reduceNe, reduceIte, reduceCtorEq, ne_eq, not_true_eq_false, not_false_eq_true, imp_self, implies_true, bls, eq_self, lI, x3, zD_map, lN, zrD1, zD7, List.append_nil, gU]
  refine E_callA (hP ▸ s_Do _ hG) ⟨27, _, [(.mk 1 s l false ⟨#[]⟩ [] [])], rfl, DS.own At.mk1 (.cons ((hN.ext ((e1.trans e2).trans e3)).ext (.add _)).dc .nil), by simp, fine1 fN, fun v T4 f4 hQ => ?_⟩
  have e4 : Ext T3 T4 := (Ext.add _).trans f4
  have atI := At.mk0.ext f4
  have hdo : doM 27 [(.mk 1 s l false ⟨#[]⟩ [] [])] = ((dStr (bstr (txtI (iv s (val l))))), 0) := doM_27 rfl
  have hd1 := congrArg Prod.fst hdo
  have hd2 := congrArg Prod.snd hdo
  dsimp only at hd1 hd2
  rw [hd1] at hQ
  rw [hd2]
  clear hdo hd1 hd2
  obtain ⟨aQ, rfl, nQ⟩ := hQ.invS
  have lQ := nQ.leaf
  have x4 := Nat.le_trans hX ((((e0.trans e1).trans e2).trans e3).trans e4).len
  simp (disch := first | assumption | omega | (simp only [lens]; omega)) only [eqs, ↓gvd_succ, ↓gvd_zero, ↓and_of, im_of, im_of trivial, vals, lsts, tys, hP, hst, initS, Nat.reduceBEq, Nat.reduceAdd, Nat.reduceMul, Nat.reduceSub, Nat.reduceDiv, Nat.reduceMod, Nat.reducePow, Nat.reduceLT, Nat.reduceLeDiff, Nat.reduceEqDiff, Int.reduceAdd, Int.reduceSub, Int.reduceNeg, Int.reduceMul, Int.reduceToNat, Int.reducePow, Int.reduceLE, Int.reduceLT, Int.reduceEq, Int.reduceNe, reduceIte, reduceCtorEq, ne_eq, not_true_eq_false, not_false_eq_true, imp_self, implies_true, bls, eq_self, lQ, x4, zD_map, lV, zrD1, zD7, List.append_nil]
  refine E_callA (hP ▸ s_Do _ hG) ⟨26, _, [(.mk 3 false [] false a [] [])], rfl, DS.own At.mk1 (.cons ((hV.ext (((e1.trans e2).trans e3).trans e4)).ext (.add _)).dc .nil), by simp, fine1 fV, fun v T5 f5 hW => ?_⟩
  have e5 : Ext T4 T5 := (Ext.add _).trans f5
  have atQ := At.mk0.ext f5
  have hdo : doM 26 [(.mk 3 false [] false a [] [])] = ((dStr a), 0) := doM_26
  have hd1 := congrArg Prod.fst hdo
  have hd2 := congrArg Prod.snd hdo
  dsimp only at hd1 hd2
  rw [hd1] at hW
  rw [hd2]
  clear hdo hd1 hd2
  obtain ⟨aW, rfl, nW⟩ := hW.invS
  have lW := nW.leaf
  have x5 := Nat.le_trans hX (((((e0.trans e1).trans e2).trans e3).trans e4).trans e5).len
  simp (disch := first | assumption | omega | (simp only [lens]; omega)) only [eqs, ↓gvd_succ, ↓gvd_zero, ↓and_of, im_of, im_of trivial, vals, lsts, tys, hP, hst, initS, Nat.reduceBEq, Nat.reduceAdd, Nat.reduceMul, Nat.reduceSub, Nat.reduceDiv, Nat.reduceMod, Nat.reducePow, Nat.reduceLT, Nat.reduceLeDiff, Nat.reduceEqDiff, Int.reduceAdd, Int.reduceSub, Int.reduceNeg, Int.reduceMul, Int.reduceToNat, Int.reducePow, Int.reduceLE, Int.reduceLT, Int.reduceEq, Int.reduceNe, reduceIte, reduceCtorEq, ne_eq, not_true_eq_false, not_false_eq_true, imp_self, implies_true, bls, eq_self, lW, x5, zD_map, zD7, List.append_nil]
  obtain ⟨T6, hT6⟩ : ∃ T, T5 ++ [some [.val (.int .i64 4), .val (.bool false), aW, .val (.bool false), .val (.string a), .val (.slice none 0 0), .val (.slice none 0 0)]] = T := ⟨_, rfl⟩
  have atW : At T6 T5.length _ := hT6 ▸ At.mk0
  have e6 : Ext T5 T6 := ⟨_, hT6.symm⟩
  rw [hT6]
  clear hT6
  refine V_draw [0, 1, 2, 3, 4, 5, 6, 7, 8, 9, 10, 11, 12, 13, 14, 15, 16, 17, 18, 19, 20, 21, 22, 23, 24, 25, 26, 27, 28, 29, 30, 31, 32, 33, 34, 35, 36, 37, 38, 39, 40, 41, 42, 43, 44, 45, 46, 47, 48, 49, 50, 51, 52, 53, 54, 55, 56, 57, 58, 59, 60, 61, 62, 63, 64, 65, 66] (by kernel_rfl) (.cons rfl <| .cons rfl <| .cons rfl <| .cons rfl <| .cons rfl <| .cons rfl <| .cons rfl <| .cons rfl <| .cons rfl <| .cons rfl <| .cons rfl <| .cons rfl <| .cons rfl <| .cons rfl <| .cons rfl <| .cons rfl <| .cons rfl <| .cons rfl <| .cons rfl <| .cons rfl <| .cons rfl <| .cons rfl <| .cons rfl <| .cons rfl <| .cons rfl <| .cons rfl <| .cons rfl <| .cons rfl <| .cons rfl <| .cons rfl <| .cons rfl <| .cons rfl <| .cons rfl <| .cons rfl <| .cons rfl <| .cons rfl <| .cons rfl <| .cons rfl <| .cons rfl <| .cons rfl <| .cons rfl <| .cons rfl <| .cons rfl <| .cons rfl <| .cons rfl <| .cons rfl <| .cons rfl <| .cons rfl <| .cons rfl <| .cons rfl <| .cons rfl <| .cons rfl <| .cons rfl <| .cons rfl <| .cons rfl <| .cons rfl <| .cons rfl <| .cons rfl <| .cons rfl <| .cons rfl <| .cons rfl <| .cons rfl <| .cons rfl <| .cons rfl <| .cons rfl <| .cons rfl <| .cons rfl <| .nil) ?_
  have gJ := (atJ.ext (((e3.trans e4).trans e5).trans e6)).get
  have gH := (atH.ext ((e4.trans e5).trans e6)).get
  have gI := (atI.ext (e5.trans e6)).get
  have gQ := (atQ.ext e6).get
  have gW := (atW.ext Ext.refl).get
  have gA := (atA.ext ((((e2.trans e3).trans e4).trans e5).trans e6)).get
  have gU := (atU.ext (((((e1.trans e2).trans e3).trans e4).trans e5).trans e6)).get
  simp (disch := first | assumption | omega | (simp only [lens]; omega)) only [eqs, ↓gvd_succ, ↓gvd_zero, ↓and_of, im_of, im_of trivial, vals, lsts, tys, hP, hst, initS, Nat.reduceBEq, Nat.reduceAdd, Nat.reduceMul, Nat.reduceSub, Nat.reduceDiv, Nat.reduceMod, Nat.reducePow, Nat.reduceLT, Nat.reduceLeDiff, Nat.reduceEqDiff, Int.reduceAdd, Int.reduceSub, Int.reduceNeg, Int.reduceMul, Int.reduceToNat, Int.reducePow, Int.reduceLE, Int.reduceLT, Int.reduceEq, Int.reduceNe, reduceIte, reduceCtorEq, ne_eq, not_true_eq_false, not_false_eq_true, imp_self, implies_true, bls, eq_self, gJ, gH, gI, gQ, gW, gA, gU, lJ, lH, lI, lQ, lW, lA, lU, zD7, List.append_nil, beq_self_eq_true, str_eq2, ↓gvd_anil, ↓gvd_asucc, ↓gvd_azero]
  refine E_call (hP ▸ s_num) ⟨((sb a).length : Int) + ((sb b).length : Int), rfl, by omega, by omega, fun v T7 e7 hn => ?_⟩
  have hnn : ((sb a).length : Int) + ((sb b).length : Int) = (((a ++ b).size : Nat) : Int) := by rw [size_app, sb_length, sb_length, Int.natCast_add]
  rw [hnn] at hn
  simp (disch := first | assumption | omega | (simp only [lens]; omega)) only [eqs, ↓gvd_succ, ↓gvd_zero, ↓and_of, im_of, im_of trivial, vals, lsts, tys, hP, hst, initS, Nat.reduceBEq, Nat.reduceAdd, Nat.reduceMul, Nat.reduceSub, Nat.reduceDiv, Nat.reduceMod, Nat.reducePow, Nat.reduceLT, Nat.reduceLeDiff, Nat.reduceEqDiff, Int.reduceAdd, Int.reduceSub, Int.reduceNeg, Int.reduceMul, Int.reduceToNat, Int.reducePow, Int.reduceLE, Int.reduceLT, Int.reduceEq, Int.reduceNe, reduceIte, reduceCtorEq, ne_eq, not_true_eq_false, not_false_eq_true, imp_self, implies_true, bls, eq_self, ↓gvd_anil, ↓gvd_asucc, ↓gvd_azero]
  refine E_call (hP ▸ s_Same3 2) ⟨_, _, _, _, rfl, (hH.ext ((((e3.trans e4).trans e5).trans e6).trans e7)).da, hn.da, sz_num, fine_num (by rw [size_app]; exact Nat.le_trans (lim2 (by omega)) (by omega)) |>.1, fine_num (by rw [size_app]; exact Nat.le_trans (lim2 (by omega)) (by omega)) |>.1, fun T8 e8 => ?_⟩
  rw [sm_self]
  have gJ := (atJ.ext (((((e3.trans e4).trans e5).trans e6).trans e7).trans e8)).get
  have gH := (atH.ext ((((e4.trans e5).trans e6).trans e7).trans e8)).get
  have gI := (atI.ext (((e5.trans e6).trans e7).trans e8)).get
  have gQ := (atQ.ext ((e6.trans e7).trans e8)).get
  have gW := (atW.ext (e7.trans e8)).get
  have gA := (atA.ext ((((((e2.trans e3).trans e4).trans e5).trans e6).trans e7).trans e8)).get
  have gU := (atU.ext (((((((e1.trans e2).trans e3).trans e4).trans e5).trans e6).trans e7).trans e8)).get
  simp (disch := first | assumption | omega | (simp only [lens]; omega)) only [eqs, ↓gvd_succ, ↓gvd_zero, ↓and_of, im_of, im_of trivial, vals, lsts, tys, hP, hst, initS, Nat.reduceBEq, Nat.reduceAdd, Nat.reduceMul, Nat.reduceSub, Nat.reduceDiv, Nat.reduceMod, Nat.reducePow, Nat.reduceLT, Nat.reduceLeDiff, Nat.reduceEqDiff, Int.reduceAdd, Int.reduceSub, Int.reduceNeg, Int.reduceMul, Int.reduceToNat, Int.reducePow, Int.reduceLE, Int.reduceLT, Int.reduceEq, Int.reduceNe, reduceIte, reduceCtorEq, ne_eq, not_true_eq_false, not_false_eq_true, imp_self, implies_true, bls, eq_self, gJ, gH, gI, gQ, gW, gA, gU, lJ, lH, lI, lQ, lW, lA, lU, zD7, List.append_nil, beq_self_eq_true, str_eq2, ↓gvd_anil, ↓gvd_asucc, ↓gvd_azero]
  refine E_call (hP ▸ s_qText) ⟨_, s, l, rfl, ⟨c, rfl, hc.ext (e0.trans (((((((e1.trans e2).trans e3).trans e4).trans e5).trans e6).trans e7).trans e8))⟩, by omega, fun T9 e9 => ?_⟩
  have gJ := (atJ.ext ((((((e3.trans e4).trans e5).trans e6).trans e7).trans e8).trans e9)).get
  have gH := (atH.ext (((((e4.trans e5).trans e6).trans e7).trans e8).trans e9)).get
  have gI := (atI.ext ((((e5.trans e6).trans e7).trans e8).trans e9)).get
  have gQ := (atQ.ext (((e6.trans e7).trans e8).trans e9)).get
  have gW := (atW.ext ((e7.trans e8).trans e9)).get
  have gA := (atA.ext (((((((e2.trans e3).trans e4).trans e5).trans e6).trans e7).trans e8).trans e9)).get
  have gU := (atU.ext ((((((((e1.trans e2).trans e3).trans e4).trans e5).trans e6).trans e7).trans e8).trans e9)).get
  simp (disch := first | assumption | omega | (simp only [lens]; omega)) only [eqs, ↓gvd_succ, ↓gvd_zero, ↓and_of, im_of, im_of trivial, vals, lsts, tys, hP, hst, initS, Nat.reduceBEq, Nat.reduceAdd, Nat.reduceMul, Nat.reduceSub, Nat.reduceDiv, Nat.reduceMod, Nat.reducePow, Nat.reduceLT, Nat.reduceLeDiff, Nat.reduceEqDiff, Int.reduceAdd, Int.reduceSub, Int.reduceNeg, Int.reduceMul, Int.reduceToNat, Int.reducePow, Int.reduceLE, Int.reduceLT, Int.reduceEq, Int.reduceNe, reduceIte, reduceCtorEq, ne_eq, not_true_eq_false, not_false_eq_true, imp_self, implies_true, bls, eq_self, gJ, gH, gI, gQ, gW, gA, gU, lJ, lH, lI, lQ, lW, lA, lU, zD7, List.append_nil, beq_self_eq_true, str_eq2, ↓gvd_anil, ↓gvd_asucc, ↓gvd_azero]
  refine E_call (hP ▸ s_Eq) ⟨_, _, _, _, rfl, (hA.ext ((((((((e1.trans e2).trans e3).trans e4).trans e5).trans e6).trans e7).trans e8).trans e9)).da, (hA.ext ((((((((e1.trans e2).trans e3).trans e4).trans e5).trans e6).trans e7).trans e8).trans e9)).da, fA.1, fA.1, fA.2.1, fA.2.1, fun T10 e10 => ?_⟩
  rw [eqM_str]
  simp (disch := first | assumption | omega | (simp only [lens]; omega)) only [eqs, ↓gvd_succ, ↓gvd_zero, ↓and_of, im_of, im_of trivial, vals, lsts, tys, hP, hst, initS, Nat.reduceBEq, Nat.reduceAdd, Nat.reduceMul, Nat.reduceSub, Nat.reduceDiv, Nat.reduceMod, Nat.reducePow, Nat.reduceLT, Nat.reduceLeDiff, Nat.reduceEqDiff, Int.reduceAdd, Int.reduceSub, Int.reduceNeg, Int.reduceMul, Int.reduceToNat, Int.reducePow, Int.reduceLE, Int.reduceLT, Int.reduceEq, Int.reduceNe, reduceIte, reduceCtorEq, ne_eq, not_true_eq_false, not_false_eq_true, imp_self, implies_true, bls, eq_self, ↓gvd_anil, ↓gvd_asucc, ↓gvd_azero]
  refine E_callA (hP ▸ s_lives9 _ hG) ⟨rfl, fun T11 e11 => ?_⟩
  simp (disch := first | assumption | omega | (simp only [lens]; omega)) only [eqs, ↓gvd_succ, ↓gvd_zero, ↓and_of, im_of, im_of trivial, vals, lsts, tys, hP, hst, initS, Nat.reduceBEq, Nat.reduceAdd, Nat.reduceMul, Nat.reduceSub, Nat.reduceDiv, Nat.reduceMod, Nat.reducePow, Nat.reduceLT, Nat.reduceLeDiff, Nat.reduceEqDiff, Int.reduceAdd, Int.reduceSub, Int.reduceNeg, Int.reduceMul, Int.reduceToNat, Int.reducePow, Int.reduceLE, Int.reduceLT, Int.reduceEq, Int.reduceNe, reduceIte, reduceCtorEq, ne_eq, not_true_eq_false, not_false_eq_true, imp_self, implies_true, bls, eq_self, ↓gvd_anil, ↓gvd_asucc, ↓gvd_azero]
  exact hK _ (((((((((((e0.trans e1).trans e2).trans e3).trans e4).trans e5).trans e6).trans e7).trans e8).trans e9).trans e10).trans e11)
end Go.Proofs.Pv
