/- PrimOrder, walked. -/
import Derived.Test.YtdaidpomfkgbeaaDoorP9
import Derived.Test.YtdaidpomfkgbeaaDoorE23
set_option linter.unusedSimpArgs false
set_option linter.unusedVariables false
namespace Go.Proofs.Pv
open Go Go.RowKit Go.Proofs
set_option maxRecDepth 20000

theorem doM_numI {p : Int} (h : 1 ≤ p ∧ p ≤ 8) {s t b c : Bool} {l m : List Nat} {x y : ByteArray} : doM p [.mk 1 s l b x [] [], .mk 1 t m c y [] []] = numM p (iv s (val l)) (iv t (val m)) := by
  unfold doM
  rw [if_neg (by simp [plainM]; omega), if_neg (by rw [arM_2 (by omega)]; simp), doL_le h.2, if_pos ⟨rfl, rfl⟩]
  rfl
theorem zrD3 : zrow 3 zeroD = [.val (.int .i64 0), .val (.bool false), .val (.slice none 0 0), .val (.bool false), .val (.string ⟨#[]⟩), .val (.slice none 0 0), .val (.slice none 0 0), .val (.int .i64 0), .val (.bool false), .val (.slice none 0 0), .val (.bool false), .val (.string ⟨#[]⟩), .val (.slice none 0 0), .val (.slice none 0 0), .val (.int .i64 0), .val (.bool false), .val (.slice none 0 0), .val (.bool false), .val (.string ⟨#[]⟩), .val (.slice none 0 0), .val (.slice none 0 0)] := rfl
def cntB (l : List Bool) : Nat := (l.filter id).length
theorem cntB_take {l : List Bool} {i : Nat} {b : Bool} (h : l[i]? = some b) : cntB (l.take (i + 1)) = cntB (l.take i) + (if b then 1 else 0) := by
  unfold cntB
  rw [take_succ' h, List.filter_append, List.length_append]
  cases b <;> simp
theorem cnt_one (z w : Int) : cntB [decide (z < w), decide (z = w), decide (w < z)] = 1 := by
  unfold cntB
  rcases Int.lt_trichotomy z w with h | h | h
  · have h2 : ¬z = w := by omega
    have h3 : ¬w < z := by omega
    simp [h, h2, h3]
  · subst h; simp
  · have h2 : ¬z = w := by omega
    have h3 : ¬z < w := by omega
    simp [h, h2, h3]
theorem cntB_le {l : List Bool} : cntB l ≤ l.length := List.length_filter_le _ _
theorem get3 {x y z : Bool} {i : Nat} {d : Dt} (h : [dBool x, dBool y, dBool z][i]? = some d) : ∃ v, [x, y, z][i]? = some v ∧ d = dBool v := by
  rw [show [dBool x, dBool y, dBool z] = [x, y, z].map dBool from rfl, List.getElem?_map] at h
  cases hv : [x, y, z][i]? with
  | none => rw [hv] at h; cases h
  | some v => rw [hv] at h; cases h; exact ⟨v, rfl, rfl⟩
theorem DC.invB {st : St} {c : List AV} {v : Bool} (h : DC st c (dBool v)) : ∃ a x y, c = [.val (.int .i64 2), .val (.bool false), a, .val (.bool v), .val (.string ⟨#[]⟩), x, y] ∧ Nm st a [] ∧ DS st x [] ∧ DS st y [] := by
  unfold dBool at h
  cases h with
  | mk ha hx hy => exact ⟨_, _, _, rfl, ha, hx, hy⟩
theorem eqM_num {s t b : Bool} {l m : List Nat} {x : ByteArray} : eqM (.mk 1 s l b x [] []) (.mk 1 t m b x [] []) = decide (iv s (val l) = iv t (val m)) := by
  simp [eqM, Dt.kd, sm, sms]
def ROrder (xs : List AV) (st : St) (K : AV → St → Prop) : Prop := ∃ x y s t l m, xs = [x, y] ∧ Wh st x s l ∧ Wh st y t m ∧ anyw st (.bool true) K
set_option maxHeartbeats 4000000 in
theorem s_PrimOrder : ∀ w0, GP w0 → PSpecAt Tryd.prog w0 13 ROrder := by
  refine gspec_of (fn := Tryd.f13) 2 [.tmp 4] (by kernel_rfl) rfl rfl (by kernel_rfl) mixed (by rintro _ _ _ ⟨x, y, s, t, l, m, rfl, _⟩; rfl) ?_
  rintro X _ st K hP hst hG ⟨x, y, s, t, l, m, rfl, hx, hy, hK⟩
  have hX : X.st1.length ≤ st.length := by rw [hst]; omega
  obtain ⟨a, rfl, ha, la⟩ := hx.iv
  obtain ⟨b, rfl, hb, lb⟩ := hy.iv
  refine vc_V ?_
  simp (disch := first | assumption | omega | (simp only [lens]; omega)) only [eqs, ↓gvd_succ, ↓gvd_zero, ↓and_of, im_of, im_of trivial, vals, lsts, tys, hP, hst, initS, Nat.reduceBEq, Nat.reduceAdd, Nat.reduceMul, Nat.reduceSub, Nat.reduceDiv, Nat.reduceMod, Nat.reducePow, Nat.reduceLT, Nat.reduceLeDiff, Nat.reduceEqDiff, Int.reduceAdd, Int.reduceSub, Int.reduceNeg, Int.reduceMul, Int.reduceToNat, Int.reducePow, Int.reduceLE, Int.reduceLT, Int.reduceEq, Int.reduceNe, reduceIte, reduceCtorEq, ne_eq, not_true_eq_false, not_false_eq_true, imp_self, implies_true, bls, eq_self, la, lb]
  refine V_ordersF (Tn.seq [(0, false), (1, false)] (.alt 2 (Tn.seq [(3, false)] (.alt 4 (Tn.seq [(5, true), (6, true), (7, true)] .fin) (.alt 5 (Tn.seq [(4, true), (6, true), (7, true)] .fin) .fin))) (.alt 4 (Tn.seq [] (.alt 2 (Tn.seq [(3, false), (5, true), (6, true), (7, true)] .fin) (.alt 5 (Tn.seq [] (.alt 2 (Tn.seq [(3, false), (6, true), (7, true)] .fin) (.alt 6 (Tn.seq [(2, false), (3, false), (7, true)] .fin) .fin))) .fin))) (.alt 5 (Tn.seq [] (.alt 2 (Tn.seq [(3, false), (4, true), (6, true), (7, true)] .fin) (.alt 4 (Tn.seq [] (.alt 2 (Tn.seq [(3, false), (6, true), (7, true)] .fin) (.alt 6 (Tn.seq [(2, false), (3, false), (7, true)] .fin) .fin))) .fin))) .fin)))) (by kernel_rfl) fun F hF => ?_
  have hX2 : X.st1.length ≤ st.length + 2 := by omega
  have hX3 : X.st1.length ≤ st.length + 3 := by omega
  suffices key : ∀ (s0 : Sl) (T0 : St) (p q : Nat), Sl.get s0 4 = .val (.bool false) → Sl.get s0 5 = .ptr p 0 → Sl.get s0 6 = .ptr q 0 → Ext st T0 → At T0 p [.val (.int .i64 1), .val (.bool s), a, .val (.bool false), .val (.string ⟨#[]⟩), .val (.slice none 0 0), .val (.slice none 0 0)] → At T0 q [.val (.int .i64 1), .val (.bool t), b, .val (.bool false), .val (.string ⟨#[]⟩), .val (.slice none 0 0), .val (.slice none 0 0)] → F s0 T0 by
    rw [RN_seq rfl (.cons rfl <| .cons rfl <| .nil)]
    simp (disch := first | assumption | omega | (simp only [lens]; omega)) only [eqs, ↓gvd_succ, ↓gvd_zero, ↓and_of, im_of, im_of trivial, vals, lsts, tys, hP, hst, initS, Nat.reduceBEq, Nat.reduceAdd, Nat.reduceMul, Nat.reduceSub, Nat.reduceDiv, Nat.reduceMod, Nat.reducePow, Nat.reduceLT, Nat.reduceLeDiff, Nat.reduceEqDiff, Int.reduceAdd, Int.reduceSub, Int.reduceNeg, Int.reduceMul, Int.reduceToNat, Int.reducePow, Int.reduceLE, Int.reduceLT, Int.reduceEq, Int.reduceNe, reduceIte, reduceCtorEq, ne_eq, not_true_eq_false, not_false_eq_true, imp_self, implies_true, bls, eq_self, la, lb, zD_map, zD7, List.append_nil, hX2, hX3, RN_fin]
    refine RN_alt rfl (.cons rfl <| .cons rfl <| .nil) ?_ ?_
    · simp (disch := first | assumption | omega | (simp only [lens]; omega)) only [eqs, ↓gvd_succ, ↓gvd_zero, ↓and_of, im_of, im_of trivial, vals, lsts, tys, hP, hst, initS, Nat.reduceBEq, Nat.reduceAdd, Nat.reduceMul, Nat.reduceSub, Nat.reduceDiv, Nat.reduceMod, Nat.reducePow, Nat.reduceLT, Nat.reduceLeDiff, Nat.reduceEqDiff, Int.reduceAdd, Int.reduceSub, Int.reduceNeg, Int.reduceMul, Int.reduceToNat, Int.reducePow, Int.reduceLE, Int.reduceLT, Int.reduceEq, Int.reduceNe, reduceIte, reduceCtorEq, ne_eq, not_true_eq_false, not_false_eq_true, imp_self, implies_true, bls, eq_self, la, lb, zD_map, zD7, List.append_nil, hX2, hX3, RN_fin]
      refine RN_alt rfl (.cons rfl <| .cons rfl <| .cons rfl <| .cons rfl <| .nil) ?_ ?_
      · simp (disch := first | assumption | omega | (simp only [lens]; omega)) only [eqs, ↓gvd_succ, ↓gvd_zero, ↓and_of, im_of, im_of trivial, vals, lsts, tys, hP, hst, initS, Nat.reduceBEq, Nat.reduceAdd, Nat.reduceMul, Nat.reduceSub, Nat.reduceDiv, Nat.reduceMod, Nat.reducePow, Nat.reduceLT, Nat.reduceLeDiff, Nat.reduceEqDiff, Int.reduceAdd, Int.reduceSub, Int.reduceNeg, Int.reduceMul, Int.reduceToNat, Int.reducePow, Int.reduceLE, Int.reduceLT, Int.reduceEq, Int.reduceNe, reduceIte, reduceCtorEq, ne_eq, not_true_eq_false, not_false_eq_true, imp_self, implies_true, bls, eq_self, la, lb, zD_map, zD7, List.append_nil, hX2, hX3, RN_fin]
        exact key _ _ (st.length + 2) (st.length + 3) rfl rfl rfl (.add _) At.mk2 At.mk3
      refine RN_alt rfl (.cons rfl <| .cons rfl <| .cons rfl <| .cons rfl <| .nil) ?_ RN_end
      simp (disch := first | assumption | omega | (simp only [lens]; omega)) only [eqs, ↓gvd_succ, ↓gvd_zero, ↓and_of, im_of, im_of trivial, vals, lsts, tys, hP, hst, initS, Nat.reduceBEq, Nat.reduceAdd, Nat.reduceMul, Nat.reduceSub, Nat.reduceDiv, Nat.reduceMod, Nat.reducePow, Nat.reduceLT, Nat.reduceLeDiff, Nat.reduceEqDiff, Int.reduceAdd, Int.reduceSub, Int.reduceNeg, Int.reduceMul, Int.reduceToNat, Int.reducePow, Int.reduceLE, Int.reduceLT, Int.reduceEq, Int.reduceNe, reduceIte, reduceCtorEq, ne_eq, not_true_eq_false, not_false_eq_true, imp_self, implies_true, bls, eq_self, la, lb, zD_map, zD7, List.append_nil, hX2, hX3, RN_fin]
      exact key _ _ (st.length + 3) (st.length + 2) rfl rfl rfl (.add _) At.mk3 At.mk2
    refine RN_alt rfl (.cons rfl <| .nil) ?_ ?_
    · simp (disch := first | assumption | omega | (simp only [lens]; omega)) only [eqs, ↓gvd_succ, ↓gvd_zero, ↓and_of, im_of, im_of trivial, vals, lsts, tys, hP, hst, initS, Nat.reduceBEq, Nat.reduceAdd, Nat.reduceMul, Nat.reduceSub, Nat.reduceDiv, Nat.reduceMod, Nat.reducePow, Nat.reduceLT, Nat.reduceLeDiff, Nat.reduceEqDiff, Int.reduceAdd, Int.reduceSub, Int.reduceNeg, Int.reduceMul, Int.reduceToNat, Int.reducePow, Int.reduceLE, Int.reduceLT, Int.reduceEq, Int.reduceNe, reduceIte, reduceCtorEq, ne_eq, not_true_eq_false, not_false_eq_true, imp_self, implies_true, bls, eq_self, la, lb, zD_map, zD7, List.append_nil, hX2, hX3, RN_fin]
      refine RN_alt rfl (.cons rfl <| .cons rfl <| .cons rfl <| .cons rfl <| .cons rfl <| .nil) ?_ ?_
      · simp (disch := first | assumption | omega | (simp only [lens]; omega)) only [eqs, ↓gvd_succ, ↓gvd_zero, ↓and_of, im_of, im_of trivial, vals, lsts, tys, hP, hst, initS, Nat.reduceBEq, Nat.reduceAdd, Nat.reduceMul, Nat.reduceSub, Nat.reduceDiv, Nat.reduceMod, Nat.reducePow, Nat.reduceLT, Nat.reduceLeDiff, Nat.reduceEqDiff, Int.reduceAdd, Int.reduceSub, Int.reduceNeg, Int.reduceMul, Int.reduceToNat, Int.reducePow, Int.reduceLE, Int.reduceLT, Int.reduceEq, Int.reduceNe, reduceIte, reduceCtorEq, ne_eq, not_true_eq_false, not_false_eq_true, imp_self, implies_true, bls, eq_self, la, lb, zD_map, zD7, List.append_nil, hX2, hX3, RN_fin]
        exact key _ _ (st.length + 2) (st.length + 3) rfl rfl rfl (.add _) At.mk2 At.mk3
      refine RN_alt rfl (.cons rfl <| .nil) ?_ RN_end
      simp (disch := first | assumption | omega | (simp only [lens]; omega)) only [eqs, ↓gvd_succ, ↓gvd_zero, ↓and_of, im_of, im_of trivial, vals, lsts, tys, hP, hst, initS, Nat.reduceBEq, Nat.reduceAdd, Nat.reduceMul, Nat.reduceSub, Nat.reduceDiv, Nat.reduceMod, Nat.reducePow, Nat.reduceLT, Nat.reduceLeDiff, Nat.reduceEqDiff, Int.reduceAdd, Int.reduceSub, Int.reduceNeg, Int.reduceMul, Int.reduceToNat, Int.reducePow, Int.reduceLE, Int.reduceLT, Int.reduceEq, Int.reduceNe, reduceIte, reduceCtorEq, ne_eq, not_true_eq_false, not_false_eq_true, imp_self, implies_true, bls, eq_self, la, lb, zD_map, zD7, List.append_nil, hX2, hX3, RN_fin]
      refine RN_alt rfl (.cons rfl <| .cons rfl <| .cons rfl <| .cons rfl <| .nil) ?_ ?_
      · simp (disch := first | assumption | omega | (simp only [lens]; omega)) only [eqs, ↓gvd_succ, ↓gvd_zero, ↓and_of, im_of, im_of trivial, vals, lsts, tys, hP, hst, initS, Nat.reduceBEq, Nat.reduceAdd, Nat.reduceMul, Nat.reduceSub, Nat.reduceDiv, Nat.reduceMod, Nat.reducePow, Nat.reduceLT, Nat.reduceLeDiff, Nat.reduceEqDiff, Int.reduceAdd, Int.reduceSub, Int.reduceNeg, Int.reduceMul, Int.reduceToNat, Int.reducePow, Int.reduceLE, Int.reduceLT, Int.reduceEq, Int.reduceNe, reduceIte, reduceCtorEq, ne_eq, not_true_eq_false, not_false_eq_true, imp_self, implies_true, bls, eq_self, la, lb, zD_map, zD7, List.append_nil, hX2, hX3, RN_fin]
        exact key _ _ (st.length + 2) (st.length + 3) rfl rfl rfl (.add _) At.mk2 At.mk3
      refine RN_alt rfl (.cons rfl <| .cons rfl <| .cons rfl <| .cons rfl <| .nil) ?_ RN_end
      simp (disch := first | assumption | omega | (simp only [lens]; omega)) only [eqs, ↓gvd_succ, ↓gvd_zero, ↓and_of, im_of, im_of trivial, vals, lsts, tys, hP, hst, initS, Nat.reduceBEq, Nat.reduceAdd, Nat.reduceMul, Nat.reduceSub, Nat.reduceDiv, Nat.reduceMod, Nat.reducePow, Nat.reduceLT, Nat.reduceLeDiff, Nat.reduceEqDiff, Int.reduceAdd, Int.reduceSub, Int.reduceNeg, Int.reduceMul, Int.reduceToNat, Int.reducePow, Int.reduceLE, Int.reduceLT, Int.reduceEq, Int.reduceNe, reduceIte, reduceCtorEq, ne_eq, not_true_eq_false, not_false_eq_true, imp_self, implies_true, bls, eq_self, la, lb, zD_map, zD7, List.append_nil, hX2, hX3, RN_fin]
      exact key _ _ (st.length + 2) (st.length + 3) rfl rfl rfl (.add _) At.mk2 At.mk3
    refine RN_alt rfl (.cons rfl <| .nil) ?_ RN_end
    simp (disch := first | assumption | omega | (simp only [lens]; omega)) only [eqs, ↓gvd_succ, ↓gvd_zero, ↓and_of, im_of, im_of trivial, vals, lsts, tys, hP, hst, initS, Nat.reduceBEq, Nat.reduceAdd, Nat.reduceMul, Nat.reduceSub, Nat.reduceDiv, Nat.reduceMod, Nat.reducePow, Nat.reduceLT, Nat.reduceLeDiff, Nat.reduceEqDiff, Int.reduceAdd, Int.reduceSub, Int.reduceNeg, Int.reduceMul, Int.reduceToNat, Int.reducePow, Int.reduceLE, Int.reduceLT, Int.reduceEq, Int.reduceNe, reduceIte, reduceCtorEq, ne_eq, not_true_eq_false, not_false_eq_true, imp_self, implies_true, bls, eq_self, la, lb, zD_map, zD7, List.append_nil, hX2, hX3, RN_fin]
    refine RN_alt rfl (.cons rfl <| .cons rfl <| .cons rfl <| .cons rfl <| .cons rfl <| .nil) ?_ ?_
    · simp (disch := first | assumption | omega | (simp only [lens]; omega)) only [eqs, ↓gvd_succ, ↓gvd_zero, ↓and_of, im_of, im_of trivial, vals, lsts, tys, hP, hst, initS, Nat.reduceBEq, Nat.reduceAdd, Nat.reduceMul, Nat.reduceSub, Nat.reduceDiv, Nat.reduceMod, Nat.reducePow, Nat.reduceLT, Nat.reduceLeDiff, Nat.reduceEqDiff, Int.reduceAdd, Int.reduceSub, Int.reduceNeg, Int.reduceMul, Int.reduceToNat, Int.reducePow, Int.reduceLE, Int.reduceLT, Int.reduceEq, Int.reduceNe, reduceIte, reduceCtorEq, ne_eq, not_true_eq_false, not_false_eq_true, imp_self, implies_true, bls, eq_self, la, lb, zD_map, zD7, List.append_nil, hX2, hX3, RN_fin]
      exact key _ _ (st.length + 3) (st.length + 2) rfl rfl rfl (.add _) At.mk3 At.mk2
    refine RN_alt rfl (.cons rfl <| .nil) ?_ RN_end
    simp (disch := first | assumption | omega | (simp only [lens]; omega)) only [eqs, ↓gvd_succ, ↓gvd_zero, ↓and_of, im_of, im_of trivial, vals, lsts, tys, hP, hst, initS, Nat.reduceBEq, Nat.reduceAdd, Nat.reduceMul, Nat.reduceSub, Nat.reduceDiv, Nat.reduceMod, Nat.reducePow, Nat.reduceLT, Nat.reduceLeDiff, Nat.reduceEqDiff, Int.reduceAdd, Int.reduceSub, Int.reduceNeg, Int.reduceMul, Int.reduceToNat, Int.reducePow, Int.reduceLE, Int.reduceLT, Int.reduceEq, Int.reduceNe, reduceIte, reduceCtorEq, ne_eq, not_true_eq_false, not_false_eq_true, imp_self, implies_true, bls, eq_self, la, lb, zD_map, zD7, List.append_nil, hX2, hX3, RN_fin]
    refine RN_alt rfl (.cons rfl <| .cons rfl <| .cons rfl <| .cons rfl <| .nil) ?_ ?_
    · simp (disch := first | assumption | omega | (simp only [lens]; omega)) only [eqs, ↓gvd_succ, ↓gvd_zero, ↓and_of, im_of, im_of trivial, vals, lsts, tys, hP, hst, initS, Nat.reduceBEq, Nat.reduceAdd, Nat.reduceMul, Nat.reduceSub, Nat.reduceDiv, Nat.reduceMod, Nat.reducePow, Nat.reduceLT, Nat.reduceLeDiff, Nat.reduceEqDiff, Int.reduceAdd, Int.reduceSub, Int.reduceNeg, Int.reduceMul, Int.reduceToNat, Int.reducePow, Int.reduceLE, Int.reduceLT, Int.reduceEq, Int.reduceNe, reduceIte, reduceCtorEq, ne_eq, not_true_eq_false, not_false_eq_true, imp_self, implies_true, bls, eq_self, la, lb, zD_map, zD7, List.append_nil, hX2, hX3, RN_fin]
      exact key _ _ (st.length + 3) (st.length + 2) rfl rfl rfl (.add _) At.mk3 At.mk2
    refine RN_alt rfl (.cons rfl <| .cons rfl <| .cons rfl <| .cons rfl <| .nil) ?_ RN_end
    simp (disch := first | assumption | omega | (simp only [lens]; omega)) only [eqs, ↓gvd_succ, ↓gvd_zero, ↓and_of, im_of, im_of trivial, vals, lsts, tys, hP, hst, initS, Nat.reduceBEq, Nat.reduceAdd, Nat.reduceMul, Nat.reduceSub, Nat.reduceDiv, Nat.reduceMod, Nat.reducePow, Nat.reduceLT, Nat.reduceLeDiff, Nat.reduceEqDiff, Int.reduceAdd, Int.reduceSub, Int.reduceNeg, Int.reduceMul, Int.reduceToNat, Int.reducePow, Int.reduceLE, Int.reduceLT, Int.reduceEq, Int.reduceNe, reduceIte, reduceCtorEq, ne_eq, not_true_eq_false, not_false_eq_true, imp_self, implies_true, bls, eq_self, la, lb, zD_map, zD7, List.append_nil, hX2, hX3, RN_fin]
    exact key _ _ (st.length + 3) (st.length + 2) rfl rfl rfl (.add _) At.mk3 At.mk2
  intro s0 T0 p q g4 g5 g6 e0 atA atB
  rw [hF]
  have hA : DA0 T0 (.agg [.val (.int .i64 1), .val (.bool s), a, .val (.bool false), .val (.string ⟨#[]⟩), .val (.slice none 0 0), .val (.slice none 0 0)]) (.mk 1 s l false ⟨#[]⟩ [] []) := DA0.mk (ha.ext e0)
  have hB : DA0 T0 (.agg [.val (.int .i64 1), .val (.bool t), b, .val (.bool false), .val (.string ⟨#[]⟩), .val (.slice none 0 0), .val (.slice none 0 0)]) (.mk 1 t m false ⟨#[]⟩ [] []) := DA0.mk (hb.ext e0)
  have lA := la
  have lB := lb
  have x0 := Nat.le_trans hX e0.len
  have gA := (atA.ext Ext.refl).get
  have gB := (atB.ext Ext.refl).get
  simp (disch := first | assumption | omega | (simp only [lens]; omega)) only [eqs, ↓gvd_succ, ↓gvd_zero, ↓and_of, im_of, im_of trivial, vals, lsts, tys, hP, hst, initS, Nat.reduceBEq, Nat.reduceAdd, Nat.reduceMul, Nat.reduceSub, Nat.reduceDiv, Nat.reduceMod, Nat.reducePow, Nat.reduceLT, Nat.reduceLeDiff, Nat.reduceEqDiff, Int.reduceAdd, Int.reduceSub, Int.reduceNeg, Int.reduceMul, Int.reduceToNat, Int.reducePow, Int.reduceLE, Int.reduceLT, Int.reduceEq, Int.reduceNe, reduceIte, reduceCtorEq, ne_eq, not_true_eq_false, not_false_eq_true, imp_self, implies_true, bls, eq_self, gA, gB, lA, lB, zrD2, zD7, List.append_nil, g4, g5, g6]
  refine E_call (hP ▸ s_light) ⟨_, _, rfl, DS.own At.mk0 (.cons ((hA.ext Ext.refl).ext (.add _)).dc (.cons ((hB.ext Ext.refl).ext (.add _)).dc .nil)), fun hl T1 f1 => ?_, fun hl T1 f1 => ?_⟩
  rotate_left
  · simp (disch := first | assumption | omega | (simp only [lens]; omega)) only [eqs, ↓gvd_succ, ↓gvd_zero, ↓and_of, im_of, im_of trivial, vals, lsts, tys, hP, hst, initS, Nat.reduceBEq, Nat.reduceAdd, Nat.reduceMul, Nat.reduceSub, Nat.reduceDiv, Nat.reduceMod, Nat.reducePow, Nat.reduceLT, Nat.reduceLeDiff, Nat.reduceEqDiff, Int.reduceAdd, Int.reduceSub, Int.reduceNeg, Int.reduceMul, Int.reduceToNat, Int.reducePow, Int.reduceLE, Int.reduceLT, Int.reduceEq, Int.reduceNe, reduceIte, reduceCtorEq, ne_eq, not_true_eq_false, not_false_eq_true, imp_self, implies_true, bls, eq_self, g4, g5, g6]
    refine E_callA (hP ▸ s_lives9 _ hG) ⟨rfl, fun T2 f2 => ?_⟩
    simp (disch := first | assumption | omega | (simp only [lens]; omega)) only [eqs, ↓gvd_succ, ↓gvd_zero, ↓and_of, im_of, im_of trivial, vals, lsts, tys, hP, hst, initS, Nat.reduceBEq, Nat.reduceAdd, Nat.reduceMul, Nat.reduceSub, Nat.reduceDiv, Nat.reduceMod, Nat.reducePow, Nat.reduceLT, Nat.reduceLeDiff, Nat.reduceEqDiff, Int.reduceAdd, Int.reduceSub, Int.reduceNeg, Int.reduceMul, Int.reduceToNat, Int.reducePow, Int.reduceLE, Int.reduceLT, Int.reduceEq, Int.reduceNe, reduceIte, reduceCtorEq, ne_eq, not_true_eq_false, not_false_eq_true, imp_self, implies_true, bls, eq_self]
    exact hK _ (e0.trans (((Ext.add _).trans f1).trans f2))
  have e1 : Ext T0 T1 := (Ext.add _).trans f1
  have w0 : l.length ≤ 66 := (hl.2 (.mk 1 s l false ⟨#[]⟩ [] []) (by simp)).2.2.1
  have w1 : m.length ≤ 66 := (hl.2 (.mk 1 t m false ⟨#[]⟩ [] []) (by simp)).2.2.1
  have fA : fineD (.mk 1 s l false ⟨#[]⟩ [] []) := fine0 (by omega) (Nat.zero_le _)
  have fB : fineD (.mk 1 t m false ⟨#[]⟩ [] []) := fine0 (by omega) (Nat.zero_le _)
  obtain ⟨z, hz⟩ : ∃ z, iv s (val l) = z := ⟨_, rfl⟩
  obtain ⟨w, hw⟩ : ∃ w, iv t (val m) = w := ⟨_, rfl⟩
  have gA := (atA.ext e1).get
  have gB := (atB.ext e1).get
  simp (disch := first | assumption | omega | (simp only [lens]; omega)) only [eqs, ↓gvd_succ, ↓gvd_zero, ↓and_of, im_of, im_of trivial, vals, lsts, tys, hP, hst, initS, Nat.reduceBEq, Nat.reduceAdd, Nat.reduceMul, Nat.reduceSub, Nat.reduceDiv, Nat.reduceMod, Nat.reducePow, Nat.reduceLT, Nat.reduceLeDiff, Nat.reduceEqDiff, Int.reduceAdd, Int.reduceSub, Int.reduceNeg, Int.reduceMul, Int.reduceToNat, Int.reducePow, Int.reduceLE, Int.reduceLT, Int.reduceEq, Int.reduceNe, reduceIte, reduceCtorEq, ne_eq, not_true_eq_false, not_false_eq_true, imp_self, implies_true, bls, eq_self, gA, gB, lA, lB, zrD2, zD7, List.append_nil, g4, g5, g6]
  refine E_callA (hP ▸ s_Do _ hG) ⟨8, _, [(.mk 1 s l false ⟨#[]⟩ [] []), (.mk 1 t m false ⟨#[]⟩ [] [])], rfl, DS.own At.mk0 (.cons ((hA.ext e1).ext (.add _)).dc (.cons ((hB.ext e1).ext (.add _)).dc .nil)), by simp, fine2 fA fB, fun v T2 f2 hI => ?_⟩
  have e2 : Ext T1 T2 := (Ext.add _).trans f2
  have hdo : doM 8 [(.mk 1 s l false ⟨#[]⟩ [] []), (.mk 1 t m false ⟨#[]⟩ [] [])] = ((dBool (decide (z < w))), 0) := (by rw [doM_numI (by omega), hz, hw]; rfl)
  have hd1 := congrArg Prod.fst hdo
  have hd2 := congrArg Prod.snd hdo
  dsimp only at hd1 hd2
  rw [hd1] at hI
  rw [hd2]
  clear hdo hd1 hd2
  obtain ⟨aI, rfl, nI⟩ := hI.invB
  have lI := nI.leaf
  have x2 := Nat.le_trans hX ((e0.trans e1).trans e2).len
  have gA := fun y => (atA.ext (e1.trans e2)).gr y
  have gB := fun y => (atB.ext (e1.trans e2)).gr y
  simp (disch := first | assumption | omega | (simp only [lens]; omega)) only [eqs, ↓gvd_succ, ↓gvd_zero, ↓and_of, im_of, im_of trivial, vals, lsts, tys, hP, hst, initS, Nat.reduceBEq, Nat.reduceAdd, Nat.reduceMul, Nat.reduceSub, Nat.reduceDiv, Nat.reduceMod, Nat.reducePow, Nat.reduceLT, Nat.reduceLeDiff, Nat.reduceEqDiff, Int.reduceAdd, Int.reduceSub, Int.reduceNeg, Int.reduceMul, Int.reduceToNat, Int.reducePow, Int.reduceLE, Int.reduceLT, Int.reduceEq, Int.reduceNe, reduceIte, reduceCtorEq, ne_eq, not_true_eq_false, not_false_eq_true, imp_self, implies_true, bls, eq_self, gA, gB, lI, x2, zD_map, lA, lB, zrD2, zD7, List.append_nil, g4, g5, g6]
  refine E_callA (hP ▸ s_Do _ hG) ⟨7, _, [(.mk 1 s l false ⟨#[]⟩ [] []), (.mk 1 t m false ⟨#[]⟩ [] [])], rfl, DS.own At.mk1 (.cons ((hA.ext (e1.trans e2)).ext (.add _)).dc (.cons ((hB.ext (e1.trans e2)).ext (.add _)).dc .nil)), by simp, fine2 fA fB, fun v T3 f3 hJ => ?_⟩
  have e3 : Ext T2 T3 := (Ext.add _).trans f3
  have atI := At.mk0.ext f3
  have hdo : doM 7 [(.mk 1 s l false ⟨#[]⟩ [] []), (.mk 1 t m false ⟨#[]⟩ [] [])] = ((dBool (decide (z = w))), 0) := (by rw [doM_numI (by omega), hz, hw]; rfl)
  have hd1 := congrArg Prod.fst hdo
  have hd2 := congrArg Prod.snd hdo
  dsimp only at hd1 hd2
  rw [hd1] at hJ
  rw [hd2]
  clear hdo hd1 hd2
  obtain ⟨aJ, rfl, nJ⟩ := hJ.invB
  have lJ := nJ.leaf
  have x3 := Nat.le_trans hX (((e0.trans e1).trans e2).trans e3).len
  have gB := fun y => (atB.ext ((e1.trans e2).trans e3)).gr y
  have gA := fun y => (atA.ext ((e1.trans e2).trans e3)).gr y
  simp (disch := first | assumption | omega | (simp only [lens]; omega)) only [eqs, ↓gvd_succ, ↓gvd_zero, ↓and_of, im_of, im_of trivial, vals, lsts, tys, hP, hst, initS, Nat.reduceBEq, Nat.reduceAdd, Nat.reduceMul, Nat.reduceSub, Nat.reduceDiv, Nat.reduceMod, Nat.reducePow, Nat.reduceLT, Nat.reduceLeDiff, Nat.reduceEqDiff, Int.reduceAdd, Int.reduceSub, Int.reduceNeg, Int.reduceMul, Int.reduceToNat, Int.reducePow, Int.reduceLE, Int.reduceLT, Int.reduceEq, Int.reduceNe, reduceIte, reduceCtorEq, ne_eq, not_true_eq_false, not_false_eq_true, imp_self, implies_true, bls, eq_self, gB, gA, lJ, x3, zD_map, lB, lA, zrD2, zD7, List.append_nil, g4, g5, g6]
  refine E_callA (hP ▸ s_Do _ hG) ⟨8, _, [(.mk 1 t m false ⟨#[]⟩ [] []), (.mk 1 s l false ⟨#[]⟩ [] [])], rfl, DS.own At.mk1 (.cons ((hB.ext ((e1.trans e2).trans e3)).ext (.add _)).dc (.cons ((hA.ext ((e1.trans e2).trans e3)).ext (.add _)).dc .nil)), by simp, fine2 fB fA, fun v T4 f4 hM => ?_⟩
  have e4 : Ext T3 T4 := (Ext.add _).trans f4
  have atJ := At.mk0.ext f4
  have hdo : doM 8 [(.mk 1 t m false ⟨#[]⟩ [] []), (.mk 1 s l false ⟨#[]⟩ [] [])] = ((dBool (decide (w < z))), 0) := (by rw [doM_numI (by omega), hw, hz]; rfl)
  have hd1 := congrArg Prod.fst hdo
  have hd2 := congrArg Prod.snd hdo
  dsimp only at hd1 hd2
  rw [hd1] at hM
  rw [hd2]
  clear hdo hd1 hd2
  obtain ⟨aM, rfl, nM⟩ := hM.invB
  have lM := nM.leaf
  have x4 := Nat.le_trans hX ((((e0.trans e1).trans e2).trans e3).trans e4).len
  have gI := fun y => (atI.ext e4).gr y
  have gJ := fun y => (atJ.ext Ext.refl).gr y
  simp (disch := first | assumption | omega | (simp only [lens]; omega)) only [eqs, ↓gvd_succ, ↓gvd_zero, ↓and_of, im_of, im_of trivial, vals, lsts, tys, hP, hst, initS, Nat.reduceBEq, Nat.reduceAdd, Nat.reduceMul, Nat.reduceSub, Nat.reduceDiv, Nat.reduceMod, Nat.reducePow, Nat.reduceLT, Nat.reduceLeDiff, Nat.reduceEqDiff, Int.reduceAdd, Int.reduceSub, Int.reduceNeg, Int.reduceMul, Int.reduceToNat, Int.reducePow, Int.reduceLE, Int.reduceLT, Int.reduceEq, Int.reduceNe, reduceIte, reduceCtorEq, ne_eq, not_true_eq_false, not_false_eq_true, imp_self, implies_true, bls, eq_self, gI, gJ, lM, x4, zD_map, lI, lJ, zrD3, zD7, List.append_nil, g4, g5, g6]
  obtain ⟨T5, hT5⟩ : ∃ T, T4 ++ [some [.val (.int .i64 2), .val (.bool false), aM, .val (.bool (decide (w < z))), .val (.string ⟨#[]⟩), .val (.slice none 0 0), .val (.slice none 0 0)], some [.val (.int .i64 2), .val (.bool false), aI, .val (.bool (decide (z < w))), .val (.string ⟨#[]⟩), .val (.slice none 0 0), .val (.slice none 0 0), .val (.int .i64 2), .val (.bool false), aJ, .val (.bool (decide (z = w))), .val (.string ⟨#[]⟩), .val (.slice none 0 0), .val (.slice none 0 0), .val (.int .i64 2), .val (.bool false), aM, .val (.bool (decide (w < z))), .val (.string ⟨#[]⟩), .val (.slice none 0 0), .val (.slice none 0 0)]] = T := ⟨_, rfl⟩
  have e5 : Ext T4 T5 := ⟨_, hT5.symm⟩
  have hDS : DS T5 (.own (T4.length + 1) 0 3 7) [dBool (decide (z < w)), dBool (decide (z = w)), dBool (decide (w < z))] := hT5 ▸ DS.own At.mk1 (.cons ((hI.ext (e3.trans e4)).ext (.add _)).dc (.cons ((hJ.ext e4).ext (.add _)).dc (.cons (hM.ext (.add _)).dc .nil)))
  rw [hT5]
  clear hT5
  have eJ := atJ.ext e5
  have x5 := Nat.le_trans hX (((((e0.trans e1).trans e2).trans e3).trans e4).trans e5).len
  obtain ⟨L, hL⟩ : ∃ L, [decide (z < w), decide (z = w), decide (w < z)] = L := ⟨_, rfl⟩
  have hL3 : L.length = 3 := by rw [← hL]; rfl
  have hL1 : cntB L = 1 := by rw [← hL]; exact cnt_one z w
  refine V_loop (ι := Nat × St) (fun e => [(52, .val (.int .i64 (e.1 : Int))), (51, .val (.int .i64 3)), (50, .own (T4.length + 1) 0 3 7), (13, .val (.int .i64 (cntB (L.take e.1) : Nat))), (4, .val (.bool false)), (5, .ptr p 0), (6, .ptr q 0), (9, .ptr T3.length 0), (8, .val (.int .i64 0)), (10, .val (.int .i64 0)), (12, .val (.int .i64 0))]) (fun e => e.2)
    (fun e => Ext T5 e.2 ∧ e.1 ≤ 3) (fun e => 3 - e.1) (0, T5) ⟨.refl, by simp⟩ rfl (by simp (disch := first | assumption | omega | (simp only [lens]; omega)) only [eqs, ↓gvd_succ, ↓gvd_zero, ↓and_of, im_of, im_of trivial, vals, lsts, tys, hP, hst, initS, Nat.reduceBEq, Nat.reduceAdd, Nat.reduceMul, Nat.reduceSub, Nat.reduceDiv, Nat.reduceMod, Nat.reducePow, Nat.reduceLT, Nat.reduceLeDiff, Nat.reduceEqDiff, Int.reduceAdd, Int.reduceSub, Int.reduceNeg, Int.reduceMul, Int.reduceToNat, Int.reducePow, Int.reduceLE, Int.reduceLT, Int.reduceEq, Int.reduceNe, reduceIte, reduceCtorEq, ne_eq, not_true_eq_false, not_false_eq_true, imp_self, implies_true, bls, eq_self, List.take_zero, g4, g5, g6] <;> rfl) ?_
  rintro ⟨i, T⟩ ⟨hT, hi⟩
  dsimp only at hT hi ⊢
  simp (disch := first | assumption | omega | (simp only [lens]; omega)) only [eqs, ↓gvd_succ, ↓gvd_zero, ↓and_of, im_of, im_of trivial, vals, lsts, tys, hP, hst, initS, Nat.reduceBEq, Nat.reduceAdd, Nat.reduceMul, Nat.reduceSub, Nat.reduceDiv, Nat.reduceMod, Nat.reducePow, Nat.reduceLT, Nat.reduceLeDiff, Nat.reduceEqDiff, Int.reduceAdd, Int.reduceSub, Int.reduceNeg, Int.reduceMul, Int.reduceToNat, Int.reducePow, Int.reduceLE, Int.reduceLT, Int.reduceEq, Int.reduceNe, reduceIte, reduceCtorEq, ne_eq, not_true_eq_false, not_false_eq_true, imp_self, implies_true, bls, eq_self]
  refine C_dec (fun h1 => ?_) (fun h1 => ?_)
  · obtain ⟨cs, c, d, hsl, hcl, hc, hc7, hca, he, hec, hb1, hb2⟩ := (hDS.ext hT).at (i := i) (by simp; omega)
    obtain ⟨v, hv, rfl⟩ := get3 he
    rw [hL] at hv
    have hXl := Nat.le_trans x5 hT.len
    have hsl : sl 7 T (.own (T4.length + 1) 0 3 7) = some (3, cs) := hsl
    have hcl : cs.length = 3 * 7 := hcl
    have hb1 : i * 7 < 3 * 7 := hb1
    have hb2 : i * 7 + 7 ≤ 3 * 7 := hb2
    have hcnt := cntB_take hv
    have hle : cntB (L.take (i + 1)) ≤ 3 := by have h := cntB_le (l := L.take (i + 1)); rw [List.length_take] at h; omega
    obtain ⟨d1, d2, d3, rfl, n1, n2, n3⟩ := hec.invB
    have e6 : Ext T (T ++ [some [.val (.int .i64 2), .val (.bool false), d1, .val (.bool v), .val (.string ⟨#[]⟩), d2, d3]]) := .add _
    have m1 := n1.leaf
    have m2 := n2.leaf
    have m3 := n3.leaf
    simp (disch := first | assumption | omega | (simp only [lens]; omega)) only [eqs, ↓gvd_succ, ↓gvd_zero, ↓and_of, im_of, im_of trivial, vals, lsts, tys, hP, hst, initS, Nat.reduceBEq, Nat.reduceAdd, Nat.reduceMul, Nat.reduceSub, Nat.reduceDiv, Nat.reduceMod, Nat.reducePow, Nat.reduceLT, Nat.reduceLeDiff, Nat.reduceEqDiff, Int.reduceAdd, Int.reduceSub, Int.reduceNeg, Int.reduceMul, Int.reduceToNat, Int.reducePow, Int.reduceLE, Int.reduceLT, Int.reduceEq, Int.reduceNe, reduceIte, reduceCtorEq, ne_eq, not_true_eq_false, not_false_eq_true, imp_self, implies_true, bls, eq_self, hsl, hcl, hc, hca, zD_map, hXl, hb1, hb2, m1, m2, m3]
    refine E_call (hP ▸ s_True) ⟨_, dBool v, rfl, DA.mk' (n1.ext e6) (n2.ext e6) (n3.ext e6), fun T7 f7 => ?_⟩
    rw [show trM (dBool v) = v from rfl]
    have e7 : Ext T5 T7 := hT.trans (e6.trans f7)
    cases v
    · simp only [Bool.false_eq_true, if_false, Nat.add_zero] at hcnt
      simp (disch := first | assumption | omega | (simp only [lens]; omega)) only [eqs, ↓gvd_succ, ↓gvd_zero, ↓and_of, im_of, im_of trivial, vals, lsts, tys, hP, hst, initS, Nat.reduceBEq, Nat.reduceAdd, Nat.reduceMul, Nat.reduceSub, Nat.reduceDiv, Nat.reduceMod, Nat.reducePow, Nat.reduceLT, Nat.reduceLeDiff, Nat.reduceEqDiff, Int.reduceAdd, Int.reduceSub, Int.reduceNeg, Int.reduceMul, Int.reduceToNat, Int.reducePow, Int.reduceLE, Int.reduceLT, Int.reduceEq, Int.reduceNe, reduceIte, reduceCtorEq, ne_eq, not_true_eq_false, not_false_eq_true, imp_self, implies_true, bls, eq_self]
      exact again (i + 1, T7) ⟨e7, by dsimp only; omega⟩ (by dsimp only; omega) rfl (by dsimp only; simp (disch := first | assumption | omega | (simp only [lens]; omega)) only [eqs, ↓gvd_succ, ↓gvd_zero, ↓and_of, im_of, im_of trivial, vals, lsts, tys, hP, hst, initS, Nat.reduceBEq, Nat.reduceAdd, Nat.reduceMul, Nat.reduceSub, Nat.reduceDiv, Nat.reduceMod, Nat.reducePow, Nat.reduceLT, Nat.reduceLeDiff, Nat.reduceEqDiff, Int.reduceAdd, Int.reduceSub, Int.reduceNeg, Int.reduceMul, Int.reduceToNat, Int.reducePow, Int.reduceLE, Int.reduceLT, Int.reduceEq, Int.reduceNe, reduceIte, reduceCtorEq, ne_eq, not_true_eq_false, not_false_eq_true, imp_self, implies_true, bls, eq_self, hcnt] <;> rfl)
    · simp only [if_true] at hcnt
      simp (disch := first | assumption | omega | (simp only [lens]; omega)) only [eqs, ↓gvd_succ, ↓gvd_zero, ↓and_of, im_of, im_of trivial, vals, lsts, tys, hP, hst, initS, Nat.reduceBEq, Nat.reduceAdd, Nat.reduceMul, Nat.reduceSub, Nat.reduceDiv, Nat.reduceMod, Nat.reducePow, Nat.reduceLT, Nat.reduceLeDiff, Nat.reduceEqDiff, Int.reduceAdd, Int.reduceSub, Int.reduceNeg, Int.reduceMul, Int.reduceToNat, Int.reducePow, Int.reduceLE, Int.reduceLT, Int.reduceEq, Int.reduceNe, reduceIte, reduceCtorEq, ne_eq, not_true_eq_false, not_false_eq_true, imp_self, implies_true, bls, eq_self]
      exact again (i + 1, T7) ⟨e7, by dsimp only; omega⟩ (by dsimp only; omega) rfl (by dsimp only; simp (disch := first | assumption | omega | (simp only [lens]; omega)) only [eqs, ↓gvd_succ, ↓gvd_zero, ↓and_of, im_of, im_of trivial, vals, lsts, tys, hP, hst, initS, Nat.reduceBEq, Nat.reduceAdd, Nat.reduceMul, Nat.reduceSub, Nat.reduceDiv, Nat.reduceMod, Nat.reducePow, Nat.reduceLT, Nat.reduceLeDiff, Nat.reduceEqDiff, Int.reduceAdd, Int.reduceSub, Int.reduceNeg, Int.reduceMul, Int.reduceToNat, Int.reducePow, Int.reduceLE, Int.reduceLT, Int.reduceEq, Int.reduceNe, reduceIte, reduceCtorEq, ne_eq, not_true_eq_false, not_false_eq_true, imp_self, implies_true, bls, eq_self, hcnt, Int.natCast_add] <;> rfl)
  · obtain rfl : i = 3 := by omega
    rw [show cntB (L.take 3) = 1 by rw [List.take_of_length_le (by omega)]; exact hL1]
    simp (disch := first | assumption | omega | (simp only [lens]; omega)) only [eqs, ↓gvd_succ, ↓gvd_zero, ↓and_of, im_of, im_of trivial, vals, lsts, tys, hP, hst, initS, Nat.reduceBEq, Nat.reduceAdd, Nat.reduceMul, Nat.reduceSub, Nat.reduceDiv, Nat.reduceMod, Nat.reducePow, Nat.reduceLT, Nat.reduceLeDiff, Nat.reduceEqDiff, Int.reduceAdd, Int.reduceSub, Int.reduceNeg, Int.reduceMul, Int.reduceToNat, Int.reducePow, Int.reduceLE, Int.reduceLT, Int.reduceEq, Int.reduceNe, reduceIte, reduceCtorEq, ne_eq, not_true_eq_false, not_false_eq_true, imp_self, implies_true, bls, eq_self]
    refine V_draw [0, 1, 2, 3, 4, 5, 6, 7, 8, 9, 10, 11, 12, 13, 14, 15, 16, 17, 18, 19, 20, 21, 22, 23, 24, 25] (by kernel_rfl) (.cons rfl <| .cons rfl <| .cons rfl <| .cons rfl <| .cons rfl <| .cons rfl <| .cons rfl <| .cons rfl <| .cons rfl <| .cons rfl <| .cons rfl <| .cons rfl <| .cons rfl <| .cons rfl <| .cons rfl <| .cons rfl <| .cons rfl <| .cons rfl <| .cons rfl <| .cons rfl <| .cons rfl <| .cons rfl <| .cons rfl <| .cons rfl <| .cons rfl <| .cons rfl <| .nil) ?_
    have f5 := (e1.trans e2).trans ((e3.trans e4).trans (e5.trans hT))
    have gA := (atA.ext f5).get
    have gB := (atB.ext f5).get
    have gJ := (eJ.ext hT).get
    simp (disch := first | assumption | omega | (simp only [lens]; omega)) only [eqs, ↓gvd_succ, ↓gvd_zero, ↓and_of, im_of, im_of trivial, vals, lsts, tys, hP, hst, initS, Nat.reduceBEq, Nat.reduceAdd, Nat.reduceMul, Nat.reduceSub, Nat.reduceDiv, Nat.reduceMod, Nat.reducePow, Nat.reduceLT, Nat.reduceLeDiff, Nat.reduceEqDiff, Int.reduceAdd, Int.reduceSub, Int.reduceNeg, Int.reduceMul, Int.reduceToNat, Int.reducePow, Int.reduceLE, Int.reduceLT, Int.reduceEq, Int.reduceNe, reduceIte, reduceCtorEq, ne_eq, not_true_eq_false, not_false_eq_true, imp_self, implies_true, bls, eq_self, beq_self_eq_true, gA, gB, gJ, lA, lB]
    refine E_call (hP ▸ s_Eq) ⟨_, _, _, _, rfl, (hA.ext f5).da, (hB.ext f5).da, fA.1, fB.1, fA.2.1, fB.2.1, fun T8 f8 => ?_⟩
    rw [eqM_num, hz, hw]
    simp (disch := first | assumption | omega | (simp only [lens]; omega)) only [eqs, ↓gvd_succ, ↓gvd_zero, ↓and_of, im_of, im_of trivial, vals, lsts, tys, hP, hst, initS, Nat.reduceBEq, Nat.reduceAdd, Nat.reduceMul, Nat.reduceSub, Nat.reduceDiv, Nat.reduceMod, Nat.reducePow, Nat.reduceLT, Nat.reduceLeDiff, Nat.reduceEqDiff, Int.reduceAdd, Int.reduceSub, Int.reduceNeg, Int.reduceMul, Int.reduceToNat, Int.reducePow, Int.reduceLE, Int.reduceLT, Int.reduceEq, Int.reduceNe, reduceIte, reduceCtorEq, ne_eq, not_true_eq_false, not_false_eq_true, imp_self, implies_true, bls, eq_self, beq_self_eq_true]
    refine E_callA (hP ▸ s_lives9 _ hG) ⟨rfl, fun T9 f9 => ?_⟩
    simp (disch := first | assumption | omega | (simp only [lens]; omega)) only [eqs, ↓gvd_succ, ↓gvd_zero, ↓and_of, im_of, im_of trivial, vals, lsts, tys, hP, hst, initS, Nat.reduceBEq, Nat.reduceAdd, Nat.reduceMul, Nat.reduceSub, Nat.reduceDiv, Nat.reduceMod, Nat.reducePow, Nat.reduceLT, Nat.reduceLeDiff, Nat.reduceEqDiff, Int.reduceAdd, Int.reduceSub, Int.reduceNeg, Int.reduceMul, Int.reduceToNat, Int.reducePow, Int.reduceLE, Int.reduceLT, Int.reduceEq, Int.reduceNe, reduceIte, reduceCtorEq, ne_eq, not_true_eq_false, not_false_eq_true, imp_self, implies_true, bls, eq_self]
    exact hK _ (e0.trans (f5.trans (f8.trans f9)))
end Go.Proofs.Pv
