/- PrimGood, walked. -/
import Derived.Test.YtmclabehpfpnnaaDoorPE2
import Derived.Test.YtmclabehpfpnnaaDoorE23
set_option linter.unusedSimpArgs false
set_option linter.unusedVariables false
namespace Go.Proofs.Pv
open Go Go.RowKit Go.Proofs
set_option maxRecDepth 20000

theorem DS.lt32 {st : St} {y : AV} {ds : List Dt} (h : DS st y ds) : ∀ d ∈ ds, ∀ x ∈ d.lm, x < 4294967296 := by
  intro d hd
  have key : ∀ c, DC st c d → ∀ x ∈ d.lm, x < 4294967296 := by
    intro c hc
    cases hc with
    | mk ha _ _ => exact ha.lt
  obtain ⟨i, hi⟩ := List.mem_iff_getElem?.1 hd
  obtain ⟨cs, _, hl, _⟩ := h.inv
  exact key _ (hl.get hi)
theorem light_few1 {d : Dt} (h : light1 d) : d.few := ⟨by have := h.1; omega, by have := h.2.1; omega⟩
def RGood9 (xs : List AV) (st : St) (K : AV → St → Prop) : Prop := ∃ (p : Int) (y : AV) (ds : List Dt), xs = [.val (.int .i64 p), y] ∧ DS st y ds ∧ fits ds ∧ anyw st (.bool true) K
set_option maxHeartbeats 4000000 in
theorem s_PrimGood : ∀ w0, GP w0 → PSpecAt Tryd.prog w0 9 RGood9 := by
  refine gspec_of (fn := Tryd.f9) 2 [.tmp 4] (by kernel_rfl) rfl rfl (by kernel_rfl) mixed (by rintro _ _ _ ⟨p, y, ds, rfl, _⟩; rfl) ?_
  rintro X _ st K hP hst hG ⟨p, y, ds, rfl, hy, hf, hK⟩
  have hX : X.st1.length ≤ st.length := by rw [hst]; omega
  refine vc_V ?_
  simp (disch := first | assumption | omega | (simp only [lens]; omega)) only [eqs, ↓gvd_succ, ↓gvd_zero, ↓and_of, im_of, im_of trivial, vals, lsts, tys, hP, hst, initS, Nat.reduceBEq, Nat.reduceAdd, Nat.reduceMul, Nat.reduceSub, Nat.reduceDiv, Nat.reduceMod, Nat.reducePow, Nat.reduceLT, Nat.reduceLeDiff, Nat.reduceEqDiff, Int.reduceAdd, Int.reduceSub, Int.reduceNeg, Int.reduceMul, Int.reduceToNat, Int.reducePow, Int.reduceLE, Int.reduceLT, Int.reduceEq, Int.reduceNe, reduceIte, reduceCtorEq, ne_eq, not_true_eq_false, not_false_eq_true, imp_self, implies_true, bls, eq_self]
  refine E_call (hP ▸ s_light) ⟨_, ds, rfl, hy, fun hl T1 e1 => ?_, fun hl T1 e1 => ?_⟩
  rotate_left
  · simp (disch := first | assumption | omega | (simp only [lens]; omega)) only [eqs, ↓gvd_succ, ↓gvd_zero, ↓and_of, im_of, im_of trivial, vals, lsts, tys, hP, hst, initS, Nat.reduceBEq, Nat.reduceAdd, Nat.reduceMul, Nat.reduceSub, Nat.reduceDiv, Nat.reduceMod, Nat.reducePow, Nat.reduceLT, Nat.reduceLeDiff, Nat.reduceEqDiff, Int.reduceAdd, Int.reduceSub, Int.reduceNeg, Int.reduceMul, Int.reduceToNat, Int.reducePow, Int.reduceLE, Int.reduceLT, Int.reduceEq, Int.reduceNe, reduceIte, reduceCtorEq, ne_eq, not_true_eq_false, not_false_eq_true, imp_self, implies_true, bls, eq_self]
    refine E_callA (hP ▸ s_lives9 _ hG) ⟨rfl, fun T2 e2 => ?_⟩
    simp (disch := first | assumption | omega | (simp only [lens]; omega)) only [eqs, ↓gvd_succ, ↓gvd_zero, ↓and_of, im_of, im_of trivial, vals, lsts, tys, hP, hst, initS, Nat.reduceBEq, Nat.reduceAdd, Nat.reduceMul, Nat.reduceSub, Nat.reduceDiv, Nat.reduceMod, Nat.reducePow, Nat.reduceLT, Nat.reduceLeDiff, Nat.reduceEqDiff, Int.reduceAdd, Int.reduceSub, Int.reduceNeg, Int.reduceMul, Int.reduceToNat, Int.reducePow, Int.reduceLE, Int.reduceLT, Int.reduceEq, Int.reduceNe, reduceIte, reduceCtorEq, ne_eq, not_true_eq_false, not_false_eq_true, imp_self, implies_true, bls, eq_self]
    exact hK _ (e1.trans e2)
  have hn : ds.length ≤ 10 := hl.1
  have hok : ∀ d ∈ ds, fineD d := fun d hd => ⟨fits_mem hf hd, light_few1 (hl.2 d hd), by have := (hl.2 d hd).2.2.1; omega, by have := (hl.2 d hd).2.2.2; omega⟩
  obtain ⟨cs1, hsl1, _, _⟩ := (hy.ext e1).inv
  simp (disch := first | assumption | omega | (simp only [lens]; omega)) only [eqs, ↓gvd_succ, ↓gvd_zero, ↓and_of, im_of, im_of trivial, vals, lsts, tys, hP, hst, initS, Nat.reduceBEq, Nat.reduceAdd, Nat.reduceMul, Nat.reduceSub, Nat.reduceDiv, Nat.reduceMod, Nat.reducePow, Nat.reduceLT, Nat.reduceLeDiff, Nat.reduceEqDiff, Int.reduceAdd, Int.reduceSub, Int.reduceNeg, Int.reduceMul, Int.reduceToNat, Int.reducePow, Int.reduceLE, Int.reduceLT, Int.reduceEq, Int.reduceNe, reduceIte, reduceCtorEq, ne_eq, not_true_eq_false, not_false_eq_true, imp_self, implies_true, bls, eq_self, hsl1]
  refine V_loop (ι := Nat × St) (fun e => [(17, .val (.int .i64 (e.1 : Int))), (16, .val (.int .i64 (ds.length : Int))), (15, y), (0, .val (.int .i64 p)), (1, y)]) (fun e => e.2)
    (fun e => Ext T1 e.2 ∧ e.1 ≤ ds.length ∧ ∀ (j : Nat) d, j < e.1 → ds[j]? = some d → isM d = true) (fun e => ds.length - e.1) (0, T1) ⟨.refl, by simp, by simp⟩ rfl (by simp (disch := first | assumption | omega | (simp only [lens]; omega)) only [eqs, ↓gvd_succ, ↓gvd_zero, ↓and_of, im_of, im_of trivial, vals, lsts, tys, hP, hst, initS, Nat.reduceBEq, Nat.reduceAdd, Nat.reduceMul, Nat.reduceSub, Nat.reduceDiv, Nat.reduceMod, Nat.reducePow, Nat.reduceLT, Nat.reduceLeDiff, Nat.reduceEqDiff, Int.reduceAdd, Int.reduceSub, Int.reduceNeg, Int.reduceMul, Int.reduceToNat, Int.reducePow, Int.reduceLE, Int.reduceLT, Int.reduceEq, Int.reduceNe, reduceIte, reduceCtorEq, ne_eq, not_true_eq_false, not_false_eq_true, imp_self, implies_true, bls, eq_self] <;> rfl) ?_
  rintro ⟨i, T⟩ ⟨hT, hi, hj⟩
  dsimp only at hT hi hj ⊢
  simp (disch := first | assumption | omega | (simp only [lens]; omega)) only [eqs, ↓gvd_succ, ↓gvd_zero, ↓and_of, im_of, im_of trivial, vals, lsts, tys, hP, hst, initS, Nat.reduceBEq, Nat.reduceAdd, Nat.reduceMul, Nat.reduceSub, Nat.reduceDiv, Nat.reduceMod, Nat.reducePow, Nat.reduceLT, Nat.reduceLeDiff, Nat.reduceEqDiff, Int.reduceAdd, Int.reduceSub, Int.reduceNeg, Int.reduceMul, Int.reduceToNat, Int.reducePow, Int.reduceLE, Int.reduceLT, Int.reduceEq, Int.reduceNe, reduceIte, reduceCtorEq, ne_eq, not_true_eq_false, not_false_eq_true, imp_self, implies_true, bls, eq_self]
  refine C_dec (fun h1 => ?_) (fun h1 => ?_)
  · obtain ⟨cs, c, d, hsl, hcl, hc, hc7, hca, he, hec, hb1, hb2⟩ := (hy.ext (e1.trans hT)).at (i := i) (by omega)
    have hdm := List.mem_of_getElem? he
    have hXl := Nat.le_trans hX (e1.trans hT).len
    have hsm : decide (d.sz ≤ 5000 ∧ d.dp ≤ 200) = true := decide_eq_true ⟨by have := (hl.2 d hdm).1; omega, by have := (hl.2 d hdm).2.1; omega⟩
    simp (disch := first | assumption | omega | (simp only [lens]; omega)) only [eqs, ↓gvd_succ, ↓gvd_zero, ↓and_of, im_of, im_of trivial, vals, lsts, tys, hP, hst, initS, Nat.reduceBEq, Nat.reduceAdd, Nat.reduceMul, Nat.reduceSub, Nat.reduceDiv, Nat.reduceMod, Nat.reducePow, Nat.reduceLT, Nat.reduceLeDiff, Nat.reduceEqDiff, Int.reduceAdd, Int.reduceSub, Int.reduceNeg, Int.reduceMul, Int.reduceToNat, Int.reducePow, Int.reduceLE, Int.reduceLT, Int.reduceEq, Int.reduceNe, reduceIte, reduceCtorEq, ne_eq, not_true_eq_false, not_false_eq_true, imp_self, implies_true, bls, eq_self, hsl, hcl, hc, hca, take7 hc7, zD_drop, zD_len, List.append_nil, hXl, hb1, hb2]
    refine E_call (hP ▸ s_Good3) ⟨_, d, rfl, ⟨c, rfl, hec.ext (.add _)⟩, fits_mem hf hdm, fun T2 hT2 => ?_⟩
    have e2 : Ext T1 T2 := hT.trans ((Ext.add _).trans hT2)
    rw [hsm, Bool.true_and]
    simp (disch := first | assumption | omega | (simp only [lens]; omega)) only [eqs, ↓gvd_succ, ↓gvd_zero, ↓and_of, im_of, im_of trivial, vals, lsts, tys, hP, hst, initS, Nat.reduceBEq, Nat.reduceAdd, Nat.reduceMul, Nat.reduceSub, Nat.reduceDiv, Nat.reduceMod, Nat.reducePow, Nat.reduceLT, Nat.reduceLeDiff, Nat.reduceEqDiff, Int.reduceAdd, Int.reduceSub, Int.reduceNeg, Int.reduceMul, Int.reduceToNat, Int.reducePow, Int.reduceLE, Int.reduceLT, Int.reduceEq, Int.reduceNe, reduceIte, reduceCtorEq, ne_eq, not_true_eq_false, not_false_eq_true, imp_self, implies_true, bls, eq_self]
    refine C_bool (fun h5 => ?_) (fun h5 => ?_)
    · simp (disch := first | assumption | omega | (simp only [lens]; omega)) only [eqs, ↓gvd_succ, ↓gvd_zero, ↓and_of, im_of, im_of trivial, vals, lsts, tys, hP, hst, initS, Nat.reduceBEq, Nat.reduceAdd, Nat.reduceMul, Nat.reduceSub, Nat.reduceDiv, Nat.reduceMod, Nat.reducePow, Nat.reduceLT, Nat.reduceLeDiff, Nat.reduceEqDiff, Int.reduceAdd, Int.reduceSub, Int.reduceNeg, Int.reduceMul, Int.reduceToNat, Int.reducePow, Int.reduceLE, Int.reduceLT, Int.reduceEq, Int.reduceNe, reduceIte, reduceCtorEq, ne_eq, not_true_eq_false, not_false_eq_true, imp_self, implies_true, bls, eq_self]
      refine E_callA (hP ▸ s_lives9 _ hG) ⟨rfl, fun T3 e3 => ?_⟩
      simp (disch := first | assumption | omega | (simp only [lens]; omega)) only [eqs, ↓gvd_succ, ↓gvd_zero, ↓and_of, im_of, im_of trivial, vals, lsts, tys, hP, hst, initS, Nat.reduceBEq, Nat.reduceAdd, Nat.reduceMul, Nat.reduceSub, Nat.reduceDiv, Nat.reduceMod, Nat.reducePow, Nat.reduceLT, Nat.reduceLeDiff, Nat.reduceEqDiff, Int.reduceAdd, Int.reduceSub, Int.reduceNeg, Int.reduceMul, Int.reduceToNat, Int.reducePow, Int.reduceLE, Int.reduceLT, Int.reduceEq, Int.reduceNe, reduceIte, reduceCtorEq, ne_eq, not_true_eq_false, not_false_eq_true, imp_self, implies_true, bls, eq_self]
      exact hK _ ((e1.trans e2).trans e3)
    · have h5 : isM d = true := by simpa using h5
      simp (disch := first | assumption | omega | (simp only [lens]; omega)) only [eqs, ↓gvd_succ, ↓gvd_zero, ↓and_of, im_of, im_of trivial, vals, lsts, tys, hP, hst, initS, Nat.reduceBEq, Nat.reduceAdd, Nat.reduceMul, Nat.reduceSub, Nat.reduceDiv, Nat.reduceMod, Nat.reducePow, Nat.reduceLT, Nat.reduceLeDiff, Nat.reduceEqDiff, Int.reduceAdd, Int.reduceSub, Int.reduceNeg, Int.reduceMul, Int.reduceToNat, Int.reducePow, Int.reduceLE, Int.reduceLT, Int.reduceEq, Int.reduceNe, reduceIte, reduceCtorEq, ne_eq, not_true_eq_false, not_false_eq_true, imp_self, implies_true, bls, eq_self]
      refine again (i + 1, T2) ⟨e2, by dsimp only; omega, fun j d' hj2 hd => ?_⟩ (by dsimp only; omega) rfl (by dsimp only; simp (disch := first | assumption | omega | (simp only [lens]; omega)) only [eqs, ↓gvd_succ, ↓gvd_zero, ↓and_of, im_of, im_of trivial, vals, lsts, tys, hP, hst, initS, Nat.reduceBEq, Nat.reduceAdd, Nat.reduceMul, Nat.reduceSub, Nat.reduceDiv, Nat.reduceMod, Nat.reducePow, Nat.reduceLT, Nat.reduceLeDiff, Nat.reduceEqDiff, Int.reduceAdd, Int.reduceSub, Int.reduceNeg, Int.reduceMul, Int.reduceToNat, Int.reducePow, Int.reduceLE, Int.reduceLT, Int.reduceEq, Int.reduceNe, reduceIte, reduceCtorEq, ne_eq, not_true_eq_false, not_false_eq_true, imp_self, implies_true, bls, eq_self] <;> rfl)
      by_cases hji : j = i
      · subst hji
        rw [he] at hd; cases hd
        exact h5
      · exact hj j d' (by dsimp only at hj2; omega) hd
  have hall : ∀ d ∈ ds, isM d = true := fun d hd => by
    obtain ⟨j, hjd⟩ := List.mem_iff_getElem?.1 hd
    exact hj j d (by have := (List.getElem?_eq_some_iff.1 hjd).1; omega) hjd
  obtain ⟨D, e, hq⟩ : ∃ D e, doM p ds = (D, e) := ⟨_, _, rfl⟩
  have gq : (e = 0 ∨ D = dNil) ∧ (e = 2 → plainM p = false) ∧ isM D = true ∧ D.sz = 1 ∧ D.dp = 1 ∧ D.fit := by
    cases hpl : plainM p
    · have h2 := doM_not (ds := ds) hpl
      rw [hq] at h2
      cases h2
      exact ⟨.inr rfl, fun _ => rfl, bad_nil⟩
    · have h2 := gdr_doM hpl hl hall hy.lt32
      rw [hq] at h2
      exact ⟨h2.1, fun h3 => absurd h3 h2.2.1, h2.2.2⟩
  obtain ⟨q1, q2, q3, q4, q5, q6⟩ := gq
  have hgd : (decide (D.sz ≤ 5000 ∧ D.dp ≤ 200) && isM D) = true := by rw [q3, Bool.and_true, decide_eq_true_eq]; omega
  have e2 : Ext st T := e1.trans hT
  simp (disch := first | assumption | omega | (simp only [lens]; omega)) only [eqs, ↓gvd_succ, ↓gvd_zero, ↓and_of, im_of, im_of trivial, vals, lsts, tys, hP, hst, initS, Nat.reduceBEq, Nat.reduceAdd, Nat.reduceMul, Nat.reduceSub, Nat.reduceDiv, Nat.reduceMod, Nat.reducePow, Nat.reduceLT, Nat.reduceLeDiff, Nat.reduceEqDiff, Int.reduceAdd, Int.reduceSub, Int.reduceNeg, Int.reduceMul, Int.reduceToNat, Int.reducePow, Int.reduceLE, Int.reduceLT, Int.reduceEq, Int.reduceNe, reduceIte, reduceCtorEq, ne_eq, not_true_eq_false, not_false_eq_true, imp_self, implies_true, bls, eq_self]
  refine E_callA (hP ▸ s_Do _ hG) ⟨p, y, ds, rfl, hy.ext e2, by omega, hok, fun v T2 hT2 hv => ?_⟩
  rw [hq] at hv ⊢
  dsimp only at hv ⊢
  have dv := hv
  obtain ⟨k, g, a, l, b, s, rfl, hD, n⟩ := hv
  have lv := n.leaf
  have x2 := Nat.le_trans hX (e2.trans hT2).len
  simp (disch := first | assumption | omega | (simp only [lens]; omega)) only [eqs, ↓gvd_succ, ↓gvd_zero, ↓and_of, im_of, im_of trivial, vals, lsts, tys, hP, hst, initS, Nat.reduceBEq, Nat.reduceAdd, Nat.reduceMul, Nat.reduceSub, Nat.reduceDiv, Nat.reduceMod, Nat.reducePow, Nat.reduceLT, Nat.reduceLeDiff, Nat.reduceEqDiff, Int.reduceAdd, Int.reduceSub, Int.reduceNeg, Int.reduceMul, Int.reduceToNat, Int.reducePow, Int.reduceLE, Int.reduceLT, Int.reduceEq, Int.reduceNe, reduceIte, reduceCtorEq, ne_eq, not_true_eq_false, not_false_eq_true, imp_self, implies_true, bls, eq_self, lv, x2, zD_map, zD7, List.append_nil]
  refine E_callA (hP ▸ s_Do _ hG) ⟨p, y, ds, rfl, hy.ext ((e2.trans hT2).trans (.add _)), by omega, hok, fun v T3 hT3 hv => ?_⟩
  rw [hq] at hv ⊢
  dsimp only at hv ⊢
  have dw := hv
  obtain ⟨k', g', a', l', b', s', rfl, hD', n'⟩ := hv
  have lw := n'.leaf
  have e3 : Ext T2 T3 := (Ext.add _).trans hT3
  have at1 := At.mk0.ext hT3
  have g1 := fun y => at1.gr y
  have x3 := Nat.le_trans hX ((e2.trans hT2).trans e3).len
  simp (disch := first | assumption | omega | (simp only [lens]; omega)) only [eqs, ↓gvd_succ, ↓gvd_zero, ↓and_of, im_of, im_of trivial, vals, lsts, tys, hP, hst, initS, Nat.reduceBEq, Nat.reduceAdd, Nat.reduceMul, Nat.reduceSub, Nat.reduceDiv, Nat.reduceMod, Nat.reducePow, Nat.reduceLT, Nat.reduceLeDiff, Nat.reduceEqDiff, Int.reduceAdd, Int.reduceSub, Int.reduceNeg, Int.reduceMul, Int.reduceToNat, Int.reducePow, Int.reduceLE, Int.reduceLT, Int.reduceEq, Int.reduceNe, reduceIte, reduceCtorEq, ne_eq, not_true_eq_false, not_false_eq_true, imp_self, implies_true, bls, eq_self, lv, lw, g1, x3, zD_map, zD7, List.append_nil]
  refine E_call (hP ▸ s_Good3) ⟨_, D, rfl, (dv.ext (e3.trans (.add _))).da, q6, fun T4 hT4 => ?_⟩
  have e4 : Ext T3 T4 := (Ext.add _).trans hT4
  have at2 := At.mk0.ext hT4
  have g1 := (at1.ext e4).get
  have g2 := at2.get
  rw [hgd]
  by_cases he : e = 0
  · subst he
    simp (disch := first | assumption | omega | (simp only [lens]; omega)) only [eqs, ↓gvd_succ, ↓gvd_zero, ↓and_of, im_of, im_of trivial, vals, lsts, tys, hP, hst, initS, Nat.reduceBEq, Nat.reduceAdd, Nat.reduceMul, Nat.reduceSub, Nat.reduceDiv, Nat.reduceMod, Nat.reducePow, Nat.reduceLT, Nat.reduceLeDiff, Nat.reduceEqDiff, Int.reduceAdd, Int.reduceSub, Int.reduceNeg, Int.reduceMul, Int.reduceToNat, Int.reducePow, Int.reduceLE, Int.reduceLT, Int.reduceEq, Int.reduceNe, reduceIte, reduceCtorEq, ne_eq, not_true_eq_false, not_false_eq_true, imp_self, implies_true, bls, eq_self, g1, g2, lv, lw, zD7]
    refine E_call (hP ▸ s_Same3 2) ⟨_, _, D, D, rfl, (dw.ext e4).da, (dv.ext (e3.trans e4)).da, by omega, q6, q6, fun T9 hT9 => ?_⟩
    rw [sm_self]
    simp (disch := first | assumption | omega | (simp only [lens]; omega)) only [eqs, ↓gvd_succ, ↓gvd_zero, ↓and_of, im_of, im_of trivial, vals, lsts, tys, hP, hst, initS, Nat.reduceBEq, Nat.reduceAdd, Nat.reduceMul, Nat.reduceSub, Nat.reduceDiv, Nat.reduceMod, Nat.reducePow, Nat.reduceLT, Nat.reduceLeDiff, Nat.reduceEqDiff, Int.reduceAdd, Int.reduceSub, Int.reduceNeg, Int.reduceMul, Int.reduceToNat, Int.reducePow, Int.reduceLE, Int.reduceLT, Int.reduceEq, Int.reduceNe, reduceIte, reduceCtorEq, ne_eq, not_true_eq_false, not_false_eq_true, imp_self, implies_true, bls, eq_self]
    refine E_callA (hP ▸ s_lives9 _ hG) ⟨rfl, fun TT eT => ?_⟩
    simp (disch := first | assumption | omega | (simp only [lens]; omega)) only [eqs, ↓gvd_succ, ↓gvd_zero, ↓and_of, im_of, im_of trivial, vals, lsts, tys, hP, hst, initS, Nat.reduceBEq, Nat.reduceAdd, Nat.reduceMul, Nat.reduceSub, Nat.reduceDiv, Nat.reduceMod, Nat.reducePow, Nat.reduceLT, Nat.reduceLeDiff, Nat.reduceEqDiff, Int.reduceAdd, Int.reduceSub, Int.reduceNeg, Int.reduceMul, Int.reduceToNat, Int.reducePow, Int.reduceLE, Int.reduceLT, Int.reduceEq, Int.reduceNe, reduceIte, reduceCtorEq, ne_eq, not_true_eq_false, not_false_eq_true, imp_self, implies_true, bls, eq_self]
    exact hK _ (((((e2.trans hT2).trans e3).trans e4).trans hT9).trans eT)
  have hN : D = dNil := q1.resolve_left he
  simp (disch := first | assumption | omega | (simp only [lens]; omega)) only [eqs, ↓gvd_succ, ↓gvd_zero, ↓and_of, im_of, im_of trivial, vals, lsts, tys, hP, hst, initS, Nat.reduceBEq, Nat.reduceAdd, Nat.reduceMul, Nat.reduceSub, Nat.reduceDiv, Nat.reduceMod, Nat.reducePow, Nat.reduceLT, Nat.reduceLeDiff, Nat.reduceEqDiff, Int.reduceAdd, Int.reduceSub, Int.reduceNeg, Int.reduceMul, Int.reduceToNat, Int.reducePow, Int.reduceLE, Int.reduceLT, Int.reduceEq, Int.reduceNe, reduceIte, reduceCtorEq, ne_eq, not_true_eq_false, not_false_eq_true, imp_self, implies_true, bls, eq_self, he, g1, lv, zD_map, zD7]
  refine E_call (hP ▸ s_Same3 2) ⟨_, _, D, dNil, rfl, (dv.ext (e3.trans e4)).da, DA.mk' Nm.nil DS.nil DS.nil, by omega, q6, bad_nil.2.2.2, fun T5 hT5 => ?_⟩
  have e5 := e4.trans hT5
  have g1 := (at1.ext e5).get
  have g2 := (at2.ext hT5).get
  rw [show sm D dNil = true by rw [hN]; exact sm_self _]
  simp (disch := first | assumption | omega | (simp only [lens]; omega)) only [eqs, ↓gvd_succ, ↓gvd_zero, ↓and_of, im_of, im_of trivial, vals, lsts, tys, hP, hst, initS, Nat.reduceBEq, Nat.reduceAdd, Nat.reduceMul, Nat.reduceSub, Nat.reduceDiv, Nat.reduceMod, Nat.reducePow, Nat.reduceLT, Nat.reduceLeDiff, Nat.reduceEqDiff, Int.reduceAdd, Int.reduceSub, Int.reduceNeg, Int.reduceMul, Int.reduceToNat, Int.reducePow, Int.reduceLE, Int.reduceLT, Int.reduceEq, Int.reduceNe, reduceIte, reduceCtorEq, ne_eq, not_true_eq_false, not_false_eq_true, imp_self, implies_true, bls, eq_self, g1, g2, lv, lw, zD7]
  refine E_call (hP ▸ s_Same3 2) ⟨_, _, D, D, rfl, (dw.ext e5).da, (dv.ext (e3.trans e5)).da, by omega, q6, q6, fun T9 hT9 => ?_⟩
  rw [sm_self]
  by_cases h2 : e = 2
  · simp (disch := first | assumption | omega | (simp only [lens]; omega)) only [eqs, ↓gvd_succ, ↓gvd_zero, ↓and_of, im_of, im_of trivial, vals, lsts, tys, hP, hst, initS, Nat.reduceBEq, Nat.reduceAdd, Nat.reduceMul, Nat.reduceSub, Nat.reduceDiv, Nat.reduceMod, Nat.reducePow, Nat.reduceLT, Nat.reduceLeDiff, Nat.reduceEqDiff, Int.reduceAdd, Int.reduceSub, Int.reduceNeg, Int.reduceMul, Int.reduceToNat, Int.reducePow, Int.reduceLE, Int.reduceLT, Int.reduceEq, Int.reduceNe, reduceIte, reduceCtorEq, ne_eq, not_true_eq_false, not_false_eq_true, imp_self, implies_true, bls, eq_self, h2]
    refine E_call (hP ▸ s_Plain) ⟨p, rfl, ?_⟩
    rw [q2 h2]
    simp (disch := first | assumption | omega | (simp only [lens]; omega)) only [eqs, ↓gvd_succ, ↓gvd_zero, ↓and_of, im_of, im_of trivial, vals, lsts, tys, hP, hst, initS, Nat.reduceBEq, Nat.reduceAdd, Nat.reduceMul, Nat.reduceSub, Nat.reduceDiv, Nat.reduceMod, Nat.reducePow, Nat.reduceLT, Nat.reduceLeDiff, Nat.reduceEqDiff, Int.reduceAdd, Int.reduceSub, Int.reduceNeg, Int.reduceMul, Int.reduceToNat, Int.reducePow, Int.reduceLE, Int.reduceLT, Int.reduceEq, Int.reduceNe, reduceIte, reduceCtorEq, ne_eq, not_true_eq_false, not_false_eq_true, imp_self, implies_true, bls, eq_self]
    refine E_callA (hP ▸ s_lives9 _ hG) ⟨rfl, fun TT eT => ?_⟩
    simp (disch := first | assumption | omega | (simp only [lens]; omega)) only [eqs, ↓gvd_succ, ↓gvd_zero, ↓and_of, im_of, im_of trivial, vals, lsts, tys, hP, hst, initS, Nat.reduceBEq, Nat.reduceAdd, Nat.reduceMul, Nat.reduceSub, Nat.reduceDiv, Nat.reduceMod, Nat.reducePow, Nat.reduceLT, Nat.reduceLeDiff, Nat.reduceEqDiff, Int.reduceAdd, Int.reduceSub, Int.reduceNeg, Int.reduceMul, Int.reduceToNat, Int.reducePow, Int.reduceLE, Int.reduceLT, Int.reduceEq, Int.reduceNe, reduceIte, reduceCtorEq, ne_eq, not_true_eq_false, not_false_eq_true, imp_self, implies_true, bls, eq_self]
    exact hK _ (((((e2.trans hT2).trans e3).trans e5).trans hT9).trans eT)
  · simp (disch := first | assumption | omega | (simp only [lens]; omega)) only [eqs, ↓gvd_succ, ↓gvd_zero, ↓and_of, im_of, im_of trivial, vals, lsts, tys, hP, hst, initS, Nat.reduceBEq, Nat.reduceAdd, Nat.reduceMul, Nat.reduceSub, Nat.reduceDiv, Nat.reduceMod, Nat.reducePow, Nat.reduceLT, Nat.reduceLeDiff, Nat.reduceEqDiff, Int.reduceAdd, Int.reduceSub, Int.reduceNeg, Int.reduceMul, Int.reduceToNat, Int.reducePow, Int.reduceLE, Int.reduceLT, Int.reduceEq, Int.reduceNe, reduceIte, reduceCtorEq, ne_eq, not_true_eq_false, not_false_eq_true, imp_self, implies_true, bls, eq_self, h2]
    refine E_callA (hP ▸ s_lives9 _ hG) ⟨rfl, fun TT eT => ?_⟩
    simp (disch := first | assumption | omega | (simp only [lens]; omega)) only [eqs, ↓gvd_succ, ↓gvd_zero, ↓and_of, im_of, im_of trivial, vals, lsts, tys, hP, hst, initS, Nat.reduceBEq, Nat.reduceAdd, Nat.reduceMul, Nat.reduceSub, Nat.reduceDiv, Nat.reduceMod, Nat.reducePow, Nat.reduceLT, Nat.reduceLeDiff, Nat.reduceEqDiff, Int.reduceAdd, Int.reduceSub, Int.reduceNeg, Int.reduceMul, Int.reduceToNat, Int.reducePow, Int.reduceLE, Int.reduceLT, Int.reduceEq, Int.reduceNe, reduceIte, reduceCtorEq, ne_eq, not_true_eq_false, not_false_eq_true, imp_self, implies_true, bls, eq_self]
    exact hK _ (((((e2.trans hT2).trans e3).trans e5).trans hT9).trans eT)
end Go.Proofs.Pv
