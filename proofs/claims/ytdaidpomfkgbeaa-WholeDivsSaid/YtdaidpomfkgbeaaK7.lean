/- The laws of whole numbers, fifth part. -/
import Derived.Test.YtdaidpomfkgbeaaK2
import Derived.Test.YtdaidpomfkgbeaaQ4
set_option linter.unusedSimpArgs false
set_option linter.unusedVariables false
namespace Go.Proofs.Pv
open Go Go.RowKit Go.Proofs
set_option maxRecDepth 20000

def RzGcd (xs : List AV) (st : St) (K : AV → St → Prop) : Prop := ∃ x y z w n m, xs = [x, y] ∧ IsZ st x z n ∧ IsZ st y w m ∧ n ≤ 800 ∧ m ≤ 800 ∧ ∀ v S', Ext st S' → NZ S' v (Nat.gcd z.natAbs w.natAbs : Nat) (n + m) → K v S'
theorem gcd_len {a b n m : Nat} (h1 : (limbs a).length ≤ n) (h2 : (limbs b).length ≤ m) : (limbs (Nat.gcd a b)).length ≤ n + m := by
  rcases Nat.eq_zero_or_pos a with h | h
  · subst h; rw [Nat.gcd_zero_left]; omega
  · have := limbs_len_mono (Nat.gcd_le_left b h); omega
theorem z_Gcd : PSpec Try.prog 54 RzGcd := s_wGcd.imp2 fun xs st K ⟨x, y, z, w, n, m, e, hx, hy, hn, hm, hK⟩ => by
  have h1 := gcd_len hx.len hy.len
  obtain ⟨s, l, hx, rfl, h3⟩ := hx
  obtain ⟨t, k, hy, rfl, h4⟩ := hy
  refine ⟨x, y, s, t, l, k, e, hx, hy, by omega, by omega, fun v S' hv => ?_⟩
  rw [iv_natAbs, iv_natAbs] at h1 hK
  exact hK v S' hv.ex (.mk hv h1)
theorem z_qQuo : PSpec Try.prog 50 (RzQuo Int.tdiv Int.tmod) := quo_z s_qQuo (fun _ _ _ h => Nat.le_trans (zlen_tdiv h) (by omega)) (fun _ _ _ hb h => zlen_tmod hb h)
theorem z_qFloor : PSpec Try.prog 52 (RzQuo fq fr) := quo_z s_qFloor (fun _ _ _ h => zlen_fq h) (fun _ _ _ hb h => zlen_fr hb h)
theorem z_qGcd : PSpec Try.prog 55 RzGcd := s_qGcd.imp2 fun xs st K ⟨x, y, z, w, n, m, e, hx, hy, hn, hm, hK⟩ => by
  have h1 := gcd_len hx.len hy.len
  obtain ⟨s, l, hx, rfl, h3⟩ := hx
  obtain ⟨t, k, hy, rfl, h4⟩ := hy
  refine ⟨x, y, s, t, l, k, e, hx, hy, by omega, by omega, fun v S' hv => ?_⟩
  rw [iv_natAbs, iv_natAbs] at h1 hK
  exact hK v S' hv.ex (.mk hv h1)
theorem nz_zero {T : St} : NZ T (.agg [.val (.bool false), .val (.slice none 0 0)]) 0 0 := by
  have h0 : limbs (0 : Int).natAbs = [] := limbs_zero
  refine ⟨?_, by rw [h0]; simp⟩
  rw [h0]
  exact ⟨_, rfl, Nm.nil⟩
def RkWholeDivs (xs : List AV) (st : St) (K : AV → St → Prop) : Prop := ∃ x y s t l m, xs = [x, y] ∧ Wh st x s l ∧ Wh st y t m ∧ anyw st (.bool true) K
set_option maxHeartbeats 8000000 in
theorem s_WholeDivs : PSpec Try.prog 12 RkWholeDivs := by
  refine fspec_of (fn := Try.f12) 2 [.tmp 4] (by kernel_rfl) rfl rfl (by kernel_rfl) mixed (by rintro _ _ _ ⟨x, y, s, t, l, m, rfl, _⟩; rfl) ?_
  rintro X _ st K hP hst ⟨x, y, s, t, l, m, rfl, hx, hy, hK⟩
  have hx1 := hx
  have hy1 := hy
  obtain ⟨a, rfl, ha, hal⟩ := hx.iv
  obtain ⟨b, rfl, hb, hbl⟩ := hy.iv
  refine vc_V ?_
  simp (disch := first | assumption | omega | (simp only [lens]; omega)) only [eqs, ↓gvd_succ, ↓gvd_zero, ↓and_of, im_of, im_of trivial, vals, lsts, tys, hP, hst, initS, Nat.reduceBEq, Nat.reduceAdd, Nat.reduceMul, Nat.reduceSub, Nat.reduceDiv, Nat.reduceMod, Nat.reducePow, Nat.reduceLT, Nat.reduceLeDiff, Nat.reduceEqDiff, Int.reduceAdd, Int.reduceSub, Int.reduceNeg, Int.reduceMul, Int.reduceToNat, Int.reducePow, Int.reduceLE, Int.reduceLT, Int.reduceEq, Int.reduceNe, reduceIte, reduceCtorEq, ne_eq, not_true_eq_false, not_false_eq_true, true_and, and_true, and_self, true_implies, imp_self, implies_true, decide_true, decide_false, Bool.not_true, Bool.not_false, Bool.and_true, Bool.and_false, Bool.true_and, Bool.false_and, Bool.and_self, decide_eq_true_eq, eq_self, hal, hbl, zrow2i]
  refine E_call (hP ▸ s_ksmall2) ⟨_, s, t, a, b, l, m, rfl, by rw [get_app]; rfl, ha.app _, hb.app _, fun T0 hT0 => ?_⟩
  have e0 : Ext st T0 := (Ext.add _).trans hT0
  have hA : At T0 (st.length) [.val (.bool s), a] := At.ext ⟨by rw [get_app0]; rfl⟩ hT0
  have hB : At T0 (st.length + 1) [.val (.bool t), b] := At.ext ⟨by rw [get_app]; rfl⟩ hT0
  have sA := (ha.ext e0).sl
  have sB := (hb.ext e0).sl
  have gA := hA.get
  have gB := hB.get
  simp (disch := first | assumption | omega | (simp only [lens]; omega)) only [eqs, ↓gvd_succ, ↓gvd_zero, ↓and_of, im_of, im_of trivial, vals, lsts, tys, hP, hst, initS, Nat.reduceBEq, Nat.reduceAdd, Nat.reduceMul, Nat.reduceSub, Nat.reduceDiv, Nat.reduceMod, Nat.reducePow, Nat.reduceLT, Nat.reduceLeDiff, Nat.reduceEqDiff, Int.reduceAdd, Int.reduceSub, Int.reduceNeg, Int.reduceMul, Int.reduceToNat, Int.reducePow, Int.reduceLE, Int.reduceLT, Int.reduceEq, Int.reduceNe, reduceIte, reduceCtorEq, ne_eq, not_true_eq_false, not_false_eq_true, true_and, and_true, and_self, true_implies, imp_self, implies_true, decide_true, decide_false, Bool.not_true, Bool.not_false, Bool.and_true, Bool.and_false, Bool.true_and, Bool.false_and, Bool.and_self, decide_eq_true_eq, eq_self]
  refine G_ndec (fun h => ?_) (fun h => ?_)
  · have h := Classical.not_not.1 h
    have hl := h.1
    have hm := h.2
    simp (disch := first | assumption | omega | (simp only [lens]; omega)) only [eqs, ↓gvd_succ, ↓gvd_zero, ↓and_of, im_of, im_of trivial, vals, lsts, tys, hP, hst, initS, Nat.reduceBEq, Nat.reduceAdd, Nat.reduceMul, Nat.reduceSub, Nat.reduceDiv, Nat.reduceMod, Nat.reducePow, Nat.reduceLT, Nat.reduceLeDiff, Nat.reduceEqDiff, Int.reduceAdd, Int.reduceSub, Int.reduceNeg, Int.reduceMul, Int.reduceToNat, Int.reducePow, Int.reduceLE, Int.reduceLT, Int.reduceEq, Int.reduceNe, reduceIte, reduceCtorEq, ne_eq, not_true_eq_false, not_false_eq_true, true_and, and_true, and_self, true_implies, imp_self, implies_true, decide_true, decide_false, Bool.not_true, Bool.not_false, Bool.and_true, Bool.and_false, Bool.true_and, Bool.false_and, Bool.and_self, decide_eq_true_eq, eq_self, gA, gB, sA, sB, h, hl, hm]
    refine G_ndec (fun h2 => ?_) (fun h2 => ?_)
    · simp (disch := first | assumption | omega | (simp only [lens]; omega)) only [eqs, ↓gvd_succ, ↓gvd_zero, ↓and_of, im_of, im_of trivial, vals, lsts, tys, hP, hst, initS, Nat.reduceBEq, Nat.reduceAdd, Nat.reduceMul, Nat.reduceSub, Nat.reduceDiv, Nat.reduceMod, Nat.reducePow, Nat.reduceLT, Nat.reduceLeDiff, Nat.reduceEqDiff, Int.reduceAdd, Int.reduceSub, Int.reduceNeg, Int.reduceMul, Int.reduceToNat, Int.reducePow, Int.reduceLE, Int.reduceLT, Int.reduceEq, Int.reduceNe, reduceIte, reduceCtorEq, ne_eq, not_true_eq_false, not_false_eq_true, true_and, and_true, and_self, true_implies, imp_self, implies_true, decide_true, decide_false, Bool.not_true, Bool.not_false, Bool.and_true, Bool.and_false, Bool.true_and, Bool.false_and, Bool.and_self, decide_eq_true_eq, eq_self, gA, gB, sA, sB, h, hl, hm, h2]
      refine C_dec (fun h3 => ?_) (fun h3 => ?_)
      · simp (disch := first | assumption | omega | (simp only [lens]; omega)) only [eqs, ↓gvd_succ, ↓gvd_zero, ↓and_of, im_of, im_of trivial, vals, lsts, tys, hP, hst, initS, Nat.reduceBEq, Nat.reduceAdd, Nat.reduceMul, Nat.reduceSub, Nat.reduceDiv, Nat.reduceMod, Nat.reducePow, Nat.reduceLT, Nat.reduceLeDiff, Nat.reduceEqDiff, Int.reduceAdd, Int.reduceSub, Int.reduceNeg, Int.reduceMul, Int.reduceToNat, Int.reducePow, Int.reduceLE, Int.reduceLT, Int.reduceEq, Int.reduceNe, reduceIte, reduceCtorEq, ne_eq, not_true_eq_false, not_false_eq_true, true_and, and_true, and_self, true_implies, imp_self, implies_true, decide_true, decide_false, Bool.not_true, Bool.not_false, Bool.and_true, Bool.and_false, Bool.true_and, Bool.false_and, Bool.and_self, decide_eq_true_eq, eq_self]
        refine E_call (hP ▸ s_klives) ⟨rfl, fun T1 hT1 => ?_⟩
        simp (disch := first | assumption | omega | (simp only [lens]; omega)) only [eqs, ↓gvd_succ, ↓gvd_zero, ↓and_of, im_of, im_of trivial, vals, lsts, tys, hP, hst, initS, Nat.reduceBEq, Nat.reduceAdd, Nat.reduceMul, Nat.reduceSub, Nat.reduceDiv, Nat.reduceMod, Nat.reducePow, Nat.reduceLT, Nat.reduceLeDiff, Nat.reduceEqDiff, Int.reduceAdd, Int.reduceSub, Int.reduceNeg, Int.reduceMul, Int.reduceToNat, Int.reducePow, Int.reduceLE, Int.reduceLT, Int.reduceEq, Int.reduceNe, reduceIte, reduceCtorEq, ne_eq, not_true_eq_false, not_false_eq_true, true_and, and_true, and_self, true_implies, imp_self, implies_true, decide_true, decide_false, Bool.not_true, Bool.not_false, Bool.and_true, Bool.and_false, Bool.true_and, Bool.false_and, Bool.and_self, decide_eq_true_eq, eq_self]
        exact hK _ (e0.trans hT1)
      · have h := h
        have hX : IsZ st _ _ 24 := .mk hx1 h.1
        obtain ⟨Zx, hZx⟩ : ∃ Z, iv s (val l) = Z := ⟨_, rfl⟩
        rw [hZx] at hX
        have hY : IsZ st _ _ 24 := .mk hy1 h.2
        obtain ⟨Zy, hZy⟩ : ∃ Z, iv t (val m) = Z := ⟨_, rfl⟩
        rw [hZy] at hY
        have gA := (hA.ext Ext.refl).get
        have gB := (hB.ext Ext.refl).get
        simp (disch := first | assumption | omega | (simp only [lens]; omega)) only [eqs, ↓gvd_succ, ↓gvd_zero, ↓and_of, im_of, im_of trivial, vals, lsts, tys, hP, hst, initS, Nat.reduceBEq, Nat.reduceAdd, Nat.reduceMul, Nat.reduceSub, Nat.reduceDiv, Nat.reduceMod, Nat.reducePow, Nat.reduceLT, Nat.reduceLeDiff, Nat.reduceEqDiff, Int.reduceAdd, Int.reduceSub, Int.reduceNeg, Int.reduceMul, Int.reduceToNat, Int.reducePow, Int.reduceLE, Int.reduceLT, Int.reduceEq, Int.reduceNe, reduceIte, reduceCtorEq, ne_eq, not_true_eq_false, not_false_eq_true, true_and, and_true, and_self, true_implies, imp_self, implies_true, decide_true, decide_false, Bool.not_true, Bool.not_false, Bool.and_true, Bool.and_false, Bool.true_and, Bool.false_and, Bool.and_self, decide_eq_true_eq, eq_self, gA, gB]
        refine E_call (hP ▸ z_Quo) ⟨_, _, _, _, _, _, rfl, (hX.ext e0), (hY.ext e0), by omega, by omega, fun hy0 vqa vra T1 e1 hqa hra => ?_, fun hy0 T1 e1 => ?_⟩
        · obtain ⟨pqa, rfl, nqa⟩ := hqa.1
          have lqa := nqa.leaf
          obtain ⟨pra, rfl, nra⟩ := hra.1
          have lra := nra.leaf
          have q1 := (e0.trans e1).len
          have q1x : st.length ≤ T1.length + 1 := by omega
          have gA := (hA.ext e1).get
          have gB := (hB.ext e1).get
          simp (disch := first | assumption | omega | (simp only [lens]; omega)) only [eqs, ↓gvd_succ, ↓gvd_zero, ↓and_of, im_of, im_of trivial, vals, lsts, tys, hP, hst, initS, Nat.reduceBEq, Nat.reduceAdd, Nat.reduceMul, Nat.reduceSub, Nat.reduceDiv, Nat.reduceMod, Nat.reducePow, Nat.reduceLT, Nat.reduceLeDiff, Nat.reduceEqDiff, Int.reduceAdd, Int.reduceSub, Int.reduceNeg, Int.reduceMul, Int.reduceToNat, Int.reducePow, Int.reduceLE, Int.reduceLT, Int.reduceEq, Int.reduceNe, reduceIte, reduceCtorEq, ne_eq, not_true_eq_false, not_false_eq_true, true_and, and_true, and_self, true_implies, imp_self, implies_true, decide_true, decide_false, Bool.not_true, Bool.not_false, Bool.and_true, Bool.and_false, Bool.true_and, Bool.false_and, Bool.and_self, decide_eq_true_eq, eq_self, gA, gB, lqa, lra, q1, q1x]
          obtain ⟨T2, hT2⟩ : ∃ S, T1 ++ [some [.val (.bool (decide (Zx.tdiv Zy < 0))), pqa], some [.val (.bool (decide (Zx.tmod Zy < 0))), pra]] = S := ⟨_, rfl⟩
          have e2 : Ext T1 T2 := ⟨_, hT2.symm⟩
          have hqa_ : At T2 (T1.length) [.val (.bool (decide (Zx.tdiv Zy < 0))), pqa] := ⟨hT2 ▸ by rw [get_app0]; rfl⟩
          have hra_ : At T2 (T1.length + 1) [.val (.bool (decide (Zx.tmod Zy < 0))), pra] := ⟨hT2 ▸ by rw [get_app]; rfl⟩
          rw [hT2]
          clear hT2
          have gA := (hA.ext (e1.trans e2)).get
          have gB := (hB.ext (e1.trans e2)).get
          have gqa_ := (hqa_.ext Ext.refl).get
          have gra_ := (hra_.ext Ext.refl).get
          simp (disch := first | assumption | omega | (simp only [lens]; omega)) only [eqs, ↓gvd_succ, ↓gvd_zero, ↓and_of, im_of, im_of trivial, vals, lsts, tys, hP, hst, initS, Nat.reduceBEq, Nat.reduceAdd, Nat.reduceMul, Nat.reduceSub, Nat.reduceDiv, Nat.reduceMod, Nat.reducePow, Nat.reduceLT, Nat.reduceLeDiff, Nat.reduceEqDiff, Int.reduceAdd, Int.reduceSub, Int.reduceNeg, Int.reduceMul, Int.reduceToNat, Int.reducePow, Int.reduceLE, Int.reduceLT, Int.reduceEq, Int.reduceNe, reduceIte, reduceCtorEq, ne_eq, not_true_eq_false, not_false_eq_true, true_and, and_true, and_self, true_implies, imp_self, implies_true, decide_true, decide_false, Bool.not_true, Bool.not_false, Bool.and_true, Bool.and_false, Bool.true_and, Bool.false_and, Bool.and_self, decide_eq_true_eq, eq_self, gA, gB, gqa_, gra_]
          refine E_call (hP ▸ z_qQuo) ⟨_, _, _, _, _, _, rfl, (hX.ext (e0.trans (e1.trans e2))), (hY.ext (e0.trans (e1.trans e2))), by omega, by omega, fun _ vqb vrb T3 e3 hqb hrb => ?_, fun h => absurd h hy0⟩
          obtain ⟨pqb, rfl, nqb⟩ := hqb.1
          have lqb := nqb.leaf
          obtain ⟨prb, rfl, nrb⟩ := hrb.1
          have lrb := nrb.leaf
          have q3 := (e0.trans (e1.trans (e2.trans e3))).len
          have q3x : st.length ≤ T3.length + 1 := by omega
          have gA := (hA.ext (e1.trans (e2.trans e3))).get
          have gB := (hB.ext (e1.trans (e2.trans e3))).get
          have gqa_ := (hqa_.ext e3).get
          have gra_ := (hra_.ext e3).get
          simp (disch := first | assumption | omega | (simp only [lens]; omega)) only [eqs, ↓gvd_succ, ↓gvd_zero, ↓and_of, im_of, im_of trivial, vals, lsts, tys, hP, hst, initS, Nat.reduceBEq, Nat.reduceAdd, Nat.reduceMul, Nat.reduceSub, Nat.reduceDiv, Nat.reduceMod, Nat.reducePow, Nat.reduceLT, Nat.reduceLeDiff, Nat.reduceEqDiff, Int.reduceAdd, Int.reduceSub, Int.reduceNeg, Int.reduceMul, Int.reduceToNat, Int.reducePow, Int.reduceLE, Int.reduceLT, Int.reduceEq, Int.reduceNe, reduceIte, reduceCtorEq, ne_eq, not_true_eq_false, not_false_eq_true, true_and, and_true, and_self, true_implies, imp_self, implies_true, decide_true, decide_false, Bool.not_true, Bool.not_false, Bool.and_true, Bool.and_false, Bool.true_and, Bool.false_and, Bool.and_self, decide_eq_true_eq, eq_self, gA, gB, gqa_, gra_, lqb, lrb, q3, q3x]
          obtain ⟨T4, hT4⟩ : ∃ S, T3 ++ [some [.val (.bool (decide (Zx.tdiv Zy < 0))), pqb], some [.val (.bool (decide (Zx.tmod Zy < 0))), prb]] = S := ⟨_, rfl⟩
          have e4 : Ext T3 T4 := ⟨_, hT4.symm⟩
          have hqb_ : At T4 (T3.length) [.val (.bool (decide (Zx.tdiv Zy < 0))), pqb] := ⟨hT4 ▸ by rw [get_app0]; rfl⟩
          have hrb_ : At T4 (T3.length + 1) [.val (.bool (decide (Zx.tmod Zy < 0))), prb] := ⟨hT4 ▸ by rw [get_app]; rfl⟩
          rw [hT4]
          clear hT4
          have gA := (hA.ext (e1.trans (e2.trans (e3.trans e4)))).get
          have gB := (hB.ext (e1.trans (e2.trans (e3.trans e4)))).get
          have gqa_ := (hqa_.ext (e3.trans e4)).get
          have gra_ := (hra_.ext (e3.trans e4)).get
          have gqb_ := (hqb_.ext Ext.refl).get
          have grb_ := (hrb_.ext Ext.refl).get
          simp (disch := first | assumption | omega | (simp only [lens]; omega)) only [eqs, ↓gvd_succ, ↓gvd_zero, ↓and_of, im_of, im_of trivial, vals, lsts, tys, hP, hst, initS, Nat.reduceBEq, Nat.reduceAdd, Nat.reduceMul, Nat.reduceSub, Nat.reduceDiv, Nat.reduceMod, Nat.reducePow, Nat.reduceLT, Nat.reduceLeDiff, Nat.reduceEqDiff, Int.reduceAdd, Int.reduceSub, Int.reduceNeg, Int.reduceMul, Int.reduceToNat, Int.reducePow, Int.reduceLE, Int.reduceLT, Int.reduceEq, Int.reduceNe, reduceIte, reduceCtorEq, ne_eq, not_true_eq_false, not_false_eq_true, true_and, and_true, and_self, true_implies, imp_self, implies_true, decide_true, decide_false, Bool.not_true, Bool.not_false, Bool.and_true, Bool.and_false, Bool.true_and, Bool.false_and, Bool.and_self, decide_eq_true_eq, eq_self, gA, gB, gqa_, gra_, gqb_, grb_]
          refine E_call (hP ▸ z_Floor) ⟨_, _, _, _, _, _, rfl, (hX.ext (e0.trans (e1.trans (e2.trans (e3.trans e4))))), (hY.ext (e0.trans (e1.trans (e2.trans (e3.trans e4))))), by omega, by omega, fun _ vqc vrc T5 e5 hqc hrc => ?_, fun h => absurd h hy0⟩
          obtain ⟨pqc, rfl, nqc⟩ := hqc.1
          have lqc := nqc.leaf
          obtain ⟨prc, rfl, nrc⟩ := hrc.1
          have lrc := nrc.leaf
          have q5 := (e0.trans (e1.trans (e2.trans (e3.trans (e4.trans e5))))).len
          have q5x : st.length ≤ T5.length + 1 := by omega
          have gA := (hA.ext (e1.trans (e2.trans (e3.trans (e4.trans e5))))).get
          have gB := (hB.ext (e1.trans (e2.trans (e3.trans (e4.trans e5))))).get
          have gqa_ := (hqa_.ext (e3.trans (e4.trans e5))).get
          have gra_ := (hra_.ext (e3.trans (e4.trans e5))).get
          have gqb_ := (hqb_.ext e5).get
          have grb_ := (hrb_.ext e5).get
          simp (disch := first | assumption | omega | (simp only [lens]; omega)) only [eqs, ↓gvd_succ, ↓gvd_zero, ↓and_of, im_of, im_of trivial, vals, lsts, tys, hP, hst, initS, Nat.reduceBEq, Nat.reduceAdd, Nat.reduceMul, Nat.reduceSub, Nat.reduceDiv, Nat.reduceMod, Nat.reducePow, Nat.reduceLT, Nat.reduceLeDiff, Nat.reduceEqDiff, Int.reduceAdd, Int.reduceSub, Int.reduceNeg, Int.reduceMul, Int.reduceToNat, Int.reducePow, Int.reduceLE, Int.reduceLT, Int.reduceEq, Int.reduceNe, reduceIte, reduceCtorEq, ne_eq, not_true_eq_false, not_false_eq_true, true_and, and_true, and_self, true_implies, imp_self, implies_true, decide_true, decide_false, Bool.not_true, Bool.not_false, Bool.and_true, Bool.and_false, Bool.true_and, Bool.false_and, Bool.and_self, decide_eq_true_eq, eq_self, gA, gB, gqa_, gra_, gqb_, grb_, lqc, lrc, q5, q5x]
          obtain ⟨T6, hT6⟩ : ∃ S, T5 ++ [some [.val (.bool (decide (fq Zx Zy < 0))), pqc], some [.val (.bool (decide (fr Zx Zy < 0))), prc]] = S := ⟨_, rfl⟩
          have e6 : Ext T5 T6 := ⟨_, hT6.symm⟩
          have hqc_ : At T6 (T5.length) [.val (.bool (decide (fq Zx Zy < 0))), pqc] := ⟨hT6 ▸ by rw [get_app0]; rfl⟩
          have hrc_ : At T6 (T5.length + 1) [.val (.bool (decide (fr Zx Zy < 0))), prc] := ⟨hT6 ▸ by rw [get_app]; rfl⟩
          rw [hT6]
          clear hT6
          have gA := (hA.ext (e1.trans (e2.trans (e3.trans (e4.trans (e5.trans e6)))))).get
          have gB := (hB.ext (e1.trans (e2.trans (e3.trans (e4.trans (e5.trans e6)))))).get
          have gqa_ := (hqa_.ext (e3.trans (e4.trans (e5.trans e6)))).get
          have gra_ := (hra_.ext (e3.trans (e4.trans (e5.trans e6)))).get
          have gqb_ := (hqb_.ext (e5.trans e6)).get
          have grb_ := (hrb_.ext (e5.trans e6)).get
          have gqc_ := (hqc_.ext Ext.refl).get
          have grc_ := (hrc_.ext Ext.refl).get
          simp (disch := first | assumption | omega | (simp only [lens]; omega)) only [eqs, ↓gvd_succ, ↓gvd_zero, ↓and_of, im_of, im_of trivial, vals, lsts, tys, hP, hst, initS, Nat.reduceBEq, Nat.reduceAdd, Nat.reduceMul, Nat.reduceSub, Nat.reduceDiv, Nat.reduceMod, Nat.reducePow, Nat.reduceLT, Nat.reduceLeDiff, Nat.reduceEqDiff, Int.reduceAdd, Int.reduceSub, Int.reduceNeg, Int.reduceMul, Int.reduceToNat, Int.reducePow, Int.reduceLE, Int.reduceLT, Int.reduceEq, Int.reduceNe, reduceIte, reduceCtorEq, ne_eq, not_true_eq_false, not_false_eq_true, true_and, and_true, and_self, true_implies, imp_self, implies_true, decide_true, decide_false, Bool.not_true, Bool.not_false, Bool.and_true, Bool.and_false, Bool.true_and, Bool.false_and, Bool.and_self, decide_eq_true_eq, eq_self, gA, gB, gqa_, gra_, gqb_, grb_, gqc_, grc_]
          refine E_call (hP ▸ z_qFloor) ⟨_, _, _, _, _, _, rfl, (hX.ext (e0.trans (e1.trans (e2.trans (e3.trans (e4.trans (e5.trans e6))))))), (hY.ext (e0.trans (e1.trans (e2.trans (e3.trans (e4.trans (e5.trans e6))))))), by omega, by omega, fun _ vqd vrd T7 e7 hqd hrd => ?_, fun h => absurd h hy0⟩
          obtain ⟨pqd, rfl, nqd⟩ := hqd.1
          have lqd := nqd.leaf
          obtain ⟨prd, rfl, nrd⟩ := hrd.1
          have lrd := nrd.leaf
          have q7 := (e0.trans (e1.trans (e2.trans (e3.trans (e4.trans (e5.trans (e6.trans e7))))))).len
          have q7x : st.length ≤ T7.length + 1 := by omega
          have gA := (hA.ext (e1.trans (e2.trans (e3.trans (e4.trans (e5.trans (e6.trans e7))))))).get
          have gB := (hB.ext (e1.trans (e2.trans (e3.trans (e4.trans (e5.trans (e6.trans e7))))))).get
          have gqa_ := (hqa_.ext (e3.trans (e4.trans (e5.trans (e6.trans e7))))).get
          have gra_ := (hra_.ext (e3.trans (e4.trans (e5.trans (e6.trans e7))))).get
          have gqb_ := (hqb_.ext (e5.trans (e6.trans e7))).get
          have grb_ := (hrb_.ext (e5.trans (e6.trans e7))).get
          have gqc_ := (hqc_.ext e7).get
          have grc_ := (hrc_.ext e7).get
          simp (disch := first | assumption | omega | (simp only [lens]; omega)) only [eqs, ↓gvd_succ, ↓gvd_zero, ↓and_of, im_of, im_of trivial, vals, lsts, tys, hP, hst, initS, Nat.reduceBEq, Nat.reduceAdd, Nat.reduceMul, Nat.reduceSub, Nat.reduceDiv, Nat.reduceMod, Nat.reducePow, Nat.reduceLT, Nat.reduceLeDiff, Nat.reduceEqDiff, Int.reduceAdd, Int.reduceSub, Int.reduceNeg, Int.reduceMul, Int.reduceToNat, Int.reducePow, Int.reduceLE, Int.reduceLT, Int.reduceEq, Int.reduceNe, reduceIte, reduceCtorEq, ne_eq, not_true_eq_false, not_false_eq_true, true_and, and_true, and_self, true_implies, imp_self, implies_true, decide_true, decide_false, Bool.not_true, Bool.not_false, Bool.and_true, Bool.and_false, Bool.true_and, Bool.false_and, Bool.and_self, decide_eq_true_eq, eq_self, gA, gB, gqa_, gra_, gqb_, grb_, gqc_, grc_, lqd, lrd, q7, q7x]
          obtain ⟨T8, hT8⟩ : ∃ S, T7 ++ [some [.val (.bool (decide (fq Zx Zy < 0))), pqd], some [.val (.bool (decide (fr Zx Zy < 0))), prd]] = S := ⟨_, rfl⟩
          have e8 : Ext T7 T8 := ⟨_, hT8.symm⟩
          have hqd_ : At T8 (T7.length) [.val (.bool (decide (fq Zx Zy < 0))), pqd] := ⟨hT8 ▸ by rw [get_app0]; rfl⟩
          have hrd_ : At T8 (T7.length + 1) [.val (.bool (decide (fr Zx Zy < 0))), prd] := ⟨hT8 ▸ by rw [get_app]; rfl⟩
          rw [hT8]
          clear hT8
          refine V_draw [0, 1, 2, 3, 4, 5, 6, 7, 8, 9, 10, 11, 12, 13, 14, 15, 16, 17, 18, 19, 20, 21, 22, 23, 24, 25, 26, 27, 28, 29, 30, 31, 32, 33, 34, 35, 37, 38, 36, 39, 40, 41, 42, 43, 44, 45, 46] (by kernel_rfl) (.cons rfl <| .cons rfl <| .cons rfl <| .cons rfl <| .cons rfl <| .cons rfl <| .cons rfl <| .cons rfl <| .cons rfl <| .cons rfl <| .cons rfl <| .cons rfl <| .cons rfl <| .cons rfl <| .cons rfl <| .cons rfl <| .cons rfl <| .cons rfl <| .cons rfl <| .cons rfl <| .cons rfl <| .cons rfl <| .cons rfl <| .cons rfl <| .cons rfl <| .cons rfl <| .cons rfl <| .cons rfl <| .cons rfl <| .cons rfl <| .cons rfl <| .cons rfl <| .cons rfl <| .cons rfl <| .cons rfl <| .cons rfl <| .cons rfl <| .cons rfl <| .cons rfl <| .cons rfl <| .cons rfl <| .cons rfl <| .cons rfl <| .cons rfl <| .cons rfl <| .cons rfl <| .cons rfl <| .nil) ?_
          have gA := (hA.ext (e1.trans (e2.trans (e3.trans (e4.trans (e5.trans (e6.trans (e7.trans e8)))))))).get
          have gB := (hB.ext (e1.trans (e2.trans (e3.trans (e4.trans (e5.trans (e6.trans (e7.trans e8)))))))).get
          have gqa_ := (hqa_.ext (e3.trans (e4.trans (e5.trans (e6.trans (e7.trans e8)))))).get
          have gra_ := (hra_.ext (e3.trans (e4.trans (e5.trans (e6.trans (e7.trans e8)))))).get
          have gqb_ := (hqb_.ext (e5.trans (e6.trans (e7.trans e8)))).get
          have grb_ := (hrb_.ext (e5.trans (e6.trans (e7.trans e8)))).get
          have gqc_ := (hqc_.ext (e7.trans e8)).get
          have grc_ := (hrc_.ext (e7.trans e8)).get
          have gqd_ := (hqd_.ext Ext.refl).get
          have grd_ := (hrd_.ext Ext.refl).get
          simp (disch := first | assumption | omega | (simp only [lens]; omega)) only [eqs, ↓gvd_succ, ↓gvd_zero, ↓and_of, im_of, im_of trivial, vals, lsts, tys, hP, hst, initS, Nat.reduceBEq, Nat.reduceAdd, Nat.reduceMul, Nat.reduceSub, Nat.reduceDiv, Nat.reduceMod, Nat.reducePow, Nat.reduceLT, Nat.reduceLeDiff, Nat.reduceEqDiff, Int.reduceAdd, Int.reduceSub, Int.reduceNeg, Int.reduceMul, Int.reduceToNat, Int.reducePow, Int.reduceLE, Int.reduceLT, Int.reduceEq, Int.reduceNe, reduceIte, reduceCtorEq, ne_eq, not_true_eq_false, not_false_eq_true, true_and, and_true, and_self, true_implies, imp_self, implies_true, decide_true, decide_false, Bool.not_true, Bool.not_false, Bool.and_true, Bool.and_false, Bool.true_and, Bool.false_and, Bool.and_self, decide_eq_true_eq, eq_self, gA, gB, gqa_, gra_, gqb_, grb_, gqc_, grc_, gqd_, grd_]
          refine E_call (hP ▸ z_same) ⟨_, _, _, _, _, rfl, (hqa.ext (e2.trans (e3.trans (e4.trans (e5.trans (e6.trans (e7.trans e8))))))), (hqb.ext (e4.trans (e5.trans (e6.trans (e7.trans e8))))), by omega, fun T9 e9 => ?_⟩
          have gA := (hA.ext (e1.trans (e2.trans (e3.trans (e4.trans (e5.trans (e6.trans (e7.trans (e8.trans e9))))))))).get
          have gB := (hB.ext (e1.trans (e2.trans (e3.trans (e4.trans (e5.trans (e6.trans (e7.trans (e8.trans e9))))))))).get
          have gqa_ := (hqa_.ext (e3.trans (e4.trans (e5.trans (e6.trans (e7.trans (e8.trans e9))))))).get
          have gra_ := (hra_.ext (e3.trans (e4.trans (e5.trans (e6.trans (e7.trans (e8.trans e9))))))).get
          have gqb_ := (hqb_.ext (e5.trans (e6.trans (e7.trans (e8.trans e9))))).get
          have grb_ := (hrb_.ext (e5.trans (e6.trans (e7.trans (e8.trans e9))))).get
          have gqc_ := (hqc_.ext (e7.trans (e8.trans e9))).get
          have grc_ := (hrc_.ext (e7.trans (e8.trans e9))).get
          have gqd_ := (hqd_.ext e9).get
          have grd_ := (hrd_.ext e9).get
          simp (disch := first | assumption | omega | (simp only [lens]; omega)) only [eqs, ↓gvd_succ, ↓gvd_zero, ↓and_of, im_of, im_of trivial, vals, lsts, tys, hP, hst, initS, Nat.reduceBEq, Nat.reduceAdd, Nat.reduceMul, Nat.reduceSub, Nat.reduceDiv, Nat.reduceMod, Nat.reducePow, Nat.reduceLT, Nat.reduceLeDiff, Nat.reduceEqDiff, Int.reduceAdd, Int.reduceSub, Int.reduceNeg, Int.reduceMul, Int.reduceToNat, Int.reducePow, Int.reduceLE, Int.reduceLT, Int.reduceEq, Int.reduceNe, reduceIte, reduceCtorEq, ne_eq, not_true_eq_false, not_false_eq_true, true_and, and_true, and_self, true_implies, imp_self, implies_true, decide_true, decide_false, Bool.not_true, Bool.not_false, Bool.and_true, Bool.and_false, Bool.true_and, Bool.false_and, Bool.and_self, decide_eq_true_eq, eq_self, gA, gB, gqa_, gra_, gqb_, grb_, gqc_, grc_, gqd_, grd_]
          refine E_call (hP ▸ z_same) ⟨_, _, _, _, _, rfl, (hra.ext (e2.trans (e3.trans (e4.trans (e5.trans (e6.trans (e7.trans (e8.trans e9)))))))), (hrb.ext (e4.trans (e5.trans (e6.trans (e7.trans (e8.trans e9)))))), by omega, fun T10 e10 => ?_⟩
          have gA := (hA.ext (e1.trans (e2.trans (e3.trans (e4.trans (e5.trans (e6.trans (e7.trans (e8.trans (e9.trans e10)))))))))).get
          have gB := (hB.ext (e1.trans (e2.trans (e3.trans (e4.trans (e5.trans (e6.trans (e7.trans (e8.trans (e9.trans e10)))))))))).get
          have gqa_ := (hqa_.ext (e3.trans (e4.trans (e5.trans (e6.trans (e7.trans (e8.trans (e9.trans e10)))))))).get
          have gra_ := (hra_.ext (e3.trans (e4.trans (e5.trans (e6.trans (e7.trans (e8.trans (e9.trans e10)))))))).get
          have gqb_ := (hqb_.ext (e5.trans (e6.trans (e7.trans (e8.trans (e9.trans e10)))))).get
          have grb_ := (hrb_.ext (e5.trans (e6.trans (e7.trans (e8.trans (e9.trans e10)))))).get
          have gqc_ := (hqc_.ext (e7.trans (e8.trans (e9.trans e10)))).get
          have grc_ := (hrc_.ext (e7.trans (e8.trans (e9.trans e10)))).get
          have gqd_ := (hqd_.ext (e9.trans e10)).get
          have grd_ := (hrd_.ext (e9.trans e10)).get
          simp (disch := first | assumption | omega | (simp only [lens]; omega)) only [eqs, ↓gvd_succ, ↓gvd_zero, ↓and_of, im_of, im_of trivial, vals, lsts, tys, hP, hst, initS, Nat.reduceBEq, Nat.reduceAdd, Nat.reduceMul, Nat.reduceSub, Nat.reduceDiv, Nat.reduceMod, Nat.reducePow, Nat.reduceLT, Nat.reduceLeDiff, Nat.reduceEqDiff, Int.reduceAdd, Int.reduceSub, Int.reduceNeg, Int.reduceMul, Int.reduceToNat, Int.reducePow, Int.reduceLE, Int.reduceLT, Int.reduceEq, Int.reduceNe, reduceIte, reduceCtorEq, ne_eq, not_true_eq_false, not_false_eq_true, true_and, and_true, and_self, true_implies, imp_self, implies_true, decide_true, decide_false, Bool.not_true, Bool.not_false, Bool.and_true, Bool.and_false, Bool.true_and, Bool.false_and, Bool.and_self, decide_eq_true_eq, eq_self, gA, gB, gqa_, gra_, gqb_, grb_, gqc_, grc_, gqd_, grd_]
          refine E_call (hP ▸ z_same) ⟨_, _, _, _, _, rfl, (hqc.ext (e6.trans (e7.trans (e8.trans (e9.trans e10))))), (hqd.ext (e8.trans (e9.trans e10))), by omega, fun T11 e11 => ?_⟩
          have gA := (hA.ext (e1.trans (e2.trans (e3.trans (e4.trans (e5.trans (e6.trans (e7.trans (e8.trans (e9.trans (e10.trans e11))))))))))).get
          have gB := (hB.ext (e1.trans (e2.trans (e3.trans (e4.trans (e5.trans (e6.trans (e7.trans (e8.trans (e9.trans (e10.trans e11))))))))))).get
          have gqa_ := (hqa_.ext (e3.trans (e4.trans (e5.trans (e6.trans (e7.trans (e8.trans (e9.trans (e10.trans e11))))))))).get
          have gra_ := (hra_.ext (e3.trans (e4.trans (e5.trans (e6.trans (e7.trans (e8.trans (e9.trans (e10.trans e11))))))))).get
          have gqb_ := (hqb_.ext (e5.trans (e6.trans (e7.trans (e8.trans (e9.trans (e10.trans e11))))))).get
          have grb_ := (hrb_.ext (e5.trans (e6.trans (e7.trans (e8.trans (e9.trans (e10.trans e11))))))).get
          have gqc_ := (hqc_.ext (e7.trans (e8.trans (e9.trans (e10.trans e11))))).get
          have grc_ := (hrc_.ext (e7.trans (e8.trans (e9.trans (e10.trans e11))))).get
          have gqd_ := (hqd_.ext (e9.trans (e10.trans e11))).get
          have grd_ := (hrd_.ext (e9.trans (e10.trans e11))).get
          simp (disch := first | assumption | omega | (simp only [lens]; omega)) only [eqs, ↓gvd_succ, ↓gvd_zero, ↓and_of, im_of, im_of trivial, vals, lsts, tys, hP, hst, initS, Nat.reduceBEq, Nat.reduceAdd, Nat.reduceMul, Nat.reduceSub, Nat.reduceDiv, Nat.reduceMod, Nat.reducePow, Nat.reduceLT, Nat.reduceLeDiff, Nat.reduceEqDiff, Int.reduceAdd, Int.reduceSub, Int.reduceNeg, Int.reduceMul, Int.reduceToNat, Int.reducePow, Int.reduceLE, Int.reduceLT, Int.reduceEq, Int.reduceNe, reduceIte, reduceCtorEq, ne_eq, not_true_eq_false, not_false_eq_true, true_and, and_true, and_self, true_implies, imp_self, implies_true, decide_true, decide_false, Bool.not_true, Bool.not_false, Bool.and_true, Bool.and_false, Bool.true_and, Bool.false_and, Bool.and_self, decide_eq_true_eq, eq_self, gA, gB, gqa_, gra_, gqb_, grb_, gqc_, grc_, gqd_, grd_]
          refine E_call (hP ▸ z_same) ⟨_, _, _, _, _, rfl, (hrc.ext (e6.trans (e7.trans (e8.trans (e9.trans (e10.trans e11)))))), (hrd.ext (e8.trans (e9.trans (e10.trans e11)))), by omega, fun T12 e12 => ?_⟩
          have sA := (ha.ext (e0.trans (e1.trans (e2.trans (e3.trans (e4.trans (e5.trans (e6.trans (e7.trans (e8.trans (e9.trans (e10.trans (e11.trans e12))))))))))))).sl
          have gA := (hA.ext (e1.trans (e2.trans (e3.trans (e4.trans (e5.trans (e6.trans (e7.trans (e8.trans (e9.trans (e10.trans (e11.trans e12)))))))))))).get
          have gB := (hB.ext (e1.trans (e2.trans (e3.trans (e4.trans (e5.trans (e6.trans (e7.trans (e8.trans (e9.trans (e10.trans (e11.trans e12)))))))))))).get
          have gqa_ := (hqa_.ext (e3.trans (e4.trans (e5.trans (e6.trans (e7.trans (e8.trans (e9.trans (e10.trans (e11.trans e12)))))))))).get
          have gra_ := (hra_.ext (e3.trans (e4.trans (e5.trans (e6.trans (e7.trans (e8.trans (e9.trans (e10.trans (e11.trans e12)))))))))).get
          have gqb_ := (hqb_.ext (e5.trans (e6.trans (e7.trans (e8.trans (e9.trans (e10.trans (e11.trans e12)))))))).get
          have grb_ := (hrb_.ext (e5.trans (e6.trans (e7.trans (e8.trans (e9.trans (e10.trans (e11.trans e12)))))))).get
          have gqc_ := (hqc_.ext (e7.trans (e8.trans (e9.trans (e10.trans (e11.trans e12)))))).get
          have grc_ := (hrc_.ext (e7.trans (e8.trans (e9.trans (e10.trans (e11.trans e12)))))).get
          have gqd_ := (hqd_.ext (e9.trans (e10.trans (e11.trans e12)))).get
          have grd_ := (hrd_.ext (e9.trans (e10.trans (e11.trans e12)))).get
          simp (disch := first | assumption | omega | (simp only [lens]; omega)) only [eqs, ↓gvd_succ, ↓gvd_zero, ↓and_of, im_of, im_of trivial, vals, lsts, tys, hP, hst, initS, Nat.reduceBEq, Nat.reduceAdd, Nat.reduceMul, Nat.reduceSub, Nat.reduceDiv, Nat.reduceMod, Nat.reducePow, Nat.reduceLT, Nat.reduceLeDiff, Nat.reduceEqDiff, Int.reduceAdd, Int.reduceSub, Int.reduceNeg, Int.reduceMul, Int.reduceToNat, Int.reducePow, Int.reduceLE, Int.reduceLT, Int.reduceEq, Int.reduceNe, reduceIte, reduceCtorEq, ne_eq, not_true_eq_false, not_false_eq_true, true_and, and_true, and_self, true_implies, imp_self, implies_true, decide_true, decide_false, Bool.not_true, Bool.not_false, Bool.and_true, Bool.and_false, Bool.true_and, Bool.false_and, Bool.and_self, decide_eq_true_eq, eq_self, gA, gB, gqa_, gra_, gqb_, grb_, gqc_, grc_, gqd_, grd_, sA]
          refine G_ndec (fun h => ?_) (fun h => ?_)
          · have h4 := h
            have gA := (hA.ext (e1.trans (e2.trans (e3.trans (e4.trans (e5.trans (e6.trans (e7.trans (e8.trans (e9.trans (e10.trans (e11.trans e12)))))))))))).get
            have gB := (hB.ext (e1.trans (e2.trans (e3.trans (e4.trans (e5.trans (e6.trans (e7.trans (e8.trans (e9.trans (e10.trans (e11.trans e12)))))))))))).get
            have gqa_ := (hqa_.ext (e3.trans (e4.trans (e5.trans (e6.trans (e7.trans (e8.trans (e9.trans (e10.trans (e11.trans e12)))))))))).get
            have gra_ := (hra_.ext (e3.trans (e4.trans (e5.trans (e6.trans (e7.trans (e8.trans (e9.trans (e10.trans (e11.trans e12)))))))))).get
            have gqb_ := (hqb_.ext (e5.trans (e6.trans (e7.trans (e8.trans (e9.trans (e10.trans (e11.trans e12)))))))).get
            have grb_ := (hrb_.ext (e5.trans (e6.trans (e7.trans (e8.trans (e9.trans (e10.trans (e11.trans e12)))))))).get
            have gqc_ := (hqc_.ext (e7.trans (e8.trans (e9.trans (e10.trans (e11.trans e12)))))).get
            have grc_ := (hrc_.ext (e7.trans (e8.trans (e9.trans (e10.trans (e11.trans e12)))))).get
            have gqd_ := (hqd_.ext (e9.trans (e10.trans (e11.trans e12)))).get
            have grd_ := (hrd_.ext (e9.trans (e10.trans (e11.trans e12)))).get
            simp (disch := first | assumption | omega | (simp only [lens]; omega)) only [eqs, ↓gvd_succ, ↓gvd_zero, ↓and_of, im_of, im_of trivial, vals, lsts, tys, hP, hst, initS, Nat.reduceBEq, Nat.reduceAdd, Nat.reduceMul, Nat.reduceSub, Nat.reduceDiv, Nat.reduceMod, Nat.reducePow, Nat.reduceLT, Nat.reduceLeDiff, Nat.reduceEqDiff, Int.reduceAdd, Int.reduceSub, Int.reduceNeg, Int.reduceMul, Int.reduceToNat, Int.reducePow, Int.reduceLE, Int.reduceLT, Int.reduceEq, Int.reduceNe, reduceIte, reduceCtorEq, ne_eq, not_true_eq_false, not_false_eq_true, true_and, and_true, and_self, true_implies, imp_self, implies_true, decide_true, decide_false, Bool.not_true, Bool.not_false, Bool.and_true, Bool.and_false, Bool.true_and, Bool.false_and, Bool.and_self, decide_eq_true_eq, eq_self, gA, gB, gqa_, gra_, gqb_, grb_, gqc_, grc_, gqd_, grd_, h4]
            refine E_call (hP ▸ z_Gcd) ⟨_, _, _, _, _, _, rfl, (hX.ext (e0.trans (e1.trans (e2.trans (e3.trans (e4.trans (e5.trans (e6.trans (e7.trans (e8.trans (e9.trans (e10.trans (e11.trans e12))))))))))))), (hY.ext (e0.trans (e1.trans (e2.trans (e3.trans (e4.trans (e5.trans (e6.trans (e7.trans (e8.trans (e9.trans (e10.trans (e11.trans e12))))))))))))), by omega, by omega, fun vg T13 e13 hg => ?_⟩
            have gA := (hA.ext (e1.trans (e2.trans (e3.trans (e4.trans (e5.trans (e6.trans (e7.trans (e8.trans (e9.trans (e10.trans (e11.trans (e12.trans e13))))))))))))).get
            have gB := (hB.ext (e1.trans (e2.trans (e3.trans (e4.trans (e5.trans (e6.trans (e7.trans (e8.trans (e9.trans (e10.trans (e11.trans (e12.trans e13))))))))))))).get
            have gqa_ := (hqa_.ext (e3.trans (e4.trans (e5.trans (e6.trans (e7.trans (e8.trans (e9.trans (e10.trans (e11.trans (e12.trans e13))))))))))).get
            have gra_ := (hra_.ext (e3.trans (e4.trans (e5.trans (e6.trans (e7.trans (e8.trans (e9.trans (e10.trans (e11.trans (e12.trans e13))))))))))).get
            have gqb_ := (hqb_.ext (e5.trans (e6.trans (e7.trans (e8.trans (e9.trans (e10.trans (e11.trans (e12.trans e13))))))))).get
            have grb_ := (hrb_.ext (e5.trans (e6.trans (e7.trans (e8.trans (e9.trans (e10.trans (e11.trans (e12.trans e13))))))))).get
            have gqc_ := (hqc_.ext (e7.trans (e8.trans (e9.trans (e10.trans (e11.trans (e12.trans e13))))))).get
            have grc_ := (hrc_.ext (e7.trans (e8.trans (e9.trans (e10.trans (e11.trans (e12.trans e13))))))).get
            have gqd_ := (hqd_.ext (e9.trans (e10.trans (e11.trans (e12.trans e13))))).get
            have grd_ := (hrd_.ext (e9.trans (e10.trans (e11.trans (e12.trans e13))))).get
            simp (disch := first | assumption | omega | (simp only [lens]; omega)) only [eqs, ↓gvd_succ, ↓gvd_zero, ↓and_of, im_of, im_of trivial, vals, lsts, tys, hP, hst, initS, Nat.reduceBEq, Nat.reduceAdd, Nat.reduceMul, Nat.reduceSub, Nat.reduceDiv, Nat.reduceMod, Nat.reducePow, Nat.reduceLT, Nat.reduceLeDiff, Nat.reduceEqDiff, Int.reduceAdd, Int.reduceSub, Int.reduceNeg, Int.reduceMul, Int.reduceToNat, Int.reducePow, Int.reduceLE, Int.reduceLT, Int.reduceEq, Int.reduceNe, reduceIte, reduceCtorEq, ne_eq, not_true_eq_false, not_false_eq_true, true_and, and_true, and_self, true_implies, imp_self, implies_true, decide_true, decide_false, Bool.not_true, Bool.not_false, Bool.and_true, Bool.and_false, Bool.true_and, Bool.false_and, Bool.and_self, decide_eq_true_eq, eq_self, gA, gB, gqa_, gra_, gqb_, grb_, gqc_, grc_, gqd_, grd_]
            refine E_call (hP ▸ z_qGcd) ⟨_, _, _, _, _, _, rfl, (hX.ext (e0.trans (e1.trans (e2.trans (e3.trans (e4.trans (e5.trans (e6.trans (e7.trans (e8.trans (e9.trans (e10.trans (e11.trans (e12.trans e13)))))))))))))), (hY.ext (e0.trans (e1.trans (e2.trans (e3.trans (e4.trans (e5.trans (e6.trans (e7.trans (e8.trans (e9.trans (e10.trans (e11.trans (e12.trans e13)))))))))))))), by omega, by omega, fun vi T14 e14 hi => ?_⟩
            have gA := (hA.ext (e1.trans (e2.trans (e3.trans (e4.trans (e5.trans (e6.trans (e7.trans (e8.trans (e9.trans (e10.trans (e11.trans (e12.trans (e13.trans e14)))))))))))))).get
            have gB := (hB.ext (e1.trans (e2.trans (e3.trans (e4.trans (e5.trans (e6.trans (e7.trans (e8.trans (e9.trans (e10.trans (e11.trans (e12.trans (e13.trans e14)))))))))))))).get
            have gqa_ := (hqa_.ext (e3.trans (e4.trans (e5.trans (e6.trans (e7.trans (e8.trans (e9.trans (e10.trans (e11.trans (e12.trans (e13.trans e14)))))))))))).get
            have gra_ := (hra_.ext (e3.trans (e4.trans (e5.trans (e6.trans (e7.trans (e8.trans (e9.trans (e10.trans (e11.trans (e12.trans (e13.trans e14)))))))))))).get
            have gqb_ := (hqb_.ext (e5.trans (e6.trans (e7.trans (e8.trans (e9.trans (e10.trans (e11.trans (e12.trans (e13.trans e14)))))))))).get
            have grb_ := (hrb_.ext (e5.trans (e6.trans (e7.trans (e8.trans (e9.trans (e10.trans (e11.trans (e12.trans (e13.trans e14)))))))))).get
            have gqc_ := (hqc_.ext (e7.trans (e8.trans (e9.trans (e10.trans (e11.trans (e12.trans (e13.trans e14)))))))).get
            have grc_ := (hrc_.ext (e7.trans (e8.trans (e9.trans (e10.trans (e11.trans (e12.trans (e13.trans e14)))))))).get
            have gqd_ := (hqd_.ext (e9.trans (e10.trans (e11.trans (e12.trans (e13.trans e14)))))).get
            have grd_ := (hrd_.ext (e9.trans (e10.trans (e11.trans (e12.trans (e13.trans e14)))))).get
            simp (disch := first | assumption | omega | (simp only [lens]; omega)) only [eqs, ↓gvd_succ, ↓gvd_zero, ↓and_of, im_of, im_of trivial, vals, lsts, tys, hP, hst, initS, Nat.reduceBEq, Nat.reduceAdd, Nat.reduceMul, Nat.reduceSub, Nat.reduceDiv, Nat.reduceMod, Nat.reducePow, Nat.reduceLT, Nat.reduceLeDiff, Nat.reduceEqDiff, Int.reduceAdd, Int.reduceSub, Int.reduceNeg, Int.reduceMul, Int.reduceToNat, Int.reducePow, Int.reduceLE, Int.reduceLT, Int.reduceEq, Int.reduceNe, reduceIte, reduceCtorEq, ne_eq, not_true_eq_false, not_false_eq_true, true_and, and_true, and_self, true_implies, imp_self, implies_true, decide_true, decide_false, Bool.not_true, Bool.not_false, Bool.and_true, Bool.and_false, Bool.true_and, Bool.false_and, Bool.and_self, decide_eq_true_eq, eq_self, gA, gB, gqa_, gra_, gqb_, grb_, gqc_, grc_, gqd_, grd_]
            refine E_call (hP ▸ z_same) ⟨_, _, _, _, _, rfl, (hg.ext e14), hi, by omega, fun T15 e15 => ?_⟩
            have gA := (hA.ext (e1.trans (e2.trans (e3.trans (e4.trans (e5.trans (e6.trans (e7.trans (e8.trans (e9.trans (e10.trans (e11.trans (e12.trans (e13.trans (e14.trans e15))))))))))))))).get
            have gB := (hB.ext (e1.trans (e2.trans (e3.trans (e4.trans (e5.trans (e6.trans (e7.trans (e8.trans (e9.trans (e10.trans (e11.trans (e12.trans (e13.trans (e14.trans e15))))))))))))))).get
            have gqa_ := (hqa_.ext (e3.trans (e4.trans (e5.trans (e6.trans (e7.trans (e8.trans (e9.trans (e10.trans (e11.trans (e12.trans (e13.trans (e14.trans e15))))))))))))).get
            have gra_ := (hra_.ext (e3.trans (e4.trans (e5.trans (e6.trans (e7.trans (e8.trans (e9.trans (e10.trans (e11.trans (e12.trans (e13.trans (e14.trans e15))))))))))))).get
            have gqb_ := (hqb_.ext (e5.trans (e6.trans (e7.trans (e8.trans (e9.trans (e10.trans (e11.trans (e12.trans (e13.trans (e14.trans e15))))))))))).get
            have grb_ := (hrb_.ext (e5.trans (e6.trans (e7.trans (e8.trans (e9.trans (e10.trans (e11.trans (e12.trans (e13.trans (e14.trans e15))))))))))).get
            have gqc_ := (hqc_.ext (e7.trans (e8.trans (e9.trans (e10.trans (e11.trans (e12.trans (e13.trans (e14.trans e15))))))))).get
            have grc_ := (hrc_.ext (e7.trans (e8.trans (e9.trans (e10.trans (e11.trans (e12.trans (e13.trans (e14.trans e15))))))))).get
            have gqd_ := (hqd_.ext (e9.trans (e10.trans (e11.trans (e12.trans (e13.trans (e14.trans e15))))))).get
            have grd_ := (hrd_.ext (e9.trans (e10.trans (e11.trans (e12.trans (e13.trans (e14.trans e15))))))).get
            simp (disch := first | assumption | omega | (simp only [lens]; omega)) only [eqs, ↓gvd_succ, ↓gvd_zero, ↓and_of, im_of, im_of trivial, vals, lsts, tys, hP, hst, initS, Nat.reduceBEq, Nat.reduceAdd, Nat.reduceMul, Nat.reduceSub, Nat.reduceDiv, Nat.reduceMod, Nat.reducePow, Nat.reduceLT, Nat.reduceLeDiff, Nat.reduceEqDiff, Int.reduceAdd, Int.reduceSub, Int.reduceNeg, Int.reduceMul, Int.reduceToNat, Int.reducePow, Int.reduceLE, Int.reduceLT, Int.reduceEq, Int.reduceNe, reduceIte, reduceCtorEq, ne_eq, not_true_eq_false, not_false_eq_true, true_and, and_true, and_self, true_implies, imp_self, implies_true, decide_true, decide_false, Bool.not_true, Bool.not_false, Bool.and_true, Bool.and_false, Bool.true_and, Bool.false_and, Bool.and_self, decide_eq_true_eq, eq_self, gA, gB, gqa_, gra_, gqb_, grb_, gqc_, grc_, gqd_, grd_, h4]
            refine E_call (hP ▸ s_klives) ⟨rfl, fun T16 e16 => ?_⟩
            simp (disch := first | assumption | omega | (simp only [lens]; omega)) only [eqs, ↓gvd_succ, ↓gvd_zero, ↓and_of, im_of, im_of trivial, vals, lsts, tys, hP, hst, initS, Nat.reduceBEq, Nat.reduceAdd, Nat.reduceMul, Nat.reduceSub, Nat.reduceDiv, Nat.reduceMod, Nat.reducePow, Nat.reduceLT, Nat.reduceLeDiff, Nat.reduceEqDiff, Int.reduceAdd, Int.reduceSub, Int.reduceNeg, Int.reduceMul, Int.reduceToNat, Int.reducePow, Int.reduceLE, Int.reduceLT, Int.reduceEq, Int.reduceNe, reduceIte, reduceCtorEq, ne_eq, not_true_eq_false, not_false_eq_true, true_and, and_true, and_self, true_implies, imp_self, implies_true, decide_true, decide_false, Bool.not_true, Bool.not_false, Bool.and_true, Bool.and_false, Bool.true_and, Bool.false_and, Bool.and_self, decide_eq_true_eq, eq_self]
            exact hK _ (e0.trans (e1.trans (e2.trans (e3.trans (e4.trans (e5.trans (e6.trans (e7.trans (e8.trans (e9.trans (e10.trans (e11.trans (e12.trans (e13.trans (e14.trans (e15.trans e16))))))))))))))))
          · have h4 := h
            have gA := (hA.ext (e1.trans (e2.trans (e3.trans (e4.trans (e5.trans (e6.trans (e7.trans (e8.trans (e9.trans (e10.trans (e11.trans e12)))))))))))).get
            have gB := (hB.ext (e1.trans (e2.trans (e3.trans (e4.trans (e5.trans (e6.trans (e7.trans (e8.trans (e9.trans (e10.trans (e11.trans e12)))))))))))).get
            have gqa_ := (hqa_.ext (e3.trans (e4.trans (e5.trans (e6.trans (e7.trans (e8.trans (e9.trans (e10.trans (e11.trans e12)))))))))).get
            have gra_ := (hra_.ext (e3.trans (e4.trans (e5.trans (e6.trans (e7.trans (e8.trans (e9.trans (e10.trans (e11.trans e12)))))))))).get
            have gqb_ := (hqb_.ext (e5.trans (e6.trans (e7.trans (e8.trans (e9.trans (e10.trans (e11.trans e12)))))))).get
            have grb_ := (hrb_.ext (e5.trans (e6.trans (e7.trans (e8.trans (e9.trans (e10.trans (e11.trans e12)))))))).get
            have gqc_ := (hqc_.ext (e7.trans (e8.trans (e9.trans (e10.trans (e11.trans e12)))))).get
            have grc_ := (hrc_.ext (e7.trans (e8.trans (e9.trans (e10.trans (e11.trans e12)))))).get
            have gqd_ := (hqd_.ext (e9.trans (e10.trans (e11.trans e12)))).get
            have grd_ := (hrd_.ext (e9.trans (e10.trans (e11.trans e12)))).get
            simp (disch := first | assumption | omega | (simp only [lens]; omega)) only [eqs, ↓gvd_succ, ↓gvd_zero, ↓and_of, im_of, im_of trivial, vals, lsts, tys, hP, hst, initS, Nat.reduceBEq, Nat.reduceAdd, Nat.reduceMul, Nat.reduceSub, Nat.reduceDiv, Nat.reduceMod, Nat.reducePow, Nat.reduceLT, Nat.reduceLeDiff, Nat.reduceEqDiff, Int.reduceAdd, Int.reduceSub, Int.reduceNeg, Int.reduceMul, Int.reduceToNat, Int.reducePow, Int.reduceLE, Int.reduceLT, Int.reduceEq, Int.reduceNe, reduceIte, reduceCtorEq, ne_eq, not_true_eq_false, not_false_eq_true, true_and, and_true, and_self, true_implies, imp_self, implies_true, decide_true, decide_false, Bool.not_true, Bool.not_false, Bool.and_true, Bool.and_false, Bool.true_and, Bool.false_and, Bool.and_self, decide_eq_true_eq, eq_self, gA, gB, gqa_, gra_, gqb_, grb_, gqc_, grc_, gqd_, grd_, h4]
            refine E_call (hP ▸ s_klives) ⟨rfl, fun T13 e13 => ?_⟩
            simp (disch := first | assumption | omega | (simp only [lens]; omega)) only [eqs, ↓gvd_succ, ↓gvd_zero, ↓and_of, im_of, im_of trivial, vals, lsts, tys, hP, hst, initS, Nat.reduceBEq, Nat.reduceAdd, Nat.reduceMul, Nat.reduceSub, Nat.reduceDiv, Nat.reduceMod, Nat.reducePow, Nat.reduceLT, Nat.reduceLeDiff, Nat.reduceEqDiff, Int.reduceAdd, Int.reduceSub, Int.reduceNeg, Int.reduceMul, Int.reduceToNat, Int.reducePow, Int.reduceLE, Int.reduceLT, Int.reduceEq, Int.reduceNe, reduceIte, reduceCtorEq, ne_eq, not_true_eq_false, not_false_eq_true, true_and, and_true, and_self, true_implies, imp_self, implies_true, decide_true, decide_false, Bool.not_true, Bool.not_false, Bool.and_true, Bool.and_false, Bool.true_and, Bool.false_and, Bool.and_self, decide_eq_true_eq, eq_self]
            exact hK _ (e0.trans (e1.trans (e2.trans (e3.trans (e4.trans (e5.trans (e6.trans (e7.trans (e8.trans (e9.trans (e10.trans (e11.trans (e12.trans e13)))))))))))))
        · unfold zeroI
          have q1 := (e0.trans e1).len
          have q1x : st.length ≤ T1.length + 1 := by omega
          have gA := (hA.ext e1).get
          have gB := (hB.ext e1).get
          simp (disch := first | assumption | omega | (simp only [lens]; omega)) only [eqs, ↓gvd_succ, ↓gvd_zero, ↓and_of, im_of, im_of trivial, vals, lsts, tys, hP, hst, initS, Nat.reduceBEq, Nat.reduceAdd, Nat.reduceMul, Nat.reduceSub, Nat.reduceDiv, Nat.reduceMod, Nat.reducePow, Nat.reduceLT, Nat.reduceLeDiff, Nat.reduceEqDiff, Int.reduceAdd, Int.reduceSub, Int.reduceNeg, Int.reduceMul, Int.reduceToNat, Int.reducePow, Int.reduceLE, Int.reduceLT, Int.reduceEq, Int.reduceNe, reduceIte, reduceCtorEq, ne_eq, not_true_eq_false, not_false_eq_true, true_and, and_true, and_self, true_implies, imp_self, implies_true, decide_true, decide_false, Bool.not_true, Bool.not_false, Bool.and_true, Bool.and_false, Bool.true_and, Bool.false_and, Bool.and_self, decide_eq_true_eq, eq_self, gA, gB, q1, q1x]
          obtain ⟨T2, hT2⟩ : ∃ S, T1 ++ [some [.val (.bool false), .val (.slice none 0 0)], some [.val (.bool false), .val (.slice none 0 0)]] = S := ⟨_, rfl⟩
          have e2 : Ext T1 T2 := ⟨_, hT2.symm⟩
          have hqa_ : At T2 (T1.length) [.val (.bool false), .val (.slice none 0 0)] := ⟨hT2 ▸ by rw [get_app0]; rfl⟩
          have hra_ : At T2 (T1.length + 1) [.val (.bool false), .val (.slice none 0 0)] := ⟨hT2 ▸ by rw [get_app]; rfl⟩
          rw [hT2]
          clear hT2
          have gA := (hA.ext (e1.trans e2)).get
          have gB := (hB.ext (e1.trans e2)).get
          have gqa_ := (hqa_.ext Ext.refl).get
          have gra_ := (hra_.ext Ext.refl).get
          simp (disch := first | assumption | omega | (simp only [lens]; omega)) only [eqs, ↓gvd_succ, ↓gvd_zero, ↓and_of, im_of, im_of trivial, vals, lsts, tys, hP, hst, initS, Nat.reduceBEq, Nat.reduceAdd, Nat.reduceMul, Nat.reduceSub, Nat.reduceDiv, Nat.reduceMod, Nat.reducePow, Nat.reduceLT, Nat.reduceLeDiff, Nat.reduceEqDiff, Int.reduceAdd, Int.reduceSub, Int.reduceNeg, Int.reduceMul, Int.reduceToNat, Int.reducePow, Int.reduceLE, Int.reduceLT, Int.reduceEq, Int.reduceNe, reduceIte, reduceCtorEq, ne_eq, not_true_eq_false, not_false_eq_true, true_and, and_true, and_self, true_implies, imp_self, implies_true, decide_true, decide_false, Bool.not_true, Bool.not_false, Bool.and_true, Bool.and_false, Bool.true_and, Bool.false_and, Bool.and_self, decide_eq_true_eq, eq_self, gA, gB, gqa_, gra_]
          refine E_call (hP ▸ z_qQuo) ⟨_, _, _, _, _, _, rfl, (hX.ext (e0.trans (e1.trans e2))), (hY.ext (e0.trans (e1.trans e2))), by omega, by omega, fun h => absurd hy0 h, fun hy0 T3 e3 => ?_⟩
          unfold zeroI
          have q3 := (e0.trans (e1.trans (e2.trans e3))).len
          have q3x : st.length ≤ T3.length + 1 := by omega
          have gA := (hA.ext (e1.trans (e2.trans e3))).get
          have gB := (hB.ext (e1.trans (e2.trans e3))).get
          have gqa_ := (hqa_.ext e3).get
          have gra_ := (hra_.ext e3).get
          simp (disch := first | assumption | omega | (simp only [lens]; omega)) only [eqs, ↓gvd_succ, ↓gvd_zero, ↓and_of, im_of, im_of trivial, vals, lsts, tys, hP, hst, initS, Nat.reduceBEq, Nat.reduceAdd, Nat.reduceMul, Nat.reduceSub, Nat.reduceDiv, Nat.reduceMod, Nat.reducePow, Nat.reduceLT, Nat.reduceLeDiff, Nat.reduceEqDiff, Int.reduceAdd, Int.reduceSub, Int.reduceNeg, Int.reduceMul, Int.reduceToNat, Int.reducePow, Int.reduceLE, Int.reduceLT, Int.reduceEq, Int.reduceNe, reduceIte, reduceCtorEq, ne_eq, not_true_eq_false, not_false_eq_true, true_and, and_true, and_self, true_implies, imp_self, implies_true, decide_true, decide_false, Bool.not_true, Bool.not_false, Bool.and_true, Bool.and_false, Bool.true_and, Bool.false_and, Bool.and_self, decide_eq_true_eq, eq_self, gA, gB, gqa_, gra_, q3, q3x]
          obtain ⟨T4, hT4⟩ : ∃ S, T3 ++ [some [.val (.bool false), .val (.slice none 0 0)], some [.val (.bool false), .val (.slice none 0 0)]] = S := ⟨_, rfl⟩
          have e4 : Ext T3 T4 := ⟨_, hT4.symm⟩
          have hqb_ : At T4 (T3.length) [.val (.bool false), .val (.slice none 0 0)] := ⟨hT4 ▸ by rw [get_app0]; rfl⟩
          have hrb_ : At T4 (T3.length + 1) [.val (.bool false), .val (.slice none 0 0)] := ⟨hT4 ▸ by rw [get_app]; rfl⟩
          rw [hT4]
          clear hT4
          have gA := (hA.ext (e1.trans (e2.trans (e3.trans e4)))).get
          have gB := (hB.ext (e1.trans (e2.trans (e3.trans e4)))).get
          have gqa_ := (hqa_.ext (e3.trans e4)).get
          have gra_ := (hra_.ext (e3.trans e4)).get
          have gqb_ := (hqb_.ext Ext.refl).get
          have grb_ := (hrb_.ext Ext.refl).get
          simp (disch := first | assumption | omega | (simp only [lens]; omega)) only [eqs, ↓gvd_succ, ↓gvd_zero, ↓and_of, im_of, im_of trivial, vals, lsts, tys, hP, hst, initS, Nat.reduceBEq, Nat.reduceAdd, Nat.reduceMul, Nat.reduceSub, Nat.reduceDiv, Nat.reduceMod, Nat.reducePow, Nat.reduceLT, Nat.reduceLeDiff, Nat.reduceEqDiff, Int.reduceAdd, Int.reduceSub, Int.reduceNeg, Int.reduceMul, Int.reduceToNat, Int.reducePow, Int.reduceLE, Int.reduceLT, Int.reduceEq, Int.reduceNe, reduceIte, reduceCtorEq, ne_eq, not_true_eq_false, not_false_eq_true, true_and, and_true, and_self, true_implies, imp_self, implies_true, decide_true, decide_false, Bool.not_true, Bool.not_false, Bool.and_true, Bool.and_false, Bool.true_and, Bool.false_and, Bool.and_self, decide_eq_true_eq, eq_self, gA, gB, gqa_, gra_, gqb_, grb_]
          refine E_call (hP ▸ z_Floor) ⟨_, _, _, _, _, _, rfl, (hX.ext (e0.trans (e1.trans (e2.trans (e3.trans e4))))), (hY.ext (e0.trans (e1.trans (e2.trans (e3.trans e4))))), by omega, by omega, fun h => absurd hy0 h, fun hy0 T5 e5 => ?_⟩
          unfold zeroI
          have q5 := (e0.trans (e1.trans (e2.trans (e3.trans (e4.trans e5))))).len
          have q5x : st.length ≤ T5.length + 1 := by omega
          have gA := (hA.ext (e1.trans (e2.trans (e3.trans (e4.trans e5))))).get
          have gB := (hB.ext (e1.trans (e2.trans (e3.trans (e4.trans e5))))).get
          have gqa_ := (hqa_.ext (e3.trans (e4.trans e5))).get
          have gra_ := (hra_.ext (e3.trans (e4.trans e5))).get
          have gqb_ := (hqb_.ext e5).get
          have grb_ := (hrb_.ext e5).get
          simp (disch := first | assumption | omega | (simp only [lens]; omega)) only [eqs, ↓gvd_succ, ↓gvd_zero, ↓and_of, im_of, im_of trivial, vals, lsts, tys, hP, hst, initS, Nat.reduceBEq, Nat.reduceAdd, Nat.reduceMul, Nat.reduceSub, Nat.reduceDiv, Nat.reduceMod, Nat.reducePow, Nat.reduceLT, Nat.reduceLeDiff, Nat.reduceEqDiff, Int.reduceAdd, Int.reduceSub, Int.reduceNeg, Int.reduceMul, Int.reduceToNat, Int.reducePow, Int.reduceLE, Int.reduceLT, Int.reduceEq, Int.reduceNe, reduceIte, reduceCtorEq, ne_eq, not_true_eq_false, not_false_eq_true, true_and, and_true, and_self, true_implies, imp_self, implies_true, decide_true, decide_false, Bool.not_true, Bool.not_false, Bool.and_true, Bool.and_false, Bool.true_and, Bool.false_and, Bool.and_self, decide_eq_true_eq, eq_self, gA, gB, gqa_, gra_, gqb_, grb_, q5, q5x]
          obtain ⟨T6, hT6⟩ : ∃ S, T5 ++ [some [.val (.bool false), .val (.slice none 0 0)], some [.val (.bool false), .val (.slice none 0 0)]] = S := ⟨_, rfl⟩
          have e6 : Ext T5 T6 := ⟨_, hT6.symm⟩
          have hqc_ : At T6 (T5.length) [.val (.bool false), .val (.slice none 0 0)] := ⟨hT6 ▸ by rw [get_app0]; rfl⟩
          have hrc_ : At T6 (T5.length + 1) [.val (.bool false), .val (.slice none 0 0)] := ⟨hT6 ▸ by rw [get_app]; rfl⟩
          rw [hT6]
          clear hT6
          have gA := (hA.ext (e1.trans (e2.trans (e3.trans (e4.trans (e5.trans e6)))))).get
          have gB := (hB.ext (e1.trans (e2.trans (e3.trans (e4.trans (e5.trans e6)))))).get
          have gqa_ := (hqa_.ext (e3.trans (e4.trans (e5.trans e6)))).get
          have gra_ := (hra_.ext (e3.trans (e4.trans (e5.trans e6)))).get
          have gqb_ := (hqb_.ext (e5.trans e6)).get
          have grb_ := (hrb_.ext (e5.trans e6)).get
          have gqc_ := (hqc_.ext Ext.refl).get
          have grc_ := (hrc_.ext Ext.refl).get
          simp (disch := first | assumption | omega | (simp only [lens]; omega)) only [eqs, ↓gvd_succ, ↓gvd_zero, ↓and_of, im_of, im_of trivial, vals, lsts, tys, hP, hst, initS, Nat.reduceBEq, Nat.reduceAdd, Nat.reduceMul, Nat.reduceSub, Nat.reduceDiv, Nat.reduceMod, Nat.reducePow, Nat.reduceLT, Nat.reduceLeDiff, Nat.reduceEqDiff, Int.reduceAdd, Int.reduceSub, Int.reduceNeg, Int.reduceMul, Int.reduceToNat, Int.reducePow, Int.reduceLE, Int.reduceLT, Int.reduceEq, Int.reduceNe, reduceIte, reduceCtorEq, ne_eq, not_true_eq_false, not_false_eq_true, true_and, and_true, and_self, true_implies, imp_self, implies_true, decide_true, decide_false, Bool.not_true, Bool.not_false, Bool.and_true, Bool.and_false, Bool.true_and, Bool.false_and, Bool.and_self, decide_eq_true_eq, eq_self, gA, gB, gqa_, gra_, gqb_, grb_, gqc_, grc_]
          refine E_call (hP ▸ z_qFloor) ⟨_, _, _, _, _, _, rfl, (hX.ext (e0.trans (e1.trans (e2.trans (e3.trans (e4.trans (e5.trans e6))))))), (hY.ext (e0.trans (e1.trans (e2.trans (e3.trans (e4.trans (e5.trans e6))))))), by omega, by omega, fun h => absurd hy0 h, fun hy0 T7 e7 => ?_⟩
          unfold zeroI
          have q7 := (e0.trans (e1.trans (e2.trans (e3.trans (e4.trans (e5.trans (e6.trans e7))))))).len
          have q7x : st.length ≤ T7.length + 1 := by omega
          have gA := (hA.ext (e1.trans (e2.trans (e3.trans (e4.trans (e5.trans (e6.trans e7))))))).get
          have gB := (hB.ext (e1.trans (e2.trans (e3.trans (e4.trans (e5.trans (e6.trans e7))))))).get
          have gqa_ := (hqa_.ext (e3.trans (e4.trans (e5.trans (e6.trans e7))))).get
          have gra_ := (hra_.ext (e3.trans (e4.trans (e5.trans (e6.trans e7))))).get
          have gqb_ := (hqb_.ext (e5.trans (e6.trans e7))).get
          have grb_ := (hrb_.ext (e5.trans (e6.trans e7))).get
          have gqc_ := (hqc_.ext e7).get
          have grc_ := (hrc_.ext e7).get
          simp (disch := first | assumption | omega | (simp only [lens]; omega)) only [eqs, ↓gvd_succ, ↓gvd_zero, ↓and_of, im_of, im_of trivial, vals, lsts, tys, hP, hst, initS, Nat.reduceBEq, Nat.reduceAdd, Nat.reduceMul, Nat.reduceSub, Nat.reduceDiv, Nat.reduceMod, Nat.reducePow, Nat.reduceLT, Nat.reduceLeDiff, Nat.reduceEqDiff, Int.reduceAdd, Int.reduceSub, Int.reduceNeg, Int.reduceMul, Int.reduceToNat, Int.reducePow, Int.reduceLE, Int.reduceLT, Int.reduceEq, Int.reduceNe, reduceIte, reduceCtorEq, ne_eq, not_true_eq_false, not_false_eq_true, true_and, and_true, and_self, true_implies, imp_self, implies_true, decide_true, decide_false, Bool.not_true, Bool.not_false, Bool.and_true, Bool.and_false, Bool.true_and, Bool.false_and, Bool.and_self, decide_eq_true_eq, eq_self, gA, gB, gqa_, gra_, gqb_, grb_, gqc_, grc_, q7, q7x]
          obtain ⟨T8, hT8⟩ : ∃ S, T7 ++ [some [.val (.bool false), .val (.slice none 0 0)], some [.val (.bool false), .val (.slice none 0 0)]] = S := ⟨_, rfl⟩
          have e8 : Ext T7 T8 := ⟨_, hT8.symm⟩
          have hqd_ : At T8 (T7.length) [.val (.bool false), .val (.slice none 0 0)] := ⟨hT8 ▸ by rw [get_app0]; rfl⟩
          have hrd_ : At T8 (T7.length + 1) [.val (.bool false), .val (.slice none 0 0)] := ⟨hT8 ▸ by rw [get_app]; rfl⟩
          rw [hT8]
          clear hT8
          refine V_draw [0, 1, 2, 3, 4, 5, 6, 7, 8, 9, 10, 11, 12, 13, 14, 15, 16, 17, 18, 19, 20, 21, 22, 23, 24, 25, 26, 27, 28, 29, 30, 31, 32, 33, 34, 35, 37, 38, 36, 39, 40, 41, 42, 43, 44, 45, 46] (by kernel_rfl) (.cons rfl <| .cons rfl <| .cons rfl <| .cons rfl <| .cons rfl <| .cons rfl <| .cons rfl <| .cons rfl <| .cons rfl <| .cons rfl <| .cons rfl <| .cons rfl <| .cons rfl <| .cons rfl <| .cons rfl <| .cons rfl <| .cons rfl <| .cons rfl <| .cons rfl <| .cons rfl <| .cons rfl <| .cons rfl <| .cons rfl <| .cons rfl <| .cons rfl <| .cons rfl <| .cons rfl <| .cons rfl <| .cons rfl <| .cons rfl <| .cons rfl <| .cons rfl <| .cons rfl <| .cons rfl <| .cons rfl <| .cons rfl <| .cons rfl <| .cons rfl <| .cons rfl <| .cons rfl <| .cons rfl <| .cons rfl <| .cons rfl <| .cons rfl <| .cons rfl <| .cons rfl <| .cons rfl <| .nil) ?_
          have gA := (hA.ext (e1.trans (e2.trans (e3.trans (e4.trans (e5.trans (e6.trans (e7.trans e8)))))))).get
          have gB := (hB.ext (e1.trans (e2.trans (e3.trans (e4.trans (e5.trans (e6.trans (e7.trans e8)))))))).get
          have gqa_ := (hqa_.ext (e3.trans (e4.trans (e5.trans (e6.trans (e7.trans e8)))))).get
          have gra_ := (hra_.ext (e3.trans (e4.trans (e5.trans (e6.trans (e7.trans e8)))))).get
          have gqb_ := (hqb_.ext (e5.trans (e6.trans (e7.trans e8)))).get
          have grb_ := (hrb_.ext (e5.trans (e6.trans (e7.trans e8)))).get
          have gqc_ := (hqc_.ext (e7.trans e8)).get
          have grc_ := (hrc_.ext (e7.trans e8)).get
          have gqd_ := (hqd_.ext Ext.refl).get
          have grd_ := (hrd_.ext Ext.refl).get
          simp (disch := first | assumption | omega | (simp only [lens]; omega)) only [eqs, ↓gvd_succ, ↓gvd_zero, ↓and_of, im_of, im_of trivial, vals, lsts, tys, hP, hst, initS, Nat.reduceBEq, Nat.reduceAdd, Nat.reduceMul, Nat.reduceSub, Nat.reduceDiv, Nat.reduceMod, Nat.reducePow, Nat.reduceLT, Nat.reduceLeDiff, Nat.reduceEqDiff, Int.reduceAdd, Int.reduceSub, Int.reduceNeg, Int.reduceMul, Int.reduceToNat, Int.reducePow, Int.reduceLE, Int.reduceLT, Int.reduceEq, Int.reduceNe, reduceIte, reduceCtorEq, ne_eq, not_true_eq_false, not_false_eq_true, true_and, and_true, and_self, true_implies, imp_self, implies_true, decide_true, decide_false, Bool.not_true, Bool.not_false, Bool.and_true, Bool.and_false, Bool.true_and, Bool.false_and, Bool.and_self, decide_eq_true_eq, eq_self, gA, gB, gqa_, gra_, gqb_, grb_, gqc_, grc_, gqd_, grd_]
          refine E_call (hP ▸ z_same) ⟨_, _, _, _, _, rfl, nz_zero, nz_zero, by omega, fun T9 e9 => ?_⟩
          have gA := (hA.ext (e1.trans (e2.trans (e3.trans (e4.trans (e5.trans (e6.trans (e7.trans (e8.trans e9))))))))).get
          have gB := (hB.ext (e1.trans (e2.trans (e3.trans (e4.trans (e5.trans (e6.trans (e7.trans (e8.trans e9))))))))).get
          have gqa_ := (hqa_.ext (e3.trans (e4.trans (e5.trans (e6.trans (e7.trans (e8.trans e9))))))).get
          have gra_ := (hra_.ext (e3.trans (e4.trans (e5.trans (e6.trans (e7.trans (e8.trans e9))))))).get
          have gqb_ := (hqb_.ext (e5.trans (e6.trans (e7.trans (e8.trans e9))))).get
          have grb_ := (hrb_.ext (e5.trans (e6.trans (e7.trans (e8.trans e9))))).get
          have gqc_ := (hqc_.ext (e7.trans (e8.trans e9))).get
          have grc_ := (hrc_.ext (e7.trans (e8.trans e9))).get
          have gqd_ := (hqd_.ext e9).get
          have grd_ := (hrd_.ext e9).get
          simp (disch := first | assumption | omega | (simp only [lens]; omega)) only [eqs, ↓gvd_succ, ↓gvd_zero, ↓and_of, im_of, im_of trivial, vals, lsts, tys, hP, hst, initS, Nat.reduceBEq, Nat.reduceAdd, Nat.reduceMul, Nat.reduceSub, Nat.reduceDiv, Nat.reduceMod, Nat.reducePow, Nat.reduceLT, Nat.reduceLeDiff, Nat.reduceEqDiff, Int.reduceAdd, Int.reduceSub, Int.reduceNeg, Int.reduceMul, Int.reduceToNat, Int.reducePow, Int.reduceLE, Int.reduceLT, Int.reduceEq, Int.reduceNe, reduceIte, reduceCtorEq, ne_eq, not_true_eq_false, not_false_eq_true, true_and, and_true, and_self, true_implies, imp_self, implies_true, decide_true, decide_false, Bool.not_true, Bool.not_false, Bool.and_true, Bool.and_false, Bool.true_and, Bool.false_and, Bool.and_self, decide_eq_true_eq, eq_self, gA, gB, gqa_, gra_, gqb_, grb_, gqc_, grc_, gqd_, grd_]
          refine E_call (hP ▸ z_same) ⟨_, _, _, _, _, rfl, nz_zero, nz_zero, by omega, fun T10 e10 => ?_⟩
          have gA := (hA.ext (e1.trans (e2.trans (e3.trans (e4.trans (e5.trans (e6.trans (e7.trans (e8.trans (e9.trans e10)))))))))).get
          have gB := (hB.ext (e1.trans (e2.trans (e3.trans (e4.trans (e5.trans (e6.trans (e7.trans (e8.trans (e9.trans e10)))))))))).get
          have gqa_ := (hqa_.ext (e3.trans (e4.trans (e5.trans (e6.trans (e7.trans (e8.trans (e9.trans e10)))))))).get
          have gra_ := (hra_.ext (e3.trans (e4.trans (e5.trans (e6.trans (e7.trans (e8.trans (e9.trans e10)))))))).get
          have gqb_ := (hqb_.ext (e5.trans (e6.trans (e7.trans (e8.trans (e9.trans e10)))))).get
          have grb_ := (hrb_.ext (e5.trans (e6.trans (e7.trans (e8.trans (e9.trans e10)))))).get
          have gqc_ := (hqc_.ext (e7.trans (e8.trans (e9.trans e10)))).get
          have grc_ := (hrc_.ext (e7.trans (e8.trans (e9.trans e10)))).get
          have gqd_ := (hqd_.ext (e9.trans e10)).get
          have grd_ := (hrd_.ext (e9.trans e10)).get
          simp (disch := first | assumption | omega | (simp only [lens]; omega)) only [eqs, ↓gvd_succ, ↓gvd_zero, ↓and_of, im_of, im_of trivial, vals, lsts, tys, hP, hst, initS, Nat.reduceBEq, Nat.reduceAdd, Nat.reduceMul, Nat.reduceSub, Nat.reduceDiv, Nat.reduceMod, Nat.reducePow, Nat.reduceLT, Nat.reduceLeDiff, Nat.reduceEqDiff, Int.reduceAdd, Int.reduceSub, Int.reduceNeg, Int.reduceMul, Int.reduceToNat, Int.reducePow, Int.reduceLE, Int.reduceLT, Int.reduceEq, Int.reduceNe, reduceIte, reduceCtorEq, ne_eq, not_true_eq_false, not_false_eq_true, true_and, and_true, and_self, true_implies, imp_self, implies_true, decide_true, decide_false, Bool.not_true, Bool.not_false, Bool.and_true, Bool.and_false, Bool.true_and, Bool.false_and, Bool.and_self, decide_eq_true_eq, eq_self, gA, gB, gqa_, gra_, gqb_, grb_, gqc_, grc_, gqd_, grd_]
          refine E_call (hP ▸ z_same) ⟨_, _, _, _, _, rfl, nz_zero, nz_zero, by omega, fun T11 e11 => ?_⟩
          have gA := (hA.ext (e1.trans (e2.trans (e3.trans (e4.trans (e5.trans (e6.trans (e7.trans (e8.trans (e9.trans (e10.trans e11))))))))))).get
          have gB := (hB.ext (e1.trans (e2.trans (e3.trans (e4.trans (e5.trans (e6.trans (e7.trans (e8.trans (e9.trans (e10.trans e11))))))))))).get
          have gqa_ := (hqa_.ext (e3.trans (e4.trans (e5.trans (e6.trans (e7.trans (e8.trans (e9.trans (e10.trans e11))))))))).get
          have gra_ := (hra_.ext (e3.trans (e4.trans (e5.trans (e6.trans (e7.trans (e8.trans (e9.trans (e10.trans e11))))))))).get
          have gqb_ := (hqb_.ext (e5.trans (e6.trans (e7.trans (e8.trans (e9.trans (e10.trans e11))))))).get
          have grb_ := (hrb_.ext (e5.trans (e6.trans (e7.trans (e8.trans (e9.trans (e10.trans e11))))))).get
          have gqc_ := (hqc_.ext (e7.trans (e8.trans (e9.trans (e10.trans e11))))).get
          have grc_ := (hrc_.ext (e7.trans (e8.trans (e9.trans (e10.trans e11))))).get
          have gqd_ := (hqd_.ext (e9.trans (e10.trans e11))).get
          have grd_ := (hrd_.ext (e9.trans (e10.trans e11))).get
          simp (disch := first | assumption | omega | (simp only [lens]; omega)) only [eqs, ↓gvd_succ, ↓gvd_zero, ↓and_of, im_of, im_of trivial, vals, lsts, tys, hP, hst, initS, Nat.reduceBEq, Nat.reduceAdd, Nat.reduceMul, Nat.reduceSub, Nat.reduceDiv, Nat.reduceMod, Nat.reducePow, Nat.reduceLT, Nat.reduceLeDiff, Nat.reduceEqDiff, Int.reduceAdd, Int.reduceSub, Int.reduceNeg, Int.reduceMul, Int.reduceToNat, Int.reducePow, Int.reduceLE, Int.reduceLT, Int.reduceEq, Int.reduceNe, reduceIte, reduceCtorEq, ne_eq, not_true_eq_false, not_false_eq_true, true_and, and_true, and_self, true_implies, imp_self, implies_true, decide_true, decide_false, Bool.not_true, Bool.not_false, Bool.and_true, Bool.and_false, Bool.true_and, Bool.false_and, Bool.and_self, decide_eq_true_eq, eq_self, gA, gB, gqa_, gra_, gqb_, grb_, gqc_, grc_, gqd_, grd_]
          refine E_call (hP ▸ z_same) ⟨_, _, _, _, _, rfl, nz_zero, nz_zero, by omega, fun T12 e12 => ?_⟩
          have sA := (ha.ext (e0.trans (e1.trans (e2.trans (e3.trans (e4.trans (e5.trans (e6.trans (e7.trans (e8.trans (e9.trans (e10.trans (e11.trans e12))))))))))))).sl
          have gA := (hA.ext (e1.trans (e2.trans (e3.trans (e4.trans (e5.trans (e6.trans (e7.trans (e8.trans (e9.trans (e10.trans (e11.trans e12)))))))))))).get
          have gB := (hB.ext (e1.trans (e2.trans (e3.trans (e4.trans (e5.trans (e6.trans (e7.trans (e8.trans (e9.trans (e10.trans (e11.trans e12)))))))))))).get
          have gqa_ := (hqa_.ext (e3.trans (e4.trans (e5.trans (e6.trans (e7.trans (e8.trans (e9.trans (e10.trans (e11.trans e12)))))))))).get
          have gra_ := (hra_.ext (e3.trans (e4.trans (e5.trans (e6.trans (e7.trans (e8.trans (e9.trans (e10.trans (e11.trans e12)))))))))).get
          have gqb_ := (hqb_.ext (e5.trans (e6.trans (e7.trans (e8.trans (e9.trans (e10.trans (e11.trans e12)))))))).get
          have grb_ := (hrb_.ext (e5.trans (e6.trans (e7.trans (e8.trans (e9.trans (e10.trans (e11.trans e12)))))))).get
          have gqc_ := (hqc_.ext (e7.trans (e8.trans (e9.trans (e10.trans (e11.trans e12)))))).get
          have grc_ := (hrc_.ext (e7.trans (e8.trans (e9.trans (e10.trans (e11.trans e12)))))).get
          have gqd_ := (hqd_.ext (e9.trans (e10.trans (e11.trans e12)))).get
          have grd_ := (hrd_.ext (e9.trans (e10.trans (e11.trans e12)))).get
          simp (disch := first | assumption | omega | (simp only [lens]; omega)) only [eqs, ↓gvd_succ, ↓gvd_zero, ↓and_of, im_of, im_of trivial, vals, lsts, tys, hP, hst, initS, Nat.reduceBEq, Nat.reduceAdd, Nat.reduceMul, Nat.reduceSub, Nat.reduceDiv, Nat.reduceMod, Nat.reducePow, Nat.reduceLT, Nat.reduceLeDiff, Nat.reduceEqDiff, Int.reduceAdd, Int.reduceSub, Int.reduceNeg, Int.reduceMul, Int.reduceToNat, Int.reducePow, Int.reduceLE, Int.reduceLT, Int.reduceEq, Int.reduceNe, reduceIte, reduceCtorEq, ne_eq, not_true_eq_false, not_false_eq_true, true_and, and_true, and_self, true_implies, imp_self, implies_true, decide_true, decide_false, Bool.not_true, Bool.not_false, Bool.and_true, Bool.and_false, Bool.true_and, Bool.false_and, Bool.and_self, decide_eq_true_eq, eq_self, gA, gB, gqa_, gra_, gqb_, grb_, gqc_, grc_, gqd_, grd_, sA]
          refine G_ndec (fun h => ?_) (fun h => ?_)
          · have h4 := h
            have gA := (hA.ext (e1.trans (e2.trans (e3.trans (e4.trans (e5.trans (e6.trans (e7.trans (e8.trans (e9.trans (e10.trans (e11.trans e12)))))))))))).get
            have gB := (hB.ext (e1.trans (e2.trans (e3.trans (e4.trans (e5.trans (e6.trans (e7.trans (e8.trans (e9.trans (e10.trans (e11.trans e12)))))))))))).get
            have gqa_ := (hqa_.ext (e3.trans (e4.trans (e5.trans (e6.trans (e7.trans (e8.trans (e9.trans (e10.trans (e11.trans e12)))))))))).get
            have gra_ := (hra_.ext (e3.trans (e4.trans (e5.trans (e6.trans (e7.trans (e8.trans (e9.trans (e10.trans (e11.trans e12)))))))))).get
            have gqb_ := (hqb_.ext (e5.trans (e6.trans (e7.trans (e8.trans (e9.trans (e10.trans (e11.trans e12)))))))).get
            have grb_ := (hrb_.ext (e5.trans (e6.trans (e7.trans (e8.trans (e9.trans (e10.trans (e11.trans e12)))))))).get
            have gqc_ := (hqc_.ext (e7.trans (e8.trans (e9.trans (e10.trans (e11.trans e12)))))).get
            have grc_ := (hrc_.ext (e7.trans (e8.trans (e9.trans (e10.trans (e11.trans e12)))))).get
            have gqd_ := (hqd_.ext (e9.trans (e10.trans (e11.trans e12)))).get
            have grd_ := (hrd_.ext (e9.trans (e10.trans (e11.trans e12)))).get
            simp (disch := first | assumption | omega | (simp only [lens]; omega)) only [eqs, ↓gvd_succ, ↓gvd_zero, ↓and_of, im_of, im_of trivial, vals, lsts, tys, hP, hst, initS, Nat.reduceBEq, Nat.reduceAdd, Nat.reduceMul, Nat.reduceSub, Nat.reduceDiv, Nat.reduceMod, Nat.reducePow, Nat.reduceLT, Nat.reduceLeDiff, Nat.reduceEqDiff, Int.reduceAdd, Int.reduceSub, Int.reduceNeg, Int.reduceMul, Int.reduceToNat, Int.reducePow, Int.reduceLE, Int.reduceLT, Int.reduceEq, Int.reduceNe, reduceIte, reduceCtorEq, ne_eq, not_true_eq_false, not_false_eq_true, true_and, and_true, and_self, true_implies, imp_self, implies_true, decide_true, decide_false, Bool.not_true, Bool.not_false, Bool.and_true, Bool.and_false, Bool.true_and, Bool.false_and, Bool.and_self, decide_eq_true_eq, eq_self, gA, gB, gqa_, gra_, gqb_, grb_, gqc_, grc_, gqd_, grd_, h4]
            refine E_call (hP ▸ z_Gcd) ⟨_, _, _, _, _, _, rfl, (hX.ext (e0.trans (e1.trans (e2.trans (e3.trans (e4.trans (e5.trans (e6.trans (e7.trans (e8.trans (e9.trans (e10.trans (e11.trans e12))))))))))))), (hY.ext (e0.trans (e1.trans (e2.trans (e3.trans (e4.trans (e5.trans (e6.trans (e7.trans (e8.trans (e9.trans (e10.trans (e11.trans e12))))))))))))), by omega, by omega, fun vg T13 e13 hg => ?_⟩
            have gA := (hA.ext (e1.trans (e2.trans (e3.trans (e4.trans (e5.trans (e6.trans (e7.trans (e8.trans (e9.trans (e10.trans (e11.trans (e12.trans e13))))))))))))).get
            have gB := (hB.ext (e1.trans (e2.trans (e3.trans (e4.trans (e5.trans (e6.trans (e7.trans (e8.trans (e9.trans (e10.trans (e11.trans (e12.trans e13))))))))))))).get
            have gqa_ := (hqa_.ext (e3.trans (e4.trans (e5.trans (e6.trans (e7.trans (e8.trans (e9.trans (e10.trans (e11.trans (e12.trans e13))))))))))).get
            have gra_ := (hra_.ext (e3.trans (e4.trans (e5.trans (e6.trans (e7.trans (e8.trans (e9.trans (e10.trans (e11.trans (e12.trans e13))))))))))).get
            have gqb_ := (hqb_.ext (e5.trans (e6.trans (e7.trans (e8.trans (e9.trans (e10.trans (e11.trans (e12.trans e13))))))))).get
            have grb_ := (hrb_.ext (e5.trans (e6.trans (e7.trans (e8.trans (e9.trans (e10.trans (e11.trans (e12.trans e13))))))))).get
            have gqc_ := (hqc_.ext (e7.trans (e8.trans (e9.trans (e10.trans (e11.trans (e12.trans e13))))))).get
            have grc_ := (hrc_.ext (e7.trans (e8.trans (e9.trans (e10.trans (e11.trans (e12.trans e13))))))).get
            have gqd_ := (hqd_.ext (e9.trans (e10.trans (e11.trans (e12.trans e13))))).get
            have grd_ := (hrd_.ext (e9.trans (e10.trans (e11.trans (e12.trans e13))))).get
            simp (disch := first | assumption | omega | (simp only [lens]; omega)) only [eqs, ↓gvd_succ, ↓gvd_zero, ↓and_of, im_of, im_of trivial, vals, lsts, tys, hP, hst, initS, Nat.reduceBEq, Nat.reduceAdd, Nat.reduceMul, Nat.reduceSub, Nat.reduceDiv, Nat.reduceMod, Nat.reducePow, Nat.reduceLT, Nat.reduceLeDiff, Nat.reduceEqDiff, Int.reduceAdd, Int.reduceSub, Int.reduceNeg, Int.reduceMul, Int.reduceToNat, Int.reducePow, Int.reduceLE, Int.reduceLT, Int.reduceEq, Int.reduceNe, reduceIte, reduceCtorEq, ne_eq, not_true_eq_false, not_false_eq_true, true_and, and_true, and_self, true_implies, imp_self, implies_true, decide_true, decide_false, Bool.not_true, Bool.not_false, Bool.and_true, Bool.and_false, Bool.true_and, Bool.false_and, Bool.and_self, decide_eq_true_eq, eq_self, gA, gB, gqa_, gra_, gqb_, grb_, gqc_, grc_, gqd_, grd_]
            refine E_call (hP ▸ z_qGcd) ⟨_, _, _, _, _, _, rfl, (hX.ext (e0.trans (e1.trans (e2.trans (e3.trans (e4.trans (e5.trans (e6.trans (e7.trans (e8.trans (e9.trans (e10.trans (e11.trans (e12.trans e13)))))))))))))), (hY.ext (e0.trans (e1.trans (e2.trans (e3.trans (e4.trans (e5.trans (e6.trans (e7.trans (e8.trans (e9.trans (e10.trans (e11.trans (e12.trans e13)))))))))))))), by omega, by omega, fun vi T14 e14 hi => ?_⟩
            have gA := (hA.ext (e1.trans (e2.trans (e3.trans (e4.trans (e5.trans (e6.trans (e7.trans (e8.trans (e9.trans (e10.trans (e11.trans (e12.trans (e13.trans e14)))))))))))))).get
            have gB := (hB.ext (e1.trans (e2.trans (e3.trans (e4.trans (e5.trans (e6.trans (e7.trans (e8.trans (e9.trans (e10.trans (e11.trans (e12.trans (e13.trans e14)))))))))))))).get
            have gqa_ := (hqa_.ext (e3.trans (e4.trans (e5.trans (e6.trans (e7.trans (e8.trans (e9.trans (e10.trans (e11.trans (e12.trans (e13.trans e14)))))))))))).get
            have gra_ := (hra_.ext (e3.trans (e4.trans (e5.trans (e6.trans (e7.trans (e8.trans (e9.trans (e10.trans (e11.trans (e12.trans (e13.trans e14)))))))))))).get
            have gqb_ := (hqb_.ext (e5.trans (e6.trans (e7.trans (e8.trans (e9.trans (e10.trans (e11.trans (e12.trans (e13.trans e14)))))))))).get
            have grb_ := (hrb_.ext (e5.trans (e6.trans (e7.trans (e8.trans (e9.trans (e10.trans (e11.trans (e12.trans (e13.trans e14)))))))))).get
            have gqc_ := (hqc_.ext (e7.trans (e8.trans (e9.trans (e10.trans (e11.trans (e12.trans (e13.trans e14)))))))).get
            have grc_ := (hrc_.ext (e7.trans (e8.trans (e9.trans (e10.trans (e11.trans (e12.trans (e13.trans e14)))))))).get
            have gqd_ := (hqd_.ext (e9.trans (e10.trans (e11.trans (e12.trans (e13.trans e14)))))).get
            have grd_ := (hrd_.ext (e9.trans (e10.trans (e11.trans (e12.trans (e13.trans e14)))))).get
            simp (disch := first | assumption | omega | (simp only [lens]; omega)) only [eqs, ↓gvd_succ, ↓gvd_zero, ↓and_of, im_of, im_of trivial, vals, lsts, tys, hP, hst, initS, Nat.reduceBEq, Nat.reduceAdd, Nat.reduceMul, Nat.reduceSub, Nat.reduceDiv, Nat.reduceMod, Nat.reducePow, Nat.reduceLT, Nat.reduceLeDiff, Nat.reduceEqDiff, Int.reduceAdd, Int.reduceSub, Int.reduceNeg, Int.reduceMul, Int.reduceToNat, Int.reducePow, Int.reduceLE, Int.reduceLT, Int.reduceEq, Int.reduceNe, reduceIte, reduceCtorEq, ne_eq, not_true_eq_false, not_false_eq_true, true_and, and_true, and_self, true_implies, imp_self, implies_true, decide_true, decide_false, Bool.not_true, Bool.not_false, Bool.and_true, Bool.and_false, Bool.true_and, Bool.false_and, Bool.and_self, decide_eq_true_eq, eq_self, gA, gB, gqa_, gra_, gqb_, grb_, gqc_, grc_, gqd_, grd_]
            refine E_call (hP ▸ z_same) ⟨_, _, _, _, _, rfl, (hg.ext e14), hi, by omega, fun T15 e15 => ?_⟩
            have gA := (hA.ext (e1.trans (e2.trans (e3.trans (e4.trans (e5.trans (e6.trans (e7.trans (e8.trans (e9.trans (e10.trans (e11.trans (e12.trans (e13.trans (e14.trans e15))))))))))))))).get
            have gB := (hB.ext (e1.trans (e2.trans (e3.trans (e4.trans (e5.trans (e6.trans (e7.trans (e8.trans (e9.trans (e10.trans (e11.trans (e12.trans (e13.trans (e14.trans e15))))))))))))))).get
            have gqa_ := (hqa_.ext (e3.trans (e4.trans (e5.trans (e6.trans (e7.trans (e8.trans (e9.trans (e10.trans (e11.trans (e12.trans (e13.trans (e14.trans e15))))))))))))).get
            have gra_ := (hra_.ext (e3.trans (e4.trans (e5.trans (e6.trans (e7.trans (e8.trans (e9.trans (e10.trans (e11.trans (e12.trans (e13.trans (e14.trans e15))))))))))))).get
            have gqb_ := (hqb_.ext (e5.trans (e6.trans (e7.trans (e8.trans (e9.trans (e10.trans (e11.trans (e12.trans (e13.trans (e14.trans e15))))))))))).get
            have grb_ := (hrb_.ext (e5.trans (e6.trans (e7.trans (e8.trans (e9.trans (e10.trans (e11.trans (e12.trans (e13.trans (e14.trans e15))))))))))).get
            have gqc_ := (hqc_.ext (e7.trans (e8.trans (e9.trans (e10.trans (e11.trans (e12.trans (e13.trans (e14.trans e15))))))))).get
            have grc_ := (hrc_.ext (e7.trans (e8.trans (e9.trans (e10.trans (e11.trans (e12.trans (e13.trans (e14.trans e15))))))))).get
            have gqd_ := (hqd_.ext (e9.trans (e10.trans (e11.trans (e12.trans (e13.trans (e14.trans e15))))))).get
            have grd_ := (hrd_.ext (e9.trans (e10.trans (e11.trans (e12.trans (e13.trans (e14.trans e15))))))).get
            simp (disch := first | assumption | omega | (simp only [lens]; omega)) only [eqs, ↓gvd_succ, ↓gvd_zero, ↓and_of, im_of, im_of trivial, vals, lsts, tys, hP, hst, initS, Nat.reduceBEq, Nat.reduceAdd, Nat.reduceMul, Nat.reduceSub, Nat.reduceDiv, Nat.reduceMod, Nat.reducePow, Nat.reduceLT, Nat.reduceLeDiff, Nat.reduceEqDiff, Int.reduceAdd, Int.reduceSub, Int.reduceNeg, Int.reduceMul, Int.reduceToNat, Int.reducePow, Int.reduceLE, Int.reduceLT, Int.reduceEq, Int.reduceNe, reduceIte, reduceCtorEq, ne_eq, not_true_eq_false, not_false_eq_true, true_and, and_true, and_self, true_implies, imp_self, implies_true, decide_true, decide_false, Bool.not_true, Bool.not_false, Bool.and_true, Bool.and_false, Bool.true_and, Bool.false_and, Bool.and_self, decide_eq_true_eq, eq_self, gA, gB, gqa_, gra_, gqb_, grb_, gqc_, grc_, gqd_, grd_, h4]
            refine E_call (hP ▸ s_klives) ⟨rfl, fun T16 e16 => ?_⟩
            simp (disch := first | assumption | omega | (simp only [lens]; omega)) only [eqs, ↓gvd_succ, ↓gvd_zero, ↓and_of, im_of, im_of trivial, vals, lsts, tys, hP, hst, initS, Nat.reduceBEq, Nat.reduceAdd, Nat.reduceMul, Nat.reduceSub, Nat.reduceDiv, Nat.reduceMod, Nat.reducePow, Nat.reduceLT, Nat.reduceLeDiff, Nat.reduceEqDiff, Int.reduceAdd, Int.reduceSub, Int.reduceNeg, Int.reduceMul, Int.reduceToNat, Int.reducePow, Int.reduceLE, Int.reduceLT, Int.reduceEq, Int.reduceNe, reduceIte, reduceCtorEq, ne_eq, not_true_eq_false, not_false_eq_true, true_and, and_true, and_self, true_implies, imp_self, implies_true, decide_true, decide_false, Bool.not_true, Bool.not_false, Bool.and_true, Bool.and_false, Bool.true_and, Bool.false_and, Bool.and_self, decide_eq_true_eq, eq_self]
            exact hK _ (e0.trans (e1.trans (e2.trans (e3.trans (e4.trans (e5.trans (e6.trans (e7.trans (e8.trans (e9.trans (e10.trans (e11.trans (e12.trans (e13.trans (e14.trans (e15.trans e16))))))))))))))))
          · have h4 := h
            have gA := (hA.ext (e1.trans (e2.trans (e3.trans (e4.trans (e5.trans (e6.trans (e7.trans (e8.trans (e9.trans (e10.trans (e11.trans e12)))))))))))).get
            have gB := (hB.ext (e1.trans (e2.trans (e3.trans (e4.trans (e5.trans (e6.trans (e7.trans (e8.trans (e9.trans (e10.trans (e11.trans e12)))))))))))).get
            have gqa_ := (hqa_.ext (e3.trans (e4.trans (e5.trans (e6.trans (e7.trans (e8.trans (e9.trans (e10.trans (e11.trans e12)))))))))).get
            have gra_ := (hra_.ext (e3.trans (e4.trans (e5.trans (e6.trans (e7.trans (e8.trans (e9.trans (e10.trans (e11.trans e12)))))))))).get
            have gqb_ := (hqb_.ext (e5.trans (e6.trans (e7.trans (e8.trans (e9.trans (e10.trans (e11.trans e12)))))))).get
            have grb_ := (hrb_.ext (e5.trans (e6.trans (e7.trans (e8.trans (e9.trans (e10.trans (e11.trans e12)))))))).get
            have gqc_ := (hqc_.ext (e7.trans (e8.trans (e9.trans (e10.trans (e11.trans e12)))))).get
            have grc_ := (hrc_.ext (e7.trans (e8.trans (e9.trans (e10.trans (e11.trans e12)))))).get
            have gqd_ := (hqd_.ext (e9.trans (e10.trans (e11.trans e12)))).get
            have grd_ := (hrd_.ext (e9.trans (e10.trans (e11.trans e12)))).get
            simp (disch := first | assumption | omega | (simp only [lens]; omega)) only [eqs, ↓gvd_succ, ↓gvd_zero, ↓and_of, im_of, im_of trivial, vals, lsts, tys, hP, hst, initS, Nat.reduceBEq, Nat.reduceAdd, Nat.reduceMul, Nat.reduceSub, Nat.reduceDiv, Nat.reduceMod, Nat.reducePow, Nat.reduceLT, Nat.reduceLeDiff, Nat.reduceEqDiff, Int.reduceAdd, Int.reduceSub, Int.reduceNeg, Int.reduceMul, Int.reduceToNat, Int.reducePow, Int.reduceLE, Int.reduceLT, Int.reduceEq, Int.reduceNe, reduceIte, reduceCtorEq, ne_eq, not_true_eq_false, not_false_eq_true, true_and, and_true, and_self, true_implies, imp_self, implies_true, decide_true, decide_false, Bool.not_true, Bool.not_false, Bool.and_true, Bool.and_false, Bool.true_and, Bool.false_and, Bool.and_self, decide_eq_true_eq, eq_self, gA, gB, gqa_, gra_, gqb_, grb_, gqc_, grc_, gqd_, grd_, h4]
            refine E_call (hP ▸ s_klives) ⟨rfl, fun T13 e13 => ?_⟩
            simp (disch := first | assumption | omega | (simp only [lens]; omega)) only [eqs, ↓gvd_succ, ↓gvd_zero, ↓and_of, im_of, im_of trivial, vals, lsts, tys, hP, hst, initS, Nat.reduceBEq, Nat.reduceAdd, Nat.reduceMul, Nat.reduceSub, Nat.reduceDiv, Nat.reduceMod, Nat.reducePow, Nat.reduceLT, Nat.reduceLeDiff, Nat.reduceEqDiff, Int.reduceAdd, Int.reduceSub, Int.reduceNeg, Int.reduceMul, Int.reduceToNat, Int.reducePow, Int.reduceLE, Int.reduceLT, Int.reduceEq, Int.reduceNe, reduceIte, reduceCtorEq, ne_eq, not_true_eq_false, not_false_eq_true, true_and, and_true, and_self, true_implies, imp_self, implies_true, decide_true, decide_false, Bool.not_true, Bool.not_false, Bool.and_true, Bool.and_false, Bool.true_and, Bool.false_and, Bool.and_self, decide_eq_true_eq, eq_self]
            exact hK _ (e0.trans (e1.trans (e2.trans (e3.trans (e4.trans (e5.trans (e6.trans (e7.trans (e8.trans (e9.trans (e10.trans (e11.trans (e12.trans e13)))))))))))))
    · simp (disch := first | assumption | omega | (simp only [lens]; omega)) only [eqs, ↓gvd_succ, ↓gvd_zero, ↓and_of, im_of, im_of trivial, vals, lsts, tys, hP, hst, initS, Nat.reduceBEq, Nat.reduceAdd, Nat.reduceMul, Nat.reduceSub, Nat.reduceDiv, Nat.reduceMod, Nat.reducePow, Nat.reduceLT, Nat.reduceLeDiff, Nat.reduceEqDiff, Int.reduceAdd, Int.reduceSub, Int.reduceNeg, Int.reduceMul, Int.reduceToNat, Int.reducePow, Int.reduceLE, Int.reduceLT, Int.reduceEq, Int.reduceNe, reduceIte, reduceCtorEq, ne_eq, not_true_eq_false, not_false_eq_true, true_and, and_true, and_self, true_implies, imp_self, implies_true, decide_true, decide_false, Bool.not_true, Bool.not_false, Bool.and_true, Bool.and_false, Bool.true_and, Bool.false_and, Bool.and_self, decide_eq_true_eq, eq_self, h, hl, hm, h2]
      refine E_call (hP ▸ s_klives) ⟨rfl, fun T1 hT1 => ?_⟩
      simp (disch := first | assumption | omega | (simp only [lens]; omega)) only [eqs, ↓gvd_succ, ↓gvd_zero, ↓and_of, im_of, im_of trivial, vals, lsts, tys, hP, hst, initS, Nat.reduceBEq, Nat.reduceAdd, Nat.reduceMul, Nat.reduceSub, Nat.reduceDiv, Nat.reduceMod, Nat.reducePow, Nat.reduceLT, Nat.reduceLeDiff, Nat.reduceEqDiff, Int.reduceAdd, Int.reduceSub, Int.reduceNeg, Int.reduceMul, Int.reduceToNat, Int.reducePow, Int.reduceLE, Int.reduceLT, Int.reduceEq, Int.reduceNe, reduceIte, reduceCtorEq, ne_eq, not_true_eq_false, not_false_eq_true, true_and, and_true, and_self, true_implies, imp_self, implies_true, decide_true, decide_false, Bool.not_true, Bool.not_false, Bool.and_true, Bool.and_false, Bool.true_and, Bool.false_and, Bool.and_self, decide_eq_true_eq, eq_self]
      exact hK _ (e0.trans hT1)
  · simp (disch := first | assumption | omega | (simp only [lens]; omega)) only [eqs, ↓gvd_succ, ↓gvd_zero, ↓and_of, im_of, im_of trivial, vals, lsts, tys, hP, hst, initS, Nat.reduceBEq, Nat.reduceAdd, Nat.reduceMul, Nat.reduceSub, Nat.reduceDiv, Nat.reduceMod, Nat.reducePow, Nat.reduceLT, Nat.reduceLeDiff, Nat.reduceEqDiff, Int.reduceAdd, Int.reduceSub, Int.reduceNeg, Int.reduceMul, Int.reduceToNat, Int.reducePow, Int.reduceLE, Int.reduceLT, Int.reduceEq, Int.reduceNe, reduceIte, reduceCtorEq, ne_eq, not_true_eq_false, not_false_eq_true, true_and, and_true, and_self, true_implies, imp_self, implies_true, decide_true, decide_false, Bool.not_true, Bool.not_false, Bool.and_true, Bool.and_false, Bool.true_and, Bool.false_and, Bool.and_self, decide_eq_true_eq, eq_self, h]
    refine E_call (hP ▸ s_klives) ⟨rfl, fun T1 hT1 => ?_⟩
    simp (disch := first | assumption | omega | (simp only [lens]; omega)) only [eqs, ↓gvd_succ, ↓gvd_zero, ↓and_of, im_of, im_of trivial, vals, lsts, tys, hP, hst, initS, Nat.reduceBEq, Nat.reduceAdd, Nat.reduceMul, Nat.reduceSub, Nat.reduceDiv, Nat.reduceMod, Nat.reducePow, Nat.reduceLT, Nat.reduceLeDiff, Nat.reduceEqDiff, Int.reduceAdd, Int.reduceSub, Int.reduceNeg, Int.reduceMul, Int.reduceToNat, Int.reducePow, Int.reduceLE, Int.reduceLT, Int.reduceEq, Int.reduceNe, reduceIte, reduceCtorEq, ne_eq, not_true_eq_false, not_false_eq_true, true_and, and_true, and_self, true_implies, imp_self, implies_true, decide_true, decide_false, Bool.not_true, Bool.not_false, Bool.and_true, Bool.and_false, Bool.true_and, Bool.false_and, Bool.and_self, decide_eq_true_eq, eq_self]
    exact hK _ (e0.trans hT1)
end Go.Proofs.Pv
