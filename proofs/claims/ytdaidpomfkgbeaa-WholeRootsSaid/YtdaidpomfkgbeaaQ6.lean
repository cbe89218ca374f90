/- The document's whole numbers, sixth part: out of a text. -/
import Derived.Test.YtdaidpomfkgbeaaQ2
import Derived.Test.YtdaidpomfkgbeaaW17
set_option linter.unusedSimpArgs false
set_option linter.unusedVariables false
namespace Go.Proofs.Pv
open Go Go.RowKit Go.Proofs
set_option maxRecDepth 20000

set_option maxHeartbeats 4000000 in
theorem s_qParse : PSpec Try.prog 77 RwParse := by
  refine fspec_of (fn := Try.f77) 1 [.cell 2 52, .tmp 3] (by kernel_rfl) rfl rfl (by kernel_rfl) mixed (by rintro _ _ _ ⟨s, rfl, _⟩; rfl) ?_
  rintro X _ st K hP hst ⟨s, rfl, hs, hK, hK0⟩
  have hX : X.st1.length ≤ st.length := by rw [hst]; omega
  refine vc_V ?_
  rcases hsb : sb s with _ | ⟨c, r⟩
  · simp (disch := first | assumption | omega | (simp only [lens]; omega)) only [eqs, ↓gvd_succ, ↓gvd_zero, ↓and_of, im_of, im_of trivial, vals, lsts, tys, hP, hst, initS, Nat.reduceBEq, Nat.reduceAdd, Nat.reduceMul, Nat.reduceSub, Nat.reduceDiv, Nat.reduceMod, Nat.reducePow, Nat.reduceLT, Nat.reduceLeDiff, Nat.reduceEqDiff, Int.reduceAdd, Int.reduceSub, Int.reduceNeg, Int.reduceMul, Int.reduceToNat, Int.reducePow, Int.reduceLE, Int.reduceLT, Int.reduceEq, Int.reduceNe, reduceIte, reduceCtorEq, ne_eq, not_true_eq_false, not_false_eq_true, imp_self, implies_true, bls, eq_self, sb_nil, hsb]
    refine E_call (hP ▸ s_rParse) ⟨_, 10, rfl, fun x T hT hx => ?_⟩
    have hl : parseI (sb s) = (parse 10 (sb s)).map (fun n : Nat => (n : Int)) := by rw [hsb]; rfl
    have hC : At T st.length [.val (.bool false), .val (.slice none 0 0)] := At.ext ⟨by rw [get_app0]; rfl⟩ hT
    have gC := hC.get
    have gC2 := hC.lt
    have e0 : Ext st T := (Ext.add _).trans hT
    have hxl := hx.leaf
    rcases hp : parse 10 (sb s) with _ | n
    · rw [hp] at hx hl
      simp only [Option.isSome_none]
      simp (disch := first | assumption | omega | (simp only [lens]; omega)) only [eqs, ↓gvd_succ, ↓gvd_zero, ↓and_of, im_of, im_of trivial, vals, lsts, tys, hP, hst, initS, Nat.reduceBEq, Nat.reduceAdd, Nat.reduceMul, Nat.reduceSub, Nat.reduceDiv, Nat.reduceMod, Nat.reducePow, Nat.reduceLT, Nat.reduceLeDiff, Nat.reduceEqDiff, Int.reduceAdd, Int.reduceSub, Int.reduceNeg, Int.reduceMul, Int.reduceToNat, Int.reducePow, Int.reduceLE, Int.reduceLT, Int.reduceEq, Int.reduceNe, reduceIte, reduceCtorEq, ne_eq, not_true_eq_false, not_false_eq_true, imp_self, implies_true, bls, eq_self, gC, hX]
      exact hK0 hl _ (e0.set (Nat.le_refl _) _)
    · rw [hp] at hx hl
      simp only [Option.isSome_some, Option.getD_some] at hx ⊢
      have hln := parse_len hp
      simp (disch := first | assumption | omega | (simp only [lens]; omega)) only [eqs, ↓gvd_succ, ↓gvd_zero, ↓and_of, im_of, im_of trivial, vals, lsts, tys, hP, hst, initS, Nat.reduceBEq, Nat.reduceAdd, Nat.reduceMul, Nat.reduceSub, Nat.reduceDiv, Nat.reduceMod, Nat.reducePow, Nat.reduceLT, Nat.reduceLeDiff, Nat.reduceEqDiff, Int.reduceAdd, Int.reduceSub, Int.reduceNeg, Int.reduceMul, Int.reduceToNat, Int.reducePow, Int.reduceLE, Int.reduceLT, Int.reduceEq, Int.reduceNe, reduceIte, reduceCtorEq, ne_eq, not_true_eq_false, not_false_eq_true, imp_self, implies_true, bls, eq_self, hxl]
      refine E_call (hP ▸ s_qNorm) ⟨_, false, _, rfl, ⟨x, rfl, hx⟩, by omega, fun z T2 hz => ?_⟩
      rw [val_limbs] at hz
      have hz0 := hz
      obtain ⟨z', rfl, hz'⟩ := hz
      have hzl := hz'.nm.leaf
      have gD := (hC.ext hz'.ex).get
      have gE := (hC.ext hz'.ex).lt
      simp (disch := first | assumption | omega | (simp only [lens]; omega)) only [eqs, ↓gvd_succ, ↓gvd_zero, ↓and_of, im_of, im_of trivial, vals, lsts, tys, hP, hst, initS, Nat.reduceBEq, Nat.reduceAdd, Nat.reduceMul, Nat.reduceSub, Nat.reduceDiv, Nat.reduceMod, Nat.reducePow, Nat.reduceLT, Nat.reduceLeDiff, Nat.reduceEqDiff, Int.reduceAdd, Int.reduceSub, Int.reduceNeg, Int.reduceMul, Int.reduceToNat, Int.reducePow, Int.reduceLE, Int.reduceLT, Int.reduceEq, Int.reduceNe, reduceIte, reduceCtorEq, ne_eq, not_true_eq_false, not_false_eq_true, imp_self, implies_true, bls, eq_self, hzl, gD, gE, hX]
      exact hK _ _ _ hl (hz0.end1 e0 (Nat.le_refl _) gC2)
  · have hne : ¬sb s = [] := by rw [hsb]; simp
    have hg : (sb s).getD 0 0 = c := by rw [hsb]; rfl
    have hlen : 0 < (sb s).length := by rw [hsb]; simp
    have hd : sb (bstr r) = r := sb_bstr fun n hn => sb_lt' s n (by rw [hsb]; exact List.mem_cons_of_mem _ hn)
    have h3 : (1 : Int) ≤ (s.size : Int) := by rw [size_sb]; omega
    have e1 : s.extract 1 s.size = bstr r := sb_inj (by rw [sb_extract, hd, size_sb, List.take_length, hsb]; rfl)
    by_cases h45 : c = 45
    · subst h45
      simp (disch := first | assumption | omega | (simp only [lens]; omega)) only [eqs, ↓gvd_succ, ↓gvd_zero, ↓and_of, im_of, im_of trivial, vals, lsts, tys, hP, hst, initS, Nat.reduceBEq, Nat.reduceAdd, Nat.reduceMul, Nat.reduceSub, Nat.reduceDiv, Nat.reduceMod, Nat.reducePow, Nat.reduceLT, Nat.reduceLeDiff, Nat.reduceEqDiff, Int.reduceAdd, Int.reduceSub, Int.reduceNeg, Int.reduceMul, Int.reduceToNat, Int.reducePow, Int.reduceLE, Int.reduceLT, Int.reduceEq, Int.reduceNe, reduceIte, reduceCtorEq, ne_eq, not_true_eq_false, not_false_eq_true, imp_self, implies_true, bls, eq_self, sb_nil, hne, hg, hlen, h3, e1]
      refine E_call (hP ▸ s_rParse) ⟨_, 10, rfl, fun x T hT hx => ?_⟩
      rw [hd] at hx ⊢
      have hl : parseI (sb s) = (parse 10 r).map (fun n : Nat => -(n : Int)) := by rw [hsb]; unfold parseI; rw [if_pos (by rfl)]; rfl
      have hC : At T st.length [.val (.bool false), .val (.slice none 0 0)] := At.ext ⟨by rw [get_app0]; rfl⟩ hT
      have gC := hC.get
      have gC2 := hC.lt
      have e0 : Ext st T := (Ext.add _).trans hT
      have hxl := hx.leaf
      rcases hp : parse 10 r with _ | n
      · rw [hp] at hx hl
        simp only [Option.isSome_none]
        simp (disch := first | assumption | omega | (simp only [lens]; omega)) only [eqs, ↓gvd_succ, ↓gvd_zero, ↓and_of, im_of, im_of trivial, vals, lsts, tys, hP, hst, initS, Nat.reduceBEq, Nat.reduceAdd, Nat.reduceMul, Nat.reduceSub, Nat.reduceDiv, Nat.reduceMod, Nat.reducePow, Nat.reduceLT, Nat.reduceLeDiff, Nat.reduceEqDiff, Int.reduceAdd, Int.reduceSub, Int.reduceNeg, Int.reduceMul, Int.reduceToNat, Int.reducePow, Int.reduceLE, Int.reduceLT, Int.reduceEq, Int.reduceNe, reduceIte, reduceCtorEq, ne_eq, not_true_eq_false, not_false_eq_true, imp_self, implies_true, bls, eq_self, gC, hX]
        exact hK0 hl _ (e0.set (Nat.le_refl _) _)
      · rw [hp] at hx hl
        simp only [Option.isSome_some, Option.getD_some] at hx ⊢
        have hln := parse_len hp
        simp (disch := first | assumption | omega | (simp only [lens]; omega)) only [eqs, ↓gvd_succ, ↓gvd_zero, ↓and_of, im_of, im_of trivial, vals, lsts, tys, hP, hst, initS, Nat.reduceBEq, Nat.reduceAdd, Nat.reduceMul, Nat.reduceSub, Nat.reduceDiv, Nat.reduceMod, Nat.reducePow, Nat.reduceLT, Nat.reduceLeDiff, Nat.reduceEqDiff, Int.reduceAdd, Int.reduceSub, Int.reduceNeg, Int.reduceMul, Int.reduceToNat, Int.reducePow, Int.reduceLE, Int.reduceLT, Int.reduceEq, Int.reduceNe, reduceIte, reduceCtorEq, ne_eq, not_true_eq_false, not_false_eq_true, imp_self, implies_true, bls, eq_self, hxl]
        refine E_call (hP ▸ s_qNorm) ⟨_, true, _, rfl, ⟨x, rfl, hx⟩, by omega, fun z T2 hz => ?_⟩
        rw [val_limbs] at hz
        have hz0 := hz
        obtain ⟨z', rfl, hz'⟩ := hz
        have hzl := hz'.nm.leaf
        have gD := (hC.ext hz'.ex).get
        have gE := (hC.ext hz'.ex).lt
        simp (disch := first | assumption | omega | (simp only [lens]; omega)) only [eqs, ↓gvd_succ, ↓gvd_zero, ↓and_of, im_of, im_of trivial, vals, lsts, tys, hP, hst, initS, Nat.reduceBEq, Nat.reduceAdd, Nat.reduceMul, Nat.reduceSub, Nat.reduceDiv, Nat.reduceMod, Nat.reducePow, Nat.reduceLT, Nat.reduceLeDiff, Nat.reduceEqDiff, Int.reduceAdd, Int.reduceSub, Int.reduceNeg, Int.reduceMul, Int.reduceToNat, Int.reducePow, Int.reduceLE, Int.reduceLT, Int.reduceEq, Int.reduceNe, reduceIte, reduceCtorEq, ne_eq, not_true_eq_false, not_false_eq_true, imp_self, implies_true, bls, eq_self, hzl, gD, gE, hX]
        exact hK _ _ _ hl (hz0.end1 e0 (Nat.le_refl _) gC2)
    · have n45 : ¬(c : Int) = 45 := by omega
      by_cases h43 : c = 43
      · subst h43
        simp (disch := first | assumption | omega | (simp only [lens]; omega)) only [eqs, ↓gvd_succ, ↓gvd_zero, ↓and_of, im_of, im_of trivial, vals, lsts, tys, hP, hst, initS, Nat.reduceBEq, Nat.reduceAdd, Nat.reduceMul, Nat.reduceSub, Nat.reduceDiv, Nat.reduceMod, Nat.reducePow, Nat.reduceLT, Nat.reduceLeDiff, Nat.reduceEqDiff, Int.reduceAdd, Int.reduceSub, Int.reduceNeg, Int.reduceMul, Int.reduceToNat, Int.reducePow, Int.reduceLE, Int.reduceLT, Int.reduceEq, Int.reduceNe, reduceIte, reduceCtorEq, ne_eq, not_true_eq_false, not_false_eq_true, imp_self, implies_true, bls, eq_self, sb_nil, hne, hg, hlen, h3, e1]
        refine E_call (hP ▸ s_rParse) ⟨_, 10, rfl, fun x T hT hx => ?_⟩
        rw [hd] at hx ⊢
        have hl : parseI (sb s) = (parse 10 r).map (fun n : Nat => (n : Int)) := by rw [hsb]; unfold parseI; rw [if_neg (by simp), if_pos (by rfl)]; rfl
        have hC : At T st.length [.val (.bool false), .val (.slice none 0 0)] := At.ext ⟨by rw [get_app0]; rfl⟩ hT
        have gC := hC.get
        have gC2 := hC.lt
        have e0 : Ext st T := (Ext.add _).trans hT
        have hxl := hx.leaf
        rcases hp : parse 10 r with _ | n
        · rw [hp] at hx hl
          simp only [Option.isSome_none]
          simp (disch := first | assumption | omega | (simp only [lens]; omega)) only [eqs, ↓gvd_succ, ↓gvd_zero, ↓and_of, im_of, im_of trivial, vals, lsts, tys, hP, hst, initS, Nat.reduceBEq, Nat.reduceAdd, Nat.reduceMul, Nat.reduceSub, Nat.reduceDiv, Nat.reduceMod, Nat.reducePow, Nat.reduceLT, Nat.reduceLeDiff, Nat.reduceEqDiff, Int.reduceAdd, Int.reduceSub, Int.reduceNeg, Int.reduceMul, Int.reduceToNat, Int.reducePow, Int.reduceLE, Int.reduceLT, Int.reduceEq, Int.reduceNe, reduceIte, reduceCtorEq, ne_eq, not_true_eq_false, not_false_eq_true, imp_self, implies_true, bls, eq_self, gC, hX]
          exact hK0 hl _ (e0.set (Nat.le_refl _) _)
        · rw [hp] at hx hl
          simp only [Option.isSome_some, Option.getD_some] at hx ⊢
          have hln := parse_len hp
          simp (disch := first | assumption | omega | (simp only [lens]; omega)) only [eqs, ↓gvd_succ, ↓gvd_zero, ↓and_of, im_of, im_of trivial, vals, lsts, tys, hP, hst, initS, Nat.reduceBEq, Nat.reduceAdd, Nat.reduceMul, Nat.reduceSub, Nat.reduceDiv, Nat.reduceMod, Nat.reducePow, Nat.reduceLT, Nat.reduceLeDiff, Nat.reduceEqDiff, Int.reduceAdd, Int.reduceSub, Int.reduceNeg, Int.reduceMul, Int.reduceToNat, Int.reducePow, Int.reduceLE, Int.reduceLT, Int.reduceEq, Int.reduceNe, reduceIte, reduceCtorEq, ne_eq, not_true_eq_false, not_false_eq_true, imp_self, implies_true, bls, eq_self, hxl]
          refine E_call (hP ▸ s_qNorm) ⟨_, false, _, rfl, ⟨x, rfl, hx⟩, by omega, fun z T2 hz => ?_⟩
          rw [val_limbs] at hz
          have hz0 := hz
          obtain ⟨z', rfl, hz'⟩ := hz
          have hzl := hz'.nm.leaf
          have gD := (hC.ext hz'.ex).get
          have gE := (hC.ext hz'.ex).lt
          simp (disch := first | assumption | omega | (simp only [lens]; omega)) only [eqs, ↓gvd_succ, ↓gvd_zero, ↓and_of, im_of, im_of trivial, vals, lsts, tys, hP, hst, initS, Nat.reduceBEq, Nat.reduceAdd, Nat.reduceMul, Nat.reduceSub, Nat.reduceDiv, Nat.reduceMod, Nat.reducePow, Nat.reduceLT, Nat.reduceLeDiff, Nat.reduceEqDiff, Int.reduceAdd, Int.reduceSub, Int.reduceNeg, Int.reduceMul, Int.reduceToNat, Int.reducePow, Int.reduceLE, Int.reduceLT, Int.reduceEq, Int.reduceNe, reduceIte, reduceCtorEq, ne_eq, not_true_eq_false, not_false_eq_true, imp_self, implies_true, bls, eq_self, hzl, gD, gE, hX]
          exact hK _ _ _ hl (hz0.end1 e0 (Nat.le_refl _) gC2)
      · have n43 : ¬(c : Int) = 43 := by omega
        simp (disch := first | assumption | omega | (simp only [lens]; omega)) only [eqs, ↓gvd_succ, ↓gvd_zero, ↓and_of, im_of, im_of trivial, vals, lsts, tys, hP, hst, initS, Nat.reduceBEq, Nat.reduceAdd, Nat.reduceMul, Nat.reduceSub, Nat.reduceDiv, Nat.reduceMod, Nat.reducePow, Nat.reduceLT, Nat.reduceLeDiff, Nat.reduceEqDiff, Int.reduceAdd, Int.reduceSub, Int.reduceNeg, Int.reduceMul, Int.reduceToNat, Int.reducePow, Int.reduceLE, Int.reduceLT, Int.reduceEq, Int.reduceNe, reduceIte, reduceCtorEq, ne_eq, not_true_eq_false, not_false_eq_true, imp_self, implies_true, bls, eq_self, sb_nil, hne, hg, hlen, n45, n43]
        refine E_call (hP ▸ s_rParse) ⟨_, 10, rfl, fun x T hT hx => ?_⟩
        have hl : parseI (sb s) = (parse 10 (sb s)).map (fun n : Nat => (n : Int)) := by rw [hsb]; unfold parseI; rw [if_neg (by simpa using h45), if_neg (by simpa using h43)]
        have hC : At T st.length [.val (.bool false), .val (.slice none 0 0)] := At.ext ⟨by rw [get_app0]; rfl⟩ hT
        have gC := hC.get
        have gC2 := hC.lt
        have e0 : Ext st T := (Ext.add _).trans hT
        have hxl := hx.leaf
        rcases hp : parse 10 (sb s) with _ | n
        · rw [hp] at hx hl
          simp only [Option.isSome_none]
          simp (disch := first | assumption | omega | (simp only [lens]; omega)) only [eqs, ↓gvd_succ, ↓gvd_zero, ↓and_of, im_of, im_of trivial, vals, lsts, tys, hP, hst, initS, Nat.reduceBEq, Nat.reduceAdd, Nat.reduceMul, Nat.reduceSub, Nat.reduceDiv, Nat.reduceMod, Nat.reducePow, Nat.reduceLT, Nat.reduceLeDiff, Nat.reduceEqDiff, Int.reduceAdd, Int.reduceSub, Int.reduceNeg, Int.reduceMul, Int.reduceToNat, Int.reducePow, Int.reduceLE, Int.reduceLT, Int.reduceEq, Int.reduceNe, reduceIte, reduceCtorEq, ne_eq, not_true_eq_false, not_false_eq_true, imp_self, implies_true, bls, eq_self, gC, hX]
          exact hK0 hl _ (e0.set (Nat.le_refl _) _)
        · rw [hp] at hx hl
          simp only [Option.isSome_some, Option.getD_some] at hx ⊢
          have hln := parse_len hp
          simp (disch := first | assumption | omega | (simp only [lens]; omega)) only [eqs, ↓gvd_succ, ↓gvd_zero, ↓and_of, im_of, im_of trivial, vals, lsts, tys, hP, hst, initS, Nat.reduceBEq, Nat.reduceAdd, Nat.reduceMul, Nat.reduceSub, Nat.reduceDiv, Nat.reduceMod, Nat.reducePow, Nat.reduceLT, Nat.reduceLeDiff, Nat.reduceEqDiff, Int.reduceAdd, Int.reduceSub, Int.reduceNeg, Int.reduceMul, Int.reduceToNat, Int.reducePow, Int.reduceLE, Int.reduceLT, Int.reduceEq, Int.reduceNe, reduceIte, reduceCtorEq, ne_eq, not_true_eq_false, not_false_eq_true, imp_self, implies_true, bls, eq_self, hxl]
          refine E_call (hP ▸ s_qNorm) ⟨_, false, _, rfl, ⟨x, rfl, hx⟩, by omega, fun z T2 hz => ?_⟩
          rw [val_limbs] at hz
          have hz0 := hz
          obtain ⟨z', rfl, hz'⟩ := hz
          have hzl := hz'.nm.leaf
          have gD := (hC.ext hz'.ex).get
          have gE := (hC.ext hz'.ex).lt
          simp (disch := first | assumption | omega | (simp only [lens]; omega)) only [eqs, ↓gvd_succ, ↓gvd_zero, ↓and_of, im_of, im_of trivial, vals, lsts, tys, hP, hst, initS, Nat.reduceBEq, Nat.reduceAdd, Nat.reduceMul, Nat.reduceSub, Nat.reduceDiv, Nat.reduceMod, Nat.reducePow, Nat.reduceLT, Nat.reduceLeDiff, Nat.reduceEqDiff, Int.reduceAdd, Int.reduceSub, Int.reduceNeg, Int.reduceMul, Int.reduceToNat, Int.reducePow, Int.reduceLE, Int.reduceLT, Int.reduceEq, Int.reduceNe, reduceIte, reduceCtorEq, ne_eq, not_true_eq_false, not_false_eq_true, imp_self, implies_true, bls, eq_self, hzl, gD, gE, hX]
          exact hK _ _ _ hl (hz0.end1 e0 (Nat.le_refl _) gC2)
end Go.Proofs.Pv
