/- The laws of whole numbers, eighth part. -/
import Derived.Test.YtdaidpomfkgbeaaK2
import Derived.Test.YtdaidpomfkgbeaaQ7
import Derived.Test.YtdaidpomfkgbeaaQ6
import Derived.Test.YtdaidpomfkgbeaaQ5
set_option linter.unusedSimpArgs false
set_option linter.unusedVariables false
namespace Go.Proofs.Pv
open Go Go.RowKit Go.Proofs
set_option maxRecDepth 20000

theorem nat_sgn {g : Nat} : decide ((g : Int) < 0) = false := decide_eq_false (by omega)
theorem nz_zero {T : St} : NZ T (.agg [.val (.bool false), .val (.slice none 0 0)]) 0 0 := by
  have h0 : limbs (0 : Int).natAbs = [] := limbs_zero
  refine ⟨?_, by rw [h0]; simp⟩
  rw [h0]
  exact ⟨_, rfl, Nm.nil⟩
def RzRootN (xs : List AV) (st : St) (K : AV → St → Prop) : Prop := ∃ x z n, xs = [x] ∧ IsZ st x z n ∧ n ≤ 100 ∧ (z < 0 → ∀ S', Ext st S' → K (.tup [zeroI, zeroI, .val (.int .i64 2)]) S') ∧
  (0 ≤ z → ∀ u w S', Ext st S' → NZ S' u (isqrt z.natAbs : Nat) n → NZ S' w ((z.natAbs - isqrt z.natAbs * isqrt z.natAbs : Nat) : Int) n → K (.tup [u, w, .val (.int .i64 0)]) S')
theorem root_z {f : FuncId} (h : PSpec Try.prog f RwRoot) : PSpec Try.prog f RzRootN := h.imp2 fun xs st K ⟨x, z, n, e, hx, hn, hK0, hK⟩ => by
  have h1 := hx.len
  obtain ⟨s, l, hx, rfl, h3⟩ := hx
  rw [iv_natAbs] at h1 hK
  refine ⟨x, s, l, e, hx, by omega, hK0, fun h0 u w S' hu hw => ?_⟩
  have hr := isqrt_root (val l)
  have h5 : isqrt (val l) ≤ val l := by
    rcases Nat.eq_zero_or_pos (isqrt (val l)) with h | h
    · omega
    · exact Nat.le_trans (Nat.le_mul_of_pos_left _ h) hr.1
  exact hK h0 u w S' hu.ex (.mk hu (Nat.le_trans (limbs_len_mono h5) h1)) (.mk hw (Nat.le_trans (limbs_len_mono (Nat.sub_le _ _)) h1))
theorem z_Root : PSpec Try.prog 63 RzRootN := root_z s_wRoot
theorem z_qRoot : PSpec Try.prog 75 RzRootN := root_z s_qRoot
theorem parseI_len {l : List Nat} {z : Int} (h : parseI l = some z) : (limbs z.natAbs).length ≤ 1000 := by
  have go : ∀ (m : List Nat) (f : Nat → Int), (∀ n, (f n).natAbs = n) → (parse 10 m).map f = some z → (limbs z.natAbs).length ≤ 1000 := by
    intro m f hf hm
    cases hp : parse 10 m with
    | none => rw [hp] at hm; cases hm
    | some n => rw [hp] at hm; cases hm; rw [hf]; exact parse_len hp
  unfold parseI at h
  split at h
  · exact go _ (fun n : Nat => -(n : Int)) (fun n => by omega) h
  · split at h
    · exact go _ (fun n : Nat => (n : Int)) (fun n => by omega) h
    · exact go _ (fun n : Nat => (n : Int)) (fun n => by omega) h
def RzParseS (xs : List AV) (st : St) (K : AV → St → Prop) : Prop := ∃ (s : ByteArray) (p : Option Int), xs = [.val (.string s)] ∧ parseI (sb s) = p ∧
  (∀ z v st', p = some z → Ext st st' → NZ st' v z 1000 → K (.tup [v, .val (.bool true)]) st') ∧ (p = none → ∀ st', Ext st st' → K (.tup [zeroI, .val (.bool false)]) st')
theorem parse_s {f : FuncId} (h : PSpec Try.prog f RwParse) : PSpec Try.prog f RzParseS := h.imp2 fun xs st K ⟨s, p, e, hp, hK, hK0⟩ =>
  ⟨s, e, trivial, fun z v st' hz hv => by have h2 := parseI_len hz; rw [hp] at hz; exact hK z v st' hz hv.ex (.mk hv h2), fun hz => by rw [hp] at hz; exact hK0 hz⟩
theorem z_Parse : PSpec Try.prog 76 RzParseS := parse_s s_wParse
theorem z_qParse : PSpec Try.prog 77 RzParseS := parse_s s_qParse
def RzText (xs : List AV) (st : St) (K : AV → St → Prop) : Prop := ∃ x z n, xs = [x] ∧ IsZ st x z n ∧ n ≤ 1000 ∧ anyw st (.string (bstr (txtI z))) K
theorem text_z {f : FuncId} (h : PSpec Try.prog f RwText) : PSpec Try.prog f RzText := h.imp2 fun xs st K ⟨x, z, n, e, hx, hn, hK⟩ => by
  obtain ⟨s, l, hx, rfl, h3⟩ := hx
  exact ⟨x, s, l, e, hx, by omega, hK⟩
theorem z_Text : PSpec Try.prog 78 RzText := text_z s_wText
theorem z_qText : PSpec Try.prog 79 RzText := text_z s_qText
def RkWholeRoots (xs : List AV) (st : St) (K : AV → St → Prop) : Prop := ∃ x s l tx, xs = [x, .val (.string tx)] ∧ Wh st x s l ∧ True ∧ anyw st (.bool true) K
set_option maxHeartbeats 16000000 in
theorem s_WholeRoots : PSpec Try.prog 18 RkWholeRoots := by
  refine fspec_of (fn := Try.f18) 2 [.tmp 4] (by kernel_rfl) rfl rfl (by kernel_rfl) mixed (by rintro _ _ _ ⟨x, s, l, tx, rfl, _⟩; rfl) ?_
  rintro X _ st K hP hst ⟨x, s, l, tx, rfl, hx, htr, hK⟩
  have hx1 := hx
  obtain ⟨a, rfl, ha, hal⟩ := hx.iv
  refine vc_V ?_
  simp (disch := first | assumption | omega | (simp only [lens]; omega)) only [eqs, ↓gvd_succ, ↓gvd_zero, ↓and_of, im_of, im_of trivial, vals, lsts, tys, hP, hst, initS, Nat.reduceBEq, Nat.reduceAdd, Nat.reduceMul, Nat.reduceSub, Nat.reduceDiv, Nat.reduceMod, Nat.reducePow, Nat.reduceLT, Nat.reduceLeDiff, Nat.reduceEqDiff, Int.reduceAdd, Int.reduceSub, Int.reduceNeg, Int.reduceMul, Int.reduceToNat, Int.reducePow, Int.reduceLE, Int.reduceLT, Int.reduceEq, Int.reduceNe, reduceIte, reduceCtorEq, ne_eq, not_true_eq_false, not_false_eq_true, imp_self, implies_true, bls, eq_self, hal, zrow1i]
  refine E_call (hP ▸ s_ksmall1) ⟨_, s, a, l, rfl, by rw [get_app]; rfl, ha.app _, fun T0 hT0 => ?_⟩
  have e0 : Ext st T0 := (Ext.add _).trans hT0
  have hA : At T0 (st.length) [.val (.bool s), a] := At.ext ⟨by rw [get_app0]; rfl⟩ hT0
  have sA := (ha.ext e0).sl
  have gA := hA.get
  simp (disch := first | assumption | omega | (simp only [lens]; omega)) only [eqs, ↓gvd_succ, ↓gvd_zero, ↓and_of, im_of, im_of trivial, vals, lsts, tys, hP, hst, initS, Nat.reduceBEq, Nat.reduceAdd, Nat.reduceMul, Nat.reduceSub, Nat.reduceDiv, Nat.reduceMod, Nat.reducePow, Nat.reduceLT, Nat.reduceLeDiff, Nat.reduceEqDiff, Int.reduceAdd, Int.reduceSub, Int.reduceNeg, Int.reduceMul, Int.reduceToNat, Int.reducePow, Int.reduceLE, Int.reduceLT, Int.reduceEq, Int.reduceNe, reduceIte, reduceCtorEq, ne_eq, not_true_eq_false, not_false_eq_true, imp_self, implies_true, bls, eq_self]
  refine G_ndec (fun h => ?_) (fun h => ?_)
  · have h := Classical.not_not.1 h
    simp (disch := first | assumption | omega | (simp only [lens]; omega)) only [eqs, ↓gvd_succ, ↓gvd_zero, ↓and_of, im_of, im_of trivial, vals, lsts, tys, hP, hst, initS, Nat.reduceBEq, Nat.reduceAdd, Nat.reduceMul, Nat.reduceSub, Nat.reduceDiv, Nat.reduceMod, Nat.reducePow, Nat.reduceLT, Nat.reduceLeDiff, Nat.reduceEqDiff, Int.reduceAdd, Int.reduceSub, Int.reduceNeg, Int.reduceMul, Int.reduceToNat, Int.reducePow, Int.reduceLE, Int.reduceLT, Int.reduceEq, Int.reduceNe, reduceIte, reduceCtorEq, ne_eq, not_true_eq_false, not_false_eq_true, imp_self, implies_true, bls, eq_self, gA, sA, h]
    refine G_ndec (fun h2 => ?_) (fun h2 => ?_)
    · simp (disch := first | assumption | omega | (simp only [lens]; omega)) only [eqs, ↓gvd_succ, ↓gvd_zero, ↓and_of, im_of, im_of trivial, vals, lsts, tys, hP, hst, initS, Nat.reduceBEq, Nat.reduceAdd, Nat.reduceMul, Nat.reduceSub, Nat.reduceDiv, Nat.reduceMod, Nat.reducePow, Nat.reduceLT, Nat.reduceLeDiff, Nat.reduceEqDiff, Int.reduceAdd, Int.reduceSub, Int.reduceNeg, Int.reduceMul, Int.reduceToNat, Int.reducePow, Int.reduceLE, Int.reduceLT, Int.reduceEq, Int.reduceNe, reduceIte, reduceCtorEq, ne_eq, not_true_eq_false, not_false_eq_true, imp_self, implies_true, bls, eq_self, h, h2]
      have hX : IsZ st _ _ 24 := .mk hx1 h
      obtain ⟨Zx, hZx⟩ : ∃ Z, iv s (val l) = Z := ⟨_, rfl⟩
      rw [hZx] at hX
      refine G_dec (fun h3 => ?_) (fun h3 => ?_)
      · simp (disch := first | assumption | omega | (simp only [lens]; omega)) only [eqs, ↓gvd_succ, ↓gvd_zero, ↓and_of, im_of, im_of trivial, vals, lsts, tys, hP, hst, initS, Nat.reduceBEq, Nat.reduceAdd, Nat.reduceMul, Nat.reduceSub, Nat.reduceDiv, Nat.reduceMod, Nat.reducePow, Nat.reduceLT, Nat.reduceLeDiff, Nat.reduceEqDiff, Int.reduceAdd, Int.reduceSub, Int.reduceNeg, Int.reduceMul, Int.reduceToNat, Int.reducePow, Int.reduceLE, Int.reduceLT, Int.reduceEq, Int.reduceNe, reduceIte, reduceCtorEq, ne_eq, not_true_eq_false, not_false_eq_true, imp_self, implies_true, bls, eq_self, h3]
        refine C_dec (fun h4 => ?_) (fun h4 => ?_)
        · simp (disch := first | assumption | omega | (simp only [lens]; omega)) only [eqs, ↓gvd_succ, ↓gvd_zero, ↓and_of, im_of, im_of trivial, vals, lsts, tys, hP, hst, initS, Nat.reduceBEq, Nat.reduceAdd, Nat.reduceMul, Nat.reduceSub, Nat.reduceDiv, Nat.reduceMod, Nat.reducePow, Nat.reduceLT, Nat.reduceLeDiff, Nat.reduceEqDiff, Int.reduceAdd, Int.reduceSub, Int.reduceNeg, Int.reduceMul, Int.reduceToNat, Int.reducePow, Int.reduceLE, Int.reduceLT, Int.reduceEq, Int.reduceNe, reduceIte, reduceCtorEq, ne_eq, not_true_eq_false, not_false_eq_true, imp_self, implies_true, bls, eq_self]
          refine E_call (hP ▸ s_klives) ⟨rfl, fun T1 hT1 => ?_⟩
          simp (disch := first | assumption | omega | (simp only [lens]; omega)) only [eqs, ↓gvd_succ, ↓gvd_zero, ↓and_of, im_of, im_of trivial, vals, lsts, tys, hP, hst, initS, Nat.reduceBEq, Nat.reduceAdd, Nat.reduceMul, Nat.reduceSub, Nat.reduceDiv, Nat.reduceMod, Nat.reducePow, Nat.reduceLT, Nat.reduceLeDiff, Nat.reduceEqDiff, Int.reduceAdd, Int.reduceSub, Int.reduceNeg, Int.reduceMul, Int.reduceToNat, Int.reducePow, Int.reduceLE, Int.reduceLT, Int.reduceEq, Int.reduceNe, reduceIte, reduceCtorEq, ne_eq, not_true_eq_false, not_false_eq_true, imp_self, implies_true, bls, eq_self]
          exact hK _ (e0.trans hT1)
        · have gA := (hA.ext Ext.refl).get
          simp (disch := first | assumption | omega | (simp only [lens]; omega)) only [eqs, ↓gvd_succ, ↓gvd_zero, ↓and_of, im_of, im_of trivial, vals, lsts, tys, hP, hst, initS, Nat.reduceBEq, Nat.reduceAdd, Nat.reduceMul, Nat.reduceSub, Nat.reduceDiv, Nat.reduceMod, Nat.reducePow, Nat.reduceLT, Nat.reduceLeDiff, Nat.reduceEqDiff, Int.reduceAdd, Int.reduceSub, Int.reduceNeg, Int.reduceMul, Int.reduceToNat, Int.reducePow, Int.reduceLE, Int.reduceLT, Int.reduceEq, Int.reduceNe, reduceIte, reduceCtorEq, ne_eq, not_true_eq_false, not_false_eq_true, imp_self, implies_true, bls, eq_self, gA]
          refine E_call (hP ▸ z_Root) ⟨_, _, _, rfl, (hX.ext e0), by omega, fun hn T1 e1 => ?_, fun hn v_a v_b T1 e1 h_a h_b => ?_⟩
          · unfold zeroI
            have q1 := (e0.trans e1).len
            have q1x : st.length ≤ T1.length + 1 := by omega
            have gA := (hA.ext e1).get
            simp (disch := first | assumption | omega | (simp only [lens]; omega)) only [eqs, ↓gvd_succ, ↓gvd_zero, ↓and_of, im_of, im_of trivial, vals, lsts, tys, hP, hst, initS, Nat.reduceBEq, Nat.reduceAdd, Nat.reduceMul, Nat.reduceSub, Nat.reduceDiv, Nat.reduceMod, Nat.reducePow, Nat.reduceLT, Nat.reduceLeDiff, Nat.reduceEqDiff, Int.reduceAdd, Int.reduceSub, Int.reduceNeg, Int.reduceMul, Int.reduceToNat, Int.reducePow, Int.reduceLE, Int.reduceLT, Int.reduceEq, Int.reduceNe, reduceIte, reduceCtorEq, ne_eq, not_true_eq_false, not_false_eq_true, imp_self, implies_true, bls, eq_self, gA, q1, q1x]
            obtain ⟨T2, hT2⟩ : ∃ S, T1 ++ [some [.val (.bool false), .val (.slice none 0 0)], some [.val (.bool false), .val (.slice none 0 0)]] = S := ⟨_, rfl⟩
            have e2 : Ext T1 T2 := ⟨_, hT2.symm⟩
            have ha1_ : At T2 (T1.length) [.val (.bool false), .val (.slice none 0 0)] := ⟨hT2 ▸ by rw [get_app0]; rfl⟩
            have hb1_ : At T2 (T1.length + 1) [.val (.bool false), .val (.slice none 0 0)] := ⟨hT2 ▸ by rw [get_app]; rfl⟩
            rw [hT2]
            clear hT2
            have gA := (hA.ext (e1.trans e2)).get
            have ga1_ := (ha1_.ext Ext.refl).get
            have gb1_ := (hb1_.ext Ext.refl).get
            simp (disch := first | assumption | omega | (simp only [lens]; omega)) only [eqs, ↓gvd_succ, ↓gvd_zero, ↓and_of, im_of, im_of trivial, vals, lsts, tys, hP, hst, initS, Nat.reduceBEq, Nat.reduceAdd, Nat.reduceMul, Nat.reduceSub, Nat.reduceDiv, Nat.reduceMod, Nat.reducePow, Nat.reduceLT, Nat.reduceLeDiff, Nat.reduceEqDiff, Int.reduceAdd, Int.reduceSub, Int.reduceNeg, Int.reduceMul, Int.reduceToNat, Int.reducePow, Int.reduceLE, Int.reduceLT, Int.reduceEq, Int.reduceNe, reduceIte, reduceCtorEq, ne_eq, not_true_eq_false, not_false_eq_true, imp_self, implies_true, bls, eq_self, gA, ga1_, gb1_]
            refine E_call (hP ▸ z_qRoot) ⟨_, _, _, rfl, (hX.ext (e0.trans (e1.trans e2))), by omega, fun _ T3 e3 => ?_, fun h5 => absurd hn (by omega)⟩
            unfold zeroI
            have q3 := (e0.trans (e1.trans (e2.trans e3))).len
            have q3x : st.length ≤ T3.length + 1 := by omega
            have gA := (hA.ext (e1.trans (e2.trans e3))).get
            have ga1_ := (ha1_.ext e3).get
            have gb1_ := (hb1_.ext e3).get
            simp (disch := first | assumption | omega | (simp only [lens]; omega)) only [eqs, ↓gvd_succ, ↓gvd_zero, ↓and_of, im_of, im_of trivial, vals, lsts, tys, hP, hst, initS, Nat.reduceBEq, Nat.reduceAdd, Nat.reduceMul, Nat.reduceSub, Nat.reduceDiv, Nat.reduceMod, Nat.reducePow, Nat.reduceLT, Nat.reduceLeDiff, Nat.reduceEqDiff, Int.reduceAdd, Int.reduceSub, Int.reduceNeg, Int.reduceMul, Int.reduceToNat, Int.reducePow, Int.reduceLE, Int.reduceLT, Int.reduceEq, Int.reduceNe, reduceIte, reduceCtorEq, ne_eq, not_true_eq_false, not_false_eq_true, imp_self, implies_true, bls, eq_self, gA, ga1_, gb1_, q3, q3x]
            obtain ⟨T4, hT4⟩ : ∃ S, T3 ++ [some [.val (.bool false), .val (.slice none 0 0)], some [.val (.bool false), .val (.slice none 0 0)]] = S := ⟨_, rfl⟩
            have e4 : Ext T3 T4 := ⟨_, hT4.symm⟩
            have ha2_ : At T4 (T3.length) [.val (.bool false), .val (.slice none 0 0)] := ⟨hT4 ▸ by rw [get_app0]; rfl⟩
            have hb2_ : At T4 (T3.length + 1) [.val (.bool false), .val (.slice none 0 0)] := ⟨hT4 ▸ by rw [get_app]; rfl⟩
            rw [hT4]
            clear hT4
            rcases hp : parseI (sb tx) with _ | z
            · refine E_call (hP ▸ z_Parse) ⟨tx, none, rfl, hp, fun z v T hz => (by cases hz), fun _ T5 e5 => ?_⟩
              unfold zeroI
              have q5 := (e0.trans (e1.trans (e2.trans (e3.trans (e4.trans e5))))).len
              have q5x : st.length ≤ T5.length + 1 := by omega
              have gA := (hA.ext (e1.trans (e2.trans (e3.trans (e4.trans e5))))).get
              have ga1_ := (ha1_.ext (e3.trans (e4.trans e5))).get
              have gb1_ := (hb1_.ext (e3.trans (e4.trans e5))).get
              have ga2_ := (ha2_.ext e5).get
              have gb2_ := (hb2_.ext e5).get
              simp (disch := first | assumption | omega | (simp only [lens]; omega)) only [eqs, ↓gvd_succ, ↓gvd_zero, ↓and_of, im_of, im_of trivial, vals, lsts, tys, hP, hst, initS, Nat.reduceBEq, Nat.reduceAdd, Nat.reduceMul, Nat.reduceSub, Nat.reduceDiv, Nat.reduceMod, Nat.reducePow, Nat.reduceLT, Nat.reduceLeDiff, Nat.reduceEqDiff, Int.reduceAdd, Int.reduceSub, Int.reduceNeg, Int.reduceMul, Int.reduceToNat, Int.reducePow, Int.reduceLE, Int.reduceLT, Int.reduceEq, Int.reduceNe, reduceIte, reduceCtorEq, ne_eq, not_true_eq_false, not_false_eq_true, imp_self, implies_true, bls, eq_self, gA, ga1_, gb1_, ga2_, gb2_, q5, q5x]
              obtain ⟨T6, hT6⟩ : ∃ S, T5 ++ [some [.val (.bool false), .val (.slice none 0 0)]] = S := ⟨_, rfl⟩
              have e6 : Ext T5 T6 := ⟨_, hT6.symm⟩
              have hm1_ : At T6 (T5.length) [.val (.bool false), .val (.slice none 0 0)] := ⟨hT6 ▸ by rw [get_app0]; rfl⟩
              rw [hT6]
              clear hT6
              refine E_call (hP ▸ z_qParse) ⟨tx, none, rfl, hp, fun z v T hz => (by cases hz), fun _ T7 e7 => ?_⟩
              unfold zeroI
              have q7 := (e0.trans (e1.trans (e2.trans (e3.trans (e4.trans (e5.trans (e6.trans e7))))))).len
              have q7x : st.length ≤ T7.length + 1 := by omega
              have gA := (hA.ext (e1.trans (e2.trans (e3.trans (e4.trans (e5.trans (e6.trans e7))))))).get
              have ga1_ := (ha1_.ext (e3.trans (e4.trans (e5.trans (e6.trans e7))))).get
              have gb1_ := (hb1_.ext (e3.trans (e4.trans (e5.trans (e6.trans e7))))).get
              have ga2_ := (ha2_.ext (e5.trans (e6.trans e7))).get
              have gb2_ := (hb2_.ext (e5.trans (e6.trans e7))).get
              have gm1_ := (hm1_.ext e7).get
              simp (disch := first | assumption | omega | (simp only [lens]; omega)) only [eqs, ↓gvd_succ, ↓gvd_zero, ↓and_of, im_of, im_of trivial, vals, lsts, tys, hP, hst, initS, Nat.reduceBEq, Nat.reduceAdd, Nat.reduceMul, Nat.reduceSub, Nat.reduceDiv, Nat.reduceMod, Nat.reducePow, Nat.reduceLT, Nat.reduceLeDiff, Nat.reduceEqDiff, Int.reduceAdd, Int.reduceSub, Int.reduceNeg, Int.reduceMul, Int.reduceToNat, Int.reducePow, Int.reduceLE, Int.reduceLT, Int.reduceEq, Int.reduceNe, reduceIte, reduceCtorEq, ne_eq, not_true_eq_false, not_false_eq_true, imp_self, implies_true, bls, eq_self, gA, ga1_, gb1_, ga2_, gb2_, gm1_, q7, q7x]
              obtain ⟨T8, hT8⟩ : ∃ S, T7 ++ [some [.val (.bool false), .val (.slice none 0 0)]] = S := ⟨_, rfl⟩
              have e8 : Ext T7 T8 := ⟨_, hT8.symm⟩
              have hm2_ : At T8 (T7.length) [.val (.bool false), .val (.slice none 0 0)] := ⟨hT8 ▸ by rw [get_app0]; rfl⟩
              rw [hT8]
              clear hT8
              refine V_draw [0, 1, 2, 3, 4, 5, 6, 7, 8, 9, 10, 11, 12, 13, 14, 16, 15, 17, 18, 19, 20, 21, 22, 23, 24, 25, 26, 27, 28, 29, 30, 31, 32, 33] (by kernel_rfl) (.cons rfl <| .cons rfl <| .cons rfl <| .cons rfl <| .cons rfl <| .cons rfl <| .cons rfl <| .cons rfl <| .cons rfl <| .cons rfl <| .cons rfl <| .cons rfl <| .cons rfl <| .cons rfl <| .cons rfl <| .cons rfl <| .cons rfl <| .cons rfl <| .cons rfl <| .cons rfl <| .cons rfl <| .cons rfl <| .cons rfl <| .cons rfl <| .cons rfl <| .cons rfl <| .cons rfl <| .cons rfl <| .cons rfl <| .cons rfl <| .cons rfl <| .cons rfl <| .cons rfl <| .cons rfl <| .nil) ?_
              have gA := (hA.ext (e1.trans (e2.trans (e3.trans (e4.trans (e5.trans (e6.trans (e7.trans e8)))))))).get
              have ga1_ := (ha1_.ext (e3.trans (e4.trans (e5.trans (e6.trans (e7.trans e8)))))).get
              have gb1_ := (hb1_.ext (e3.trans (e4.trans (e5.trans (e6.trans (e7.trans e8)))))).get
              have ga2_ := (ha2_.ext (e5.trans (e6.trans (e7.trans e8)))).get
              have gb2_ := (hb2_.ext (e5.trans (e6.trans (e7.trans e8)))).get
              have gm1_ := (hm1_.ext (e7.trans e8)).get
              have gm2_ := (hm2_.ext Ext.refl).get
              simp (disch := first | assumption | omega | (simp only [lens]; omega)) only [eqs, ↓gvd_succ, ↓gvd_zero, ↓and_of, im_of, im_of trivial, vals, lsts, tys, hP, hst, initS, Nat.reduceBEq, Nat.reduceAdd, Nat.reduceMul, Nat.reduceSub, Nat.reduceDiv, Nat.reduceMod, Nat.reducePow, Nat.reduceLT, Nat.reduceLeDiff, Nat.reduceEqDiff, Int.reduceAdd, Int.reduceSub, Int.reduceNeg, Int.reduceMul, Int.reduceToNat, Int.reducePow, Int.reduceLE, Int.reduceLT, Int.reduceEq, Int.reduceNe, reduceIte, reduceCtorEq, ne_eq, not_true_eq_false, not_false_eq_true, imp_self, implies_true, bls, eq_self, gA, ga1_, gb1_, ga2_, gb2_, gm1_, gm2_]
              refine E_call (hP ▸ z_same) ⟨_, _, _, _, _, rfl, nz_zero, nz_zero, by omega, fun T9 e9 => ?_⟩
              have gA := (hA.ext (e1.trans (e2.trans (e3.trans (e4.trans (e5.trans (e6.trans (e7.trans (e8.trans e9))))))))).get
              have ga1_ := (ha1_.ext (e3.trans (e4.trans (e5.trans (e6.trans (e7.trans (e8.trans e9))))))).get
              have gb1_ := (hb1_.ext (e3.trans (e4.trans (e5.trans (e6.trans (e7.trans (e8.trans e9))))))).get
              have ga2_ := (ha2_.ext (e5.trans (e6.trans (e7.trans (e8.trans e9))))).get
              have gb2_ := (hb2_.ext (e5.trans (e6.trans (e7.trans (e8.trans e9))))).get
              have gm1_ := (hm1_.ext (e7.trans (e8.trans e9))).get
              have gm2_ := (hm2_.ext e9).get
              simp (disch := first | assumption | omega | (simp only [lens]; omega)) only [eqs, ↓gvd_succ, ↓gvd_zero, ↓and_of, im_of, im_of trivial, vals, lsts, tys, hP, hst, initS, Nat.reduceBEq, Nat.reduceAdd, Nat.reduceMul, Nat.reduceSub, Nat.reduceDiv, Nat.reduceMod, Nat.reducePow, Nat.reduceLT, Nat.reduceLeDiff, Nat.reduceEqDiff, Int.reduceAdd, Int.reduceSub, Int.reduceNeg, Int.reduceMul, Int.reduceToNat, Int.reducePow, Int.reduceLE, Int.reduceLT, Int.reduceEq, Int.reduceNe, reduceIte, reduceCtorEq, ne_eq, not_true_eq_false, not_false_eq_true, imp_self, implies_true, bls, eq_self, gA, ga1_, gb1_, ga2_, gb2_, gm1_, gm2_, beq_self_eq_true]
              refine E_call (hP ▸ z_same) ⟨_, _, _, _, _, rfl, nz_zero, nz_zero, by omega, fun T10 e10 => ?_⟩
              have gA := (hA.ext (e1.trans (e2.trans (e3.trans (e4.trans (e5.trans (e6.trans (e7.trans (e8.trans (e9.trans e10)))))))))).get
              have ga1_ := (ha1_.ext (e3.trans (e4.trans (e5.trans (e6.trans (e7.trans (e8.trans (e9.trans e10)))))))).get
              have gb1_ := (hb1_.ext (e3.trans (e4.trans (e5.trans (e6.trans (e7.trans (e8.trans (e9.trans e10)))))))).get
              have ga2_ := (ha2_.ext (e5.trans (e6.trans (e7.trans (e8.trans (e9.trans e10)))))).get
              have gb2_ := (hb2_.ext (e5.trans (e6.trans (e7.trans (e8.trans (e9.trans e10)))))).get
              have gm1_ := (hm1_.ext (e7.trans (e8.trans (e9.trans e10)))).get
              have gm2_ := (hm2_.ext (e9.trans e10)).get
              simp (disch := first | assumption | omega | (simp only [lens]; omega)) only [eqs, ↓gvd_succ, ↓gvd_zero, ↓and_of, im_of, im_of trivial, vals, lsts, tys, hP, hst, initS, Nat.reduceBEq, Nat.reduceAdd, Nat.reduceMul, Nat.reduceSub, Nat.reduceDiv, Nat.reduceMod, Nat.reducePow, Nat.reduceLT, Nat.reduceLeDiff, Nat.reduceEqDiff, Int.reduceAdd, Int.reduceSub, Int.reduceNeg, Int.reduceMul, Int.reduceToNat, Int.reducePow, Int.reduceLE, Int.reduceLT, Int.reduceEq, Int.reduceNe, reduceIte, reduceCtorEq, ne_eq, not_true_eq_false, not_false_eq_true, imp_self, implies_true, bls, eq_self, gA, ga1_, gb1_, ga2_, gb2_, gm1_, gm2_, beq_self_eq_true]
              refine E_call (hP ▸ z_Text) ⟨_, _, _, rfl, (hX.ext (e0.trans (e1.trans (e2.trans (e3.trans (e4.trans (e5.trans (e6.trans (e7.trans (e8.trans (e9.trans e10))))))))))), by omega, fun T11 e11 => ?_⟩
              have gA := (hA.ext (e1.trans (e2.trans (e3.trans (e4.trans (e5.trans (e6.trans (e7.trans (e8.trans (e9.trans (e10.trans e11))))))))))).get
              have ga1_ := (ha1_.ext (e3.trans (e4.trans (e5.trans (e6.trans (e7.trans (e8.trans (e9.trans (e10.trans e11))))))))).get
              have gb1_ := (hb1_.ext (e3.trans (e4.trans (e5.trans (e6.trans (e7.trans (e8.trans (e9.trans (e10.trans e11))))))))).get
              have ga2_ := (ha2_.ext (e5.trans (e6.trans (e7.trans (e8.trans (e9.trans (e10.trans e11))))))).get
              have gb2_ := (hb2_.ext (e5.trans (e6.trans (e7.trans (e8.trans (e9.trans (e10.trans e11))))))).get
              have gm1_ := (hm1_.ext (e7.trans (e8.trans (e9.trans (e10.trans e11))))).get
              have gm2_ := (hm2_.ext (e9.trans (e10.trans e11))).get
              simp (disch := first | assumption | omega | (simp only [lens]; omega)) only [eqs, ↓gvd_succ, ↓gvd_zero, ↓and_of, im_of, im_of trivial, vals, lsts, tys, hP, hst, initS, Nat.reduceBEq, Nat.reduceAdd, Nat.reduceMul, Nat.reduceSub, Nat.reduceDiv, Nat.reduceMod, Nat.reducePow, Nat.reduceLT, Nat.reduceLeDiff, Nat.reduceEqDiff, Int.reduceAdd, Int.reduceSub, Int.reduceNeg, Int.reduceMul, Int.reduceToNat, Int.reducePow, Int.reduceLE, Int.reduceLT, Int.reduceEq, Int.reduceNe, reduceIte, reduceCtorEq, ne_eq, not_true_eq_false, not_false_eq_true, imp_self, implies_true, bls, eq_self, gA, ga1_, gb1_, ga2_, gb2_, gm1_, gm2_, beq_self_eq_true]
              refine E_call (hP ▸ z_qText) ⟨_, _, _, rfl, (hX.ext (e0.trans (e1.trans (e2.trans (e3.trans (e4.trans (e5.trans (e6.trans (e7.trans (e8.trans (e9.trans (e10.trans e11)))))))))))), by omega, fun T12 e12 => ?_⟩
              have gA := (hA.ext (e1.trans (e2.trans (e3.trans (e4.trans (e5.trans (e6.trans (e7.trans (e8.trans (e9.trans (e10.trans (e11.trans e12)))))))))))).get
              have ga1_ := (ha1_.ext (e3.trans (e4.trans (e5.trans (e6.trans (e7.trans (e8.trans (e9.trans (e10.trans (e11.trans e12)))))))))).get
              have gb1_ := (hb1_.ext (e3.trans (e4.trans (e5.trans (e6.trans (e7.trans (e8.trans (e9.trans (e10.trans (e11.trans e12)))))))))).get
              have ga2_ := (ha2_.ext (e5.trans (e6.trans (e7.trans (e8.trans (e9.trans (e10.trans (e11.trans e12)))))))).get
              have gb2_ := (hb2_.ext (e5.trans (e6.trans (e7.trans (e8.trans (e9.trans (e10.trans (e11.trans e12)))))))).get
              have gm1_ := (hm1_.ext (e7.trans (e8.trans (e9.trans (e10.trans (e11.trans e12)))))).get
              have gm2_ := (hm2_.ext (e9.trans (e10.trans (e11.trans e12)))).get
              simp (disch := first | assumption | omega | (simp only [lens]; omega)) only [eqs, ↓gvd_succ, ↓gvd_zero, ↓and_of, im_of, im_of trivial, vals, lsts, tys, hP, hst, initS, Nat.reduceBEq, Nat.reduceAdd, Nat.reduceMul, Nat.reduceSub, Nat.reduceDiv, Nat.reduceMod, Nat.reducePow, Nat.reduceLT, Nat.reduceLeDiff, Nat.reduceEqDiff, Int.reduceAdd, Int.reduceSub, Int.reduceNeg, Int.reduceMul, Int.reduceToNat, Int.reducePow, Int.reduceLE, Int.reduceLT, Int.reduceEq, Int.reduceNe, reduceIte, reduceCtorEq, ne_eq, not_true_eq_false, not_false_eq_true, imp_self, implies_true, bls, eq_self, gA, ga1_, gb1_, ga2_, gb2_, gm1_, gm2_, beq_self_eq_true]
              refine E_call (hP ▸ z_same) ⟨_, _, _, _, _, rfl, nz_zero, nz_zero, by omega, fun T13 e13 => ?_⟩
              have gA := (hA.ext (e1.trans (e2.trans (e3.trans (e4.trans (e5.trans (e6.trans (e7.trans (e8.trans (e9.trans (e10.trans (e11.trans (e12.trans e13))))))))))))).get
              have ga1_ := (ha1_.ext (e3.trans (e4.trans (e5.trans (e6.trans (e7.trans (e8.trans (e9.trans (e10.trans (e11.trans (e12.trans e13))))))))))).get
              have gb1_ := (hb1_.ext (e3.trans (e4.trans (e5.trans (e6.trans (e7.trans (e8.trans (e9.trans (e10.trans (e11.trans (e12.trans e13))))))))))).get
              have ga2_ := (ha2_.ext (e5.trans (e6.trans (e7.trans (e8.trans (e9.trans (e10.trans (e11.trans (e12.trans e13))))))))).get
              have gb2_ := (hb2_.ext (e5.trans (e6.trans (e7.trans (e8.trans (e9.trans (e10.trans (e11.trans (e12.trans e13))))))))).get
              have gm1_ := (hm1_.ext (e7.trans (e8.trans (e9.trans (e10.trans (e11.trans (e12.trans e13))))))).get
              have gm2_ := (hm2_.ext (e9.trans (e10.trans (e11.trans (e12.trans e13))))).get
              simp (disch := first | assumption | omega | (simp only [lens]; omega)) only [eqs, ↓gvd_succ, ↓gvd_zero, ↓and_of, im_of, im_of trivial, vals, lsts, tys, hP, hst, initS, Nat.reduceBEq, Nat.reduceAdd, Nat.reduceMul, Nat.reduceSub, Nat.reduceDiv, Nat.reduceMod, Nat.reducePow, Nat.reduceLT, Nat.reduceLeDiff, Nat.reduceEqDiff, Int.reduceAdd, Int.reduceSub, Int.reduceNeg, Int.reduceMul, Int.reduceToNat, Int.reducePow, Int.reduceLE, Int.reduceLT, Int.reduceEq, Int.reduceNe, reduceIte, reduceCtorEq, ne_eq, not_true_eq_false, not_false_eq_true, imp_self, implies_true, bls, eq_self, gA, ga1_, gb1_, ga2_, gb2_, gm1_, gm2_, beq_self_eq_true]
              refine E_call (hP ▸ s_klives) ⟨rfl, fun T14 e14 => ?_⟩
              simp (disch := first | assumption | omega | (simp only [lens]; omega)) only [eqs, ↓gvd_succ, ↓gvd_zero, ↓and_of, im_of, im_of trivial, vals, lsts, tys, hP, hst, initS, Nat.reduceBEq, Nat.reduceAdd, Nat.reduceMul, Nat.reduceSub, Nat.reduceDiv, Nat.reduceMod, Nat.reducePow, Nat.reduceLT, Nat.reduceLeDiff, Nat.reduceEqDiff, Int.reduceAdd, Int.reduceSub, Int.reduceNeg, Int.reduceMul, Int.reduceToNat, Int.reducePow, Int.reduceLE, Int.reduceLT, Int.reduceEq, Int.reduceNe, reduceIte, reduceCtorEq, ne_eq, not_true_eq_false, not_false_eq_true, imp_self, implies_true, bls, eq_self]
              exact hK _ (e0.trans (e1.trans (e2.trans (e3.trans (e4.trans (e5.trans (e6.trans (e7.trans (e8.trans (e9.trans (e10.trans (e11.trans (e12.trans (e13.trans e14))))))))))))))
            · refine E_call (hP ▸ z_Parse) ⟨tx, some z, rfl, hp, fun z2 v_m T5 hz e5 h_m => ?_, fun hz => (by cases hz)⟩
              cases hz
              obtain ⟨p_m, rfl, n_m⟩ := h_m.1
              have l_m := n_m.leaf
              have q5 := (e0.trans (e1.trans (e2.trans (e3.trans (e4.trans e5))))).len
              have q5x : st.length ≤ T5.length + 1 := by omega
              have gA := (hA.ext (e1.trans (e2.trans (e3.trans (e4.trans e5))))).get
              have ga1_ := (ha1_.ext (e3.trans (e4.trans e5))).get
              have gb1_ := (hb1_.ext (e3.trans (e4.trans e5))).get
              have ga2_ := (ha2_.ext e5).get
              have gb2_ := (hb2_.ext e5).get
              simp (disch := first | assumption | omega | (simp only [lens]; omega)) only [eqs, ↓gvd_succ, ↓gvd_zero, ↓and_of, im_of, im_of trivial, vals, lsts, tys, hP, hst, initS, Nat.reduceBEq, Nat.reduceAdd, Nat.reduceMul, Nat.reduceSub, Nat.reduceDiv, Nat.reduceMod, Nat.reducePow, Nat.reduceLT, Nat.reduceLeDiff, Nat.reduceEqDiff, Int.reduceAdd, Int.reduceSub, Int.reduceNeg, Int.reduceMul, Int.reduceToNat, Int.reducePow, Int.reduceLE, Int.reduceLT, Int.reduceEq, Int.reduceNe, reduceIte, reduceCtorEq, ne_eq, not_true_eq_false, not_false_eq_true, imp_self, implies_true, bls, eq_self, gA, ga1_, gb1_, ga2_, gb2_, l_m, q5, q5x]
              obtain ⟨T6, hT6⟩ : ∃ S, T5 ++ [some [.val (.bool (decide (z < 0))), p_m]] = S := ⟨_, rfl⟩
              have e6 : Ext T5 T6 := ⟨_, hT6.symm⟩
              have hm1_ : At T6 (T5.length) [.val (.bool (decide (z < 0))), p_m] := ⟨hT6 ▸ by rw [get_app0]; rfl⟩
              rw [hT6]
              clear hT6
              refine E_call (hP ▸ z_qParse) ⟨tx, some z, rfl, hp, fun z2 v_n T7 hz e7 h_n => ?_, fun hz => (by cases hz)⟩
              cases hz
              obtain ⟨p_n, rfl, n_n⟩ := h_n.1
              have l_n := n_n.leaf
              have q7 := (e0.trans (e1.trans (e2.trans (e3.trans (e4.trans (e5.trans (e6.trans e7))))))).len
              have q7x : st.length ≤ T7.length + 1 := by omega
              have gA := (hA.ext (e1.trans (e2.trans (e3.trans (e4.trans (e5.trans (e6.trans e7))))))).get
              have ga1_ := (ha1_.ext (e3.trans (e4.trans (e5.trans (e6.trans e7))))).get
              have gb1_ := (hb1_.ext (e3.trans (e4.trans (e5.trans (e6.trans e7))))).get
              have ga2_ := (ha2_.ext (e5.trans (e6.trans e7))).get
              have gb2_ := (hb2_.ext (e5.trans (e6.trans e7))).get
              have gm1_ := (hm1_.ext e7).get
              simp (disch := first | assumption | omega | (simp only [lens]; omega)) only [eqs, ↓gvd_succ, ↓gvd_zero, ↓and_of, im_of, im_of trivial, vals, lsts, tys, hP, hst, initS, Nat.reduceBEq, Nat.reduceAdd, Nat.reduceMul, Nat.reduceSub, Nat.reduceDiv, Nat.reduceMod, Nat.reducePow, Nat.reduceLT, Nat.reduceLeDiff, Nat.reduceEqDiff, Int.reduceAdd, Int.reduceSub, Int.reduceNeg, Int.reduceMul, Int.reduceToNat, Int.reducePow, Int.reduceLE, Int.reduceLT, Int.reduceEq, Int.reduceNe, reduceIte, reduceCtorEq, ne_eq, not_true_eq_false, not_false_eq_true, imp_self, implies_true, bls, eq_self, gA, ga1_, gb1_, ga2_, gb2_, gm1_, l_n, q7, q7x]
              obtain ⟨T8, hT8⟩ : ∃ S, T7 ++ [some [.val (.bool (decide (z < 0))), p_n]] = S := ⟨_, rfl⟩
              have e8 : Ext T7 T8 := ⟨_, hT8.symm⟩
              have hm2_ : At T8 (T7.length) [.val (.bool (decide (z < 0))), p_n] := ⟨hT8 ▸ by rw [get_app0]; rfl⟩
              rw [hT8]
              clear hT8
              refine V_draw [0, 1, 2, 3, 4, 5, 6, 7, 8, 9, 10, 11, 12, 13, 14, 16, 15, 17, 18, 19, 20, 21, 22, 23, 24, 25, 26, 27, 28, 29, 30, 31, 32, 33] (by kernel_rfl) (.cons rfl <| .cons rfl <| .cons rfl <| .cons rfl <| .cons rfl <| .cons rfl <| .cons rfl <| .cons rfl <| .cons rfl <| .cons rfl <| .cons rfl <| .cons rfl <| .cons rfl <| .cons rfl <| .cons rfl <| .cons rfl <| .cons rfl <| .cons rfl <| .cons rfl <| .cons rfl <| .cons rfl <| .cons rfl <| .cons rfl <| .cons rfl <| .cons rfl <| .cons rfl <| .cons rfl <| .cons rfl <| .cons rfl <| .cons rfl <| .cons rfl <| .cons rfl <| .cons rfl <| .cons rfl <| .nil) ?_
              have gA := (hA.ext (e1.trans (e2.trans (e3.trans (e4.trans (e5.trans (e6.trans (e7.trans e8)))))))).get
              have ga1_ := (ha1_.ext (e3.trans (e4.trans (e5.trans (e6.trans (e7.trans e8)))))).get
              have gb1_ := (hb1_.ext (e3.trans (e4.trans (e5.trans (e6.trans (e7.trans e8)))))).get
              have ga2_ := (ha2_.ext (e5.trans (e6.trans (e7.trans e8)))).get
              have gb2_ := (hb2_.ext (e5.trans (e6.trans (e7.trans e8)))).get
              have gm1_ := (hm1_.ext (e7.trans e8)).get
              have gm2_ := (hm2_.ext Ext.refl).get
              simp (disch := first | assumption | omega | (simp only [lens]; omega)) only [eqs, ↓gvd_succ, ↓gvd_zero, ↓and_of, im_of, im_of trivial, vals, lsts, tys, hP, hst, initS, Nat.reduceBEq, Nat.reduceAdd, Nat.reduceMul, Nat.reduceSub, Nat.reduceDiv, Nat.reduceMod, Nat.reducePow, Nat.reduceLT, Nat.reduceLeDiff, Nat.reduceEqDiff, Int.reduceAdd, Int.reduceSub, Int.reduceNeg, Int.reduceMul, Int.reduceToNat, Int.reducePow, Int.reduceLE, Int.reduceLT, Int.reduceEq, Int.reduceNe, reduceIte, reduceCtorEq, ne_eq, not_true_eq_false, not_false_eq_true, imp_self, implies_true, bls, eq_self, gA, ga1_, gb1_, ga2_, gb2_, gm1_, gm2_]
              refine E_call (hP ▸ z_same) ⟨_, _, _, _, _, rfl, nz_zero, nz_zero, by omega, fun T9 e9 => ?_⟩
              have gA := (hA.ext (e1.trans (e2.trans (e3.trans (e4.trans (e5.trans (e6.trans (e7.trans (e8.trans e9))))))))).get
              have ga1_ := (ha1_.ext (e3.trans (e4.trans (e5.trans (e6.trans (e7.trans (e8.trans e9))))))).get
              have gb1_ := (hb1_.ext (e3.trans (e4.trans (e5.trans (e6.trans (e7.trans (e8.trans e9))))))).get
              have ga2_ := (ha2_.ext (e5.trans (e6.trans (e7.trans (e8.trans e9))))).get
              have gb2_ := (hb2_.ext (e5.trans (e6.trans (e7.trans (e8.trans e9))))).get
              have gm1_ := (hm1_.ext (e7.trans (e8.trans e9))).get
              have gm2_ := (hm2_.ext e9).get
              simp (disch := first | assumption | omega | (simp only [lens]; omega)) only [eqs, ↓gvd_succ, ↓gvd_zero, ↓and_of, im_of, im_of trivial, vals, lsts, tys, hP, hst, initS, Nat.reduceBEq, Nat.reduceAdd, Nat.reduceMul, Nat.reduceSub, Nat.reduceDiv, Nat.reduceMod, Nat.reducePow, Nat.reduceLT, Nat.reduceLeDiff, Nat.reduceEqDiff, Int.reduceAdd, Int.reduceSub, Int.reduceNeg, Int.reduceMul, Int.reduceToNat, Int.reducePow, Int.reduceLE, Int.reduceLT, Int.reduceEq, Int.reduceNe, reduceIte, reduceCtorEq, ne_eq, not_true_eq_false, not_false_eq_true, imp_self, implies_true, bls, eq_self, gA, ga1_, gb1_, ga2_, gb2_, gm1_, gm2_, beq_self_eq_true]
              refine E_call (hP ▸ z_same) ⟨_, _, _, _, _, rfl, nz_zero, nz_zero, by omega, fun T10 e10 => ?_⟩
              have gA := (hA.ext (e1.trans (e2.trans (e3.trans (e4.trans (e5.trans (e6.trans (e7.trans (e8.trans (e9.trans e10)))))))))).get
              have ga1_ := (ha1_.ext (e3.trans (e4.trans (e5.trans (e6.trans (e7.trans (e8.trans (e9.trans e10)))))))).get
              have gb1_ := (hb1_.ext (e3.trans (e4.trans (e5.trans (e6.trans (e7.trans (e8.trans (e9.trans e10)))))))).get
              have ga2_ := (ha2_.ext (e5.trans (e6.trans (e7.trans (e8.trans (e9.trans e10)))))).get
              have gb2_ := (hb2_.ext (e5.trans (e6.trans (e7.trans (e8.trans (e9.trans e10)))))).get
              have gm1_ := (hm1_.ext (e7.trans (e8.trans (e9.trans e10)))).get
              have gm2_ := (hm2_.ext (e9.trans e10)).get
              simp (disch := first | assumption | omega | (simp only [lens]; omega)) only [eqs, ↓gvd_succ, ↓gvd_zero, ↓and_of, im_of, im_of trivial, vals, lsts, tys, hP, hst, initS, Nat.reduceBEq, Nat.reduceAdd, Nat.reduceMul, Nat.reduceSub, Nat.reduceDiv, Nat.reduceMod, Nat.reducePow, Nat.reduceLT, Nat.reduceLeDiff, Nat.reduceEqDiff, Int.reduceAdd, Int.reduceSub, Int.reduceNeg, Int.reduceMul, Int.reduceToNat, Int.reducePow, Int.reduceLE, Int.reduceLT, Int.reduceEq, Int.reduceNe, reduceIte, reduceCtorEq, ne_eq, not_true_eq_false, not_false_eq_true, imp_self, implies_true, bls, eq_self, gA, ga1_, gb1_, ga2_, gb2_, gm1_, gm2_, beq_self_eq_true]
              refine E_call (hP ▸ z_Text) ⟨_, _, _, rfl, (hX.ext (e0.trans (e1.trans (e2.trans (e3.trans (e4.trans (e5.trans (e6.trans (e7.trans (e8.trans (e9.trans e10))))))))))), by omega, fun T11 e11 => ?_⟩
              have gA := (hA.ext (e1.trans (e2.trans (e3.trans (e4.trans (e5.trans (e6.trans (e7.trans (e8.trans (e9.trans (e10.trans e11))))))))))).get
              have ga1_ := (ha1_.ext (e3.trans (e4.trans (e5.trans (e6.trans (e7.trans (e8.trans (e9.trans (e10.trans e11))))))))).get
              have gb1_ := (hb1_.ext (e3.trans (e4.trans (e5.trans (e6.trans (e7.trans (e8.trans (e9.trans (e10.trans e11))))))))).get
              have ga2_ := (ha2_.ext (e5.trans (e6.trans (e7.trans (e8.trans (e9.trans (e10.trans e11))))))).get
              have gb2_ := (hb2_.ext (e5.trans (e6.trans (e7.trans (e8.trans (e9.trans (e10.trans e11))))))).get
              have gm1_ := (hm1_.ext (e7.trans (e8.trans (e9.trans (e10.trans e11))))).get
              have gm2_ := (hm2_.ext (e9.trans (e10.trans e11))).get
              simp (disch := first | assumption | omega | (simp only [lens]; omega)) only [eqs, ↓gvd_succ, ↓gvd_zero, ↓and_of, im_of, im_of trivial, vals, lsts, tys, hP, hst, initS, Nat.reduceBEq, Nat.reduceAdd, Nat.reduceMul, Nat.reduceSub, Nat.reduceDiv, Nat.reduceMod, Nat.reducePow, Nat.reduceLT, Nat.reduceLeDiff, Nat.reduceEqDiff, Int.reduceAdd, Int.reduceSub, Int.reduceNeg, Int.reduceMul, Int.reduceToNat, Int.reducePow, Int.reduceLE, Int.reduceLT, Int.reduceEq, Int.reduceNe, reduceIte, reduceCtorEq, ne_eq, not_true_eq_false, not_false_eq_true, imp_self, implies_true, bls, eq_self, gA, ga1_, gb1_, ga2_, gb2_, gm1_, gm2_, beq_self_eq_true]
              refine E_call (hP ▸ z_qText) ⟨_, _, _, rfl, (hX.ext (e0.trans (e1.trans (e2.trans (e3.trans (e4.trans (e5.trans (e6.trans (e7.trans (e8.trans (e9.trans (e10.trans e11)))))))))))), by omega, fun T12 e12 => ?_⟩
              have gA := (hA.ext (e1.trans (e2.trans (e3.trans (e4.trans (e5.trans (e6.trans (e7.trans (e8.trans (e9.trans (e10.trans (e11.trans e12)))))))))))).get
              have ga1_ := (ha1_.ext (e3.trans (e4.trans (e5.trans (e6.trans (e7.trans (e8.trans (e9.trans (e10.trans (e11.trans e12)))))))))).get
              have gb1_ := (hb1_.ext (e3.trans (e4.trans (e5.trans (e6.trans (e7.trans (e8.trans (e9.trans (e10.trans (e11.trans e12)))))))))).get
              have ga2_ := (ha2_.ext (e5.trans (e6.trans (e7.trans (e8.trans (e9.trans (e10.trans (e11.trans e12)))))))).get
              have gb2_ := (hb2_.ext (e5.trans (e6.trans (e7.trans (e8.trans (e9.trans (e10.trans (e11.trans e12)))))))).get
              have gm1_ := (hm1_.ext (e7.trans (e8.trans (e9.trans (e10.trans (e11.trans e12)))))).get
              have gm2_ := (hm2_.ext (e9.trans (e10.trans (e11.trans e12)))).get
              simp (disch := first | assumption | omega | (simp only [lens]; omega)) only [eqs, ↓gvd_succ, ↓gvd_zero, ↓and_of, im_of, im_of trivial, vals, lsts, tys, hP, hst, initS, Nat.reduceBEq, Nat.reduceAdd, Nat.reduceMul, Nat.reduceSub, Nat.reduceDiv, Nat.reduceMod, Nat.reducePow, Nat.reduceLT, Nat.reduceLeDiff, Nat.reduceEqDiff, Int.reduceAdd, Int.reduceSub, Int.reduceNeg, Int.reduceMul, Int.reduceToNat, Int.reducePow, Int.reduceLE, Int.reduceLT, Int.reduceEq, Int.reduceNe, reduceIte, reduceCtorEq, ne_eq, not_true_eq_false, not_false_eq_true, imp_self, implies_true, bls, eq_self, gA, ga1_, gb1_, ga2_, gb2_, gm1_, gm2_, beq_self_eq_true]
              refine E_call (hP ▸ z_same) ⟨_, _, _, _, _, rfl, (h_m.ext (e6.trans (e7.trans (e8.trans (e9.trans (e10.trans (e11.trans e12))))))), (h_n.ext (e8.trans (e9.trans (e10.trans (e11.trans e12))))), by omega, fun T13 e13 => ?_⟩
              have gA := (hA.ext (e1.trans (e2.trans (e3.trans (e4.trans (e5.trans (e6.trans (e7.trans (e8.trans (e9.trans (e10.trans (e11.trans (e12.trans e13))))))))))))).get
              have ga1_ := (ha1_.ext (e3.trans (e4.trans (e5.trans (e6.trans (e7.trans (e8.trans (e9.trans (e10.trans (e11.trans (e12.trans e13))))))))))).get
              have gb1_ := (hb1_.ext (e3.trans (e4.trans (e5.trans (e6.trans (e7.trans (e8.trans (e9.trans (e10.trans (e11.trans (e12.trans e13))))))))))).get
              have ga2_ := (ha2_.ext (e5.trans (e6.trans (e7.trans (e8.trans (e9.trans (e10.trans (e11.trans (e12.trans e13))))))))).get
              have gb2_ := (hb2_.ext (e5.trans (e6.trans (e7.trans (e8.trans (e9.trans (e10.trans (e11.trans (e12.trans e13))))))))).get
              have gm1_ := (hm1_.ext (e7.trans (e8.trans (e9.trans (e10.trans (e11.trans (e12.trans e13))))))).get
              have gm2_ := (hm2_.ext (e9.trans (e10.trans (e11.trans (e12.trans e13))))).get
              simp (disch := first | assumption | omega | (simp only [lens]; omega)) only [eqs, ↓gvd_succ, ↓gvd_zero, ↓and_of, im_of, im_of trivial, vals, lsts, tys, hP, hst, initS, Nat.reduceBEq, Nat.reduceAdd, Nat.reduceMul, Nat.reduceSub, Nat.reduceDiv, Nat.reduceMod, Nat.reducePow, Nat.reduceLT, Nat.reduceLeDiff, Nat.reduceEqDiff, Int.reduceAdd, Int.reduceSub, Int.reduceNeg, Int.reduceMul, Int.reduceToNat, Int.reducePow, Int.reduceLE, Int.reduceLT, Int.reduceEq, Int.reduceNe, reduceIte, reduceCtorEq, ne_eq, not_true_eq_false, not_false_eq_true, imp_self, implies_true, bls, eq_self, gA, ga1_, gb1_, ga2_, gb2_, gm1_, gm2_, beq_self_eq_true]
              refine E_call (hP ▸ s_klives) ⟨rfl, fun T14 e14 => ?_⟩
              simp (disch := first | assumption | omega | (simp only [lens]; omega)) only [eqs, ↓gvd_succ, ↓gvd_zero, ↓and_of, im_of, im_of trivial, vals, lsts, tys, hP, hst, initS, Nat.reduceBEq, Nat.reduceAdd, Nat.reduceMul, Nat.reduceSub, Nat.reduceDiv, Nat.reduceMod, Nat.reducePow, Nat.reduceLT, Nat.reduceLeDiff, Nat.reduceEqDiff, Int.reduceAdd, Int.reduceSub, Int.reduceNeg, Int.reduceMul, Int.reduceToNat, Int.reducePow, Int.reduceLE, Int.reduceLT, Int.reduceEq, Int.reduceNe, reduceIte, reduceCtorEq, ne_eq, not_true_eq_false, not_false_eq_true, imp_self, implies_true, bls, eq_self]
              exact hK _ (e0.trans (e1.trans (e2.trans (e3.trans (e4.trans (e5.trans (e6.trans (e7.trans (e8.trans (e9.trans (e10.trans (e11.trans (e12.trans (e13.trans e14))))))))))))))
          · obtain ⟨r, hr⟩ : ∃ r, isqrt Zx.natAbs = r := ⟨_, rfl⟩
            rw [hr] at h_a h_b
            obtain ⟨q, hq⟩ : ∃ q, Zx.natAbs - r * r = q := ⟨_, rfl⟩
            rw [hq] at h_b
            obtain ⟨p_a, rfl, n_a⟩ := h_a.1
            have l_a := n_a.leaf
            rw [nat_sgn (g := r)] at h_a ⊢
            obtain ⟨p_b, rfl, n_b⟩ := h_b.1
            have l_b := n_b.leaf
            rw [nat_sgn (g := q)] at h_b ⊢
            have q1 := (e0.trans e1).len
            have q1x : st.length ≤ T1.length + 1 := by omega
            have gA := (hA.ext e1).get
            simp (disch := first | assumption | omega | (simp only [lens]; omega)) only [eqs, ↓gvd_succ, ↓gvd_zero, ↓and_of, im_of, im_of trivial, vals, lsts, tys, hP, hst, initS, Nat.reduceBEq, Nat.reduceAdd, Nat.reduceMul, Nat.reduceSub, Nat.reduceDiv, Nat.reduceMod, Nat.reducePow, Nat.reduceLT, Nat.reduceLeDiff, Nat.reduceEqDiff, Int.reduceAdd, Int.reduceSub, Int.reduceNeg, Int.reduceMul, Int.reduceToNat, Int.reducePow, Int.reduceLE, Int.reduceLT, Int.reduceEq, Int.reduceNe, reduceIte, reduceCtorEq, ne_eq, not_true_eq_false, not_false_eq_true, imp_self, implies_true, bls, eq_self, gA, l_a, l_b, q1, q1x]
            obtain ⟨T2, hT2⟩ : ∃ S, T1 ++ [some [.val (.bool false), p_a], some [.val (.bool false), p_b]] = S := ⟨_, rfl⟩
            have e2 : Ext T1 T2 := ⟨_, hT2.symm⟩
            have ha1_ : At T2 (T1.length) [.val (.bool false), p_a] := ⟨hT2 ▸ by rw [get_app0]; rfl⟩
            have hb1_ : At T2 (T1.length + 1) [.val (.bool false), p_b] := ⟨hT2 ▸ by rw [get_app]; rfl⟩
            rw [hT2]
            clear hT2
            have gA := (hA.ext (e1.trans e2)).get
            have ga1_ := (ha1_.ext Ext.refl).get
            have gb1_ := (hb1_.ext Ext.refl).get
            simp (disch := first | assumption | omega | (simp only [lens]; omega)) only [eqs, ↓gvd_succ, ↓gvd_zero, ↓and_of, im_of, im_of trivial, vals, lsts, tys, hP, hst, initS, Nat.reduceBEq, Nat.reduceAdd, Nat.reduceMul, Nat.reduceSub, Nat.reduceDiv, Nat.reduceMod, Nat.reducePow, Nat.reduceLT, Nat.reduceLeDiff, Nat.reduceEqDiff, Int.reduceAdd, Int.reduceSub, Int.reduceNeg, Int.reduceMul, Int.reduceToNat, Int.reducePow, Int.reduceLE, Int.reduceLT, Int.reduceEq, Int.reduceNe, reduceIte, reduceCtorEq, ne_eq, not_true_eq_false, not_false_eq_true, imp_self, implies_true, bls, eq_self, gA, ga1_, gb1_]
            refine E_call (hP ▸ z_qRoot) ⟨_, _, _, rfl, (hX.ext (e0.trans (e1.trans e2))), by omega, fun h5 => absurd hn (by omega), fun _ v_c v_d T3 e3 h_c h_d => ?_⟩
            rw [hr] at h_c h_d
            rw [hq] at h_d
            obtain ⟨p_c, rfl, n_c⟩ := h_c.1
            have l_c := n_c.leaf
            rw [nat_sgn (g := r)] at h_c ⊢
            obtain ⟨p_d, rfl, n_d⟩ := h_d.1
            have l_d := n_d.leaf
            rw [nat_sgn (g := q)] at h_d ⊢
            have q3 := (e0.trans (e1.trans (e2.trans e3))).len
            have q3x : st.length ≤ T3.length + 1 := by omega
            have gA := (hA.ext (e1.trans (e2.trans e3))).get
            have ga1_ := (ha1_.ext e3).get
            have gb1_ := (hb1_.ext e3).get
            simp (disch := first | assumption | omega | (simp only [lens]; omega)) only [eqs, ↓gvd_succ, ↓gvd_zero, ↓and_of, im_of, im_of trivial, vals, lsts, tys, hP, hst, initS, Nat.reduceBEq, Nat.reduceAdd, Nat.reduceMul, Nat.reduceSub, Nat.reduceDiv, Nat.reduceMod, Nat.reducePow, Nat.reduceLT, Nat.reduceLeDiff, Nat.reduceEqDiff, Int.reduceAdd, Int.reduceSub, Int.reduceNeg, Int.reduceMul, Int.reduceToNat, Int.reducePow, Int.reduceLE, Int.reduceLT, Int.reduceEq, Int.reduceNe, reduceIte, reduceCtorEq, ne_eq, not_true_eq_false, not_false_eq_true, imp_self, implies_true, bls, eq_self, gA, ga1_, gb1_, l_c, l_d, q3, q3x]
            obtain ⟨T4, hT4⟩ : ∃ S, T3 ++ [some [.val (.bool false), p_c], some [.val (.bool false), p_d]] = S := ⟨_, rfl⟩
            have e4 : Ext T3 T4 := ⟨_, hT4.symm⟩
            have ha2_ : At T4 (T3.length) [.val (.bool false), p_c] := ⟨hT4 ▸ by rw [get_app0]; rfl⟩
            have hb2_ : At T4 (T3.length + 1) [.val (.bool false), p_d] := ⟨hT4 ▸ by rw [get_app]; rfl⟩
            rw [hT4]
            clear hT4
            rcases hp : parseI (sb tx) with _ | z
            · refine E_call (hP ▸ z_Parse) ⟨tx, none, rfl, hp, fun z v T hz => (by cases hz), fun _ T5 e5 => ?_⟩
              unfold zeroI
              have q5 := (e0.trans (e1.trans (e2.trans (e3.trans (e4.trans e5))))).len
              have q5x : st.length ≤ T5.length + 1 := by omega
              have gA := (hA.ext (e1.trans (e2.trans (e3.trans (e4.trans e5))))).get
              have ga1_ := (ha1_.ext (e3.trans (e4.trans e5))).get
              have gb1_ := (hb1_.ext (e3.trans (e4.trans e5))).get
              have ga2_ := (ha2_.ext e5).get
              have gb2_ := (hb2_.ext e5).get
              simp (disch := first | assumption | omega | (simp only [lens]; omega)) only [eqs, ↓gvd_succ, ↓gvd_zero, ↓and_of, im_of, im_of trivial, vals, lsts, tys, hP, hst, initS, Nat.reduceBEq, Nat.reduceAdd, Nat.reduceMul, Nat.reduceSub, Nat.reduceDiv, Nat.reduceMod, Nat.reducePow, Nat.reduceLT, Nat.reduceLeDiff, Nat.reduceEqDiff, Int.reduceAdd, Int.reduceSub, Int.reduceNeg, Int.reduceMul, Int.reduceToNat, Int.reducePow, Int.reduceLE, Int.reduceLT, Int.reduceEq, Int.reduceNe, reduceIte, reduceCtorEq, ne_eq, not_true_eq_false, not_false_eq_true, imp_self, implies_true, bls, eq_self, gA, ga1_, gb1_, ga2_, gb2_, q5, q5x]
              obtain ⟨T6, hT6⟩ : ∃ S, T5 ++ [some [.val (.bool false), .val (.slice none 0 0)]] = S := ⟨_, rfl⟩
              have e6 : Ext T5 T6 := ⟨_, hT6.symm⟩
              have hm1_ : At T6 (T5.length) [.val (.bool false), .val (.slice none 0 0)] := ⟨hT6 ▸ by rw [get_app0]; rfl⟩
              rw [hT6]
              clear hT6
              refine E_call (hP ▸ z_qParse) ⟨tx, none, rfl, hp, fun z v T hz => (by cases hz), fun _ T7 e7 => ?_⟩
              unfold zeroI
              have q7 := (e0.trans (e1.trans (e2.trans (e3.trans (e4.trans (e5.trans (e6.trans e7))))))).len
              have q7x : st.length ≤ T7.length + 1 := by omega
              have gA := (hA.ext (e1.trans (e2.trans (e3.trans (e4.trans (e5.trans (e6.trans e7))))))).get
              have ga1_ := (ha1_.ext (e3.trans (e4.trans (e5.trans (e6.trans e7))))).get
              have gb1_ := (hb1_.ext (e3.trans (e4.trans (e5.trans (e6.trans e7))))).get
              have ga2_ := (ha2_.ext (e5.trans (e6.trans e7))).get
              have gb2_ := (hb2_.ext (e5.trans (e6.trans e7))).get
              have gm1_ := (hm1_.ext e7).get
              simp (disch := first | assumption | omega | (simp only [lens]; omega)) only [eqs, ↓gvd_succ, ↓gvd_zero, ↓and_of, im_of, im_of trivial, vals, lsts, tys, hP, hst, initS, Nat.reduceBEq, Nat.reduceAdd, Nat.reduceMul, Nat.reduceSub, Nat.reduceDiv, Nat.reduceMod, Nat.reducePow, Nat.reduceLT, Nat.reduceLeDiff, Nat.reduceEqDiff, Int.reduceAdd, Int.reduceSub, Int.reduceNeg, Int.reduceMul, Int.reduceToNat, Int.reducePow, Int.reduceLE, Int.reduceLT, Int.reduceEq, Int.reduceNe, reduceIte, reduceCtorEq, ne_eq, not_true_eq_false, not_false_eq_true, imp_self, implies_true, bls, eq_self, gA, ga1_, gb1_, ga2_, gb2_, gm1_, q7, q7x]
              obtain ⟨T8, hT8⟩ : ∃ S, T7 ++ [some [.val (.bool false), .val (.slice none 0 0)]] = S := ⟨_, rfl⟩
              have e8 : Ext T7 T8 := ⟨_, hT8.symm⟩
              have hm2_ : At T8 (T7.length) [.val (.bool false), .val (.slice none 0 0)] := ⟨hT8 ▸ by rw [get_app0]; rfl⟩
              rw [hT8]
              clear hT8
              refine V_draw [0, 1, 2, 3, 4, 5, 6, 7, 8, 9, 10, 11, 12, 13, 14, 16, 15, 17, 18, 19, 20, 21, 22, 23, 24, 25, 26, 27, 28, 29, 30, 31, 32, 33] (by kernel_rfl) (.cons rfl <| .cons rfl <| .cons rfl <| .cons rfl <| .cons rfl <| .cons rfl <| .cons rfl <| .cons rfl <| .cons rfl <| .cons rfl <| .cons rfl <| .cons rfl <| .cons rfl <| .cons rfl <| .cons rfl <| .cons rfl <| .cons rfl <| .cons rfl <| .cons rfl <| .cons rfl <| .cons rfl <| .cons rfl <| .cons rfl <| .cons rfl <| .cons rfl <| .cons rfl <| .cons rfl <| .cons rfl <| .cons rfl <| .cons rfl <| .cons rfl <| .cons rfl <| .cons rfl <| .cons rfl <| .nil) ?_
              have gA := (hA.ext (e1.trans (e2.trans (e3.trans (e4.trans (e5.trans (e6.trans (e7.trans e8)))))))).get
              have ga1_ := (ha1_.ext (e3.trans (e4.trans (e5.trans (e6.trans (e7.trans e8)))))).get
              have gb1_ := (hb1_.ext (e3.trans (e4.trans (e5.trans (e6.trans (e7.trans e8)))))).get
              have ga2_ := (ha2_.ext (e5.trans (e6.trans (e7.trans e8)))).get
              have gb2_ := (hb2_.ext (e5.trans (e6.trans (e7.trans e8)))).get
              have gm1_ := (hm1_.ext (e7.trans e8)).get
              have gm2_ := (hm2_.ext Ext.refl).get
              simp (disch := first | assumption | omega | (simp only [lens]; omega)) only [eqs, ↓gvd_succ, ↓gvd_zero, ↓and_of, im_of, im_of trivial, vals, lsts, tys, hP, hst, initS, Nat.reduceBEq, Nat.reduceAdd, Nat.reduceMul, Nat.reduceSub, Nat.reduceDiv, Nat.reduceMod, Nat.reducePow, Nat.reduceLT, Nat.reduceLeDiff, Nat.reduceEqDiff, Int.reduceAdd, Int.reduceSub, Int.reduceNeg, Int.reduceMul, Int.reduceToNat, Int.reducePow, Int.reduceLE, Int.reduceLT, Int.reduceEq, Int.reduceNe, reduceIte, reduceCtorEq, ne_eq, not_true_eq_false, not_false_eq_true, imp_self, implies_true, bls, eq_self, gA, ga1_, gb1_, ga2_, gb2_, gm1_, gm2_]
              refine E_call (hP ▸ z_same) ⟨_, _, _, _, _, rfl, (h_a.ext (e2.trans (e3.trans (e4.trans (e5.trans (e6.trans (e7.trans e8))))))), (h_c.ext (e4.trans (e5.trans (e6.trans (e7.trans e8))))), by omega, fun T9 e9 => ?_⟩
              have gA := (hA.ext (e1.trans (e2.trans (e3.trans (e4.trans (e5.trans (e6.trans (e7.trans (e8.trans e9))))))))).get
              have ga1_ := (ha1_.ext (e3.trans (e4.trans (e5.trans (e6.trans (e7.trans (e8.trans e9))))))).get
              have gb1_ := (hb1_.ext (e3.trans (e4.trans (e5.trans (e6.trans (e7.trans (e8.trans e9))))))).get
              have ga2_ := (ha2_.ext (e5.trans (e6.trans (e7.trans (e8.trans e9))))).get
              have gb2_ := (hb2_.ext (e5.trans (e6.trans (e7.trans (e8.trans e9))))).get
              have gm1_ := (hm1_.ext (e7.trans (e8.trans e9))).get
              have gm2_ := (hm2_.ext e9).get
              simp (disch := first | assumption | omega | (simp only [lens]; omega)) only [eqs, ↓gvd_succ, ↓gvd_zero, ↓and_of, im_of, im_of trivial, vals, lsts, tys, hP, hst, initS, Nat.reduceBEq, Nat.reduceAdd, Nat.reduceMul, Nat.reduceSub, Nat.reduceDiv, Nat.reduceMod, Nat.reducePow, Nat.reduceLT, Nat.reduceLeDiff, Nat.reduceEqDiff, Int.reduceAdd, Int.reduceSub, Int.reduceNeg, Int.reduceMul, Int.reduceToNat, Int.reducePow, Int.reduceLE, Int.reduceLT, Int.reduceEq, Int.reduceNe, reduceIte, reduceCtorEq, ne_eq, not_true_eq_false, not_false_eq_true, imp_self, implies_true, bls, eq_self, gA, ga1_, gb1_, ga2_, gb2_, gm1_, gm2_, beq_self_eq_true]
              refine E_call (hP ▸ z_same) ⟨_, _, _, _, _, rfl, (h_b.ext (e2.trans (e3.trans (e4.trans (e5.trans (e6.trans (e7.trans (e8.trans e9)))))))), (h_d.ext (e4.trans (e5.trans (e6.trans (e7.trans (e8.trans e9)))))), by omega, fun T10 e10 => ?_⟩
              have gA := (hA.ext (e1.trans (e2.trans (e3.trans (e4.trans (e5.trans (e6.trans (e7.trans (e8.trans (e9.trans e10)))))))))).get
              have ga1_ := (ha1_.ext (e3.trans (e4.trans (e5.trans (e6.trans (e7.trans (e8.trans (e9.trans e10)))))))).get
              have gb1_ := (hb1_.ext (e3.trans (e4.trans (e5.trans (e6.trans (e7.trans (e8.trans (e9.trans e10)))))))).get
              have ga2_ := (ha2_.ext (e5.trans (e6.trans (e7.trans (e8.trans (e9.trans e10)))))).get
              have gb2_ := (hb2_.ext (e5.trans (e6.trans (e7.trans (e8.trans (e9.trans e10)))))).get
              have gm1_ := (hm1_.ext (e7.trans (e8.trans (e9.trans e10)))).get
              have gm2_ := (hm2_.ext (e9.trans e10)).get
              simp (disch := first | assumption | omega | (simp only [lens]; omega)) only [eqs, ↓gvd_succ, ↓gvd_zero, ↓and_of, im_of, im_of trivial, vals, lsts, tys, hP, hst, initS, Nat.reduceBEq, Nat.reduceAdd, Nat.reduceMul, Nat.reduceSub, Nat.reduceDiv, Nat.reduceMod, Nat.reducePow, Nat.reduceLT, Nat.reduceLeDiff, Nat.reduceEqDiff, Int.reduceAdd, Int.reduceSub, Int.reduceNeg, Int.reduceMul, Int.reduceToNat, Int.reducePow, Int.reduceLE, Int.reduceLT, Int.reduceEq, Int.reduceNe, reduceIte, reduceCtorEq, ne_eq, not_true_eq_false, not_false_eq_true, imp_self, implies_true, bls, eq_self, gA, ga1_, gb1_, ga2_, gb2_, gm1_, gm2_, beq_self_eq_true]
              refine E_call (hP ▸ z_Text) ⟨_, _, _, rfl, (hX.ext (e0.trans (e1.trans (e2.trans (e3.trans (e4.trans (e5.trans (e6.trans (e7.trans (e8.trans (e9.trans e10))))))))))), by omega, fun T11 e11 => ?_⟩
              have gA := (hA.ext (e1.trans (e2.trans (e3.trans (e4.trans (e5.trans (e6.trans (e7.trans (e8.trans (e9.trans (e10.trans e11))))))))))).get
              have ga1_ := (ha1_.ext (e3.trans (e4.trans (e5.trans (e6.trans (e7.trans (e8.trans (e9.trans (e10.trans e11))))))))).get
              have gb1_ := (hb1_.ext (e3.trans (e4.trans (e5.trans (e6.trans (e7.trans (e8.trans (e9.trans (e10.trans e11))))))))).get
              have ga2_ := (ha2_.ext (e5.trans (e6.trans (e7.trans (e8.trans (e9.trans (e10.trans e11))))))).get
              have gb2_ := (hb2_.ext (e5.trans (e6.trans (e7.trans (e8.trans (e9.trans (e10.trans e11))))))).get
              have gm1_ := (hm1_.ext (e7.trans (e8.trans (e9.trans (e10.trans e11))))).get
              have gm2_ := (hm2_.ext (e9.trans (e10.trans e11))).get
              simp (disch := first | assumption | omega | (simp only [lens]; omega)) only [eqs, ↓gvd_succ, ↓gvd_zero, ↓and_of, im_of, im_of trivial, vals, lsts, tys, hP, hst, initS, Nat.reduceBEq, Nat.reduceAdd, Nat.reduceMul, Nat.reduceSub, Nat.reduceDiv, Nat.reduceMod, Nat.reducePow, Nat.reduceLT, Nat.reduceLeDiff, Nat.reduceEqDiff, Int.reduceAdd, Int.reduceSub, Int.reduceNeg, Int.reduceMul, Int.reduceToNat, Int.reducePow, Int.reduceLE, Int.reduceLT, Int.reduceEq, Int.reduceNe, reduceIte, reduceCtorEq, ne_eq, not_true_eq_false, not_false_eq_true, imp_self, implies_true, bls, eq_self, gA, ga1_, gb1_, ga2_, gb2_, gm1_, gm2_, beq_self_eq_true]
              refine E_call (hP ▸ z_qText) ⟨_, _, _, rfl, (hX.ext (e0.trans (e1.trans (e2.trans (e3.trans (e4.trans (e5.trans (e6.trans (e7.trans (e8.trans (e9.trans (e10.trans e11)))))))))))), by omega, fun T12 e12 => ?_⟩
              have gA := (hA.ext (e1.trans (e2.trans (e3.trans (e4.trans (e5.trans (e6.trans (e7.trans (e8.trans (e9.trans (e10.trans (e11.trans e12)))))))))))).get
              have ga1_ := (ha1_.ext (e3.trans (e4.trans (e5.trans (e6.trans (e7.trans (e8.trans (e9.trans (e10.trans (e11.trans e12)))))))))).get
              have gb1_ := (hb1_.ext (e3.trans (e4.trans (e5.trans (e6.trans (e7.trans (e8.trans (e9.trans (e10.trans (e11.trans e12)))))))))).get
              have ga2_ := (ha2_.ext (e5.trans (e6.trans (e7.trans (e8.trans (e9.trans (e10.trans (e11.trans e12)))))))).get
              have gb2_ := (hb2_.ext (e5.trans (e6.trans (e7.trans (e8.trans (e9.trans (e10.trans (e11.trans e12)))))))).get
              have gm1_ := (hm1_.ext (e7.trans (e8.trans (e9.trans (e10.trans (e11.trans e12)))))).get
              have gm2_ := (hm2_.ext (e9.trans (e10.trans (e11.trans e12)))).get
              simp (disch := first | assumption | omega | (simp only [lens]; omega)) only [eqs, ↓gvd_succ, ↓gvd_zero, ↓and_of, im_of, im_of trivial, vals, lsts, tys, hP, hst, initS, Nat.reduceBEq, Nat.reduceAdd, Nat.reduceMul, Nat.reduceSub, Nat.reduceDiv, Nat.reduceMod, Nat.reducePow, Nat.reduceLT, Nat.reduceLeDiff, Nat.reduceEqDiff, Int.reduceAdd, Int.reduceSub, Int.reduceNeg, Int.reduceMul, Int.reduceToNat, Int.reducePow, Int.reduceLE, Int.reduceLT, Int.reduceEq, Int.reduceNe, reduceIte, reduceCtorEq, ne_eq, not_true_eq_false, not_false_eq_true, imp_self, implies_true, bls, eq_self, gA, ga1_, gb1_, ga2_, gb2_, gm1_, gm2_, beq_self_eq_true]
              refine E_call (hP ▸ z_same) ⟨_, _, _, _, _, rfl, nz_zero, nz_zero, by omega, fun T13 e13 => ?_⟩
              have gA := (hA.ext (e1.trans (e2.trans (e3.trans (e4.trans (e5.trans (e6.trans (e7.trans (e8.trans (e9.trans (e10.trans (e11.trans (e12.trans e13))))))))))))).get
              have ga1_ := (ha1_.ext (e3.trans (e4.trans (e5.trans (e6.trans (e7.trans (e8.trans (e9.trans (e10.trans (e11.trans (e12.trans e13))))))))))).get
              have gb1_ := (hb1_.ext (e3.trans (e4.trans (e5.trans (e6.trans (e7.trans (e8.trans (e9.trans (e10.trans (e11.trans (e12.trans e13))))))))))).get
              have ga2_ := (ha2_.ext (e5.trans (e6.trans (e7.trans (e8.trans (e9.trans (e10.trans (e11.trans (e12.trans e13))))))))).get
              have gb2_ := (hb2_.ext (e5.trans (e6.trans (e7.trans (e8.trans (e9.trans (e10.trans (e11.trans (e12.trans e13))))))))).get
              have gm1_ := (hm1_.ext (e7.trans (e8.trans (e9.trans (e10.trans (e11.trans (e12.trans e13))))))).get
              have gm2_ := (hm2_.ext (e9.trans (e10.trans (e11.trans (e12.trans e13))))).get
              simp (disch := first | assumption | omega | (simp only [lens]; omega)) only [eqs, ↓gvd_succ, ↓gvd_zero, ↓and_of, im_of, im_of trivial, vals, lsts, tys, hP, hst, initS, Nat.reduceBEq, Nat.reduceAdd, Nat.reduceMul, Nat.reduceSub, Nat.reduceDiv, Nat.reduceMod, Nat.reducePow, Nat.reduceLT, Nat.reduceLeDiff, Nat.reduceEqDiff, Int.reduceAdd, Int.reduceSub, Int.reduceNeg, Int.reduceMul, Int.reduceToNat, Int.reducePow, Int.reduceLE, Int.reduceLT, Int.reduceEq, Int.reduceNe, reduceIte, reduceCtorEq, ne_eq, not_true_eq_false, not_false_eq_true, imp_self, implies_true, bls, eq_self, gA, ga1_, gb1_, ga2_, gb2_, gm1_, gm2_, beq_self_eq_true]
              refine E_call (hP ▸ s_klives) ⟨rfl, fun T14 e14 => ?_⟩
              simp (disch := first | assumption | omega | (simp only [lens]; omega)) only [eqs, ↓gvd_succ, ↓gvd_zero, ↓and_of, im_of, im_of trivial, vals, lsts, tys, hP, hst, initS, Nat.reduceBEq, Nat.reduceAdd, Nat.reduceMul, Nat.reduceSub, Nat.reduceDiv, Nat.reduceMod, Nat.reducePow, Nat.reduceLT, Nat.reduceLeDiff, Nat.reduceEqDiff, Int.reduceAdd, Int.reduceSub, Int.reduceNeg, Int.reduceMul, Int.reduceToNat, Int.reducePow, Int.reduceLE, Int.reduceLT, Int.reduceEq, Int.reduceNe, reduceIte, reduceCtorEq, ne_eq, not_true_eq_false, not_false_eq_true, imp_self, implies_true, bls, eq_self]
              exact hK _ (e0.trans (e1.trans (e2.trans (e3.trans (e4.trans (e5.trans (e6.trans (e7.trans (e8.trans (e9.trans (e10.trans (e11.trans (e12.trans (e13.trans e14))))))))))))))
            · refine E_call (hP ▸ z_Parse) ⟨tx, some z, rfl, hp, fun z2 v_m T5 hz e5 h_m => ?_, fun hz => (by cases hz)⟩
              cases hz
              obtain ⟨p_m, rfl, n_m⟩ := h_m.1
              have l_m := n_m.leaf
              have q5 := (e0.trans (e1.trans (e2.trans (e3.trans (e4.trans e5))))).len
              have q5x : st.length ≤ T5.length + 1 := by omega
              have gA := (hA.ext (e1.trans (e2.trans (e3.trans (e4.trans e5))))).get
              have ga1_ := (ha1_.ext (e3.trans (e4.trans e5))).get
              have gb1_ := (hb1_.ext (e3.trans (e4.trans e5))).get
              have ga2_ := (ha2_.ext e5).get
              have gb2_ := (hb2_.ext e5).get
              simp (disch := first | assumption | omega | (simp only [lens]; omega)) only [eqs, ↓gvd_succ, ↓gvd_zero, ↓and_of, im_of, im_of trivial, vals, lsts, tys, hP, hst, initS, Nat.reduceBEq, Nat.reduceAdd, Nat.reduceMul, Nat.reduceSub, Nat.reduceDiv, Nat.reduceMod, Nat.reducePow, Nat.reduceLT, Nat.reduceLeDiff, Nat.reduceEqDiff, Int.reduceAdd, Int.reduceSub, Int.reduceNeg, Int.reduceMul, Int.reduceToNat, Int.reducePow, Int.reduceLE, Int.reduceLT, Int.reduceEq, Int.reduceNe, reduceIte, reduceCtorEq, ne_eq, not_true_eq_false, not_false_eq_true, imp_self, implies_true, bls, eq_self, gA, ga1_, gb1_, ga2_, gb2_, l_m, q5, q5x]
              obtain ⟨T6, hT6⟩ : ∃ S, T5 ++ [some [.val (.bool (decide (z < 0))), p_m]] = S := ⟨_, rfl⟩
              have e6 : Ext T5 T6 := ⟨_, hT6.symm⟩
              have hm1_ : At T6 (T5.length) [.val (.bool (decide (z < 0))), p_m] := ⟨hT6 ▸ by rw [get_app0]; rfl⟩
              rw [hT6]
              clear hT6
              refine E_call (hP ▸ z_qParse) ⟨tx, some z, rfl, hp, fun z2 v_n T7 hz e7 h_n => ?_, fun hz => (by cases hz)⟩
              cases hz
              obtain ⟨p_n, rfl, n_n⟩ := h_n.1
              have l_n := n_n.leaf
              have q7 := (e0.trans (e1.trans (e2.trans (e3.trans (e4.trans (e5.trans (e6.trans e7))))))).len
              have q7x : st.length ≤ T7.length + 1 := by omega
              have gA := (hA.ext (e1.trans (e2.trans (e3.trans (e4.trans (e5.trans (e6.trans e7))))))).get
              have ga1_ := (ha1_.ext (e3.trans (e4.trans (e5.trans (e6.trans e7))))).get
              have gb1_ := (hb1_.ext (e3.trans (e4.trans (e5.trans (e6.trans e7))))).get
              have ga2_ := (ha2_.ext (e5.trans (e6.trans e7))).get
              have gb2_ := (hb2_.ext (e5.trans (e6.trans e7))).get
              have gm1_ := (hm1_.ext e7).get
              simp (disch := first | assumption | omega | (simp only [lens]; omega)) only [eqs, ↓gvd_succ, ↓gvd_zero, ↓and_of, im_of, im_of trivial, vals, lsts, tys, hP, hst, initS, Nat.reduceBEq, Nat.reduceAdd, Nat.reduceMul, Nat.reduceSub, Nat.reduceDiv, Nat.reduceMod, Nat.reducePow, Nat.reduceLT, Nat.reduceLeDiff, Nat.reduceEqDiff, Int.reduceAdd, Int.reduceSub, Int.reduceNeg, Int.reduceMul, Int.reduceToNat, Int.reducePow, Int.reduceLE, Int.reduceLT, Int.reduceEq, Int.reduceNe, reduceIte, reduceCtorEq, ne_eq, not_true_eq_false, not_false_eq_true, imp_self, implies_true, bls, eq_self, gA, ga1_, gb1_, ga2_, gb2_, gm1_, l_n, q7, q7x]
              obtain ⟨T8, hT8⟩ : ∃ S, T7 ++ [some [.val (.bool (decide (z < 0))), p_n]] = S := ⟨_, rfl⟩
              have e8 : Ext T7 T8 := ⟨_, hT8.symm⟩
              have hm2_ : At T8 (T7.length) [.val (.bool (decide (z < 0))), p_n] := ⟨hT8 ▸ by rw [get_app0]; rfl⟩
              rw [hT8]
              clear hT8
              refine V_draw [0, 1, 2, 3, 4, 5, 6, 7, 8, 9, 10, 11, 12, 13, 14, 16, 15, 17, 18, 19, 20, 21, 22, 23, 24, 25, 26, 27, 28, 29, 30, 31, 32, 33] (by kernel_rfl) (.cons rfl <| .cons rfl <| .cons rfl <| .cons rfl <| .cons rfl <| .cons rfl <| .cons rfl <| .cons rfl <| .cons rfl <| .cons rfl <| .cons rfl <| .cons rfl <| .cons rfl <| .cons rfl <| .cons rfl <| .cons rfl <| .cons rfl <| .cons rfl <| .cons rfl <| .cons rfl <| .cons rfl <| .cons rfl <| .cons rfl <| .cons rfl <| .cons rfl <| .cons rfl <| .cons rfl <| .cons rfl <| .cons rfl <| .cons rfl <| .cons rfl <| .cons rfl <| .cons rfl <| .cons rfl <| .nil) ?_
              have gA := (hA.ext (e1.trans (e2.trans (e3.trans (e4.trans (e5.trans (e6.trans (e7.trans e8)))))))).get
              have ga1_ := (ha1_.ext (e3.trans (e4.trans (e5.trans (e6.trans (e7.trans e8)))))).get
              have gb1_ := (hb1_.ext (e3.trans (e4.trans (e5.trans (e6.trans (e7.trans e8)))))).get
              have ga2_ := (ha2_.ext (e5.trans (e6.trans (e7.trans e8)))).get
              have gb2_ := (hb2_.ext (e5.trans (e6.trans (e7.trans e8)))).get
              have gm1_ := (hm1_.ext (e7.trans e8)).get
              have gm2_ := (hm2_.ext Ext.refl).get
              simp (disch := first | assumption | omega | (simp only [lens]; omega)) only [eqs, ↓gvd_succ, ↓gvd_zero, ↓and_of, im_of, im_of trivial, vals, lsts, tys, hP, hst, initS, Nat.reduceBEq, Nat.reduceAdd, Nat.reduceMul, Nat.reduceSub, Nat.reduceDiv, Nat.reduceMod, Nat.reducePow, Nat.reduceLT, Nat.reduceLeDiff, Nat.reduceEqDiff, Int.reduceAdd, Int.reduceSub, Int.reduceNeg, Int.reduceMul, Int.reduceToNat, Int.reducePow, Int.reduceLE, Int.reduceLT, Int.reduceEq, Int.reduceNe, reduceIte, reduceCtorEq, ne_eq, not_true_eq_false, not_false_eq_true, imp_self, implies_true, bls, eq_self, gA, ga1_, gb1_, ga2_, gb2_, gm1_, gm2_]
              refine E_call (hP ▸ z_same) ⟨_, _, _, _, _, rfl, (h_a.ext (e2.trans (e3.trans (e4.trans (e5.trans (e6.trans (e7.trans e8))))))), (h_c.ext (e4.trans (e5.trans (e6.trans (e7.trans e8))))), by omega, fun T9 e9 => ?_⟩
              have gA := (hA.ext (e1.trans (e2.trans (e3.trans (e4.trans (e5.trans (e6.trans (e7.trans (e8.trans e9))))))))).get
              have ga1_ := (ha1_.ext (e3.trans (e4.trans (e5.trans (e6.trans (e7.trans (e8.trans e9))))))).get
              have gb1_ := (hb1_.ext (e3.trans (e4.trans (e5.trans (e6.trans (e7.trans (e8.trans e9))))))).get
              have ga2_ := (ha2_.ext (e5.trans (e6.trans (e7.trans (e8.trans e9))))).get
              have gb2_ := (hb2_.ext (e5.trans (e6.trans (e7.trans (e8.trans e9))))).get
              have gm1_ := (hm1_.ext (e7.trans (e8.trans e9))).get
              have gm2_ := (hm2_.ext e9).get
              simp (disch := first | assumption | omega | (simp only [lens]; omega)) only [eqs, ↓gvd_succ, ↓gvd_zero, ↓and_of, im_of, im_of trivial, vals, lsts, tys, hP, hst, initS, Nat.reduceBEq, Nat.reduceAdd, Nat.reduceMul, Nat.reduceSub, Nat.reduceDiv, Nat.reduceMod, Nat.reducePow, Nat.reduceLT, Nat.reduceLeDiff, Nat.reduceEqDiff, Int.reduceAdd, Int.reduceSub, Int.reduceNeg, Int.reduceMul, Int.reduceToNat, Int.reducePow, Int.reduceLE, Int.reduceLT, Int.reduceEq, Int.reduceNe, reduceIte, reduceCtorEq, ne_eq, not_true_eq_false, not_false_eq_true, imp_self, implies_true, bls, eq_self, gA, ga1_, gb1_, ga2_, gb2_, gm1_, gm2_, beq_self_eq_true]
              refine E_call (hP ▸ z_same) ⟨_, _, _, _, _, rfl, (h_b.ext (e2.trans (e3.trans (e4.trans (e5.trans (e6.trans (e7.trans (e8.trans e9)))))))), (h_d.ext (e4.trans (e5.trans (e6.trans (e7.trans (e8.trans e9)))))), by omega, fun T10 e10 => ?_⟩
              have gA := (hA.ext (e1.trans (e2.trans (e3.trans (e4.trans (e5.trans (e6.trans (e7.trans (e8.trans (e9.trans e10)))))))))).get
              have ga1_ := (ha1_.ext (e3.trans (e4.trans (e5.trans (e6.trans (e7.trans (e8.trans (e9.trans e10)))))))).get
              have gb1_ := (hb1_.ext (e3.trans (e4.trans (e5.trans (e6.trans (e7.trans (e8.trans (e9.trans e10)))))))).get
              have ga2_ := (ha2_.ext (e5.trans (e6.trans (e7.trans (e8.trans (e9.trans e10)))))).get
              have gb2_ := (hb2_.ext (e5.trans (e6.trans (e7.trans (e8.trans (e9.trans e10)))))).get
              have gm1_ := (hm1_.ext (e7.trans (e8.trans (e9.trans e10)))).get
              have gm2_ := (hm2_.ext (e9.trans e10)).get
              simp (disch := first | assumption | omega | (simp only [lens]; omega)) only [eqs, ↓gvd_succ, ↓gvd_zero, ↓and_of, im_of, im_of trivial, vals, lsts, tys, hP, hst, initS, Nat.reduceBEq, Nat.reduceAdd, Nat.reduceMul, Nat.reduceSub, Nat.reduceDiv, Nat.reduceMod, Nat.reducePow, Nat.reduceLT, Nat.reduceLeDiff, Nat.reduceEqDiff, Int.reduceAdd, Int.reduceSub, Int.reduceNeg, Int.reduceMul, Int.reduceToNat, Int.reducePow, Int.reduceLE, Int.reduceLT, Int.reduceEq, Int.reduceNe, reduceIte, reduceCtorEq, ne_eq, not_true_eq_false, not_false_eq_true, imp_self, implies_true, bls, eq_self, gA, ga1_, gb1_, ga2_, gb2_, gm1_, gm2_, beq_self_eq_true]
              refine E_call (hP ▸ z_Text) ⟨_, _, _, rfl, (hX.ext (e0.trans (e1.trans (e2.trans (e3.trans (e4.trans (e5.trans (e6.trans (e7.trans (e8.trans (e9.trans e10))))))))))), by omega, fun T11 e11 => ?_⟩
              have gA := (hA.ext (e1.trans (e2.trans (e3.trans (e4.trans (e5.trans (e6.trans (e7.trans (e8.trans (e9.trans (e10.trans e11))))))))))).get
              have ga1_ := (ha1_.ext (e3.trans (e4.trans (e5.trans (e6.trans (e7.trans (e8.trans (e9.trans (e10.trans e11))))))))).get
              have gb1_ := (hb1_.ext (e3.trans (e4.trans (e5.trans (e6.trans (e7.trans (e8.trans (e9.trans (e10.trans e11))))))))).get
              have ga2_ := (ha2_.ext (e5.trans (e6.trans (e7.trans (e8.trans (e9.trans (e10.trans e11))))))).get
              have gb2_ := (hb2_.ext (e5.trans (e6.trans (e7.trans (e8.trans (e9.trans (e10.trans e11))))))).get
              have gm1_ := (hm1_.ext (e7.trans (e8.trans (e9.trans (e10.trans e11))))).get
              have gm2_ := (hm2_.ext (e9.trans (e10.trans e11))).get
              simp (disch := first | assumption | omega | (simp only [lens]; omega)) only [eqs, ↓gvd_succ, ↓gvd_zero, ↓and_of, im_of, im_of trivial, vals, lsts, tys, hP, hst, initS, Nat.reduceBEq, Nat.reduceAdd, Nat.reduceMul, Nat.reduceSub, Nat.reduceDiv, Nat.reduceMod, Nat.reducePow, Nat.reduceLT, Nat.reduceLeDiff, Nat.reduceEqDiff, Int.reduceAdd, Int.reduceSub, Int.reduceNeg, Int.reduceMul, Int.reduceToNat, Int.reducePow, Int.reduceLE, Int.reduceLT, Int.reduceEq, Int.reduceNe, reduceIte, reduceCtorEq, ne_eq, not_true_eq_false, not_false_eq_true, imp_self, implies_true, bls, eq_self, gA, ga1_, gb1_, ga2_, gb2_, gm1_, gm2_, beq_self_eq_true]
              refine E_call (hP ▸ z_qText) ⟨_, _, _, rfl, (hX.ext (e0.trans (e1.trans (e2.trans (e3.trans (e4.trans (e5.trans (e6.trans (e7.trans (e8.trans (e9.trans (e10.trans e11)))))))))))), by omega, fun T12 e12 => ?_⟩
              have gA := (hA.ext (e1.trans (e2.trans (e3.trans (e4.trans (e5.trans (e6.trans (e7.trans (e8.trans (e9.trans (e10.trans (e11.trans e12)))))))))))).get
              have ga1_ := (ha1_.ext (e3.trans (e4.trans (e5.trans (e6.trans (e7.trans (e8.trans (e9.trans (e10.trans (e11.trans e12)))))))))).get
              have gb1_ := (hb1_.ext (e3.trans (e4.trans (e5.trans (e6.trans (e7.trans (e8.trans (e9.trans (e10.trans (e11.trans e12)))))))))).get
              have ga2_ := (ha2_.ext (e5.trans (e6.trans (e7.trans (e8.trans (e9.trans (e10.trans (e11.trans e12)))))))).get
              have gb2_ := (hb2_.ext (e5.trans (e6.trans (e7.trans (e8.trans (e9.trans (e10.trans (e11.trans e12)))))))).get
              have gm1_ := (hm1_.ext (e7.trans (e8.trans (e9.trans (e10.trans (e11.trans e12)))))).get
              have gm2_ := (hm2_.ext (e9.trans (e10.trans (e11.trans e12)))).get
              simp (disch := first | assumption | omega | (simp only [lens]; omega)) only [eqs, ↓gvd_succ, ↓gvd_zero, ↓and_of, im_of, im_of trivial, vals, lsts, tys, hP, hst, initS, Nat.reduceBEq, Nat.reduceAdd, Nat.reduceMul, Nat.reduceSub, Nat.reduceDiv, Nat.reduceMod, Nat.reducePow, Nat.reduceLT, Nat.reduceLeDiff, Nat.reduceEqDiff, Int.reduceAdd, Int.reduceSub, Int.reduceNeg, Int.reduceMul, Int.reduceToNat, Int.reducePow, Int.reduceLE, Int.reduceLT, Int.reduceEq, Int.reduceNe, reduceIte, reduceCtorEq, ne_eq, not_true_eq_false, not_false_eq_true, imp_self, implies_true, bls, eq_self, gA, ga1_, gb1_, ga2_, gb2_, gm1_, gm2_, beq_self_eq_true]
              refine E_call (hP ▸ z_same) ⟨_, _, _, _, _, rfl, (h_m.ext (e6.trans (e7.trans (e8.trans (e9.trans (e10.trans (e11.trans e12))))))), (h_n.ext (e8.trans (e9.trans (e10.trans (e11.trans e12))))), by omega, fun T13 e13 => ?_⟩
              have gA := (hA.ext (e1.trans (e2.trans (e3.trans (e4.trans (e5.trans (e6.trans (e7.trans (e8.trans (e9.trans (e10.trans (e11.trans (e12.trans e13))))))))))))).get
              have ga1_ := (ha1_.ext (e3.trans (e4.trans (e5.trans (e6.trans (e7.trans (e8.trans (e9.trans (e10.trans (e11.trans (e12.trans e13))))))))))).get
              have gb1_ := (hb1_.ext (e3.trans (e4.trans (e5.trans (e6.trans (e7.trans (e8.trans (e9.trans (e10.trans (e11.trans (e12.trans e13))))))))))).get
              have ga2_ := (ha2_.ext (e5.trans (e6.trans (e7.trans (e8.trans (e9.trans (e10.trans (e11.trans (e12.trans e13))))))))).get
              have gb2_ := (hb2_.ext (e5.trans (e6.trans (e7.trans (e8.trans (e9.trans (e10.trans (e11.trans (e12.trans e13))))))))).get
              have gm1_ := (hm1_.ext (e7.trans (e8.trans (e9.trans (e10.trans (e11.trans (e12.trans e13))))))).get
              have gm2_ := (hm2_.ext (e9.trans (e10.trans (e11.trans (e12.trans e13))))).get
              simp (disch := first | assumption | omega | (simp only [lens]; omega)) only [eqs, ↓gvd_succ, ↓gvd_zero, ↓and_of, im_of, im_of trivial, vals, lsts, tys, hP, hst, initS, Nat.reduceBEq, Nat.reduceAdd, Nat.reduceMul, Nat.reduceSub, Nat.reduceDiv, Nat.reduceMod, Nat.reducePow, Nat.reduceLT, Nat.reduceLeDiff, Nat.reduceEqDiff, Int.reduceAdd, Int.reduceSub, Int.reduceNeg, Int.reduceMul, Int.reduceToNat, Int.reducePow, Int.reduceLE, Int.reduceLT, Int.reduceEq, Int.reduceNe, reduceIte, reduceCtorEq, ne_eq, not_true_eq_false, not_false_eq_true, imp_self, implies_true, bls, eq_self, gA, ga1_, gb1_, ga2_, gb2_, gm1_, gm2_, beq_self_eq_true]
              refine E_call (hP ▸ s_klives) ⟨rfl, fun T14 e14 => ?_⟩
              simp (disch := first | assumption | omega | (simp only [lens]; omega)) only [eqs, ↓gvd_succ, ↓gvd_zero, ↓and_of, im_of, im_of trivial, vals, lsts, tys, hP, hst, initS, Nat.reduceBEq, Nat.reduceAdd, Nat.reduceMul, Nat.reduceSub, Nat.reduceDiv, Nat.reduceMod, Nat.reducePow, Nat.reduceLT, Nat.reduceLeDiff, Nat.reduceEqDiff, Int.reduceAdd, Int.reduceSub, Int.reduceNeg, Int.reduceMul, Int.reduceToNat, Int.reducePow, Int.reduceLE, Int.reduceLT, Int.reduceEq, Int.reduceNe, reduceIte, reduceCtorEq, ne_eq, not_true_eq_false, not_false_eq_true, imp_self, implies_true, bls, eq_self]
              exact hK _ (e0.trans (e1.trans (e2.trans (e3.trans (e4.trans (e5.trans (e6.trans (e7.trans (e8.trans (e9.trans (e10.trans (e11.trans (e12.trans (e13.trans e14))))))))))))))
      · simp (disch := first | assumption | omega | (simp only [lens]; omega)) only [eqs, ↓gvd_succ, ↓gvd_zero, ↓and_of, im_of, im_of trivial, vals, lsts, tys, hP, hst, initS, Nat.reduceBEq, Nat.reduceAdd, Nat.reduceMul, Nat.reduceSub, Nat.reduceDiv, Nat.reduceMod, Nat.reducePow, Nat.reduceLT, Nat.reduceLeDiff, Nat.reduceEqDiff, Int.reduceAdd, Int.reduceSub, Int.reduceNeg, Int.reduceMul, Int.reduceToNat, Int.reducePow, Int.reduceLE, Int.reduceLT, Int.reduceEq, Int.reduceNe, reduceIte, reduceCtorEq, ne_eq, not_true_eq_false, not_false_eq_true, imp_self, implies_true, bls, eq_self, h3]
        have gA := (hA.ext Ext.refl).get
        simp (disch := first | assumption | omega | (simp only [lens]; omega)) only [eqs, ↓gvd_succ, ↓gvd_zero, ↓and_of, im_of, im_of trivial, vals, lsts, tys, hP, hst, initS, Nat.reduceBEq, Nat.reduceAdd, Nat.reduceMul, Nat.reduceSub, Nat.reduceDiv, Nat.reduceMod, Nat.reducePow, Nat.reduceLT, Nat.reduceLeDiff, Nat.reduceEqDiff, Int.reduceAdd, Int.reduceSub, Int.reduceNeg, Int.reduceMul, Int.reduceToNat, Int.reducePow, Int.reduceLE, Int.reduceLT, Int.reduceEq, Int.reduceNe, reduceIte, reduceCtorEq, ne_eq, not_true_eq_false, not_false_eq_true, imp_self, implies_true, bls, eq_self, gA]
        refine E_call (hP ▸ z_Root) ⟨_, _, _, rfl, (hX.ext e0), by omega, fun hn T1 e1 => ?_, fun hn v_a v_b T1 e1 h_a h_b => ?_⟩
        · unfold zeroI
          have q1 := (e0.trans e1).len
          have q1x : st.length ≤ T1.length + 1 := by omega
          have gA := (hA.ext e1).get
          simp (disch := first | assumption | omega | (simp only [lens]; omega)) only [eqs, ↓gvd_succ, ↓gvd_zero, ↓and_of, im_of, im_of trivial, vals, lsts, tys, hP, hst, initS, Nat.reduceBEq, Nat.reduceAdd, Nat.reduceMul, Nat.reduceSub, Nat.reduceDiv, Nat.reduceMod, Nat.reducePow, Nat.reduceLT, Nat.reduceLeDiff, Nat.reduceEqDiff, Int.reduceAdd, Int.reduceSub, Int.reduceNeg, Int.reduceMul, Int.reduceToNat, Int.reducePow, Int.reduceLE, Int.reduceLT, Int.reduceEq, Int.reduceNe, reduceIte, reduceCtorEq, ne_eq, not_true_eq_false, not_false_eq_true, imp_self, implies_true, bls, eq_self, gA, q1, q1x]
          obtain ⟨T2, hT2⟩ : ∃ S, T1 ++ [some [.val (.bool false), .val (.slice none 0 0)], some [.val (.bool false), .val (.slice none 0 0)]] = S := ⟨_, rfl⟩
          have e2 : Ext T1 T2 := ⟨_, hT2.symm⟩
          have ha1_ : At T2 (T1.length) [.val (.bool false), .val (.slice none 0 0)] := ⟨hT2 ▸ by rw [get_app0]; rfl⟩
          have hb1_ : At T2 (T1.length + 1) [.val (.bool false), .val (.slice none 0 0)] := ⟨hT2 ▸ by rw [get_app]; rfl⟩
          rw [hT2]
          clear hT2
          have gA := (hA.ext (e1.trans e2)).get
          have ga1_ := (ha1_.ext Ext.refl).get
          have gb1_ := (hb1_.ext Ext.refl).get
          simp (disch := first | assumption | omega | (simp only [lens]; omega)) only [eqs, ↓gvd_succ, ↓gvd_zero, ↓and_of, im_of, im_of trivial, vals, lsts, tys, hP, hst, initS, Nat.reduceBEq, Nat.reduceAdd, Nat.reduceMul, Nat.reduceSub, Nat.reduceDiv, Nat.reduceMod, Nat.reducePow, Nat.reduceLT, Nat.reduceLeDiff, Nat.reduceEqDiff, Int.reduceAdd, Int.reduceSub, Int.reduceNeg, Int.reduceMul, Int.reduceToNat, Int.reducePow, Int.reduceLE, Int.reduceLT, Int.reduceEq, Int.reduceNe, reduceIte, reduceCtorEq, ne_eq, not_true_eq_false, not_false_eq_true, imp_self, implies_true, bls, eq_self, gA, ga1_, gb1_]
          refine E_call (hP ▸ z_qRoot) ⟨_, _, _, rfl, (hX.ext (e0.trans (e1.trans e2))), by omega, fun _ T3 e3 => ?_, fun h5 => absurd hn (by omega)⟩
          unfold zeroI
          have q3 := (e0.trans (e1.trans (e2.trans e3))).len
          have q3x : st.length ≤ T3.length + 1 := by omega
          have gA := (hA.ext (e1.trans (e2.trans e3))).get
          have ga1_ := (ha1_.ext e3).get
          have gb1_ := (hb1_.ext e3).get
          simp (disch := first | assumption | omega | (simp only [lens]; omega)) only [eqs, ↓gvd_succ, ↓gvd_zero, ↓and_of, im_of, im_of trivial, vals, lsts, tys, hP, hst, initS, Nat.reduceBEq, Nat.reduceAdd, Nat.reduceMul, Nat.reduceSub, Nat.reduceDiv, Nat.reduceMod, Nat.reducePow, Nat.reduceLT, Nat.reduceLeDiff, Nat.reduceEqDiff, Int.reduceAdd, Int.reduceSub, Int.reduceNeg, Int.reduceMul, Int.reduceToNat, Int.reducePow, Int.reduceLE, Int.reduceLT, Int.reduceEq, Int.reduceNe, reduceIte, reduceCtorEq, ne_eq, not_true_eq_false, not_false_eq_true, imp_self, implies_true, bls, eq_self, gA, ga1_, gb1_, q3, q3x]
          obtain ⟨T4, hT4⟩ : ∃ S, T3 ++ [some [.val (.bool false), .val (.slice none 0 0)], some [.val (.bool false), .val (.slice none 0 0)]] = S := ⟨_, rfl⟩
          have e4 : Ext T3 T4 := ⟨_, hT4.symm⟩
          have ha2_ : At T4 (T3.length) [.val (.bool false), .val (.slice none 0 0)] := ⟨hT4 ▸ by rw [get_app0]; rfl⟩
          have hb2_ : At T4 (T3.length + 1) [.val (.bool false), .val (.slice none 0 0)] := ⟨hT4 ▸ by rw [get_app]; rfl⟩
          rw [hT4]
          clear hT4
          rcases hp : parseI (sb tx) with _ | z
          · refine E_call (hP ▸ z_Parse) ⟨tx, none, rfl, hp, fun z v T hz => (by cases hz), fun _ T5 e5 => ?_⟩
            unfold zeroI
            have q5 := (e0.trans (e1.trans (e2.trans (e3.trans (e4.trans e5))))).len
            have q5x : st.length ≤ T5.length + 1 := by omega
            have gA := (hA.ext (e1.trans (e2.trans (e3.trans (e4.trans e5))))).get
            have ga1_ := (ha1_.ext (e3.trans (e4.trans e5))).get
            have gb1_ := (hb1_.ext (e3.trans (e4.trans e5))).get
            have ga2_ := (ha2_.ext e5).get
            have gb2_ := (hb2_.ext e5).get
            simp (disch := first | assumption | omega | (simp only [lens]; omega)) only [eqs, ↓gvd_succ, ↓gvd_zero, ↓and_of, im_of, im_of trivial, vals, lsts, tys, hP, hst, initS, Nat.reduceBEq, Nat.reduceAdd, Nat.reduceMul, Nat.reduceSub, Nat.reduceDiv, Nat.reduceMod, Nat.reducePow, Nat.reduceLT, Nat.reduceLeDiff, Nat.reduceEqDiff, Int.reduceAdd, Int.reduceSub, Int.reduceNeg, Int.reduceMul, Int.reduceToNat, Int.reducePow, Int.reduceLE, Int.reduceLT, Int.reduceEq, Int.reduceNe, reduceIte, reduceCtorEq, ne_eq, not_true_eq_false, not_false_eq_true, imp_self, implies_true, bls, eq_self, gA, ga1_, gb1_, ga2_, gb2_, q5, q5x]
            obtain ⟨T6, hT6⟩ : ∃ S, T5 ++ [some [.val (.bool false), .val (.slice none 0 0)]] = S := ⟨_, rfl⟩
            have e6 : Ext T5 T6 := ⟨_, hT6.symm⟩
            have hm1_ : At T6 (T5.length) [.val (.bool false), .val (.slice none 0 0)] := ⟨hT6 ▸ by rw [get_app0]; rfl⟩
            rw [hT6]
            clear hT6
            refine E_call (hP ▸ z_qParse) ⟨tx, none, rfl, hp, fun z v T hz => (by cases hz), fun _ T7 e7 => ?_⟩
            unfold zeroI
            have q7 := (e0.trans (e1.trans (e2.trans (e3.trans (e4.trans (e5.trans (e6.trans e7))))))).len
            have q7x : st.length ≤ T7.length + 1 := by omega
            have gA := (hA.ext (e1.trans (e2.trans (e3.trans (e4.trans (e5.trans (e6.trans e7))))))).get
            have ga1_ := (ha1_.ext (e3.trans (e4.trans (e5.trans (e6.trans e7))))).get
            have gb1_ := (hb1_.ext (e3.trans (e4.trans (e5.trans (e6.trans e7))))).get
            have ga2_ := (ha2_.ext (e5.trans (e6.trans e7))).get
            have gb2_ := (hb2_.ext (e5.trans (e6.trans e7))).get
            have gm1_ := (hm1_.ext e7).get
            simp (disch := first | assumption | omega | (simp only [lens]; omega)) only [eqs, ↓gvd_succ, ↓gvd_zero, ↓and_of, im_of, im_of trivial, vals, lsts, tys, hP, hst, initS, Nat.reduceBEq, Nat.reduceAdd, Nat.reduceMul, Nat.reduceSub, Nat.reduceDiv, Nat.reduceMod, Nat.reducePow, Nat.reduceLT, Nat.reduceLeDiff, Nat.reduceEqDiff, Int.reduceAdd, Int.reduceSub, Int.reduceNeg, Int.reduceMul, Int.reduceToNat, Int.reducePow, Int.reduceLE, Int.reduceLT, Int.reduceEq, Int.reduceNe, reduceIte, reduceCtorEq, ne_eq, not_true_eq_false, not_false_eq_true, imp_self, implies_true, bls, eq_self, gA, ga1_, gb1_, ga2_, gb2_, gm1_, q7, q7x]
            obtain ⟨T8, hT8⟩ : ∃ S, T7 ++ [some [.val (.bool false), .val (.slice none 0 0)]] = S := ⟨_, rfl⟩
            have e8 : Ext T7 T8 := ⟨_, hT8.symm⟩
            have hm2_ : At T8 (T7.length) [.val (.bool false), .val (.slice none 0 0)] := ⟨hT8 ▸ by rw [get_app0]; rfl⟩
            rw [hT8]
            clear hT8
            refine V_draw [0, 1, 2, 3, 4, 5, 6, 7, 8, 9, 10, 11, 12, 13, 14, 16, 15, 17, 18, 19, 20, 21, 22, 23, 24, 25, 26, 27, 28, 29, 30, 31, 32, 33] (by kernel_rfl) (.cons rfl <| .cons rfl <| .cons rfl <| .cons rfl <| .cons rfl <| .cons rfl <| .cons rfl <| .cons rfl <| .cons rfl <| .cons rfl <| .cons rfl <| .cons rfl <| .cons rfl <| .cons rfl <| .cons rfl <| .cons rfl <| .cons rfl <| .cons rfl <| .cons rfl <| .cons rfl <| .cons rfl <| .cons rfl <| .cons rfl <| .cons rfl <| .cons rfl <| .cons rfl <| .cons rfl <| .cons rfl <| .cons rfl <| .cons rfl <| .cons rfl <| .cons rfl <| .cons rfl <| .cons rfl <| .nil) ?_
            have gA := (hA.ext (e1.trans (e2.trans (e3.trans (e4.trans (e5.trans (e6.trans (e7.trans e8)))))))).get
            have ga1_ := (ha1_.ext (e3.trans (e4.trans (e5.trans (e6.trans (e7.trans e8)))))).get
            have gb1_ := (hb1_.ext (e3.trans (e4.trans (e5.trans (e6.trans (e7.trans e8)))))).get
            have ga2_ := (ha2_.ext (e5.trans (e6.trans (e7.trans e8)))).get
            have gb2_ := (hb2_.ext (e5.trans (e6.trans (e7.trans e8)))).get
            have gm1_ := (hm1_.ext (e7.trans e8)).get
            have gm2_ := (hm2_.ext Ext.refl).get
            simp (disch := first | assumption | omega | (simp only [lens]; omega)) only [eqs, ↓gvd_succ, ↓gvd_zero, ↓and_of, im_of, im_of trivial, vals, lsts, tys, hP, hst, initS, Nat.reduceBEq, Nat.reduceAdd, Nat.reduceMul, Nat.reduceSub, Nat.reduceDiv, Nat.reduceMod, Nat.reducePow, Nat.reduceLT, Nat.reduceLeDiff, Nat.reduceEqDiff, Int.reduceAdd, Int.reduceSub, Int.reduceNeg, Int.reduceMul, Int.reduceToNat, Int.reducePow, Int.reduceLE, Int.reduceLT, Int.reduceEq, Int.reduceNe, reduceIte, reduceCtorEq, ne_eq, not_true_eq_false, not_false_eq_true, imp_self, implies_true, bls, eq_self, gA, ga1_, gb1_, ga2_, gb2_, gm1_, gm2_]
            refine E_call (hP ▸ z_same) ⟨_, _, _, _, _, rfl, nz_zero, nz_zero, by omega, fun T9 e9 => ?_⟩
            have gA := (hA.ext (e1.trans (e2.trans (e3.trans (e4.trans (e5.trans (e6.trans (e7.trans (e8.trans e9))))))))).get
            have ga1_ := (ha1_.ext (e3.trans (e4.trans (e5.trans (e6.trans (e7.trans (e8.trans e9))))))).get
            have gb1_ := (hb1_.ext (e3.trans (e4.trans (e5.trans (e6.trans (e7.trans (e8.trans e9))))))).get
            have ga2_ := (ha2_.ext (e5.trans (e6.trans (e7.trans (e8.trans e9))))).get
            have gb2_ := (hb2_.ext (e5.trans (e6.trans (e7.trans (e8.trans e9))))).get
            have gm1_ := (hm1_.ext (e7.trans (e8.trans e9))).get
            have gm2_ := (hm2_.ext e9).get
            simp (disch := first | assumption | omega | (simp only [lens]; omega)) only [eqs, ↓gvd_succ, ↓gvd_zero, ↓and_of, im_of, im_of trivial, vals, lsts, tys, hP, hst, initS, Nat.reduceBEq, Nat.reduceAdd, Nat.reduceMul, Nat.reduceSub, Nat.reduceDiv, Nat.reduceMod, Nat.reducePow, Nat.reduceLT, Nat.reduceLeDiff, Nat.reduceEqDiff, Int.reduceAdd, Int.reduceSub, Int.reduceNeg, Int.reduceMul, Int.reduceToNat, Int.reducePow, Int.reduceLE, Int.reduceLT, Int.reduceEq, Int.reduceNe, reduceIte, reduceCtorEq, ne_eq, not_true_eq_false, not_false_eq_true, imp_self, implies_true, bls, eq_self, gA, ga1_, gb1_, ga2_, gb2_, gm1_, gm2_, beq_self_eq_true]
            refine E_call (hP ▸ z_same) ⟨_, _, _, _, _, rfl, nz_zero, nz_zero, by omega, fun T10 e10 => ?_⟩
            have gA := (hA.ext (e1.trans (e2.trans (e3.trans (e4.trans (e5.trans (e6.trans (e7.trans (e8.trans (e9.trans e10)))))))))).get
            have ga1_ := (ha1_.ext (e3.trans (e4.trans (e5.trans (e6.trans (e7.trans (e8.trans (e9.trans e10)))))))).get
            have gb1_ := (hb1_.ext (e3.trans (e4.trans (e5.trans (e6.trans (e7.trans (e8.trans (e9.trans e10)))))))).get
            have ga2_ := (ha2_.ext (e5.trans (e6.trans (e7.trans (e8.trans (e9.trans e10)))))).get
            have gb2_ := (hb2_.ext (e5.trans (e6.trans (e7.trans (e8.trans (e9.trans e10)))))).get
            have gm1_ := (hm1_.ext (e7.trans (e8.trans (e9.trans e10)))).get
            have gm2_ := (hm2_.ext (e9.trans e10)).get
            simp (disch := first | assumption | omega | (simp only [lens]; omega)) only [eqs, ↓gvd_succ, ↓gvd_zero, ↓and_of, im_of, im_of trivial, vals, lsts, tys, hP, hst, initS, Nat.reduceBEq, Nat.reduceAdd, Nat.reduceMul, Nat.reduceSub, Nat.reduceDiv, Nat.reduceMod, Nat.reducePow, Nat.reduceLT, Nat.reduceLeDiff, Nat.reduceEqDiff, Int.reduceAdd, Int.reduceSub, Int.reduceNeg, Int.reduceMul, Int.reduceToNat, Int.reducePow, Int.reduceLE, Int.reduceLT, Int.reduceEq, Int.reduceNe, reduceIte, reduceCtorEq, ne_eq, not_true_eq_false, not_false_eq_true, imp_self, implies_true, bls, eq_self, gA, ga1_, gb1_, ga2_, gb2_, gm1_, gm2_, beq_self_eq_true]
            refine E_call (hP ▸ z_Text) ⟨_, _, _, rfl, (hX.ext (e0.trans (e1.trans (e2.trans (e3.trans (e4.trans (e5.trans (e6.trans (e7.trans (e8.trans (e9.trans e10))))))))))), by omega, fun T11 e11 => ?_⟩
            have gA := (hA.ext (e1.trans (e2.trans (e3.trans (e4.trans (e5.trans (e6.trans (e7.trans (e8.trans (e9.trans (e10.trans e11))))))))))).get
            have ga1_ := (ha1_.ext (e3.trans (e4.trans (e5.trans (e6.trans (e7.trans (e8.trans (e9.trans (e10.trans e11))))))))).get
            have gb1_ := (hb1_.ext (e3.trans (e4.trans (e5.trans (e6.trans (e7.trans (e8.trans (e9.trans (e10.trans e11))))))))).get
            have ga2_ := (ha2_.ext (e5.trans (e6.trans (e7.trans (e8.trans (e9.trans (e10.trans e11))))))).get
            have gb2_ := (hb2_.ext (e5.trans (e6.trans (e7.trans (e8.trans (e9.trans (e10.trans e11))))))).get
            have gm1_ := (hm1_.ext (e7.trans (e8.trans (e9.trans (e10.trans e11))))).get
            have gm2_ := (hm2_.ext (e9.trans (e10.trans e11))).get
            simp (disch := first | assumption | omega | (simp only [lens]; omega)) only [eqs, ↓gvd_succ, ↓gvd_zero, ↓and_of, im_of, im_of trivial, vals, lsts, tys, hP, hst, initS, Nat.reduceBEq, Nat.reduceAdd, Nat.reduceMul, Nat.reduceSub, Nat.reduceDiv, Nat.reduceMod, Nat.reducePow, Nat.reduceLT, Nat.reduceLeDiff, Nat.reduceEqDiff, Int.reduceAdd, Int.reduceSub, Int.reduceNeg, Int.reduceMul, Int.reduceToNat, Int.reducePow, Int.reduceLE, Int.reduceLT, Int.reduceEq, Int.reduceNe, reduceIte, reduceCtorEq, ne_eq, not_true_eq_false, not_false_eq_true, imp_self, implies_true, bls, eq_self, gA, ga1_, gb1_, ga2_, gb2_, gm1_, gm2_, beq_self_eq_true]
            refine E_call (hP ▸ z_qText) ⟨_, _, _, rfl, (hX.ext (e0.trans (e1.trans (e2.trans (e3.trans (e4.trans (e5.trans (e6.trans (e7.trans (e8.trans (e9.trans (e10.trans e11)))))))))))), by omega, fun T12 e12 => ?_⟩
            have gA := (hA.ext (e1.trans (e2.trans (e3.trans (e4.trans (e5.trans (e6.trans (e7.trans (e8.trans (e9.trans (e10.trans (e11.trans e12)))))))))))).get
            have ga1_ := (ha1_.ext (e3.trans (e4.trans (e5.trans (e6.trans (e7.trans (e8.trans (e9.trans (e10.trans (e11.trans e12)))))))))).get
            have gb1_ := (hb1_.ext (e3.trans (e4.trans (e5.trans (e6.trans (e7.trans (e8.trans (e9.trans (e10.trans (e11.trans e12)))))))))).get
            have ga2_ := (ha2_.ext (e5.trans (e6.trans (e7.trans (e8.trans (e9.trans (e10.trans (e11.trans e12)))))))).get
            have gb2_ := (hb2_.ext (e5.trans (e6.trans (e7.trans (e8.trans (e9.trans (e10.trans (e11.trans e12)))))))).get
            have gm1_ := (hm1_.ext (e7.trans (e8.trans (e9.trans (e10.trans (e11.trans e12)))))).get
            have gm2_ := (hm2_.ext (e9.trans (e10.trans (e11.trans e12)))).get
            simp (disch := first | assumption | omega | (simp only [lens]; omega)) only [eqs, ↓gvd_succ, ↓gvd_zero, ↓and_of, im_of, im_of trivial, vals, lsts, tys, hP, hst, initS, Nat.reduceBEq, Nat.reduceAdd, Nat.reduceMul, Nat.reduceSub, Nat.reduceDiv, Nat.reduceMod, Nat.reducePow, Nat.reduceLT, Nat.reduceLeDiff, Nat.reduceEqDiff, Int.reduceAdd, Int.reduceSub, Int.reduceNeg, Int.reduceMul, Int.reduceToNat, Int.reducePow, Int.reduceLE, Int.reduceLT, Int.reduceEq, Int.reduceNe, reduceIte, reduceCtorEq, ne_eq, not_true_eq_false, not_false_eq_true, imp_self, implies_true, bls, eq_self, gA, ga1_, gb1_, ga2_, gb2_, gm1_, gm2_, beq_self_eq_true]
            refine E_call (hP ▸ z_same) ⟨_, _, _, _, _, rfl, nz_zero, nz_zero, by omega, fun T13 e13 => ?_⟩
            have gA := (hA.ext (e1.trans (e2.trans (e3.trans (e4.trans (e5.trans (e6.trans (e7.trans (e8.trans (e9.trans (e10.trans (e11.trans (e12.trans e13))))))))))))).get
            have ga1_ := (ha1_.ext (e3.trans (e4.trans (e5.trans (e6.trans (e7.trans (e8.trans (e9.trans (e10.trans (e11.trans (e12.trans e13))))))))))).get
            have gb1_ := (hb1_.ext (e3.trans (e4.trans (e5.trans (e6.trans (e7.trans (e8.trans (e9.trans (e10.trans (e11.trans (e12.trans e13))))))))))).get
            have ga2_ := (ha2_.ext (e5.trans (e6.trans (e7.trans (e8.trans (e9.trans (e10.trans (e11.trans (e12.trans e13))))))))).get
            have gb2_ := (hb2_.ext (e5.trans (e6.trans (e7.trans (e8.trans (e9.trans (e10.trans (e11.trans (e12.trans e13))))))))).get
            have gm1_ := (hm1_.ext (e7.trans (e8.trans (e9.trans (e10.trans (e11.trans (e12.trans e13))))))).get
            have gm2_ := (hm2_.ext (e9.trans (e10.trans (e11.trans (e12.trans e13))))).get
            simp (disch := first | assumption | omega | (simp only [lens]; omega)) only [eqs, ↓gvd_succ, ↓gvd_zero, ↓and_of, im_of, im_of trivial, vals, lsts, tys, hP, hst, initS, Nat.reduceBEq, Nat.reduceAdd, Nat.reduceMul, Nat.reduceSub, Nat.reduceDiv, Nat.reduceMod, Nat.reducePow, Nat.reduceLT, Nat.reduceLeDiff, Nat.reduceEqDiff, Int.reduceAdd, Int.reduceSub, Int.reduceNeg, Int.reduceMul, Int.reduceToNat, Int.reducePow, Int.reduceLE, Int.reduceLT, Int.reduceEq, Int.reduceNe, reduceIte, reduceCtorEq, ne_eq, not_true_eq_false, not_false_eq_true, imp_self, implies_true, bls, eq_self, gA, ga1_, gb1_, ga2_, gb2_, gm1_, gm2_, beq_self_eq_true]
            refine E_call (hP ▸ s_klives) ⟨rfl, fun T14 e14 => ?_⟩
            simp (disch := first | assumption | omega | (simp only [lens]; omega)) only [eqs, ↓gvd_succ, ↓gvd_zero, ↓and_of, im_of, im_of trivial, vals, lsts, tys, hP, hst, initS, Nat.reduceBEq, Nat.reduceAdd, Nat.reduceMul, Nat.reduceSub, Nat.reduceDiv, Nat.reduceMod, Nat.reducePow, Nat.reduceLT, Nat.reduceLeDiff, Nat.reduceEqDiff, Int.reduceAdd, Int.reduceSub, Int.reduceNeg, Int.reduceMul, Int.reduceToNat, Int.reducePow, Int.reduceLE, Int.reduceLT, Int.reduceEq, Int.reduceNe, reduceIte, reduceCtorEq, ne_eq, not_true_eq_false, not_false_eq_true, imp_self, implies_true, bls, eq_self]
            exact hK _ (e0.trans (e1.trans (e2.trans (e3.trans (e4.trans (e5.trans (e6.trans (e7.trans (e8.trans (e9.trans (e10.trans (e11.trans (e12.trans (e13.trans e14))))))))))))))
          · refine E_call (hP ▸ z_Parse) ⟨tx, some z, rfl, hp, fun z2 v_m T5 hz e5 h_m => ?_, fun hz => (by cases hz)⟩
            cases hz
            obtain ⟨p_m, rfl, n_m⟩ := h_m.1
            have l_m := n_m.leaf
            have q5 := (e0.trans (e1.trans (e2.trans (e3.trans (e4.trans e5))))).len
            have q5x : st.length ≤ T5.length + 1 := by omega
            have gA := (hA.ext (e1.trans (e2.trans (e3.trans (e4.trans e5))))).get
            have ga1_ := (ha1_.ext (e3.trans (e4.trans e5))).get
            have gb1_ := (hb1_.ext (e3.trans (e4.trans e5))).get
            have ga2_ := (ha2_.ext e5).get
            have gb2_ := (hb2_.ext e5).get
            simp (disch := first | assumption | omega | (simp only [lens]; omega)) only [eqs, ↓gvd_succ, ↓gvd_zero, ↓and_of, im_of, im_of trivial, vals, lsts, tys, hP, hst, initS, Nat.reduceBEq, Nat.reduceAdd, Nat.reduceMul, Nat.reduceSub, Nat.reduceDiv, Nat.reduceMod, Nat.reducePow, Nat.reduceLT, Nat.reduceLeDiff, Nat.reduceEqDiff, Int.reduceAdd, Int.reduceSub, Int.reduceNeg, Int.reduceMul, Int.reduceToNat, Int.reducePow, Int.reduceLE, Int.reduceLT, Int.reduceEq, Int.reduceNe, reduceIte, reduceCtorEq, ne_eq, not_true_eq_false, not_false_eq_true, imp_self, implies_true, bls, eq_self, gA, ga1_, gb1_, ga2_, gb2_, l_m, q5, q5x]
            obtain ⟨T6, hT6⟩ : ∃ S, T5 ++ [some [.val (.bool (decide (z < 0))), p_m]] = S := ⟨_, rfl⟩
            have e6 : Ext T5 T6 := ⟨_, hT6.symm⟩
            have hm1_ : At T6 (T5.length) [.val (.bool (decide (z < 0))), p_m] := ⟨hT6 ▸ by rw [get_app0]; rfl⟩
            rw [hT6]
            clear hT6
            refine E_call (hP ▸ z_qParse) ⟨tx, some z, rfl, hp, fun z2 v_n T7 hz e7 h_n => ?_, fun hz => (by cases hz)⟩
            cases hz
            obtain ⟨p_n, rfl, n_n⟩ := h_n.1
            have l_n := n_n.leaf
            have q7 := (e0.trans (e1.trans (e2.trans (e3.trans (e4.trans (e5.trans (e6.trans e7))))))).len
            have q7x : st.length ≤ T7.length + 1 := by omega
            have gA := (hA.ext (e1.trans (e2.trans (e3.trans (e4.trans (e5.trans (e6.trans e7))))))).get
            have ga1_ := (ha1_.ext (e3.trans (e4.trans (e5.trans (e6.trans e7))))).get
            have gb1_ := (hb1_.ext (e3.trans (e4.trans (e5.trans (e6.trans e7))))).get
            have ga2_ := (ha2_.ext (e5.trans (e6.trans e7))).get
            have gb2_ := (hb2_.ext (e5.trans (e6.trans e7))).get
            have gm1_ := (hm1_.ext e7).get
            simp (disch := first | assumption | omega | (simp only [lens]; omega)) only [eqs, ↓gvd_succ, ↓gvd_zero, ↓and_of, im_of, im_of trivial, vals, lsts, tys, hP, hst, initS, Nat.reduceBEq, Nat.reduceAdd, Nat.reduceMul, Nat.reduceSub, Nat.reduceDiv, Nat.reduceMod, Nat.reducePow, Nat.reduceLT, Nat.reduceLeDiff, Nat.reduceEqDiff, Int.reduceAdd, Int.reduceSub, Int.reduceNeg, Int.reduceMul, Int.reduceToNat, Int.reducePow, Int.reduceLE, Int.reduceLT, Int.reduceEq, Int.reduceNe, reduceIte, reduceCtorEq, ne_eq, not_true_eq_false, not_false_eq_true, imp_self, implies_true, bls, eq_self, gA, ga1_, gb1_, ga2_, gb2_, gm1_, l_n, q7, q7x]
            obtain ⟨T8, hT8⟩ : ∃ S, T7 ++ [some [.val (.bool (decide (z < 0))), p_n]] = S := ⟨_, rfl⟩
            have e8 : Ext T7 T8 := ⟨_, hT8.symm⟩
            have hm2_ : At T8 (T7.length) [.val (.bool (decide (z < 0))), p_n] := ⟨hT8 ▸ by rw [get_app0]; rfl⟩
            rw [hT8]
            clear hT8
            refine V_draw [0, 1, 2, 3, 4, 5, 6, 7, 8, 9, 10, 11, 12, 13, 14, 16, 15, 17, 18, 19, 20, 21, 22, 23, 24, 25, 26, 27, 28, 29, 30, 31, 32, 33] (by kernel_rfl) (.cons rfl <| .cons rfl <| .cons rfl <| .cons rfl <| .cons rfl <| .cons rfl <| .cons rfl <| .cons rfl <| .cons rfl <| .cons rfl <| .cons rfl <| .cons rfl <| .cons rfl <| .cons rfl <| .cons rfl <| .cons rfl <| .cons rfl <| .cons rfl <| .cons rfl <| .cons rfl <| .cons rfl <| .cons rfl <| .cons rfl <| .cons rfl <| .cons rfl <| .cons rfl <| .cons rfl <| .cons rfl <| .cons rfl <| .cons rfl <| .cons rfl <| .cons rfl <| .cons rfl <| .cons rfl <| .nil) ?_
            have gA := (hA.ext (e1.trans (e2.trans (e3.trans (e4.trans (e5.trans (e6.trans (e7.trans e8)))))))).get
            have ga1_ := (ha1_.ext (e3.trans (e4.trans (e5.trans (e6.trans (e7.trans e8)))))).get
            have gb1_ := (hb1_.ext (e3.trans (e4.trans (e5.trans (e6.trans (e7.trans e8)))))).get
            have ga2_ := (ha2_.ext (e5.trans (e6.trans (e7.trans e8)))).get
            have gb2_ := (hb2_.ext (e5.trans (e6.trans (e7.trans e8)))).get
            have gm1_ := (hm1_.ext (e7.trans e8)).get
            have gm2_ := (hm2_.ext Ext.refl).get
            simp (disch := first | assumption | omega | (simp only [lens]; omega)) only [eqs, ↓gvd_succ, ↓gvd_zero, ↓and_of, im_of, im_of trivial, vals, lsts, tys, hP, hst, initS, Nat.reduceBEq, Nat.reduceAdd, Nat.reduceMul, Nat.reduceSub, Nat.reduceDiv, Nat.reduceMod, Nat.reducePow, Nat.reduceLT, Nat.reduceLeDiff, Nat.reduceEqDiff, Int.reduceAdd, Int.reduceSub, Int.reduceNeg, Int.reduceMul, Int.reduceToNat, Int.reducePow, Int.reduceLE, Int.reduceLT, Int.reduceEq, Int.reduceNe, reduceIte, reduceCtorEq, ne_eq, not_true_eq_false, not_false_eq_true, imp_self, implies_true, bls, eq_self, gA, ga1_, gb1_, ga2_, gb2_, gm1_, gm2_]
            refine E_call (hP ▸ z_same) ⟨_, _, _, _, _, rfl, nz_zero, nz_zero, by omega, fun T9 e9 => ?_⟩
            have gA := (hA.ext (e1.trans (e2.trans (e3.trans (e4.trans (e5.trans (e6.trans (e7.trans (e8.trans e9))))))))).get
            have ga1_ := (ha1_.ext (e3.trans (e4.trans (e5.trans (e6.trans (e7.trans (e8.trans e9))))))).get
            have gb1_ := (hb1_.ext (e3.trans (e4.trans (e5.trans (e6.trans (e7.trans (e8.trans e9))))))).get
            have ga2_ := (ha2_.ext (e5.trans (e6.trans (e7.trans (e8.trans e9))))).get
            have gb2_ := (hb2_.ext (e5.trans (e6.trans (e7.trans (e8.trans e9))))).get
            have gm1_ := (hm1_.ext (e7.trans (e8.trans e9))).get
            have gm2_ := (hm2_.ext e9).get
            simp (disch := first | assumption | omega | (simp only [lens]; omega)) only [eqs, ↓gvd_succ, ↓gvd_zero, ↓and_of, im_of, im_of trivial, vals, lsts, tys, hP, hst, initS, Nat.reduceBEq, Nat.reduceAdd, Nat.reduceMul, Nat.reduceSub, Nat.reduceDiv, Nat.reduceMod, Nat.reducePow, Nat.reduceLT, Nat.reduceLeDiff, Nat.reduceEqDiff, Int.reduceAdd, Int.reduceSub, Int.reduceNeg, Int.reduceMul, Int.reduceToNat, Int.reducePow, Int.reduceLE, Int.reduceLT, Int.reduceEq, Int.reduceNe, reduceIte, reduceCtorEq, ne_eq, not_true_eq_false, not_false_eq_true, imp_self, implies_true, bls, eq_self, gA, ga1_, gb1_, ga2_, gb2_, gm1_, gm2_, beq_self_eq_true]
            refine E_call (hP ▸ z_same) ⟨_, _, _, _, _, rfl, nz_zero, nz_zero, by omega, fun T10 e10 => ?_⟩
            have gA := (hA.ext (e1.trans (e2.trans (e3.trans (e4.trans (e5.trans (e6.trans (e7.trans (e8.trans (e9.trans e10)))))))))).get
            have ga1_ := (ha1_.ext (e3.trans (e4.trans (e5.trans (e6.trans (e7.trans (e8.trans (e9.trans e10)))))))).get
            have gb1_ := (hb1_.ext (e3.trans (e4.trans (e5.trans (e6.trans (e7.trans (e8.trans (e9.trans e10)))))))).get
            have ga2_ := (ha2_.ext (e5.trans (e6.trans (e7.trans (e8.trans (e9.trans e10)))))).get
            have gb2_ := (hb2_.ext (e5.trans (e6.trans (e7.trans (e8.trans (e9.trans e10)))))).get
            have gm1_ := (hm1_.ext (e7.trans (e8.trans (e9.trans e10)))).get
            have gm2_ := (hm2_.ext (e9.trans e10)).get
            simp (disch := first | assumption | omega | (simp only [lens]; omega)) only [eqs, ↓gvd_succ, ↓gvd_zero, ↓and_of, im_of, im_of trivial, vals, lsts, tys, hP, hst, initS, Nat.reduceBEq, Nat.reduceAdd, Nat.reduceMul, Nat.reduceSub, Nat.reduceDiv, Nat.reduceMod, Nat.reducePow, Nat.reduceLT, Nat.reduceLeDiff, Nat.reduceEqDiff, Int.reduceAdd, Int.reduceSub, Int.reduceNeg, Int.reduceMul, Int.reduceToNat, Int.reducePow, Int.reduceLE, Int.reduceLT, Int.reduceEq, Int.reduceNe, reduceIte, reduceCtorEq, ne_eq, not_true_eq_false, not_false_eq_true, imp_self, implies_true, bls, eq_self, gA, ga1_, gb1_, ga2_, gb2_, gm1_, gm2_, beq_self_eq_true]
            refine E_call (hP ▸ z_Text) ⟨_, _, _, rfl, (hX.ext (e0.trans (e1.trans (e2.trans (e3.trans (e4.trans (e5.trans (e6.trans (e7.trans (e8.trans (e9.trans e10))))))))))), by omega, fun T11 e11 => ?_⟩
            have gA := (hA.ext (e1.trans (e2.trans (e3.trans (e4.trans (e5.trans (e6.trans (e7.trans (e8.trans (e9.trans (e10.trans e11))))))))))).get
            have ga1_ := (ha1_.ext (e3.trans (e4.trans (e5.trans (e6.trans (e7.trans (e8.trans (e9.trans (e10.trans e11))))))))).get
            have gb1_ := (hb1_.ext (e3.trans (e4.trans (e5.trans (e6.trans (e7.trans (e8.trans (e9.trans (e10.trans e11))))))))).get
            have ga2_ := (ha2_.ext (e5.trans (e6.trans (e7.trans (e8.trans (e9.trans (e10.trans e11))))))).get
            have gb2_ := (hb2_.ext (e5.trans (e6.trans (e7.trans (e8.trans (e9.trans (e10.trans e11))))))).get
            have gm1_ := (hm1_.ext (e7.trans (e8.trans (e9.trans (e10.trans e11))))).get
            have gm2_ := (hm2_.ext (e9.trans (e10.trans e11))).get
            simp (disch := first | assumption | omega | (simp only [lens]; omega)) only [eqs, ↓gvd_succ, ↓gvd_zero, ↓and_of, im_of, im_of trivial, vals, lsts, tys, hP, hst, initS, Nat.reduceBEq, Nat.reduceAdd, Nat.reduceMul, Nat.reduceSub, Nat.reduceDiv, Nat.reduceMod, Nat.reducePow, Nat.reduceLT, Nat.reduceLeDiff, Nat.reduceEqDiff, Int.reduceAdd, Int.reduceSub, Int.reduceNeg, Int.reduceMul, Int.reduceToNat, Int.reducePow, Int.reduceLE, Int.reduceLT, Int.reduceEq, Int.reduceNe, reduceIte, reduceCtorEq, ne_eq, not_true_eq_false, not_false_eq_true, imp_self, implies_true, bls, eq_self, gA, ga1_, gb1_, ga2_, gb2_, gm1_, gm2_, beq_self_eq_true]
            refine E_call (hP ▸ z_qText) ⟨_, _, _, rfl, (hX.ext (e0.trans (e1.trans (e2.trans (e3.trans (e4.trans (e5.trans (e6.trans (e7.trans (e8.trans (e9.trans (e10.trans e11)))))))))))), by omega, fun T12 e12 => ?_⟩
            have gA := (hA.ext (e1.trans (e2.trans (e3.trans (e4.trans (e5.trans (e6.trans (e7.trans (e8.trans (e9.trans (e10.trans (e11.trans e12)))))))))))).get
            have ga1_ := (ha1_.ext (e3.trans (e4.trans (e5.trans (e6.trans (e7.trans (e8.trans (e9.trans (e10.trans (e11.trans e12)))))))))).get
            have gb1_ := (hb1_.ext (e3.trans (e4.trans (e5.trans (e6.trans (e7.trans (e8.trans (e9.trans (e10.trans (e11.trans e12)))))))))).get
            have ga2_ := (ha2_.ext (e5.trans (e6.trans (e7.trans (e8.trans (e9.trans (e10.trans (e11.trans e12)))))))).get
            have gb2_ := (hb2_.ext (e5.trans (e6.trans (e7.trans (e8.trans (e9.trans (e10.trans (e11.trans e12)))))))).get
            have gm1_ := (hm1_.ext (e7.trans (e8.trans (e9.trans (e10.trans (e11.trans e12)))))).get
            have gm2_ := (hm2_.ext (e9.trans (e10.trans (e11.trans e12)))).get
            simp (disch := first | assumption | omega | (simp only [lens]; omega)) only [eqs, ↓gvd_succ, ↓gvd_zero, ↓and_of, im_of, im_of trivial, vals, lsts, tys, hP, hst, initS, Nat.reduceBEq, Nat.reduceAdd, Nat.reduceMul, Nat.reduceSub, Nat.reduceDiv, Nat.reduceMod, Nat.reducePow, Nat.reduceLT, Nat.reduceLeDiff, Nat.reduceEqDiff, Int.reduceAdd, Int.reduceSub, Int.reduceNeg, Int.reduceMul, Int.reduceToNat, Int.reducePow, Int.reduceLE, Int.reduceLT, Int.reduceEq, Int.reduceNe, reduceIte, reduceCtorEq, ne_eq, not_true_eq_false, not_false_eq_true, imp_self, implies_true, bls, eq_self, gA, ga1_, gb1_, ga2_, gb2_, gm1_, gm2_, beq_self_eq_true]
            refine E_call (hP ▸ z_same) ⟨_, _, _, _, _, rfl, (h_m.ext (e6.trans (e7.trans (e8.trans (e9.trans (e10.trans (e11.trans e12))))))), (h_n.ext (e8.trans (e9.trans (e10.trans (e11.trans e12))))), by omega, fun T13 e13 => ?_⟩
            have gA := (hA.ext (e1.trans (e2.trans (e3.trans (e4.trans (e5.trans (e6.trans (e7.trans (e8.trans (e9.trans (e10.trans (e11.trans (e12.trans e13))))))))))))).get
            have ga1_ := (ha1_.ext (e3.trans (e4.trans (e5.trans (e6.trans (e7.trans (e8.trans (e9.trans (e10.trans (e11.trans (e12.trans e13))))))))))).get
            have gb1_ := (hb1_.ext (e3.trans (e4.trans (e5.trans (e6.trans (e7.trans (e8.trans (e9.trans (e10.trans (e11.trans (e12.trans e13))))))))))).get
            have ga2_ := (ha2_.ext (e5.trans (e6.trans (e7.trans (e8.trans (e9.trans (e10.trans (e11.trans (e12.trans e13))))))))).get
            have gb2_ := (hb2_.ext (e5.trans (e6.trans (e7.trans (e8.trans (e9.trans (e10.trans (e11.trans (e12.trans e13))))))))).get
            have gm1_ := (hm1_.ext (e7.trans (e8.trans (e9.trans (e10.trans (e11.trans (e12.trans e13))))))).get
            have gm2_ := (hm2_.ext (e9.trans (e10.trans (e11.trans (e12.trans e13))))).get
            simp (disch := first | assumption | omega | (simp only [lens]; omega)) only [eqs, ↓gvd_succ, ↓gvd_zero, ↓and_of, im_of, im_of trivial, vals, lsts, tys, hP, hst, initS, Nat.reduceBEq, Nat.reduceAdd, Nat.reduceMul, Nat.reduceSub, Nat.reduceDiv, Nat.reduceMod, Nat.reducePow, Nat.reduceLT, Nat.reduceLeDiff, Nat.reduceEqDiff, Int.reduceAdd, Int.reduceSub, Int.reduceNeg, Int.reduceMul, Int.reduceToNat, Int.reducePow, Int.reduceLE, Int.reduceLT, Int.reduceEq, Int.reduceNe, reduceIte, reduceCtorEq, ne_eq, not_true_eq_false, not_false_eq_true, imp_self, implies_true, bls, eq_self, gA, ga1_, gb1_, ga2_, gb2_, gm1_, gm2_, beq_self_eq_true]
            refine E_call (hP ▸ s_klives) ⟨rfl, fun T14 e14 => ?_⟩
            simp (disch := first | assumption | omega | (simp only [lens]; omega)) only [eqs, ↓gvd_succ, ↓gvd_zero, ↓and_of, im_of, im_of trivial, vals, lsts, tys, hP, hst, initS, Nat.reduceBEq, Nat.reduceAdd, Nat.reduceMul, Nat.reduceSub, Nat.reduceDiv, Nat.reduceMod, Nat.reducePow, Nat.reduceLT, Nat.reduceLeDiff, Nat.reduceEqDiff, Int.reduceAdd, Int.reduceSub, Int.reduceNeg, Int.reduceMul, Int.reduceToNat, Int.reducePow, Int.reduceLE, Int.reduceLT, Int.reduceEq, Int.reduceNe, reduceIte, reduceCtorEq, ne_eq, not_true_eq_false, not_false_eq_true, imp_self, implies_true, bls, eq_self]
            exact hK _ (e0.trans (e1.trans (e2.trans (e3.trans (e4.trans (e5.trans (e6.trans (e7.trans (e8.trans (e9.trans (e10.trans (e11.trans (e12.trans (e13.trans e14))))))))))))))
        · obtain ⟨r, hr⟩ : ∃ r, isqrt Zx.natAbs = r := ⟨_, rfl⟩
          rw [hr] at h_a h_b
          obtain ⟨q, hq⟩ : ∃ q, Zx.natAbs - r * r = q := ⟨_, rfl⟩
          rw [hq] at h_b
          obtain ⟨p_a, rfl, n_a⟩ := h_a.1
          have l_a := n_a.leaf
          rw [nat_sgn (g := r)] at h_a ⊢
          obtain ⟨p_b, rfl, n_b⟩ := h_b.1
          have l_b := n_b.leaf
          rw [nat_sgn (g := q)] at h_b ⊢
          have q1 := (e0.trans e1).len
          have q1x : st.length ≤ T1.length + 1 := by omega
          have gA := (hA.ext e1).get
          simp (disch := first | assumption | omega | (simp only [lens]; omega)) only [eqs, ↓gvd_succ, ↓gvd_zero, ↓and_of, im_of, im_of trivial, vals, lsts, tys, hP, hst, initS, Nat.reduceBEq, Nat.reduceAdd, Nat.reduceMul, Nat.reduceSub, Nat.reduceDiv, Nat.reduceMod, Nat.reducePow, Nat.reduceLT, Nat.reduceLeDiff, Nat.reduceEqDiff, Int.reduceAdd, Int.reduceSub, Int.reduceNeg, Int.reduceMul, Int.reduceToNat, Int.reducePow, Int.reduceLE, Int.reduceLT, Int.reduceEq, Int.reduceNe, reduceIte, reduceCtorEq, ne_eq, not_true_eq_false, not_false_eq_true, imp_self, implies_true, bls, eq_self, gA, l_a, l_b, q1, q1x]
          obtain ⟨T2, hT2⟩ : ∃ S, T1 ++ [some [.val (.bool false), p_a], some [.val (.bool false), p_b]] = S := ⟨_, rfl⟩
          have e2 : Ext T1 T2 := ⟨_, hT2.symm⟩
          have ha1_ : At T2 (T1.length) [.val (.bool false), p_a] := ⟨hT2 ▸ by rw [get_app0]; rfl⟩
          have hb1_ : At T2 (T1.length + 1) [.val (.bool false), p_b] := ⟨hT2 ▸ by rw [get_app]; rfl⟩
          rw [hT2]
          clear hT2
          have gA := (hA.ext (e1.trans e2)).get
          have ga1_ := (ha1_.ext Ext.refl).get
          have gb1_ := (hb1_.ext Ext.refl).get
          simp (disch := first | assumption | omega | (simp only [lens]; omega)) only [eqs, ↓gvd_succ, ↓gvd_zero, ↓and_of, im_of, im_of trivial, vals, lsts, tys, hP, hst, initS, Nat.reduceBEq, Nat.reduceAdd, Nat.reduceMul, Nat.reduceSub, Nat.reduceDiv, Nat.reduceMod, Nat.reducePow, Nat.reduceLT, Nat.reduceLeDiff, Nat.reduceEqDiff, Int.reduceAdd, Int.reduceSub, Int.reduceNeg, Int.reduceMul, Int.reduceToNat, Int.reducePow, Int.reduceLE, Int.reduceLT, Int.reduceEq, Int.reduceNe, reduceIte, reduceCtorEq, ne_eq, not_true_eq_false, not_false_eq_true, imp_self, implies_true, bls, eq_self, gA, ga1_, gb1_]
          refine E_call (hP ▸ z_qRoot) ⟨_, _, _, rfl, (hX.ext (e0.trans (e1.trans e2))), by omega, fun h5 => absurd hn (by omega), fun _ v_c v_d T3 e3 h_c h_d => ?_⟩
          rw [hr] at h_c h_d
          rw [hq] at h_d
          obtain ⟨p_c, rfl, n_c⟩ := h_c.1
          have l_c := n_c.leaf
          rw [nat_sgn (g := r)] at h_c ⊢
          obtain ⟨p_d, rfl, n_d⟩ := h_d.1
          have l_d := n_d.leaf
          rw [nat_sgn (g := q)] at h_d ⊢
          have q3 := (e0.trans (e1.trans (e2.trans e3))).len
          have q3x : st.length ≤ T3.length + 1 := by omega
          have gA := (hA.ext (e1.trans (e2.trans e3))).get
          have ga1_ := (ha1_.ext e3).get
          have gb1_ := (hb1_.ext e3).get
          simp (disch := first | assumption | omega | (simp only [lens]; omega)) only [eqs, ↓gvd_succ, ↓gvd_zero, ↓and_of, im_of, im_of trivial, vals, lsts, tys, hP, hst, initS, Nat.reduceBEq, Nat.reduceAdd, Nat.reduceMul, Nat.reduceSub, Nat.reduceDiv, Nat.reduceMod, Nat.reducePow, Nat.reduceLT, Nat.reduceLeDiff, Nat.reduceEqDiff, Int.reduceAdd, Int.reduceSub, Int.reduceNeg, Int.reduceMul, Int.reduceToNat, Int.reducePow, Int.reduceLE, Int.reduceLT, Int.reduceEq, Int.reduceNe, reduceIte, reduceCtorEq, ne_eq, not_true_eq_false, not_false_eq_true, imp_self, implies_true, bls, eq_self, gA, ga1_, gb1_, l_c, l_d, q3, q3x]
          obtain ⟨T4, hT4⟩ : ∃ S, T3 ++ [some [.val (.bool false), p_c], some [.val (.bool false), p_d]] = S := ⟨_, rfl⟩
          have e4 : Ext T3 T4 := ⟨_, hT4.symm⟩
          have ha2_ : At T4 (T3.length) [.val (.bool false), p_c] := ⟨hT4 ▸ by rw [get_app0]; rfl⟩
          have hb2_ : At T4 (T3.length + 1) [.val (.bool false), p_d] := ⟨hT4 ▸ by rw [get_app]; rfl⟩
          rw [hT4]
          clear hT4
          rcases hp : parseI (sb tx) with _ | z
          · refine E_call (hP ▸ z_Parse) ⟨tx, none, rfl, hp, fun z v T hz => (by cases hz), fun _ T5 e5 => ?_⟩
            unfold zeroI
            have q5 := (e0.trans (e1.trans (e2.trans (e3.trans (e4.trans e5))))).len
            have q5x : st.length ≤ T5.length + 1 := by omega
            have gA := (hA.ext (e1.trans (e2.trans (e3.trans (e4.trans e5))))).get
            have ga1_ := (ha1_.ext (e3.trans (e4.trans e5))).get
            have gb1_ := (hb1_.ext (e3.trans (e4.trans e5))).get
            have ga2_ := (ha2_.ext e5).get
            have gb2_ := (hb2_.ext e5).get
            simp (disch := first | assumption | omega | (simp only [lens]; omega)) only [eqs, ↓gvd_succ, ↓gvd_zero, ↓and_of, im_of, im_of trivial, vals, lsts, tys, hP, hst, initS, Nat.reduceBEq, Nat.reduceAdd, Nat.reduceMul, Nat.reduceSub, Nat.reduceDiv, Nat.reduceMod, Nat.reducePow, Nat.reduceLT, Nat.reduceLeDiff, Nat.reduceEqDiff, Int.reduceAdd, Int.reduceSub, Int.reduceNeg, Int.reduceMul, Int.reduceToNat, Int.reducePow, Int.reduceLE, Int.reduceLT, Int.reduceEq, Int.reduceNe, reduceIte, reduceCtorEq, ne_eq, not_true_eq_false, not_false_eq_true, imp_self, implies_true, bls, eq_self, gA, ga1_, gb1_, ga2_, gb2_, q5, q5x]
            obtain ⟨T6, hT6⟩ : ∃ S, T5 ++ [some [.val (.bool false), .val (.slice none 0 0)]] = S := ⟨_, rfl⟩
            have e6 : Ext T5 T6 := ⟨_, hT6.symm⟩
            have hm1_ : At T6 (T5.length) [.val (.bool false), .val (.slice none 0 0)] := ⟨hT6 ▸ by rw [get_app0]; rfl⟩
            rw [hT6]
            clear hT6
            refine E_call (hP ▸ z_qParse) ⟨tx, none, rfl, hp, fun z v T hz => (by cases hz), fun _ T7 e7 => ?_⟩
            unfold zeroI
            have q7 := (e0.trans (e1.trans (e2.trans (e3.trans (e4.trans (e5.trans (e6.trans e7))))))).len
            have q7x : st.length ≤ T7.length + 1 := by omega
            have gA := (hA.ext (e1.trans (e2.trans (e3.trans (e4.trans (e5.trans (e6.trans e7))))))).get
            have ga1_ := (ha1_.ext (e3.trans (e4.trans (e5.trans (e6.trans e7))))).get
            have gb1_ := (hb1_.ext (e3.trans (e4.trans (e5.trans (e6.trans e7))))).get
            have ga2_ := (ha2_.ext (e5.trans (e6.trans e7))).get
            have gb2_ := (hb2_.ext (e5.trans (e6.trans e7))).get
            have gm1_ := (hm1_.ext e7).get
            simp (disch := first | assumption | omega | (simp only [lens]; omega)) only [eqs, ↓gvd_succ, ↓gvd_zero, ↓and_of, im_of, im_of trivial, vals, lsts, tys, hP, hst, initS, Nat.reduceBEq, Nat.reduceAdd, Nat.reduceMul, Nat.reduceSub, Nat.reduceDiv, Nat.reduceMod, Nat.reducePow, Nat.reduceLT, Nat.reduceLeDiff, Nat.reduceEqDiff, Int.reduceAdd, Int.reduceSub, Int.reduceNeg, Int.reduceMul, Int.reduceToNat, Int.reducePow, Int.reduceLE, Int.reduceLT, Int.reduceEq, Int.reduceNe, reduceIte, reduceCtorEq, ne_eq, not_true_eq_false, not_false_eq_true, imp_self, implies_true, bls, eq_self, gA, ga1_, gb1_, ga2_, gb2_, gm1_, q7, q7x]
            obtain ⟨T8, hT8⟩ : ∃ S, T7 ++ [some [.val (.bool false), .val (.slice none 0 0)]] = S := ⟨_, rfl⟩
            have e8 : Ext T7 T8 := ⟨_, hT8.symm⟩
            have hm2_ : At T8 (T7.length) [.val (.bool false), .val (.slice none 0 0)] := ⟨hT8 ▸ by rw [get_app0]; rfl⟩
            rw [hT8]
            clear hT8
            refine V_draw [0, 1, 2, 3, 4, 5, 6, 7, 8, 9, 10, 11, 12, 13, 14, 16, 15, 17, 18, 19, 20, 21, 22, 23, 24, 25, 26, 27, 28, 29, 30, 31, 32, 33] (by kernel_rfl) (.cons rfl <| .cons rfl <| .cons rfl <| .cons rfl <| .cons rfl <| .cons rfl <| .cons rfl <| .cons rfl <| .cons rfl <| .cons rfl <| .cons rfl <| .cons rfl <| .cons rfl <| .cons rfl <| .cons rfl <| .cons rfl <| .cons rfl <| .cons rfl <| .cons rfl <| .cons rfl <| .cons rfl <| .cons rfl <| .cons rfl <| .cons rfl <| .cons rfl <| .cons rfl <| .cons rfl <| .cons rfl <| .cons rfl <| .cons rfl <| .cons rfl <| .cons rfl <| .cons rfl <| .cons rfl <| .nil) ?_
            have gA := (hA.ext (e1.trans (e2.trans (e3.trans (e4.trans (e5.trans (e6.trans (e7.trans e8)))))))).get
            have ga1_ := (ha1_.ext (e3.trans (e4.trans (e5.trans (e6.trans (e7.trans e8)))))).get
            have gb1_ := (hb1_.ext (e3.trans (e4.trans (e5.trans (e6.trans (e7.trans e8)))))).get
            have ga2_ := (ha2_.ext (e5.trans (e6.trans (e7.trans e8)))).get
            have gb2_ := (hb2_.ext (e5.trans (e6.trans (e7.trans e8)))).get
            have gm1_ := (hm1_.ext (e7.trans e8)).get
            have gm2_ := (hm2_.ext Ext.refl).get
            simp (disch := first | assumption | omega | (simp only [lens]; omega)) only [eqs, ↓gvd_succ, ↓gvd_zero, ↓and_of, im_of, im_of trivial, vals, lsts, tys, hP, hst, initS, Nat.reduceBEq, Nat.reduceAdd, Nat.reduceMul, Nat.reduceSub, Nat.reduceDiv, Nat.reduceMod, Nat.reducePow, Nat.reduceLT, Nat.reduceLeDiff, Nat.reduceEqDiff, Int.reduceAdd, Int.reduceSub, Int.reduceNeg, Int.reduceMul, Int.reduceToNat, Int.reducePow, Int.reduceLE, Int.reduceLT, Int.reduceEq, Int.reduceNe, reduceIte, reduceCtorEq, ne_eq, not_true_eq_false, not_false_eq_true, imp_self, implies_true, bls, eq_self, gA, ga1_, gb1_, ga2_, gb2_, gm1_, gm2_]
            refine E_call (hP ▸ z_same) ⟨_, _, _, _, _, rfl, (h_a.ext (e2.trans (e3.trans (e4.trans (e5.trans (e6.trans (e7.trans e8))))))), (h_c.ext (e4.trans (e5.trans (e6.trans (e7.trans e8))))), by omega, fun T9 e9 => ?_⟩
            have gA := (hA.ext (e1.trans (e2.trans (e3.trans (e4.trans (e5.trans (e6.trans (e7.trans (e8.trans e9))))))))).get
            have ga1_ := (ha1_.ext (e3.trans (e4.trans (e5.trans (e6.trans (e7.trans (e8.trans e9))))))).get
            have gb1_ := (hb1_.ext (e3.trans (e4.trans (e5.trans (e6.trans (e7.trans (e8.trans e9))))))).get
            have ga2_ := (ha2_.ext (e5.trans (e6.trans (e7.trans (e8.trans e9))))).get
            have gb2_ := (hb2_.ext (e5.trans (e6.trans (e7.trans (e8.trans e9))))).get
            have gm1_ := (hm1_.ext (e7.trans (e8.trans e9))).get
            have gm2_ := (hm2_.ext e9).get
            simp (disch := first | assumption | omega | (simp only [lens]; omega)) only [eqs, ↓gvd_succ, ↓gvd_zero, ↓and_of, im_of, im_of trivial, vals, lsts, tys, hP, hst, initS, Nat.reduceBEq, Nat.reduceAdd, Nat.reduceMul, Nat.reduceSub, Nat.reduceDiv, Nat.reduceMod, Nat.reducePow, Nat.reduceLT, Nat.reduceLeDiff, Nat.reduceEqDiff, Int.reduceAdd, Int.reduceSub, Int.reduceNeg, Int.reduceMul, Int.reduceToNat, Int.reducePow, Int.reduceLE, Int.reduceLT, Int.reduceEq, Int.reduceNe, reduceIte, reduceCtorEq, ne_eq, not_true_eq_false, not_false_eq_true, imp_self, implies_true, bls, eq_self, gA, ga1_, gb1_, ga2_, gb2_, gm1_, gm2_, beq_self_eq_true]
            refine E_call (hP ▸ z_same) ⟨_, _, _, _, _, rfl, (h_b.ext (e2.trans (e3.trans (e4.trans (e5.trans (e6.trans (e7.trans (e8.trans e9)))))))), (h_d.ext (e4.trans (e5.trans (e6.trans (e7.trans (e8.trans e9)))))), by omega, fun T10 e10 => ?_⟩
            have gA := (hA.ext (e1.trans (e2.trans (e3.trans (e4.trans (e5.trans (e6.trans (e7.trans (e8.trans (e9.trans e10)))))))))).get
            have ga1_ := (ha1_.ext (e3.trans (e4.trans (e5.trans (e6.trans (e7.trans (e8.trans (e9.trans e10)))))))).get
            have gb1_ := (hb1_.ext (e3.trans (e4.trans (e5.trans (e6.trans (e7.trans (e8.trans (e9.trans e10)))))))).get
            have ga2_ := (ha2_.ext (e5.trans (e6.trans (e7.trans (e8.trans (e9.trans e10)))))).get
            have gb2_ := (hb2_.ext (e5.trans (e6.trans (e7.trans (e8.trans (e9.trans e10)))))).get
            have gm1_ := (hm1_.ext (e7.trans (e8.trans (e9.trans e10)))).get
            have gm2_ := (hm2_.ext (e9.trans e10)).get
            simp (disch := first | assumption | omega | (simp only [lens]; omega)) only [eqs, ↓gvd_succ, ↓gvd_zero, ↓and_of, im_of, im_of trivial, vals, lsts, tys, hP, hst, initS, Nat.reduceBEq, Nat.reduceAdd, Nat.reduceMul, Nat.reduceSub, Nat.reduceDiv, Nat.reduceMod, Nat.reducePow, Nat.reduceLT, Nat.reduceLeDiff, Nat.reduceEqDiff, Int.reduceAdd, Int.reduceSub, Int.reduceNeg, Int.reduceMul, Int.reduceToNat, Int.reducePow, Int.reduceLE, Int.reduceLT, Int.reduceEq, Int.reduceNe, reduceIte, reduceCtorEq, ne_eq, not_true_eq_false, not_false_eq_true, imp_self, implies_true, bls, eq_self, gA, ga1_, gb1_, ga2_, gb2_, gm1_, gm2_, beq_self_eq_true]
            refine E_call (hP ▸ z_Text) ⟨_, _, _, rfl, (hX.ext (e0.trans (e1.trans (e2.trans (e3.trans (e4.trans (e5.trans (e6.trans (e7.trans (e8.trans (e9.trans e10))))))))))), by omega, fun T11 e11 => ?_⟩
            have gA := (hA.ext (e1.trans (e2.trans (e3.trans (e4.trans (e5.trans (e6.trans (e7.trans (e8.trans (e9.trans (e10.trans e11))))))))))).get
            have ga1_ := (ha1_.ext (e3.trans (e4.trans (e5.trans (e6.trans (e7.trans (e8.trans (e9.trans (e10.trans e11))))))))).get
            have gb1_ := (hb1_.ext (e3.trans (e4.trans (e5.trans (e6.trans (e7.trans (e8.trans (e9.trans (e10.trans e11))))))))).get
            have ga2_ := (ha2_.ext (e5.trans (e6.trans (e7.trans (e8.trans (e9.trans (e10.trans e11))))))).get
            have gb2_ := (hb2_.ext (e5.trans (e6.trans (e7.trans (e8.trans (e9.trans (e10.trans e11))))))).get
            have gm1_ := (hm1_.ext (e7.trans (e8.trans (e9.trans (e10.trans e11))))).get
            have gm2_ := (hm2_.ext (e9.trans (e10.trans e11))).get
            simp (disch := first | assumption | omega | (simp only [lens]; omega)) only [eqs, ↓gvd_succ, ↓gvd_zero, ↓and_of, im_of, im_of trivial, vals, lsts, tys, hP, hst, initS, Nat.reduceBEq, Nat.reduceAdd, Nat.reduceMul, Nat.reduceSub, Nat.reduceDiv, Nat.reduceMod, Nat.reducePow, Nat.reduceLT, Nat.reduceLeDiff, Nat.reduceEqDiff, Int.reduceAdd, Int.reduceSub, Int.reduceNeg, Int.reduceMul, Int.reduceToNat, Int.reducePow, Int.reduceLE, Int.reduceLT, Int.reduceEq, Int.reduceNe, reduceIte, reduceCtorEq, ne_eq, not_true_eq_false, not_false_eq_true, imp_self, implies_true, bls, eq_self, gA, ga1_, gb1_, ga2_, gb2_, gm1_, gm2_, beq_self_eq_true]
            refine E_call (hP ▸ z_qText) ⟨_, _, _, rfl, (hX.ext (e0.trans (e1.trans (e2.trans (e3.trans (e4.trans (e5.trans (e6.trans (e7.trans (e8.trans (e9.trans (e10.trans e11)))))))))))), by omega, fun T12 e12 => ?_⟩
            have gA := (hA.ext (e1.trans (e2.trans (e3.trans (e4.trans (e5.trans (e6.trans (e7.trans (e8.trans (e9.trans (e10.trans (e11.trans e12)))))))))))).get
            have ga1_ := (ha1_.ext (e3.trans (e4.trans (e5.trans (e6.trans (e7.trans (e8.trans (e9.trans (e10.trans (e11.trans e12)))))))))).get
            have gb1_ := (hb1_.ext (e3.trans (e4.trans (e5.trans (e6.trans (e7.trans (e8.trans (e9.trans (e10.trans (e11.trans e12)))))))))).get
            have ga2_ := (ha2_.ext (e5.trans (e6.trans (e7.trans (e8.trans (e9.trans (e10.trans (e11.trans e12)))))))).get
            have gb2_ := (hb2_.ext (e5.trans (e6.trans (e7.trans (e8.trans (e9.trans (e10.trans (e11.trans e12)))))))).get
            have gm1_ := (hm1_.ext (e7.trans (e8.trans (e9.trans (e10.trans (e11.trans e12)))))).get
            have gm2_ := (hm2_.ext (e9.trans (e10.trans (e11.trans e12)))).get
            simp (disch := first | assumption | omega | (simp only [lens]; omega)) only [eqs, ↓gvd_succ, ↓gvd_zero, ↓and_of, im_of, im_of trivial, vals, lsts, tys, hP, hst, initS, Nat.reduceBEq, Nat.reduceAdd, Nat.reduceMul, Nat.reduceSub, Nat.reduceDiv, Nat.reduceMod, Nat.reducePow, Nat.reduceLT, Nat.reduceLeDiff, Nat.reduceEqDiff, Int.reduceAdd, Int.reduceSub, Int.reduceNeg, Int.reduceMul, Int.reduceToNat, Int.reducePow, Int.reduceLE, Int.reduceLT, Int.reduceEq, Int.reduceNe, reduceIte, reduceCtorEq, ne_eq, not_true_eq_false, not_false_eq_true, imp_self, implies_true, bls, eq_self, gA, ga1_, gb1_, ga2_, gb2_, gm1_, gm2_, beq_self_eq_true]
            refine E_call (hP ▸ z_same) ⟨_, _, _, _, _, rfl, nz_zero, nz_zero, by omega, fun T13 e13 => ?_⟩
            have gA := (hA.ext (e1.trans (e2.trans (e3.trans (e4.trans (e5.trans (e6.trans (e7.trans (e8.trans (e9.trans (e10.trans (e11.trans (e12.trans e13))))))))))))).get
            have ga1_ := (ha1_.ext (e3.trans (e4.trans (e5.trans (e6.trans (e7.trans (e8.trans (e9.trans (e10.trans (e11.trans (e12.trans e13))))))))))).get
            have gb1_ := (hb1_.ext (e3.trans (e4.trans (e5.trans (e6.trans (e7.trans (e8.trans (e9.trans (e10.trans (e11.trans (e12.trans e13))))))))))).get
            have ga2_ := (ha2_.ext (e5.trans (e6.trans (e7.trans (e8.trans (e9.trans (e10.trans (e11.trans (e12.trans e13))))))))).get
            have gb2_ := (hb2_.ext (e5.trans (e6.trans (e7.trans (e8.trans (e9.trans (e10.trans (e11.trans (e12.trans e13))))))))).get
            have gm1_ := (hm1_.ext (e7.trans (e8.trans (e9.trans (e10.trans (e11.trans (e12.trans e13))))))).get
            have gm2_ := (hm2_.ext (e9.trans (e10.trans (e11.trans (e12.trans e13))))).get
            simp (disch := first | assumption | omega | (simp only [lens]; omega)) only [eqs, ↓gvd_succ, ↓gvd_zero, ↓and_of, im_of, im_of trivial, vals, lsts, tys, hP, hst, initS, Nat.reduceBEq, Nat.reduceAdd, Nat.reduceMul, Nat.reduceSub, Nat.reduceDiv, Nat.reduceMod, Nat.reducePow, Nat.reduceLT, Nat.reduceLeDiff, Nat.reduceEqDiff, Int.reduceAdd, Int.reduceSub, Int.reduceNeg, Int.reduceMul, Int.reduceToNat, Int.reducePow, Int.reduceLE, Int.reduceLT, Int.reduceEq, Int.reduceNe, reduceIte, reduceCtorEq, ne_eq, not_true_eq_false, not_false_eq_true, imp_self, implies_true, bls, eq_self, gA, ga1_, gb1_, ga2_, gb2_, gm1_, gm2_, beq_self_eq_true]
            refine E_call (hP ▸ s_klives) ⟨rfl, fun T14 e14 => ?_⟩
            simp (disch := first | assumption | omega | (simp only [lens]; omega)) only [eqs, ↓gvd_succ, ↓gvd_zero, ↓and_of, im_of, im_of trivial, vals, lsts, tys, hP, hst, initS, Nat.reduceBEq, Nat.reduceAdd, Nat.reduceMul, Nat.reduceSub, Nat.reduceDiv, Nat.reduceMod, Nat.reducePow, Nat.reduceLT, Nat.reduceLeDiff, Nat.reduceEqDiff, Int.reduceAdd, Int.reduceSub, Int.reduceNeg, Int.reduceMul, Int.reduceToNat, Int.reducePow, Int.reduceLE, Int.reduceLT, Int.reduceEq, Int.reduceNe, reduceIte, reduceCtorEq, ne_eq, not_true_eq_false, not_false_eq_true, imp_self, implies_true, bls, eq_self]
            exact hK _ (e0.trans (e1.trans (e2.trans (e3.trans (e4.trans (e5.trans (e6.trans (e7.trans (e8.trans (e9.trans (e10.trans (e11.trans (e12.trans (e13.trans e14))))))))))))))
          · refine E_call (hP ▸ z_Parse) ⟨tx, some z, rfl, hp, fun z2 v_m T5 hz e5 h_m => ?_, fun hz => (by cases hz)⟩
            cases hz
            obtain ⟨p_m, rfl, n_m⟩ := h_m.1
            have l_m := n_m.leaf
            have q5 := (e0.trans (e1.trans (e2.trans (e3.trans (e4.trans e5))))).len
            have q5x : st.length ≤ T5.length + 1 := by omega
            have gA := (hA.ext (e1.trans (e2.trans (e3.trans (e4.trans e5))))).get
            have ga1_ := (ha1_.ext (e3.trans (e4.trans e5))).get
            have gb1_ := (hb1_.ext (e3.trans (e4.trans e5))).get
            have ga2_ := (ha2_.ext e5).get
            have gb2_ := (hb2_.ext e5).get
            simp (disch := first | assumption | omega | (simp only [lens]; omega)) only [eqs, ↓gvd_succ, ↓gvd_zero, ↓and_of, im_of, im_of trivial, vals, lsts, tys, hP, hst, initS, Nat.reduceBEq, Nat.reduceAdd, Nat.reduceMul, Nat.reduceSub, Nat.reduceDiv, Nat.reduceMod, Nat.reducePow, Nat.reduceLT, Nat.reduceLeDiff, Nat.reduceEqDiff, Int.reduceAdd, Int.reduceSub, Int.reduceNeg, Int.reduceMul, Int.reduceToNat, Int.reducePow, Int.reduceLE, Int.reduceLT, Int.reduceEq, Int.reduceNe, reduceIte, reduceCtorEq, ne_eq, not_true_eq_false, not_false_eq_true, imp_self, implies_true, bls, eq_self, gA, ga1_, gb1_, ga2_, gb2_, l_m, q5, q5x]
            obtain ⟨T6, hT6⟩ : ∃ S, T5 ++ [some [.val (.bool (decide (z < 0))), p_m]] = S := ⟨_, rfl⟩
            have e6 : Ext T5 T6 := ⟨_, hT6.symm⟩
            have hm1_ : At T6 (T5.length) [.val (.bool (decide (z < 0))), p_m] := ⟨hT6 ▸ by rw [get_app0]; rfl⟩
            rw [hT6]
            clear hT6
            refine E_call (hP ▸ z_qParse) ⟨tx, some z, rfl, hp, fun z2 v_n T7 hz e7 h_n => ?_, fun hz => (by cases hz)⟩
            cases hz
            obtain ⟨p_n, rfl, n_n⟩ := h_n.1
            have l_n := n_n.leaf
            have q7 := (e0.trans (e1.trans (e2.trans (e3.trans (e4.trans (e5.trans (e6.trans e7))))))).len
            have q7x : st.length ≤ T7.length + 1 := by omega
            have gA := (hA.ext (e1.trans (e2.trans (e3.trans (e4.trans (e5.trans (e6.trans e7))))))).get
            have ga1_ := (ha1_.ext (e3.trans (e4.trans (e5.trans (e6.trans e7))))).get
            have gb1_ := (hb1_.ext (e3.trans (e4.trans (e5.trans (e6.trans e7))))).get
            have ga2_ := (ha2_.ext (e5.trans (e6.trans e7))).get
            have gb2_ := (hb2_.ext (e5.trans (e6.trans e7))).get
            have gm1_ := (hm1_.ext e7).get
            simp (disch := first | assumption | omega | (simp only [lens]; omega)) only [eqs, ↓gvd_succ, ↓gvd_zero, ↓and_of, im_of, im_of trivial, vals, lsts, tys, hP, hst, initS, Nat.reduceBEq, Nat.reduceAdd, Nat.reduceMul, Nat.reduceSub, Nat.reduceDiv, Nat.reduceMod, Nat.reducePow, Nat.reduceLT, Nat.reduceLeDiff, Nat.reduceEqDiff, Int.reduceAdd, Int.reduceSub, Int.reduceNeg, Int.reduceMul, Int.reduceToNat, Int.reducePow, Int.reduceLE, Int.reduceLT, Int.reduceEq, Int.reduceNe, reduceIte, reduceCtorEq, ne_eq, not_true_eq_false, not_false_eq_true, imp_self, implies_true, bls, eq_self, gA, ga1_, gb1_, ga2_, gb2_, gm1_, l_n, q7, q7x]
            obtain ⟨T8, hT8⟩ : ∃ S, T7 ++ [some [.val (.bool (decide (z < 0))), p_n]] = S := ⟨_, rfl⟩
            have e8 : Ext T7 T8 := ⟨_, hT8.symm⟩
            have hm2_ : At T8 (T7.length) [.val (.bool (decide (z < 0))), p_n] := ⟨hT8 ▸ by rw [get_app0]; rfl⟩
            rw [hT8]
            clear hT8
            refine V_draw [0, 1, 2, 3, 4, 5, 6, 7, 8, 9, 10, 11, 12, 13, 14, 16, 15, 17, 18, 19, 20, 21, 22, 23, 24, 25, 26, 27, 28, 29, 30, 31, 32, 33] (by kernel_rfl) (.cons rfl <| .cons rfl <| .cons rfl <| .cons rfl <| .cons rfl <| .cons rfl <| .cons rfl <| .cons rfl <| .cons rfl <| .cons rfl <| .cons rfl <| .cons rfl <| .cons rfl <| .cons rfl <| .cons rfl <| .cons rfl <| .cons rfl <| .cons rfl <| .cons rfl <| .cons rfl <| .cons rfl <| .cons rfl <| .cons rfl <| .cons rfl <| .cons rfl <| .cons rfl <| .cons rfl <| .cons rfl <| .cons rfl <| .cons rfl <| .cons rfl <| .cons rfl <| .cons rfl <| .cons rfl <| .nil) ?_
            have gA := (hA.ext (e1.trans (e2.trans (e3.trans (e4.trans (e5.trans (e6.trans (e7.trans e8)))))))).get
            have ga1_ := (ha1_.ext (e3.trans (e4.trans (e5.trans (e6.trans (e7.trans e8)))))).get
            have gb1_ := (hb1_.ext (e3.trans (e4.trans (e5.trans (e6.trans (e7.trans e8)))))).get
            have ga2_ := (ha2_.ext (e5.trans (e6.trans (e7.trans e8)))).get
            have gb2_ := (hb2_.ext (e5.trans (e6.trans (e7.trans e8)))).get
            have gm1_ := (hm1_.ext (e7.trans e8)).get
            have gm2_ := (hm2_.ext Ext.refl).get
            simp (disch := first | assumption | omega | (simp only [lens]; omega)) only [eqs, ↓gvd_succ, ↓gvd_zero, ↓and_of, im_of, im_of trivial, vals, lsts, tys, hP, hst, initS, Nat.reduceBEq, Nat.reduceAdd, Nat.reduceMul, Nat.reduceSub, Nat.reduceDiv, Nat.reduceMod, Nat.reducePow, Nat.reduceLT, Nat.reduceLeDiff, Nat.reduceEqDiff, Int.reduceAdd, Int.reduceSub, Int.reduceNeg, Int.reduceMul, Int.reduceToNat, Int.reducePow, Int.reduceLE, Int.reduceLT, Int.reduceEq, Int.reduceNe, reduceIte, reduceCtorEq, ne_eq, not_true_eq_false, not_false_eq_true, imp_self, implies_true, bls, eq_self, gA, ga1_, gb1_, ga2_, gb2_, gm1_, gm2_]
            refine E_call (hP ▸ z_same) ⟨_, _, _, _, _, rfl, (h_a.ext (e2.trans (e3.trans (e4.trans (e5.trans (e6.trans (e7.trans e8))))))), (h_c.ext (e4.trans (e5.trans (e6.trans (e7.trans e8))))), by omega, fun T9 e9 => ?_⟩
            have gA := (hA.ext (e1.trans (e2.trans (e3.trans (e4.trans (e5.trans (e6.trans (e7.trans (e8.trans e9))))))))).get
            have ga1_ := (ha1_.ext (e3.trans (e4.trans (e5.trans (e6.trans (e7.trans (e8.trans e9))))))).get
            have gb1_ := (hb1_.ext (e3.trans (e4.trans (e5.trans (e6.trans (e7.trans (e8.trans e9))))))).get
            have ga2_ := (ha2_.ext (e5.trans (e6.trans (e7.trans (e8.trans e9))))).get
            have gb2_ := (hb2_.ext (e5.trans (e6.trans (e7.trans (e8.trans e9))))).get
            have gm1_ := (hm1_.ext (e7.trans (e8.trans e9))).get
            have gm2_ := (hm2_.ext e9).get
            simp (disch := first | assumption | omega | (simp only [lens]; omega)) only [eqs, ↓gvd_succ, ↓gvd_zero, ↓and_of, im_of, im_of trivial, vals, lsts, tys, hP, hst, initS, Nat.reduceBEq, Nat.reduceAdd, Nat.reduceMul, Nat.reduceSub, Nat.reduceDiv, Nat.reduceMod, Nat.reducePow, Nat.reduceLT, Nat.reduceLeDiff, Nat.reduceEqDiff, Int.reduceAdd, Int.reduceSub, Int.reduceNeg, Int.reduceMul, Int.reduceToNat, Int.reducePow, Int.reduceLE, Int.reduceLT, Int.reduceEq, Int.reduceNe, reduceIte, reduceCtorEq, ne_eq, not_true_eq_false, not_false_eq_true, imp_self, implies_true, bls, eq_self, gA, ga1_, gb1_, ga2_, gb2_, gm1_, gm2_, beq_self_eq_true]
            refine E_call (hP ▸ z_same) ⟨_, _, _, _, _, rfl, (h_b.ext (e2.trans (e3.trans (e4.trans (e5.trans (e6.trans (e7.trans (e8.trans e9)))))))), (h_d.ext (e4.trans (e5.trans (e6.trans (e7.trans (e8.trans e9)))))), by omega, fun T10 e10 => ?_⟩
            have gA := (hA.ext (e1.trans (e2.trans (e3.trans (e4.trans (e5.trans (e6.trans (e7.trans (e8.trans (e9.trans e10)))))))))).get
            have ga1_ := (ha1_.ext (e3.trans (e4.trans (e5.trans (e6.trans (e7.trans (e8.trans (e9.trans e10)))))))).get
            have gb1_ := (hb1_.ext (e3.trans (e4.trans (e5.trans (e6.trans (e7.trans (e8.trans (e9.trans e10)))))))).get
            have ga2_ := (ha2_.ext (e5.trans (e6.trans (e7.trans (e8.trans (e9.trans e10)))))).get
            have gb2_ := (hb2_.ext (e5.trans (e6.trans (e7.trans (e8.trans (e9.trans e10)))))).get
            have gm1_ := (hm1_.ext (e7.trans (e8.trans (e9.trans e10)))).get
            have gm2_ := (hm2_.ext (e9.trans e10)).get
            simp (disch := first | assumption | omega | (simp only [lens]; omega)) only [eqs, ↓gvd_succ, ↓gvd_zero, ↓and_of, im_of, im_of trivial, vals, lsts, tys, hP, hst, initS, Nat.reduceBEq, Nat.reduceAdd, Nat.reduceMul, Nat.reduceSub, Nat.reduceDiv, Nat.reduceMod, Nat.reducePow, Nat.reduceLT, Nat.reduceLeDiff, Nat.reduceEqDiff, Int.reduceAdd, Int.reduceSub, Int.reduceNeg, Int.reduceMul, Int.reduceToNat, Int.reducePow, Int.reduceLE, Int.reduceLT, Int.reduceEq, Int.reduceNe, reduceIte, reduceCtorEq, ne_eq, not_true_eq_false, not_false_eq_true, imp_self, implies_true, bls, eq_self, gA, ga1_, gb1_, ga2_, gb2_, gm1_, gm2_, beq_self_eq_true]
            refine E_call (hP ▸ z_Text) ⟨_, _, _, rfl, (hX.ext (e0.trans (e1.trans (e2.trans (e3.trans (e4.trans (e5.trans (e6.trans (e7.trans (e8.trans (e9.trans e10))))))))))), by omega, fun T11 e11 => ?_⟩
            have gA := (hA.ext (e1.trans (e2.trans (e3.trans (e4.trans (e5.trans (e6.trans (e7.trans (e8.trans (e9.trans (e10.trans e11))))))))))).get
            have ga1_ := (ha1_.ext (e3.trans (e4.trans (e5.trans (e6.trans (e7.trans (e8.trans (e9.trans (e10.trans e11))))))))).get
            have gb1_ := (hb1_.ext (e3.trans (e4.trans (e5.trans (e6.trans (e7.trans (e8.trans (e9.trans (e10.trans e11))))))))).get
            have ga2_ := (ha2_.ext (e5.trans (e6.trans (e7.trans (e8.trans (e9.trans (e10.trans e11))))))).get
            have gb2_ := (hb2_.ext (e5.trans (e6.trans (e7.trans (e8.trans (e9.trans (e10.trans e11))))))).get
            have gm1_ := (hm1_.ext (e7.trans (e8.trans (e9.trans (e10.trans e11))))).get
            have gm2_ := (hm2_.ext (e9.trans (e10.trans e11))).get
            simp (disch := first | assumption | omega | (simp only [lens]; omega)) only [eqs, ↓gvd_succ, ↓gvd_zero, ↓and_of, im_of, im_of trivial, vals, lsts, tys, hP, hst, initS, Nat.reduceBEq, Nat.reduceAdd, Nat.reduceMul, Nat.reduceSub, Nat.reduceDiv, Nat.reduceMod, Nat.reducePow, Nat.reduceLT, Nat.reduceLeDiff, Nat.reduceEqDiff, Int.reduceAdd, Int.reduceSub, Int.reduceNeg, Int.reduceMul, Int.reduceToNat, Int.reducePow, Int.reduceLE, Int.reduceLT, Int.reduceEq, Int.reduceNe, reduceIte, reduceCtorEq, ne_eq, not_true_eq_false, not_false_eq_true, imp_self, implies_true, bls, eq_self, gA, ga1_, gb1_, ga2_, gb2_, gm1_, gm2_, beq_self_eq_true]
            refine E_call (hP ▸ z_qText) ⟨_, _, _, rfl, (hX.ext (e0.trans (e1.trans (e2.trans (e3.trans (e4.trans (e5.trans (e6.trans (e7.trans (e8.trans (e9.trans (e10.trans e11)))))))))))), by omega, fun T12 e12 => ?_⟩
            have gA := (hA.ext (e1.trans (e2.trans (e3.trans (e4.trans (e5.trans (e6.trans (e7.trans (e8.trans (e9.trans (e10.trans (e11.trans e12)))))))))))).get
            have ga1_ := (ha1_.ext (e3.trans (e4.trans (e5.trans (e6.trans (e7.trans (e8.trans (e9.trans (e10.trans (e11.trans e12)))))))))).get
            have gb1_ := (hb1_.ext (e3.trans (e4.trans (e5.trans (e6.trans (e7.trans (e8.trans (e9.trans (e10.trans (e11.trans e12)))))))))).get
            have ga2_ := (ha2_.ext (e5.trans (e6.trans (e7.trans (e8.trans (e9.trans (e10.trans (e11.trans e12)))))))).get
            have gb2_ := (hb2_.ext (e5.trans (e6.trans (e7.trans (e8.trans (e9.trans (e10.trans (e11.trans e12)))))))).get
            have gm1_ := (hm1_.ext (e7.trans (e8.trans (e9.trans (e10.trans (e11.trans e12)))))).get
            have gm2_ := (hm2_.ext (e9.trans (e10.trans (e11.trans e12)))).get
            simp (disch := first | assumption | omega | (simp only [lens]; omega)) only [eqs, ↓gvd_succ, ↓gvd_zero, ↓and_of, im_of, im_of trivial, vals, lsts, tys, hP, hst, initS, Nat.reduceBEq, Nat.reduceAdd, Nat.reduceMul, Nat.reduceSub, Nat.reduceDiv, Nat.reduceMod, Nat.reducePow, Nat.reduceLT, Nat.reduceLeDiff, Nat.reduceEqDiff, Int.reduceAdd, Int.reduceSub, Int.reduceNeg, Int.reduceMul, Int.reduceToNat, Int.reducePow, Int.reduceLE, Int.reduceLT, Int.reduceEq, Int.reduceNe, reduceIte, reduceCtorEq, ne_eq, not_true_eq_false, not_false_eq_true, imp_self, implies_true, bls, eq_self, gA, ga1_, gb1_, ga2_, gb2_, gm1_, gm2_, beq_self_eq_true]
            refine E_call (hP ▸ z_same) ⟨_, _, _, _, _, rfl, (h_m.ext (e6.trans (e7.trans (e8.trans (e9.trans (e10.trans (e11.trans e12))))))), (h_n.ext (e8.trans (e9.trans (e10.trans (e11.trans e12))))), by omega, fun T13 e13 => ?_⟩
            have gA := (hA.ext (e1.trans (e2.trans (e3.trans (e4.trans (e5.trans (e6.trans (e7.trans (e8.trans (e9.trans (e10.trans (e11.trans (e12.trans e13))))))))))))).get
            have ga1_ := (ha1_.ext (e3.trans (e4.trans (e5.trans (e6.trans (e7.trans (e8.trans (e9.trans (e10.trans (e11.trans (e12.trans e13))))))))))).get
            have gb1_ := (hb1_.ext (e3.trans (e4.trans (e5.trans (e6.trans (e7.trans (e8.trans (e9.trans (e10.trans (e11.trans (e12.trans e13))))))))))).get
            have ga2_ := (ha2_.ext (e5.trans (e6.trans (e7.trans (e8.trans (e9.trans (e10.trans (e11.trans (e12.trans e13))))))))).get
            have gb2_ := (hb2_.ext (e5.trans (e6.trans (e7.trans (e8.trans (e9.trans (e10.trans (e11.trans (e12.trans e13))))))))).get
            have gm1_ := (hm1_.ext (e7.trans (e8.trans (e9.trans (e10.trans (e11.trans (e12.trans e13))))))).get
            have gm2_ := (hm2_.ext (e9.trans (e10.trans (e11.trans (e12.trans e13))))).get
            simp (disch := first | assumption | omega | (simp only [lens]; omega)) only [eqs, ↓gvd_succ, ↓gvd_zero, ↓and_of, im_of, im_of trivial, vals, lsts, tys, hP, hst, initS, Nat.reduceBEq, Nat.reduceAdd, Nat.reduceMul, Nat.reduceSub, Nat.reduceDiv, Nat.reduceMod, Nat.reducePow, Nat.reduceLT, Nat.reduceLeDiff, Nat.reduceEqDiff, Int.reduceAdd, Int.reduceSub, Int.reduceNeg, Int.reduceMul, Int.reduceToNat, Int.reducePow, Int.reduceLE, Int.reduceLT, Int.reduceEq, Int.reduceNe, reduceIte, reduceCtorEq, ne_eq, not_true_eq_false, not_false_eq_true, imp_self, implies_true, bls, eq_self, gA, ga1_, gb1_, ga2_, gb2_, gm1_, gm2_, beq_self_eq_true]
            refine E_call (hP ▸ s_klives) ⟨rfl, fun T14 e14 => ?_⟩
            simp (disch := first | assumption | omega | (simp only [lens]; omega)) only [eqs, ↓gvd_succ, ↓gvd_zero, ↓and_of, im_of, im_of trivial, vals, lsts, tys, hP, hst, initS, Nat.reduceBEq, Nat.reduceAdd, Nat.reduceMul, Nat.reduceSub, Nat.reduceDiv, Nat.reduceMod, Nat.reducePow, Nat.reduceLT, Nat.reduceLeDiff, Nat.reduceEqDiff, Int.reduceAdd, Int.reduceSub, Int.reduceNeg, Int.reduceMul, Int.reduceToNat, Int.reducePow, Int.reduceLE, Int.reduceLT, Int.reduceEq, Int.reduceNe, reduceIte, reduceCtorEq, ne_eq, not_true_eq_false, not_false_eq_true, imp_self, implies_true, bls, eq_self]
            exact hK _ (e0.trans (e1.trans (e2.trans (e3.trans (e4.trans (e5.trans (e6.trans (e7.trans (e8.trans (e9.trans (e10.trans (e11.trans (e12.trans (e13.trans e14))))))))))))))
    · simp (disch := first | assumption | omega | (simp only [lens]; omega)) only [eqs, ↓gvd_succ, ↓gvd_zero, ↓and_of, im_of, im_of trivial, vals, lsts, tys, hP, hst, initS, Nat.reduceBEq, Nat.reduceAdd, Nat.reduceMul, Nat.reduceSub, Nat.reduceDiv, Nat.reduceMod, Nat.reducePow, Nat.reduceLT, Nat.reduceLeDiff, Nat.reduceEqDiff, Int.reduceAdd, Int.reduceSub, Int.reduceNeg, Int.reduceMul, Int.reduceToNat, Int.reducePow, Int.reduceLE, Int.reduceLT, Int.reduceEq, Int.reduceNe, reduceIte, reduceCtorEq, ne_eq, not_true_eq_false, not_false_eq_true, imp_self, implies_true, bls, eq_self, h, h2]
      refine E_call (hP ▸ s_klives) ⟨rfl, fun T1 hT1 => ?_⟩
      simp (disch := first | assumption | omega | (simp only [lens]; omega)) only [eqs, ↓gvd_succ, ↓gvd_zero, ↓and_of, im_of, im_of trivial, vals, lsts, tys, hP, hst, initS, Nat.reduceBEq, Nat.reduceAdd, Nat.reduceMul, Nat.reduceSub, Nat.reduceDiv, Nat.reduceMod, Nat.reducePow, Nat.reduceLT, Nat.reduceLeDiff, Nat.reduceEqDiff, Int.reduceAdd, Int.reduceSub, Int.reduceNeg, Int.reduceMul, Int.reduceToNat, Int.reducePow, Int.reduceLE, Int.reduceLT, Int.reduceEq, Int.reduceNe, reduceIte, reduceCtorEq, ne_eq, not_true_eq_false, not_false_eq_true, imp_self, implies_true, bls, eq_self]
      exact hK _ (e0.trans hT1)
  · simp (disch := first | assumption | omega | (simp only [lens]; omega)) only [eqs, ↓gvd_succ, ↓gvd_zero, ↓and_of, im_of, im_of trivial, vals, lsts, tys, hP, hst, initS, Nat.reduceBEq, Nat.reduceAdd, Nat.reduceMul, Nat.reduceSub, Nat.reduceDiv, Nat.reduceMod, Nat.reducePow, Nat.reduceLT, Nat.reduceLeDiff, Nat.reduceEqDiff, Int.reduceAdd, Int.reduceSub, Int.reduceNeg, Int.reduceMul, Int.reduceToNat, Int.reducePow, Int.reduceLE, Int.reduceLT, Int.reduceEq, Int.reduceNe, reduceIte, reduceCtorEq, ne_eq, not_true_eq_false, not_false_eq_true, imp_self, implies_true, bls, eq_self, h]
    refine E_call (hP ▸ s_klives) ⟨rfl, fun T1 hT1 => ?_⟩
    simp (disch := first | assumption | omega | (simp only [lens]; omega)) only [eqs, ↓gvd_succ, ↓gvd_zero, ↓and_of, im_of, im_of trivial, vals, lsts, tys, hP, hst, initS, Nat.reduceBEq, Nat.reduceAdd, Nat.reduceMul, Nat.reduceSub, Nat.reduceDiv, Nat.reduceMod, Nat.reducePow, Nat.reduceLT, Nat.reduceLeDiff, Nat.reduceEqDiff, Int.reduceAdd, Int.reduceSub, Int.reduceNeg, Int.reduceMul, Int.reduceToNat, Int.reducePow, Int.reduceLE, Int.reduceLT, Int.reduceEq, Int.reduceNe, reduceIte, reduceCtorEq, ne_eq, not_true_eq_false, not_false_eq_true, imp_self, implies_true, bls, eq_self]
    exact hK _ (e0.trans hT1)
end Go.Proofs.Pv
