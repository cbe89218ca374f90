/- The laws of whole numbers, seventh part. -/
import Derived.Test.YtdaidpomfkgbeaaK8
import Derived.Test.YtdaidpomfkgbeaaW17
set_option linter.unusedSimpArgs false
set_option linter.unusedVariables false
namespace Go.Proofs.Pv
open Go Go.RowKit Go.Proofs
set_option maxRecDepth 20000

theorem zblen {z : Int} {n : Nat} (h : (limbs z.natAbs).length ≤ n) : blen z.natAbs ≤ 32 * n := by
  have := blen_len (limbs_lt z.natAbs)
  rw [val_limbs] at this
  omega
theorem txtI_lt (z : Int) : ∀ c ∈ txtI z, c < 256 := by
  intro c hc
  unfold txtI at hc
  split at hc
  · rcases List.mem_cons.1 hc with h | h
    · omega
    · exact txt_lt (by omega) (by omega) c h
  · exact txt_lt (by omega) (by omega) c hc
theorem txtI_len {z : Int} {n : Nat} (h : (limbs z.natAbs).length ≤ n) : (txtI z).length ≤ 32 * n + 2 := by
  have h1 := zblen h
  have h2 := txt_len (b := 10) (n := z.natAbs) (by omega)
  unfold txtI
  split
  · simp only [List.length_cons]; omega
  · omega
theorem parse_txt {v n : Nat} (h : (limbs v).length ≤ n) (hn : n ≤ 30) : parse 10 (txt 10 v) = some v := by
  have h1 := zblen (z := (v : Int)) (n := n) (by simpa using h)
  have h2 := txt_len (b := 10) (n := v) (by omega)
  rw [Int.natAbs_natCast] at h1
  unfold parse
  have h3 : ¬((10 : Int) < 2 ∨ (36 : Int) < 10 ∨ txt 10 v = [] ∨ 1000 < (txt 10 v).length) := by
    rintro (h | h | h | h)
    · omega
    · omega
    · exact txt_ne (by omega) h
    · omega
  rw [if_neg h3]
  exact pnum_txt (by omega) (by omega) v
theorem txt_head {v : Nat} {c : Nat} {r : List Nat} (h : txt 10 v = c :: r) : c ≠ 45 ∧ c ≠ 43 := by
  have h1 := pnum_txt (b := 10) (by omega) (by omega) v
  rw [h] at h1
  constructor
  · rintro rfl
    simp only [pnum, List.foldl_cons] at h1
    rw [show pstep 10 (some 0) 45 = none by decide, pstep_none] at h1
    simp at h1
  · rintro rfl
    simp only [pnum, List.foldl_cons] at h1
    rw [show pstep 10 (some 0) 43 = none by decide, pstep_none] at h1
    simp at h1
theorem parseI_pos {l : List Nat} (h : ∀ c r, l = c :: r → c ≠ 45 ∧ c ≠ 43) : parseI l = (parse 10 l).map fun n : Nat => (n : Int) := by
  unfold parseI
  rw [if_neg, if_neg]
  · intro h2
    cases l with
    | nil => simp at h2
    | cons c r => simp at h2; exact (h c r rfl).2 h2
  · intro h2
    cases l with
    | nil => simp at h2
    | cons c r => simp at h2; exact (h c r rfl).1 h2
theorem parseI_txt {z : Int} {n : Nat} (h : (limbs z.natAbs).length ≤ n) (hn : n ≤ 30) : parseI (txtI z) = some z := by
  have h1 := parse_txt h hn
  unfold txtI
  by_cases h0 : z < 0
  · rw [if_pos h0]
    unfold parseI
    rw [if_pos (by rfl), List.drop_one, List.tail_cons, h1]
    simp only [Option.map_some, Option.some.injEq]
    omega
  · rw [if_neg h0, parseI_pos (fun c r => txt_head), h1]
    simp only [Option.map_some, Option.some.injEq]
    omega
theorem parseI_plus {z : Int} {n : Nat} (h : (limbs z.natAbs).length ≤ n) (hn : n ≤ 30) : parseI (43 :: txtI z) = if z < 0 then none else some z := by
  have h1 := parse_txt h hn
  unfold parseI
  rw [if_neg (by simp), if_pos (by rfl), List.drop_one, List.tail_cons]
  unfold txtI
  by_cases h0 : z < 0
  · rw [if_pos h0, if_pos h0]
    have h2 : parse 10 (45 :: txt 10 z.natAbs) = none := by
      unfold parse
      split
      · rfl
      · simp only [pnum, List.foldl_cons]
        rw [show pstep (Int.toNat 10) (some 0) 45 = none by decide, pstep_none]
    rw [h2]; rfl
  · rw [if_neg h0, if_neg h0, h1]
    simp only [Option.map_some, Option.some.injEq]
    omega
def RzText (xs : List AV) (st : St) (K : AV → St → Prop) : Prop := ∃ x z n, xs = [x] ∧ IsZ st x z n ∧ n ≤ 1000 ∧ anyw st (.string (bstr (txtI z))) K
theorem text_z {f : FuncId} (h : PSpec Try.prog f RwText) : PSpec Try.prog f RzText := h.imp2 fun xs st K ⟨x, z, n, e, hx, hn, hK⟩ => by
  obtain ⟨s, l, hx, rfl, h3⟩ := hx
  exact ⟨x, s, l, e, hx, by omega, hK⟩
theorem z_Text : PSpec Try.prog 78 RzText := text_z s_wText
/-- A text that is a number's, out of Parse. -/
def RzParse (xs : List AV) (st : St) (K : AV → St → Prop) : Prop := ∃ (t : List Nat) (p : Option Int) (n : Nat), xs = [.val (.string (bstr t))] ∧ (∀ c ∈ t, c < 256) ∧ t.length ≤ 1000000 ∧ parseI t = p ∧
  (∀ z, p = some z → (limbs z.natAbs).length ≤ n) ∧ (∀ z v st', p = some z → Ext st st' → NZ st' v z n → K (.tup [v, .val (.bool true)]) st') ∧ (p = none → ∀ st', Ext st st' → K (.tup [zeroI, .val (.bool false)]) st')
theorem parse_z {f : FuncId} (h : PSpec Try.prog f RwParse) : PSpec Try.prog f RzParse := h.imp2 fun xs st K ⟨t, p, n, e, ht, hl, hp, hn, hK, hK0⟩ =>
  ⟨bstr t, e, by rw [sb_bstr ht]; exact hl, fun z v st' hz hv => by rw [sb_bstr ht, hp] at hz; exact hK z v st' hz hv.ex (.mk hv (hn z hz)), fun hz => by rw [sb_bstr ht, hp] at hz; exact hK0 hz⟩
theorem z_Parse : PSpec Try.prog 76 RzParse := parse_z s_wParse
def RzGoodT (xs : List AV) (st : St) (K : AV → St → Prop) : Prop := ∃ x z n, xs = [x] ∧ NZ st x z n ∧ n ≤ 1000 ∧ anyw st (.bool true) K
theorem z_GoodT : PSpec Try.prog 67 RzGoodT := s_wGood.imp2 fun xs st K ⟨x, z, n, e, hx, hn, hK⟩ => by
  refine ⟨x, _, _, e, hx.1, Nat.le_trans hx.2 (by omega), ?_⟩
  have h1 : (if (limbs z.natAbs).length = 0 then !decide (z < 0) else decide ((limbs z.natAbs).getD ((limbs z.natAbs).length - 1) 0 ≠ 0)) = true := by
    by_cases h0 : z.natAbs = 0
    · have h2 : z = 0 := by omega
      subst h2
      rw [show (0 : Int).natAbs = 0 from rfl, limbs_zero]; rfl
    · have h2 := limbs_pos_len.2 (Nat.pos_of_ne_zero h0)
      rw [if_neg (by omega), decide_eq_true (limbs_top h0)]
  rw [h1]
  exact hK
def RkWholeTexts (xs : List AV) (st : St) (K : AV → St → Prop) : Prop := ∃ x s l d, xs = [x, .val (.int .i64 d)] ∧ Wh st x s l ∧ -9223372036854775808 ≤ d ∧ d ≤ 9223372036854775807 ∧ anyw st (.bool true) K
set_option maxHeartbeats 8000000 in
theorem s_WholeTexts : PSpec Try.prog 19 RkWholeTexts := by
  refine fspec_of (fn := Try.f19) 2 [.tmp 4] (by kernel_rfl) rfl rfl (by kernel_rfl) mixed (by rintro _ _ _ ⟨x, s, l, d, rfl, _⟩; rfl) ?_
  rintro X _ st K hP hst ⟨x, s, l, d, rfl, hx, hd1, hd2, hK⟩
  have hx1 := hx
  obtain ⟨a, rfl, ha, hal⟩ := hx.iv
  refine vc_V ?_
  simp (disch := first | assumption | omega | (simp only [lens]; omega)) only [eqs, ↓gvd_succ, ↓gvd_zero, ↓and_of, im_of, im_of trivial, vals, lsts, tys, hP, hst, initS, Nat.reduceBEq, Nat.reduceAdd, Nat.reduceMul, Nat.reduceSub, Nat.reduceDiv, Nat.reduceMod, Nat.reducePow, Nat.reduceLT, Nat.reduceLeDiff, Nat.reduceEqDiff, Int.reduceAdd, Int.reduceSub, Int.reduceNeg, Int.reduceMul, Int.reduceToNat, Int.reducePow, Int.reduceLE, Int.reduceLT, Int.reduceEq, Int.reduceNe, reduceIte, reduceCtorEq, ne_eq, not_true_eq_false, not_false_eq_true, true_and, and_true, and_self, true_implies, imp_self, implies_true, decide_true, decide_false, Bool.not_true, Bool.not_false, Bool.and_true, Bool.and_false, Bool.true_and, Bool.false_and, Bool.and_self, decide_eq_true_eq, eq_self, hal, zrow1i]
  refine E_call (hP ▸ s_ksmall1) ⟨_, s, a, l, rfl, by rw [get_app]; rfl, ha.app _, fun T0 hT0 => ?_⟩
  have e0 : Ext st T0 := (Ext.add _).trans hT0
  have hA : At T0 (st.length) [.val (.bool s), a] := At.ext ⟨by rw [get_app0]; rfl⟩ hT0
  have sA := (ha.ext e0).sl
  have gA := hA.get
  simp (disch := first | assumption | omega | (simp only [lens]; omega)) only [eqs, ↓gvd_succ, ↓gvd_zero, ↓and_of, im_of, im_of trivial, vals, lsts, tys, hP, hst, initS, Nat.reduceBEq, Nat.reduceAdd, Nat.reduceMul, Nat.reduceSub, Nat.reduceDiv, Nat.reduceMod, Nat.reducePow, Nat.reduceLT, Nat.reduceLeDiff, Nat.reduceEqDiff, Int.reduceAdd, Int.reduceSub, Int.reduceNeg, Int.reduceMul, Int.reduceToNat, Int.reducePow, Int.reduceLE, Int.reduceLT, Int.reduceEq, Int.reduceNe, reduceIte, reduceCtorEq, ne_eq, not_true_eq_false, not_false_eq_true, true_and, and_true, and_self, true_implies, imp_self, implies_true, decide_true, decide_false, Bool.not_true, Bool.not_false, Bool.and_true, Bool.and_false, Bool.true_and, Bool.false_and, Bool.and_self, decide_eq_true_eq, eq_self]
  refine G_ndec (fun h => ?_) (fun h => ?_)
  · have h := Classical.not_not.1 h
    simp (disch := first | assumption | omega | (simp only [lens]; omega)) only [eqs, ↓gvd_succ, ↓gvd_zero, ↓and_of, im_of, im_of trivial, vals, lsts, tys, hP, hst, initS, Nat.reduceBEq, Nat.reduceAdd, Nat.reduceMul, Nat.reduceSub, Nat.reduceDiv, Nat.reduceMod, Nat.reducePow, Nat.reduceLT, Nat.reduceLeDiff, Nat.reduceEqDiff, Int.reduceAdd, Int.reduceSub, Int.reduceNeg, Int.reduceMul, Int.reduceToNat, Int.reducePow, Int.reduceLE, Int.reduceLT, Int.reduceEq, Int.reduceNe, reduceIte, reduceCtorEq, ne_eq, not_true_eq_false, not_false_eq_true, true_and, and_true, and_self, true_implies, imp_self, implies_true, decide_true, decide_false, Bool.not_true, Bool.not_false, Bool.and_true, Bool.and_false, Bool.true_and, Bool.false_and, Bool.and_self, decide_eq_true_eq, eq_self, gA, sA, h]
    refine C_dec (fun h2 => ?_) (fun h2 => ?_)
    · simp (disch := first | assumption | omega | (simp only [lens]; omega)) only [eqs, ↓gvd_succ, ↓gvd_zero, ↓and_of, im_of, im_of trivial, vals, lsts, tys, hP, hst, initS, Nat.reduceBEq, Nat.reduceAdd, Nat.reduceMul, Nat.reduceSub, Nat.reduceDiv, Nat.reduceMod, Nat.reducePow, Nat.reduceLT, Nat.reduceLeDiff, Nat.reduceEqDiff, Int.reduceAdd, Int.reduceSub, Int.reduceNeg, Int.reduceMul, Int.reduceToNat, Int.reducePow, Int.reduceLE, Int.reduceLT, Int.reduceEq, Int.reduceNe, reduceIte, reduceCtorEq, ne_eq, not_true_eq_false, not_false_eq_true, true_and, and_true, and_self, true_implies, imp_self, implies_true, decide_true, decide_false, Bool.not_true, Bool.not_false, Bool.and_true, Bool.and_false, Bool.true_and, Bool.false_and, Bool.and_self, decide_eq_true_eq, eq_self]
      refine E_call (hP ▸ s_klives) ⟨rfl, fun T1 hT1 => ?_⟩
      simp (disch := first | assumption | omega | (simp only [lens]; omega)) only [eqs, ↓gvd_succ, ↓gvd_zero, ↓and_of, im_of, im_of trivial, vals, lsts, tys, hP, hst, initS, Nat.reduceBEq, Nat.reduceAdd, Nat.reduceMul, Nat.reduceSub, Nat.reduceDiv, Nat.reduceMod, Nat.reducePow, Nat.reduceLT, Nat.reduceLeDiff, Nat.reduceEqDiff, Int.reduceAdd, Int.reduceSub, Int.reduceNeg, Int.reduceMul, Int.reduceToNat, Int.reducePow, Int.reduceLE, Int.reduceLT, Int.reduceEq, Int.reduceNe, reduceIte, reduceCtorEq, ne_eq, not_true_eq_false, not_false_eq_true, true_and, and_true, and_self, true_implies, imp_self, implies_true, decide_true, decide_false, Bool.not_true, Bool.not_false, Bool.and_true, Bool.and_false, Bool.true_and, Bool.false_and, Bool.and_self, decide_eq_true_eq, eq_self]
      exact hK _ (e0.trans hT1)
    · have h := h
      have hX : IsZ st _ _ 24 := .mk hx1 h
      obtain ⟨Zx, hZx⟩ : ∃ Z, iv s (val l) = Z := ⟨_, rfl⟩
      rw [hZx] at hX
      have hdl : (limbs d.natAbs).length ≤ 2 := limbs_len_le (by omega)
      have gA := (hA.ext Ext.refl).get
      simp (disch := first | assumption | omega | (simp only [lens]; omega)) only [eqs, ↓gvd_succ, ↓gvd_zero, ↓and_of, im_of, im_of trivial, vals, lsts, tys, hP, hst, initS, Nat.reduceBEq, Nat.reduceAdd, Nat.reduceMul, Nat.reduceSub, Nat.reduceDiv, Nat.reduceMod, Nat.reducePow, Nat.reduceLT, Nat.reduceLeDiff, Nat.reduceEqDiff, Int.reduceAdd, Int.reduceSub, Int.reduceNeg, Int.reduceMul, Int.reduceToNat, Int.reducePow, Int.reduceLE, Int.reduceLT, Int.reduceEq, Int.reduceNe, reduceIte, reduceCtorEq, ne_eq, not_true_eq_false, not_false_eq_true, true_and, and_true, and_self, true_implies, imp_self, implies_true, decide_true, decide_false, Bool.not_true, Bool.not_false, Bool.and_true, Bool.and_false, Bool.true_and, Bool.false_and, Bool.and_self, decide_eq_true_eq, eq_self, gA]
      refine E_call (hP ▸ z_Text) ⟨_, _, _, rfl, (hX.ext e0), by omega, fun T1 e1 => ?_⟩
      have gA := (hA.ext e1).get
      simp (disch := first | assumption | omega | (simp only [lens]; omega)) only [eqs, ↓gvd_succ, ↓gvd_zero, ↓and_of, im_of, im_of trivial, vals, lsts, tys, hP, hst, initS, Nat.reduceBEq, Nat.reduceAdd, Nat.reduceMul, Nat.reduceSub, Nat.reduceDiv, Nat.reduceMod, Nat.reducePow, Nat.reduceLT, Nat.reduceLeDiff, Nat.reduceEqDiff, Int.reduceAdd, Int.reduceSub, Int.reduceNeg, Int.reduceMul, Int.reduceToNat, Int.reducePow, Int.reduceLE, Int.reduceLT, Int.reduceEq, Int.reduceNe, reduceIte, reduceCtorEq, ne_eq, not_true_eq_false, not_false_eq_true, true_and, and_true, and_self, true_implies, imp_self, implies_true, decide_true, decide_false, Bool.not_true, Bool.not_false, Bool.and_true, Bool.and_false, Bool.true_and, Bool.false_and, Bool.and_self, decide_eq_true_eq, eq_self, gA]
      refine E_call (hP ▸ z_Parse) ⟨_, some Zx, 24, rfl, txtI_lt _, Nat.le_trans (txtI_len hX.len) (by omega), parseI_txt hX.len (by omega), fun z hz => by cases hz; exact hX.len, fun z vP T2 hz e2 hP_ => ?_, fun hz => by cases hz⟩
      cases hz
      obtain ⟨pP, rfl, nP⟩ := hP_.1
      have lP := nP.leaf
      have q2 := (e0.trans (e1.trans e2)).len
      have gA := (hA.ext (e1.trans e2)).get
      simp (disch := first | assumption | omega | (simp only [lens]; omega)) only [eqs, ↓gvd_succ, ↓gvd_zero, ↓and_of, im_of, im_of trivial, vals, lsts, tys, hP, hst, initS, Nat.reduceBEq, Nat.reduceAdd, Nat.reduceMul, Nat.reduceSub, Nat.reduceDiv, Nat.reduceMod, Nat.reducePow, Nat.reduceLT, Nat.reduceLeDiff, Nat.reduceEqDiff, Int.reduceAdd, Int.reduceSub, Int.reduceNeg, Int.reduceMul, Int.reduceToNat, Int.reducePow, Int.reduceLE, Int.reduceLT, Int.reduceEq, Int.reduceNe, reduceIte, reduceCtorEq, ne_eq, not_true_eq_false, not_false_eq_true, true_and, and_true, and_self, true_implies, imp_self, implies_true, decide_true, decide_false, Bool.not_true, Bool.not_false, Bool.and_true, Bool.and_false, Bool.true_and, Bool.false_and, Bool.and_self, decide_eq_true_eq, eq_self, gA, lP, q2]
      obtain ⟨T3, hT3⟩ : ∃ S, T2 ++ [some [.val (.bool (decide (Zx < 0))), pP]] = S := ⟨_, rfl⟩
      have e3 : Ext T2 T3 := ⟨_, hT3.symm⟩
      have hP1_ : At T3 (T2.length) [.val (.bool (decide (Zx < 0))), pP] := ⟨hT3 ▸ by rw [get_app0]; rfl⟩
      rw [hT3]
      clear hT3
      refine E_call (hP ▸ z_Of) ⟨d, rfl, hd1, hd2, fun v1 T4 e4 h1 => ?_⟩
      have gA := (hA.ext (e1.trans (e2.trans (e3.trans e4)))).get
      have gP1_ := (hP1_.ext e4).get
      simp (disch := first | assumption | omega | (simp only [lens]; omega)) only [eqs, ↓gvd_succ, ↓gvd_zero, ↓and_of, im_of, im_of trivial, vals, lsts, tys, hP, hst, initS, Nat.reduceBEq, Nat.reduceAdd, Nat.reduceMul, Nat.reduceSub, Nat.reduceDiv, Nat.reduceMod, Nat.reducePow, Nat.reduceLT, Nat.reduceLeDiff, Nat.reduceEqDiff, Int.reduceAdd, Int.reduceSub, Int.reduceNeg, Int.reduceMul, Int.reduceToNat, Int.reducePow, Int.reduceLE, Int.reduceLT, Int.reduceEq, Int.reduceNe, reduceIte, reduceCtorEq, ne_eq, not_true_eq_false, not_false_eq_true, true_and, and_true, and_self, true_implies, imp_self, implies_true, decide_true, decide_false, Bool.not_true, Bool.not_false, Bool.and_true, Bool.and_false, Bool.true_and, Bool.false_and, Bool.and_self, decide_eq_true_eq, eq_self, gA, gP1_]
      refine E_call (hP ▸ z_Small) ⟨_, _, _, rfl, h1.toZ, by omega, fun T5 e5 => ?_⟩
      rw [show smZ d = d from if_pos ⟨hd1, hd2⟩, show smB d = true from decide_eq_true ⟨hd1, hd2⟩]
      have gA := (hA.ext (e1.trans (e2.trans (e3.trans (e4.trans e5))))).get
      have gP1_ := (hP1_.ext (e4.trans e5)).get
      simp (disch := first | assumption | omega | (simp only [lens]; omega)) only [eqs, ↓gvd_succ, ↓gvd_zero, ↓and_of, im_of, im_of trivial, vals, lsts, tys, hP, hst, initS, Nat.reduceBEq, Nat.reduceAdd, Nat.reduceMul, Nat.reduceSub, Nat.reduceDiv, Nat.reduceMod, Nat.reducePow, Nat.reduceLT, Nat.reduceLeDiff, Nat.reduceEqDiff, Int.reduceAdd, Int.reduceSub, Int.reduceNeg, Int.reduceMul, Int.reduceToNat, Int.reducePow, Int.reduceLE, Int.reduceLT, Int.reduceEq, Int.reduceNe, reduceIte, reduceCtorEq, ne_eq, not_true_eq_false, not_false_eq_true, true_and, and_true, and_self, true_implies, imp_self, implies_true, decide_true, decide_false, Bool.not_true, Bool.not_false, Bool.and_true, Bool.and_false, Bool.true_and, Bool.false_and, Bool.and_self, decide_eq_true_eq, eq_self, gA, gP1_]
      refine E_call (hP ▸ z_Of) ⟨d, rfl, hd1, hd2, fun v2 T6 e6 h2 => ?_⟩
      have gA := (hA.ext (e1.trans (e2.trans (e3.trans (e4.trans (e5.trans e6)))))).get
      have gP1_ := (hP1_.ext (e4.trans (e5.trans e6))).get
      simp (disch := first | assumption | omega | (simp only [lens]; omega)) only [eqs, ↓gvd_succ, ↓gvd_zero, ↓and_of, im_of, im_of trivial, vals, lsts, tys, hP, hst, initS, Nat.reduceBEq, Nat.reduceAdd, Nat.reduceMul, Nat.reduceSub, Nat.reduceDiv, Nat.reduceMod, Nat.reducePow, Nat.reduceLT, Nat.reduceLeDiff, Nat.reduceEqDiff, Int.reduceAdd, Int.reduceSub, Int.reduceNeg, Int.reduceMul, Int.reduceToNat, Int.reducePow, Int.reduceLE, Int.reduceLT, Int.reduceEq, Int.reduceNe, reduceIte, reduceCtorEq, ne_eq, not_true_eq_false, not_false_eq_true, true_and, and_true, and_self, true_implies, imp_self, implies_true, decide_true, decide_false, Bool.not_true, Bool.not_false, Bool.and_true, Bool.and_false, Bool.true_and, Bool.false_and, Bool.and_self, decide_eq_true_eq, eq_self, gA, gP1_]
      have et : ((⟨#[43]⟩ : ByteArray) ++ bstr (txtI d)) = bstr (43 :: txtI d) := by rw [show (⟨#[43]⟩ : ByteArray) = bstr [43] from rfl, bstr_append]; rfl
      have tl := txtI_len hdl
      have es : (⟨#[43]⟩ : ByteArray).size + (bstr (txtI d)).size ≤ 9223372036854775807 := by rw [bstr_size, show (⟨#[43]⟩ : ByteArray).size = 1 from rfl]; omega
      refine E_call (hP ▸ z_Text) ⟨_, _, _, rfl, h2.toZ, by omega, fun T7 e7 => ?_⟩
      have gA := (hA.ext (e1.trans (e2.trans (e3.trans (e4.trans (e5.trans (e6.trans e7))))))).get
      have gP1_ := (hP1_.ext (e4.trans (e5.trans (e6.trans e7)))).get
      simp (disch := first | assumption | omega | (simp only [lens]; omega)) only [eqs, ↓gvd_succ, ↓gvd_zero, ↓and_of, im_of, im_of trivial, vals, lsts, tys, hP, hst, initS, Nat.reduceBEq, Nat.reduceAdd, Nat.reduceMul, Nat.reduceSub, Nat.reduceDiv, Nat.reduceMod, Nat.reducePow, Nat.reduceLT, Nat.reduceLeDiff, Nat.reduceEqDiff, Int.reduceAdd, Int.reduceSub, Int.reduceNeg, Int.reduceMul, Int.reduceToNat, Int.reducePow, Int.reduceLE, Int.reduceLT, Int.reduceEq, Int.reduceNe, reduceIte, reduceCtorEq, ne_eq, not_true_eq_false, not_false_eq_true, true_and, and_true, and_self, true_implies, imp_self, implies_true, decide_true, decide_false, Bool.not_true, Bool.not_false, Bool.and_true, Bool.and_false, Bool.true_and, Bool.false_and, Bool.and_self, decide_eq_true_eq, eq_self, gA, gP1_, et, es]
      refine E_call (hP ▸ z_Parse) ⟨_, _, 2, rfl, fun c hc => (List.mem_cons.1 hc).elim (fun h => by omega) (txtI_lt _ c), by simp only [List.length_cons]; omega, parseI_plus hdl (by omega), fun z hz => ?_, fun z vR T8 hz e8 hR => ?_, fun hz T8 e8 => ?_⟩
      · split at hz
        · cases hz
        · cases hz; exact hdl
      · have hzd : ¬d < 0 ∧ z = d := by
          split at hz
          · cases hz
          · rename_i hn; exact ⟨hn, by cases hz; rfl⟩
        have hn := hzd.1
        have hn2 : 0 ≤ d := by omega
        rw [hzd.2] at hR
        obtain ⟨pR, rfl, nR⟩ := hR.1
        have lR := nR.leaf
        rw [decide_eq_false hn] at hR ⊢
        have q8 := (e0.trans (e1.trans (e2.trans (e3.trans (e4.trans (e5.trans (e6.trans (e7.trans e8)))))))).len
        have gA := (hA.ext (e1.trans (e2.trans (e3.trans (e4.trans (e5.trans (e6.trans (e7.trans e8)))))))).get
        have gP1_ := (hP1_.ext (e4.trans (e5.trans (e6.trans (e7.trans e8))))).get
        simp (disch := first | assumption | omega | (simp only [lens]; omega)) only [eqs, ↓gvd_succ, ↓gvd_zero, ↓and_of, im_of, im_of trivial, vals, lsts, tys, hP, hst, initS, Nat.reduceBEq, Nat.reduceAdd, Nat.reduceMul, Nat.reduceSub, Nat.reduceDiv, Nat.reduceMod, Nat.reducePow, Nat.reduceLT, Nat.reduceLeDiff, Nat.reduceEqDiff, Int.reduceAdd, Int.reduceSub, Int.reduceNeg, Int.reduceMul, Int.reduceToNat, Int.reducePow, Int.reduceLE, Int.reduceLT, Int.reduceEq, Int.reduceNe, reduceIte, reduceCtorEq, ne_eq, not_true_eq_false, not_false_eq_true, true_and, and_true, and_self, true_implies, imp_self, implies_true, decide_true, decide_false, Bool.not_true, Bool.not_false, Bool.and_true, Bool.and_false, Bool.true_and, Bool.false_and, Bool.and_self, decide_eq_true_eq, eq_self, gA, gP1_, lR, q8]
        obtain ⟨T9, hT9⟩ : ∃ S, T8 ++ [some [.val (.bool false), pR]] = S := ⟨_, rfl⟩
        have e9 : Ext T8 T9 := ⟨_, hT9.symm⟩
        have hR_ : At T9 (T8.length) [.val (.bool false), pR] := ⟨hT9 ▸ by rw [get_app0]; rfl⟩
        rw [hT9]
        clear hT9
        refine V_draw [0, 1, 2, 3, 4, 5, 6, 7, 8, 9, 10, 11, 12, 13, 14, 15, 16, 17, 18, 19, 20, 21, 22, 23, 24, 25, 26, 27, 28, 29, 30, 31, 32, 33, 34, 35, 36, 37, 38, 39] (by kernel_rfl) (.cons rfl <| .cons rfl <| .cons rfl <| .cons rfl <| .cons rfl <| .cons rfl <| .cons rfl <| .cons rfl <| .cons rfl <| .cons rfl <| .cons rfl <| .cons rfl <| .cons rfl <| .cons rfl <| .cons rfl <| .cons rfl <| .cons rfl <| .cons rfl <| .cons rfl <| .cons rfl <| .cons rfl <| .cons rfl <| .cons rfl <| .cons rfl <| .cons rfl <| .cons rfl <| .cons rfl <| .cons rfl <| .cons rfl <| .cons rfl <| .cons rfl <| .cons rfl <| .cons rfl <| .cons rfl <| .cons rfl <| .cons rfl <| .cons rfl <| .cons rfl <| .cons rfl <| .cons rfl <| .nil) ?_
        have gA := (hA.ext (e1.trans (e2.trans (e3.trans (e4.trans (e5.trans (e6.trans (e7.trans (e8.trans e9))))))))).get
        have gP1_ := (hP1_.ext (e4.trans (e5.trans (e6.trans (e7.trans (e8.trans e9)))))).get
        have gR_ := (hR_.ext Ext.refl).get
        simp (disch := first | assumption | omega | (simp only [lens]; omega)) only [eqs, ↓gvd_succ, ↓gvd_zero, ↓and_of, im_of, im_of trivial, vals, lsts, tys, hP, hst, initS, Nat.reduceBEq, Nat.reduceAdd, Nat.reduceMul, Nat.reduceSub, Nat.reduceDiv, Nat.reduceMod, Nat.reducePow, Nat.reduceLT, Nat.reduceLeDiff, Nat.reduceEqDiff, Int.reduceAdd, Int.reduceSub, Int.reduceNeg, Int.reduceMul, Int.reduceToNat, Int.reducePow, Int.reduceLE, Int.reduceLT, Int.reduceEq, Int.reduceNe, reduceIte, reduceCtorEq, ne_eq, not_true_eq_false, not_false_eq_true, true_and, and_true, and_self, true_implies, imp_self, implies_true, decide_true, decide_false, Bool.not_true, Bool.not_false, Bool.and_true, Bool.and_false, Bool.true_and, Bool.false_and, Bool.and_self, decide_eq_true_eq, eq_self, gA, gP1_, gR_, hn, hn2]
        refine E_call (hP ▸ z_Norm) ⟨_, _, _, rfl, (hX.ext (e0.trans (e1.trans (e2.trans (e3.trans (e4.trans (e5.trans (e6.trans (e7.trans (e8.trans e9)))))))))), by omega, fun v5 T10 e10 h5 => ?_⟩
        dsimp only [id] at h5
        have gA := (hA.ext (e1.trans (e2.trans (e3.trans (e4.trans (e5.trans (e6.trans (e7.trans (e8.trans (e9.trans e10)))))))))).get
        have gP1_ := (hP1_.ext (e4.trans (e5.trans (e6.trans (e7.trans (e8.trans (e9.trans e10))))))).get
        have gR_ := (hR_.ext e10).get
        simp (disch := first | assumption | omega | (simp only [lens]; omega)) only [eqs, ↓gvd_succ, ↓gvd_zero, ↓and_of, im_of, im_of trivial, vals, lsts, tys, hP, hst, initS, Nat.reduceBEq, Nat.reduceAdd, Nat.reduceMul, Nat.reduceSub, Nat.reduceDiv, Nat.reduceMod, Nat.reducePow, Nat.reduceLT, Nat.reduceLeDiff, Nat.reduceEqDiff, Int.reduceAdd, Int.reduceSub, Int.reduceNeg, Int.reduceMul, Int.reduceToNat, Int.reducePow, Int.reduceLE, Int.reduceLT, Int.reduceEq, Int.reduceNe, reduceIte, reduceCtorEq, ne_eq, not_true_eq_false, not_false_eq_true, true_and, and_true, and_self, true_implies, imp_self, implies_true, decide_true, decide_false, Bool.not_true, Bool.not_false, Bool.and_true, Bool.and_false, Bool.true_and, Bool.false_and, Bool.and_self, decide_eq_true_eq, eq_self, gA, gP1_, gR_, hn, hn2]
        refine E_call (hP ▸ z_same) ⟨_, _, _, _, _, rfl, (hP_.ext (e3.trans (e4.trans (e5.trans (e6.trans (e7.trans (e8.trans (e9.trans e10)))))))), h5, by omega, fun T11 e11 => ?_⟩
        have gA := (hA.ext (e1.trans (e2.trans (e3.trans (e4.trans (e5.trans (e6.trans (e7.trans (e8.trans (e9.trans (e10.trans e11))))))))))).get
        have gP1_ := (hP1_.ext (e4.trans (e5.trans (e6.trans (e7.trans (e8.trans (e9.trans (e10.trans e11)))))))).get
        have gR_ := (hR_.ext (e10.trans e11)).get
        simp (disch := first | assumption | omega | (simp only [lens]; omega)) only [eqs, ↓gvd_succ, ↓gvd_zero, ↓and_of, im_of, im_of trivial, vals, lsts, tys, hP, hst, initS, Nat.reduceBEq, Nat.reduceAdd, Nat.reduceMul, Nat.reduceSub, Nat.reduceDiv, Nat.reduceMod, Nat.reducePow, Nat.reduceLT, Nat.reduceLeDiff, Nat.reduceEqDiff, Int.reduceAdd, Int.reduceSub, Int.reduceNeg, Int.reduceMul, Int.reduceToNat, Int.reducePow, Int.reduceLE, Int.reduceLT, Int.reduceEq, Int.reduceNe, reduceIte, reduceCtorEq, ne_eq, not_true_eq_false, not_false_eq_true, true_and, and_true, and_self, true_implies, imp_self, implies_true, decide_true, decide_false, Bool.not_true, Bool.not_false, Bool.and_true, Bool.and_false, Bool.true_and, Bool.false_and, Bool.and_self, decide_eq_true_eq, eq_self, gA, gP1_, gR_, hn, hn2, beq_self_eq_true]
        refine E_call (hP ▸ z_Of) ⟨d, rfl, hd1, hd2, fun v6 T12 e12 h6 => ?_⟩
        have gA := (hA.ext (e1.trans (e2.trans (e3.trans (e4.trans (e5.trans (e6.trans (e7.trans (e8.trans (e9.trans (e10.trans (e11.trans e12)))))))))))).get
        have gP1_ := (hP1_.ext (e4.trans (e5.trans (e6.trans (e7.trans (e8.trans (e9.trans (e10.trans (e11.trans e12))))))))).get
        have gR_ := (hR_.ext (e10.trans (e11.trans e12))).get
        simp (disch := first | assumption | omega | (simp only [lens]; omega)) only [eqs, ↓gvd_succ, ↓gvd_zero, ↓and_of, im_of, im_of trivial, vals, lsts, tys, hP, hst, initS, Nat.reduceBEq, Nat.reduceAdd, Nat.reduceMul, Nat.reduceSub, Nat.reduceDiv, Nat.reduceMod, Nat.reducePow, Nat.reduceLT, Nat.reduceLeDiff, Nat.reduceEqDiff, Int.reduceAdd, Int.reduceSub, Int.reduceNeg, Int.reduceMul, Int.reduceToNat, Int.reducePow, Int.reduceLE, Int.reduceLT, Int.reduceEq, Int.reduceNe, reduceIte, reduceCtorEq, ne_eq, not_true_eq_false, not_false_eq_true, true_and, and_true, and_self, true_implies, imp_self, implies_true, decide_true, decide_false, Bool.not_true, Bool.not_false, Bool.and_true, Bool.and_false, Bool.true_and, Bool.false_and, Bool.and_self, decide_eq_true_eq, eq_self, gA, gP1_, gR_, hn, hn2]
        refine E_call (hP ▸ z_same) ⟨_, _, _, _, _, rfl, (hR.ext (e9.trans (e10.trans (e11.trans e12)))), h6, by omega, fun T13 e13 => ?_⟩
        have gA := (hA.ext (e1.trans (e2.trans (e3.trans (e4.trans (e5.trans (e6.trans (e7.trans (e8.trans (e9.trans (e10.trans (e11.trans (e12.trans e13))))))))))))).get
        have gP1_ := (hP1_.ext (e4.trans (e5.trans (e6.trans (e7.trans (e8.trans (e9.trans (e10.trans (e11.trans (e12.trans e13)))))))))).get
        have gR_ := (hR_.ext (e10.trans (e11.trans (e12.trans e13)))).get
        simp (disch := first | assumption | omega | (simp only [lens]; omega)) only [eqs, ↓gvd_succ, ↓gvd_zero, ↓and_of, im_of, im_of trivial, vals, lsts, tys, hP, hst, initS, Nat.reduceBEq, Nat.reduceAdd, Nat.reduceMul, Nat.reduceSub, Nat.reduceDiv, Nat.reduceMod, Nat.reducePow, Nat.reduceLT, Nat.reduceLeDiff, Nat.reduceEqDiff, Int.reduceAdd, Int.reduceSub, Int.reduceNeg, Int.reduceMul, Int.reduceToNat, Int.reducePow, Int.reduceLE, Int.reduceLT, Int.reduceEq, Int.reduceNe, reduceIte, reduceCtorEq, ne_eq, not_true_eq_false, not_false_eq_true, true_and, and_true, and_self, true_implies, imp_self, implies_true, decide_true, decide_false, Bool.not_true, Bool.not_false, Bool.and_true, Bool.and_false, Bool.true_and, Bool.false_and, Bool.and_self, decide_eq_true_eq, eq_self, gA, gP1_, gR_, hn, hn2]
        refine E_call (hP ▸ z_Of) ⟨d, rfl, hd1, hd2, fun v7 T14 e14 h7 => ?_⟩
        have gA := (hA.ext (e1.trans (e2.trans (e3.trans (e4.trans (e5.trans (e6.trans (e7.trans (e8.trans (e9.trans (e10.trans (e11.trans (e12.trans (e13.trans e14)))))))))))))).get
        have gP1_ := (hP1_.ext (e4.trans (e5.trans (e6.trans (e7.trans (e8.trans (e9.trans (e10.trans (e11.trans (e12.trans (e13.trans e14))))))))))).get
        have gR_ := (hR_.ext (e10.trans (e11.trans (e12.trans (e13.trans e14))))).get
        simp (disch := first | assumption | omega | (simp only [lens]; omega)) only [eqs, ↓gvd_succ, ↓gvd_zero, ↓and_of, im_of, im_of trivial, vals, lsts, tys, hP, hst, initS, Nat.reduceBEq, Nat.reduceAdd, Nat.reduceMul, Nat.reduceSub, Nat.reduceDiv, Nat.reduceMod, Nat.reducePow, Nat.reduceLT, Nat.reduceLeDiff, Nat.reduceEqDiff, Int.reduceAdd, Int.reduceSub, Int.reduceNeg, Int.reduceMul, Int.reduceToNat, Int.reducePow, Int.reduceLE, Int.reduceLT, Int.reduceEq, Int.reduceNe, reduceIte, reduceCtorEq, ne_eq, not_true_eq_false, not_false_eq_true, true_and, and_true, and_self, true_implies, imp_self, implies_true, decide_true, decide_false, Bool.not_true, Bool.not_false, Bool.and_true, Bool.and_false, Bool.true_and, Bool.false_and, Bool.and_self, decide_eq_true_eq, eq_self, gA, gP1_, gR_, hn, hn2]
        refine E_call (hP ▸ z_GoodT) ⟨_, _, _, rfl, h7, by omega, fun T15 e15 => ?_⟩
        have gA := (hA.ext (e1.trans (e2.trans (e3.trans (e4.trans (e5.trans (e6.trans (e7.trans (e8.trans (e9.trans (e10.trans (e11.trans (e12.trans (e13.trans (e14.trans e15))))))))))))))).get
        have gP1_ := (hP1_.ext (e4.trans (e5.trans (e6.trans (e7.trans (e8.trans (e9.trans (e10.trans (e11.trans (e12.trans (e13.trans (e14.trans e15)))))))))))).get
        have gR_ := (hR_.ext (e10.trans (e11.trans (e12.trans (e13.trans (e14.trans e15)))))).get
        simp (disch := first | assumption | omega | (simp only [lens]; omega)) only [eqs, ↓gvd_succ, ↓gvd_zero, ↓and_of, im_of, im_of trivial, vals, lsts, tys, hP, hst, initS, Nat.reduceBEq, Nat.reduceAdd, Nat.reduceMul, Nat.reduceSub, Nat.reduceDiv, Nat.reduceMod, Nat.reducePow, Nat.reduceLT, Nat.reduceLeDiff, Nat.reduceEqDiff, Int.reduceAdd, Int.reduceSub, Int.reduceNeg, Int.reduceMul, Int.reduceToNat, Int.reducePow, Int.reduceLE, Int.reduceLT, Int.reduceEq, Int.reduceNe, reduceIte, reduceCtorEq, ne_eq, not_true_eq_false, not_false_eq_true, true_and, and_true, and_self, true_implies, imp_self, implies_true, decide_true, decide_false, Bool.not_true, Bool.not_false, Bool.and_true, Bool.and_false, Bool.true_and, Bool.false_and, Bool.and_self, decide_eq_true_eq, eq_self, gA, gP1_, gR_, hn, hn2]
        refine E_call (hP ▸ s_klives) ⟨rfl, fun T16 e16 => ?_⟩
        simp (disch := first | assumption | omega | (simp only [lens]; omega)) only [eqs, ↓gvd_succ, ↓gvd_zero, ↓and_of, im_of, im_of trivial, vals, lsts, tys, hP, hst, initS, Nat.reduceBEq, Nat.reduceAdd, Nat.reduceMul, Nat.reduceSub, Nat.reduceDiv, Nat.reduceMod, Nat.reducePow, Nat.reduceLT, Nat.reduceLeDiff, Nat.reduceEqDiff, Int.reduceAdd, Int.reduceSub, Int.reduceNeg, Int.reduceMul, Int.reduceToNat, Int.reducePow, Int.reduceLE, Int.reduceLT, Int.reduceEq, Int.reduceNe, reduceIte, reduceCtorEq, ne_eq, not_true_eq_false, not_false_eq_true, true_and, and_true, and_self, true_implies, imp_self, implies_true, decide_true, decide_false, Bool.not_true, Bool.not_false, Bool.and_true, Bool.and_false, Bool.true_and, Bool.false_and, Bool.and_self, decide_eq_true_eq, eq_self]
        exact hK _ (e0.trans (e1.trans (e2.trans (e3.trans (e4.trans (e5.trans (e6.trans (e7.trans (e8.trans (e9.trans (e10.trans (e11.trans (e12.trans (e13.trans (e14.trans (e15.trans e16))))))))))))))))
      · have hn : d < 0 := by
          split at hz
          · assumption
          · cases hz
        have hn2 : ¬0 ≤ d := by omega
        unfold zeroI
        have q8 := (e0.trans (e1.trans (e2.trans (e3.trans (e4.trans (e5.trans (e6.trans (e7.trans e8)))))))).len
        have gA := (hA.ext (e1.trans (e2.trans (e3.trans (e4.trans (e5.trans (e6.trans (e7.trans e8)))))))).get
        have gP1_ := (hP1_.ext (e4.trans (e5.trans (e6.trans (e7.trans e8))))).get
        simp (disch := first | assumption | omega | (simp only [lens]; omega)) only [eqs, ↓gvd_succ, ↓gvd_zero, ↓and_of, im_of, im_of trivial, vals, lsts, tys, hP, hst, initS, Nat.reduceBEq, Nat.reduceAdd, Nat.reduceMul, Nat.reduceSub, Nat.reduceDiv, Nat.reduceMod, Nat.reducePow, Nat.reduceLT, Nat.reduceLeDiff, Nat.reduceEqDiff, Int.reduceAdd, Int.reduceSub, Int.reduceNeg, Int.reduceMul, Int.reduceToNat, Int.reducePow, Int.reduceLE, Int.reduceLT, Int.reduceEq, Int.reduceNe, reduceIte, reduceCtorEq, ne_eq, not_true_eq_false, not_false_eq_true, true_and, and_true, and_self, true_implies, imp_self, implies_true, decide_true, decide_false, Bool.not_true, Bool.not_false, Bool.and_true, Bool.and_false, Bool.true_and, Bool.false_and, Bool.and_self, decide_eq_true_eq, eq_self, gA, gP1_, q8]
        obtain ⟨T9, hT9⟩ : ∃ S, T8 ++ [some [.val (.bool false), .val (.slice none 0 0)]] = S := ⟨_, rfl⟩
        have e9 : Ext T8 T9 := ⟨_, hT9.symm⟩
        have hR_ : At T9 (T8.length) [.val (.bool false), .val (.slice none 0 0)] := ⟨hT9 ▸ by rw [get_app0]; rfl⟩
        rw [hT9]
        clear hT9
        refine V_draw [0, 1, 2, 3, 4, 5, 6, 7, 8, 9, 10, 11, 12, 13, 14, 15, 16, 17, 18, 19, 20, 21, 22, 23, 24, 25, 26, 27, 28, 29, 30, 31, 32, 33, 34, 35, 36, 37, 38, 39] (by kernel_rfl) (.cons rfl <| .cons rfl <| .cons rfl <| .cons rfl <| .cons rfl <| .cons rfl <| .cons rfl <| .cons rfl <| .cons rfl <| .cons rfl <| .cons rfl <| .cons rfl <| .cons rfl <| .cons rfl <| .cons rfl <| .cons rfl <| .cons rfl <| .cons rfl <| .cons rfl <| .cons rfl <| .cons rfl <| .cons rfl <| .cons rfl <| .cons rfl <| .cons rfl <| .cons rfl <| .cons rfl <| .cons rfl <| .cons rfl <| .cons rfl <| .cons rfl <| .cons rfl <| .cons rfl <| .cons rfl <| .cons rfl <| .cons rfl <| .cons rfl <| .cons rfl <| .cons rfl <| .cons rfl <| .nil) ?_
        have gA := (hA.ext (e1.trans (e2.trans (e3.trans (e4.trans (e5.trans (e6.trans (e7.trans (e8.trans e9))))))))).get
        have gP1_ := (hP1_.ext (e4.trans (e5.trans (e6.trans (e7.trans (e8.trans e9)))))).get
        have gR_ := (hR_.ext Ext.refl).get
        simp (disch := first | assumption | omega | (simp only [lens]; omega)) only [eqs, ↓gvd_succ, ↓gvd_zero, ↓and_of, im_of, im_of trivial, vals, lsts, tys, hP, hst, initS, Nat.reduceBEq, Nat.reduceAdd, Nat.reduceMul, Nat.reduceSub, Nat.reduceDiv, Nat.reduceMod, Nat.reducePow, Nat.reduceLT, Nat.reduceLeDiff, Nat.reduceEqDiff, Int.reduceAdd, Int.reduceSub, Int.reduceNeg, Int.reduceMul, Int.reduceToNat, Int.reducePow, Int.reduceLE, Int.reduceLT, Int.reduceEq, Int.reduceNe, reduceIte, reduceCtorEq, ne_eq, not_true_eq_false, not_false_eq_true, true_and, and_true, and_self, true_implies, imp_self, implies_true, decide_true, decide_false, Bool.not_true, Bool.not_false, Bool.and_true, Bool.and_false, Bool.true_and, Bool.false_and, Bool.and_self, decide_eq_true_eq, eq_self, gA, gP1_, gR_, hn, hn2]
        refine E_call (hP ▸ z_Norm) ⟨_, _, _, rfl, (hX.ext (e0.trans (e1.trans (e2.trans (e3.trans (e4.trans (e5.trans (e6.trans (e7.trans (e8.trans e9)))))))))), by omega, fun v5 T10 e10 h5 => ?_⟩
        dsimp only [id] at h5
        have gA := (hA.ext (e1.trans (e2.trans (e3.trans (e4.trans (e5.trans (e6.trans (e7.trans (e8.trans (e9.trans e10)))))))))).get
        have gP1_ := (hP1_.ext (e4.trans (e5.trans (e6.trans (e7.trans (e8.trans (e9.trans e10))))))).get
        have gR_ := (hR_.ext e10).get
        simp (disch := first | assumption | omega | (simp only [lens]; omega)) only [eqs, ↓gvd_succ, ↓gvd_zero, ↓and_of, im_of, im_of trivial, vals, lsts, tys, hP, hst, initS, Nat.reduceBEq, Nat.reduceAdd, Nat.reduceMul, Nat.reduceSub, Nat.reduceDiv, Nat.reduceMod, Nat.reducePow, Nat.reduceLT, Nat.reduceLeDiff, Nat.reduceEqDiff, Int.reduceAdd, Int.reduceSub, Int.reduceNeg, Int.reduceMul, Int.reduceToNat, Int.reducePow, Int.reduceLE, Int.reduceLT, Int.reduceEq, Int.reduceNe, reduceIte, reduceCtorEq, ne_eq, not_true_eq_false, not_false_eq_true, true_and, and_true, and_self, true_implies, imp_self, implies_true, decide_true, decide_false, Bool.not_true, Bool.not_false, Bool.and_true, Bool.and_false, Bool.true_and, Bool.false_and, Bool.and_self, decide_eq_true_eq, eq_self, gA, gP1_, gR_, hn, hn2]
        refine E_call (hP ▸ z_same) ⟨_, _, _, _, _, rfl, (hP_.ext (e3.trans (e4.trans (e5.trans (e6.trans (e7.trans (e8.trans (e9.trans e10)))))))), h5, by omega, fun T11 e11 => ?_⟩
        have gA := (hA.ext (e1.trans (e2.trans (e3.trans (e4.trans (e5.trans (e6.trans (e7.trans (e8.trans (e9.trans (e10.trans e11))))))))))).get
        have gP1_ := (hP1_.ext (e4.trans (e5.trans (e6.trans (e7.trans (e8.trans (e9.trans (e10.trans e11)))))))).get
        have gR_ := (hR_.ext (e10.trans e11)).get
        simp (disch := first | assumption | omega | (simp only [lens]; omega)) only [eqs, ↓gvd_succ, ↓gvd_zero, ↓and_of, im_of, im_of trivial, vals, lsts, tys, hP, hst, initS, Nat.reduceBEq, Nat.reduceAdd, Nat.reduceMul, Nat.reduceSub, Nat.reduceDiv, Nat.reduceMod, Nat.reducePow, Nat.reduceLT, Nat.reduceLeDiff, Nat.reduceEqDiff, Int.reduceAdd, Int.reduceSub, Int.reduceNeg, Int.reduceMul, Int.reduceToNat, Int.reducePow, Int.reduceLE, Int.reduceLT, Int.reduceEq, Int.reduceNe, reduceIte, reduceCtorEq, ne_eq, not_true_eq_false, not_false_eq_true, true_and, and_true, and_self, true_implies, imp_self, implies_true, decide_true, decide_false, Bool.not_true, Bool.not_false, Bool.and_true, Bool.and_false, Bool.true_and, Bool.false_and, Bool.and_self, decide_eq_true_eq, eq_self, gA, gP1_, gR_, hn, hn2, beq_self_eq_true]
        refine E_call (hP ▸ z_Of) ⟨d, rfl, hd1, hd2, fun v7 T12 e12 h7 => ?_⟩
        have gA := (hA.ext (e1.trans (e2.trans (e3.trans (e4.trans (e5.trans (e6.trans (e7.trans (e8.trans (e9.trans (e10.trans (e11.trans e12)))))))))))).get
        have gP1_ := (hP1_.ext (e4.trans (e5.trans (e6.trans (e7.trans (e8.trans (e9.trans (e10.trans (e11.trans e12))))))))).get
        have gR_ := (hR_.ext (e10.trans (e11.trans e12))).get
        simp (disch := first | assumption | omega | (simp only [lens]; omega)) only [eqs, ↓gvd_succ, ↓gvd_zero, ↓and_of, im_of, im_of trivial, vals, lsts, tys, hP, hst, initS, Nat.reduceBEq, Nat.reduceAdd, Nat.reduceMul, Nat.reduceSub, Nat.reduceDiv, Nat.reduceMod, Nat.reducePow, Nat.reduceLT, Nat.reduceLeDiff, Nat.reduceEqDiff, Int.reduceAdd, Int.reduceSub, Int.reduceNeg, Int.reduceMul, Int.reduceToNat, Int.reducePow, Int.reduceLE, Int.reduceLT, Int.reduceEq, Int.reduceNe, reduceIte, reduceCtorEq, ne_eq, not_true_eq_false, not_false_eq_true, true_and, and_true, and_self, true_implies, imp_self, implies_true, decide_true, decide_false, Bool.not_true, Bool.not_false, Bool.and_true, Bool.and_false, Bool.true_and, Bool.false_and, Bool.and_self, decide_eq_true_eq, eq_self, gA, gP1_, gR_, hn, hn2]
        refine E_call (hP ▸ z_GoodT) ⟨_, _, _, rfl, h7, by omega, fun T13 e13 => ?_⟩
        have gA := (hA.ext (e1.trans (e2.trans (e3.trans (e4.trans (e5.trans (e6.trans (e7.trans (e8.trans (e9.trans (e10.trans (e11.trans (e12.trans e13))))))))))))).get
        have gP1_ := (hP1_.ext (e4.trans (e5.trans (e6.trans (e7.trans (e8.trans (e9.trans (e10.trans (e11.trans (e12.trans e13)))))))))).get
        have gR_ := (hR_.ext (e10.trans (e11.trans (e12.trans e13)))).get
        simp (disch := first | assumption | omega | (simp only [lens]; omega)) only [eqs, ↓gvd_succ, ↓gvd_zero, ↓and_of, im_of, im_of trivial, vals, lsts, tys, hP, hst, initS, Nat.reduceBEq, Nat.reduceAdd, Nat.reduceMul, Nat.reduceSub, Nat.reduceDiv, Nat.reduceMod, Nat.reducePow, Nat.reduceLT, Nat.reduceLeDiff, Nat.reduceEqDiff, Int.reduceAdd, Int.reduceSub, Int.reduceNeg, Int.reduceMul, Int.reduceToNat, Int.reducePow, Int.reduceLE, Int.reduceLT, Int.reduceEq, Int.reduceNe, reduceIte, reduceCtorEq, ne_eq, not_true_eq_false, not_false_eq_true, true_and, and_true, and_self, true_implies, imp_self, implies_true, decide_true, decide_false, Bool.not_true, Bool.not_false, Bool.and_true, Bool.and_false, Bool.true_and, Bool.false_and, Bool.and_self, decide_eq_true_eq, eq_self, gA, gP1_, gR_, hn, hn2]
        refine E_call (hP ▸ s_klives) ⟨rfl, fun T14 e14 => ?_⟩
        simp (disch := first | assumption | omega | (simp only [lens]; omega)) only [eqs, ↓gvd_succ, ↓gvd_zero, ↓and_of, im_of, im_of trivial, vals, lsts, tys, hP, hst, initS, Nat.reduceBEq, Nat.reduceAdd, Nat.reduceMul, Nat.reduceSub, Nat.reduceDiv, Nat.reduceMod, Nat.reducePow, Nat.reduceLT, Nat.reduceLeDiff, Nat.reduceEqDiff, Int.reduceAdd, Int.reduceSub, Int.reduceNeg, Int.reduceMul, Int.reduceToNat, Int.reducePow, Int.reduceLE, Int.reduceLT, Int.reduceEq, Int.reduceNe, reduceIte, reduceCtorEq, ne_eq, not_true_eq_false, not_false_eq_true, true_and, and_true, and_self, true_implies, imp_self, implies_true, decide_true, decide_false, Bool.not_true, Bool.not_false, Bool.and_true, Bool.and_false, Bool.true_and, Bool.false_and, Bool.and_self, decide_eq_true_eq, eq_self]
        exact hK _ (e0.trans (e1.trans (e2.trans (e3.trans (e4.trans (e5.trans (e6.trans (e7.trans (e8.trans (e9.trans (e10.trans (e11.trans (e12.trans (e13.trans e14))))))))))))))
  · simp (disch := first | assumption | omega | (simp only [lens]; omega)) only [eqs, ↓gvd_succ, ↓gvd_zero, ↓and_of, im_of, im_of trivial, vals, lsts, tys, hP, hst, initS, Nat.reduceBEq, Nat.reduceAdd, Nat.reduceMul, Nat.reduceSub, Nat.reduceDiv, Nat.reduceMod, Nat.reducePow, Nat.reduceLT, Nat.reduceLeDiff, Nat.reduceEqDiff, Int.reduceAdd, Int.reduceSub, Int.reduceNeg, Int.reduceMul, Int.reduceToNat, Int.reducePow, Int.reduceLE, Int.reduceLT, Int.reduceEq, Int.reduceNe, reduceIte, reduceCtorEq, ne_eq, not_true_eq_false, not_false_eq_true, true_and, and_true, and_self, true_implies, imp_self, implies_true, decide_true, decide_false, Bool.not_true, Bool.not_false, Bool.and_true, Bool.and_false, Bool.true_and, Bool.false_and, Bool.and_self, decide_eq_true_eq, eq_self, h]
    refine E_call (hP ▸ s_klives) ⟨rfl, fun T1 hT1 => ?_⟩
    simp (disch := first | assumption | omega | (simp only [lens]; omega)) only [eqs, ↓gvd_succ, ↓gvd_zero, ↓and_of, im_of, im_of trivial, vals, lsts, tys, hP, hst, initS, Nat.reduceBEq, Nat.reduceAdd, Nat.reduceMul, Nat.reduceSub, Nat.reduceDiv, Nat.reduceMod, Nat.reducePow, Nat.reduceLT, Nat.reduceLeDiff, Nat.reduceEqDiff, Int.reduceAdd, Int.reduceSub, Int.reduceNeg, Int.reduceMul, Int.reduceToNat, Int.reducePow, Int.reduceLE, Int.reduceLT, Int.reduceEq, Int.reduceNe, reduceIte, reduceCtorEq, ne_eq, not_true_eq_false, not_false_eq_true, true_and, and_true, and_self, true_implies, imp_self, implies_true, decide_true, decide_false, Bool.not_true, Bool.not_false, Bool.and_true, Bool.and_false, Bool.true_and, Bool.false_and, Bool.and_self, decide_eq_true_eq, eq_self]
    exact hK _ (e0.trans hT1)
end Go.Proofs.Pv
