/- The document's whole numbers, seventh part: the root. -/
import Derived.Test.YtdaidpomfkgbeaaQ2
import Derived.Test.YtdaidpomfkgbeaaW13
import Derived.Test.YtdaidpomfkgbeaaR8
set_option linter.unusedSimpArgs false
set_option linter.unusedVariables false
namespace Go.Proofs.Pv
open Go Go.RowKit Go.Proofs
set_option maxRecDepth 20000

/-- A row that is kept whatever is written to one variable. -/
structure Keep1 (st : St) (P : Nat) (T : St) (x : AV) (v : Nat) : Prop where
  all : ∀ (e : St) (b : Option (List AV)), Ext T e → Got st (e.set P b) x v
section
variable {st T T' T2 : St} {P v : Nat} {x : AV} {b : Option (List AV)}
theorem Keep1.ext (h : Keep1 st P T x v) (e : Ext T T') : Keep1 st P T' x v := ⟨fun e' b h2 => h.all e' b (e.trans h2)⟩
theorem set_same1 (h : T[P]? = some b) : T.set P b = T := by
  apply List.ext_getElem?
  intro i
  by_cases hi : P = i
  · subst hi
    rw [List.getElem?_set_self (List.getElem?_eq_some_iff.1 h).1, h]
  · rw [List.getElem?_set_ne hi]
theorem Keep1.set (h : Keep1 st P T x v) (h1 : P < T.length) (b : Option (List AV)) : Keep1 st P (T.set P b) x v := by
  refine ⟨?_⟩
  rintro e b' ⟨y, rfl⟩
  have e1 : (T.set P b ++ y).set P b' = (T ++ y).set P b' := by
    rw [List.set_append_left _ _ (by simpa using h1), List.set_append_left _ _ h1, List.set_set]
  rw [e1]
  exact h.all _ _ (.add _)
theorem Keep1.got (h : Keep1 st P T x v) (hP : T[P]? = some b) : Got st T x v := by
  have := h.all T b .refl
  rwa [set_same1 hP] at this
theorem Keep1.old (h : Got st T2 x v) (e : Ext T2 T) (hP : T2.length ≤ P) : Keep1 st P T x v := ⟨fun e' b h2 => h.ext ((e.trans h2).set hP b)⟩
theorem Keep1.new (h : Got T T' x v) (e0 : Ext st T) (hP : st.length ≤ P) (h2 : P < T.length) : Keep1 st P T' x v := ⟨fun e b h3 => Got.pre (e0.set hP b) ((h.ext h3).put h2 b)⟩
end
set_option maxHeartbeats 4000000 in
theorem s_qRoot : PSpec Try.prog 75 RwRoot := by
  refine fspec_of (fn := Try.f75) 1 [.cell 2 52, .cell 3 52, .tmp 4] (by kernel_rfl) rfl rfl (by kernel_rfl) mixed (by rintro _ _ _ ⟨x, s, l, rfl, _⟩; rfl) ?_
  rintro X _ st K hP hst ⟨x, s, l, rfl, hx, hl, hK0, hK⟩
  have hx1 := hx
  obtain ⟨a, rfl, ha, hal⟩ := hx.iv
  refine vc_V ?_
  have b1 := limbs_len ha.lt
  have hbl := blen_len ha.lt
  have hX1 : X.st1.length ≤ st.length + 1 := by rw [hst]; omega
  have hX2 : X.st1.length ≤ st.length + 2 := by rw [hst]; omega
  simp (disch := first | assumption | omega | (simp only [lens]; omega)) only [eqs, ↓gvd_succ, ↓gvd_zero, ↓and_of, im_of, im_of trivial, vals, lsts, tys, hP, hst, initS, Nat.reduceBEq, Nat.reduceAdd, Nat.reduceMul, Nat.reduceSub, Nat.reduceDiv, Nat.reduceMod, Nat.reducePow, Nat.reduceLT, Nat.reduceLeDiff, Nat.reduceEqDiff, Int.reduceAdd, Int.reduceSub, Int.reduceNeg, Int.reduceMul, Int.reduceToNat, Int.reducePow, Int.reduceLE, Int.reduceLT, Int.reduceEq, Int.reduceNe, reduceIte, reduceCtorEq, ne_eq, not_true_eq_false, not_false_eq_true, imp_self, implies_true, bls, eq_self, hal]
  refine E_call (hP ▸ s_qNorm) ⟨_, s, l, rfl, hx1.ext (.add _), by omega, fun z T hz => ?_⟩
  have hzw := hz.wh
  have e0 : Ext st T := (Ext.add _).trans hz.ex
  have hC : At T (st.length + 1) [.val (.bool false), .val (.slice none 0 0)] := At.ext ⟨by rw [get_app]; rfl⟩ hz.ex
  have hD : At T (st.length + 2) [.val (.bool false), .val (.slice none 0 0)] := At.ext ⟨by rw [get_app]; rfl⟩ hz.ex
  have hpos : 0 ≤ iv s (val l) ↔ decide (iv s (val l) < 0) = false := by simp
  obtain ⟨a', rfl, ha'⟩ := hz
  rw [iv_natAbs] at ha'
  have hal' := ha'.nm.leaf
  have hX0 := e0.len
  obtain ⟨s', hs'⟩ : ∃ s', decide (iv s (val l) < 0) = s' := ⟨_, rfl⟩
  rw [hs'] at hpos ⊢
  simp (disch := first | assumption | omega | (simp only [lens]; omega)) only [eqs, ↓gvd_succ, ↓gvd_zero, ↓and_of, im_of, im_of trivial, vals, lsts, tys, hP, hst, initS, Nat.reduceBEq, Nat.reduceAdd, Nat.reduceMul, Nat.reduceSub, Nat.reduceDiv, Nat.reduceMod, Nat.reducePow, Nat.reduceLT, Nat.reduceLeDiff, Nat.reduceEqDiff, Int.reduceAdd, Int.reduceSub, Int.reduceNeg, Int.reduceMul, Int.reduceToNat, Int.reducePow, Int.reduceLE, Int.reduceLT, Int.reduceEq, Int.reduceNe, reduceIte, reduceCtorEq, ne_eq, not_true_eq_false, not_false_eq_true, imp_self, implies_true, bls, eq_self, hal', hX0]
  obtain ⟨S, hS⟩ : ∃ S, T ++ [some [.val (.bool s'), a']] = S := ⟨_, rfl⟩
  have hTS : Ext T S := ⟨_, hS.symm⟩
  have hSe : Ext st S := e0.trans hTS
  have hSA : At S T.length [.val (.bool s'), a'] := ⟨hS ▸ by rw [get_app0]; rfl⟩
  have hSC := hC.ext hTS
  have hSD := hD.ext hTS
  have hN := ha'.nm.ext hTS
  cases s'
  rotate_left
  · have g3 := hSC.get
    have g4 := hSD.get
    have g5 := hSC.lt
    have g6 := hSD.lt
    have hne : st.length + 1 ≠ st.length + 2 := by omega
    rw [hS]
    simp (disch := first | assumption | omega | (simp only [lens]; omega)) only [eqs, ↓gvd_succ, ↓gvd_zero, ↓and_of, im_of, im_of trivial, vals, lsts, tys, hP, hst, initS, Nat.reduceBEq, Nat.reduceAdd, Nat.reduceMul, Nat.reduceSub, Nat.reduceDiv, Nat.reduceMod, Nat.reducePow, Nat.reduceLT, Nat.reduceLeDiff, Nat.reduceEqDiff, Int.reduceAdd, Int.reduceSub, Int.reduceNeg, Int.reduceMul, Int.reduceToNat, Int.reducePow, Int.reduceLE, Int.reduceLT, Int.reduceEq, Int.reduceNe, reduceIte, reduceCtorEq, ne_eq, not_true_eq_false, not_false_eq_true, imp_self, implies_true, bls, eq_self, g3, g4, List.getElem?_set_ne]
    refine hK0 (of_decide_eq_true hs') _ ?_
    exact (hSe.set (by omega) _).set (by omega) _
  have hK := hK (hpos.2 rfl)
  clear hK0 hpos
  rw [hS]
  clear hS
  simp (disch := first | assumption | omega | (simp only [lens]; omega)) only [eqs, ↓gvd_succ, ↓gvd_zero, ↓and_of, im_of, im_of trivial, vals, lsts, tys, hP, hst, initS, Nat.reduceBEq, Nat.reduceAdd, Nat.reduceMul, Nat.reduceSub, Nat.reduceDiv, Nat.reduceMod, Nat.reducePow, Nat.reduceLT, Nat.reduceLeDiff, Nat.reduceEqDiff, Int.reduceAdd, Int.reduceSub, Int.reduceNeg, Int.reduceMul, Int.reduceToNat, Int.reducePow, Int.reduceLE, Int.reduceLT, Int.reduceEq, Int.reduceNe, reduceIte, reduceCtorEq, ne_eq, not_true_eq_false, not_false_eq_true, imp_self, implies_true, bls, eq_self]
  refine E_call (hP ▸ s_qOf) ⟨0, rfl, by omega, by omega, fun o T1 ho => ?_⟩
  have hS1 := ho.ex
  obtain ⟨o', rfl, ho'⟩ := ho
  have hol := ho'.nm.leaf
  have e1 : Ext st T1 := hSe.trans hS1
  have hX3 := e1.len
  simp (disch := first | assumption | omega | (simp only [lens]; omega)) only [eqs, ↓gvd_succ, ↓gvd_zero, ↓and_of, im_of, im_of trivial, vals, lsts, tys, hP, hst, initS, Nat.reduceBEq, Nat.reduceAdd, Nat.reduceMul, Nat.reduceSub, Nat.reduceDiv, Nat.reduceMod, Nat.reducePow, Nat.reduceLT, Nat.reduceLeDiff, Nat.reduceEqDiff, Int.reduceAdd, Int.reduceSub, Int.reduceNeg, Int.reduceMul, Int.reduceToNat, Int.reducePow, Int.reduceLE, Int.reduceLT, Int.reduceEq, Int.reduceNe, reduceIte, reduceCtorEq, ne_eq, not_true_eq_false, not_false_eq_true, imp_self, implies_true, bls, eq_self, hol, hX3]
  obtain ⟨S2, hS2⟩ : ∃ S2, T1 ++ [some [.val (.bool false), o']] = S2 := ⟨_, rfl⟩
  have hT2 : Ext T1 S2 := ⟨_, hS2.symm⟩
  have hSR : At S2 T1.length [.val (.bool false), o'] := ⟨hS2 ▸ by rw [get_app0]; rfl⟩
  have hA2 := hSA.ext (hS1.trans hT2)
  have hC2 := hSC.ext (hS1.trans hT2)
  have hD2 := hSD.ext (hS1.trans hT2)
  have hN2 : Nm S2 a' (limbs (val l)) := hN.ext (hS1.trans hT2)
  rw [hS2]
  clear hS2
  have g1 := hA2.get
  simp (disch := first | assumption | omega | (simp only [lens]; omega)) only [eqs, ↓gvd_succ, ↓gvd_zero, ↓and_of, im_of, im_of trivial, vals, lsts, tys, hP, hst, initS, Nat.reduceBEq, Nat.reduceAdd, Nat.reduceMul, Nat.reduceSub, Nat.reduceDiv, Nat.reduceMod, Nat.reducePow, Nat.reduceLT, Nat.reduceLeDiff, Nat.reduceEqDiff, Int.reduceAdd, Int.reduceSub, Int.reduceNeg, Int.reduceMul, Int.reduceToNat, Int.reducePow, Int.reduceLE, Int.reduceLT, Int.reduceEq, Int.reduceNe, reduceIte, reduceCtorEq, ne_eq, not_true_eq_false, not_false_eq_true, imp_self, implies_true, bls, eq_self, g1]
  refine E_call (hP ▸ s_rBits) ⟨a', _, rfl, hN2, by omega, fun T3 hT3 => ?_⟩
  rw [val_limbs]
  have hbl2 : blen (val l) ≤ 3200 := by omega
  have hvk := blen_lt (val l)
  generalize blen (val l) = k at *
  have hq : IntKind.i64.wrap ((k : Int).tdiv 2) = ((k / 2 : Nat) : Int) + 1 - 1 := by rw [tdiv2, IntWalk.i64_in _ (by omega)]; omega
  simp (disch := first | assumption | omega | (simp only [lens]; omega)) only [eqs, ↓gvd_succ, ↓gvd_zero, ↓and_of, im_of, im_of trivial, vals, lsts, tys, hP, hst, initS, Nat.reduceBEq, Nat.reduceAdd, Nat.reduceMul, Nat.reduceSub, Nat.reduceDiv, Nat.reduceMod, Nat.reducePow, Nat.reduceLT, Nat.reduceLeDiff, Nat.reduceEqDiff, Int.reduceAdd, Int.reduceSub, Int.reduceNeg, Int.reduceMul, Int.reduceToNat, Int.reducePow, Int.reduceLE, Int.reduceLT, Int.reduceEq, Int.reduceNe, reduceIte, reduceCtorEq, ne_eq, not_true_eq_false, not_false_eq_true, imp_self, implies_true, bls, eq_self]
  refine V_loop (ι := Nat × AV × Nat × St) (fun e => [(7, .val (.int .i64 ((e.1 : Int) - 1))), (6, .ptr T1.length 0), (5, .ptr T.length 0), (4, .val (.int .i64 0)), (3, .ptr (st.length + 2) 0), (2, .ptr (st.length + 1) 0), (1, .ptr st.length 0)]) (fun e => e.2.2.2)
    (fun e => Ext S e.2.2.2 ∧ At e.2.2.2 T1.length [.val (.bool false), e.2.1] ∧ Keep1 S T1.length e.2.2.2 e.2.1 e.2.2.1 ∧ e.1 ≤ 1700 ∧ e.2.2.1 * e.2.2.1 ≤ val l ∧ val l < (e.2.2.1 + 2 ^ e.1) * (e.2.2.1 + 2 ^ e.1)) (fun e => e.1) (k / 2 + 1, o', 0, T3) ?_ rfl (by simp (disch := first | assumption | omega | (simp only [lens]; omega)) only [eqs, ↓gvd_succ, ↓gvd_zero, ↓and_of, im_of, im_of trivial, vals, lsts, tys, hP, hst, initS, Nat.reduceBEq, Nat.reduceAdd, Nat.reduceMul, Nat.reduceSub, Nat.reduceDiv, Nat.reduceMod, Nat.reducePow, Nat.reduceLT, Nat.reduceLeDiff, Nat.reduceEqDiff, Int.reduceAdd, Int.reduceSub, Int.reduceNeg, Int.reduceMul, Int.reduceToNat, Int.reducePow, Int.reduceLE, Int.reduceLT, Int.reduceEq, Int.reduceNe, reduceIte, reduceCtorEq, ne_eq, not_true_eq_false, not_false_eq_true, imp_self, implies_true, bls, eq_self, hq] <;> rfl) ?_
  · refine ⟨hS1.trans (hT2.trans hT3), hSR.ext hT3, .old (v := 0) ho' (hT2.trans hT3) (Nat.le_refl _), by dsimp only; omega, Nat.zero_le _, ?_⟩
    dsimp only
    rw [Nat.zero_add, ← Nat.pow_add]
    exact Nat.lt_of_lt_of_le hvk (Nat.pow_le_pow_right (by omega) (by omega))
  rintro ⟨j, r', r, U⟩ ⟨hU, hUR, hKr, hj, hr1, hr2⟩
  dsimp only at hU hUR hKr hj hr1 hr2 ⊢
  have gR := hUR.get
  have gr := hKr.got gR
  have hrl := gr.nm.leaf
  simp (disch := first | assumption | omega | (simp only [lens]; omega)) only [eqs, ↓gvd_succ, ↓gvd_zero, ↓and_of, im_of, im_of trivial, vals, lsts, tys, hP, hst, initS, Nat.reduceBEq, Nat.reduceAdd, Nat.reduceMul, Nat.reduceSub, Nat.reduceDiv, Nat.reduceMod, Nat.reducePow, Nat.reduceLT, Nat.reduceLeDiff, Nat.reduceEqDiff, Int.reduceAdd, Int.reduceSub, Int.reduceNeg, Int.reduceMul, Int.reduceToNat, Int.reducePow, Int.reduceLE, Int.reduceLT, Int.reduceEq, Int.reduceNe, reduceIte, reduceCtorEq, ne_eq, not_true_eq_false, not_false_eq_true, imp_self, implies_true, bls, eq_self]
  refine C_dec (fun h => ?_) (fun h => ?_)
  · obtain ⟨i, rfl⟩ : ∃ i, j = i + 1 := ⟨j - 1, by omega⟩
    simp (disch := first | assumption | omega | (simp only [lens]; omega)) only [eqs, ↓gvd_succ, ↓gvd_zero, ↓and_of, im_of, im_of trivial, vals, lsts, tys, hP, hst, initS, Nat.reduceBEq, Nat.reduceAdd, Nat.reduceMul, Nat.reduceSub, Nat.reduceDiv, Nat.reduceMod, Nat.reducePow, Nat.reduceLT, Nat.reduceLeDiff, Nat.reduceEqDiff, Int.reduceAdd, Int.reduceSub, Int.reduceNeg, Int.reduceMul, Int.reduceToNat, Int.reducePow, Int.reduceLE, Int.reduceLT, Int.reduceEq, Int.reduceNe, reduceIte, reduceCtorEq, ne_eq, not_true_eq_false, not_false_eq_true, imp_self, implies_true, bls, eq_self]
    refine V_late (s' := (8, AV.junk) :: _) [6] [0, 2, 1, 3, 4, 5] [7] hP (by kernel_rfl) (by kernel_rfl) (.cons rfl <| .cons rfl <| .cons rfl <| .cons rfl <| .cons rfl <| .cons rfl <| .cons rfl <| .cons rfl <| .nil) rfl ?_; rw [mask_nil]
    simp (disch := first | assumption | omega | (simp only [lens]; omega)) only [eqs, ↓gvd_succ, ↓gvd_zero, ↓and_of, im_of, im_of trivial, vals, lsts, tys, hP, hst, initS, Nat.reduceBEq, Nat.reduceAdd, Nat.reduceMul, Nat.reduceSub, Nat.reduceDiv, Nat.reduceMod, Nat.reducePow, Nat.reduceLT, Nat.reduceLeDiff, Nat.reduceEqDiff, Int.reduceAdd, Int.reduceSub, Int.reduceNeg, Int.reduceMul, Int.reduceToNat, Int.reducePow, Int.reduceLE, Int.reduceLT, Int.reduceEq, Int.reduceNe, reduceIte, reduceCtorEq, ne_eq, not_true_eq_false, not_false_eq_true, imp_self, implies_true, bls, eq_self, gR]
    refine E_call (hP ▸ s_rShift) ⟨_, [1], (i : Int), by rw [show (i : Int) + 1 - 1 = i by omega]; rfl, Nm.one (w := 1) rfl (by omega), by simp, by omega, by omega, fun p T4 hp => ?_⟩
    rw [shift_nat (by omega), show val [1] = 1 from rfl, Nat.one_mul] at hp
    have eU : Ext U T4 := (Ext.add _).trans hp.ex
    have hpl := hp.nm.leaf
    have l1 := len_pow2 (k := i) (by omega)
    have hrv : r ≤ val l := by
      rcases Nat.eq_zero_or_pos r with h0 | h0
      · omega
      · exact Nat.le_trans (Nat.le_mul_of_pos_left r h0) hr1
    have l2 := limbs_len_mono hrv
    have l3 := len_add r (2 ^ i)
    obtain ⟨D, hDe⟩ : ∃ D, r + 2 ^ i = D := ⟨_, rfl⟩
    rw [hDe] at l3
    simp (disch := first | assumption | omega | (simp only [lens]; omega)) only [eqs, ↓gvd_succ, ↓gvd_zero, ↓and_of, im_of, im_of trivial, vals, lsts, tys, hP, hst, initS, Nat.reduceBEq, Nat.reduceAdd, Nat.reduceMul, Nat.reduceSub, Nat.reduceDiv, Nat.reduceMod, Nat.reducePow, Nat.reduceLT, Nat.reduceLeDiff, Nat.reduceEqDiff, Int.reduceAdd, Int.reduceSub, Int.reduceNeg, Int.reduceMul, Int.reduceToNat, Int.reducePow, Int.reduceLE, Int.reduceLT, Int.reduceEq, Int.reduceNe, reduceIte, reduceCtorEq, ne_eq, not_true_eq_false, not_false_eq_true, imp_self, implies_true, bls, eq_self, hpl]
    refine E_call (hP ▸ s_qAdd) ⟨_, _, false, false, _, _, rfl, ⟨r', rfl, gr.nm.ext eU⟩, ⟨p, rfl, hp.nm⟩, by omega, by omega, fun d T5 hd => ?_⟩
    dsimp only at hd
    rw [val_limbs, val_limbs, show iv false r + iv false (2 ^ i) = (D : Int) by rw [← hDe]; simp [iv]] at hd
    obtain ⟨d', rfl, hd'⟩ := hd
    rw [decide_eq_false (show ¬(D : Int) < 0 by omega)]
    rw [Int.natAbs_natCast] at hd'
    have hdl := hd'.nm.leaf
    have e5 : Ext U T5 := eU.trans hd'.ex
    have hX5 := (hSe.trans (hU.trans e5)).len
    simp (disch := first | assumption | omega | (simp only [lens]; omega)) only [eqs, ↓gvd_succ, ↓gvd_zero, ↓and_of, im_of, im_of trivial, vals, lsts, tys, hP, hst, initS, Nat.reduceBEq, Nat.reduceAdd, Nat.reduceMul, Nat.reduceSub, Nat.reduceDiv, Nat.reduceMod, Nat.reducePow, Nat.reduceLT, Nat.reduceLeDiff, Nat.reduceEqDiff, Int.reduceAdd, Int.reduceSub, Int.reduceNeg, Int.reduceMul, Int.reduceToNat, Int.reducePow, Int.reduceLE, Int.reduceLT, Int.reduceEq, Int.reduceNe, reduceIte, reduceCtorEq, ne_eq, not_true_eq_false, not_false_eq_true, imp_self, implies_true, bls, eq_self, hdl, hX5]
    obtain ⟨T6, hT6⟩ : ∃ T6, T5 ++ [some [.val (.bool false), d']] = T6 := ⟨_, rfl⟩
    have e6 : Ext T5 T6 := ⟨_, hT6.symm⟩
    have hQ : At T6 T5.length [.val (.bool false), d'] := ⟨hT6 ▸ by rw [get_app0]; rfl⟩
    rw [hT6]
    clear hT6
    have gQ := hQ.get
    refine V_draw [0, 1, 3, 2, 4, 5] (by kernel_rfl) (.cons rfl <| .cons rfl <| .cons rfl <| .cons rfl <| .cons rfl <| .cons rfl <| .nil) ?_
    have eU6 : Ext U T6 := e5.trans e6
    have gA := (hSA.ext (hU.trans eU6)).get
    have hNd : Nm T6 d' (limbs D) := hd'.nm.ext e6
    have l4 := len_mul D D
    simp (disch := first | assumption | omega | (simp only [lens]; omega)) only [eqs, ↓gvd_succ, ↓gvd_zero, ↓and_of, im_of, im_of trivial, vals, lsts, tys, hP, hst, initS, Nat.reduceBEq, Nat.reduceAdd, Nat.reduceMul, Nat.reduceSub, Nat.reduceDiv, Nat.reduceMod, Nat.reducePow, Nat.reduceLT, Nat.reduceLeDiff, Nat.reduceEqDiff, Int.reduceAdd, Int.reduceSub, Int.reduceNeg, Int.reduceMul, Int.reduceToNat, Int.reducePow, Int.reduceLE, Int.reduceLT, Int.reduceEq, Int.reduceNe, reduceIte, reduceCtorEq, ne_eq, not_true_eq_false, not_false_eq_true, imp_self, implies_true, bls, eq_self, gQ, gA]
    refine E_call (hP ▸ s_qMul) ⟨_, _, false, false, _, _, rfl, ⟨d', rfl, hNd⟩, ⟨d', rfl, hNd⟩, by omega, by omega, fun m T7 hm => ?_⟩
    dsimp only at hm
    rw [val_limbs, show iv false D * iv false D = ((D * D : Nat) : Int) by simp [iv]] at hm
    have hmw := hm.wh
    rw [Int.natAbs_natCast] at hmw
    simp (disch := first | assumption | omega | (simp only [lens]; omega)) only [eqs, ↓gvd_succ, ↓gvd_zero, ↓and_of, im_of, im_of trivial, vals, lsts, tys, hP, hst, initS, Nat.reduceBEq, Nat.reduceAdd, Nat.reduceMul, Nat.reduceSub, Nat.reduceDiv, Nat.reduceMod, Nat.reducePow, Nat.reduceLT, Nat.reduceLeDiff, Nat.reduceEqDiff, Int.reduceAdd, Int.reduceSub, Int.reduceNeg, Int.reduceMul, Int.reduceToNat, Int.reducePow, Int.reduceLE, Int.reduceLT, Int.reduceEq, Int.reduceNe, reduceIte, reduceCtorEq, ne_eq, not_true_eq_false, not_false_eq_true, imp_self, implies_true, bls, eq_self]
    refine E_call (hP ▸ s_qCmp) ⟨_, _, _, false, _, _, rfl, hmw, ⟨a', rfl, hN.ext (hU.trans (eU6.trans hm.ex))⟩, by omega, by omega, fun T8 hT8 => ?_⟩
    rw [val_limbs, val_limbs, decide_eq_false (Int.not_lt.2 (Int.natCast_nonneg (D * D))), show iv false (D * D) = ((D * D : Nat) : Int) by simp [iv], show iv false (val l) = (val l : Int) by simp [iv]]
    have e8 : Ext T6 T8 := hm.ex.trans hT8
    have gR8 := (hUR.ext (eU6.trans e8)).get
    have gR9 := (hUR.ext (eU6.trans e8)).lt
    have gQ8 := (hQ.ext e8).get
    have hXR : X.st1.length ≤ T1.length := by rw [hst]; exact e1.len
    have hSR2 : S.length ≤ T1.length := hS1.len
    have hUl : T1.length < U.length := hUR.lt
    generalize hDD : D * D = DD at *
    have hi : (i : Int) + 1 - 1 - 1 = i - 1 := by omega
    have hc := cmpI_cases (DD : Int) (val l : Int)
    simp (disch := first | assumption | omega | (simp only [lens]; omega)) only [eqs, ↓gvd_succ, ↓gvd_zero, ↓and_of, im_of, im_of trivial, vals, lsts, tys, hP, hst, initS, Nat.reduceBEq, Nat.reduceAdd, Nat.reduceMul, Nat.reduceSub, Nat.reduceDiv, Nat.reduceMod, Nat.reducePow, Nat.reduceLT, Nat.reduceLeDiff, Nat.reduceEqDiff, Int.reduceAdd, Int.reduceSub, Int.reduceNeg, Int.reduceMul, Int.reduceToNat, Int.reducePow, Int.reduceLE, Int.reduceLT, Int.reduceEq, Int.reduceNe, reduceIte, reduceCtorEq, ne_eq, not_true_eq_false, not_false_eq_true, imp_self, implies_true, bls, eq_self]
    refine C_dec (fun h2 => ?_) (fun h2 => ?_)
    · have hle : DD ≤ val l := by omega
      simp (disch := first | assumption | omega | (simp only [lens]; omega)) only [eqs, ↓gvd_succ, ↓gvd_zero, ↓and_of, im_of, im_of trivial, vals, lsts, tys, hP, hst, initS, Nat.reduceBEq, Nat.reduceAdd, Nat.reduceMul, Nat.reduceSub, Nat.reduceDiv, Nat.reduceMod, Nat.reducePow, Nat.reduceLT, Nat.reduceLeDiff, Nat.reduceEqDiff, Int.reduceAdd, Int.reduceSub, Int.reduceNeg, Int.reduceMul, Int.reduceToNat, Int.reducePow, Int.reduceLE, Int.reduceLT, Int.reduceEq, Int.reduceNe, reduceIte, reduceCtorEq, ne_eq, not_true_eq_false, not_false_eq_true, imp_self, implies_true, bls, eq_self, gQ8, gR8, hdl]
      exact again (i, d', D, T8.set T1.length (some [.val (.bool false), d'])) ⟨(hU.trans (eU6.trans e8)).set hSR2 _, ⟨by simp [gR9]⟩, (((Keep1.new hd' (hU.trans eU) hSR2 (hUR.ext eU).lt).ext (e6.trans e8)).set gR9 _), by dsimp only; omega, by dsimp only; rw [hDD]; exact hle, by dsimp only; rw [show D + 2 ^ i = r + 2 ^ (i + 1) by rw [← hDe, Nat.pow_succ]; omega]; exact hr2⟩ (Nat.lt_succ_self i) rfl (by simp (disch := first | assumption | omega | (simp only [lens]; omega)) only [eqs, ↓gvd_succ, ↓gvd_zero, ↓and_of, im_of, im_of trivial, vals, lsts, tys, hP, hst, initS, Nat.reduceBEq, Nat.reduceAdd, Nat.reduceMul, Nat.reduceSub, Nat.reduceDiv, Nat.reduceMod, Nat.reducePow, Nat.reduceLT, Nat.reduceLeDiff, Nat.reduceEqDiff, Int.reduceAdd, Int.reduceSub, Int.reduceNeg, Int.reduceMul, Int.reduceToNat, Int.reducePow, Int.reduceLE, Int.reduceLT, Int.reduceEq, Int.reduceNe, reduceIte, reduceCtorEq, ne_eq, not_true_eq_false, not_false_eq_true, imp_self, implies_true, bls, eq_self, hi] <;> rfl)
    · have hgt : val l < DD := by omega
      simp (disch := first | assumption | omega | (simp only [lens]; omega)) only [eqs, ↓gvd_succ, ↓gvd_zero, ↓and_of, im_of, im_of trivial, vals, lsts, tys, hP, hst, initS, Nat.reduceBEq, Nat.reduceAdd, Nat.reduceMul, Nat.reduceSub, Nat.reduceDiv, Nat.reduceMod, Nat.reducePow, Nat.reduceLT, Nat.reduceLeDiff, Nat.reduceEqDiff, Int.reduceAdd, Int.reduceSub, Int.reduceNeg, Int.reduceMul, Int.reduceToNat, Int.reducePow, Int.reduceLE, Int.reduceLT, Int.reduceEq, Int.reduceNe, reduceIte, reduceCtorEq, ne_eq, not_true_eq_false, not_false_eq_true, imp_self, implies_true, bls, eq_self]
      exact again (i, r', r, T8) ⟨hU.trans (eU6.trans e8), hUR.ext (eU6.trans e8), hKr.ext (eU6.trans e8), by dsimp only; omega, hr1, by dsimp only; rw [hDe, hDD]; exact hgt⟩ (Nat.lt_succ_self i) rfl (by simp (disch := first | assumption | omega | (simp only [lens]; omega)) only [eqs, ↓gvd_succ, ↓gvd_zero, ↓and_of, im_of, im_of trivial, vals, lsts, tys, hP, hst, initS, Nat.reduceBEq, Nat.reduceAdd, Nat.reduceMul, Nat.reduceSub, Nat.reduceDiv, Nat.reduceMod, Nat.reducePow, Nat.reduceLT, Nat.reduceLeDiff, Nat.reduceEqDiff, Int.reduceAdd, Int.reduceSub, Int.reduceNeg, Int.reduceMul, Int.reduceToNat, Int.reducePow, Int.reduceLE, Int.reduceLT, Int.reduceEq, Int.reduceNe, reduceIte, reduceCtorEq, ne_eq, not_true_eq_false, not_false_eq_true, imp_self, implies_true, bls, eq_self, hi] <;> rfl)
  · have hj0 : j = 0 := by omega
    subst hj0
    have hroot : isqrt (val l) = r := isqrt_eq ⟨hr1, by simpa using hr2⟩
    rw [hroot] at hK
    have gA := (hSA.ext hU).get
    have hrv : r ≤ val l := by
      rcases Nat.eq_zero_or_pos r with h0 | h0
      · omega
      · exact Nat.le_trans (Nat.le_mul_of_pos_left r h0) hr1
    have l2 := limbs_len_mono hrv
    have l4 := len_mul r r
    simp (disch := first | assumption | omega | (simp only [lens]; omega)) only [eqs, ↓gvd_succ, ↓gvd_zero, ↓and_of, im_of, im_of trivial, vals, lsts, tys, hP, hst, initS, Nat.reduceBEq, Nat.reduceAdd, Nat.reduceMul, Nat.reduceSub, Nat.reduceDiv, Nat.reduceMod, Nat.reducePow, Nat.reduceLT, Nat.reduceLeDiff, Nat.reduceEqDiff, Int.reduceAdd, Int.reduceSub, Int.reduceNeg, Int.reduceMul, Int.reduceToNat, Int.reducePow, Int.reduceLE, Int.reduceLT, Int.reduceEq, Int.reduceNe, reduceIte, reduceCtorEq, ne_eq, not_true_eq_false, not_false_eq_true, imp_self, implies_true, bls, eq_self]
    refine V_draw [0, 1, 2, 3, 4, 5, 6, 7, 8] (by kernel_rfl) (.cons rfl <| .cons rfl <| .cons rfl <| .cons rfl <| .cons rfl <| .cons rfl <| .cons rfl <| .cons rfl <| .cons rfl <| .nil) ?_
    simp (disch := first | assumption | omega | (simp only [lens]; omega)) only [eqs, ↓gvd_succ, ↓gvd_zero, ↓and_of, im_of, im_of trivial, vals, lsts, tys, hP, hst, initS, Nat.reduceBEq, Nat.reduceAdd, Nat.reduceMul, Nat.reduceSub, Nat.reduceDiv, Nat.reduceMod, Nat.reducePow, Nat.reduceLT, Nat.reduceLeDiff, Nat.reduceEqDiff, Int.reduceAdd, Int.reduceSub, Int.reduceNeg, Int.reduceMul, Int.reduceToNat, Int.reducePow, Int.reduceLE, Int.reduceLT, Int.reduceEq, Int.reduceNe, reduceIte, reduceCtorEq, ne_eq, not_true_eq_false, not_false_eq_true, imp_self, implies_true, bls, eq_self, gR, gA]
    refine E_call (hP ▸ s_qMul) ⟨_, _, false, false, _, _, rfl, ⟨r', rfl, gr.nm⟩, ⟨r', rfl, gr.nm⟩, by omega, by omega, fun m T7 hm => ?_⟩
    dsimp only at hm
    rw [val_limbs, show iv false r * iv false r = ((r * r : Nat) : Int) by simp [iv]] at hm
    have hmw := hm.wh
    rw [Int.natAbs_natCast] at hmw
    simp (disch := first | assumption | omega | (simp only [lens]; omega)) only [eqs, ↓gvd_succ, ↓gvd_zero, ↓and_of, im_of, im_of trivial, vals, lsts, tys, hP, hst, initS, Nat.reduceBEq, Nat.reduceAdd, Nat.reduceMul, Nat.reduceSub, Nat.reduceDiv, Nat.reduceMod, Nat.reducePow, Nat.reduceLT, Nat.reduceLeDiff, Nat.reduceEqDiff, Int.reduceAdd, Int.reduceSub, Int.reduceNeg, Int.reduceMul, Int.reduceToNat, Int.reducePow, Int.reduceLE, Int.reduceLT, Int.reduceEq, Int.reduceNe, reduceIte, reduceCtorEq, ne_eq, not_true_eq_false, not_false_eq_true, imp_self, implies_true, bls, eq_self]
    refine E_call (hP ▸ s_qSub) ⟨_, _, false, _, _, _, rfl, ⟨a', rfl, hN.ext (hU.trans hm.ex)⟩, hmw, by omega, by omega, fun w T8 hw => ?_⟩
    dsimp only at hw
    rw [val_limbs, val_limbs, decide_eq_false (Int.not_lt.2 (Int.natCast_nonneg (r * r))), show iv false (val l) - iv false (r * r) = ((val l - r * r : Nat) : Int) by simp only [iv]; rw [if_neg (by simp), if_neg (by simp)]; omega] at hw
    have hw2 : GotI S T8 w _ := GotI.pre (hU.trans hm.ex) hw
    have hu2 : GotI S T8 (.agg [.val (.bool false), r']) (r : Int) := ⟨r', by rw [decide_eq_false (Int.not_lt.2 (Int.natCast_nonneg r))], by rw [Int.natAbs_natCast]; exact gr.ext (hm.ex.trans hw.ex)⟩
    have hw3 := hw2
    obtain ⟨w', rfl, hw'⟩ := hw2
    have hwl := hw'.nm.leaf
    have fC := (hSC.ext hw'.ex).get
    have fD := (hSD.ext hw'.ex).get
    have fC2 := (hSC.ext hw'.ex).lt
    have fD2 := (hSD.ext hw'.ex).lt
    have hSC2 := hSC.lt
    have hSD2 := hSD.lt
    have hne : st.length + 1 ≠ st.length + 2 := by omega
    simp (disch := first | assumption | omega | (simp only [lens]; omega)) only [eqs, ↓gvd_succ, ↓gvd_zero, ↓and_of, im_of, im_of trivial, vals, lsts, tys, hP, hst, initS, Nat.reduceBEq, Nat.reduceAdd, Nat.reduceMul, Nat.reduceSub, Nat.reduceDiv, Nat.reduceMod, Nat.reducePow, Nat.reduceLT, Nat.reduceLeDiff, Nat.reduceEqDiff, Int.reduceAdd, Int.reduceSub, Int.reduceNeg, Int.reduceMul, Int.reduceToNat, Int.reducePow, Int.reduceLE, Int.reduceLT, Int.reduceEq, Int.reduceNe, reduceIte, reduceCtorEq, ne_eq, not_true_eq_false, not_false_eq_true, imp_self, implies_true, bls, eq_self, hrl, hwl, fC, fD, List.getElem?_set_ne]
    exact hK _ _ _ (hu2.end2 hSe (by omega) hSC2 (by omega) hSD2) (hw3.end2 hSe (by omega) hSC2 (by omega) hSD2)
end Go.Proofs.Pv
