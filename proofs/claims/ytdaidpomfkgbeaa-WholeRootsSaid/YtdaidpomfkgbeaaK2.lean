/- The laws' helpers for whole numbers: small, same, lives. -/
import Derived.Test.YtdaidpomfkgbeaaW13
import Derived.Test.YtdaidpomfkgbeaaW14
import Derived.Test.YtdaidpomfkgbeaaQ2
import Derived.Test.YtdaidpomfkgbeaaL1
set_option linter.unusedSimpArgs false
set_option linter.unusedVariables false
namespace Go.Proofs.Pv
open Go Go.RowKit Go.Proofs
set_option maxRecDepth 20000

theorem s_ksame : PSpec Try.prog 53 RwSame := by
  refine fspec_of (fn := Try.f53) 2 [.tmp 4] (by kernel_rfl) rfl rfl (by kernel_rfl) mixed (by rintro _ _ _ ⟨x, y, s, t, l, m, rfl, _⟩; rfl) ?_
  rintro X _ st K hP hst ⟨x, y, s, t, l, m, rfl, hx, hy, hl, hm, hK⟩
  have hx1 := hx
  have hy1 := hy
  obtain ⟨a, rfl, ha, hal⟩ := hx.iv
  obtain ⟨b, rfl, hb, hbl⟩ := hy.iv
  refine vc_V ?_
  simp (disch := first | assumption | omega | (simp only [lens]; omega)) only [eqs, ↓gvd_succ, ↓gvd_zero, ↓and_of, im_of, im_of trivial, vals, lsts, tys, hP, hst, initS, Nat.reduceBEq, Nat.reduceAdd, Nat.reduceMul, Nat.reduceSub, Nat.reduceDiv, Nat.reduceMod, Nat.reducePow, Nat.reduceLT, Nat.reduceLeDiff, Nat.reduceEqDiff, Int.reduceAdd, Int.reduceSub, Int.reduceNeg, Int.reduceMul, Int.reduceToNat, Int.reducePow, Int.reduceLE, Int.reduceLT, Int.reduceEq, Int.reduceNe, reduceIte, reduceCtorEq, ne_eq, not_true_eq_false, not_false_eq_true, imp_self, implies_true, bls, eq_self, hal, hbl]
  refine E_call (hP ▸ s_qSame) ⟨_, _, s, t, l, m, rfl, hx1.ext (.add _), hy1.ext (.add _), hl, hm, fun T hT => ?_⟩
  simp (disch := first | assumption | omega | (simp only [lens]; omega)) only [eqs, ↓gvd_succ, ↓gvd_zero, ↓and_of, im_of, im_of trivial, vals, lsts, tys, hP, hst, initS, Nat.reduceBEq, Nat.reduceAdd, Nat.reduceMul, Nat.reduceSub, Nat.reduceDiv, Nat.reduceMod, Nat.reducePow, Nat.reduceLT, Nat.reduceLeDiff, Nat.reduceEqDiff, Int.reduceAdd, Int.reduceSub, Int.reduceNeg, Int.reduceMul, Int.reduceToNat, Int.reducePow, Int.reduceLE, Int.reduceLT, Int.reduceEq, Int.reduceNe, reduceIte, reduceCtorEq, ne_eq, not_true_eq_false, not_false_eq_true, imp_self, implies_true, bls, eq_self]
  exact hK _ ((Ext.add _).trans hT)
/-- Two whole numbers that are one. -/
theorem PSpec.imp2 {P : Program} {f : FuncId} {R R' : List AV → St → (AV → St → Prop) → Prop} (h : PSpec P f R) (hR : ∀ xs st K, R' xs st K → R xs st K) : PSpec P f R' :=
  ⟨h.1, fun w0 β st w vs xs K hI hv hr => h.2 w0 β st w vs xs K hI hv (hR _ _ _ hr)⟩
def RwSameT (xs : List AV) (st : St) (K : AV → St → Prop) : Prop := ∃ x y z S0 S1, xs = [x, y] ∧ GotI S0 st x z ∧ GotI S1 st y z ∧ (limbs z.natAbs).length ≤ 1000000 ∧ anyw st (.bool true) K
theorem s_ksameT : PSpec Try.prog 53 RwSameT := s_ksame.imp2 fun xs st K ⟨x, y, z, S0, S1, h, hx, hy, hl, hK⟩ => ⟨x, y, _, _, _, _, h, hx.wh, hy.wh, hl, hl, by rw [decide_eq_true ⟨rfl, rfl⟩]; exact hK⟩

/-- A row of structs' cells. -/
def RkSmall (xs : List AV) (st : St) (K : AV → St → Prop) : Prop := ∃ (r : Nat) (ys : List (Bool × AV × List Nat)), xs = [.own r 0 ys.length 2] ∧ st[r]? = some (some (ys.flatMap fun p => [.val (.bool p.1), p.2.1])) ∧ (∀ p ∈ ys, Nm st p.2.1 p.2.2) ∧ ys.length ≤ 100 ∧ anyw st (.bool (decide (∀ p ∈ ys, p.2.2.length ≤ 24))) K
theorem flat_get (ys : List (Bool × AV × List Nat)) : ∀ (i : Nat) p, ys[i]? = some p → (ys.flatMap fun p => [AV.val (.bool p.1), p.2.1]).drop (i * 2) = [AV.val (.bool p.1), p.2.1] ++ (ys.drop (i + 1)).flatMap fun p => [AV.val (.bool p.1), p.2.1] := by
  induction ys with
  | nil => intro i p h; simp at h
  | cons y ys ih =>
    intro i p h
    cases i with
    | zero => simp at h; subst h; simp
    | succ i =>
      have := ih i p (by simpa using h)
      rw [show (i + 1) * 2 = i * 2 + 2 by omega]
      simp only [List.flatMap_cons, List.cons_append, List.nil_append, List.drop_succ_cons]
      exact this
theorem flat_len (ys : List (Bool × AV × List Nat)) : (ys.flatMap fun p => [AV.val (.bool p.1), p.2.1]).length = ys.length * 2 := by
  induction ys with
  | nil => rfl
  | cons y ys ih => simp [List.flatMap_cons, ih]; omega
theorem s_ksmall : PSpec Try.prog 47 RkSmall := by
  refine fspec_of (fn := Try.f47) 1 [.tmp 2] (by kernel_rfl) rfl rfl (by kernel_rfl) mixed (by rintro _ _ _ ⟨r, ys, rfl, _⟩; rfl) ?_
  rintro X _ st K hP hst ⟨r, ys, rfl, hr, hN, hy, hK⟩
  refine vc_V ?_
  have hsl : ∀ T, Ext st T → sl 2 T (.own r 0 ys.length 2) = some (ys.length, ys.flatMap fun p => [.val (.bool p.1), p.2.1]) := by
    intro T hT
    have e : (ys.flatMap fun p => [AV.val (.bool p.1), p.2.1]).take (ys.length * 2) = ys.flatMap fun p => [.val (.bool p.1), p.2.1] := List.take_of_length_le (by rw [flat_len]; omega)
    have hr2 := ((At.mk hr).ext hT).get
    rw [sl_own_eq, if_pos rfl, hr2]
    simp only [List.drop_zero, e, flat_len, if_true]
  have h0 := hsl st .refl
  simp (disch := first | assumption | omega | (simp only [lens]; omega)) only [eqs, ↓gvd_succ, ↓gvd_zero, ↓and_of, im_of, im_of trivial, vals, lsts, tys, hP, hst, initS, Nat.reduceBEq, Nat.reduceAdd, Nat.reduceMul, Nat.reduceSub, Nat.reduceDiv, Nat.reduceMod, Nat.reducePow, Nat.reduceLT, Nat.reduceLeDiff, Nat.reduceEqDiff, Int.reduceAdd, Int.reduceSub, Int.reduceNeg, Int.reduceMul, Int.reduceToNat, Int.reducePow, Int.reduceLE, Int.reduceLT, Int.reduceEq, Int.reduceNe, reduceIte, reduceCtorEq, ne_eq, not_true_eq_false, not_false_eq_true, imp_self, implies_true, bls, eq_self, h0]
  refine V_loop (ι := Nat × St) (fun e => [(7, .val (.int .i64 (e.1 : Int))), (6, .val (.int .i64 (ys.length : Int))), (5, .own r 0 ys.length 2)]) (fun e => e.2) (fun e => Ext st e.2 ∧ e.1 ≤ ys.length ∧ ∀ j p, j < e.1 → ys[j]? = some p → p.2.2.length ≤ 24) (fun e => ys.length - e.1) (0, st) ⟨.refl, by simp, by simp⟩ rfl (by simp (disch := first | assumption | omega | (simp only [lens]; omega)) only [eqs, ↓gvd_succ, ↓gvd_zero, ↓and_of, im_of, im_of trivial, vals, lsts, tys, hP, hst, initS, Nat.reduceBEq, Nat.reduceAdd, Nat.reduceMul, Nat.reduceSub, Nat.reduceDiv, Nat.reduceMod, Nat.reducePow, Nat.reduceLT, Nat.reduceLeDiff, Nat.reduceEqDiff, Int.reduceAdd, Int.reduceSub, Int.reduceNeg, Int.reduceMul, Int.reduceToNat, Int.reducePow, Int.reduceLE, Int.reduceLT, Int.reduceEq, Int.reduceNe, reduceIte, reduceCtorEq, ne_eq, not_true_eq_false, not_false_eq_true, imp_self, implies_true, bls, eq_self] <;> rfl) ?_
  rintro ⟨i, T⟩ ⟨hT, hi, hj⟩
  dsimp only at hT hi hj ⊢
  have h1 := hsl T hT
  simp (disch := first | assumption | omega | (simp only [lens]; omega)) only [eqs, ↓gvd_succ, ↓gvd_zero, ↓and_of, im_of, im_of trivial, vals, lsts, tys, hP, hst, initS, Nat.reduceBEq, Nat.reduceAdd, Nat.reduceMul, Nat.reduceSub, Nat.reduceDiv, Nat.reduceMod, Nat.reducePow, Nat.reduceLT, Nat.reduceLeDiff, Nat.reduceEqDiff, Int.reduceAdd, Int.reduceSub, Int.reduceNeg, Int.reduceMul, Int.reduceToNat, Int.reducePow, Int.reduceLE, Int.reduceLT, Int.reduceEq, Int.reduceNe, reduceIte, reduceCtorEq, ne_eq, not_true_eq_false, not_false_eq_true, imp_self, implies_true, bls, eq_self]
  refine C_dec (fun h => ?_) (fun h => ?_)
  · obtain ⟨p, hp⟩ : ∃ p, ys[i]? = some p := ⟨_, List.getElem?_eq_getElem (by omega)⟩
    have hpN := hN p (List.mem_of_getElem? hp)
    have hfl := flat_get ys i p hp
    have hpl := hpN.leaf
    have h2 := (hpN.ext hT).grow
    have h3 : ∀ c, sl 2 (T ++ c) (.own r 0 ys.length 2) = some (ys.length, ys.flatMap fun p => [.val (.bool p.1), p.2.1]) := fun c => hsl _ (hT.app c)
    simp (disch := first | assumption | omega | (simp only [lens]; omega)) only [eqs, ↓gvd_succ, ↓gvd_zero, ↓and_of, im_of, im_of trivial, vals, lsts, tys, hP, hst, initS, Nat.reduceBEq, Nat.reduceAdd, Nat.reduceMul, Nat.reduceSub, Nat.reduceDiv, Nat.reduceMod, Nat.reducePow, Nat.reduceLT, Nat.reduceLeDiff, Nat.reduceEqDiff, Int.reduceAdd, Int.reduceSub, Int.reduceNeg, Int.reduceMul, Int.reduceToNat, Int.reducePow, Int.reduceLE, Int.reduceLT, Int.reduceEq, Int.reduceNe, reduceIte, reduceCtorEq, ne_eq, not_true_eq_false, not_false_eq_true, imp_self, implies_true, bls, eq_self, h1, hfl, flat_len, hpl, h2]
    refine ⟨hT.len, ?_⟩
    intro hlen
    refine C_dec (fun h4 => ?_) (fun h4 => ?_)
    · simp (disch := first | assumption | omega | (simp only [lens]; omega)) only [eqs, ↓gvd_succ, ↓gvd_zero, ↓and_of, im_of, im_of trivial, vals, lsts, tys, hP, hst, initS, Nat.reduceBEq, Nat.reduceAdd, Nat.reduceMul, Nat.reduceSub, Nat.reduceDiv, Nat.reduceMod, Nat.reducePow, Nat.reduceLT, Nat.reduceLeDiff, Nat.reduceEqDiff, Int.reduceAdd, Int.reduceSub, Int.reduceNeg, Int.reduceMul, Int.reduceToNat, Int.reducePow, Int.reduceLE, Int.reduceLT, Int.reduceEq, Int.reduceNe, reduceIte, reduceCtorEq, ne_eq, not_true_eq_false, not_false_eq_true, imp_self, implies_true, bls, eq_self]
      rw [decide_eq_false (fun h5 => by have := h5 p (List.mem_of_getElem? hp); omega)] at hK
      exact hK _ (hT.app _)
    · simp (disch := first | assumption | omega | (simp only [lens]; omega)) only [eqs, ↓gvd_succ, ↓gvd_zero, ↓and_of, im_of, im_of trivial, vals, lsts, tys, hP, hst, initS, Nat.reduceBEq, Nat.reduceAdd, Nat.reduceMul, Nat.reduceSub, Nat.reduceDiv, Nat.reduceMod, Nat.reducePow, Nat.reduceLT, Nat.reduceLeDiff, Nat.reduceEqDiff, Int.reduceAdd, Int.reduceSub, Int.reduceNeg, Int.reduceMul, Int.reduceToNat, Int.reducePow, Int.reduceLE, Int.reduceLT, Int.reduceEq, Int.reduceNe, reduceIte, reduceCtorEq, ne_eq, not_true_eq_false, not_false_eq_true, imp_self, implies_true, bls, eq_self]
      refine again (i + 1, _) ⟨hT.app _, by dsimp only; omega, fun j q hj2 hq => ?_⟩ (by dsimp only; omega) rfl (by dsimp only; simp (disch := first | assumption | omega | (simp only [lens]; omega)) only [eqs, ↓gvd_succ, ↓gvd_zero, ↓and_of, im_of, im_of trivial, vals, lsts, tys, hP, hst, initS, Nat.reduceBEq, Nat.reduceAdd, Nat.reduceMul, Nat.reduceSub, Nat.reduceDiv, Nat.reduceMod, Nat.reducePow, Nat.reduceLT, Nat.reduceLeDiff, Nat.reduceEqDiff, Int.reduceAdd, Int.reduceSub, Int.reduceNeg, Int.reduceMul, Int.reduceToNat, Int.reducePow, Int.reduceLE, Int.reduceLT, Int.reduceEq, Int.reduceNe, reduceIte, reduceCtorEq, ne_eq, not_true_eq_false, not_false_eq_true, imp_self, implies_true, bls, eq_self] <;> rfl)
      by_cases hji : j = i
      · subst hji; rw [hp] at hq; cases hq; omega
      · exact hj j q (by dsimp only at hj2; omega) hq
  · simp (disch := first | assumption | omega | (simp only [lens]; omega)) only [eqs, ↓gvd_succ, ↓gvd_zero, ↓and_of, im_of, im_of trivial, vals, lsts, tys, hP, hst, initS, Nat.reduceBEq, Nat.reduceAdd, Nat.reduceMul, Nat.reduceSub, Nat.reduceDiv, Nat.reduceMod, Nat.reducePow, Nat.reduceLT, Nat.reduceLeDiff, Nat.reduceEqDiff, Int.reduceAdd, Int.reduceSub, Int.reduceNeg, Int.reduceMul, Int.reduceToNat, Int.reducePow, Int.reduceLE, Int.reduceLT, Int.reduceEq, Int.reduceNe, reduceIte, reduceCtorEq, ne_eq, not_true_eq_false, not_false_eq_true, imp_self, implies_true, bls, eq_self]
    rw [decide_eq_true (fun p hp => by obtain ⟨j, hj2⟩ := List.mem_iff_getElem?.1 hp; exact hj j p (by have := (List.getElem?_eq_some_iff.1 hj2).1; omega) hj2)] at hK
    exact hK _ hT

theorem lim1 {n : Nat} (h : n < 4294967296) : (limbs n).length ≤ 1 := limbs_len_le (by omega)
/-- A pair of whole numbers is put into two variables: where they are. -/
theorem s_klives : PSpec Try.prog 48 RTrue := by
  refine fspec_of (fn := Try.f48) 0 [.tmp 0] (by kernel_rfl) rfl rfl (by kernel_rfl) mixed (by rintro _ _ _ ⟨rfl, _⟩; rfl) ?_
  rintro X _ st K hP hst ⟨rfl, hK⟩
  refine vc_V ?_
  have l7 := lim1 (n := 7) (by omega)
  have l2 := lim1 (n := 2) (by omega)
  have l17 := lim1 (n := 17) (by omega)
  have l3 := lim1 (n := 3) (by omega)
  have l1 := lim1 (n := 1) (by omega)
  have l4 := lim1 (n := 4) (by omega)
  have n2 : val (limbs 2) ≠ 0 := by rw [val_limbs]; omega
  have i7 : iv (decide ((-7 : Int) < 0)) (val (limbs 7)) = -7 := by rw [val_limbs]; rfl
  have i2 : iv (decide ((2 : Int) < 0)) (val (limbs 2)) = 2 := by rw [val_limbs]; rfl
  simp (disch := first | assumption | omega | (simp only [lens]; omega)) only [eqs, ↓gvd_succ, ↓gvd_zero, ↓and_of, im_of, im_of trivial, vals, lsts, tys, hP, hst, initS, Nat.reduceBEq, Nat.reduceAdd, Nat.reduceMul, Nat.reduceSub, Nat.reduceDiv, Nat.reduceMod, Nat.reducePow, Nat.reduceLT, Nat.reduceLeDiff, Nat.reduceEqDiff, Int.reduceAdd, Int.reduceSub, Int.reduceNeg, Int.reduceMul, Int.reduceToNat, Int.reducePow, Int.reduceLE, Int.reduceLT, Int.reduceEq, Int.reduceNe, reduceIte, reduceCtorEq, ne_eq, not_true_eq_false, not_false_eq_true, imp_self, implies_true, bls, eq_self]
  refine E_call (hP ▸ s_wOf) ⟨-7, rfl, by omega, by omega, fun o1 T1 ho1 => ?_⟩
  have w1 := ho1.wh
  rw [show (-7 : Int).natAbs = 7 from rfl] at w1
  have x1 : Ext st T1 := Ext.refl.trans ho1.ex
  simp (disch := first | assumption | omega | (simp only [lens]; omega)) only [eqs, ↓gvd_succ, ↓gvd_zero, ↓and_of, im_of, im_of trivial, vals, lsts, tys, hP, hst, initS, Nat.reduceBEq, Nat.reduceAdd, Nat.reduceMul, Nat.reduceSub, Nat.reduceDiv, Nat.reduceMod, Nat.reducePow, Nat.reduceLT, Nat.reduceLeDiff, Nat.reduceEqDiff, Int.reduceAdd, Int.reduceSub, Int.reduceNeg, Int.reduceMul, Int.reduceToNat, Int.reducePow, Int.reduceLE, Int.reduceLT, Int.reduceEq, Int.reduceNe, reduceIte, reduceCtorEq, ne_eq, not_true_eq_false, not_false_eq_true, imp_self, implies_true, bls, eq_self]
  refine E_call (hP ▸ s_wOf) ⟨2, rfl, by omega, by omega, fun o2 T2 ho2 => ?_⟩
  have w2 := ho2.wh
  rw [show (2 : Int).natAbs = 2 from rfl] at w2
  have x2 : Ext st T2 := x1.trans ho2.ex
  simp (disch := first | assumption | omega | (simp only [lens]; omega)) only [eqs, ↓gvd_succ, ↓gvd_zero, ↓and_of, im_of, im_of trivial, vals, lsts, tys, hP, hst, initS, Nat.reduceBEq, Nat.reduceAdd, Nat.reduceMul, Nat.reduceSub, Nat.reduceDiv, Nat.reduceMod, Nat.reducePow, Nat.reduceLT, Nat.reduceLeDiff, Nat.reduceEqDiff, Int.reduceAdd, Int.reduceSub, Int.reduceNeg, Int.reduceMul, Int.reduceToNat, Int.reducePow, Int.reduceLE, Int.reduceLT, Int.reduceEq, Int.reduceNe, reduceIte, reduceCtorEq, ne_eq, not_true_eq_false, not_false_eq_true, imp_self, implies_true, bls, eq_self]
  refine E_call (hP ▸ s_wQuo) ⟨o1, o2, _, _, _, _, rfl, w1.ext ho2.ex, w2, by omega, by omega, fun _ u3 v3 T3 hu3 hv3 => ?_, fun h => absurd h n2⟩
  rw [i7, i2, show Int.tdiv (-7) 2 = -3 from rfl] at hu3
  rw [i7, i2, show Int.tmod (-7) 2 = -1 from rfl] at hv3
  obtain ⟨p3, rfl, hp3⟩ := hu3
  obtain ⟨q3, rfl, hq3⟩ := hv3
  have a3 : Nm T3 p3 (limbs 3) := hp3.nm
  have b3 : Nm T3 q3 (limbs 1) := hq3.nm
  have c3 := a3.leaf
  have d3 := b3.leaf
  have x3 : Ext st T3 := x2.trans hp3.ex
  have e3 := x3.len
  have e31 : st.length ≤ T3.length + 1 := by omega
  simp (disch := first | assumption | omega | (simp only [lens]; omega)) only [eqs, ↓gvd_succ, ↓gvd_zero, ↓and_of, im_of, im_of trivial, vals, lsts, tys, hP, hst, initS, Nat.reduceBEq, Nat.reduceAdd, Nat.reduceMul, Nat.reduceSub, Nat.reduceDiv, Nat.reduceMod, Nat.reducePow, Nat.reduceLT, Nat.reduceLeDiff, Nat.reduceEqDiff, Int.reduceAdd, Int.reduceSub, Int.reduceNeg, Int.reduceMul, Int.reduceToNat, Int.reducePow, Int.reduceLE, Int.reduceLT, Int.reduceEq, Int.reduceNe, reduceIte, reduceCtorEq, ne_eq, not_true_eq_false, not_false_eq_true, imp_self, implies_true, bls, eq_self, c3, d3, e3, e31]
  obtain ⟨S3, hS3⟩ : ∃ S, T3 ++ [some [.val (.bool true), p3], some [.val (.bool true), q3]] = S := ⟨_, rfl⟩
  have y3 : Ext T3 S3 := ⟨_, hS3.symm⟩
  have f3 : At S3 T3.length [.val (.bool true), p3] := ⟨hS3 ▸ by rw [get_app0]; rfl⟩
  have g3 : At S3 (T3.length + 1) [.val (.bool true), q3] := ⟨hS3 ▸ by rw [get_app]; rfl⟩
  rw [hS3]
  refine E_call (hP ▸ s_wOf) ⟨-7, rfl, by omega, by omega, fun o4 T4 ho4 => ?_⟩
  have w4 := ho4.wh
  rw [show (-7 : Int).natAbs = 7 from rfl] at w4
  have x4 : Ext st T4 := (x3.trans y3).trans ho4.ex
  simp (disch := first | assumption | omega | (simp only [lens]; omega)) only [eqs, ↓gvd_succ, ↓gvd_zero, ↓and_of, im_of, im_of trivial, vals, lsts, tys, hP, hst, initS, Nat.reduceBEq, Nat.reduceAdd, Nat.reduceMul, Nat.reduceSub, Nat.reduceDiv, Nat.reduceMod, Nat.reducePow, Nat.reduceLT, Nat.reduceLeDiff, Nat.reduceEqDiff, Int.reduceAdd, Int.reduceSub, Int.reduceNeg, Int.reduceMul, Int.reduceToNat, Int.reducePow, Int.reduceLE, Int.reduceLT, Int.reduceEq, Int.reduceNe, reduceIte, reduceCtorEq, ne_eq, not_true_eq_false, not_false_eq_true, imp_self, implies_true, bls, eq_self]
  refine E_call (hP ▸ s_wOf) ⟨2, rfl, by omega, by omega, fun o5 T5 ho5 => ?_⟩
  have w5 := ho5.wh
  rw [show (2 : Int).natAbs = 2 from rfl] at w5
  have x5 : Ext st T5 := x4.trans ho5.ex
  simp (disch := first | assumption | omega | (simp only [lens]; omega)) only [eqs, ↓gvd_succ, ↓gvd_zero, ↓and_of, im_of, im_of trivial, vals, lsts, tys, hP, hst, initS, Nat.reduceBEq, Nat.reduceAdd, Nat.reduceMul, Nat.reduceSub, Nat.reduceDiv, Nat.reduceMod, Nat.reducePow, Nat.reduceLT, Nat.reduceLeDiff, Nat.reduceEqDiff, Int.reduceAdd, Int.reduceSub, Int.reduceNeg, Int.reduceMul, Int.reduceToNat, Int.reducePow, Int.reduceLE, Int.reduceLT, Int.reduceEq, Int.reduceNe, reduceIte, reduceCtorEq, ne_eq, not_true_eq_false, not_false_eq_true, imp_self, implies_true, bls, eq_self]
  refine E_call (hP ▸ s_wFloor) ⟨o4, o5, _, _, _, _, rfl, w4.ext ho5.ex, w5, by omega, by omega, fun _ u6 v6 T6 hu6 hv6 => ?_, fun h => absurd h n2⟩
  rw [i7, i2, show fq (-7) 2 = -4 from rfl] at hu6
  rw [i7, i2, show fr (-7) 2 = 1 from rfl] at hv6
  obtain ⟨p6, rfl, hp6⟩ := hu6
  obtain ⟨q6, rfl, hq6⟩ := hv6
  have a6 : Nm T6 p6 (limbs 4) := hp6.nm
  have b6 : Nm T6 q6 (limbs 1) := hq6.nm
  have c6 := a6.leaf
  have d6 := b6.leaf
  have x6 : Ext st T6 := x5.trans hp6.ex
  have e6 := x6.len
  have e61 : st.length ≤ T6.length + 1 := by omega
  simp (disch := first | assumption | omega | (simp only [lens]; omega)) only [eqs, ↓gvd_succ, ↓gvd_zero, ↓and_of, im_of, im_of trivial, vals, lsts, tys, hP, hst, initS, Nat.reduceBEq, Nat.reduceAdd, Nat.reduceMul, Nat.reduceSub, Nat.reduceDiv, Nat.reduceMod, Nat.reducePow, Nat.reduceLT, Nat.reduceLeDiff, Nat.reduceEqDiff, Int.reduceAdd, Int.reduceSub, Int.reduceNeg, Int.reduceMul, Int.reduceToNat, Int.reducePow, Int.reduceLE, Int.reduceLT, Int.reduceEq, Int.reduceNe, reduceIte, reduceCtorEq, ne_eq, not_true_eq_false, not_false_eq_true, imp_self, implies_true, bls, eq_self, c6, d6, e6, e61]
  obtain ⟨S6, hS6⟩ : ∃ S, T6 ++ [some [.val (.bool true), p6], some [.val (.bool false), q6]] = S := ⟨_, rfl⟩
  have y6 : Ext T6 S6 := ⟨_, hS6.symm⟩
  have f6 : At S6 T6.length [.val (.bool true), p6] := ⟨hS6 ▸ by rw [get_app0]; rfl⟩
  have g6 : At S6 (T6.length + 1) [.val (.bool false), q6] := ⟨hS6 ▸ by rw [get_app]; rfl⟩
  rw [hS6]
  refine E_call (hP ▸ s_wOf) ⟨17, rfl, by omega, by omega, fun o7 T7 ho7 => ?_⟩
  have w7 := ho7.wh
  rw [show (17 : Int).natAbs = 17 from rfl] at w7
  have x7 : Ext st T7 := (x6.trans y6).trans ho7.ex
  simp (disch := first | assumption | omega | (simp only [lens]; omega)) only [eqs, ↓gvd_succ, ↓gvd_zero, ↓and_of, im_of, im_of trivial, vals, lsts, tys, hP, hst, initS, Nat.reduceBEq, Nat.reduceAdd, Nat.reduceMul, Nat.reduceSub, Nat.reduceDiv, Nat.reduceMod, Nat.reducePow, Nat.reduceLT, Nat.reduceLeDiff, Nat.reduceEqDiff, Int.reduceAdd, Int.reduceSub, Int.reduceNeg, Int.reduceMul, Int.reduceToNat, Int.reducePow, Int.reduceLE, Int.reduceLT, Int.reduceEq, Int.reduceNe, reduceIte, reduceCtorEq, ne_eq, not_true_eq_false, not_false_eq_true, imp_self, implies_true, bls, eq_self]
  have r17 : isqrt (val (limbs 17)) = 4 := isqrt_eq (by rw [val_limbs]; exact ⟨by omega, by omega⟩)
  refine E_call (hP ▸ s_wRoot) ⟨o7, _, _, rfl, w7, by omega, fun h => absurd h (by rw [show decide ((17 : Int) < 0) = false from rfl]; unfold iv; simp), fun _ u8 v8 T8 hu8 hv8 => ?_⟩
  rw [r17] at hu8 hv8
  rw [val_limbs] at hv8
  obtain ⟨p8, rfl, hp8⟩ := hu8
  obtain ⟨q8, rfl, hq8⟩ := hv8
  have a8 : Nm T8 p8 (limbs 4) := hp8.nm
  have b8 : Nm T8 q8 (limbs 1) := hq8.nm
  have c8 := a8.leaf
  have d8 := b8.leaf
  have x8 : Ext st T8 := x7.trans hp8.ex
  have e8 := x8.len
  have e81 : st.length ≤ T8.length + 1 := by omega
  simp (disch := first | assumption | omega | (simp only [lens]; omega)) only [eqs, ↓gvd_succ, ↓gvd_zero, ↓and_of, im_of, im_of trivial, vals, lsts, tys, hP, hst, initS, Nat.reduceBEq, Nat.reduceAdd, Nat.reduceMul, Nat.reduceSub, Nat.reduceDiv, Nat.reduceMod, Nat.reducePow, Nat.reduceLT, Nat.reduceLeDiff, Nat.reduceEqDiff, Int.reduceAdd, Int.reduceSub, Int.reduceNeg, Int.reduceMul, Int.reduceToNat, Int.reducePow, Int.reduceLE, Int.reduceLT, Int.reduceEq, Int.reduceNe, reduceIte, reduceCtorEq, ne_eq, not_true_eq_false, not_false_eq_true, imp_self, implies_true, bls, eq_self, c8, d8, e8, e81]
  obtain ⟨S8, hS8⟩ : ∃ S, T8 ++ [some [.val (.bool false), p8], some [.val (.bool false), q8]] = S := ⟨_, rfl⟩
  have y8 : Ext T8 S8 := ⟨_, hS8.symm⟩
  have f8 : At S8 T8.length [.val (.bool false), p8] := ⟨hS8 ▸ by rw [get_app0]; rfl⟩
  have g8 : At S8 (T8.length + 1) [.val (.bool false), q8] := ⟨hS8 ▸ by rw [get_app]; rfl⟩
  rw [hS8]
  have z0 : Ext S8 S8 := .refl
  have t0 := (f3.ext ((ho4.ex.trans (ho5.ex.trans (hp6.ex.trans (y6.trans (ho7.ex.trans (hp8.ex.trans y8)))))).trans z0)).get
  simp (disch := first | assumption | omega | (simp only [lens]; omega)) only [eqs, ↓gvd_succ, ↓gvd_zero, ↓and_of, im_of, im_of trivial, vals, lsts, tys, hP, hst, initS, Nat.reduceBEq, Nat.reduceAdd, Nat.reduceMul, Nat.reduceSub, Nat.reduceDiv, Nat.reduceMod, Nat.reducePow, Nat.reduceLT, Nat.reduceLeDiff, Nat.reduceEqDiff, Int.reduceAdd, Int.reduceSub, Int.reduceNeg, Int.reduceMul, Int.reduceToNat, Int.reducePow, Int.reduceLE, Int.reduceLT, Int.reduceEq, Int.reduceNe, reduceIte, reduceCtorEq, ne_eq, not_true_eq_false, not_false_eq_true, imp_self, implies_true, bls, eq_self, t0, str_eq2]
  refine E_call (hP ▸ s_wText) ⟨_, true, limbs 3, rfl, ⟨p3, rfl, a3.ext ((y3.trans (ho4.ex.trans (ho5.ex.trans (hp6.ex.trans (y6.trans (ho7.ex.trans (hp8.ex.trans y8))))))).trans z0)⟩, by omega, fun U0 hU0 => ?_⟩
  rw [val_limbs, show bstr (txtI (iv true 3)) = ⟨#[45, 51]⟩ by simp [txtI, iv, txt, digs_pos, digs_zero, dch]; decide +kernel]
  have z1 : Ext S8 U0 := z0.trans hU0
  have t1 := (g3.ext ((ho4.ex.trans (ho5.ex.trans (hp6.ex.trans (y6.trans (ho7.ex.trans (hp8.ex.trans y8)))))).trans z1)).get
  simp (disch := first | assumption | omega | (simp only [lens]; omega)) only [eqs, ↓gvd_succ, ↓gvd_zero, ↓and_of, im_of, im_of trivial, vals, lsts, tys, hP, hst, initS, Nat.reduceBEq, Nat.reduceAdd, Nat.reduceMul, Nat.reduceSub, Nat.reduceDiv, Nat.reduceMod, Nat.reducePow, Nat.reduceLT, Nat.reduceLeDiff, Nat.reduceEqDiff, Int.reduceAdd, Int.reduceSub, Int.reduceNeg, Int.reduceMul, Int.reduceToNat, Int.reducePow, Int.reduceLE, Int.reduceLT, Int.reduceEq, Int.reduceNe, reduceIte, reduceCtorEq, ne_eq, not_true_eq_false, not_false_eq_true, imp_self, implies_true, bls, eq_self, t1, str_eq2]
  refine E_call (hP ▸ s_wText) ⟨_, true, limbs 1, rfl, ⟨q3, rfl, b3.ext ((y3.trans (ho4.ex.trans (ho5.ex.trans (hp6.ex.trans (y6.trans (ho7.ex.trans (hp8.ex.trans y8))))))).trans z1)⟩, by omega, fun U1 hU1 => ?_⟩
  rw [val_limbs, show bstr (txtI (iv true 1)) = ⟨#[45, 49]⟩ by simp [txtI, iv, txt, digs_pos, digs_zero, dch]; decide +kernel]
  have z2 : Ext S8 U1 := z1.trans hU1
  have t2 := (f6.ext ((ho7.ex.trans (hp8.ex.trans y8)).trans z2)).get
  simp (disch := first | assumption | omega | (simp only [lens]; omega)) only [eqs, ↓gvd_succ, ↓gvd_zero, ↓and_of, im_of, im_of trivial, vals, lsts, tys, hP, hst, initS, Nat.reduceBEq, Nat.reduceAdd, Nat.reduceMul, Nat.reduceSub, Nat.reduceDiv, Nat.reduceMod, Nat.reducePow, Nat.reduceLT, Nat.reduceLeDiff, Nat.reduceEqDiff, Int.reduceAdd, Int.reduceSub, Int.reduceNeg, Int.reduceMul, Int.reduceToNat, Int.reducePow, Int.reduceLE, Int.reduceLT, Int.reduceEq, Int.reduceNe, reduceIte, reduceCtorEq, ne_eq, not_true_eq_false, not_false_eq_true, imp_self, implies_true, bls, eq_self, t2, str_eq2]
  refine E_call (hP ▸ s_wText) ⟨_, true, limbs 4, rfl, ⟨p6, rfl, a6.ext ((y6.trans (ho7.ex.trans (hp8.ex.trans y8))).trans z2)⟩, by omega, fun U2 hU2 => ?_⟩
  rw [val_limbs, show bstr (txtI (iv true 4)) = ⟨#[45, 52]⟩ by simp [txtI, iv, txt, digs_pos, digs_zero, dch]; decide +kernel]
  have z3 : Ext S8 U2 := z2.trans hU2
  have t3 := (g6.ext ((ho7.ex.trans (hp8.ex.trans y8)).trans z3)).get
  simp (disch := first | assumption | omega | (simp only [lens]; omega)) only [eqs, ↓gvd_succ, ↓gvd_zero, ↓and_of, im_of, im_of trivial, vals, lsts, tys, hP, hst, initS, Nat.reduceBEq, Nat.reduceAdd, Nat.reduceMul, Nat.reduceSub, Nat.reduceDiv, Nat.reduceMod, Nat.reducePow, Nat.reduceLT, Nat.reduceLeDiff, Nat.reduceEqDiff, Int.reduceAdd, Int.reduceSub, Int.reduceNeg, Int.reduceMul, Int.reduceToNat, Int.reducePow, Int.reduceLE, Int.reduceLT, Int.reduceEq, Int.reduceNe, reduceIte, reduceCtorEq, ne_eq, not_true_eq_false, not_false_eq_true, imp_self, implies_true, bls, eq_self, t3, str_eq2]
  refine E_call (hP ▸ s_wText) ⟨_, false, limbs 1, rfl, ⟨q6, rfl, b6.ext ((y6.trans (ho7.ex.trans (hp8.ex.trans y8))).trans z3)⟩, by omega, fun U3 hU3 => ?_⟩
  rw [val_limbs, show bstr (txtI (iv false 1)) = ⟨#[49]⟩ by simp [txtI, iv, txt, digs_pos, digs_zero, dch]; decide +kernel]
  have z4 : Ext S8 U3 := z3.trans hU3
  have t4 := (f8.ext ((Ext.refl).trans z4)).get
  simp (disch := first | assumption | omega | (simp only [lens]; omega)) only [eqs, ↓gvd_succ, ↓gvd_zero, ↓and_of, im_of, im_of trivial, vals, lsts, tys, hP, hst, initS, Nat.reduceBEq, Nat.reduceAdd, Nat.reduceMul, Nat.reduceSub, Nat.reduceDiv, Nat.reduceMod, Nat.reducePow, Nat.reduceLT, Nat.reduceLeDiff, Nat.reduceEqDiff, Int.reduceAdd, Int.reduceSub, Int.reduceNeg, Int.reduceMul, Int.reduceToNat, Int.reducePow, Int.reduceLE, Int.reduceLT, Int.reduceEq, Int.reduceNe, reduceIte, reduceCtorEq, ne_eq, not_true_eq_false, not_false_eq_true, imp_self, implies_true, bls, eq_self, t4, str_eq2]
  refine E_call (hP ▸ s_wText) ⟨_, false, limbs 4, rfl, ⟨p8, rfl, a8.ext ((y8).trans z4)⟩, by omega, fun U4 hU4 => ?_⟩
  rw [val_limbs, show bstr (txtI (iv false 4)) = ⟨#[52]⟩ by simp [txtI, iv, txt, digs_pos, digs_zero, dch]; decide +kernel]
  have z5 : Ext S8 U4 := z4.trans hU4
  have t5 := (g8.ext ((Ext.refl).trans z5)).get
  simp (disch := first | assumption | omega | (simp only [lens]; omega)) only [eqs, ↓gvd_succ, ↓gvd_zero, ↓and_of, im_of, im_of trivial, vals, lsts, tys, hP, hst, initS, Nat.reduceBEq, Nat.reduceAdd, Nat.reduceMul, Nat.reduceSub, Nat.reduceDiv, Nat.reduceMod, Nat.reducePow, Nat.reduceLT, Nat.reduceLeDiff, Nat.reduceEqDiff, Int.reduceAdd, Int.reduceSub, Int.reduceNeg, Int.reduceMul, Int.reduceToNat, Int.reducePow, Int.reduceLE, Int.reduceLT, Int.reduceEq, Int.reduceNe, reduceIte, reduceCtorEq, ne_eq, not_true_eq_false, not_false_eq_true, imp_self, implies_true, bls, eq_self, t5, str_eq2]
  refine E_call (hP ▸ s_wText) ⟨_, false, limbs 1, rfl, ⟨q8, rfl, b8.ext ((y8).trans z5)⟩, by omega, fun U5 hU5 => ?_⟩
  rw [val_limbs, show bstr (txtI (iv false 1)) = ⟨#[49]⟩ by simp [txtI, iv, txt, digs_pos, digs_zero, dch]; decide +kernel]
  have z6 : Ext S8 U5 := z5.trans hU5
  simp (disch := first | assumption | omega | (simp only [lens]; omega)) only [eqs, ↓gvd_succ, ↓gvd_zero, ↓and_of, im_of, im_of trivial, vals, lsts, tys, hP, hst, initS, Nat.reduceBEq, Nat.reduceAdd, Nat.reduceMul, Nat.reduceSub, Nat.reduceDiv, Nat.reduceMod, Nat.reducePow, Nat.reduceLT, Nat.reduceLeDiff, Nat.reduceEqDiff, Int.reduceAdd, Int.reduceSub, Int.reduceNeg, Int.reduceMul, Int.reduceToNat, Int.reducePow, Int.reduceLE, Int.reduceLT, Int.reduceEq, Int.reduceNe, reduceIte, reduceCtorEq, ne_eq, not_true_eq_false, not_false_eq_true, imp_self, implies_true, bls, eq_self, str_eq2]
  exact hK _ (x8.trans (y8.trans z6))
end Go.Proofs.Pv

/- The whole functions' contracts as numbers: what the laws' walks use. -/
namespace Go.Proofs.Pv
open Go Go.RowKit Go.Proofs
set_option maxRecDepth 20000

/-- A long region's operations are two rows, one behind the other. -/
theorem gvd_anil {m : List Oper} {s : Sl} {n : Nat} : gvd (List.append [] m) s n = gvd m s n := rfl
theorem gvd_asucc {o : Oper} {l m : List Oper} {s : Sl} {n : Nat} : gvd (List.append (o :: l) m) s (n + 1) = gvd (List.append l m) s n := rfl
theorem gvd_azero {op : Op} {t : TypeId} {p : String} {af : Array Edge} {g : Option (Nat × Bool)} {k : Nat} {l m : List Oper} {s : Sl} : gvd (List.append (⟨some k, op, t, p, af, g⟩ :: l) m) s 0 = Sl.get s k := rfl
theorem zrow1i : zrow 1 [Value.bool false, Value.slice none 0 0] = [.val (.bool false), .val (.slice none 0 0)] := rfl
theorem zrow2i : zrow 2 [Value.bool false, Value.slice none 0 0] = [.val (.bool false), .val (.slice none 0 0), .val (.bool false), .val (.slice none 0 0)] := rfl
theorem zrow3i : zrow 3 [Value.bool false, Value.slice none 0 0] = [.val (.bool false), .val (.slice none 0 0), .val (.bool false), .val (.slice none 0 0), .val (.bool false), .val (.slice none 0 0)] := rfl
def RkSmall2 (xs : List AV) (st : St) (K : AV → St → Prop) : Prop := ∃ (r : Nat) (s t : Bool) (x y : AV) (l m : List Nat), xs = [.own r 0 2 2] ∧ st[r]? = some (some [.val (.bool s), x, .val (.bool t), y]) ∧ Nm st x l ∧ Nm st y m ∧ anyw st (.bool (decide (l.length ≤ 24 ∧ m.length ≤ 24))) K
def RkSmall3 (xs : List AV) (st : St) (K : AV → St → Prop) : Prop := ∃ (r : Nat) (s t u : Bool) (x y z : AV) (l m n : List Nat), xs = [.own r 0 3 2] ∧ st[r]? = some (some [.val (.bool s), x, .val (.bool t), y, .val (.bool u), z]) ∧ Nm st x l ∧ Nm st y m ∧ Nm st z n ∧ anyw st (.bool (decide (l.length ≤ 24 ∧ m.length ≤ 24 ∧ n.length ≤ 24))) K
def RkSmall1 (xs : List AV) (st : St) (K : AV → St → Prop) : Prop := ∃ (r : Nat) (s : Bool) (x : AV) (l : List Nat), xs = [.own r 0 1 2] ∧ st[r]? = some (some [.val (.bool s), x]) ∧ Nm st x l ∧ anyw st (.bool (decide (l.length ≤ 24))) K
theorem s_ksmall1 : PSpec Try.prog 47 RkSmall1 := s_ksmall.imp2 fun xs st K ⟨r, s, x, l, h, hr, hx, hK⟩ => ⟨r, [(s, x, l)], h, hr, by simpa using hx, by simp, by simpa using hK⟩
theorem s_ksmall2 : PSpec Try.prog 47 RkSmall2 := s_ksmall.imp2 fun xs st K ⟨r, s, t, x, y, l, m, h, hr, hx, hy, hK⟩ => ⟨r, [(s, x, l), (t, y, m)], h, hr, by simpa using ⟨hx, hy⟩, by simp, by simpa using hK⟩
theorem s_ksmall3 : PSpec Try.prog 47 RkSmall3 := s_ksmall.imp2 fun xs st K ⟨r, s, t, u, x, y, z, l, m, n, h, hr, hx, hy, hz, hK⟩ => ⟨r, [(s, x, l), (t, y, m), (u, z, n)], h, hr, by simpa using ⟨hx, hy, hz⟩, by simp, by simpa using hK⟩

/-- A whole number of at most n limbs. -/
def IsZ (st : St) (x : AV) (z : Int) (n : Nat) : Prop := ∃ s l, Wh st x s l ∧ iv s (val l) = z ∧ l.length ≤ n
/-- The same, as it must be. -/
def NZ (st : St) (x : AV) (z : Int) (n : Nat) : Prop := Wh st x (decide (z < 0)) (limbs z.natAbs) ∧ (limbs z.natAbs).length ≤ n
section
variable {st st' : St} {x y : AV} {z w : Int} {n m : Nat}
theorem IsZ.ext (h : IsZ st x z n) (e : Ext st st') : IsZ st' x z n := by obtain ⟨s, l, h1, h2⟩ := h; exact ⟨s, l, h1.ext e, h2⟩
theorem NZ.ext (h : NZ st x z n) (e : Ext st st') : NZ st' x z n := ⟨h.1.ext e, h.2⟩
theorem NZ.toZ (h : NZ st x z n) : IsZ st x z n := ⟨_, _, h.1, iv_limbs z, h.2⟩
theorem IsZ.mk {s : Bool} {l : List Nat} (h : Wh st x s l) (hl : l.length ≤ n) : IsZ st x (iv s (val l)) n := ⟨s, l, h, rfl, hl⟩
theorem IsZ.len (h : IsZ st x z n) : (limbs z.natAbs).length ≤ n := by
  obtain ⟨s, l, ⟨a, _, h1⟩, rfl, h3⟩ := h
  rw [iv_natAbs]
  exact Nat.le_trans (limbs_len h1.lt) h3
theorem NZ.mk (h : GotI st st' x z) (hn : (limbs z.natAbs).length ≤ n) : NZ st' x z n := ⟨h.wh, hn⟩
theorem zlen_add {a b : Int} (h : (limbs a.natAbs).length ≤ n) (h2 : (limbs b.natAbs).length ≤ m) : (limbs (a + b).natAbs).length ≤ n + m + 1 := by
  have := len_add a.natAbs b.natAbs
  have := limbs_len_mono (Int.natAbs_add_le a b)
  omega
theorem zlen_neg {a : Int} (h : (limbs a.natAbs).length ≤ n) : (limbs (-a).natAbs).length ≤ n := by rwa [Int.natAbs_neg]
theorem zlen_sub {a b : Int} (h : (limbs a.natAbs).length ≤ n) (h2 : (limbs b.natAbs).length ≤ m) : (limbs (a - b).natAbs).length ≤ n + m + 1 := by rw [Int.sub_eq_add_neg]; exact zlen_add h (zlen_neg h2)
theorem zlen_mul {a b : Int} (h : (limbs a.natAbs).length ≤ n) (h2 : (limbs b.natAbs).length ≤ m) : (limbs (a * b).natAbs).length ≤ n + m := by
  have := len_mul a.natAbs b.natAbs
  rw [Int.natAbs_mul]
  omega
theorem zlen_tdiv {a b : Int} (h : (limbs a.natAbs).length ≤ n) : (limbs (a.tdiv b).natAbs).length ≤ n := by
  rw [← iv_self a, ← iv_self b, iv_tdiv, iv_natAbs]
  have := len_div a.natAbs b.natAbs
  omega
theorem zlen_fq {a b : Int} (h : (limbs a.natAbs).length ≤ n) : (limbs (fq a b).natAbs).length ≤ n + 2 := by
  have h1 := zlen_tdiv (b := b) h
  unfold fq
  split
  · omega
  · exact zlen_sub h1 (m := 1) (limbs_len_le (by decide))
theorem zlen_tmod {a b : Int} (hb : b ≠ 0) (h : (limbs b.natAbs).length ≤ m) : (limbs (a.tmod b).natAbs).length ≤ m := Nat.le_trans (limbs_len_mono (Nat.le_of_lt (tmod_sign a b hb).1)) h
theorem zlen_fr {a b : Int} (hb : b ≠ 0) (h : (limbs b.natAbs).length ≤ m) : (limbs (fr a b).natAbs).length ≤ m := Nat.le_trans (limbs_len_mono (Nat.le_of_lt (fr_sign a b hb).1)) h
end

def RzTwo (F : Int → Int → Int) (xs : List AV) (st : St) (K : AV → St → Prop) : Prop := ∃ x y z w n m, xs = [x, y] ∧ IsZ st x z n ∧ IsZ st y w m ∧ n ≤ 1000 ∧ m ≤ 1000 ∧ ∀ v S', Ext st S' → NZ S' v (F z w) (n + m + 1) → K v S'
theorem two_z {f : FuncId} {F : Int → Int → Int} (h : PSpec Try.prog f (RwTwo F)) (hl : ∀ (a b : Int) (n m : Nat), (limbs a.natAbs).length ≤ n → (limbs b.natAbs).length ≤ m → (limbs (F a b).natAbs).length ≤ n + m + 1) : PSpec Try.prog f (RzTwo F) :=
  h.imp2 fun xs st K ⟨x, y, z, w, n, m, e, hx, hy, hn, hm, hK⟩ => by
    have h1 := hl z w n m hx.len hy.len
    obtain ⟨s, l, hx, rfl, h3⟩ := hx
    obtain ⟨t, k, hy, rfl, h4⟩ := hy
    exact ⟨x, y, s, t, l, k, e, hx, hy, by omega, by omega, fun v S' hv => hK v S' hv.ex (.mk hv h1)⟩
theorem z_Add : PSpec Try.prog 57 (RzTwo (· + ·)) := two_z s_wAdd fun _ _ _ _ h h2 => zlen_add h h2
theorem z_Sub : PSpec Try.prog 62 (RzTwo (· - ·)) := two_z s_wSub fun _ _ _ _ h h2 => zlen_sub h h2
theorem z_Mul : PSpec Try.prog 61 (RzTwo (· * ·)) := two_z s_wMul fun _ _ _ _ h h2 => Nat.le_trans (zlen_mul h h2) (by omega)
theorem z_qAdd : PSpec Try.prog 69 (RzTwo (· + ·)) := two_z s_qAdd fun _ _ _ _ h h2 => zlen_add h h2
theorem z_qSub : PSpec Try.prog 70 (RzTwo (· - ·)) := two_z s_qSub fun _ _ _ _ h h2 => zlen_sub h h2
theorem z_qMul : PSpec Try.prog 71 (RzTwo (· * ·)) := two_z s_qMul fun _ _ _ _ h h2 => Nat.le_trans (zlen_mul h h2) (by omega)
def RzOne (F : Int → Int) (xs : List AV) (st : St) (K : AV → St → Prop) : Prop := ∃ x z n, xs = [x] ∧ IsZ st x z n ∧ n ≤ 10000 ∧ ∀ v S', Ext st S' → NZ S' v (F z) n → K v S'
theorem z_Norm : PSpec Try.prog 59 (RzOne id) := s_wNorm.imp2 fun xs st K ⟨x, z, n, e, hx, hn, hK⟩ => by
  have h1 := hx.len
  obtain ⟨s, l, hx, rfl, h3⟩ := hx
  exact ⟨x, s, l, e, hx, by omega, fun v S' hv => hK v S' hv.ex (.mk hv h1)⟩
theorem z_Neg : PSpec Try.prog 58 (RzOne (- ·)) := s_wNeg.imp2 fun xs st K ⟨x, z, n, e, hx, hn, hK⟩ => by
  have h1 := hx.len
  obtain ⟨s, l, hx, rfl, h3⟩ := hx
  exact ⟨x, s, l, e, hx, by omega, fun v S' hv => hK v S' hv.ex (.mk hv (zlen_neg h1))⟩
def RzCmp (xs : List AV) (st : St) (K : AV → St → Prop) : Prop := ∃ x y z w n m, xs = [x, y] ∧ IsZ st x z n ∧ IsZ st y w m ∧ n ≤ 1000 ∧ m ≤ 1000 ∧ anyw st (.int .i64 (cmpI z w)) K
theorem z_Cmp : PSpec Try.prog 56 RzCmp := s_wCmp.imp2 fun xs st K ⟨x, y, z, w, n, m, e, hx, hy, hn, hm, hK⟩ => by
  obtain ⟨s, l, hx, rfl, h3⟩ := hx
  obtain ⟨t, k, hy, rfl, h4⟩ := hy
  exact ⟨x, y, s, t, l, k, e, hx, hy, by omega, by omega, hK⟩
def RzOf (xs : List AV) (st : St) (K : AV → St → Prop) : Prop := ∃ n : Int, xs = [.val (.int .i64 n)] ∧ -9223372036854775808 ≤ n ∧ n ≤ 9223372036854775807 ∧ ∀ v S', Ext st S' → NZ S' v n 2 → K v S'
theorem z_Of : PSpec Try.prog 60 RzOf := s_wOf.imp2 fun xs st K ⟨n, e, h1, h2, hK⟩ => ⟨n, e, h1, h2, fun v S' hv => hK v S' hv.ex (.mk hv (limbs_len_le (by omega)))⟩
def RzSameT (xs : List AV) (st : St) (K : AV → St → Prop) : Prop := ∃ x y z n m, xs = [x, y] ∧ NZ st x z n ∧ NZ st y z m ∧ n ≤ 1000000 ∧ anyw st (.bool true) K
theorem z_same : PSpec Try.prog 53 RzSameT := s_ksame.imp2 fun xs st K ⟨x, y, z, n, m, h, hx, hy, hn, hK⟩ => ⟨x, y, _, _, _, _, h, hx.1, hy.1, Nat.le_trans hx.2 hn, Nat.le_trans hx.2 hn, by rw [decide_eq_true ⟨rfl, rfl⟩]; exact hK⟩
def RzSame (xs : List AV) (st : St) (K : AV → St → Prop) : Prop := ∃ x y z w n m, xs = [x, y] ∧ NZ st x z n ∧ NZ st y w m ∧ n ≤ 1000000 ∧ m ≤ 1000000 ∧ anyw st (.bool (decide (z = w))) K
theorem nz_same {z w : Int} : (decide (z < 0) = decide (w < 0) ∧ limbs z.natAbs = limbs w.natAbs) ↔ z = w := by
  constructor
  · rintro ⟨h1, h2⟩
    have h3 : z.natAbs = w.natAbs := by rw [← val_limbs z.natAbs, h2, val_limbs]
    rw [decide_eq_decide] at h1
    omega
  · rintro rfl; exact ⟨rfl, rfl⟩
theorem z_sameD : PSpec Try.prog 53 RzSame := s_ksame.imp2 fun xs st K ⟨x, y, z, w, n, m, h, hx, hy, hn, hm, hK⟩ => ⟨x, y, _, _, _, _, h, hx.1, hy.1, Nat.le_trans hx.2 hn, Nat.le_trans hy.2 hm, by rw [show decide (decide (z < 0) = decide (w < 0) ∧ limbs z.natAbs = limbs w.natAbs) = decide (z = w) by rw [decide_eq_decide]; exact nz_same]; exact hK⟩
def RzQuo (FQ FR : Int → Int → Int) (xs : List AV) (st : St) (K : AV → St → Prop) : Prop := ∃ x y z w n m, xs = [x, y] ∧ IsZ st x z n ∧ IsZ st y w m ∧ n ≤ 800 ∧ m ≤ 800 ∧
  (w ≠ 0 → ∀ u v S', Ext st S' → NZ S' u (FQ z w) (n + 2) → NZ S' v (FR z w) m → K (.tup [u, v, .val (.int .i64 0)]) S') ∧
  (w = 0 → ∀ S', Ext st S' → K (.tup [zeroI, zeroI, .val (.int .i64 3)]) S')
theorem quo_z {f : FuncId} {FQ FR : Int → Int → Int} (h : PSpec Try.prog f (RwQuo FQ FR)) (h1 : ∀ (a b : Int) (n : Nat), (limbs a.natAbs).length ≤ n → (limbs (FQ a b).natAbs).length ≤ n + 2) (h2 : ∀ (a b : Int) (m : Nat), b ≠ 0 → (limbs b.natAbs).length ≤ m → (limbs (FR a b).natAbs).length ≤ m) : PSpec Try.prog f (RzQuo FQ FR) :=
  h.imp2 fun xs st K ⟨x, y, z, w, n, m, e, hx, hy, hn, hm, hK, hK0⟩ => by
    have g1 := h1 z w n hx.len
    have g2 := fun hb => h2 z w m hb hy.len
    obtain ⟨s, l, hx, rfl, h3⟩ := hx
    obtain ⟨t, k, hy, rfl, h4⟩ := hy
    refine ⟨x, y, s, t, l, k, e, hx, hy, by omega, by omega, fun h0 u v S' hu hv => ?_, fun h0 => hK0 (iv_eq_zero.2 h0)⟩
    have h5 : iv t (val k) ≠ 0 := fun h => h0 (iv_eq_zero.1 h)
    exact hK h5 u v S' hu.ex (.mk hu g1) (.mk hv (g2 h5))
theorem z_Quo : PSpec Try.prog 49 (RzQuo Int.tdiv Int.tmod) := quo_z s_wQuo (fun _ _ _ h => Nat.le_trans (zlen_tdiv h) (by omega)) (fun _ _ _ hb h => zlen_tmod hb h)
theorem z_Floor : PSpec Try.prog 51 (RzQuo fq fr) := quo_z s_wFloor (fun _ _ _ h => zlen_fq h) (fun _ _ _ hb h => zlen_fr hb h)
end Go.Proofs.Pv
