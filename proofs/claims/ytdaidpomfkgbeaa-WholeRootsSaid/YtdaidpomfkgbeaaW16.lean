/- The whole functions' walks, sixth part: as a small number. -/
import Derived.Test.YtdaidpomfkgbeaaW15
import Derived.Test.YtdaidpomfkgbeaaM7
set_option linter.unusedSimpArgs false
set_option linter.unusedVariables false
namespace Go.Proofs.Pv
open Go Go.RowKit Go.Proofs
set_option maxRecDepth 20000

def smB (z : Int) : Bool := decide (-9223372036854775808 ≤ z ∧ z ≤ 9223372036854775807)
def smZ (z : Int) : Int := if -9223372036854775808 ≤ z ∧ z ≤ 9223372036854775807 then z else 0
theorem blen63 {v : Nat} : blen v ≤ 63 ↔ v < 9223372036854775808 := by
  constructor
  · intro h
    exact Nat.lt_of_lt_of_le (blen_lt v) (Nat.le_trans (Nat.pow_le_pow_right (by omega) h) (by decide))
  · intro h
    exact blen_le (k := 63) (by omega)
theorem sm_pos {z : Int} (h : ¬z < 0) : (((if blen z.natAbs ≤ 63 then z.natAbs else 0 : Nat) : Int)) = smZ z ∧ decide (blen z.natAbs ≤ 63) = smB z := by
  unfold smZ smB
  by_cases hb : blen z.natAbs ≤ 63
  · have := blen63.1 hb
    rw [if_pos hb, decide_eq_true hb, if_pos (by omega), decide_eq_true (by omega)]
    exact ⟨by omega, rfl⟩
  · have : ¬z.natAbs < 9223372036854775808 := fun h => hb (blen63.2 h)
    rw [if_neg hb, decide_eq_false hb, if_neg (by omega), decide_eq_false (by omega)]
    exact ⟨rfl, rfl⟩
theorem sm_neg {z : Int} (h : z < 0) (h2 : z ≠ -9223372036854775808) : IntKind.i64.wrap (0 - ((if blen z.natAbs ≤ 63 then z.natAbs else 0 : Nat) : Int)) = smZ z ∧ decide (blen z.natAbs ≤ 63) = smB z := by
  unfold smZ smB
  by_cases hb : blen z.natAbs ≤ 63
  · have := blen63.1 hb
    rw [if_pos hb, decide_eq_true hb, if_pos (by omega), decide_eq_true (by omega)]
    exact ⟨by rw [IntKind.wrap_i64]; omega, rfl⟩
  · have : ¬z.natAbs < 9223372036854775808 := fun h => hb (blen63.2 h)
    rw [if_neg hb, decide_eq_false hb, if_neg (by omega), decide_eq_false (by omega)]
    exact ⟨by decide, rfl⟩
theorem sm_min : smZ (-9223372036854775808) = -9223372036854775808 ∧ smB (-9223372036854775808) = true := by decide

def RwSmall (xs : List AV) (st : St) (K : AV → St → Prop) : Prop := ∃ x s l, xs = [x] ∧ Wh st x s l ∧ l.length ≤ 1000 ∧
  ∀ st', Ext st st' → K (.tup [.val (.int .i64 (smZ (iv s (val l)))), .val (.bool (smB (iv s (val l))))]) st'
set_option maxHeartbeats 4000000 in
theorem s_wSmall : PSpec Try.prog 64 RwSmall := by
  refine fspec_of (fn := Try.f64) 1 [.tmp 2, .tmp 3] (by kernel_rfl) rfl rfl (by kernel_rfl) mixed (by rintro _ _ _ ⟨x, s, l, rfl, _⟩; rfl) ?_
  rintro X _ st K hP hst ⟨x, s, l, rfl, hx, hl, hK⟩
  have hx1 := hx
  obtain ⟨a, rfl, ha, hal⟩ := hx.iv
  refine vc_V ?_
  have b1 := limbs_len ha.lt
  simp (disch := first | assumption | omega | (simp only [lens]; omega)) only [eqs, ↓gvd_succ, ↓gvd_zero, ↓and_of, im_of, im_of trivial, vals, lsts, tys, hP, hst, initS, Nat.reduceBEq, Nat.reduceAdd, Nat.reduceMul, Nat.reduceSub, Nat.reduceDiv, Nat.reduceMod, Nat.reducePow, Nat.reduceLT, Nat.reduceLeDiff, Nat.reduceEqDiff, Int.reduceAdd, Int.reduceSub, Int.reduceNeg, Int.reduceMul, Int.reduceToNat, Int.reducePow, Int.reduceLE, Int.reduceLT, Int.reduceEq, Int.reduceNe, reduceIte, reduceCtorEq, ne_eq, not_true_eq_false, not_false_eq_true, imp_self, implies_true, bls, eq_self, hal]
  refine E_call (hP ▸ s_wNorm) ⟨_, s, l, rfl, hx1.ext (.add _), by omega, fun z T hz => ?_⟩
  obtain ⟨a', rfl, ha'⟩ := hz
  have hal' := ha'.nm.leaf
  have hA : At T st.length [.val (.bool s), a] := At.ext ⟨by rw [get_app0]; rfl⟩ ha'.ex
  have c1 : (limbs (iv s (val l)).natAbs).length ≤ 1000 := by rw [iv_natAbs]; omega
  obtain ⟨Z, hZ⟩ : ∃ Z, iv s (val l) = Z := ⟨_, rfl⟩
  rw [hZ] at ha' hK c1 ⊢
  obtain ⟨s', hs'⟩ : ∃ s', decide (Z < 0) = s' := ⟨_, rfl⟩
  rw [hs']
  have hX0 : X.st1.length ≤ st.length := by rw [hst]; omega
  have hA1 := hA.get
  have e0 : Ext st T := (Ext.add _).trans ha'.ex
  simp (disch := first | assumption | omega | (simp only [lens]; omega)) only [eqs, ↓gvd_succ, ↓gvd_zero, ↓and_of, im_of, im_of trivial, vals, lsts, tys, hP, hst, initS, Nat.reduceBEq, Nat.reduceAdd, Nat.reduceMul, Nat.reduceSub, Nat.reduceDiv, Nat.reduceMod, Nat.reducePow, Nat.reduceLT, Nat.reduceLeDiff, Nat.reduceEqDiff, Int.reduceAdd, Int.reduceSub, Int.reduceNeg, Int.reduceMul, Int.reduceToNat, Int.reducePow, Int.reduceLE, Int.reduceLT, Int.reduceEq, Int.reduceNe, reduceIte, reduceCtorEq, ne_eq, not_true_eq_false, not_false_eq_true, imp_self, implies_true, bls, eq_self, hal', hA1]
  obtain ⟨S, hS⟩ : ∃ S, T.set st.length (some [.val (.bool s'), a']) = S := ⟨_, rfl⟩
  have hSe : Ext st S := hS ▸ e0.set (Nat.le_refl _) _
  have hSA : At S st.length [.val (.bool s'), a'] := ⟨hS ▸ by simp [hA.lt]⟩
  have hN : Nm S a' (limbs Z.natAbs) := hS ▸ (ha'.put (by simp) _).nm
  rw [hS]
  clear hS
  have g1 := hSA.get
  cases s'
  · obtain ⟨k1, k2⟩ := sm_pos (of_decide_eq_false hs')
    simp (disch := first | assumption | omega | (simp only [lens]; omega)) only [eqs, ↓gvd_succ, ↓gvd_zero, ↓and_of, im_of, im_of trivial, vals, lsts, tys, hP, hst, initS, Nat.reduceBEq, Nat.reduceAdd, Nat.reduceMul, Nat.reduceSub, Nat.reduceDiv, Nat.reduceMod, Nat.reducePow, Nat.reduceLT, Nat.reduceLeDiff, Nat.reduceEqDiff, Int.reduceAdd, Int.reduceSub, Int.reduceNeg, Int.reduceMul, Int.reduceToNat, Int.reducePow, Int.reduceLE, Int.reduceLT, Int.reduceEq, Int.reduceNe, reduceIte, reduceCtorEq, ne_eq, not_true_eq_false, not_false_eq_true, imp_self, implies_true, bls, eq_self, g1]
    refine E_call (hP ▸ s_Small) ⟨a', _, rfl, hN, by omega, ?_⟩
    rw [val_limbs, k1, k2]
    simp (disch := first | assumption | omega | (simp only [lens]; omega)) only [eqs, ↓gvd_succ, ↓gvd_zero, ↓and_of, im_of, im_of trivial, vals, lsts, tys, hP, hst, initS, Nat.reduceBEq, Nat.reduceAdd, Nat.reduceMul, Nat.reduceSub, Nat.reduceDiv, Nat.reduceMod, Nat.reducePow, Nat.reduceLT, Nat.reduceLeDiff, Nat.reduceEqDiff, Int.reduceAdd, Int.reduceSub, Int.reduceNeg, Int.reduceMul, Int.reduceToNat, Int.reducePow, Int.reduceLE, Int.reduceLT, Int.reduceEq, Int.reduceNe, reduceIte, reduceCtorEq, ne_eq, not_true_eq_false, not_false_eq_true, imp_self, implies_true, bls, eq_self, g1]
    exact hK _ hSe
  · have hz0 := of_decide_eq_true hs'
    simp (disch := first | assumption | omega | (simp only [lens]; omega)) only [eqs, ↓gvd_succ, ↓gvd_zero, ↓and_of, im_of, im_of trivial, vals, lsts, tys, hP, hst, initS, Nat.reduceBEq, Nat.reduceAdd, Nat.reduceMul, Nat.reduceSub, Nat.reduceDiv, Nat.reduceMod, Nat.reducePow, Nat.reduceLT, Nat.reduceLeDiff, Nat.reduceEqDiff, Int.reduceAdd, Int.reduceSub, Int.reduceNeg, Int.reduceMul, Int.reduceToNat, Int.reducePow, Int.reduceLE, Int.reduceLT, Int.reduceEq, Int.reduceNe, reduceIte, reduceCtorEq, ne_eq, not_true_eq_false, not_false_eq_true, imp_self, implies_true, bls, eq_self, g1]
    have g2 := hSA.gr
    have e2 : ∀ y, Ext st (S ++ y) := fun y => hSe.trans (.add y)
    refine E_call (hP ▸ s_Cmp) ⟨a', _, _, [0, 2147483648], rfl, hN.app _, Nm.two (by rw [get_app0]; rfl) rfl rfl (by omega) (by omega), by omega, by simp, ?_⟩
    obtain ⟨M, hM, hM2⟩ : ∃ M : Nat, val [0, 2147483648] = M ∧ M = 9223372036854775808 := ⟨_, rfl, rfl⟩
    rw [val_limbs, hM]
    simp (disch := first | assumption | omega | (simp only [lens]; omega)) only [eqs, ↓gvd_succ, ↓gvd_zero, ↓and_of, im_of, im_of trivial, vals, lsts, tys, hP, hst, initS, Nat.reduceBEq, Nat.reduceAdd, Nat.reduceMul, Nat.reduceSub, Nat.reduceDiv, Nat.reduceMod, Nat.reducePow, Nat.reduceLT, Nat.reduceLeDiff, Nat.reduceEqDiff, Int.reduceAdd, Int.reduceSub, Int.reduceNeg, Int.reduceMul, Int.reduceToNat, Int.reducePow, Int.reduceLE, Int.reduceLT, Int.reduceEq, Int.reduceNe, reduceIte, reduceCtorEq, ne_eq, not_true_eq_false, not_false_eq_true, imp_self, implies_true, bls, eq_self, cmp_zero]
    refine C_dec (fun h => ?_) (fun h => ?_)
    · have hm : Z = -9223372036854775808 := by omega
      simp (disch := first | assumption | omega | (simp only [lens]; omega)) only [eqs, ↓gvd_succ, ↓gvd_zero, ↓and_of, im_of, im_of trivial, vals, lsts, tys, hP, hst, initS, Nat.reduceBEq, Nat.reduceAdd, Nat.reduceMul, Nat.reduceSub, Nat.reduceDiv, Nat.reduceMod, Nat.reducePow, Nat.reduceLT, Nat.reduceLeDiff, Nat.reduceEqDiff, Int.reduceAdd, Int.reduceSub, Int.reduceNeg, Int.reduceMul, Int.reduceToNat, Int.reducePow, Int.reduceLE, Int.reduceLT, Int.reduceEq, Int.reduceNe, reduceIte, reduceCtorEq, ne_eq, not_true_eq_false, not_false_eq_true, imp_self, implies_true, bls, eq_self]
      rw [hm, sm_min.1, sm_min.2] at hK
      exact hK _ (e2 _)
    · obtain ⟨k1, k2⟩ := sm_neg hz0 (by omega)
      simp (disch := first | assumption | omega | (simp only [lens]; omega)) only [eqs, ↓gvd_succ, ↓gvd_zero, ↓and_of, im_of, im_of trivial, vals, lsts, tys, hP, hst, initS, Nat.reduceBEq, Nat.reduceAdd, Nat.reduceMul, Nat.reduceSub, Nat.reduceDiv, Nat.reduceMod, Nat.reducePow, Nat.reduceLT, Nat.reduceLeDiff, Nat.reduceEqDiff, Int.reduceAdd, Int.reduceSub, Int.reduceNeg, Int.reduceMul, Int.reduceToNat, Int.reducePow, Int.reduceLE, Int.reduceLT, Int.reduceEq, Int.reduceNe, reduceIte, reduceCtorEq, ne_eq, not_true_eq_false, not_false_eq_true, imp_self, implies_true, bls, eq_self, g2]
      refine E_call (hP ▸ s_Small) ⟨a', _, rfl, hN.app _, by omega, ?_⟩
      rw [val_limbs, k2]
      simp (disch := first | assumption | omega | (simp only [lens]; omega)) only [eqs, ↓gvd_succ, ↓gvd_zero, ↓and_of, im_of, im_of trivial, vals, lsts, tys, hP, hst, initS, Nat.reduceBEq, Nat.reduceAdd, Nat.reduceMul, Nat.reduceSub, Nat.reduceDiv, Nat.reduceMod, Nat.reducePow, Nat.reduceLT, Nat.reduceLeDiff, Nat.reduceEqDiff, Int.reduceAdd, Int.reduceSub, Int.reduceNeg, Int.reduceMul, Int.reduceToNat, Int.reducePow, Int.reduceLE, Int.reduceLT, Int.reduceEq, Int.reduceNe, reduceIte, reduceCtorEq, ne_eq, not_true_eq_false, not_false_eq_true, imp_self, implies_true, bls, eq_self, g2, k1]
      exact hK _ (e2 _)
end Go.Proofs.Pv
