/- The whole functions' walks, fifth part: what divides both; as a small number; out of a text. -/
import Derived.Test.YtdaidpomfkgbeaaW13
set_option linter.unusedSimpArgs false
set_option linter.unusedVariables false
namespace Go.Proofs.Pv
open Go Go.RowKit Go.Proofs
set_option maxRecDepth 20000

/-- A struct's cell is written to: what a slice holds stays. -/
theorem Nm.put {T : St} {x a a' : AV} {l m : List Nat} {r : Nat} {b b' : Bool} (h : Nm T x l) (hr : T[r]? = some (some [.val (.bool b), a])) (ha : Nm T a m) : Nm (T.set r (some [.val (.bool b'), a'])) x l := by
  refine ⟨?_, h.lt⟩
  have hs := h.sl
  cases x with
  | own r' o n c =>
    rw [sl_own_eq] at hs ⊢
    by_cases hrr : r' = r
    · subst hrr
      have hlt : r' < T.length := (List.getElem?_eq_some_iff.1 hr).1
      rw [hr] at hs
      rw [List.getElem?_set_self hlt]
      dsimp only at hs ⊢
      by_cases hc : c = 1
      · rw [if_pos hc] at hs ⊢
        split at hs
        · simp only [Option.some.injEq, Prod.mk.injEq, Nat.mul_one] at hs
          obtain ⟨h1, h2⟩ := hs
          match n, o with
          | 0, o => rw [if_pos (by simp)]; simp only [Nat.zero_mul, List.take_zero, Option.some.injEq, Prod.mk.injEq]; exact ⟨h1, by rw [← h2]; simp⟩
          | n + 1, 0 =>
            cases l with
            | nil => simp at h1
            | cons z l => simp [u32s] at h2
          | n + 1, 1 =>
            cases l with
            | nil => simp at h1
            | cons z l =>
              simp [u32s] at h2
              have := ha.sl
              rw [h2.1] at this
              exact absurd this (by unfold Pv.sl; simp)
          | n + 1, o + 2 => rename_i h3; simp at h3
        · simp at hs
      · rw [if_neg hc] at hs; simp at hs
    · rw [List.getElem?_set_ne (Ne.symm hrr)]; exact hs
  | val v =>
    cases v <;> first | exact hs | (rename_i p q r; cases p <;> first | exact hs | (cases q <;> cases r <;> exact hs))
  | _ => exact hs

def RwGcd (xs : List AV) (st : St) (K : AV → St → Prop) : Prop := ∃ x y s t l m, xs = [x, y] ∧ Wh st x s l ∧ Wh st y t m ∧ l.length ≤ 800 ∧ m.length ≤ 800 ∧ gotI st (Nat.gcd (val l) (val m) : Nat) K
theorem s_wGcd : PSpec Try.prog 54 RwGcd := by
  refine fspec_of (fn := Try.f54) 2 [.cell 4 52] (by kernel_rfl) rfl rfl (by kernel_rfl) mixed (by rintro _ _ _ ⟨x, y, s, t, l, m, rfl, _⟩; rfl) ?_
  rintro X _ st K hP hst ⟨x, y, s, t, l, m, rfl, hx, hy, hl, hm, hK⟩
  obtain ⟨a, rfl, ha, hal⟩ := hx.iv
  obtain ⟨b, rfl, hb, hbl⟩ := hy.iv
  refine vc_V ?_
  have b1 := limbs_len ha.lt
  have b2 := limbs_len hb.lt
  simp (disch := first | assumption | omega | (simp only [lens]; omega)) only [eqs, ↓gvd_succ, ↓gvd_zero, ↓and_of, im_of, im_of trivial, vals, lsts, tys, hP, hst, initS, Nat.reduceBEq, Nat.reduceAdd, Nat.reduceMul, Nat.reduceSub, Nat.reduceDiv, Nat.reduceMod, Nat.reducePow, Nat.reduceLT, Nat.reduceLeDiff, Nat.reduceEqDiff, Int.reduceAdd, Int.reduceSub, Int.reduceNeg, Int.reduceMul, Int.reduceToNat, Int.reducePow, Int.reduceLE, Int.reduceLT, Int.reduceEq, Int.reduceNe, reduceIte, reduceCtorEq, ne_eq, not_true_eq_false, not_false_eq_true, imp_self, implies_true, bls, eq_self, hal, hbl]
  refine V_draw [0, 1, 3, 4, 2, 5, 6, 7] (by kernel_rfl) (.cons rfl <| .cons rfl <| .cons rfl <| .cons rfl <| .cons rfl <| .cons rfl <| .cons rfl <| .cons rfl <| .nil) ?_
  simp (disch := first | assumption | omega | (simp only [lens]; omega)) only [eqs, ↓gvd_succ, ↓gvd_zero, ↓and_of, im_of, im_of trivial, vals, lsts, tys, hP, hst, initS, Nat.reduceBEq, Nat.reduceAdd, Nat.reduceMul, Nat.reduceSub, Nat.reduceDiv, Nat.reduceMod, Nat.reducePow, Nat.reduceLT, Nat.reduceLeDiff, Nat.reduceEqDiff, Int.reduceAdd, Int.reduceSub, Int.reduceNeg, Int.reduceMul, Int.reduceToNat, Int.reducePow, Int.reduceLE, Int.reduceLT, Int.reduceEq, Int.reduceNe, reduceIte, reduceCtorEq, ne_eq, not_true_eq_false, not_false_eq_true, imp_self, implies_true, bls, eq_self]
  refine E_call (hP ▸ s_Norm) ⟨a, l, rfl, ha.app _, by omega, fresh_got fun u T1 hu => ?_⟩
  simp (disch := first | assumption | omega | (simp only [lens]; omega)) only [eqs, ↓gvd_succ, ↓gvd_zero, ↓and_of, im_of, im_of trivial, vals, lsts, tys, hP, hst, initS, Nat.reduceBEq, Nat.reduceAdd, Nat.reduceMul, Nat.reduceSub, Nat.reduceDiv, Nat.reduceMod, Nat.reducePow, Nat.reduceLT, Nat.reduceLeDiff, Nat.reduceEqDiff, Int.reduceAdd, Int.reduceSub, Int.reduceNeg, Int.reduceMul, Int.reduceToNat, Int.reducePow, Int.reduceLE, Int.reduceLT, Int.reduceEq, Int.reduceNe, reduceIte, reduceCtorEq, ne_eq, not_true_eq_false, not_false_eq_true, imp_self, implies_true, bls, eq_self]
  refine E_call (hP ▸ s_Norm) ⟨b, m, rfl, (hb.app _).ext hu.ex, by omega, fresh_got fun v T2 hv => ?_⟩
  have e0 : Ext st T2 := (Ext.add _).trans (hu.ex.trans hv.ex)
  have hC : At T2 (st.length + 2) [.val (.bool false), .val (.slice none 0 0)] := At.ext ⟨by rw [get_app]; rfl⟩ (hu.ex.trans hv.ex)
  simp (disch := first | assumption | omega | (simp only [lens]; omega)) only [eqs, ↓gvd_succ, ↓gvd_zero, ↓and_of, im_of, im_of trivial, vals, lsts, tys, hP, hst, initS, Nat.reduceBEq, Nat.reduceAdd, Nat.reduceMul, Nat.reduceSub, Nat.reduceDiv, Nat.reduceMod, Nat.reducePow, Nat.reduceLT, Nat.reduceLeDiff, Nat.reduceEqDiff, Int.reduceAdd, Int.reduceSub, Int.reduceNeg, Int.reduceMul, Int.reduceToNat, Int.reducePow, Int.reduceLE, Int.reduceLT, Int.reduceEq, Int.reduceNe, reduceIte, reduceCtorEq, ne_eq, not_true_eq_false, not_false_eq_true, imp_self, implies_true, bls, eq_self]
  refine V_loop (ι := AV × AV × Nat × Nat × St) (fun e => [(6, e.2.1), (5, e.1), (4, .ptr (st.length + 2) 0), (3, .ptr (st.length + 1) 0), (2, .ptr st.length 0)]) (fun e => e.2.2.2.2)
    (fun e => Ext T2 e.2.2.2.2 ∧ Nm e.2.2.2.2 e.1 (limbs e.2.2.1) ∧ Nm e.2.2.2.2 e.2.1 (limbs e.2.2.2.1) ∧ Nat.gcd e.2.2.1 e.2.2.2.1 = Nat.gcd (val l) (val m) ∧ (limbs e.2.2.1).length ≤ 1000 ∧ (limbs e.2.2.2.1).length ≤ 1000) (fun e => e.2.2.2.1) (u, v, val l, val m, T2) ⟨.refl, hu.nm.ext hv.ex, hv.nm, rfl, by dsimp only; omega, by dsimp only; omega⟩ rfl (by simp (disch := first | assumption | omega | (simp only [lens]; omega)) only [eqs, ↓gvd_succ, ↓gvd_zero, ↓and_of, im_of, im_of trivial, vals, lsts, tys, hP, hst, initS, Nat.reduceBEq, Nat.reduceAdd, Nat.reduceMul, Nat.reduceSub, Nat.reduceDiv, Nat.reduceMod, Nat.reducePow, Nat.reduceLT, Nat.reduceLeDiff, Nat.reduceEqDiff, Int.reduceAdd, Int.reduceSub, Int.reduceNeg, Int.reduceMul, Int.reduceToNat, Int.reducePow, Int.reduceLE, Int.reduceLT, Int.reduceEq, Int.reduceNe, reduceIte, reduceCtorEq, ne_eq, not_true_eq_false, not_false_eq_true, imp_self, implies_true, bls, eq_self] <;> rfl) ?_
  rintro ⟨u, v, n, k, T⟩ ⟨hT, hun, hvn, hg, hln, hlk⟩
  dsimp only at hT hun hvn hg hln hlk ⊢
  have h1 := hvn.sl
  simp (disch := first | assumption | omega | (simp only [lens]; omega)) only [eqs, ↓gvd_succ, ↓gvd_zero, ↓and_of, im_of, im_of trivial, vals, lsts, tys, hP, hst, initS, Nat.reduceBEq, Nat.reduceAdd, Nat.reduceMul, Nat.reduceSub, Nat.reduceDiv, Nat.reduceMod, Nat.reducePow, Nat.reduceLT, Nat.reduceLeDiff, Nat.reduceEqDiff, Int.reduceAdd, Int.reduceSub, Int.reduceNeg, Int.reduceMul, Int.reduceToNat, Int.reducePow, Int.reduceLE, Int.reduceLT, Int.reduceEq, Int.reduceNe, reduceIte, reduceCtorEq, ne_eq, not_true_eq_false, not_false_eq_true, imp_self, implies_true, bls, eq_self, h1]
  refine C_dec (fun h => ?_) (fun h => ?_)
  · have hk : 0 < k := limbs_pos_len.1 (by omega)
    have d2 := len_rem n k
    rw [if_neg (by omega)] at d2
    have d3 := limbs_len_mono (Nat.le_of_lt (Nat.mod_lt n hk))
    simp (disch := first | assumption | omega | (simp only [lens]; omega)) only [eqs, ↓gvd_succ, ↓gvd_zero, ↓and_of, im_of, im_of trivial, vals, lsts, tys, hP, hst, initS, Nat.reduceBEq, Nat.reduceAdd, Nat.reduceMul, Nat.reduceSub, Nat.reduceDiv, Nat.reduceMod, Nat.reducePow, Nat.reduceLT, Nat.reduceLeDiff, Nat.reduceEqDiff, Int.reduceAdd, Int.reduceSub, Int.reduceNeg, Int.reduceMul, Int.reduceToNat, Int.reducePow, Int.reduceLE, Int.reduceLT, Int.reduceEq, Int.reduceNe, reduceIte, reduceCtorEq, ne_eq, not_true_eq_false, not_false_eq_true, imp_self, implies_true, bls, eq_self]
    refine E_call (hP ▸ s_Div) ⟨u, v, _, _, rfl, hun, hvn, by omega, by omega, fresh2_got fun q r T3 hq hr => ?_⟩
    rw [val_limbs, val_limbs] at hr
    rw [if_neg (by omega)] at hr
    simp (disch := first | assumption | omega | (simp only [lens]; omega)) only [eqs, ↓gvd_succ, ↓gvd_zero, ↓and_of, im_of, im_of trivial, vals, lsts, tys, hP, hst, initS, Nat.reduceBEq, Nat.reduceAdd, Nat.reduceMul, Nat.reduceSub, Nat.reduceDiv, Nat.reduceMod, Nat.reducePow, Nat.reduceLT, Nat.reduceLeDiff, Nat.reduceEqDiff, Int.reduceAdd, Int.reduceSub, Int.reduceNeg, Int.reduceMul, Int.reduceToNat, Int.reducePow, Int.reduceLE, Int.reduceLT, Int.reduceEq, Int.reduceNe, reduceIte, reduceCtorEq, ne_eq, not_true_eq_false, not_false_eq_true, imp_self, implies_true, bls, eq_self]
    exact again (v, r, k, n % k, T3) ⟨hT.trans hr.ex, hvn.ext hr.ex, hr.nm, by dsimp only; rw [← hg, Nat.gcd_comm n k, Nat.gcd_rec k n, Nat.gcd_comm], hlk, by dsimp only; omega⟩ (Nat.mod_lt _ hk) rfl (by dsimp only; simp (disch := first | assumption | omega | (simp only [lens]; omega)) only [eqs, ↓gvd_succ, ↓gvd_zero, ↓and_of, im_of, im_of trivial, vals, lsts, tys, hP, hst, initS, Nat.reduceBEq, Nat.reduceAdd, Nat.reduceMul, Nat.reduceSub, Nat.reduceDiv, Nat.reduceMod, Nat.reducePow, Nat.reduceLT, Nat.reduceLeDiff, Nat.reduceEqDiff, Int.reduceAdd, Int.reduceSub, Int.reduceNeg, Int.reduceMul, Int.reduceToNat, Int.reducePow, Int.reduceLE, Int.reduceLT, Int.reduceEq, Int.reduceNe, reduceIte, reduceCtorEq, ne_eq, not_true_eq_false, not_false_eq_true, imp_self, implies_true, bls, eq_self] <;> rfl)
  · have hk : k = 0 := by
      rcases Nat.eq_zero_or_pos k with h0 | h0
      · exact h0
      · have := limbs_pos_len.2 h0; omega
    subst hk
    rw [Nat.gcd_zero_right] at hg
    subst hg
    simp (disch := first | assumption | omega | (simp only [lens]; omega)) only [eqs, ↓gvd_succ, ↓gvd_zero, ↓and_of, im_of, im_of trivial, vals, lsts, tys, hP, hst, initS, Nat.reduceBEq, Nat.reduceAdd, Nat.reduceMul, Nat.reduceSub, Nat.reduceDiv, Nat.reduceMod, Nat.reducePow, Nat.reduceLT, Nat.reduceLeDiff, Nat.reduceEqDiff, Int.reduceAdd, Int.reduceSub, Int.reduceNeg, Int.reduceMul, Int.reduceToNat, Int.reducePow, Int.reduceLE, Int.reduceLT, Int.reduceEq, Int.reduceNe, reduceIte, reduceCtorEq, ne_eq, not_true_eq_false, not_false_eq_true, imp_self, implies_true, bls, eq_self]
    refine E_call (hP ▸ s_of) ⟨false, u, _, rfl, hun, by omega, fun z T3 hz => ?_⟩
    rw [val_limbs] at hz
    have hz0 := hz
    obtain ⟨z', rfl, hz'⟩ := hz
    have hzl := hz'.nm.leaf
    have f1 := (hC.ext (hT.trans hz'.ex)).get
    have f2 := (hC.ext hT).lt
    have f3 := (hC.ext (hT.trans hz'.ex)).lt
    have hX : X.st1.length ≤ st.length + 2 := by rw [hst]; omega
    simp (disch := first | assumption | omega | (simp only [lens]; omega)) only [eqs, ↓gvd_succ, ↓gvd_zero, ↓and_of, im_of, im_of trivial, vals, lsts, tys, hP, hst, initS, Nat.reduceBEq, Nat.reduceAdd, Nat.reduceMul, Nat.reduceSub, Nat.reduceDiv, Nat.reduceMod, Nat.reducePow, Nat.reduceLT, Nat.reduceLeDiff, Nat.reduceEqDiff, Int.reduceAdd, Int.reduceSub, Int.reduceNeg, Int.reduceMul, Int.reduceToNat, Int.reducePow, Int.reduceLE, Int.reduceLT, Int.reduceEq, Int.reduceNe, reduceIte, reduceCtorEq, ne_eq, not_true_eq_false, not_false_eq_true, imp_self, implies_true, bls, eq_self, hzl, f1]
    exact hK _ _ (hz0.end1 (e0.trans hT) (by omega) f2)
end Go.Proofs.Pv
