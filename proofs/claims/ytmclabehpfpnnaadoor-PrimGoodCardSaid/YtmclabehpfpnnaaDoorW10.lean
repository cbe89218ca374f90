/- The nat functions' walks, tenth part: numbers out of texts. -/
import Derived.Test.YtmclabehpfpnnaaDoorW9
import Derived.Laws.Strings
set_option linter.unusedSimpArgs false
set_option linter.unusedVariables false
namespace Go.Proofs.Pv
open Go Go.RowKit Go.Proofs
set_option maxRecDepth 20000

/-- One letter more. -/
def pstep (b : Nat) (acc : Option Nat) (c : Nat) : Option Nat := match acc, dv c with
  | some v, some d => if d < b then some (v * b + d) else none
  | _, _ => none
/-- A text's number to a base, if it is one: the letters' digits, each below the base. -/
def pnum (b : Nat) (l : List Nat) : Option Nat := l.foldl (pstep b) (some 0)
def parse (b : Int) (s : List Nat) : Option Nat := if b < 2 ∨ 36 < b ∨ s = [] ∨ 1000 < s.length then none else pnum b.toNat s

theorem pstep_none (b : Nat) (l : List Nat) : l.foldl (pstep b) none = none := by
  induction l with
  | nil => rfl
  | cons c l ih => exact ih
theorem pnum_succ {b i : Nat} {l : List Nat} (h : i < l.length) : pnum b (l.take (i + 1)) = pstep b (pnum b (l.take i)) (l.getD i 0) := by
  unfold pnum
  rw [List.take_succ_eq_append_getElem h, List.foldl_append, List.getD_eq_getElem?_getD, List.getElem?_eq_getElem h]
  rfl
theorem pnum_fail {b i : Nat} {l : List Nat} (h : pnum b (l.take i) = none) : pnum b l = none := by
  have := List.take_append_drop i l
  unfold pnum at *
  rw [← this, List.foldl_append, h, pstep_none]

def RParse (F : St → Option Nat → (AV → St → Prop) → Prop) (xs : List AV) (st : St) (K : AV → St → Prop) : Prop := ∃ s b, xs = [.val (.string s), .val (.int .i64 b)] ∧ F st (parse b (sb s)) K
def pres0 (st : St) (p : Option Nat) (K : AV → St → Prop) : Prop := match p with
  | none => ∀ y, K (.tup [.val (.slice none 0 0), .val (.bool false)]) (st ++ y)
  | some v => if v = 0 then K (.tup [.val (.slice none 0 0), .val (.bool true)]) st else ∀ y i, y[i]? = some (some (u32s (limbs v))) → K (.tup [.own (st.length + i) 0 (limbs v).length 1, .val (.bool true)]) (st ++ y)
def pres (st : St) (p : Option Nat) (K : AV → St → Prop) : Prop := match p with
  | none => K (.tup [.val (.slice none 0 0), .val (.bool false)]) st
  | some v => if v = 0 then K (.tup [.val (.slice none 0 0), .val (.bool true)]) st else K (.tup [.own st.length 0 (limbs v).length 1, .val (.bool true)]) (st ++ [some (u32s (limbs v))])

theorem small_step {A V c x b d k : Nat} (h : A + c * 4294967296 ^ k = V * b + d) : A + 4294967296 ^ k * ((c + x * b) % 4294967296) + (c + x * b) / 4294967296 * 4294967296 ^ (k + 1) = (V + 4294967296 ^ k * x) * b + d := by
  have e := congrArg (4294967296 ^ k * ·) (Nat.div_add_mod (c + x * b) 4294967296)
  simp only [Nat.mul_add] at e
  rw [← Nat.mul_assoc] at e
  rw [Nat.pow_succ, Nat.mul_comm (_ / _) _, Nat.add_mul, Nat.mul_assoc _ x b]
  rw [Nat.mul_comm c] at h
  omega

theorem sb_nil {s : ByteArray} : (s.toList == (ByteArray.mk #[]).toList) = decide (sb s = []) := by
  rw [ByteArray.toList_eq, ByteArray.toList_eq]
  cases hs : s.data.toList <;> simp [sb, hs]

theorem s_Parse0 : PSpec Tryd.prog 70 (RParse pres0) := by
  refine fspec_of (fn := Tryd.f70) 2 [.tmp 4, .tmp 5] (by kernel_rfl) rfl rfl (by kernel_rfl) mixed (by rintro _ _ _ ⟨s, b, rfl, _⟩; rfl) ?_
  rintro X _ st K hP hst ⟨s, b, rfl, hK⟩
  refine vc_V ?_
  simp (disch := first | assumption | omega | (simp only [lens]; omega)) only [eqs, ↓gvd_succ, ↓gvd_zero, ↓and_of, im_of, im_of trivial, vals, lsts, tys, hP, hst, initS, Nat.reduceBEq, Nat.reduceAdd, Nat.reduceMul, Nat.reduceSub, Nat.reduceDiv, Nat.reduceMod, Nat.reducePow, Nat.reduceLT, Nat.reduceLeDiff, Nat.reduceEqDiff, Int.reduceAdd, Int.reduceSub, Int.reduceNeg, Int.reduceMul, Int.reduceToNat, Int.reducePow, Int.reduceLE, Int.reduceLT, Int.reduceEq, Int.reduceNe, reduceIte, reduceCtorEq, ne_eq, not_true_eq_false, not_false_eq_true, imp_self, implies_true, bls, eq_self]
  have hbad : (b < 2 ∨ 36 < b ∨ sb s = [] ∨ 1000 < (sb s).length) → K (.tup [.val (.slice none 0 0), .val (.bool false)]) st := fun h => by
    have := hK
    unfold parse at this
    rw [if_pos h] at this
    simpa using this []
  refine G_ndec (fun h => ?_) (fun h => ?_)
  · simp (disch := first | assumption | omega | (simp only [lens]; omega)) only [eqs, ↓gvd_succ, ↓gvd_zero, ↓and_of, im_of, im_of trivial, vals, lsts, tys, hP, hst, initS, Nat.reduceBEq, Nat.reduceAdd, Nat.reduceMul, Nat.reduceSub, Nat.reduceDiv, Nat.reduceMod, Nat.reducePow, Nat.reduceLT, Nat.reduceLeDiff, Nat.reduceEqDiff, Int.reduceAdd, Int.reduceSub, Int.reduceNeg, Int.reduceMul, Int.reduceToNat, Int.reducePow, Int.reduceLE, Int.reduceLT, Int.reduceEq, Int.reduceNe, reduceIte, reduceCtorEq, ne_eq, not_true_eq_false, not_false_eq_true, imp_self, implies_true, bls, eq_self, h]
    refine G_ndec (fun h2 => ?_) (fun h2 => ?_)
    · simp (disch := first | assumption | omega | (simp only [lens]; omega)) only [eqs, ↓gvd_succ, ↓gvd_zero, ↓and_of, im_of, im_of trivial, vals, lsts, tys, hP, hst, initS, Nat.reduceBEq, Nat.reduceAdd, Nat.reduceMul, Nat.reduceSub, Nat.reduceDiv, Nat.reduceMod, Nat.reducePow, Nat.reduceLT, Nat.reduceLeDiff, Nat.reduceEqDiff, Int.reduceAdd, Int.reduceSub, Int.reduceNeg, Int.reduceMul, Int.reduceToNat, Int.reducePow, Int.reduceLE, Int.reduceLT, Int.reduceEq, Int.reduceNe, reduceIte, reduceCtorEq, ne_eq, not_true_eq_false, not_false_eq_true, imp_self, implies_true, bls, eq_self, h, h2, sb_nil]
      refine G_ndec (fun h3 => ?_) (fun h3 => ?_)
      · simp (disch := first | assumption | omega | (simp only [lens]; omega)) only [eqs, ↓gvd_succ, ↓gvd_zero, ↓and_of, im_of, im_of trivial, vals, lsts, tys, hP, hst, initS, Nat.reduceBEq, Nat.reduceAdd, Nat.reduceMul, Nat.reduceSub, Nat.reduceDiv, Nat.reduceMod, Nat.reducePow, Nat.reduceLT, Nat.reduceLeDiff, Nat.reduceEqDiff, Int.reduceAdd, Int.reduceSub, Int.reduceNeg, Int.reduceMul, Int.reduceToNat, Int.reducePow, Int.reduceLE, Int.reduceLT, Int.reduceEq, Int.reduceNe, reduceIte, reduceCtorEq, ne_eq, not_true_eq_false, not_false_eq_true, imp_self, implies_true, bls, eq_self, h, h2, h3, sb_nil]
        refine C_dec (fun h4 => ?_) (fun h4 => ?_)
        · simp (disch := first | assumption | omega | (simp only [lens]; omega)) only [eqs, ↓gvd_succ, ↓gvd_zero, ↓and_of, im_of, im_of trivial, vals, lsts, tys, hP, hst, initS, Nat.reduceBEq, Nat.reduceAdd, Nat.reduceMul, Nat.reduceSub, Nat.reduceDiv, Nat.reduceMod, Nat.reducePow, Nat.reduceLT, Nat.reduceLeDiff, Nat.reduceEqDiff, Int.reduceAdd, Int.reduceSub, Int.reduceNeg, Int.reduceMul, Int.reduceToNat, Int.reducePow, Int.reduceLE, Int.reduceLT, Int.reduceEq, Int.reduceNe, reduceIte, reduceCtorEq, ne_eq, not_true_eq_false, not_false_eq_true, imp_self, implies_true, bls, eq_self]
          exact hbad (by omega)
        · obtain ⟨b, rfl⟩ : ∃ n : Nat, b = (n : Int) := ⟨b.toNat, by omega⟩
          have hpar : parse (b : Int) (sb s) = pnum b (sb s) := by
            unfold parse
            rw [if_neg (by intro h5; rcases h5 with h5 | h5 | h5 | h5 <;> first | omega | exact h3 h5), Int.toNat_natCast]
          rw [hpar] at hK
          clear hbad hpar
          simp (disch := first | assumption | omega | (simp only [lens]; omega)) only [eqs, ↓gvd_succ, ↓gvd_zero, ↓and_of, im_of, im_of trivial, vals, lsts, tys, hP, hst, initS, Nat.reduceBEq, Nat.reduceAdd, Nat.reduceMul, Nat.reduceSub, Nat.reduceDiv, Nat.reduceMod, Nat.reducePow, Nat.reduceLT, Nat.reduceLeDiff, Nat.reduceEqDiff, Int.reduceAdd, Int.reduceSub, Int.reduceNeg, Int.reduceMul, Int.reduceToNat, Int.reducePow, Int.reduceLE, Int.reduceLT, Int.reduceEq, Int.reduceNe, reduceIte, reduceCtorEq, ne_eq, not_true_eq_false, not_false_eq_true, imp_self, implies_true, bls, eq_self]
          refine V_loop (ι := Nat × Option (Nat × St)) (fun e => match e with
              | (i, none) => [(30, .val (.int .i64 (i : Int))), (29, .val (.int .i64 ((sb s).length : Int))), (0, .val (.string s)), (1, .val (.int .i64 (b : Int))), (6, .val (.slice none 0 0))]
              | (i, some (v, g)) => [(30, .val (.int .i64 (i : Int))), (29, .val (.int .i64 ((sb s).length : Int))), (0, .val (.string s)), (1, .val (.int .i64 (b : Int))), (6, .own (st.length + g.length) 0 (limbs v).length 1)])
            (fun e => match e with
              | (_, none) => st
              | (_, some (v, g)) => st ++ (g ++ [some (u32s (limbs v))]))
            (fun e => match e with
              | (i, none) => i ≤ (sb s).length ∧ pnum b ((sb s).take i) = some 0
              | (i, some (v, g)) => i ≤ (sb s).length ∧ pnum b ((sb s).take i) = some v ∧ v ≠ 0 ∧ v < 36 ^ i)
            (fun e => (sb s).length - e.1) (0, none) ⟨by simp, rfl⟩ rfl (by simp (disch := first | assumption | omega | (simp only [lens]; omega)) only [eqs, ↓gvd_succ, ↓gvd_zero, ↓and_of, im_of, im_of trivial, vals, lsts, tys, hP, hst, initS, Nat.reduceBEq, Nat.reduceAdd, Nat.reduceMul, Nat.reduceSub, Nat.reduceDiv, Nat.reduceMod, Nat.reducePow, Nat.reduceLT, Nat.reduceLeDiff, Nat.reduceEqDiff, Int.reduceAdd, Int.reduceSub, Int.reduceNeg, Int.reduceMul, Int.reduceToNat, Int.reducePow, Int.reduceLE, Int.reduceLT, Int.reduceEq, Int.reduceNe, reduceIte, reduceCtorEq, ne_eq, not_true_eq_false, not_false_eq_true, imp_self, implies_true, bls, eq_self] <;> rfl) ?_
          rintro ⟨i, _ | ⟨v, g⟩⟩ hp
          · obtain ⟨hi, hpi⟩ := hp
            dsimp only
            simp (disch := first | assumption | omega | (simp only [lens]; omega)) only [eqs, ↓gvd_succ, ↓gvd_zero, ↓and_of, im_of, im_of trivial, vals, lsts, tys, hP, hst, initS, Nat.reduceBEq, Nat.reduceAdd, Nat.reduceMul, Nat.reduceSub, Nat.reduceDiv, Nat.reduceMod, Nat.reducePow, Nat.reduceLT, Nat.reduceLeDiff, Nat.reduceEqDiff, Int.reduceAdd, Int.reduceSub, Int.reduceNeg, Int.reduceMul, Int.reduceToNat, Int.reducePow, Int.reduceLE, Int.reduceLT, Int.reduceEq, Int.reduceNe, reduceIte, reduceCtorEq, ne_eq, not_true_eq_false, not_false_eq_true, imp_self, implies_true, bls, eq_self]
            refine C_dec (fun h5 => ?_) (fun h5 => ?_)
            · simp (disch := first | assumption | omega | (simp only [lens]; omega)) only [eqs, ↓gvd_succ, ↓gvd_zero, ↓and_of, im_of, im_of trivial, vals, lsts, tys, hP, hst, initS, Nat.reduceBEq, Nat.reduceAdd, Nat.reduceMul, Nat.reduceSub, Nat.reduceDiv, Nat.reduceMod, Nat.reducePow, Nat.reduceLT, Nat.reduceLeDiff, Nat.reduceEqDiff, Int.reduceAdd, Int.reduceSub, Int.reduceNeg, Int.reduceMul, Int.reduceToNat, Int.reducePow, Int.reduceLE, Int.reduceLT, Int.reduceEq, Int.reduceNe, reduceIte, reduceCtorEq, ne_eq, not_true_eq_false, not_false_eq_true, imp_self, implies_true, bls, eq_self]
              have hlt := sb_lt s i
              refine E_call (hP ▸ s_value) ⟨_, rfl, hlt, ?_⟩
              have hstep := pnum_succ (b := b) (l := sb s) (i := i) (by omega)
              rw [hpi] at hstep
              obtain ⟨o, ho⟩ : ∃ o, dv ((sb s).getD i 0) = o := ⟨_, rfl⟩
              rw [ho]
              unfold pstep at hstep
              rw [ho] at hstep
              have hfail : pnum b ((sb s).take (i + 1)) = none → ∀ y, K (.tup [.val (.slice none 0 0), .val (.bool false)]) (st ++ y) := fun h6 => by
                rw [pnum_fail h6] at hK; exact hK
              rcases o with _ | d
              · simp (disch := first | assumption | omega | (simp only [lens]; omega)) only [eqs, ↓gvd_succ, ↓gvd_zero, ↓and_of, im_of, im_of trivial, vals, lsts, tys, hP, hst, initS, Nat.reduceBEq, Nat.reduceAdd, Nat.reduceMul, Nat.reduceSub, Nat.reduceDiv, Nat.reduceMod, Nat.reducePow, Nat.reduceLT, Nat.reduceLeDiff, Nat.reduceEqDiff, Int.reduceAdd, Int.reduceSub, Int.reduceNeg, Int.reduceMul, Int.reduceToNat, Int.reducePow, Int.reduceLE, Int.reduceLT, Int.reduceEq, Int.reduceNe, reduceIte, reduceCtorEq, ne_eq, not_true_eq_false, not_false_eq_true, imp_self, implies_true, bls, eq_self, Option.isSome_none, Option.isSome_some, Option.getD_none, Option.getD_some]
                simpa using hfail hstep []
              · simp (disch := first | assumption | omega | (simp only [lens]; omega)) only [eqs, ↓gvd_succ, ↓gvd_zero, ↓and_of, im_of, im_of trivial, vals, lsts, tys, hP, hst, initS, Nat.reduceBEq, Nat.reduceAdd, Nat.reduceMul, Nat.reduceSub, Nat.reduceDiv, Nat.reduceMod, Nat.reducePow, Nat.reduceLT, Nat.reduceLeDiff, Nat.reduceEqDiff, Int.reduceAdd, Int.reduceSub, Int.reduceNeg, Int.reduceMul, Int.reduceToNat, Int.reducePow, Int.reduceLE, Int.reduceLT, Int.reduceEq, Int.reduceNe, reduceIte, reduceCtorEq, ne_eq, not_true_eq_false, not_false_eq_true, imp_self, implies_true, bls, eq_self, Option.isSome_none, Option.isSome_some, Option.getD_none, Option.getD_some]
                refine C_dec (fun h6 => ?_) (fun h6 => ?_)
                · simp (disch := first | assumption | omega | (simp only [lens]; omega)) only [eqs, ↓gvd_succ, ↓gvd_zero, ↓and_of, im_of, im_of trivial, vals, lsts, tys, hP, hst, initS, Nat.reduceBEq, Nat.reduceAdd, Nat.reduceMul, Nat.reduceSub, Nat.reduceDiv, Nat.reduceMod, Nat.reducePow, Nat.reduceLT, Nat.reduceLeDiff, Nat.reduceEqDiff, Int.reduceAdd, Int.reduceSub, Int.reduceNeg, Int.reduceMul, Int.reduceToNat, Int.reducePow, Int.reduceLE, Int.reduceLT, Int.reduceEq, Int.reduceNe, reduceIte, reduceCtorEq, ne_eq, not_true_eq_false, not_false_eq_true, imp_self, implies_true, bls, eq_self]
                  dsimp only at hstep
                  rw [if_neg (by omega)] at hstep
                  simpa using hfail hstep []
                · dsimp only at hstep
                  rw [if_pos (by omega), Nat.zero_mul, Nat.zero_add] at hstep
                  simp (disch := first | assumption | omega | (simp only [lens]; omega)) only [eqs, ↓gvd_succ, ↓gvd_zero, ↓and_of, im_of, im_of trivial, vals, lsts, tys, hP, hst, initS, Nat.reduceBEq, Nat.reduceAdd, Nat.reduceMul, Nat.reduceSub, Nat.reduceDiv, Nat.reduceMod, Nat.reducePow, Nat.reduceLT, Nat.reduceLeDiff, Nat.reduceEqDiff, Int.reduceAdd, Int.reduceSub, Int.reduceNeg, Int.reduceMul, Int.reduceToNat, Int.reducePow, Int.reduceLE, Int.reduceLT, Int.reduceEq, Int.reduceNe, reduceIte, reduceCtorEq, ne_eq, not_true_eq_false, not_false_eq_true, imp_self, implies_true, bls, eq_self]
                  refine V_loop (ι := Unit) (fun _ => [(52, .val (.int .i64 0)), (51, .val (.int .i64 0)), (50, .val (.slice none 0 0)), (10, .val (.int .u64 (d : Int))), (30, .val (.int .i64 (i : Int))), (29, .val (.int .i64 ((sb s).length : Int))), (0, .val (.string s)), (1, .val (.int .i64 (b : Int))), (6, .val (.slice none 0 0))]) (fun _ => st) (fun _ => True) (fun _ => 0) () trivial rfl (by simp (disch := first | assumption | omega | (simp only [lens]; omega)) only [eqs, ↓gvd_succ, ↓gvd_zero, ↓and_of, im_of, im_of trivial, vals, lsts, tys, hP, hst, initS, Nat.reduceBEq, Nat.reduceAdd, Nat.reduceMul, Nat.reduceSub, Nat.reduceDiv, Nat.reduceMod, Nat.reducePow, Nat.reduceLT, Nat.reduceLeDiff, Nat.reduceEqDiff, Int.reduceAdd, Int.reduceSub, Int.reduceNeg, Int.reduceMul, Int.reduceToNat, Int.reducePow, Int.reduceLE, Int.reduceLT, Int.reduceEq, Int.reduceNe, reduceIte, reduceCtorEq, ne_eq, not_true_eq_false, not_false_eq_true, imp_self, implies_true, bls, eq_self] <;> rfl) ?_
                  rintro _ _
                  simp (disch := first | assumption | omega | (simp only [lens]; omega)) only [eqs, ↓gvd_succ, ↓gvd_zero, ↓and_of, im_of, im_of trivial, vals, lsts, tys, hP, hst, initS, Nat.reduceBEq, Nat.reduceAdd, Nat.reduceMul, Nat.reduceSub, Nat.reduceDiv, Nat.reduceMod, Nat.reducePow, Nat.reduceLT, Nat.reduceLeDiff, Nat.reduceEqDiff, Int.reduceAdd, Int.reduceSub, Int.reduceNeg, Int.reduceMul, Int.reduceToNat, Int.reducePow, Int.reduceLE, Int.reduceLT, Int.reduceEq, Int.reduceNe, reduceIte, reduceCtorEq, ne_eq, not_true_eq_false, not_false_eq_true, imp_self, implies_true, bls, eq_self]
                  refine C_dec (fun h7 => ?_) (fun h7 => ?_)
                  · have hld : limbs d = [d] := by
                      rw [limbs_pos (by omega), show d / 4294967296 = 0 by omega, limbs_zero, Nat.mod_eq_of_lt (by omega)]
                    have hpow : 36 ≤ 36 ^ (i + 1) := by
                      have := Nat.pow_le_pow_right (n := 36) (by omega) (show 1 ≤ i + 1 by omega)
                      simpa using this
                    simp (disch := first | assumption | omega | (simp only [lens]; omega)) only [eqs, ↓gvd_succ, ↓gvd_zero, ↓and_of, im_of, im_of trivial, vals, lsts, tys, hP, hst, initS, Nat.reduceBEq, Nat.reduceAdd, Nat.reduceMul, Nat.reduceSub, Nat.reduceDiv, Nat.reduceMod, Nat.reducePow, Nat.reduceLT, Nat.reduceLeDiff, Nat.reduceEqDiff, Int.reduceAdd, Int.reduceSub, Int.reduceNeg, Int.reduceMul, Int.reduceToNat, Int.reducePow, Int.reduceLE, Int.reduceLT, Int.reduceEq, Int.reduceNe, reduceIte, reduceCtorEq, ne_eq, not_true_eq_false, not_false_eq_true, imp_self, implies_true, bls, eq_self]
                    exact again (i + 1, some (d, [some (AV.val (Value.int IntKind.u32 ↑d) :: u32s (List.drop 1 (List.replicate 1 0)))])) ⟨by omega, hstep, by omega, by omega⟩ (show (sb s).length - (i + 1) < (sb s).length - i by omega) (by simp [hld, u32s]) (by
                      dsimp only
                      rw [hld]
                      simp (disch := first | assumption | omega | (simp only [lens]; omega)) only [eqs, ↓gvd_succ, ↓gvd_zero, ↓and_of, im_of, im_of trivial, vals, lsts, tys, hP, hst, initS, Nat.reduceBEq, Nat.reduceAdd, Nat.reduceMul, Nat.reduceSub, Nat.reduceDiv, Nat.reduceMod, Nat.reducePow, Nat.reduceLT, Nat.reduceLeDiff, Nat.reduceEqDiff, Int.reduceAdd, Int.reduceSub, Int.reduceNeg, Int.reduceMul, Int.reduceToNat, Int.reducePow, Int.reduceLE, Int.reduceLT, Int.reduceEq, Int.reduceNe, reduceIte, reduceCtorEq, ne_eq, not_true_eq_false, not_false_eq_true, imp_self, implies_true, bls, eq_self] <;> rfl)
                  · have hd0 : d = 0 := by omega
                    subst hd0
                    simp (disch := first | assumption | omega | (simp only [lens]; omega)) only [eqs, ↓gvd_succ, ↓gvd_zero, ↓and_of, im_of, im_of trivial, vals, lsts, tys, hP, hst, initS, Nat.reduceBEq, Nat.reduceAdd, Nat.reduceMul, Nat.reduceSub, Nat.reduceDiv, Nat.reduceMod, Nat.reducePow, Nat.reduceLT, Nat.reduceLeDiff, Nat.reduceEqDiff, Int.reduceAdd, Int.reduceSub, Int.reduceNeg, Int.reduceMul, Int.reduceToNat, Int.reducePow, Int.reduceLE, Int.reduceLT, Int.reduceEq, Int.reduceNe, reduceIte, reduceCtorEq, ne_eq, not_true_eq_false, not_false_eq_true, imp_self, implies_true, bls, eq_self]
                    exact again (i + 1, none) ⟨by omega, hstep⟩ (show (sb s).length - (i + 1) < (sb s).length - i by omega) rfl (by simp (disch := first | assumption | omega | (simp only [lens]; omega)) only [eqs, ↓gvd_succ, ↓gvd_zero, ↓and_of, im_of, im_of trivial, vals, lsts, tys, hP, hst, initS, Nat.reduceBEq, Nat.reduceAdd, Nat.reduceMul, Nat.reduceSub, Nat.reduceDiv, Nat.reduceMod, Nat.reducePow, Nat.reduceLT, Nat.reduceLeDiff, Nat.reduceEqDiff, Int.reduceAdd, Int.reduceSub, Int.reduceNeg, Int.reduceMul, Int.reduceToNat, Int.reducePow, Int.reduceLE, Int.reduceLT, Int.reduceEq, Int.reduceNe, reduceIte, reduceCtorEq, ne_eq, not_true_eq_false, not_false_eq_true, imp_self, implies_true, bls, eq_self] <;> rfl)
            · simp (disch := first | assumption | omega | (simp only [lens]; omega)) only [eqs, ↓gvd_succ, ↓gvd_zero, ↓and_of, im_of, im_of trivial, vals, lsts, tys, hP, hst, initS, Nat.reduceBEq, Nat.reduceAdd, Nat.reduceMul, Nat.reduceSub, Nat.reduceDiv, Nat.reduceMod, Nat.reducePow, Nat.reduceLT, Nat.reduceLeDiff, Nat.reduceEqDiff, Int.reduceAdd, Int.reduceSub, Int.reduceNeg, Int.reduceMul, Int.reduceToNat, Int.reducePow, Int.reduceLE, Int.reduceLT, Int.reduceEq, Int.reduceNe, reduceIte, reduceCtorEq, ne_eq, not_true_eq_false, not_false_eq_true, imp_self, implies_true, bls, eq_self]
              rw [List.take_of_length_le (by omega)] at hpi
              rw [hpi] at hK
              simpa [pres0] using hK
          · obtain ⟨hi, hpi, hv0, hv36⟩ := hp
            dsimp only
            simp (disch := first | assumption | omega | (simp only [lens]; omega)) only [eqs, ↓gvd_succ, ↓gvd_zero, ↓and_of, im_of, im_of trivial, vals, lsts, tys, hP, hst, initS, Nat.reduceBEq, Nat.reduceAdd, Nat.reduceMul, Nat.reduceSub, Nat.reduceDiv, Nat.reduceMod, Nat.reducePow, Nat.reduceLT, Nat.reduceLeDiff, Nat.reduceEqDiff, Int.reduceAdd, Int.reduceSub, Int.reduceNeg, Int.reduceMul, Int.reduceToNat, Int.reducePow, Int.reduceLE, Int.reduceLT, Int.reduceEq, Int.reduceNe, reduceIte, reduceCtorEq, ne_eq, not_true_eq_false, not_false_eq_true, imp_self, implies_true, bls, eq_self]
            refine C_dec (fun h5 => ?_) (fun h5 => ?_)
            · simp (disch := first | assumption | omega | (simp only [lens]; omega)) only [eqs, ↓gvd_succ, ↓gvd_zero, ↓and_of, im_of, im_of trivial, vals, lsts, tys, hP, hst, initS, Nat.reduceBEq, Nat.reduceAdd, Nat.reduceMul, Nat.reduceSub, Nat.reduceDiv, Nat.reduceMod, Nat.reducePow, Nat.reduceLT, Nat.reduceLeDiff, Nat.reduceEqDiff, Int.reduceAdd, Int.reduceSub, Int.reduceNeg, Int.reduceMul, Int.reduceToNat, Int.reducePow, Int.reduceLE, Int.reduceLT, Int.reduceEq, Int.reduceNe, reduceIte, reduceCtorEq, ne_eq, not_true_eq_false, not_false_eq_true, imp_self, implies_true, bls, eq_self]
              have hlt := sb_lt s i
              refine E_call (hP ▸ s_value) ⟨_, rfl, hlt, ?_⟩
              have hstep := pnum_succ (b := b) (l := sb s) (i := i) (by omega)
              rw [hpi] at hstep
              obtain ⟨o, ho⟩ : ∃ o, dv ((sb s).getD i 0) = o := ⟨_, rfl⟩
              rw [ho]
              unfold pstep at hstep
              rw [ho] at hstep
              have hfail : pnum b ((sb s).take (i + 1)) = none → ∀ y, K (.tup [.val (.slice none 0 0), .val (.bool false)]) (st ++ y) := fun h6 => by
                rw [pnum_fail h6] at hK; exact hK
              rcases o with _ | d
              · simp (disch := first | assumption | omega | (simp only [lens]; omega)) only [eqs, ↓gvd_succ, ↓gvd_zero, ↓and_of, im_of, im_of trivial, vals, lsts, tys, hP, hst, initS, Nat.reduceBEq, Nat.reduceAdd, Nat.reduceMul, Nat.reduceSub, Nat.reduceDiv, Nat.reduceMod, Nat.reducePow, Nat.reduceLT, Nat.reduceLeDiff, Nat.reduceEqDiff, Int.reduceAdd, Int.reduceSub, Int.reduceNeg, Int.reduceMul, Int.reduceToNat, Int.reducePow, Int.reduceLE, Int.reduceLT, Int.reduceEq, Int.reduceNe, reduceIte, reduceCtorEq, ne_eq, not_true_eq_false, not_false_eq_true, imp_self, implies_true, bls, eq_self, Option.isSome_none, Option.isSome_some, Option.getD_none, Option.getD_some]
                exact hfail hstep _
              · simp (disch := first | assumption | omega | (simp only [lens]; omega)) only [eqs, ↓gvd_succ, ↓gvd_zero, ↓and_of, im_of, im_of trivial, vals, lsts, tys, hP, hst, initS, Nat.reduceBEq, Nat.reduceAdd, Nat.reduceMul, Nat.reduceSub, Nat.reduceDiv, Nat.reduceMod, Nat.reducePow, Nat.reduceLT, Nat.reduceLeDiff, Nat.reduceEqDiff, Int.reduceAdd, Int.reduceSub, Int.reduceNeg, Int.reduceMul, Int.reduceToNat, Int.reducePow, Int.reduceLE, Int.reduceLT, Int.reduceEq, Int.reduceNe, reduceIte, reduceCtorEq, ne_eq, not_true_eq_false, not_false_eq_true, imp_self, implies_true, bls, eq_self, Option.isSome_none, Option.isSome_some, Option.getD_none, Option.getD_some]
                refine C_dec (fun h6 => ?_) (fun h6 => ?_)
                · simp (disch := first | assumption | omega | (simp only [lens]; omega)) only [eqs, ↓gvd_succ, ↓gvd_zero, ↓and_of, im_of, im_of trivial, vals, lsts, tys, hP, hst, initS, Nat.reduceBEq, Nat.reduceAdd, Nat.reduceMul, Nat.reduceSub, Nat.reduceDiv, Nat.reduceMod, Nat.reducePow, Nat.reduceLT, Nat.reduceLeDiff, Nat.reduceEqDiff, Int.reduceAdd, Int.reduceSub, Int.reduceNeg, Int.reduceMul, Int.reduceToNat, Int.reducePow, Int.reduceLE, Int.reduceLT, Int.reduceEq, Int.reduceNe, reduceIte, reduceCtorEq, ne_eq, not_true_eq_false, not_false_eq_true, imp_self, implies_true, bls, eq_self]
                  dsimp only at hstep
                  rw [if_neg (by omega)] at hstep
                  exact hfail hstep _
                · dsimp only at hstep
                  rw [if_pos (by omega)] at hstep
                  have hvl : (limbs v).length ≤ i := limbs_len_le (Nat.lt_of_lt_of_le hv36 (Nat.pow_le_pow_left (by omega) i))
                  simp (disch := first | assumption | omega | (simp only [lens]; omega)) only [eqs, ↓gvd_succ, ↓gvd_zero, ↓and_of, im_of, im_of trivial, vals, lsts, tys, hP, hst, initS, Nat.reduceBEq, Nat.reduceAdd, Nat.reduceMul, Nat.reduceSub, Nat.reduceDiv, Nat.reduceMod, Nat.reducePow, Nat.reduceLT, Nat.reduceLeDiff, Nat.reduceEqDiff, Int.reduceAdd, Int.reduceSub, Int.reduceNeg, Int.reduceMul, Int.reduceToNat, Int.reducePow, Int.reduceLE, Int.reduceLT, Int.reduceEq, Int.reduceNe, reduceIte, reduceCtorEq, ne_eq, not_true_eq_false, not_false_eq_true, imp_self, implies_true, bls, eq_self]
                  refine V_loop (ι := Nat × List Nat × Nat) (fun e => [(52, .val (.int .i64 (e.1 : Int))), (51, .val (.int .i64 ((limbs v).length : Int))), (50, .own (st.length + g.length) 0 (limbs v).length 1), (10, .val (.int .u64 (e.2.2 : Int))), (30, .val (.int .i64 (i : Int))), (29, .val (.int .i64 ((sb s).length : Int))), (0, .val (.string s)), (1, .val (.int .i64 (b : Int))), (6, .own (st.length + g.length) 0 (limbs v).length 1)])
                    (fun e => st ++ (g ++ [some (u32s e.2.1)])) (fun e => e.1 ≤ (limbs v).length ∧ e.2.1.length = (limbs v).length ∧ (∀ z ∈ e.2.1, z < 4294967296) ∧ e.2.2 < 4294967296 ∧ val (e.2.1.take e.1) + e.2.2 * 4294967296 ^ e.1 = val ((limbs v).take e.1) * b + d ∧ ∀ j, e.1 ≤ j → e.2.1.getD j 0 = (limbs v).getD j 0) (fun e => (limbs v).length - e.1)
                    (0, limbs v, d) ⟨by simp, rfl, limbs_lt v, by dsimp only; omega, by simp [val], fun _ _ => rfl⟩ rfl (by simp (disch := first | assumption | omega | (simp only [lens]; omega)) only [eqs, ↓gvd_succ, ↓gvd_zero, ↓and_of, im_of, im_of trivial, vals, lsts, tys, hP, hst, initS, Nat.reduceBEq, Nat.reduceAdd, Nat.reduceMul, Nat.reduceSub, Nat.reduceDiv, Nat.reduceMod, Nat.reducePow, Nat.reduceLT, Nat.reduceLeDiff, Nat.reduceEqDiff, Int.reduceAdd, Int.reduceSub, Int.reduceNeg, Int.reduceMul, Int.reduceToNat, Int.reducePow, Int.reduceLE, Int.reduceLT, Int.reduceEq, Int.reduceNe, reduceIte, reduceCtorEq, ne_eq, not_true_eq_false, not_false_eq_true, imp_self, implies_true, bls, eq_self] <;> rfl) ?_
                  rintro ⟨k, row, c⟩ ⟨hk, hrow, hrl, hc, hinv, hsame⟩
                  dsimp only at hk hrow hrl hc hinv hsame ⊢
                  simp (disch := first | assumption | omega | (simp only [lens]; omega)) only [eqs, ↓gvd_succ, ↓gvd_zero, ↓and_of, im_of, im_of trivial, vals, lsts, tys, hP, hst, initS, Nat.reduceBEq, Nat.reduceAdd, Nat.reduceMul, Nat.reduceSub, Nat.reduceDiv, Nat.reduceMod, Nat.reducePow, Nat.reduceLT, Nat.reduceLeDiff, Nat.reduceEqDiff, Int.reduceAdd, Int.reduceSub, Int.reduceNeg, Int.reduceMul, Int.reduceToNat, Int.reducePow, Int.reduceLE, Int.reduceLT, Int.reduceEq, Int.reduceNe, reduceIte, reduceCtorEq, ne_eq, not_true_eq_false, not_false_eq_true, imp_self, implies_true, bls, eq_self]
                  refine C_dec (fun h7 => ?_) (fun h7 => ?_)
                  · have d1 := getD_lt hrl k
                    have hxb := Nat.mul_le_mul (show row.getD k 0 ≤ 4294967295 by omega) (show b ≤ 36 by omega)
                    have e4 : ((row.getD k 0 * b : Nat) : Int) = (row.getD k 0 : Nat) * (b : Int) := Int.natCast_mul _ _
                    have e := small_step (x := row.getD k 0) hinv
                    rw [hsame k (Nat.le_refl _), ← val_take_succ, ← hsame k (Nat.le_refl _), ← val_take_set (by omega)] at e
                    obtain ⟨p, hp⟩ : ∃ p, row.getD k 0 * b = p := ⟨_, rfl⟩
                    rw [hp] at hxb e4 e
                    have e5 : IntKind.u32.wrap ((c : Int) + (p : Int)) = (((c + p) % 4294967296 : Nat) : Int) := by rw [IntKind.wrap_u32]; omega
                    simp (disch := first | assumption | omega | (simp only [lens]; omega)) only [eqs, ↓gvd_succ, ↓gvd_zero, ↓and_of, im_of, im_of trivial, vals, lsts, tys, hP, hst, initS, Nat.reduceBEq, Nat.reduceAdd, Nat.reduceMul, Nat.reduceSub, Nat.reduceDiv, Nat.reduceMod, Nat.reducePow, Nat.reduceLT, Nat.reduceLeDiff, Nat.reduceEqDiff, Int.reduceAdd, Int.reduceSub, Int.reduceNeg, Int.reduceMul, Int.reduceToNat, Int.reducePow, Int.reduceLE, Int.reduceLT, Int.reduceEq, Int.reduceNe, reduceIte, reduceCtorEq, ne_eq, not_true_eq_false, not_false_eq_true, imp_self, implies_true, bls, eq_self, ← e4, e5]
                    refine again (k + 1, row.set k ((c + p) % 4294967296), (c + p) / 4294967296) ⟨by dsimp only; omega, by simp [hrow], set_lt hrl (Nat.mod_lt _ (by omega)), by dsimp only; omega, e, fun j hj => ?_⟩ (show (limbs v).length - (k + 1) < (limbs v).length - k by omega) rfl (by simp (disch := first | assumption | omega | (simp only [lens]; omega)) only [eqs, ↓gvd_succ, ↓gvd_zero, ↓and_of, im_of, im_of trivial, vals, lsts, tys, hP, hst, initS, Nat.reduceBEq, Nat.reduceAdd, Nat.reduceMul, Nat.reduceSub, Nat.reduceDiv, Nat.reduceMod, Nat.reducePow, Nat.reduceLT, Nat.reduceLeDiff, Nat.reduceEqDiff, Int.reduceAdd, Int.reduceSub, Int.reduceNeg, Int.reduceMul, Int.reduceToNat, Int.reducePow, Int.reduceLE, Int.reduceLT, Int.reduceEq, Int.reduceNe, reduceIte, reduceCtorEq, ne_eq, not_true_eq_false, not_false_eq_true, imp_self, implies_true, bls, eq_self] <;> rfl)
                    dsimp only at hj ⊢
                    rw [getD_set_ne' (by omega)]
                    exact hsame j (by omega)
                  · simp (disch := first | assumption | omega | (simp only [lens]; omega)) only [eqs, ↓gvd_succ, ↓gvd_zero, ↓and_of, im_of, im_of trivial, vals, lsts, tys, hP, hst, initS, Nat.reduceBEq, Nat.reduceAdd, Nat.reduceMul, Nat.reduceSub, Nat.reduceDiv, Nat.reduceMod, Nat.reducePow, Nat.reduceLT, Nat.reduceLeDiff, Nat.reduceEqDiff, Int.reduceAdd, Int.reduceSub, Int.reduceNeg, Int.reduceMul, Int.reduceToNat, Int.reducePow, Int.reduceLE, Int.reduceLT, Int.reduceEq, Int.reduceNe, reduceIte, reduceCtorEq, ne_eq, not_true_eq_false, not_false_eq_true, imp_self, implies_true, bls, eq_self]
                    have hk2 : k = (limbs v).length := by omega
                    subst hk2
                    rw [List.take_of_length_le (by omega), List.take_of_length_le (Nat.le_refl _), val_limbs] at hinv
                    have hvb := Nat.mul_le_mul_left v (show b ≤ 36 by omega)
                    have hvb2 := Nat.mul_le_mul_left v (show 1 ≤ b by omega)
                    have hv37 : v * b + d < 36 ^ (i + 1) := by rw [Nat.pow_succ]; omega
                    refine C_dec (fun h8 => ?_) (fun h8 => ?_)
                    · have hrow2 : limbs (v * b + d) = row ++ [c] := by
                        rw [← hinv]
                        have e : val row + c * 4294967296 ^ (limbs v).length = val (row ++ [c]) := by
                          rw [val_append, hrow]; simp [val, Nat.mul_comm]
                        rw [e]
                        refine limbs_val (fun z hz => ?_) (fun z hz => ?_)
                        · rcases List.mem_append.1 hz with h9 | h9
                          · exact hrl z h9
                          · have : z = c := by simpa using h9
                            omega
                        · have : c = z := by simpa using hz
                          omega
                      have hrt : row.take (limbs v).length = row := List.take_of_length_le (by omega)
                      simp (disch := first | assumption | omega | (simp only [lens]; omega)) only [eqs, ↓gvd_succ, ↓gvd_zero, ↓and_of, im_of, im_of trivial, vals, lsts, tys, hP, hst, initS, Nat.reduceBEq, Nat.reduceAdd, Nat.reduceMul, Nat.reduceSub, Nat.reduceDiv, Nat.reduceMod, Nat.reducePow, Nat.reduceLT, Nat.reduceLeDiff, Nat.reduceEqDiff, Int.reduceAdd, Int.reduceSub, Int.reduceNeg, Int.reduceMul, Int.reduceToNat, Int.reducePow, Int.reduceLE, Int.reduceLT, Int.reduceEq, Int.reduceNe, reduceIte, reduceCtorEq, ne_eq, not_true_eq_false, not_false_eq_true, imp_self, implies_true, bls, eq_self, hrt]
                      exact again (i + 1, some (v * b + d, g ++ [none, some (AV.val (Value.int IntKind.u32 ↑c) :: u32s (List.drop 1 (List.replicate 1 0)))])) ⟨by omega, hstep, by omega, hv37⟩ (show (sb s).length - (i + 1) < (sb s).length - i by omega) (by simp [hrow2, u32s]) (by
                        dsimp only
                        rw [hrow2]
                        simp (disch := first | assumption | omega | (simp only [lens]; omega)) only [eqs, ↓gvd_succ, ↓gvd_zero, ↓and_of, im_of, im_of trivial, vals, lsts, tys, hP, hst, initS, Nat.reduceBEq, Nat.reduceAdd, Nat.reduceMul, Nat.reduceSub, Nat.reduceDiv, Nat.reduceMod, Nat.reducePow, Nat.reduceLT, Nat.reduceLeDiff, Nat.reduceEqDiff, Int.reduceAdd, Int.reduceSub, Int.reduceNeg, Int.reduceMul, Int.reduceToNat, Int.reducePow, Int.reduceLE, Int.reduceLT, Int.reduceEq, Int.reduceNe, reduceIte, reduceCtorEq, ne_eq, not_true_eq_false, not_false_eq_true, imp_self, implies_true, bls, eq_self] <;> simp [hrow])
                    · have hc0 : c = 0 := by omega
                      subst hc0
                      rw [Nat.zero_mul, Nat.add_zero] at hinv
                      have hrow2 : limbs (v * b + d) = row := by
                        have h9 := limbs_cut hrl
                        have h10 := limbs_len_mono (show v ≤ val row by omega)
                        rw [List.take_of_length_le (by omega), hinv] at h9
                        exact h9.symm
                      simp (disch := first | assumption | omega | (simp only [lens]; omega)) only [eqs, ↓gvd_succ, ↓gvd_zero, ↓and_of, im_of, im_of trivial, vals, lsts, tys, hP, hst, initS, Nat.reduceBEq, Nat.reduceAdd, Nat.reduceMul, Nat.reduceSub, Nat.reduceDiv, Nat.reduceMod, Nat.reducePow, Nat.reduceLT, Nat.reduceLeDiff, Nat.reduceEqDiff, Int.reduceAdd, Int.reduceSub, Int.reduceNeg, Int.reduceMul, Int.reduceToNat, Int.reducePow, Int.reduceLE, Int.reduceLT, Int.reduceEq, Int.reduceNe, reduceIte, reduceCtorEq, ne_eq, not_true_eq_false, not_false_eq_true, imp_self, implies_true, bls, eq_self]
                      exact again (i + 1, some (v * b + d, g)) ⟨by omega, hstep, by omega, hv37⟩ (show (sb s).length - (i + 1) < (sb s).length - i by omega) (by simp [hrow2]) (by
                        dsimp only
                        rw [hrow2]
                        simp (disch := first | assumption | omega | (simp only [lens]; omega)) only [eqs, ↓gvd_succ, ↓gvd_zero, ↓and_of, im_of, im_of trivial, vals, lsts, tys, hP, hst, initS, Nat.reduceBEq, Nat.reduceAdd, Nat.reduceMul, Nat.reduceSub, Nat.reduceDiv, Nat.reduceMod, Nat.reducePow, Nat.reduceLT, Nat.reduceLeDiff, Nat.reduceEqDiff, Int.reduceAdd, Int.reduceSub, Int.reduceNeg, Int.reduceMul, Int.reduceToNat, Int.reducePow, Int.reduceLE, Int.reduceLT, Int.reduceEq, Int.reduceNe, reduceIte, reduceCtorEq, ne_eq, not_true_eq_false, not_false_eq_true, imp_self, implies_true, bls, eq_self] <;> simp [hrow])
            · simp (disch := first | assumption | omega | (simp only [lens]; omega)) only [eqs, ↓gvd_succ, ↓gvd_zero, ↓and_of, im_of, im_of trivial, vals, lsts, tys, hP, hst, initS, Nat.reduceBEq, Nat.reduceAdd, Nat.reduceMul, Nat.reduceSub, Nat.reduceDiv, Nat.reduceMod, Nat.reducePow, Nat.reduceLT, Nat.reduceLeDiff, Nat.reduceEqDiff, Int.reduceAdd, Int.reduceSub, Int.reduceNeg, Int.reduceMul, Int.reduceToNat, Int.reducePow, Int.reduceLE, Int.reduceLT, Int.reduceEq, Int.reduceNe, reduceIte, reduceCtorEq, ne_eq, not_true_eq_false, not_false_eq_true, imp_self, implies_true, bls, eq_self]
              rw [List.take_of_length_le (by omega)] at hpi
              rw [hpi] at hK
              simp only [pres0, if_neg hv0] at hK
              exact hK _ _ (by rw [get_app0]; rfl)
      · simp (disch := first | assumption | omega | (simp only [lens]; omega)) only [eqs, ↓gvd_succ, ↓gvd_zero, ↓and_of, im_of, im_of trivial, vals, lsts, tys, hP, hst, initS, Nat.reduceBEq, Nat.reduceAdd, Nat.reduceMul, Nat.reduceSub, Nat.reduceDiv, Nat.reduceMod, Nat.reducePow, Nat.reduceLT, Nat.reduceLeDiff, Nat.reduceEqDiff, Int.reduceAdd, Int.reduceSub, Int.reduceNeg, Int.reduceMul, Int.reduceToNat, Int.reducePow, Int.reduceLE, Int.reduceLT, Int.reduceEq, Int.reduceNe, reduceIte, reduceCtorEq, ne_eq, not_true_eq_false, not_false_eq_true, imp_self, implies_true, bls, eq_self, h, h2, h3, sb_nil]
        exact hbad (by simp [h3])
    · simp (disch := first | assumption | omega | (simp only [lens]; omega)) only [eqs, ↓gvd_succ, ↓gvd_zero, ↓and_of, im_of, im_of trivial, vals, lsts, tys, hP, hst, initS, Nat.reduceBEq, Nat.reduceAdd, Nat.reduceMul, Nat.reduceSub, Nat.reduceDiv, Nat.reduceMod, Nat.reducePow, Nat.reduceLT, Nat.reduceLeDiff, Nat.reduceEqDiff, Int.reduceAdd, Int.reduceSub, Int.reduceNeg, Int.reduceMul, Int.reduceToNat, Int.reducePow, Int.reduceLE, Int.reduceLT, Int.reduceEq, Int.reduceNe, reduceIte, reduceCtorEq, ne_eq, not_true_eq_false, not_false_eq_true, imp_self, implies_true, bls, eq_self, h, h2, sb_nil]
      exact hbad (by omega)
  · simp (disch := first | assumption | omega | (simp only [lens]; omega)) only [eqs, ↓gvd_succ, ↓gvd_zero, ↓and_of, im_of, im_of trivial, vals, lsts, tys, hP, hst, initS, Nat.reduceBEq, Nat.reduceAdd, Nat.reduceMul, Nat.reduceSub, Nat.reduceDiv, Nat.reduceMod, Nat.reducePow, Nat.reduceLT, Nat.reduceLeDiff, Nat.reduceEqDiff, Int.reduceAdd, Int.reduceSub, Int.reduceNeg, Int.reduceMul, Int.reduceToNat, Int.reducePow, Int.reduceLE, Int.reduceLT, Int.reduceEq, Int.reduceNe, reduceIte, reduceCtorEq, ne_eq, not_true_eq_false, not_false_eq_true, imp_self, implies_true, bls, eq_self, h]
    exact hbad (by omega)

theorem s_Parse : PSpec Tryd.prog 70 (RParse pres) := by
  refine tidy s_Parse0 ?_
  rintro xs st K ⟨s, b, rfl, hK⟩
  refine ⟨s, b, rfl, ?_⟩
  cases hp : parse b (sb s) with
  | none =>
    rw [hp] at hK
    intro y
    exact ⟨[], y, [], _, rfl, List.nodup_nil, rfl, by simp, .tup (.cons (.val _) (.cons (.val _) .nil)), by simpa [pres] using hK⟩
  | some v =>
    rw [hp] at hK
    simp only [pres] at hK
    simp only [pres0]
    by_cases hv : v = 0
    · rw [if_pos hv] at hK ⊢
      exact ⟨[], [], [], _, by simp, List.nodup_nil, rfl, by simp, .tup (.cons (.val _) (.cons (.val _) .nil)), by simpa using hK⟩
    · rw [if_neg hv] at hK ⊢
      intro y i hy
      exact ⟨[i], y, [u32s (limbs v)], _, rfl, by simp, by simp [hy], by simpa using u32s_plain, .tup (.cons (.new (i := 0) rfl) (.cons (.val _) .nil)), hK⟩
end Go.Proofs.Pv
