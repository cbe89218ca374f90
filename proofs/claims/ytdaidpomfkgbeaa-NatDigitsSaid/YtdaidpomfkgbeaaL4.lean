/- The laws of numbers from nought on, third part: digits. -/
import Derived.Test.YtdaidpomfkgbeaaL3
set_option linter.unusedSimpArgs false
set_option linter.unusedVariables false
namespace Go.Proofs.Pv
open Go Go.RowKit Go.Proofs
set_option maxRecDepth 20000

theorem tmod35 {m : Nat} : (m : Int).tmod 35 = ((m % 35 : Nat) : Int) := rfl
theorem tmod9 {m : Nat} : (m : Int).tmod 9 = ((m % 9 : Nat) : Int) := rfl
theorem tmod2 {m : Nat} : (m : Int).tmod 2 = ((m % 2 : Nat) : Int) := rfl

theorem dch_letter {d : Nat} (h : d < 36) : (48 ≤ dch d ∧ dch d ≤ 57) ∨ (97 ≤ dch d ∧ dch d ≤ 122) := by unfold dch; split <;> omega
theorem txt_letter {b n : Nat} (hb : 2 ≤ b) (hb2 : b ≤ 36) : ∀ c ∈ txt b n, (48 ≤ c ∧ c ≤ 57) ∨ (97 ≤ c ∧ c ≤ 122) := by
  unfold txt
  split
  · simp
  · intro c hc
    obtain ⟨d, hd, rfl⟩ := List.mem_map.1 (List.mem_reverse.1 hc)
    exact dch_letter (by have := digs_lt hb n d hd; omega)
theorem dv_upper {c : Nat} (h : 97 ≤ c ∧ c ≤ 122) : dv (c - 32) = dv c := by
  rw [dv_eq (by omega), dv_eq (by omega), if_neg (by omega), if_neg (by omega), if_pos (by omega), if_neg (by omega), if_pos (by omega)]
  congr 1 <;> omega
theorem take_map_dv {s u : List Nat} {i c : Nat} (hi : i < s.length) (hu : u.map dv = (s.take i).map dv) (hc : dv c = dv (s.getD i 0)) : (u ++ [c]).map dv = (s.take (i + 1)).map dv := by
  rw [List.take_succ_eq_append_getElem hi, List.map_append, List.map_append, hu]
  simp only [List.map_cons, List.map_nil]
  rw [hc, List.getD_eq_getElem?_getD, List.getElem?_eq_getElem hi]
  rfl
theorem parse_txt {b n : Nat} {l : List Nat} (hb : 2 ≤ b) (hb2 : b ≤ 36) (h : pnum b l = some n) (hl : l.length ≤ 1000) (h0 : l ≠ []) : parse (b : Int) l = some n := by
  unfold parse
  rw [if_neg (by rintro (h | h | h | h) <;> first | omega | exact h0 h), Int.toNat_natCast]
  exact h

def RlDigits (xs : List AV) (st : St) (K : AV → St → Prop) : Prop := ∃ x l n k, xs = [x, .val (.int .u64 ((n : Nat) : Int)), .val (.int .u64 ((k : Nat) : Int))] ∧ Nm st x l ∧ n < 18446744073709551616 ∧ k < 18446744073709551616 ∧ anyw st (.bool true) K
theorem s_NatDigits : PSpec Try.prog 5 RlDigits := by
  refine fspec_of (fn := Try.f5) 3 [.tmp 6] (by kernel_rfl) rfl rfl (by kernel_rfl) mixed (by rintro _ _ _ ⟨x, l, n, k, rfl, _⟩; rfl) ?_
  rintro X _ st K hP hst ⟨x, l, n, k, rfl, hx, hn, hk, hK⟩
  refine vc_V ?_
  have hxl := hx.leaf
  simp (disch := first | assumption | omega | (simp only [lens]; omega)) only [eqs, ↓gvd_succ, ↓gvd_zero, ↓and_of, im_of, im_of trivial, vals, lsts, tys, hP, hst, initS, Nat.reduceBEq, Nat.reduceAdd, Nat.reduceMul, Nat.reduceSub, Nat.reduceDiv, Nat.reduceMod, Nat.reducePow, Nat.reduceLT, Nat.reduceLeDiff, Nat.reduceEqDiff, Int.reduceAdd, Int.reduceSub, Int.reduceNeg, Int.reduceMul, Int.reduceToNat, Int.reducePow, Int.reduceLE, Int.reduceLT, Int.reduceEq, Int.reduceNe, reduceIte, reduceCtorEq, ne_eq, not_true_eq_false, not_false_eq_true, true_and, and_true, and_self, true_implies, imp_self, implies_true, decide_true, decide_false, Bool.not_true, Bool.not_false, Bool.and_true, Bool.and_false, Bool.true_and, Bool.false_and, Bool.and_self, decide_eq_true_eq, eq_self, tmod35]
  obtain ⟨b, hb⟩ : ∃ b, n % 35 + 2 = b := ⟨_, rfl⟩
  have hb2 : 2 ≤ b := by omega
  have hb36 : b ≤ 36 := by omega
  have hbb : (2 : Int) + ((n % 35 : Nat) : Int) = (b : Int) := by omega
  rw [hbb]
  simp (disch := first | assumption | omega | (simp only [lens]; omega)) only [eqs, ↓gvd_succ, ↓gvd_zero, ↓and_of, im_of, im_of trivial, vals, lsts, tys, hP, hst, initS, Nat.reduceBEq, Nat.reduceAdd, Nat.reduceMul, Nat.reduceSub, Nat.reduceDiv, Nat.reduceMod, Nat.reducePow, Nat.reduceLT, Nat.reduceLeDiff, Nat.reduceEqDiff, Int.reduceAdd, Int.reduceSub, Int.reduceNeg, Int.reduceMul, Int.reduceToNat, Int.reducePow, Int.reduceLE, Int.reduceLT, Int.reduceEq, Int.reduceNe, reduceIte, reduceCtorEq, ne_eq, not_true_eq_false, not_false_eq_true, true_and, and_true, and_self, true_implies, imp_self, implies_true, decide_true, decide_false, Bool.not_true, Bool.not_false, Bool.and_true, Bool.and_false, Bool.true_and, Bool.false_and, Bool.and_self, decide_eq_true_eq, eq_self, zrow1s]
  refine E_call (hP ▸ s_lsmall1) ⟨_, x, l, rfl, by rw [get_app0]; rfl, hx.app _, ?_⟩
  obtain ⟨T, hTe⟩ : ∃ T, st ++ [some [x]] = T := ⟨_, rfl⟩
  have hT : Ext st T := ⟨_, hTe.symm⟩
  rw [hTe]
  clear hTe
  have h1 := (hx.ext hT).sl
  simp (disch := first | assumption | omega | (simp only [lens]; omega)) only [eqs, ↓gvd_succ, ↓gvd_zero, ↓and_of, im_of, im_of trivial, vals, lsts, tys, hP, hst, initS, Nat.reduceBEq, Nat.reduceAdd, Nat.reduceMul, Nat.reduceSub, Nat.reduceDiv, Nat.reduceMod, Nat.reducePow, Nat.reduceLT, Nat.reduceLeDiff, Nat.reduceEqDiff, Int.reduceAdd, Int.reduceSub, Int.reduceNeg, Int.reduceMul, Int.reduceToNat, Int.reducePow, Int.reduceLE, Int.reduceLT, Int.reduceEq, Int.reduceNe, reduceIte, reduceCtorEq, ne_eq, not_true_eq_false, not_false_eq_true, true_and, and_true, and_self, true_implies, imp_self, implies_true, decide_true, decide_false, Bool.not_true, Bool.not_false, Bool.and_true, Bool.and_false, Bool.true_and, Bool.false_and, Bool.and_self, decide_eq_true_eq, eq_self]
  refine G_ndec (fun h => ?_) (fun h => ?_)
  · have h := Classical.not_not.1 h
    simp (disch := first | assumption | omega | (simp only [lens]; omega)) only [eqs, ↓gvd_succ, ↓gvd_zero, ↓and_of, im_of, im_of trivial, vals, lsts, tys, hP, hst, initS, Nat.reduceBEq, Nat.reduceAdd, Nat.reduceMul, Nat.reduceSub, Nat.reduceDiv, Nat.reduceMod, Nat.reducePow, Nat.reduceLT, Nat.reduceLeDiff, Nat.reduceEqDiff, Int.reduceAdd, Int.reduceSub, Int.reduceNeg, Int.reduceMul, Int.reduceToNat, Int.reducePow, Int.reduceLE, Int.reduceLT, Int.reduceEq, Int.reduceNe, reduceIte, reduceCtorEq, ne_eq, not_true_eq_false, not_false_eq_true, true_and, and_true, and_self, true_implies, imp_self, implies_true, decide_true, decide_false, Bool.not_true, Bool.not_false, Bool.and_true, Bool.and_false, Bool.true_and, Bool.false_and, Bool.and_self, decide_eq_true_eq, eq_self, h, h1]
    refine C_dec (fun h2 => ?_) (fun h2 => ?_)
    · simp (disch := first | assumption | omega | (simp only [lens]; omega)) only [eqs, ↓gvd_succ, ↓gvd_zero, ↓and_of, im_of, im_of trivial, vals, lsts, tys, hP, hst, initS, Nat.reduceBEq, Nat.reduceAdd, Nat.reduceMul, Nat.reduceSub, Nat.reduceDiv, Nat.reduceMod, Nat.reducePow, Nat.reduceLT, Nat.reduceLeDiff, Nat.reduceEqDiff, Int.reduceAdd, Int.reduceSub, Int.reduceNeg, Int.reduceMul, Int.reduceToNat, Int.reducePow, Int.reduceLE, Int.reduceLT, Int.reduceEq, Int.reduceNe, reduceIte, reduceCtorEq, ne_eq, not_true_eq_false, not_false_eq_true, true_and, and_true, and_self, true_implies, imp_self, implies_true, decide_true, decide_false, Bool.not_true, Bool.not_false, Bool.and_true, Bool.and_false, Bool.true_and, Bool.false_and, Bool.and_self, decide_eq_true_eq, eq_self]
      refine E_call (hP ▸ s_llives) ⟨rfl, fun TT hTT => ?_⟩
      simp (disch := first | assumption | omega | (simp only [lens]; omega)) only [eqs, ↓gvd_succ, ↓gvd_zero, ↓and_of, im_of, im_of trivial, vals, lsts, tys, hP, hst, initS, Nat.reduceBEq, Nat.reduceAdd, Nat.reduceMul, Nat.reduceSub, Nat.reduceDiv, Nat.reduceMod, Nat.reducePow, Nat.reduceLT, Nat.reduceLeDiff, Nat.reduceEqDiff, Int.reduceAdd, Int.reduceSub, Int.reduceNeg, Int.reduceMul, Int.reduceToNat, Int.reducePow, Int.reduceLE, Int.reduceLT, Int.reduceEq, Int.reduceNe, reduceIte, reduceCtorEq, ne_eq, not_true_eq_false, not_false_eq_true, true_and, and_true, and_self, true_implies, imp_self, implies_true, decide_true, decide_false, Bool.not_true, Bool.not_false, Bool.and_true, Bool.and_false, Bool.true_and, Bool.false_and, Bool.and_self, decide_eq_true_eq, eq_self]
      exact hK _ (hT.trans hTT)
    · have b0 := limbs_len hx.lt
      have hbl := blen_len hx.lt
      have htl := txt_len (n := val l) hb2
      have hne := txt_ne (n := val l) hb2
      have hlt := txt_lt (n := val l) hb2 hb36
      have hlet := txt_letter (n := val l) hb2 hb36
      have hpn := pnum_txt hb2 hb36 (val l)
      simp (disch := first | assumption | omega | (simp only [lens]; omega)) only [eqs, ↓gvd_succ, ↓gvd_zero, ↓and_of, im_of, im_of trivial, vals, lsts, tys, hP, hst, initS, Nat.reduceBEq, Nat.reduceAdd, Nat.reduceMul, Nat.reduceSub, Nat.reduceDiv, Nat.reduceMod, Nat.reducePow, Nat.reduceLT, Nat.reduceLeDiff, Nat.reduceEqDiff, Int.reduceAdd, Int.reduceSub, Int.reduceNeg, Int.reduceMul, Int.reduceToNat, Int.reducePow, Int.reduceLE, Int.reduceLT, Int.reduceEq, Int.reduceNe, reduceIte, reduceCtorEq, ne_eq, not_true_eq_false, not_false_eq_true, true_and, and_true, and_self, true_implies, imp_self, implies_true, decide_true, decide_false, Bool.not_true, Bool.not_false, Bool.and_true, Bool.and_false, Bool.true_and, Bool.false_and, Bool.and_self, decide_eq_true_eq, eq_self]
      refine E_call (hP ▸ s_Text) ⟨x, l, b, rfl, hx.ext hT, by omega, ?_⟩
      rw [if_neg (by omega), Int.toNat_natCast]
      generalize txt b (val l) = s at *
      have hsb := sb_bstr hlt
      obtain ⟨N, hN⟩ : ∃ N, k % 9 = N := ⟨_, rfl⟩
      have hN9 : N < 9 := by omega
      simp (disch := first | assumption | omega | (simp only [lens]; omega)) only [eqs, ↓gvd_succ, ↓gvd_zero, ↓and_of, im_of, im_of trivial, vals, lsts, tys, hP, hst, initS, Nat.reduceBEq, Nat.reduceAdd, Nat.reduceMul, Nat.reduceSub, Nat.reduceDiv, Nat.reduceMod, Nat.reducePow, Nat.reduceLT, Nat.reduceLeDiff, Nat.reduceEqDiff, Int.reduceAdd, Int.reduceSub, Int.reduceNeg, Int.reduceMul, Int.reduceToNat, Int.reducePow, Int.reduceLE, Int.reduceLT, Int.reduceEq, Int.reduceNe, reduceIte, reduceCtorEq, ne_eq, not_true_eq_false, not_false_eq_true, true_and, and_true, and_self, true_implies, imp_self, implies_true, decide_true, decide_false, Bool.not_true, Bool.not_false, Bool.and_true, Bool.and_false, Bool.true_and, Bool.false_and, Bool.and_self, decide_eq_true_eq, eq_self]
      refine V_loop (ι := Nat) (fun j => [(10, .val (.int .i64 (j : Int))), (9, .val (.string (bstr (List.replicate j 48)))), (8, .val (.string (bstr s))), (7, .val (.int .i64 (b : Int))), (2, .val (.int .u64 (k : Int))), (0, x)]) (fun _ => T) (fun j => j ≤ N) (fun j => N - j) 0 (by omega) rfl (by simp (disch := first | assumption | omega | (simp only [lens]; omega)) only [eqs, ↓gvd_succ, ↓gvd_zero, ↓and_of, im_of, im_of trivial, vals, lsts, tys, hP, hst, initS, Nat.reduceBEq, Nat.reduceAdd, Nat.reduceMul, Nat.reduceSub, Nat.reduceDiv, Nat.reduceMod, Nat.reducePow, Nat.reduceLT, Nat.reduceLeDiff, Nat.reduceEqDiff, Int.reduceAdd, Int.reduceSub, Int.reduceNeg, Int.reduceMul, Int.reduceToNat, Int.reducePow, Int.reduceLE, Int.reduceLT, Int.reduceEq, Int.reduceNe, reduceIte, reduceCtorEq, ne_eq, not_true_eq_false, not_false_eq_true, true_and, and_true, and_self, true_implies, imp_self, implies_true, decide_true, decide_false, Bool.not_true, Bool.not_false, Bool.and_true, Bool.and_false, Bool.true_and, Bool.false_and, Bool.and_self, decide_eq_true_eq, eq_self, List.replicate_zero, bstr_nil] <;> rfl) ?_
      intro j hj
      simp (disch := first | assumption | omega | (simp only [lens]; omega)) only [eqs, ↓gvd_succ, ↓gvd_zero, ↓and_of, im_of, im_of trivial, vals, lsts, tys, hP, hst, initS, Nat.reduceBEq, Nat.reduceAdd, Nat.reduceMul, Nat.reduceSub, Nat.reduceDiv, Nat.reduceMod, Nat.reducePow, Nat.reduceLT, Nat.reduceLeDiff, Nat.reduceEqDiff, Int.reduceAdd, Int.reduceSub, Int.reduceNeg, Int.reduceMul, Int.reduceToNat, Int.reducePow, Int.reduceLE, Int.reduceLT, Int.reduceEq, Int.reduceNe, reduceIte, reduceCtorEq, ne_eq, not_true_eq_false, not_false_eq_true, true_and, and_true, and_self, true_implies, imp_self, implies_true, decide_true, decide_false, Bool.not_true, Bool.not_false, Bool.and_true, Bool.and_false, Bool.true_and, Bool.false_and, Bool.and_self, decide_eq_true_eq, eq_self, tmod9, hN]
      refine C_dec (fun h3 => ?_) (fun h3 => ?_)
      · have e1 : (bstr (List.replicate j 48) ++ (⟨#[48]⟩ : ByteArray)) = bstr (List.replicate (j + 1) 48) := by
          rw [show (⟨#[48]⟩ : ByteArray) = bstr [48] from rfl, bstr_append, List.replicate_succ']
        have e2 : (bstr (List.replicate j 48)).size + (⟨#[48]⟩ : ByteArray).size ≤ 9223372036854775807 := by
          rw [bstr_size, List.length_replicate, show (⟨#[48]⟩ : ByteArray).size = 1 from rfl]; omega
        simp (disch := first | assumption | omega | (simp only [lens]; omega)) only [eqs, ↓gvd_succ, ↓gvd_zero, ↓and_of, im_of, im_of trivial, vals, lsts, tys, hP, hst, initS, Nat.reduceBEq, Nat.reduceAdd, Nat.reduceMul, Nat.reduceSub, Nat.reduceDiv, Nat.reduceMod, Nat.reducePow, Nat.reduceLT, Nat.reduceLeDiff, Nat.reduceEqDiff, Int.reduceAdd, Int.reduceSub, Int.reduceNeg, Int.reduceMul, Int.reduceToNat, Int.reducePow, Int.reduceLE, Int.reduceLT, Int.reduceEq, Int.reduceNe, reduceIte, reduceCtorEq, ne_eq, not_true_eq_false, not_false_eq_true, true_and, and_true, and_self, true_implies, imp_self, implies_true, decide_true, decide_false, Bool.not_true, Bool.not_false, Bool.and_true, Bool.and_false, Bool.true_and, Bool.false_and, Bool.and_self, decide_eq_true_eq, eq_self, e1, e2]
        exact again (j + 1) (by omega) (show N - (j + 1) < N - j by omega) rfl (by simp (disch := first | assumption | omega | (simp only [lens]; omega)) only [eqs, ↓gvd_succ, ↓gvd_zero, ↓and_of, im_of, im_of trivial, vals, lsts, tys, hP, hst, initS, Nat.reduceBEq, Nat.reduceAdd, Nat.reduceMul, Nat.reduceSub, Nat.reduceDiv, Nat.reduceMod, Nat.reducePow, Nat.reduceLT, Nat.reduceLeDiff, Nat.reduceEqDiff, Int.reduceAdd, Int.reduceSub, Int.reduceNeg, Int.reduceMul, Int.reduceToNat, Int.reducePow, Int.reduceLE, Int.reduceLT, Int.reduceEq, Int.reduceNe, reduceIte, reduceCtorEq, ne_eq, not_true_eq_false, not_false_eq_true, true_and, and_true, and_self, true_implies, imp_self, implies_true, decide_true, decide_false, Bool.not_true, Bool.not_false, Bool.and_true, Bool.and_false, Bool.true_and, Bool.false_and, Bool.and_self, decide_eq_true_eq, eq_self] <;> rfl)
      · have hjN : j = N := by omega
        subst hjN
        simp (disch := first | assumption | omega | (simp only [lens]; omega)) only [eqs, ↓gvd_succ, ↓gvd_zero, ↓and_of, im_of, im_of trivial, vals, lsts, tys, hP, hst, initS, Nat.reduceBEq, Nat.reduceAdd, Nat.reduceMul, Nat.reduceSub, Nat.reduceDiv, Nat.reduceMod, Nat.reducePow, Nat.reduceLT, Nat.reduceLeDiff, Nat.reduceEqDiff, Int.reduceAdd, Int.reduceSub, Int.reduceNeg, Int.reduceMul, Int.reduceToNat, Int.reducePow, Int.reduceLE, Int.reduceLT, Int.reduceEq, Int.reduceNe, reduceIte, reduceCtorEq, ne_eq, not_true_eq_false, not_false_eq_true, true_and, and_true, and_self, true_implies, imp_self, implies_true, decide_true, decide_false, Bool.not_true, Bool.not_false, Bool.and_true, Bool.and_false, Bool.true_and, Bool.false_and, Bool.and_self, decide_eq_true_eq, eq_self]
        refine V_loop (ι := Nat × List Nat × St) (fun e => [(11, .val (.int .i64 (e.1 : Int))), (9, .val (.string (bstr (List.replicate j 48 ++ e.2.1)))), (8, .val (.string (bstr s))), (7, .val (.int .i64 (b : Int))), (0, x)]) (fun e => e.2.2)
          (fun e => e.1 ≤ s.length ∧ e.2.1.length = e.1 ∧ (∀ c ∈ e.2.1, c < 256) ∧ e.2.1.map dv = (s.take e.1).map dv ∧ Ext T e.2.2) (fun e => s.length - e.1) (0, [], T) ⟨by simp, by simp, by simp, by simp, .refl⟩ rfl (by simp (disch := first | assumption | omega | (simp only [lens]; omega)) only [eqs, ↓gvd_succ, ↓gvd_zero, ↓and_of, im_of, im_of trivial, vals, lsts, tys, hP, hst, initS, Nat.reduceBEq, Nat.reduceAdd, Nat.reduceMul, Nat.reduceSub, Nat.reduceDiv, Nat.reduceMod, Nat.reducePow, Nat.reduceLT, Nat.reduceLeDiff, Nat.reduceEqDiff, Int.reduceAdd, Int.reduceSub, Int.reduceNeg, Int.reduceMul, Int.reduceToNat, Int.reducePow, Int.reduceLE, Int.reduceLT, Int.reduceEq, Int.reduceNe, reduceIte, reduceCtorEq, ne_eq, not_true_eq_false, not_false_eq_true, true_and, and_true, and_self, true_implies, imp_self, implies_true, decide_true, decide_false, Bool.not_true, Bool.not_false, Bool.and_true, Bool.and_false, Bool.true_and, Bool.false_and, Bool.and_self, decide_eq_true_eq, eq_self] <;> rfl) ?_
        rintro ⟨i, u, T2⟩ ⟨hi, hu, hul, hud, hT2⟩
        dsimp only at hi hu hul hud hT2 ⊢
        simp (disch := first | assumption | omega | (simp only [lens]; omega)) only [eqs, ↓gvd_succ, ↓gvd_zero, ↓and_of, im_of, im_of trivial, vals, lsts, tys, hP, hst, initS, Nat.reduceBEq, Nat.reduceAdd, Nat.reduceMul, Nat.reduceSub, Nat.reduceDiv, Nat.reduceMod, Nat.reducePow, Nat.reduceLT, Nat.reduceLeDiff, Nat.reduceEqDiff, Int.reduceAdd, Int.reduceSub, Int.reduceNeg, Int.reduceMul, Int.reduceToNat, Int.reducePow, Int.reduceLE, Int.reduceLT, Int.reduceEq, Int.reduceNe, reduceIte, reduceCtorEq, ne_eq, not_true_eq_false, not_false_eq_true, true_and, and_true, and_self, true_implies, imp_self, implies_true, decide_true, decide_false, Bool.not_true, Bool.not_false, Bool.and_true, Bool.and_false, Bool.true_and, Bool.false_and, Bool.and_self, decide_eq_true_eq, eq_self, hsb]
        refine C_dec (fun h4 => ?_) (fun h4 => ?_)
        · have hci : s.getD i 0 ∈ s := by
            rw [List.getD_eq_getElem?_getD, List.getElem?_eq_getElem (by omega)]
            exact List.getElem_mem _
          have hc1 := hlet _ hci
          have hstep := fun c (hc : dv c = dv (s.getD i 0)) => take_map_dv (c := c) (show i < s.length by omega) hud hc
          obtain ⟨c, hc⟩ : ∃ c, s.getD i 0 = c := ⟨_, rfl⟩
          rw [hc] at hc1 hstep
          simp (disch := first | assumption | omega | (simp only [lens]; omega)) only [eqs, ↓gvd_succ, ↓gvd_zero, ↓and_of, im_of, im_of trivial, vals, lsts, tys, hP, hst, initS, Nat.reduceBEq, Nat.reduceAdd, Nat.reduceMul, Nat.reduceSub, Nat.reduceDiv, Nat.reduceMod, Nat.reducePow, Nat.reduceLT, Nat.reduceLeDiff, Nat.reduceEqDiff, Int.reduceAdd, Int.reduceSub, Int.reduceNeg, Int.reduceMul, Int.reduceToNat, Int.reducePow, Int.reduceLE, Int.reduceLT, Int.reduceEq, Int.reduceNe, reduceIte, reduceCtorEq, ne_eq, not_true_eq_false, not_false_eq_true, true_and, and_true, and_self, true_implies, imp_self, implies_true, decide_true, decide_false, Bool.not_true, Bool.not_false, Bool.and_true, Bool.and_false, Bool.true_and, Bool.false_and, Bool.and_self, decide_eq_true_eq, eq_self, hsb, hc]
          have fin : ∀ (c' : Nat) (i' : Int), i' = (c' : Int) → dv c' = dv c → c' < 256 → ∀ sl, Sl.get sl 9 = .val (.string (bstr (List.replicate j 48 ++ u))) → True := fun _ _ _ _ _ _ _ => trivial
          clear fin
          refine G_dec (fun h5 => ?a) (fun h5 => ?b)
          case' a =>
            simp (disch := first | assumption | omega | (simp only [lens]; omega)) only [eqs, ↓gvd_succ, ↓gvd_zero, ↓and_of, im_of, im_of trivial, vals, lsts, tys, hP, hst, initS, Nat.reduceBEq, Nat.reduceAdd, Nat.reduceMul, Nat.reduceSub, Nat.reduceDiv, Nat.reduceMod, Nat.reducePow, Nat.reduceLT, Nat.reduceLeDiff, Nat.reduceEqDiff, Int.reduceAdd, Int.reduceSub, Int.reduceNeg, Int.reduceMul, Int.reduceToNat, Int.reducePow, Int.reduceLE, Int.reduceLT, Int.reduceEq, Int.reduceNe, reduceIte, reduceCtorEq, ne_eq, not_true_eq_false, not_false_eq_true, true_and, and_true, and_self, true_implies, imp_self, implies_true, decide_true, decide_false, Bool.not_true, Bool.not_false, Bool.and_true, Bool.and_false, Bool.true_and, Bool.false_and, Bool.and_self, decide_eq_true_eq, eq_self, h5, tmod2]
            refine C_dec (fun h6 => ?a1) (fun h6 => ?a2)
            case' a1 =>
              obtain ⟨c', hc', hdv, hcl⟩ : ∃ c' : Nat, (c : Int) - 32 = (c' : Int) ∧ dv c' = dv c ∧ c' < 256 := ⟨c - 32, by omega, dv_upper (by omega), by omega⟩
            case' a2 =>
              obtain ⟨c', hc', hdv, hcl⟩ : ∃ c' : Nat, (c : Int) = (c' : Int) ∧ dv c' = dv c ∧ c' < 256 := ⟨c, rfl, rfl, by omega⟩
          case' b =>
            obtain ⟨c', hc', hdv, hcl⟩ : ∃ c' : Nat, (c : Int) = (c' : Int) ∧ dv c' = dv c ∧ c' < 256 := ⟨c, rfl, rfl, by omega⟩
          all_goals
            have e2 : (bstr (List.replicate j 48 ++ u)).size + (bstr [c']).size ≤ 9223372036854775807 := by
              rw [bstr_size, bstr_size]; simp; omega
            simp (disch := first | assumption | omega | (simp only [lens]; omega)) only [eqs, ↓gvd_succ, ↓gvd_zero, ↓and_of, im_of, im_of trivial, vals, lsts, tys, hP, hst, initS, Nat.reduceBEq, Nat.reduceAdd, Nat.reduceMul, Nat.reduceSub, Nat.reduceDiv, Nat.reduceMod, Nat.reducePow, Nat.reduceLT, Nat.reduceLeDiff, Nat.reduceEqDiff, Int.reduceAdd, Int.reduceSub, Int.reduceNeg, Int.reduceMul, Int.reduceToNat, Int.reducePow, Int.reduceLE, Int.reduceLT, Int.reduceEq, Int.reduceNe, reduceIte, reduceCtorEq, ne_eq, not_true_eq_false, not_false_eq_true, true_and, and_true, and_self, true_implies, imp_self, implies_true, decide_true, decide_false, Bool.not_true, Bool.not_false, Bool.and_true, Bool.and_false, Bool.true_and, Bool.false_and, Bool.and_self, decide_eq_true_eq, eq_self, h5]
            refine F_conv1 (hP ▸ ty_u8) (by omega) hcl ?_
            simp (disch := first | assumption | omega | (simp only [lens]; omega)) only [eqs, ↓gvd_succ, ↓gvd_zero, ↓and_of, im_of, im_of trivial, vals, lsts, tys, hP, hst, initS, Nat.reduceBEq, Nat.reduceAdd, Nat.reduceMul, Nat.reduceSub, Nat.reduceDiv, Nat.reduceMod, Nat.reducePow, Nat.reduceLT, Nat.reduceLeDiff, Nat.reduceEqDiff, Int.reduceAdd, Int.reduceSub, Int.reduceNeg, Int.reduceMul, Int.reduceToNat, Int.reducePow, Int.reduceLE, Int.reduceLT, Int.reduceEq, Int.reduceNe, reduceIte, reduceCtorEq, ne_eq, not_true_eq_false, not_false_eq_true, true_and, and_true, and_self, true_implies, imp_self, implies_true, decide_true, decide_false, Bool.not_true, Bool.not_false, Bool.and_true, Bool.and_false, Bool.true_and, Bool.false_and, Bool.and_self, decide_eq_true_eq, eq_self, bstr_append, e2]
            refine again (i + 1, u ++ [c'], _) ⟨by dsimp only; omega, by simp; omega, app_lt hul hcl, hstep _ hdv, hT2.app _⟩ (by dsimp only; omega) rfl (by
              dsimp only
              simp (disch := first | assumption | omega | (simp only [lens]; omega)) only [eqs, ↓gvd_succ, ↓gvd_zero, ↓and_of, im_of, im_of trivial, vals, lsts, tys, hP, hst, initS, Nat.reduceBEq, Nat.reduceAdd, Nat.reduceMul, Nat.reduceSub, Nat.reduceDiv, Nat.reduceMod, Nat.reducePow, Nat.reduceLT, Nat.reduceLeDiff, Nat.reduceEqDiff, Int.reduceAdd, Int.reduceSub, Int.reduceNeg, Int.reduceMul, Int.reduceToNat, Int.reducePow, Int.reduceLE, Int.reduceLT, Int.reduceEq, Int.reduceNe, reduceIte, reduceCtorEq, ne_eq, not_true_eq_false, not_false_eq_true, true_and, and_true, and_self, true_implies, imp_self, implies_true, decide_true, decide_false, Bool.not_true, Bool.not_false, Bool.and_true, Bool.and_false, Bool.true_and, Bool.false_and, Bool.and_self, decide_eq_true_eq, eq_self] <;> rfl)
        · simp (disch := first | assumption | omega | (simp only [lens]; omega)) only [eqs, ↓gvd_succ, ↓gvd_zero, ↓and_of, im_of, im_of trivial, vals, lsts, tys, hP, hst, initS, Nat.reduceBEq, Nat.reduceAdd, Nat.reduceMul, Nat.reduceSub, Nat.reduceDiv, Nat.reduceMod, Nat.reducePow, Nat.reduceLT, Nat.reduceLeDiff, Nat.reduceEqDiff, Int.reduceAdd, Int.reduceSub, Int.reduceNeg, Int.reduceMul, Int.reduceToNat, Int.reducePow, Int.reduceLE, Int.reduceLT, Int.reduceEq, Int.reduceNe, reduceIte, reduceCtorEq, ne_eq, not_true_eq_false, not_false_eq_true, true_and, and_true, and_self, true_implies, imp_self, implies_true, decide_true, decide_false, Bool.not_true, Bool.not_false, Bool.and_true, Bool.and_false, Bool.true_and, Bool.false_and, Bool.and_self, decide_eq_true_eq, eq_self]
          have hie : i = s.length := by omega
          subst hie
          rw [List.take_length] at hud
          have hp2 : parse (b : Int) (List.replicate j 48 ++ u) = some (val l) := parse_txt hb2 hb36 (by rw [pnum_noughts hb2, pnum_same hud, hpn]) (by simp; omega) (by
            intro h9
            have h10 := (List.append_eq_nil_iff.1 h9).2
            rw [h10] at hu
            exact hne (List.eq_nil_of_length_eq_zero hu.symm))
          have hp1 : parse (b : Int) s = some (val l) := parse_txt hb2 hb36 hpn (by omega) hne
          have hsb2 : sb (bstr (List.replicate j 48 ++ u)) = List.replicate j 48 ++ u := sb_bstr (by
            intro c hc
            rcases List.mem_append.1 hc with h9 | h9
            · rw [(List.mem_replicate.1 h9).2]; omega
            · exact hul c h9)
          have e0 := hT.trans hT2
          refine E_call (hP ▸ s_Parse) ⟨_, b, rfl, gotP_pres fun z1 T3 e1 hz1 => ?_⟩
          rw [hsb, hp1] at hz1 ⊢
          rw [Option.getD_some] at hz1
          simp (disch := first | assumption | omega | (simp only [lens]; omega)) only [eqs, ↓gvd_succ, ↓gvd_zero, ↓and_of, im_of, im_of trivial, vals, lsts, tys, hP, hst, initS, Nat.reduceBEq, Nat.reduceAdd, Nat.reduceMul, Nat.reduceSub, Nat.reduceDiv, Nat.reduceMod, Nat.reducePow, Nat.reduceLT, Nat.reduceLeDiff, Nat.reduceEqDiff, Int.reduceAdd, Int.reduceSub, Int.reduceNeg, Int.reduceMul, Int.reduceToNat, Int.reducePow, Int.reduceLE, Int.reduceLT, Int.reduceEq, Int.reduceNe, reduceIte, reduceCtorEq, ne_eq, not_true_eq_false, not_false_eq_true, true_and, and_true, and_self, true_implies, imp_self, implies_true, decide_true, decide_false, Bool.not_true, Bool.not_false, Bool.and_true, Bool.and_false, Bool.true_and, Bool.false_and, Bool.and_self, decide_eq_true_eq, eq_self]
          refine E_call (hP ▸ s_Parse) ⟨_, b, rfl, gotP_pres fun z2 T4 e2 hz2 => ?_⟩
          rw [hsb2, hp2] at hz2 ⊢
          rw [Option.getD_some] at hz2
          simp (disch := first | assumption | omega | (simp only [lens]; omega)) only [eqs, ↓gvd_succ, ↓gvd_zero, ↓and_of, im_of, im_of trivial, vals, lsts, tys, hP, hst, initS, Nat.reduceBEq, Nat.reduceAdd, Nat.reduceMul, Nat.reduceSub, Nat.reduceDiv, Nat.reduceMod, Nat.reducePow, Nat.reduceLT, Nat.reduceLeDiff, Nat.reduceEqDiff, Int.reduceAdd, Int.reduceSub, Int.reduceNeg, Int.reduceMul, Int.reduceToNat, Int.reducePow, Int.reduceLE, Int.reduceLT, Int.reduceEq, Int.reduceNe, reduceIte, reduceCtorEq, ne_eq, not_true_eq_false, not_false_eq_true, true_and, and_true, and_self, true_implies, imp_self, implies_true, decide_true, decide_false, Bool.not_true, Bool.not_false, Bool.and_true, Bool.and_false, Bool.true_and, Bool.false_and, Bool.and_self, decide_eq_true_eq, eq_self, Option.isSome_some]
          have e3 := e0.trans (e1.trans e2)
          refine E_call (hP ▸ s_Norm) ⟨x, l, rfl, hx.ext e3, by omega, fresh_got fun z3 T5 hz3 => ?_⟩
          simp (disch := first | assumption | omega | (simp only [lens]; omega)) only [eqs, ↓gvd_succ, ↓gvd_zero, ↓and_of, im_of, im_of trivial, vals, lsts, tys, hP, hst, initS, Nat.reduceBEq, Nat.reduceAdd, Nat.reduceMul, Nat.reduceSub, Nat.reduceDiv, Nat.reduceMod, Nat.reducePow, Nat.reduceLT, Nat.reduceLeDiff, Nat.reduceEqDiff, Int.reduceAdd, Int.reduceSub, Int.reduceNeg, Int.reduceMul, Int.reduceToNat, Int.reducePow, Int.reduceLE, Int.reduceLT, Int.reduceEq, Int.reduceNe, reduceIte, reduceCtorEq, ne_eq, not_true_eq_false, not_false_eq_true, true_and, and_true, and_self, true_implies, imp_self, implies_true, decide_true, decide_false, Bool.not_true, Bool.not_false, Bool.and_true, Bool.and_false, Bool.true_and, Bool.false_and, Bool.and_self, decide_eq_true_eq, eq_self]
          refine E_call (hP ▸ s_lsameT) ⟨z1, z3, _, rfl, hz1.ext (e2.trans hz3.ex), hz3.nm, by omega, ?_⟩
          simp (disch := first | assumption | omega | (simp only [lens]; omega)) only [eqs, ↓gvd_succ, ↓gvd_zero, ↓and_of, im_of, im_of trivial, vals, lsts, tys, hP, hst, initS, Nat.reduceBEq, Nat.reduceAdd, Nat.reduceMul, Nat.reduceSub, Nat.reduceDiv, Nat.reduceMod, Nat.reducePow, Nat.reduceLT, Nat.reduceLeDiff, Nat.reduceEqDiff, Int.reduceAdd, Int.reduceSub, Int.reduceNeg, Int.reduceMul, Int.reduceToNat, Int.reducePow, Int.reduceLE, Int.reduceLT, Int.reduceEq, Int.reduceNe, reduceIte, reduceCtorEq, ne_eq, not_true_eq_false, not_false_eq_true, true_and, and_true, and_self, true_implies, imp_self, implies_true, decide_true, decide_false, Bool.not_true, Bool.not_false, Bool.and_true, Bool.and_false, Bool.true_and, Bool.false_and, Bool.and_self, decide_eq_true_eq, eq_self]
          refine E_call (hP ▸ s_lsameT) ⟨z2, z1, _, rfl, hz2.ext hz3.ex, hz1.ext (e2.trans hz3.ex), by omega, ?_⟩
          simp (disch := first | assumption | omega | (simp only [lens]; omega)) only [eqs, ↓gvd_succ, ↓gvd_zero, ↓and_of, im_of, im_of trivial, vals, lsts, tys, hP, hst, initS, Nat.reduceBEq, Nat.reduceAdd, Nat.reduceMul, Nat.reduceSub, Nat.reduceDiv, Nat.reduceMod, Nat.reducePow, Nat.reduceLT, Nat.reduceLeDiff, Nat.reduceEqDiff, Int.reduceAdd, Int.reduceSub, Int.reduceNeg, Int.reduceMul, Int.reduceToNat, Int.reducePow, Int.reduceLE, Int.reduceLT, Int.reduceEq, Int.reduceNe, reduceIte, reduceCtorEq, ne_eq, not_true_eq_false, not_false_eq_true, true_and, and_true, and_self, true_implies, imp_self, implies_true, decide_true, decide_false, Bool.not_true, Bool.not_false, Bool.and_true, Bool.and_false, Bool.true_and, Bool.false_and, Bool.and_self, decide_eq_true_eq, eq_self]
          refine E_call (hP ▸ s_llives) ⟨rfl, fun TT hTT => ?_⟩
          simp (disch := first | assumption | omega | (simp only [lens]; omega)) only [eqs, ↓gvd_succ, ↓gvd_zero, ↓and_of, im_of, im_of trivial, vals, lsts, tys, hP, hst, initS, Nat.reduceBEq, Nat.reduceAdd, Nat.reduceMul, Nat.reduceSub, Nat.reduceDiv, Nat.reduceMod, Nat.reducePow, Nat.reduceLT, Nat.reduceLeDiff, Nat.reduceEqDiff, Int.reduceAdd, Int.reduceSub, Int.reduceNeg, Int.reduceMul, Int.reduceToNat, Int.reducePow, Int.reduceLE, Int.reduceLT, Int.reduceEq, Int.reduceNe, reduceIte, reduceCtorEq, ne_eq, not_true_eq_false, not_false_eq_true, true_and, and_true, and_self, true_implies, imp_self, implies_true, decide_true, decide_false, Bool.not_true, Bool.not_false, Bool.and_true, Bool.and_false, Bool.true_and, Bool.false_and, Bool.and_self, decide_eq_true_eq, eq_self]
          exact hK _ ((e3.trans hz3.ex).trans hTT)
  · simp (disch := first | assumption | omega | (simp only [lens]; omega)) only [eqs, ↓gvd_succ, ↓gvd_zero, ↓and_of, im_of, im_of trivial, vals, lsts, tys, hP, hst, initS, Nat.reduceBEq, Nat.reduceAdd, Nat.reduceMul, Nat.reduceSub, Nat.reduceDiv, Nat.reduceMod, Nat.reducePow, Nat.reduceLT, Nat.reduceLeDiff, Nat.reduceEqDiff, Int.reduceAdd, Int.reduceSub, Int.reduceNeg, Int.reduceMul, Int.reduceToNat, Int.reducePow, Int.reduceLE, Int.reduceLT, Int.reduceEq, Int.reduceNe, reduceIte, reduceCtorEq, ne_eq, not_true_eq_false, not_false_eq_true, true_and, and_true, and_self, true_implies, imp_self, implies_true, decide_true, decide_false, Bool.not_true, Bool.not_false, Bool.and_true, Bool.and_false, Bool.true_and, Bool.false_and, Bool.and_self, decide_eq_true_eq, eq_self, h]
    refine E_call (hP ▸ s_llives) ⟨rfl, fun TT hTT => ?_⟩
    simp (disch := first | assumption | omega | (simp only [lens]; omega)) only [eqs, ↓gvd_succ, ↓gvd_zero, ↓and_of, im_of, im_of trivial, vals, lsts, tys, hP, hst, initS, Nat.reduceBEq, Nat.reduceAdd, Nat.reduceMul, Nat.reduceSub, Nat.reduceDiv, Nat.reduceMod, Nat.reducePow, Nat.reduceLT, Nat.reduceLeDiff, Nat.reduceEqDiff, Int.reduceAdd, Int.reduceSub, Int.reduceNeg, Int.reduceMul, Int.reduceToNat, Int.reducePow, Int.reduceLE, Int.reduceLT, Int.reduceEq, Int.reduceNe, reduceIte, reduceCtorEq, ne_eq, not_true_eq_false, not_false_eq_true, true_and, and_true, and_self, true_implies, imp_self, implies_true, decide_true, decide_false, Bool.not_true, Bool.not_false, Bool.and_true, Bool.and_false, Bool.true_and, Bool.false_and, Bool.and_self, decide_eq_true_eq, eq_self]
    exact hK _ (hT.trans hTT)
end Go.Proofs.Pv
