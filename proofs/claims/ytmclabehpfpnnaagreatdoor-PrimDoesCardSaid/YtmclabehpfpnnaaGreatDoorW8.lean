/- The nat functions' walks, eighth part: one digit. -/
import Derived.Test.YtmclabehpfpnnaaGreatDoorW7
import Derived.Test.YtmclabehpfpnnaaGreatDoorD1
set_option linter.unusedSimpArgs false
set_option linter.unusedVariables false
namespace Go.Proofs.Pv
open Go Go.RowKit Go.Proofs
set_option maxRecDepth 20000

/-- The store with a window in an object. -/
def win (st : St) (r : Nat) (pre w post : List Nat) : St := st.set r (some (u32s (pre ++ (w ++ post))))

theorem win_get {st : St} {r : Nat} {pre w post : List Nat} (h : r < st.length) : (win st r pre w post)[r]? = some (some (u32s (pre ++ (w ++ post)))) := by simp [win, h]
theorem win_set {st : St} {r i v : Nat} {pre w post : List Nat} (h : i < w.length) : (win st r pre w post).set r (some (u32s ((pre ++ (w ++ post)).set (pre.length + i) v))) = win st r pre (w.set i v) post := by
  unfold win
  rw [List.set_set, List.set_append_right _ _ (by omega), Nat.add_sub_cancel_left, List.set_append_left _ _ h]
theorem win_set' {st : St} {r i v : Nat} {pre w post : List Nat} (h : i < w.length) : (win st r pre w post).set r (some (u32s (pre ++ ((w ++ post).set i v)))) = win st r pre (w.set i v) post := by
  unfold win
  rw [List.set_set, List.set_append_left _ _ h]
theorem win_sl {st : St} {r n : Nat} {pre w post : List Nat} (h : r < st.length) (hn : w.length = n) : sl 1 (win st r pre w post) (.own r pre.length n 1) = some (n, u32s w) := by
  subst hn
  rw [sl_own_eq, win_get h, if_pos rfl]
  have e : ((u32s (pre ++ (w ++ post))).drop pre.length).take w.length = u32s w := by
    rw [u32s_drop, List.drop_left, u32s_take, List.take_left]
  simp only [Nat.mul_one, e, u32s_length, if_true]

def RDigit (b0 : Nat) (xs : List AV) (st : St) (K : AV → St → Prop) : Prop := ∃ r pre w post v m, xs = [.own r pre.length w.length 1, v] ∧ b0 ≤ r ∧ r < st.length ∧ win st r pre w post = st ∧ w.length = m.length + 1 ∧ m.length ≤ 20000 ∧ pre.length + w.length ≤ 100000 ∧
  (∀ z ∈ w, z < 4294967296) ∧ (∀ z ∈ m, z < 4294967296) ∧ (∀ w', sl 1 (win st r pre w' post) v = some (m.length, u32s m)) ∧ 2 ≤ m.length ∧ 2147483648 ≤ m.getD (m.length - 1) 0 ∧ val w < 4294967296 * val m ∧
  ∀ w', w'.length = w.length → (∀ z ∈ w', z < 4294967296) → val w' = val w % val m → K (.val (.int .u32 ((val w / val m : Nat) : Int))) (win st r pre w' post)

set_option maxHeartbeats 4000000 in
theorem s_digit {X : Cx} (hX : X.P = Tryz.prog) : FSpec X 105 (RDigit X.st1.length) := by
  refine wspec_of (fn := Tryz.f105) 2 [.tmp 4] (by kernel_rfl) rfl rfl (by kernel_rfl) mixed (by rintro _ _ _ ⟨r, pre, w, post, v, m, rfl, _⟩; rfl) hX ?_
  rintro X _ st K hP hst ⟨r, pre, w, post, v, m, rfl, hb, hrl, hwin, hwl, hml, hpl, hw, hm, hv, hm2, hnorm, hlt, hK⟩
  refine vc_V ?_
  have hs := win_sl (pre := pre) (post := post) (n := w.length) hrl rfl
  rw [← hwin]
  have hvs := hv w
  have b0 := getD_lt hw m.length
  have b1 := getD_lt hw (m.length - 1)
  have b2 := getD_lt hw (m.length - 2)
  have c1 := getD_lt hm (m.length - 1)
  have c2 := getD_lt hm (m.length - 2)
  have hVd : val m = (m.getD (m.length - 1) 0 * 4294967296 + m.getD (m.length - 2) 0) * 4294967296 ^ (m.length - 2) + val (m.take (m.length - 2)) := by
    have := val_two (m := m) (k := m.length - 2) (by omega)
    rwa [show m.length - 2 + 1 = m.length - 1 by omega] at this
  have hUd : val w = ((w.getD m.length 0 * 4294967296 + w.getD (m.length - 1) 0) * 4294967296 + w.getD (m.length - 2) 0) * 4294967296 ^ (m.length - 2) + val (w.take (m.length - 2)) := by
    have := val_three (w := w) (k := m.length - 2) (by omega)
    rwa [show m.length - 2 + 1 = m.length - 1 by omega, show m.length - 2 + 2 = m.length by omega] at this
  have hPp : 0 < 4294967296 ^ (m.length - 2) := Nat.pow_pos (by omega)
  have hV' : val (m.take (m.length - 2)) < 4294967296 ^ (m.length - 2) := by
    have := val_lt (l := m.take (m.length - 2)) fun z hz => hm z (List.mem_of_mem_take hz)
    rwa [List.length_take, Nat.min_eq_left (by omega)] at this
  have hU' : val (w.take (m.length - 2)) < 4294967296 ^ (m.length - 2) := by
    have := val_lt (l := w.take (m.length - 2)) fun z hz => hw z (List.mem_of_mem_take hz)
    rwa [List.length_take, Nat.min_eq_left (by omega)] at this
  have hV0 : 0 < val m := by
    rcases Nat.eq_zero_or_pos (val m) with h | h
    · rw [h, Nat.mul_zero] at hlt; omega
    · exact h
  have hVB : val m < 4294967296 ^ m.length := val_lt hm
  have hq1 : val w / val m ≤ 4294967295 := by
    have : val w / val m < 4294967296 := by rw [Nat.div_lt_iff_lt_mul hV0]; exact hlt
    omega
  have hqV : val w / val m * val m ≤ val w := Nat.div_mul_le_self _ _
  have hbig : ∀ g, val w < g * val m → val w / val m < g := fun g h => by rw [Nat.div_lt_iff_lt_mul hV0]; exact h
  generalize hqq : val w / val m = q at *
  have hguess : q * m.getD (m.length - 1) 0 ≤ w.getD m.length 0 * 4294967296 + w.getD (m.length - 1) 0 := guess_ge hPp b2 hU' (by rw [← hVd, ← hUd]; exact hqV)
  simp (disch:=first|assumption|omega|(simp only [lens];omega)) only [eqs,↓gvd_succ,↓gvd_zero,↓and_of,im_of,im_of trivial,vlt,hP,hst,initS,Nat.reduceBEq,Nat.reduceAdd,Nat.reduceMul,Nat.reduceSub,Nat.reduceDiv,Nat.reduceMod,Nat.reducePow,Nat.reduceLT,Nat.reduceLeDiff,Nat.reduceEqDiff,Int.reduceAdd,Int.reduceSub,Int.reduceNeg,Int.reduceMul,Int.reduceToNat,Int.reducePow,Int.reduceLE,Int.reduceLT,Int.reduceEq,Int.reduceNe,reduceIte,reduceCtorEq,ne_eq,not_true_eq_false,not_false_eq_true,imp_self,implies_true,bls,eq_self,hvs,hs]
  refine V_draw [0, 1, 2, 3, 4, 5, 6, 7, 8, 9, 10, 11, 12, 13] (by kernel_rfl) (.cons rfl <| .cons rfl <| .cons rfl <| .cons rfl <| .cons rfl <| .cons rfl <| .cons rfl <| .cons rfl <| .cons rfl <| .cons rfl <| .cons rfl <| .cons rfl <| .cons rfl <| .cons rfl <| .nil) ?_
  obtain ⟨top, htop⟩ : ∃ top, w.getD m.length 0 * 4294967296 + w.getD (m.length - 1) 0 = top := ⟨_, rfl⟩
  rw [htop] at hUd hguess
  have htb : top < 18446744073709551616 := by omega
  have e1 : bitV .or .u64 ((w.getD m.length 0 : Nat) * 4294967296) (w.getD (m.length - 1) 0 : Nat) = (top : Int) := by rw [or64_lo b0 b1, htop]
  simp (disch:=first|assumption|omega|(simp only [lens];omega)) only [eqs,↓gvd_succ,↓gvd_zero,↓and_of,im_of,im_of trivial,vlt,hP,hst,initS,Nat.reduceBEq,Nat.reduceAdd,Nat.reduceMul,Nat.reduceSub,Nat.reduceDiv,Nat.reduceMod,Nat.reducePow,Nat.reduceLT,Nat.reduceLeDiff,Nat.reduceEqDiff,Int.reduceAdd,Int.reduceSub,Int.reduceNeg,Int.reduceMul,Int.reduceToNat,Int.reducePow,Int.reduceLE,Int.reduceLT,Int.reduceEq,Int.reduceNe,reduceIte,reduceCtorEq,ne_eq,not_true_eq_false,not_false_eq_true,imp_self,implies_true,bls,eq_self,hvs,hs,e1]
  refine V_draw [0, 1, 2, 3, 4, 5, 6, 7, 8, 9, 10, 11, 12, 13, 14, 15, 16, 17] (by kernel_rfl) (.cons rfl <| .cons rfl <| .cons rfl <| .cons rfl <| .cons rfl <| .cons rfl <| .cons rfl <| .cons rfl <| .cons rfl <| .cons rfl <| .cons rfl <| .cons rfl <| .cons rfl <| .cons rfl <| .cons rfl <| .cons rfl <| .cons rfl <| .cons rfl <| .nil) ?_
  have hdm := Nat.div_add_mod top (m.getD (m.length - 1) 0)
  have hr0 : top % m.getD (m.length - 1) 0 < m.getD (m.length - 1) 0 := Nat.mod_lt _ (by omega)
  have hg0 : q ≤ top / m.getD (m.length - 1) 0 := by rw [Nat.le_div_iff_mul_le (by omega)]; exact hguess
  have hu0 : w.getD m.length 0 ≤ m.getD (m.length - 1) 0 := by
    rw [hVd, hUd, ← htop] at hlt
    exact top_le hV' c2 hlt
  have hg1 : top / m.getD (m.length - 1) 0 ≤ 4294967297 := by
    have : top / m.getD (m.length - 1) 0 < 4294967298 := by rw [Nat.div_lt_iff_lt_mul (by omega)]; omega
    omega
  obtain ⟨g0, hgg⟩ : ∃ g0, top / m.getD (m.length - 1) 0 = g0 := ⟨_, rfl⟩
  obtain ⟨r0, hrr⟩ : ∃ r0, top % m.getD (m.length - 1) 0 = r0 := ⟨_, rfl⟩
  rw [hgg] at hg0 hg1
  rw [hrr] at hr0
  rw [hgg, hrr] at hdm
  simp (disch:=first|assumption|omega|(simp only [lens];omega)) only [eqs,↓gvd_succ,↓gvd_zero,↓and_of,im_of,im_of trivial,vlt,hP,hst,initS,Nat.reduceBEq,Nat.reduceAdd,Nat.reduceMul,Nat.reduceSub,Nat.reduceDiv,Nat.reduceMod,Nat.reducePow,Nat.reduceLT,Nat.reduceLeDiff,Nat.reduceEqDiff,Int.reduceAdd,Int.reduceSub,Int.reduceNeg,Int.reduceMul,Int.reduceToNat,Int.reducePow,Int.reduceLE,Int.reduceLT,Int.reduceEq,Int.reduceNe,reduceIte,reduceCtorEq,ne_eq,not_true_eq_false,not_false_eq_true,imp_self,implies_true,bls,eq_self,hvs,hs,hgg,hrr]
  refine V_loop (ι := Nat × Nat) (fun d => [(7, .val (.int .u64 (d.1 : Int))), (8, .val (.int .u64 (d.2 : Int))), (5, .val (.int .i64 (m.length : Int))), (0, .own r pre.length w.length 1), (1, v)]) (fun _ => win st r pre w post)
    (fun d => top = d.1 * m.getD (m.length - 1) 0 + d.2 ∧ q ≤ d.1 ∧ d.2 < 8589934592 ∧ (d.1 ≤ 4294967296 ∨ d.1 = 4294967297 ∧ d.2 < m.getD (m.length - 1) 0)) (fun d => d.1) (g0, r0) ⟨by rw [Nat.mul_comm]; exact hdm.symm, hg0, by dsimp only; omega, by dsimp only; omega⟩ rfl (by simp (disch:=first|assumption|omega|(simp only [lens];omega)) only [eqs,↓gvd_succ,↓gvd_zero,↓and_of,im_of,im_of trivial,vlt,hP,hst,initS,Nat.reduceBEq,Nat.reduceAdd,Nat.reduceMul,Nat.reduceSub,Nat.reduceDiv,Nat.reduceMod,Nat.reducePow,Nat.reduceLT,Nat.reduceLeDiff,Nat.reduceEqDiff,Int.reduceAdd,Int.reduceSub,Int.reduceNeg,Int.reduceMul,Int.reduceToNat,Int.reducePow,Int.reduceLE,Int.reduceLT,Int.reduceEq,Int.reduceNe,reduceIte,reduceCtorEq,ne_eq,not_true_eq_false,not_false_eq_true,imp_self,implies_true,bls,eq_self] <;> rfl) ?_
  clear hgg hrr hdm hr0 hg0 hg1
  rintro ⟨g, r1⟩ ⟨ht, hqg, hr1, hg1⟩
  dsimp only at ht hqg hr1 hg1 ⊢
  simp (disch:=first|assumption|omega|(simp only [lens];omega)) only [eqs,↓gvd_succ,↓gvd_zero,↓and_of,im_of,im_of trivial,vlt,hP,hst,initS,Nat.reduceBEq,Nat.reduceAdd,Nat.reduceMul,Nat.reduceSub,Nat.reduceDiv,Nat.reduceMod,Nat.reducePow,Nat.reduceLT,Nat.reduceLeDiff,Nat.reduceEqDiff,Int.reduceAdd,Int.reduceSub,Int.reduceNeg,Int.reduceMul,Int.reduceToNat,Int.reducePow,Int.reduceLE,Int.reduceLT,Int.reduceEq,Int.reduceNe,reduceIte,reduceCtorEq,ne_eq,not_true_eq_false,not_false_eq_true,imp_self,implies_true,bls,eq_self,hvs,hs]
  refine C_dec (fun h => ?a) (fun h => ?b)
  case' a =>
    simp (disch:=first|assumption|omega|(simp only [lens];omega)) only [eqs,↓gvd_succ,↓gvd_zero,↓and_of,im_of,im_of trivial,vlt,hP,hst,initS,Nat.reduceBEq,Nat.reduceAdd,Nat.reduceMul,Nat.reduceSub,Nat.reduceDiv,Nat.reduceMod,Nat.reducePow,Nat.reduceLT,Nat.reduceLeDiff,Nat.reduceEqDiff,Int.reduceAdd,Int.reduceSub,Int.reduceNeg,Int.reduceMul,Int.reduceToNat,Int.reducePow,Int.reduceLE,Int.reduceLT,Int.reduceEq,Int.reduceNe,reduceIte,reduceCtorEq,ne_eq,not_true_eq_false,not_false_eq_true,imp_self,implies_true,bls,eq_self,hvs,hs]
    refine V_draw [0, 1, 2, 3, 4, 5, 6, 7, 8, 9, 10, 11, 12, 13, 14, 15, 16, 17, 18, 19, 20, 21] (by kernel_rfl) (.cons rfl <| .cons rfl <| .cons rfl <| .cons rfl <| .cons rfl <| .cons rfl <| .cons rfl <| .cons rfl <| .cons rfl <| .cons rfl <| .cons rfl <| .cons rfl <| .cons rfl <| .cons rfl <| .cons rfl <| .cons rfl <| .cons rfl <| .cons rfl <| .cons rfl <| .cons rfl <| .cons rfl <| .cons rfl <| .nil) ?_
    simp (disch:=first|assumption|omega|(simp only [lens];omega)) only [eqs,↓gvd_succ,↓gvd_zero,↓and_of,im_of,im_of trivial,vlt,hP,hst,initS,Nat.reduceBEq,Nat.reduceAdd,Nat.reduceMul,Nat.reduceSub,Nat.reduceDiv,Nat.reduceMod,Nat.reducePow,Nat.reduceLT,Nat.reduceLeDiff,Nat.reduceEqDiff,Int.reduceAdd,Int.reduceSub,Int.reduceNeg,Int.reduceMul,Int.reduceToNat,Int.reducePow,Int.reduceLE,Int.reduceLT,Int.reduceEq,Int.reduceNe,reduceIte,reduceCtorEq,ne_eq,not_true_eq_false,not_false_eq_true,imp_self,implies_true,bls,eq_self,hvs,hs]
    refine G_dec (fun h2 => ?_) (fun h2 => ?_)
    rotate_left
    · have hgm : (g - 1) * m.getD (m.length - 1) 0 + m.getD (m.length - 1) 0 = g * m.getD (m.length - 1) 0 := by
        rw [← Nat.succ_mul]; congr 1; omega
      simp (disch:=first|assumption|omega|(simp only [lens];omega)) only [eqs,↓gvd_succ,↓gvd_zero,↓and_of,im_of,im_of trivial,vlt,hP,hst,initS,Nat.reduceBEq,Nat.reduceAdd,Nat.reduceMul,Nat.reduceSub,Nat.reduceDiv,Nat.reduceMod,Nat.reducePow,Nat.reduceLT,Nat.reduceLeDiff,Nat.reduceEqDiff,Int.reduceAdd,Int.reduceSub,Int.reduceNeg,Int.reduceMul,Int.reduceToNat,Int.reducePow,Int.reduceLE,Int.reduceLT,Int.reduceEq,Int.reduceNe,reduceIte,reduceCtorEq,ne_eq,not_true_eq_false,not_false_eq_true,imp_self,implies_true,bls,eq_self,hvs,hs,h2]
      exact again (g - 1, r1 + m.getD (m.length - 1) 0) ⟨by dsimp only; omega, by dsimp only; omega, by dsimp only; omega, by dsimp only; omega⟩ (show g - 1 < g by omega) rfl (by
        rw [show ((g - 1 : Nat) : Int) = (g : Int) - 1 by omega]
        simp (disch:=first|assumption|omega|(simp only [lens];omega)) only [eqs,↓gvd_succ,↓gvd_zero,↓and_of,im_of,im_of trivial,vlt,hP,hst,initS,Nat.reduceBEq,Nat.reduceAdd,Nat.reduceMul,Nat.reduceSub,Nat.reduceDiv,Nat.reduceMod,Nat.reducePow,Nat.reduceLT,Nat.reduceLeDiff,Nat.reduceEqDiff,Int.reduceAdd,Int.reduceSub,Int.reduceNeg,Int.reduceMul,Int.reduceToNat,Int.reducePow,Int.reduceLE,Int.reduceLT,Int.reduceEq,Int.reduceNe,reduceIte,reduceCtorEq,ne_eq,not_true_eq_false,not_false_eq_true,imp_self,implies_true,bls,eq_self] <;> rfl)
    have hgv := Nat.mul_le_mul (show g ≤ 4294967295 by omega) (show m.getD (m.length - 2) 0 ≤ 4294967295 by omega)
    have e2 : ((g * m.getD (m.length - 2) 0 : Nat) : Int) = (g : Int) * (m.getD (m.length - 2) 0 : Nat) := Int.natCast_mul _ _
    have e3 : bitV .or .u64 ((r1 : Int) * 4294967296) (w.getD (m.length - 2) 0 : Nat) = ((r1 * 4294967296 + w.getD (m.length - 2) 0 : Nat) : Int) := or64_lo (by omega) b2
    simp (disch:=first|assumption|omega|(simp only [lens];omega)) only [eqs,↓gvd_succ,↓gvd_zero,↓and_of,im_of,im_of trivial,vlt,hP,hst,initS,Nat.reduceBEq,Nat.reduceAdd,Nat.reduceMul,Nat.reduceSub,Nat.reduceDiv,Nat.reduceMod,Nat.reducePow,Nat.reduceLT,Nat.reduceLeDiff,Nat.reduceEqDiff,Int.reduceAdd,Int.reduceSub,Int.reduceNeg,Int.reduceMul,Int.reduceToNat,Int.reducePow,Int.reduceLE,Int.reduceLT,Int.reduceEq,Int.reduceNe,reduceIte,reduceCtorEq,ne_eq,not_true_eq_false,not_false_eq_true,imp_self,implies_true,bls,eq_self,hvs,hs,h2,← e2,e3]
    refine C_dec (fun h3 => ?_) (fun h3 => ?_)
    rotate_left
    · have hqg2 : q < g := hbig g (by
        rw [hUd, hVd]
        exact guess_big hU' ht (by omega))
      have hgm : (g - 1) * m.getD (m.length - 1) 0 + m.getD (m.length - 1) 0 = g * m.getD (m.length - 1) 0 := by
        rw [← Nat.succ_mul]; congr 1; omega
      simp (disch:=first|assumption|omega|(simp only [lens];omega)) only [eqs,↓gvd_succ,↓gvd_zero,↓and_of,im_of,im_of trivial,vlt,hP,hst,initS,Nat.reduceBEq,Nat.reduceAdd,Nat.reduceMul,Nat.reduceSub,Nat.reduceDiv,Nat.reduceMod,Nat.reducePow,Nat.reduceLT,Nat.reduceLeDiff,Nat.reduceEqDiff,Int.reduceAdd,Int.reduceSub,Int.reduceNeg,Int.reduceMul,Int.reduceToNat,Int.reducePow,Int.reduceLE,Int.reduceLT,Int.reduceEq,Int.reduceNe,reduceIte,reduceCtorEq,ne_eq,not_true_eq_false,not_false_eq_true,imp_self,implies_true,bls,eq_self,hvs,hs,h2]
      exact again (g - 1, r1 + m.getD (m.length - 1) 0) ⟨by dsimp only; omega, by dsimp only; omega, by dsimp only; omega, by dsimp only; omega⟩ (show g - 1 < g by omega) rfl (by
        rw [show ((g - 1 : Nat) : Int) = (g : Int) - 1 by omega]
        simp (disch:=first|assumption|omega|(simp only [lens];omega)) only [eqs,↓gvd_succ,↓gvd_zero,↓and_of,im_of,im_of trivial,vlt,hP,hst,initS,Nat.reduceBEq,Nat.reduceAdd,Nat.reduceMul,Nat.reduceSub,Nat.reduceDiv,Nat.reduceMod,Nat.reducePow,Nat.reduceLT,Nat.reduceLeDiff,Nat.reduceEqDiff,Int.reduceAdd,Int.reduceSub,Int.reduceNeg,Int.reduceMul,Int.reduceToNat,Int.reducePow,Int.reduceLE,Int.reduceLT,Int.reduceEq,Int.reduceNe,reduceIte,reduceCtorEq,ne_eq,not_true_eq_false,not_false_eq_true,imp_self,implies_true,bls,eq_self] <;> rfl)
    have hgB : g ≤ 4294967296 := by omega
    have hle : (g - 1) * val m ≤ val w := by
      rw [hUd, hVd]
      exact guess_ok hV' (by omega) hgB ht (by omega)
  case' b =>
    have hgB : g ≤ 4294967296 := by omega
    have hle : (g - 1) * val m ≤ val w := by
      rw [hUd, hVd]
      refine guess_ok hV' (by omega) hgB ht ?_
      have := Nat.mul_le_mul hgB (show m.getD (m.length - 2) 0 ≤ 4294967295 by omega)
      omega
  all_goals
    simp (disch:=first|assumption|omega|(simp only [lens];omega)) only [eqs,↓gvd_succ,↓gvd_zero,↓and_of,im_of,im_of trivial,vlt,hP,hst,initS,Nat.reduceBEq,Nat.reduceAdd,Nat.reduceMul,Nat.reduceSub,Nat.reduceDiv,Nat.reduceMod,Nat.reducePow,Nat.reduceLT,Nat.reduceLeDiff,Nat.reduceEqDiff,Int.reduceAdd,Int.reduceSub,Int.reduceNeg,Int.reduceMul,Int.reduceToNat,Int.reducePow,Int.reduceLE,Int.reduceLT,Int.reduceEq,Int.reduceNe,reduceIte,reduceCtorEq,ne_eq,not_true_eq_false,not_false_eq_true,imp_self,implies_true,bls,eq_self,hvs,hs]
    clear hg1 hr1 ht h hguess hUd hVd hU' hV' hPp hu0 e1
    refine V_loop (ι := Nat × List Nat × Nat) (fun d => [(83, .val (.int .i64 (d.1 : Int))), (82, .val (.int .i64 (m.length : Int))), (81, v), (10, .val (.int .u32 (d.2.2 : Int))), (9, .val (.int .u64 ((g * val (m.take d.1) / 4294967296 ^ d.1 : Nat) : Int))), (7, .val (.int .u64 (g : Int))), (5, .val (.int .i64 (m.length : Int))), (0, .own r pre.length w.length 1), (1, v)]) (fun d => win st r pre d.2.1 post)
      (fun d => d.1 ≤ m.length ∧ d.2.1.length = w.length ∧ d.2.2 ≤ 1 ∧ (∀ z ∈ d.2.1, z < 4294967296) ∧ val (d.2.1.take d.1) + (g * val (m.take d.1)) % 4294967296 ^ d.1 = val (w.take d.1) + d.2.2 * 4294967296 ^ d.1 ∧ ∀ j, d.1 ≤ j → d.2.1.getD j 0 = w.getD j 0) (fun d => m.length - d.1)
      (0, w, 0) ⟨by simp, rfl, by simp, hw, by simp [val, Nat.mod_one], fun _ _ => rfl⟩ rfl (by simp (disch:=first|assumption|omega|(simp only [lens];omega)) only [eqs,↓gvd_succ,↓gvd_zero,↓and_of,im_of,im_of trivial,vlt,hP,hst,initS,Nat.reduceBEq,Nat.reduceAdd,Nat.reduceMul,Nat.reduceSub,Nat.reduceDiv,Nat.reduceMod,Nat.reducePow,Nat.reduceLT,Nat.reduceLeDiff,Nat.reduceEqDiff,Int.reduceAdd,Int.reduceSub,Int.reduceNeg,Int.reduceMul,Int.reduceToNat,Int.reducePow,Int.reduceLE,Int.reduceLT,Int.reduceEq,Int.reduceNe,reduceIte,reduceCtorEq,ne_eq,not_true_eq_false,not_false_eq_true,imp_self,implies_true,bls,eq_self] <;> simp [val]) ?_
    rintro ⟨i, w1, bw⟩ ⟨hi, hw1l, hbw, hw1, hinv, hsame⟩
    dsimp only at hi hw1l hbw hw1 hinv hsame ⊢
    have hvs1 := hv w1
    have hs1 := win_sl (pre := pre) (post := post) (n := w.length) hrl hw1l
    have hcl : g * val (m.take i) / 4294967296 ^ i < 4294967296 := carry_lt hgB (by
      have := val_lt (l := m.take i) fun z hz => hm z (List.mem_of_mem_take hz)
      rwa [List.length_take, Nat.min_eq_left hi] at this)
    have hms := mod_step (g := g) (x := m.getD i 0) (M := val (m.take i)) rfl rfl rfl (i := i)
    rw [← val_take_succ] at hms
    obtain ⟨c, hcc⟩ : ∃ c, g * val (m.take i) / 4294967296 ^ i = c := ⟨_, rfl⟩
    rw [hcc] at hms hcl
    simp (disch:=first|assumption|omega|(simp only [lens];omega)) only [eqs,↓gvd_succ,↓gvd_zero,↓and_of,im_of,im_of trivial,vlt,hP,hst,initS,Nat.reduceBEq,Nat.reduceAdd,Nat.reduceMul,Nat.reduceSub,Nat.reduceDiv,Nat.reduceMod,Nat.reducePow,Nat.reduceLT,Nat.reduceLeDiff,Nat.reduceEqDiff,Int.reduceAdd,Int.reduceSub,Int.reduceNeg,Int.reduceMul,Int.reduceToNat,Int.reducePow,Int.reduceLE,Int.reduceLT,Int.reduceEq,Int.reduceNe,reduceIte,reduceCtorEq,ne_eq,not_true_eq_false,not_false_eq_true,imp_self,implies_true,bls,eq_self,hvs1,hs1,hcc]
    refine C_dec (fun h5 => ?_) (fun h5 => ?_)
    · have d1 := getD_lt hw1 i
      have d2 := getD_lt hm i
      have hgx := Nat.mul_le_mul hgB (show m.getD i 0 ≤ 4294967295 by omega)
      have e4 : ((g * m.getD i 0 : Nat) : Int) = (g : Int) * (m.getD i 0 : Nat) := Int.natCast_mul _ _
      obtain ⟨p, hpp⟩ : ∃ p, g * m.getD i 0 = p := ⟨_, rfl⟩
      rw [hpp] at hgx hms e4
      have e5 : IntKind.u32.wrap ((c : Int) + (p : Int)) = (((c + p) % 4294967296 : Nat) : Int) := by rw [IntKind.wrap_u32]; omega
      simp (disch:=first|assumption|omega|(simp only [lens];omega)) only [eqs,↓gvd_succ,↓gvd_zero,↓and_of,im_of,im_of trivial,vlt,hP,hst,initS,Nat.reduceBEq,Nat.reduceAdd,Nat.reduceMul,Nat.reduceSub,Nat.reduceDiv,Nat.reduceMod,Nat.reducePow,Nat.reduceLT,Nat.reduceLeDiff,Nat.reduceEqDiff,Int.reduceAdd,Int.reduceSub,Int.reduceNeg,Int.reduceMul,Int.reduceToNat,Int.reducePow,Int.reduceLE,Int.reduceLT,Int.reduceEq,Int.reduceNe,reduceIte,reduceCtorEq,ne_eq,not_true_eq_false,not_false_eq_true,imp_self,implies_true,bls,eq_self,hvs1,hs1,hcc,← e4,e5]
      refine E_call (hP ▸ s_Sub32) ⟨_, _, _, rfl, d1, Nat.mod_lt _ (by omega), hbw, ?_⟩
      have hi2 : i < w1.length := by omega
      simp (disch:=first|assumption|omega|(simp only [lens];omega)) only [eqs,↓gvd_succ,↓gvd_zero,↓and_of,im_of,im_of trivial,vlt,hP,hst,initS,Nat.reduceBEq,Nat.reduceAdd,Nat.reduceMul,Nat.reduceSub,Nat.reduceDiv,Nat.reduceMod,Nat.reducePow,Nat.reduceLT,Nat.reduceLeDiff,Nat.reduceEqDiff,Int.reduceAdd,Int.reduceSub,Int.reduceNeg,Int.reduceMul,Int.reduceToNat,Int.reducePow,Int.reduceLE,Int.reduceLT,Int.reduceEq,Int.reduceNe,reduceIte,reduceCtorEq,ne_eq,not_true_eq_false,not_false_eq_true,imp_self,implies_true,bls,eq_self,hvs1,hs1,hcc,win_get hrl,win_set' hi2,win_set hi2]
      have hst2 := sub_step (b := (c + p) % 4294967296) d1 (Nat.mod_lt _ (by omega)) hbw hinv
      rw [← hms.2, hsame i (Nat.le_refl _), ← val_take_succ] at hst2
      refine again (i + 1, w1.set i ((w1.getD i 0 + 4294967296 - (c + p) % 4294967296 - bw) % 4294967296), if w1.getD i 0 < (c + p) % 4294967296 + bw then 1 else 0) ⟨by dsimp only; omega, by simp [hw1l], by dsimp only; split <;> omega, set_lt hw1 (Nat.mod_lt _ (by omega)), ?_, fun j hj => ?_⟩ (show m.length - (i + 1) < m.length - i by omega) rfl (by simp (disch:=first|assumption|omega|(simp only [lens];omega)) only [eqs,↓gvd_succ,↓gvd_zero,↓and_of,im_of,im_of trivial,vlt,hP,hst,initS,Nat.reduceBEq,Nat.reduceAdd,Nat.reduceMul,Nat.reduceSub,Nat.reduceDiv,Nat.reduceMod,Nat.reducePow,Nat.reduceLT,Nat.reduceLeDiff,Nat.reduceEqDiff,Int.reduceAdd,Int.reduceSub,Int.reduceNeg,Int.reduceMul,Int.reduceToNat,Int.reducePow,Int.reduceLE,Int.reduceLT,Int.reduceEq,Int.reduceNe,reduceIte,reduceCtorEq,ne_eq,not_true_eq_false,not_false_eq_true,imp_self,implies_true,bls,eq_self,hms.1] <;> rfl)
      · dsimp only
        rw [val_take_set hi2, hsame i (Nat.le_refl _)]
        exact hst2
      · dsimp only at hj ⊢
        rw [getD_set_ne' (by omega)]
        exact hsame j (by omega)
    · simp (disch:=first|assumption|omega|(simp only [lens];omega)) only [eqs,↓gvd_succ,↓gvd_zero,↓and_of,im_of,im_of trivial,vlt,hP,hst,initS,Nat.reduceBEq,Nat.reduceAdd,Nat.reduceMul,Nat.reduceSub,Nat.reduceDiv,Nat.reduceMod,Nat.reducePow,Nat.reduceLT,Nat.reduceLeDiff,Nat.reduceEqDiff,Int.reduceAdd,Int.reduceSub,Int.reduceNeg,Int.reduceMul,Int.reduceToNat,Int.reducePow,Int.reduceLE,Int.reduceLT,Int.reduceEq,Int.reduceNe,reduceIte,reduceCtorEq,ne_eq,not_true_eq_false,not_false_eq_true,imp_self,implies_true,bls,eq_self,hvs1,hs1,hcc]
      have hi3 : i = m.length := by omega
      subst hi3
      rw [List.take_of_length_le (Nat.le_refl _)] at hinv hcc
      have d1 := getD_lt hw1 m.length
      refine E_call (hP ▸ s_Sub32) ⟨_, _, _, rfl, d1, hcl, hbw, ?_⟩
      have hst2 := sub_step (b := c) d1 hcl hbw hinv
      have hn2 : m.length < w1.length := by omega
      rw [← val_take_set hn2, List.take_of_length_le (by simp; omega), hsame m.length (Nat.le_refl _), ← val_take_succ, List.take_of_length_le (l := w) (by omega), ← hcc, Nat.mod_add_div, hcc, ← hsame m.length (Nat.le_refl _)] at hst2
      have hd3 : (w1.getD m.length 0 + 4294967296 - c - bw) % 4294967296 < 4294967296 := Nat.mod_lt _ (by omega)
      obtain ⟨d, hd⟩ : ∃ d, (w1.getD m.length 0 + 4294967296 - c - bw) % 4294967296 = d := ⟨_, rfl⟩
      obtain ⟨bw2, hb2⟩ : ∃ b, (if w1.getD m.length 0 < c + bw then 1 else 0) = b := ⟨_, rfl⟩
      have hbw2 : bw2 ≤ 1 := by rw [← hb2]; split <;> omega
      rw [hd, hb2] at hst2
      rw [hd] at hd3
      simp (disch:=first|assumption|omega|(simp only [lens];omega)) only [eqs,↓gvd_succ,↓gvd_zero,↓and_of,im_of,im_of trivial,vlt,hP,hst,initS,Nat.reduceBEq,Nat.reduceAdd,Nat.reduceMul,Nat.reduceSub,Nat.reduceDiv,Nat.reduceMod,Nat.reducePow,Nat.reduceLT,Nat.reduceLeDiff,Nat.reduceEqDiff,Int.reduceAdd,Int.reduceSub,Int.reduceNeg,Int.reduceMul,Int.reduceToNat,Int.reducePow,Int.reduceLE,Int.reduceLT,Int.reduceEq,Int.reduceNe,reduceIte,reduceCtorEq,ne_eq,not_true_eq_false,not_false_eq_true,imp_self,implies_true,bls,eq_self,hvs1,hs1,win_get hrl,win_set' hn2,win_set hn2,hd,hb2]
      have hw2 : ∀ z ∈ w1.set m.length d, z < 4294967296 := set_lt hw1 hd3
      have hw2l : (w1.set m.length d).length = w.length := by simp [hw1l]
      generalize w1.set m.length d = w2 at hst2 hw2 hw2l ⊢
      have hvs2 := hv w2
      have hs2 := win_sl (pre := pre) (post := post) (n := w.length) hrl hw2l
      have hW2 := val_lt hw2
      rw [hw2l, hwl] at hW2
      refine C_dec (fun h6 => ?_) (fun h6 => ?_)
      · have hb3 : bw2 = 1 := by omega
        subst hb3
        rw [Nat.one_mul] at hst2
        have hVT : val m ≤ 4294967296 ^ (m.length + 1) := by rw [Nat.pow_succ]; have := Nat.le_of_lt hVB; omega
        obtain ⟨hgq, hW⟩ := fin_over hV0 hqq.symm hqg hle hW2 hVT hst2
        have hg1 : 1 ≤ g := by
          rcases Nat.eq_zero_or_pos g with h7 | h7
          · subst h7; rw [Nat.zero_mul] at hst2; omega
          · exact h7
        simp (disch:=first|assumption|omega|(simp only [lens];omega)) only [eqs,↓gvd_succ,↓gvd_zero,↓and_of,im_of,im_of trivial,vlt,hP,hst,initS,Nat.reduceBEq,Nat.reduceAdd,Nat.reduceMul,Nat.reduceSub,Nat.reduceDiv,Nat.reduceMod,Nat.reducePow,Nat.reduceLT,Nat.reduceLeDiff,Nat.reduceEqDiff,Int.reduceAdd,Int.reduceSub,Int.reduceNeg,Int.reduceMul,Int.reduceToNat,Int.reducePow,Int.reduceLE,Int.reduceLT,Int.reduceEq,Int.reduceNe,reduceIte,reduceCtorEq,ne_eq,not_true_eq_false,not_false_eq_true,imp_self,implies_true,bls,eq_self,hvs2,hs2]
        refine V_loop (ι := Nat × List Nat × Nat) (fun d => [(131, .val (.int .i64 (d.1 : Int))), (130, .val (.int .i64 (m.length : Int))), (129, v), (13, .val (.int .u32 (d.2.2 : Int))), (7, .val (.int .u64 (q : Int))), (5, .val (.int .i64 (m.length : Int))), (0, .own r pre.length w.length 1), (1, v)]) (fun d => win st r pre d.2.1 post)
          (fun d => d.1 ≤ m.length ∧ d.2.1.length = w.length ∧ d.2.2 ≤ 1 ∧ (∀ z ∈ d.2.1, z < 4294967296) ∧ val (d.2.1.take d.1) + d.2.2 * 4294967296 ^ d.1 = val (w2.take d.1) + val (m.take d.1) ∧ ∀ j, d.1 ≤ j → d.2.1.getD j 0 = w2.getD j 0) (fun d => m.length - d.1)
          (0, w2, 0) ⟨by simp, hw2l, by simp, hw2, by simp [val], fun _ _ => rfl⟩ rfl (by
            rw [show (q : Int) = (g : Int) - 1 by omega]
            simp (disch:=first|assumption|omega|(simp only [lens];omega)) only [eqs,↓gvd_succ,↓gvd_zero,↓and_of,im_of,im_of trivial,vlt,hP,hst,initS,Nat.reduceBEq,Nat.reduceAdd,Nat.reduceMul,Nat.reduceSub,Nat.reduceDiv,Nat.reduceMod,Nat.reducePow,Nat.reduceLT,Nat.reduceLeDiff,Nat.reduceEqDiff,Int.reduceAdd,Int.reduceSub,Int.reduceNeg,Int.reduceMul,Int.reduceToNat,Int.reducePow,Int.reduceLE,Int.reduceLT,Int.reduceEq,Int.reduceNe,reduceIte,reduceCtorEq,ne_eq,not_true_eq_false,not_false_eq_true,imp_self,implies_true,bls,eq_self] <;> rfl) ?_
        rintro ⟨i, w3, ov⟩ ⟨hi, hw3l, hov, hw3, hinv3, hsame3⟩
        dsimp only at hi hw3l hov hw3 hinv3 hsame3 ⊢
        have hvs3 := hv w3
        have hs3 := win_sl (pre := pre) (post := post) (n := w.length) hrl hw3l
        simp (disch:=first|assumption|omega|(simp only [lens];omega)) only [eqs,↓gvd_succ,↓gvd_zero,↓and_of,im_of,im_of trivial,vlt,hP,hst,initS,Nat.reduceBEq,Nat.reduceAdd,Nat.reduceMul,Nat.reduceSub,Nat.reduceDiv,Nat.reduceMod,Nat.reducePow,Nat.reduceLT,Nat.reduceLeDiff,Nat.reduceEqDiff,Int.reduceAdd,Int.reduceSub,Int.reduceNeg,Int.reduceMul,Int.reduceToNat,Int.reducePow,Int.reduceLE,Int.reduceLT,Int.reduceEq,Int.reduceNe,reduceIte,reduceCtorEq,ne_eq,not_true_eq_false,not_false_eq_true,imp_self,implies_true,bls,eq_self,hvs3,hs3]
        refine C_dec (fun h7 => ?_) (fun h7 => ?_)
        · have d1 := getD_lt hw3 i
          have d2 := getD_lt hm i
          have hi2 : i < w3.length := by omega
          simp (disch:=first|assumption|omega|(simp only [lens];omega)) only [eqs,↓gvd_succ,↓gvd_zero,↓and_of,im_of,im_of trivial,vlt,hP,hst,initS,Nat.reduceBEq,Nat.reduceAdd,Nat.reduceMul,Nat.reduceSub,Nat.reduceDiv,Nat.reduceMod,Nat.reducePow,Nat.reduceLT,Nat.reduceLeDiff,Nat.reduceEqDiff,Int.reduceAdd,Int.reduceSub,Int.reduceNeg,Int.reduceMul,Int.reduceToNat,Int.reducePow,Int.reduceLE,Int.reduceLT,Int.reduceEq,Int.reduceNe,reduceIte,reduceCtorEq,ne_eq,not_true_eq_false,not_false_eq_true,imp_self,implies_true,bls,eq_self,hvs3,hs3]
          refine E_call (hP ▸ s_Add32) ⟨_, _, _, rfl, d1, d2, by omega, ?_⟩
          simp (disch:=first|assumption|omega|(simp only [lens];omega)) only [eqs,↓gvd_succ,↓gvd_zero,↓and_of,im_of,im_of trivial,vlt,hP,hst,initS,Nat.reduceBEq,Nat.reduceAdd,Nat.reduceMul,Nat.reduceSub,Nat.reduceDiv,Nat.reduceMod,Nat.reducePow,Nat.reduceLT,Nat.reduceLeDiff,Nat.reduceEqDiff,Int.reduceAdd,Int.reduceSub,Int.reduceNeg,Int.reduceMul,Int.reduceToNat,Int.reducePow,Int.reduceLE,Int.reduceLT,Int.reduceEq,Int.reduceNe,reduceIte,reduceCtorEq,ne_eq,not_true_eq_false,not_false_eq_true,imp_self,implies_true,bls,eq_self,hvs3,hs3,win_get hrl,win_set' hi2,win_set hi2]
          have e := add_step (a := w2.getD i 0) (b := m.getD i 0) hinv3
          rw [← val_take_succ, ← val_take_succ, ← hsame3 i (Nat.le_refl _), ← val_take_set hi2] at e
          refine again (i + 1, w3.set i ((w3.getD i 0 + m.getD i 0 + ov) % 4294967296), (w3.getD i 0 + m.getD i 0 + ov) / 4294967296) ⟨by dsimp only; omega, by simp [hw3l], by dsimp only; omega, set_lt hw3 (Nat.mod_lt _ (by omega)), e, fun j hj => ?_⟩ (show m.length - (i + 1) < m.length - i by omega) rfl (by simp (disch:=first|assumption|omega|(simp only [lens];omega)) only [eqs,↓gvd_succ,↓gvd_zero,↓and_of,im_of,im_of trivial,vlt,hP,hst,initS,Nat.reduceBEq,Nat.reduceAdd,Nat.reduceMul,Nat.reduceSub,Nat.reduceDiv,Nat.reduceMod,Nat.reducePow,Nat.reduceLT,Nat.reduceLeDiff,Nat.reduceEqDiff,Int.reduceAdd,Int.reduceSub,Int.reduceNeg,Int.reduceMul,Int.reduceToNat,Int.reducePow,Int.reduceLE,Int.reduceLT,Int.reduceEq,Int.reduceNe,reduceIte,reduceCtorEq,ne_eq,not_true_eq_false,not_false_eq_true,imp_self,implies_true,bls,eq_self] <;> rfl)
          dsimp only at hj ⊢
          rw [getD_set_ne' (by omega)]
          exact hsame3 j (by omega)
        · have hi3 : i = m.length := by omega
          subst hi3
          have hn3 : m.length < w3.length := by omega
          have d1 := getD_lt hw3 m.length
          have e6 : IntKind.u32.wrap ((w3.getD m.length 0 : Nat) + (ov : Int)) = (((w3.getD m.length 0 + ov) % 4294967296 : Nat) : Int) := by rw [IntKind.wrap_u32]; omega
          simp (disch:=first|assumption|omega|(simp only [lens];omega)) only [eqs,↓gvd_succ,↓gvd_zero,↓and_of,im_of,im_of trivial,vlt,hP,hst,initS,Nat.reduceBEq,Nat.reduceAdd,Nat.reduceMul,Nat.reduceSub,Nat.reduceDiv,Nat.reduceMod,Nat.reducePow,Nat.reduceLT,Nat.reduceLeDiff,Nat.reduceEqDiff,Int.reduceAdd,Int.reduceSub,Int.reduceNeg,Int.reduceMul,Int.reduceToNat,Int.reducePow,Int.reduceLE,Int.reduceLT,Int.reduceEq,Int.reduceNe,reduceIte,reduceCtorEq,ne_eq,not_true_eq_false,not_false_eq_true,imp_self,implies_true,bls,eq_self,hvs3,hs3,win_get hrl,win_set' hn3,win_set hn3,e6]
          have hX := val_lt (l := w3.take m.length) fun z hz => hw3 z (List.mem_of_mem_take hz)
          rw [List.length_take, Nat.min_eq_left (by omega)] at hX
          have hYV : val w % val m < val m := Nat.mod_lt _ hV0
          have hsp := val_take_succ w2 m.length
          rw [List.take_of_length_le (by omega)] at hsp
          rw [List.take_of_length_le (l := m) (Nat.le_refl _)] at hinv3
          have htl := top_limb (X := val (w3.take m.length)) (Y := val w % val m) (P := 4294967296 ^ m.length) (t := w3.getD m.length 0 + ov) hX (by omega) (by omega) (by
            rw [Nat.mul_add, hsame3 m.length (Nat.le_refl _), Nat.mul_comm _ ov]
            rw [hsp, Nat.pow_succ] at hW
            omega)
          refine hK _ (by simp [hw3l]) (set_lt hw3 (Nat.mod_lt _ (by omega))) ?_
          have := val_take_set (v := (w3.getD m.length 0 + ov) % 4294967296) hn3
          rw [List.take_of_length_le (by simp; omega), htl.1] at this
          rw [htl.1, this, htl.2]
          simp
      · have hb3 : bw2 = 0 := by omega
        subst hb3
        rw [Nat.zero_mul, Nat.add_zero] at hst2
        obtain ⟨hgq, hW⟩ := fin_right hV0 hqq.symm hqg hst2
        subst hgq
        simp (disch:=first|assumption|omega|(simp only [lens];omega)) only [eqs,↓gvd_succ,↓gvd_zero,↓and_of,im_of,im_of trivial,vlt,hP,hst,initS,Nat.reduceBEq,Nat.reduceAdd,Nat.reduceMul,Nat.reduceSub,Nat.reduceDiv,Nat.reduceMod,Nat.reducePow,Nat.reduceLT,Nat.reduceLeDiff,Nat.reduceEqDiff,Int.reduceAdd,Int.reduceSub,Int.reduceNeg,Int.reduceMul,Int.reduceToNat,Int.reducePow,Int.reduceLE,Int.reduceLT,Int.reduceEq,Int.reduceNe,reduceIte,reduceCtorEq,ne_eq,not_true_eq_false,not_false_eq_true,imp_self,implies_true,bls,eq_self,hvs2,hs2]
        exact hK w2 hw2l hw2 hW
end Go.Proofs.Pv
