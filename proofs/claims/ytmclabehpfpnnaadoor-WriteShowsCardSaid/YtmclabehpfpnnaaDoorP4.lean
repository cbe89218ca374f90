/- Data: how many there are. -/
import Derived.Test.YtmclabehpfpnnaaDoorK0
import Derived.Test.YtmclabehpfpnnaaDoorW14
import Derived.Test.YtmclabehpfpnnaaDoorS1
import Derived.Test.YtmclabehpfpnnaaDoorM7
import Derived.Test.YtmclabehpfpnnaaDoorQ2
set_option linter.unusedSimpArgs false
set_option linter.unusedVariables false
namespace Go.Proofs.Pv
open Go Go.RowKit Go.Proofs
set_option maxRecDepth 20000

def RBud (N : Nat) (xs : List AV) (st : St) (K : AV → St → Prop) : Prop := ∃ (x : AV) (d : Dt) (n m : Nat), xs = [x, .val (.int .i64 (n : Int)), .val (.int .i64 (m : Int))] ∧ DA st x d ∧ d.sz < N ∧ n ≤ 1000000 ∧ m ≤ 1000000 ∧ anyw st (.int .i64 (bg d n m)) K
theorem s_budget (N : Nat) : PSpec Tryd.prog 43 (RBud N) := by
  induction N with
  | zero =>
    refine fspec_of (fn := Tryd.f43) 3 [.tmp 6] (by kernel_rfl) rfl rfl (by kernel_rfl) mixed (by rintro _ _ _ ⟨x, d, n, m, rfl, _⟩; rfl) ?_
    rintro X _ st K hP hst ⟨x, d, n, m, rfl, hx, hN, _⟩
    omega
  | succ N ih =>
  refine fspec_of (fn := Tryd.f43) 3 [.tmp 6] (by kernel_rfl) rfl rfl (by kernel_rfl) mixed (by rintro _ _ _ ⟨x, d, n, m, rfl, _⟩; rfl) ?_
  rintro X _ st K hP hst ⟨x, d, n, m, rfl, hx, hN, hn, hm, hK⟩
  obtain ⟨k, g, a, l, b, s, x, y, its, tls, rfl, rfl, ha, hx, hy⟩ := hx.inv
  have hX : X.st1.length ≤ st.length := by rw [hst]; omega
  have la := ha.leaf
  have lx := hx.leaf
  have ly := hy.leaf
  refine vc_V ?_
  simp (disch:=first|assumption|omega|(simp only [lens];omega)) only [eqs,↓gvd_succ,↓gvd_zero,↓and_of,im_of,im_of trivial,vlt,hP,hst,initS,Nat.reduceBEq,Nat.reduceAdd,Nat.reduceMul,Nat.reduceSub,Nat.reduceDiv,Nat.reduceMod,Nat.reducePow,Nat.reduceLT,Nat.reduceLeDiff,Nat.reduceEqDiff,Int.reduceAdd,Int.reduceSub,Int.reduceNeg,Int.reduceMul,Int.reduceToNat,Int.reducePow,Int.reduceLE,Int.reduceLT,Int.reduceEq,Int.reduceNe,reduceIte,reduceCtorEq,ne_eq,not_true_eq_false,not_false_eq_true,imp_self,implies_true,bls,eq_self,la,lx,ly]
  refine G_ndec (fun h => ?_) (fun h => ?_)
  · simp (disch:=first|assumption|omega|(simp only [lens];omega)) only [eqs,↓gvd_succ,↓gvd_zero,↓and_of,im_of,im_of trivial,vlt,hP,hst,initS,Nat.reduceBEq,Nat.reduceAdd,Nat.reduceMul,Nat.reduceSub,Nat.reduceDiv,Nat.reduceMod,Nat.reducePow,Nat.reduceLT,Nat.reduceLeDiff,Nat.reduceEqDiff,Int.reduceAdd,Int.reduceSub,Int.reduceNeg,Int.reduceMul,Int.reduceToNat,Int.reducePow,Int.reduceLE,Int.reduceLT,Int.reduceEq,Int.reduceNe,reduceIte,reduceCtorEq,ne_eq,not_true_eq_false,not_false_eq_true,imp_self,implies_true,bls,eq_self,h]
    refine C_dec (fun h2 => ?_) (fun h2 => ?_)
    · simp (disch:=first|assumption|omega|(simp only [lens];omega)) only [eqs,↓gvd_succ,↓gvd_zero,↓and_of,im_of,im_of trivial,vlt,hP,hst,initS,Nat.reduceBEq,Nat.reduceAdd,Nat.reduceMul,Nat.reduceSub,Nat.reduceDiv,Nat.reduceMod,Nat.reducePow,Nat.reduceLT,Nat.reduceLeDiff,Nat.reduceEqDiff,Int.reduceAdd,Int.reduceSub,Int.reduceNeg,Int.reduceMul,Int.reduceToNat,Int.reducePow,Int.reduceLE,Int.reduceLT,Int.reduceEq,Int.reduceNe,reduceIte,reduceCtorEq,ne_eq,not_true_eq_false,not_false_eq_true,imp_self,implies_true,bls,eq_self]
      rw [bg_none (fun h3 => by have := h3.2; simp only [Dt.dp] at this; omega)] at hK
      exact hK _ (.add _)
    · obtain ⟨n', rfl⟩ : ∃ n', n = n' + 1 := ⟨n - 1, by omega⟩
      obtain ⟨m', rfl⟩ : ∃ m', m = m' + 1 := ⟨m - 1, by omega⟩
      rw [show ((n' + 1 : Nat) : Int) - 1 = (n' : Int) by omega]
      rw [bg_mk] at hK
      rw [sz_mk] at hN
      simp (disch:=first|assumption|omega|(simp only [lens];omega)) only [eqs,↓gvd_succ,↓gvd_zero,↓and_of,im_of,im_of trivial,vlt,hP,hst,initS,Nat.reduceBEq,Nat.reduceAdd,Nat.reduceMul,Nat.reduceSub,Nat.reduceDiv,Nat.reduceMod,Nat.reducePow,Nat.reduceLT,Nat.reduceLeDiff,Nat.reduceEqDiff,Int.reduceAdd,Int.reduceSub,Int.reduceNeg,Int.reduceMul,Int.reduceToNat,Int.reducePow,Int.reduceLE,Int.reduceLT,Int.reduceEq,Int.reduceNe,reduceIte,reduceCtorEq,ne_eq,not_true_eq_false,not_false_eq_true,imp_self,implies_true,bls,eq_self]
      refine V_loop (ι := Nat × St) (fun e => [(24, .val (.int .i64 (e.1 : Int))), (23, .agg [x, y]), (1, .val (.int .i64 ((n' - szs (pre2 its tls e.1) : Nat) : Int))), (2, .val (.int .i64 ((m' + 1 : Nat) : Int)))]) (fun e => e.2)
        (fun e => Ext st e.2 ∧ e.1 ≤ 2 ∧ szs (pre2 its tls e.1) ≤ n' ∧ dps (pre2 its tls e.1) ≤ m') (fun e => 2 - e.1) (0, _) ⟨.add _, by simp, by simp [pre2, szs], by simp [pre2, dps]⟩ rfl (by simp (disch:=first|assumption|omega|(simp only [lens];omega)) only [eqs,↓gvd_succ,↓gvd_zero,↓and_of,im_of,im_of trivial,vlt,hP,hst,initS,Nat.reduceBEq,Nat.reduceAdd,Nat.reduceMul,Nat.reduceSub,Nat.reduceDiv,Nat.reduceMod,Nat.reducePow,Nat.reduceLT,Nat.reduceLeDiff,Nat.reduceEqDiff,Int.reduceAdd,Int.reduceSub,Int.reduceNeg,Int.reduceMul,Int.reduceToNat,Int.reducePow,Int.reduceLE,Int.reduceLT,Int.reduceEq,Int.reduceNe,reduceIte,reduceCtorEq,ne_eq,not_true_eq_false,not_false_eq_true,imp_self,implies_true,bls,eq_self,pre2,szs] <;> rfl) ?_
      rintro ⟨j, T⟩ ⟨hT, hj, hs1, hd1⟩
      dsimp only at hT hj hs1 hd1 ⊢
      simp (disch:=first|assumption|omega|(simp only [lens];omega)) only [eqs,↓gvd_succ,↓gvd_zero,↓and_of,im_of,im_of trivial,vlt,hP,hst,initS,Nat.reduceBEq,Nat.reduceAdd,Nat.reduceMul,Nat.reduceSub,Nat.reduceDiv,Nat.reduceMod,Nat.reducePow,Nat.reduceLT,Nat.reduceLeDiff,Nat.reduceEqDiff,Int.reduceAdd,Int.reduceSub,Int.reduceNeg,Int.reduceMul,Int.reduceToNat,Int.reducePow,Int.reduceLE,Int.reduceLT,Int.reduceEq,Int.reduceNe,reduceIte,reduceCtorEq,ne_eq,not_true_eq_false,not_false_eq_true,imp_self,implies_true,bls,eq_self]
      refine C_dec (fun h3 => ?_) (fun h3 => ?_)
      · obtain ⟨z, ds, hz, hzd, hp⟩ := pre2_step its tls x y (j := j) (by omega)
        have hle : szs ds ≤ szs its + szs tls := by rcases hzd with ⟨_, rfl⟩ | ⟨_, rfl⟩ <;> omega
        have hds : DS st z ds := by rcases hzd with ⟨rfl, rfl⟩ | ⟨rfl, rfl⟩ <;> assumption
        simp (disch:=first|assumption|omega|(simp only [lens];omega)) only [eqs,↓gvd_succ,↓gvd_zero,↓and_of,im_of,im_of trivial,vlt,hP,hst,initS,Nat.reduceBEq,Nat.reduceAdd,Nat.reduceMul,Nat.reduceSub,Nat.reduceDiv,Nat.reduceMod,Nat.reducePow,Nat.reduceLT,Nat.reduceLeDiff,Nat.reduceEqDiff,Int.reduceAdd,Int.reduceSub,Int.reduceNeg,Int.reduceMul,Int.reduceToNat,Int.reducePow,Int.reduceLE,Int.reduceLT,Int.reduceEq,Int.reduceNe,reduceIte,reduceCtorEq,ne_eq,not_true_eq_false,not_false_eq_true,imp_self,implies_true,bls,eq_self]
        refine F_idx hz rfl (by omega) ?_
        obtain ⟨cs, hsl, hdl, hcl⟩ := (hds.ext hT).inv
        simp (disch:=first|assumption|omega|(simp only [lens];omega)) only [eqs,↓gvd_succ,↓gvd_zero,↓and_of,im_of,im_of trivial,vlt,hP,hst,initS,Nat.reduceBEq,Nat.reduceAdd,Nat.reduceMul,Nat.reduceSub,Nat.reduceDiv,Nat.reduceMod,Nat.reducePow,Nat.reduceLT,Nat.reduceLeDiff,Nat.reduceEqDiff,Int.reduceAdd,Int.reduceSub,Int.reduceNeg,Int.reduceMul,Int.reduceToNat,Int.reducePow,Int.reduceLE,Int.reduceLT,Int.reduceEq,Int.reduceNe,reduceIte,reduceCtorEq,ne_eq,not_true_eq_false,not_false_eq_true,imp_self,implies_true,bls,eq_self,hsl]
        refine fun hlen => ?_
        refine V_loop (ι := Nat × St) (fun e => [(29, .val (.int .i64 (e.1 : Int))), (28, .val (.int .i64 (ds.length : Int))), (27, z), (1, .val (.int .i64 ((n' - szs (pre2 its tls j) - szs (ds.take e.1) : Nat) : Int))), (2, .val (.int .i64 ((m' + 1 : Nat) : Int))), (24, .val (.int .i64 (j : Int))), (23, .agg [x, y])]) (fun e => e.2)
          (fun e => Ext T e.2 ∧ e.1 ≤ ds.length ∧ szs (pre2 its tls j) + szs (ds.take e.1) ≤ n' ∧ dps (ds.take e.1) ≤ m') (fun e => ds.length - e.1) (0, T) ⟨.refl, by simp, by simpa [szs] using hs1, by simp [dps]⟩ rfl (by simp (disch:=first|assumption|omega|(simp only [lens];omega)) only [eqs,↓gvd_succ,↓gvd_zero,↓and_of,im_of,im_of trivial,vlt,hP,hst,initS,Nat.reduceBEq,Nat.reduceAdd,Nat.reduceMul,Nat.reduceSub,Nat.reduceDiv,Nat.reduceMod,Nat.reducePow,Nat.reduceLT,Nat.reduceLeDiff,Nat.reduceEqDiff,Int.reduceAdd,Int.reduceSub,Int.reduceNeg,Int.reduceMul,Int.reduceToNat,Int.reducePow,Int.reduceLE,Int.reduceLT,Int.reduceEq,Int.reduceNe,reduceIte,reduceCtorEq,ne_eq,not_true_eq_false,not_false_eq_true,imp_self,implies_true,bls,eq_self,List.take_zero,szs] <;> rfl) ?_
        rintro ⟨i, U⟩ ⟨hU, hi, hs2, hd2⟩
        dsimp only at hU hi hs2 hd2 ⊢
        obtain ⟨cs, hsl, hdl, hcl⟩ := (hds.ext (hT.trans hU)).inv
        simp (disch:=first|assumption|omega|(simp only [lens];omega)) only [eqs,↓gvd_succ,↓gvd_zero,↓and_of,im_of,im_of trivial,vlt,hP,hst,initS,Nat.reduceBEq,Nat.reduceAdd,Nat.reduceMul,Nat.reduceSub,Nat.reduceDiv,Nat.reduceMod,Nat.reducePow,Nat.reduceLT,Nat.reduceLeDiff,Nat.reduceEqDiff,Int.reduceAdd,Int.reduceSub,Int.reduceNeg,Int.reduceMul,Int.reduceToNat,Int.reducePow,Int.reduceLE,Int.reduceLT,Int.reduceEq,Int.reduceNe,reduceIte,reduceCtorEq,ne_eq,not_true_eq_false,not_false_eq_true,imp_self,implies_true,bls,eq_self]
        refine C_dec (fun h4 => ?_) (fun h4 => ?_)
        · obtain ⟨cs, c, e, hsl, hcl, hc, hc7, hca, he, hec, hl1, hl2⟩ := (hds.ext (hT.trans hU)).at (i := i) (by omega)
          have hXl := Nat.le_trans hX (hT.trans hU).len
          have hes := szs_mem (List.mem_of_getElem? he)
          have hps := szs_app (ds := pre2 its tls j) (es := ds)
          have htk := szs_take he
          have hdk := dps_take he
          simp (disch:=first|assumption|omega|(simp only [lens];omega)) only [eqs,↓gvd_succ,↓gvd_zero,↓and_of,im_of,im_of trivial,vlt,hP,hst,initS,Nat.reduceBEq,Nat.reduceAdd,Nat.reduceMul,Nat.reduceSub,Nat.reduceDiv,Nat.reduceMod,Nat.reducePow,Nat.reduceLT,Nat.reduceLeDiff,Nat.reduceEqDiff,Int.reduceAdd,Int.reduceSub,Int.reduceNeg,Int.reduceMul,Int.reduceToNat,Int.reducePow,Int.reduceLE,Int.reduceLT,Int.reduceEq,Int.reduceNe,reduceIte,reduceCtorEq,ne_eq,not_true_eq_false,not_false_eq_true,imp_self,implies_true,bls,eq_self,hsl,hcl,hc,hca,take7 hc7,zD_drop,zD_len,List.append_nil,Int.add_sub_cancel,hXl,hl1,hl2]
          refine E_call (hP ▸ ih) ⟨_, e, _, _, rfl, ⟨c, rfl, hec.ext (.add _)⟩, by omega, by omega, by omega, fun V hV => ?_⟩
          have eV : Ext st V := (hT.trans hU).trans ((Ext.add _).trans hV)
          simp (disch:=first|assumption|omega|(simp only [lens];omega)) only [eqs,↓gvd_succ,↓gvd_zero,↓and_of,im_of,im_of trivial,vlt,hP,hst,initS,Nat.reduceBEq,Nat.reduceAdd,Nat.reduceMul,Nat.reduceSub,Nat.reduceDiv,Nat.reduceMod,Nat.reducePow,Nat.reduceLT,Nat.reduceLeDiff,Nat.reduceEqDiff,Int.reduceAdd,Int.reduceSub,Int.reduceNeg,Int.reduceMul,Int.reduceToNat,Int.reducePow,Int.reduceLE,Int.reduceLT,Int.reduceEq,Int.reduceNe,reduceIte,reduceCtorEq,ne_eq,not_true_eq_false,not_false_eq_true,imp_self,implies_true,bls,eq_self]
          have hj1 := pre2_le its tls (j + 1)
          rw [hp, hps, dps_app] at hj1
          have hte := szs_take_le (ds := ds) (i := i + 1)
          have hpe := dps_mem (List.mem_of_getElem? he)
          refine C_dec (fun h5 => ?_) (fun h5 => ?_)
          · rw [bg_neg] at h5
            simp (disch:=first|assumption|omega|(simp only [lens];omega)) only [eqs,↓gvd_succ,↓gvd_zero,↓and_of,im_of,im_of trivial,vlt,hP,hst,initS,Nat.reduceBEq,Nat.reduceAdd,Nat.reduceMul,Nat.reduceSub,Nat.reduceDiv,Nat.reduceMod,Nat.reducePow,Nat.reduceLT,Nat.reduceLeDiff,Nat.reduceEqDiff,Int.reduceAdd,Int.reduceSub,Int.reduceNeg,Int.reduceMul,Int.reduceToNat,Int.reducePow,Int.reduceLE,Int.reduceLT,Int.reduceEq,Int.reduceNe,reduceIte,reduceCtorEq,ne_eq,not_true_eq_false,not_false_eq_true,imp_self,implies_true,bls,eq_self]
            unfold bgs at hK
            rw [if_neg (by omega)] at hK
            exact hK _ eV
          · rw [bg_neg] at h5
            have h5 := Classical.not_not.1 h5
            simp (disch:=first|assumption|omega|(simp only [lens];omega)) only [eqs,↓gvd_succ,↓gvd_zero,↓and_of,im_of,im_of trivial,vlt,hP,hst,initS,Nat.reduceBEq,Nat.reduceAdd,Nat.reduceMul,Nat.reduceSub,Nat.reduceDiv,Nat.reduceMod,Nat.reducePow,Nat.reduceLT,Nat.reduceLeDiff,Nat.reduceEqDiff,Int.reduceAdd,Int.reduceSub,Int.reduceNeg,Int.reduceMul,Int.reduceToNat,Int.reducePow,Int.reduceLE,Int.reduceLT,Int.reduceEq,Int.reduceNe,reduceIte,reduceCtorEq,ne_eq,not_true_eq_false,not_false_eq_true,imp_self,implies_true,bls,eq_self,bg_pos h5]
            refine again (i + 1, V) ⟨hU.trans ((Ext.add _).trans hV), by dsimp only; omega, by dsimp only; omega, by dsimp only; omega⟩ (by dsimp only; omega) rfl (by dsimp only; simp (disch:=first|assumption|omega|(simp only [lens];omega)) only [eqs,↓gvd_succ,↓gvd_zero,↓and_of,im_of,im_of trivial,vlt,hP,hst,initS,Nat.reduceBEq,Nat.reduceAdd,Nat.reduceMul,Nat.reduceSub,Nat.reduceDiv,Nat.reduceMod,Nat.reducePow,Nat.reduceLT,Nat.reduceLeDiff,Nat.reduceEqDiff,Int.reduceAdd,Int.reduceSub,Int.reduceNeg,Int.reduceMul,Int.reduceToNat,Int.reducePow,Int.reduceLE,Int.reduceLT,Int.reduceEq,Int.reduceNe,reduceIte,reduceCtorEq,ne_eq,not_true_eq_false,not_false_eq_true,imp_self,implies_true,bls,eq_self,htk,Nat.sub_sub,Nat.add_assoc] <;> rfl)
        · have hi2 : i = ds.length := by omega
          subst hi2
          rw [List.take_length] at hs2 hd2
          simp (disch:=first|assumption|omega|(simp only [lens];omega)) only [eqs,↓gvd_succ,↓gvd_zero,↓and_of,im_of,im_of trivial,vlt,hP,hst,initS,Nat.reduceBEq,Nat.reduceAdd,Nat.reduceMul,Nat.reduceSub,Nat.reduceDiv,Nat.reduceMod,Nat.reducePow,Nat.reduceLT,Nat.reduceLeDiff,Nat.reduceEqDiff,Int.reduceAdd,Int.reduceSub,Int.reduceNeg,Int.reduceMul,Int.reduceToNat,Int.reducePow,Int.reduceLE,Int.reduceLT,Int.reduceEq,Int.reduceNe,reduceIte,reduceCtorEq,ne_eq,not_true_eq_false,not_false_eq_true,imp_self,implies_true,bls,eq_self]
          refine again (j + 1, U) ⟨hT.trans hU, by dsimp only; omega, by dsimp only; rw [hp, szs_app]; omega, by dsimp only; rw [hp, dps_app]; omega⟩ (by dsimp only; omega) rfl (by dsimp only; simp (disch:=first|assumption|omega|(simp only [lens];omega)) only [eqs,↓gvd_succ,↓gvd_zero,↓and_of,im_of,im_of trivial,vlt,hP,hst,initS,Nat.reduceBEq,Nat.reduceAdd,Nat.reduceMul,Nat.reduceSub,Nat.reduceDiv,Nat.reduceMod,Nat.reducePow,Nat.reduceLT,Nat.reduceLeDiff,Nat.reduceEqDiff,Int.reduceAdd,Int.reduceSub,Int.reduceNeg,Int.reduceMul,Int.reduceToNat,Int.reducePow,Int.reduceLE,Int.reduceLT,Int.reduceEq,Int.reduceNe,reduceIte,reduceCtorEq,ne_eq,not_true_eq_false,not_false_eq_true,imp_self,implies_true,bls,eq_self,hp,szs_app,List.take_length,Nat.sub_sub] <;> rfl)
      · rw [pre2_end _ _ (by omega)] at hs1 hd1 ⊢
        simp (disch:=first|assumption|omega|(simp only [lens];omega)) only [eqs,↓gvd_succ,↓gvd_zero,↓and_of,im_of,im_of trivial,vlt,hP,hst,initS,Nat.reduceBEq,Nat.reduceAdd,Nat.reduceMul,Nat.reduceSub,Nat.reduceDiv,Nat.reduceMod,Nat.reducePow,Nat.reduceLT,Nat.reduceLeDiff,Nat.reduceEqDiff,Int.reduceAdd,Int.reduceSub,Int.reduceNeg,Int.reduceMul,Int.reduceToNat,Int.reducePow,Int.reduceLE,Int.reduceLT,Int.reduceEq,Int.reduceNe,reduceIte,reduceCtorEq,ne_eq,not_true_eq_false,not_false_eq_true,imp_self,implies_true,bls,eq_self]
        unfold bgs at hK
        rw [if_pos ⟨hs1, hd1⟩] at hK
        exact hK _ hT
  · simp (disch:=first|assumption|omega|(simp only [lens];omega)) only [eqs,↓gvd_succ,↓gvd_zero,↓and_of,im_of,im_of trivial,vlt,hP,hst,initS,Nat.reduceBEq,Nat.reduceAdd,Nat.reduceMul,Nat.reduceSub,Nat.reduceDiv,Nat.reduceMod,Nat.reducePow,Nat.reduceLT,Nat.reduceLeDiff,Nat.reduceEqDiff,Int.reduceAdd,Int.reduceSub,Int.reduceNeg,Int.reduceMul,Int.reduceToNat,Int.reducePow,Int.reduceLE,Int.reduceLT,Int.reduceEq,Int.reduceNe,reduceIte,reduceCtorEq,ne_eq,not_true_eq_false,not_false_eq_true,imp_self,implies_true,bls,eq_self,h]
    rw [bg_none (fun h3 => by have := h3.1; simp only [Dt.sz] at this; omega)] at hK
    exact hK _ (.add _)
theorem s_within (N : Nat) : PSpec Tryd.prog 120 (RBud N) := by
  induction N with
  | zero =>
    refine fspec_of (fn := Tryd.f120) 3 [.tmp 6] (by kernel_rfl) rfl rfl (by kernel_rfl) mixed (by rintro _ _ _ ⟨x, d, n, m, rfl, _⟩; rfl) ?_
    rintro X _ st K hP hst ⟨x, d, n, m, rfl, hx, hN, _⟩
    omega
  | succ N ih =>
  refine fspec_of (fn := Tryd.f120) 3 [.tmp 6] (by kernel_rfl) rfl rfl (by kernel_rfl) mixed (by rintro _ _ _ ⟨x, d, n, m, rfl, _⟩; rfl) ?_
  rintro X _ st K hP hst ⟨x, d, n, m, rfl, hx, hN, hn, hm, hK⟩
  obtain ⟨k, g, a, l, b, s, x, y, its, tls, rfl, rfl, ha, hx, hy⟩ := hx.inv
  have hX : X.st1.length ≤ st.length := by rw [hst]; omega
  have la := ha.leaf
  have lx := hx.leaf
  have ly := hy.leaf
  refine vc_V ?_
  simp (disch:=first|assumption|omega|(simp only [lens];omega)) only [eqs,↓gvd_succ,↓gvd_zero,↓and_of,im_of,im_of trivial,vlt,hP,hst,initS,Nat.reduceBEq,Nat.reduceAdd,Nat.reduceMul,Nat.reduceSub,Nat.reduceDiv,Nat.reduceMod,Nat.reducePow,Nat.reduceLT,Nat.reduceLeDiff,Nat.reduceEqDiff,Int.reduceAdd,Int.reduceSub,Int.reduceNeg,Int.reduceMul,Int.reduceToNat,Int.reducePow,Int.reduceLE,Int.reduceLT,Int.reduceEq,Int.reduceNe,reduceIte,reduceCtorEq,ne_eq,not_true_eq_false,not_false_eq_true,imp_self,implies_true,bls,eq_self,la,lx,ly]
  refine G_ndec (fun h => ?_) (fun h => ?_)
  · simp (disch:=first|assumption|omega|(simp only [lens];omega)) only [eqs,↓gvd_succ,↓gvd_zero,↓and_of,im_of,im_of trivial,vlt,hP,hst,initS,Nat.reduceBEq,Nat.reduceAdd,Nat.reduceMul,Nat.reduceSub,Nat.reduceDiv,Nat.reduceMod,Nat.reducePow,Nat.reduceLT,Nat.reduceLeDiff,Nat.reduceEqDiff,Int.reduceAdd,Int.reduceSub,Int.reduceNeg,Int.reduceMul,Int.reduceToNat,Int.reducePow,Int.reduceLE,Int.reduceLT,Int.reduceEq,Int.reduceNe,reduceIte,reduceCtorEq,ne_eq,not_true_eq_false,not_false_eq_true,imp_self,implies_true,bls,eq_self,h]
    refine C_dec (fun h2 => ?_) (fun h2 => ?_)
    · simp (disch:=first|assumption|omega|(simp only [lens];omega)) only [eqs,↓gvd_succ,↓gvd_zero,↓and_of,im_of,im_of trivial,vlt,hP,hst,initS,Nat.reduceBEq,Nat.reduceAdd,Nat.reduceMul,Nat.reduceSub,Nat.reduceDiv,Nat.reduceMod,Nat.reducePow,Nat.reduceLT,Nat.reduceLeDiff,Nat.reduceEqDiff,Int.reduceAdd,Int.reduceSub,Int.reduceNeg,Int.reduceMul,Int.reduceToNat,Int.reducePow,Int.reduceLE,Int.reduceLT,Int.reduceEq,Int.reduceNe,reduceIte,reduceCtorEq,ne_eq,not_true_eq_false,not_false_eq_true,imp_self,implies_true,bls,eq_self]
      rw [bg_none (fun h3 => by have := h3.2; simp only [Dt.dp] at this; omega)] at hK
      exact hK _ (.add _)
    · obtain ⟨n', rfl⟩ : ∃ n', n = n' + 1 := ⟨n - 1, by omega⟩
      obtain ⟨m', rfl⟩ : ∃ m', m = m' + 1 := ⟨m - 1, by omega⟩
      rw [show ((n' + 1 : Nat) : Int) - 1 = (n' : Int) by omega]
      rw [bg_mk] at hK
      rw [sz_mk] at hN
      simp (disch:=first|assumption|omega|(simp only [lens];omega)) only [eqs,↓gvd_succ,↓gvd_zero,↓and_of,im_of,im_of trivial,vlt,hP,hst,initS,Nat.reduceBEq,Nat.reduceAdd,Nat.reduceMul,Nat.reduceSub,Nat.reduceDiv,Nat.reduceMod,Nat.reducePow,Nat.reduceLT,Nat.reduceLeDiff,Nat.reduceEqDiff,Int.reduceAdd,Int.reduceSub,Int.reduceNeg,Int.reduceMul,Int.reduceToNat,Int.reducePow,Int.reduceLE,Int.reduceLT,Int.reduceEq,Int.reduceNe,reduceIte,reduceCtorEq,ne_eq,not_true_eq_false,not_false_eq_true,imp_self,implies_true,bls,eq_self]
      refine V_loop (ι := Nat × St) (fun e => [(23, .val (.int .i64 (e.1 : Int))), (22, .agg [x, y]), (1, .val (.int .i64 ((n' - szs (pre2 its tls e.1) : Nat) : Int))), (2, .val (.int .i64 ((m' + 1 : Nat) : Int)))]) (fun e => e.2)
        (fun e => Ext st e.2 ∧ e.1 ≤ 2 ∧ szs (pre2 its tls e.1) ≤ n' ∧ dps (pre2 its tls e.1) ≤ m') (fun e => 2 - e.1) (0, _) ⟨.add _, by simp, by simp [pre2, szs], by simp [pre2, dps]⟩ rfl (by simp (disch:=first|assumption|omega|(simp only [lens];omega)) only [eqs,↓gvd_succ,↓gvd_zero,↓and_of,im_of,im_of trivial,vlt,hP,hst,initS,Nat.reduceBEq,Nat.reduceAdd,Nat.reduceMul,Nat.reduceSub,Nat.reduceDiv,Nat.reduceMod,Nat.reducePow,Nat.reduceLT,Nat.reduceLeDiff,Nat.reduceEqDiff,Int.reduceAdd,Int.reduceSub,Int.reduceNeg,Int.reduceMul,Int.reduceToNat,Int.reducePow,Int.reduceLE,Int.reduceLT,Int.reduceEq,Int.reduceNe,reduceIte,reduceCtorEq,ne_eq,not_true_eq_false,not_false_eq_true,imp_self,implies_true,bls,eq_self,pre2,szs] <;> rfl) ?_
      rintro ⟨j, T⟩ ⟨hT, hj, hs1, hd1⟩
      dsimp only at hT hj hs1 hd1 ⊢
      simp (disch:=first|assumption|omega|(simp only [lens];omega)) only [eqs,↓gvd_succ,↓gvd_zero,↓and_of,im_of,im_of trivial,vlt,hP,hst,initS,Nat.reduceBEq,Nat.reduceAdd,Nat.reduceMul,Nat.reduceSub,Nat.reduceDiv,Nat.reduceMod,Nat.reducePow,Nat.reduceLT,Nat.reduceLeDiff,Nat.reduceEqDiff,Int.reduceAdd,Int.reduceSub,Int.reduceNeg,Int.reduceMul,Int.reduceToNat,Int.reducePow,Int.reduceLE,Int.reduceLT,Int.reduceEq,Int.reduceNe,reduceIte,reduceCtorEq,ne_eq,not_true_eq_false,not_false_eq_true,imp_self,implies_true,bls,eq_self]
      refine C_dec (fun h3 => ?_) (fun h3 => ?_)
      · obtain ⟨z, ds, hz, hzd, hp⟩ := pre2_step its tls x y (j := j) (by omega)
        have hle : szs ds ≤ szs its + szs tls := by rcases hzd with ⟨_, rfl⟩ | ⟨_, rfl⟩ <;> omega
        have hds : DS st z ds := by rcases hzd with ⟨rfl, rfl⟩ | ⟨rfl, rfl⟩ <;> assumption
        simp (disch:=first|assumption|omega|(simp only [lens];omega)) only [eqs,↓gvd_succ,↓gvd_zero,↓and_of,im_of,im_of trivial,vlt,hP,hst,initS,Nat.reduceBEq,Nat.reduceAdd,Nat.reduceMul,Nat.reduceSub,Nat.reduceDiv,Nat.reduceMod,Nat.reducePow,Nat.reduceLT,Nat.reduceLeDiff,Nat.reduceEqDiff,Int.reduceAdd,Int.reduceSub,Int.reduceNeg,Int.reduceMul,Int.reduceToNat,Int.reducePow,Int.reduceLE,Int.reduceLT,Int.reduceEq,Int.reduceNe,reduceIte,reduceCtorEq,ne_eq,not_true_eq_false,not_false_eq_true,imp_self,implies_true,bls,eq_self]
        refine F_idx hz rfl (by omega) ?_
        obtain ⟨cs, hsl, hdl, hcl⟩ := (hds.ext hT).inv
        simp (disch:=first|assumption|omega|(simp only [lens];omega)) only [eqs,↓gvd_succ,↓gvd_zero,↓and_of,im_of,im_of trivial,vlt,hP,hst,initS,Nat.reduceBEq,Nat.reduceAdd,Nat.reduceMul,Nat.reduceSub,Nat.reduceDiv,Nat.reduceMod,Nat.reducePow,Nat.reduceLT,Nat.reduceLeDiff,Nat.reduceEqDiff,Int.reduceAdd,Int.reduceSub,Int.reduceNeg,Int.reduceMul,Int.reduceToNat,Int.reducePow,Int.reduceLE,Int.reduceLT,Int.reduceEq,Int.reduceNe,reduceIte,reduceCtorEq,ne_eq,not_true_eq_false,not_false_eq_true,imp_self,implies_true,bls,eq_self,hsl]
        refine fun hlen => ?_
        refine V_loop (ι := Nat × St) (fun e => [(28, .val (.int .i64 (e.1 : Int))), (27, .val (.int .i64 (ds.length : Int))), (8, z), (1, .val (.int .i64 ((n' - szs (pre2 its tls j) - szs (ds.take e.1) : Nat) : Int))), (2, .val (.int .i64 ((m' + 1 : Nat) : Int))), (23, .val (.int .i64 (j : Int))), (22, .agg [x, y])]) (fun e => e.2)
          (fun e => Ext T e.2 ∧ e.1 ≤ ds.length ∧ szs (pre2 its tls j) + szs (ds.take e.1) ≤ n' ∧ dps (ds.take e.1) ≤ m') (fun e => ds.length - e.1) (0, T) ⟨.refl, by simp, by simpa [szs] using hs1, by simp [dps]⟩ rfl (by simp (disch:=first|assumption|omega|(simp only [lens];omega)) only [eqs,↓gvd_succ,↓gvd_zero,↓and_of,im_of,im_of trivial,vlt,hP,hst,initS,Nat.reduceBEq,Nat.reduceAdd,Nat.reduceMul,Nat.reduceSub,Nat.reduceDiv,Nat.reduceMod,Nat.reducePow,Nat.reduceLT,Nat.reduceLeDiff,Nat.reduceEqDiff,Int.reduceAdd,Int.reduceSub,Int.reduceNeg,Int.reduceMul,Int.reduceToNat,Int.reducePow,Int.reduceLE,Int.reduceLT,Int.reduceEq,Int.reduceNe,reduceIte,reduceCtorEq,ne_eq,not_true_eq_false,not_false_eq_true,imp_self,implies_true,bls,eq_self,List.take_zero,szs] <;> rfl) ?_
        rintro ⟨i, U⟩ ⟨hU, hi, hs2, hd2⟩
        dsimp only at hU hi hs2 hd2 ⊢
        obtain ⟨cs, hsl, hdl, hcl⟩ := (hds.ext (hT.trans hU)).inv
        simp (disch:=first|assumption|omega|(simp only [lens];omega)) only [eqs,↓gvd_succ,↓gvd_zero,↓and_of,im_of,im_of trivial,vlt,hP,hst,initS,Nat.reduceBEq,Nat.reduceAdd,Nat.reduceMul,Nat.reduceSub,Nat.reduceDiv,Nat.reduceMod,Nat.reducePow,Nat.reduceLT,Nat.reduceLeDiff,Nat.reduceEqDiff,Int.reduceAdd,Int.reduceSub,Int.reduceNeg,Int.reduceMul,Int.reduceToNat,Int.reducePow,Int.reduceLE,Int.reduceLT,Int.reduceEq,Int.reduceNe,reduceIte,reduceCtorEq,ne_eq,not_true_eq_false,not_false_eq_true,imp_self,implies_true,bls,eq_self]
        refine C_dec (fun h4 => ?_) (fun h4 => ?_)
        · obtain ⟨cs, c, e, hsl, hcl, hc, hc7, hca, he, hec, hl1, hl2⟩ := (hds.ext (hT.trans hU)).at (i := i) (by omega)
          have hXl := Nat.le_trans hX (hT.trans hU).len
          have hes := szs_mem (List.mem_of_getElem? he)
          have hps := szs_app (ds := pre2 its tls j) (es := ds)
          have htk := szs_take he
          have hdk := dps_take he
          simp (disch:=first|assumption|omega|(simp only [lens];omega)) only [eqs,↓gvd_succ,↓gvd_zero,↓and_of,im_of,im_of trivial,vlt,hP,hst,initS,Nat.reduceBEq,Nat.reduceAdd,Nat.reduceMul,Nat.reduceSub,Nat.reduceDiv,Nat.reduceMod,Nat.reducePow,Nat.reduceLT,Nat.reduceLeDiff,Nat.reduceEqDiff,Int.reduceAdd,Int.reduceSub,Int.reduceNeg,Int.reduceMul,Int.reduceToNat,Int.reducePow,Int.reduceLE,Int.reduceLT,Int.reduceEq,Int.reduceNe,reduceIte,reduceCtorEq,ne_eq,not_true_eq_false,not_false_eq_true,imp_self,implies_true,bls,eq_self,hsl,hcl,hc,hca,take7 hc7,zD_drop,zD_len,List.append_nil,Int.add_sub_cancel,hXl,hl1,hl2]
          refine E_call (hP ▸ ih) ⟨_, e, _, _, rfl, ⟨c, rfl, hec⟩, by omega, by omega, by omega, fun V hV => ?_⟩
          have eV : Ext st V := (hT.trans hU).trans hV
          simp (disch:=first|assumption|omega|(simp only [lens];omega)) only [eqs,↓gvd_succ,↓gvd_zero,↓and_of,im_of,im_of trivial,vlt,hP,hst,initS,Nat.reduceBEq,Nat.reduceAdd,Nat.reduceMul,Nat.reduceSub,Nat.reduceDiv,Nat.reduceMod,Nat.reducePow,Nat.reduceLT,Nat.reduceLeDiff,Nat.reduceEqDiff,Int.reduceAdd,Int.reduceSub,Int.reduceNeg,Int.reduceMul,Int.reduceToNat,Int.reducePow,Int.reduceLE,Int.reduceLT,Int.reduceEq,Int.reduceNe,reduceIte,reduceCtorEq,ne_eq,not_true_eq_false,not_false_eq_true,imp_self,implies_true,bls,eq_self]
          have hj1 := pre2_le its tls (j + 1)
          rw [hp, hps, dps_app] at hj1
          have hte := szs_take_le (ds := ds) (i := i + 1)
          have hpe := dps_mem (List.mem_of_getElem? he)
          refine C_dec (fun h5 => ?_) (fun h5 => ?_)
          · rw [bg_neg] at h5
            simp (disch:=first|assumption|omega|(simp only [lens];omega)) only [eqs,↓gvd_succ,↓gvd_zero,↓and_of,im_of,im_of trivial,vlt,hP,hst,initS,Nat.reduceBEq,Nat.reduceAdd,Nat.reduceMul,Nat.reduceSub,Nat.reduceDiv,Nat.reduceMod,Nat.reducePow,Nat.reduceLT,Nat.reduceLeDiff,Nat.reduceEqDiff,Int.reduceAdd,Int.reduceSub,Int.reduceNeg,Int.reduceMul,Int.reduceToNat,Int.reducePow,Int.reduceLE,Int.reduceLT,Int.reduceEq,Int.reduceNe,reduceIte,reduceCtorEq,ne_eq,not_true_eq_false,not_false_eq_true,imp_self,implies_true,bls,eq_self]
            unfold bgs at hK
            rw [if_neg (by omega)] at hK
            exact hK _ eV
          · rw [bg_neg] at h5
            have h5 := Classical.not_not.1 h5
            simp (disch:=first|assumption|omega|(simp only [lens];omega)) only [eqs,↓gvd_succ,↓gvd_zero,↓and_of,im_of,im_of trivial,vlt,hP,hst,initS,Nat.reduceBEq,Nat.reduceAdd,Nat.reduceMul,Nat.reduceSub,Nat.reduceDiv,Nat.reduceMod,Nat.reducePow,Nat.reduceLT,Nat.reduceLeDiff,Nat.reduceEqDiff,Int.reduceAdd,Int.reduceSub,Int.reduceNeg,Int.reduceMul,Int.reduceToNat,Int.reducePow,Int.reduceLE,Int.reduceLT,Int.reduceEq,Int.reduceNe,reduceIte,reduceCtorEq,ne_eq,not_true_eq_false,not_false_eq_true,imp_self,implies_true,bls,eq_self,bg_pos h5]
            refine again (i + 1, V) ⟨hU.trans hV, by dsimp only; omega, by dsimp only; omega, by dsimp only; omega⟩ (by dsimp only; omega) rfl (by dsimp only; simp (disch:=first|assumption|omega|(simp only [lens];omega)) only [eqs,↓gvd_succ,↓gvd_zero,↓and_of,im_of,im_of trivial,vlt,hP,hst,initS,Nat.reduceBEq,Nat.reduceAdd,Nat.reduceMul,Nat.reduceSub,Nat.reduceDiv,Nat.reduceMod,Nat.reducePow,Nat.reduceLT,Nat.reduceLeDiff,Nat.reduceEqDiff,Int.reduceAdd,Int.reduceSub,Int.reduceNeg,Int.reduceMul,Int.reduceToNat,Int.reducePow,Int.reduceLE,Int.reduceLT,Int.reduceEq,Int.reduceNe,reduceIte,reduceCtorEq,ne_eq,not_true_eq_false,not_false_eq_true,imp_self,implies_true,bls,eq_self,htk,Nat.sub_sub,Nat.add_assoc] <;> rfl)
        · have hi2 : i = ds.length := by omega
          subst hi2
          rw [List.take_length] at hs2 hd2
          simp (disch:=first|assumption|omega|(simp only [lens];omega)) only [eqs,↓gvd_succ,↓gvd_zero,↓and_of,im_of,im_of trivial,vlt,hP,hst,initS,Nat.reduceBEq,Nat.reduceAdd,Nat.reduceMul,Nat.reduceSub,Nat.reduceDiv,Nat.reduceMod,Nat.reducePow,Nat.reduceLT,Nat.reduceLeDiff,Nat.reduceEqDiff,Int.reduceAdd,Int.reduceSub,Int.reduceNeg,Int.reduceMul,Int.reduceToNat,Int.reducePow,Int.reduceLE,Int.reduceLT,Int.reduceEq,Int.reduceNe,reduceIte,reduceCtorEq,ne_eq,not_true_eq_false,not_false_eq_true,imp_self,implies_true,bls,eq_self]
          refine again (j + 1, U) ⟨hT.trans hU, by dsimp only; omega, by dsimp only; rw [hp, szs_app]; omega, by dsimp only; rw [hp, dps_app]; omega⟩ (by dsimp only; omega) rfl (by dsimp only; simp (disch:=first|assumption|omega|(simp only [lens];omega)) only [eqs,↓gvd_succ,↓gvd_zero,↓and_of,im_of,im_of trivial,vlt,hP,hst,initS,Nat.reduceBEq,Nat.reduceAdd,Nat.reduceMul,Nat.reduceSub,Nat.reduceDiv,Nat.reduceMod,Nat.reducePow,Nat.reduceLT,Nat.reduceLeDiff,Nat.reduceEqDiff,Int.reduceAdd,Int.reduceSub,Int.reduceNeg,Int.reduceMul,Int.reduceToNat,Int.reducePow,Int.reduceLE,Int.reduceLT,Int.reduceEq,Int.reduceNe,reduceIte,reduceCtorEq,ne_eq,not_true_eq_false,not_false_eq_true,imp_self,implies_true,bls,eq_self,hp,szs_app,List.take_length,Nat.sub_sub] <;> rfl)
      · rw [pre2_end _ _ (by omega)] at hs1 hd1 ⊢
        simp (disch:=first|assumption|omega|(simp only [lens];omega)) only [eqs,↓gvd_succ,↓gvd_zero,↓and_of,im_of,im_of trivial,vlt,hP,hst,initS,Nat.reduceBEq,Nat.reduceAdd,Nat.reduceMul,Nat.reduceSub,Nat.reduceDiv,Nat.reduceMod,Nat.reducePow,Nat.reduceLT,Nat.reduceLeDiff,Nat.reduceEqDiff,Int.reduceAdd,Int.reduceSub,Int.reduceNeg,Int.reduceMul,Int.reduceToNat,Int.reducePow,Int.reduceLE,Int.reduceLT,Int.reduceEq,Int.reduceNe,reduceIte,reduceCtorEq,ne_eq,not_true_eq_false,not_false_eq_true,imp_self,implies_true,bls,eq_self]
        unfold bgs at hK
        rw [if_pos ⟨hs1, hd1⟩] at hK
        exact hK _ hT
  · simp (disch:=first|assumption|omega|(simp only [lens];omega)) only [eqs,↓gvd_succ,↓gvd_zero,↓and_of,im_of,im_of trivial,vlt,hP,hst,initS,Nat.reduceBEq,Nat.reduceAdd,Nat.reduceMul,Nat.reduceSub,Nat.reduceDiv,Nat.reduceMod,Nat.reducePow,Nat.reduceLT,Nat.reduceLeDiff,Nat.reduceEqDiff,Int.reduceAdd,Int.reduceSub,Int.reduceNeg,Int.reduceMul,Int.reduceToNat,Int.reducePow,Int.reduceLE,Int.reduceLT,Int.reduceEq,Int.reduceNe,reduceIte,reduceCtorEq,ne_eq,not_true_eq_false,not_false_eq_true,imp_self,implies_true,bls,eq_self,h]
    rw [bg_none (fun h3 => by have := h3.1; simp only [Dt.sz] at this; omega)] at hK
    exact hK _ (.add _)

def RFew (n m : Nat) (xs : List AV) (st : St) (K : AV → St → Prop) : Prop := ∃ x d, xs = [x] ∧ DA st x d ∧ anyw st (.bool (decide (d.sz ≤ n ∧ d.dp ≤ m))) K
theorem bg_dec {d : Dt} {n m : Nat} : decide (bg d n m ≥ 0) = decide (d.sz ≤ n ∧ d.dp ≤ m) := by
  rw [decide_eq_decide]
  by_cases h : d.sz ≤ n ∧ d.dp ≤ m
  · rw [bg_pos h]; exact ⟨fun _ => h, fun _ => by omega⟩
  · rw [bg_none h]; exact ⟨fun h2 => by omega, fun h2 => absurd h2 h⟩
theorem s_few : PSpec Tryd.prog 94 (RFew 100000 10000) := by
  refine fspec_of (fn := Tryd.f94) 1 [.tmp 2] (by kernel_rfl) rfl rfl (by kernel_rfl) mixed (by rintro _ _ _ ⟨x, d, rfl, _⟩; rfl) ?_
  rintro X _ st K hP hst ⟨x, d, rfl, hx, hK⟩
  obtain ⟨c, rfl, hc⟩ := hx
  have hca := hc.all
  have hc7 := hc.len
  have t7 := List.take_of_length_le (Nat.le_of_eq hc7)
  refine vc_V ?_
  simp (disch:=first|assumption|omega|(simp only [lens];omega)) only [eqs,↓gvd_succ,↓gvd_zero,↓and_of,im_of,im_of trivial,vlt,hP,hst,initS,Nat.reduceBEq,Nat.reduceAdd,Nat.reduceMul,Nat.reduceSub,Nat.reduceDiv,Nat.reduceMod,Nat.reducePow,Nat.reduceLT,Nat.reduceLeDiff,Nat.reduceEqDiff,Int.reduceAdd,Int.reduceSub,Int.reduceNeg,Int.reduceMul,Int.reduceToNat,Int.reducePow,Int.reduceLE,Int.reduceLT,Int.reduceEq,Int.reduceNe,reduceIte,reduceCtorEq,ne_eq,not_true_eq_false,not_false_eq_true,imp_self,implies_true,bls,eq_self,hca,hc7,t7]
  refine E_call (hP ▸ s_within (d.sz + 1)) ⟨_, d, 100000, 10000, rfl, ⟨c, rfl, hc.ext (.add _)⟩, by omega, by omega, by omega, fun T hT => ?_⟩
  simp (disch:=first|assumption|omega|(simp only [lens];omega)) only [eqs,↓gvd_succ,↓gvd_zero,↓and_of,im_of,im_of trivial,vlt,hP,hst,initS,Nat.reduceBEq,Nat.reduceAdd,Nat.reduceMul,Nat.reduceSub,Nat.reduceDiv,Nat.reduceMod,Nat.reducePow,Nat.reduceLT,Nat.reduceLeDiff,Nat.reduceEqDiff,Int.reduceAdd,Int.reduceSub,Int.reduceNeg,Int.reduceMul,Int.reduceToNat,Int.reducePow,Int.reduceLE,Int.reduceLT,Int.reduceEq,Int.reduceNe,reduceIte,reduceCtorEq,ne_eq,not_true_eq_false,not_false_eq_true,imp_self,implies_true,bls,eq_self,bg_dec]
  exact hK _ ((Ext.add _).trans hT)
def RSmallD (xs : List AV) (st : St) (K : AV → St → Prop) : Prop := ∃ (x : AV) (d : Dt) (n m : Nat), xs = [x, .val (.int .i64 (n : Int)), .val (.int .i64 (m : Int))] ∧ DA st x d ∧ n ≤ 1000000 ∧ m ≤ 1000000 ∧ anyw st (.bool (decide (d.sz ≤ n ∧ d.dp ≤ m))) K
theorem s_Small3 : PSpec Tryd.prog 22 RSmallD := by
  refine fspec_of (fn := Tryd.f22) 3 [.tmp 6] (by kernel_rfl) rfl rfl (by kernel_rfl) mixed (by rintro _ _ _ ⟨x, d, n, m, rfl, _⟩; rfl) ?_
  rintro X _ st K hP hst ⟨x, d, n, m, rfl, hx, hn, hm, hK⟩
  obtain ⟨c, rfl, hc⟩ := hx
  have hca := hc.all
  have hc7 := hc.len
  have t7 := List.take_of_length_le (Nat.le_of_eq hc7)
  refine vc_V ?_
  simp (disch:=first|assumption|omega|(simp only [lens];omega)) only [eqs,↓gvd_succ,↓gvd_zero,↓and_of,im_of,im_of trivial,vlt,hP,hst,initS,Nat.reduceBEq,Nat.reduceAdd,Nat.reduceMul,Nat.reduceSub,Nat.reduceDiv,Nat.reduceMod,Nat.reducePow,Nat.reduceLT,Nat.reduceLeDiff,Nat.reduceEqDiff,Int.reduceAdd,Int.reduceSub,Int.reduceNeg,Int.reduceMul,Int.reduceToNat,Int.reducePow,Int.reduceLE,Int.reduceLT,Int.reduceEq,Int.reduceNe,reduceIte,reduceCtorEq,ne_eq,not_true_eq_false,not_false_eq_true,imp_self,implies_true,bls,eq_self,hca,hc7,t7]
  refine E_call (hP ▸ s_budget (d.sz + 1)) ⟨_, d, n, m, rfl, ⟨c, rfl, hc.ext (.add _)⟩, by omega, by omega, by omega, fun T hT => ?_⟩
  simp (disch:=first|assumption|omega|(simp only [lens];omega)) only [eqs,↓gvd_succ,↓gvd_zero,↓and_of,im_of,im_of trivial,vlt,hP,hst,initS,Nat.reduceBEq,Nat.reduceAdd,Nat.reduceMul,Nat.reduceSub,Nat.reduceDiv,Nat.reduceMod,Nat.reducePow,Nat.reduceLT,Nat.reduceLeDiff,Nat.reduceEqDiff,Int.reduceAdd,Int.reduceSub,Int.reduceNeg,Int.reduceMul,Int.reduceToNat,Int.reducePow,Int.reduceLE,Int.reduceLT,Int.reduceEq,Int.reduceNe,reduceIte,reduceCtorEq,ne_eq,not_true_eq_false,not_false_eq_true,imp_self,implies_true,bls,eq_self,bg_dec]
  exact hK _ ((Ext.add _).trans hT)
end Go.Proofs.Pv

/- Data that are alike. -/
namespace Go.Proofs.Pv
open Go Go.RowKit Go.Proofs
set_option maxRecDepth 20000

def RSmD (N : Nat) (xs : List AV) (st : St) (K : AV → St → Prop) : Prop := ∃ x y d e, xs = [x, y] ∧ DA st x d ∧ DA st y e ∧ d.sz < N ∧ d.fit ∧ e.fit ∧ anyw st (.bool (sm d e)) K
def REqF (N : Nat) (xs : List AV) (st : St) (K : AV → St → Prop) : Prop := ∃ x y ds es, xs = [x, y, .fn (.func 116) [] []] ∧ DS st x ds ∧ DS st y es ∧ szs ds < N ∧ fits ds ∧ fits es ∧ anyw st (.bool (sms ds es)) K
end Go.Proofs.Pv

/- Data that are alike: the document's. -/
namespace Go.Proofs.Pv
open Go Go.RowKit Go.Proofs
set_option maxRecDepth 20000

def RSameTop (xs : List AV) (st : St) (K : AV → St → Prop) : Prop := ∃ x y d e, xs = [x, y] ∧ DA st x d ∧ DA st y e ∧ d.fit ∧ e.fit ∧ anyw st (.bool (decide (d.sz ≤ 100000 ∧ d.dp ≤ 10000) && decide (e.sz ≤ 100000 ∧ e.dp ≤ 10000) && sm d e)) K
end Go.Proofs.Pv

/- Data that are told; what is true; what is one. -/
namespace Go.Proofs.Pv
open Go Go.RowKit Go.Proofs
set_option maxRecDepth 20000

def RTruth (xs : List AV) (st : St) (K : AV → St → Prop) : Prop := ∃ b, xs = [.val (.bool b)] ∧ tell st (dBool b) K
def RTextD (xs : List AV) (st : St) (K : AV → St → Prop) : Prop := ∃ s, xs = [.val (.string s)] ∧ tell st (dStr s) K
def RNumD (xs : List AV) (st : St) (K : AV → St → Prop) : Prop := ∃ n : Int, xs = [.val (.int .i64 n)] ∧ -9223372036854775808 ≤ n ∧ n ≤ 9223372036854775807 ∧ tell st (dNum n) K
def RTrue1 (xs : List AV) (st : St) (K : AV → St → Prop) : Prop := ∃ x d, xs = [x] ∧ DA st x d ∧ anyw st (.bool (trM d)) K
def RAtom (xs : List AV) (st : St) (K : AV → St → Prop) : Prop := ∃ x d, xs = [x] ∧ DA st x d ∧ anyw st (.bool (decide (d.kd ≠ 5) || decide (d.its.length = 0))) K
def REqM (xs : List AV) (st : St) (K : AV → St → Prop) : Prop := ∃ x y d e, xs = [x, y] ∧ DA st x d ∧ DA st y e ∧ d.fit ∧ e.fit ∧ d.few ∧ e.few ∧ anyw st (.bool (eqM d e)) K
end Go.Proofs.Pv
