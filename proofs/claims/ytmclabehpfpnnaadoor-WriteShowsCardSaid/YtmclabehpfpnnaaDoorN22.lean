/- pavaneref03.All; pavanelaw04.light. -/
import Derived.Test.YtmclabehpfpnnaaDoorN17
import Derived.Test.YtmclabehpfpnnaaDoorE16
set_option linter.unusedSimpArgs false
set_option linter.unusedVariables false
namespace Go.Proofs.Pv
open Go Go.RowKit Go.Proofs
set_option maxRecDepth 20000

mutual
/-- A datum and all in it. -/
def allL : Dt → List Dt
  | .mk k g l b s its tls => .mk k g l b s its tls :: (allsL its ++ allsL tls)
def allsL : List Dt → List Dt
  | [] => []
  | d :: ds => allL d ++ allsL ds
end
mutual
theorem allL_len : ∀ d : Dt, (allL d).length = d.sz
  | .mk k g l b s its tls => by
    rw [allL, sz_mk, List.length_cons, List.length_append, allsL_len its, allsL_len tls]; omega
theorem allsL_len : ∀ ds : List Dt, (allsL ds).length = szs ds
  | [] => by simp [allsL, szs]
  | d :: ds => by rw [allsL, List.length_append, allL_len d, allsL_len ds, szs]
end
theorem alls_app {l m : List Dt} : allsL (l ++ m) = allsL l ++ allsL m := by
  induction l with
  | nil => rfl
  | cons d l ih => simp only [List.cons_append, allsL, ih, List.append_assoc]
theorem alls_take {ds : List Dt} {i : Nat} {d : Dt} (h : ds[i]? = some d) : allsL (ds.take (i + 1)) = allsL (ds.take i) ++ allL d := by
  rw [take_succ' h, alls_app]; simp [allsL]
theorem App.sl7 {st0 st : St} {o : AV} {cs : List AV} {n : Nat} (h : App st0 st o 7 cs) (hn : cs.length = n * 7) : Pv.sl 7 st o = some (n, cs) := by
  rcases h.2 with ⟨rfl, rfl⟩ | ⟨r, n', rest, h1, rfl, h3, h4⟩
  · have : n = 0 := by simp at hn; omega
    subst this; rfl
  · have : n' = n := by omega
    subst this
    rw [sl_own_eq, if_pos rfl, h3]
    simp [← h4]
def RAll (N : Nat) (xs : List AV) (st : St) (K : AV → St → Prop) : Prop := ∃ st0 x d, xs = [x] ∧ Ext st0 st ∧ DA st0 x d ∧ d.sz < N ∧ d.sz ≤ 1000 ∧ ∀ o T cs, App st T o 7 cs → DL st0 cs (allL d) → K o T
set_option maxHeartbeats 1000000 in
theorem s_All (N : Nat) : PSpec Tryd.prog 24 (RAll N) := by
  induction N with
  | zero =>
    refine fspec_of (fn := Tryd.f24) 1 [.tmp 2] (by kernel_rfl) rfl rfl (by kernel_rfl) mixed (by rintro _ _ _ ⟨_, x, d, rfl, _⟩; rfl) ?_
    rintro X _ st K hP hst ⟨st0, x, d, rfl, he0, hx, hN, _⟩
    omega
  | succ N ih =>
  refine fspec_of (fn := Tryd.f24) 1 [.tmp 2] (by kernel_rfl) rfl rfl (by kernel_rfl) mixed (by rintro _ _ _ ⟨_, x, d, rfl, _⟩; rfl) ?_
  rintro X _ st K hP hst ⟨st0, x, d, rfl, he0, hx, hN, hM, hK⟩
  obtain ⟨k, g, a, l, b, s, x, y, its, tls, rfl, rfl, ha, hx, hy⟩ := hx.inv
  have hX : X.st1.length ≤ st.length := by rw [hst]; omega
  have hX1 : X.st1.length ≤ st.length + 1 := by rw [hst]; omega
  have la := ha.leaf
  have lx := hx.leaf
  have ly := hy.leaf
  have hdc : DL st0 [.val (.int .i64 k), .val (.bool g), a, .val (.bool b), .val (.string s), x, y] [.mk k g l b s its tls] := .one (.mk ha hx hy)
  rw [allL] at hK
  rw [sz_mk] at hN hM
  refine vc_V ?_
  simp (disch:=first|assumption|omega|(simp only [lens];omega)) only [eqs,↓gvd_succ,↓gvd_zero,↓and_of,im_of,im_of trivial,vlt,hP,hst,initS,Nat.reduceBEq,Nat.reduceAdd,Nat.reduceMul,Nat.reduceSub,Nat.reduceDiv,Nat.reduceMod,Nat.reducePow,Nat.reduceLT,Nat.reduceLeDiff,Nat.reduceEqDiff,Int.reduceAdd,Int.reduceSub,Int.reduceNeg,Int.reduceMul,Int.reduceToNat,Int.reducePow,Int.reduceLE,Int.reduceLT,Int.reduceEq,Int.reduceNe,reduceIte,reduceCtorEq,ne_eq,not_true_eq_false,not_false_eq_true,imp_self,implies_true,bls,eq_self,la,lx,ly,zrA1,zD7,List.append_nil]
  refine V_loop (ι := Nat × AV × St) (fun e => [(15, .val (.int .i64 (e.1 : Int))), (14, .agg [x, y]), (3, e.2.1)]) (fun e => e.2.2)
    (fun e => e.1 ≤ 2 ∧ ∃ cs, App st e.2.2 e.2.1 7 cs ∧ DL st0 cs (.mk k g l b s its tls :: allsL (pre2 its tls e.1))) (fun e => 2 - e.1) (0, .own (st.length + 1) 0 1 7, _) ⟨by simp, [.val (.int .i64 k), .val (.bool g), a, .val (.bool b), .val (.string s), x, y], ⟨.add _, .inr ⟨st.length + 1, 1, [], by omega, rfl, by rw [get_app]; rfl, rfl⟩⟩, by simpa [pre2, allsL] using hdc⟩ rfl (by simp (disch:=first|assumption|omega|(simp only [lens];omega)) only [eqs,↓gvd_succ,↓gvd_zero,↓and_of,im_of,im_of trivial,vlt,hP,hst,initS,Nat.reduceBEq,Nat.reduceAdd,Nat.reduceMul,Nat.reduceSub,Nat.reduceDiv,Nat.reduceMod,Nat.reducePow,Nat.reduceLT,Nat.reduceLeDiff,Nat.reduceEqDiff,Int.reduceAdd,Int.reduceSub,Int.reduceNeg,Int.reduceMul,Int.reduceToNat,Int.reducePow,Int.reduceLE,Int.reduceLT,Int.reduceEq,Int.reduceNe,reduceIte,reduceCtorEq,ne_eq,not_true_eq_false,not_false_eq_true,imp_self,implies_true,bls,eq_self] <;> rfl) ?_
  rintro ⟨j, o, T⟩ ⟨hj, cs, hA, hD⟩
  dsimp only at hj hA hD ⊢
  have hT := hA.ex
  simp (disch:=first|assumption|omega|(simp only [lens];omega)) only [eqs,↓gvd_succ,↓gvd_zero,↓and_of,im_of,im_of trivial,vlt,hP,hst,initS,Nat.reduceBEq,Nat.reduceAdd,Nat.reduceMul,Nat.reduceSub,Nat.reduceDiv,Nat.reduceMod,Nat.reducePow,Nat.reduceLT,Nat.reduceLeDiff,Nat.reduceEqDiff,Int.reduceAdd,Int.reduceSub,Int.reduceNeg,Int.reduceMul,Int.reduceToNat,Int.reducePow,Int.reduceLE,Int.reduceLT,Int.reduceEq,Int.reduceNe,reduceIte,reduceCtorEq,ne_eq,not_true_eq_false,not_false_eq_true,imp_self,implies_true,bls,eq_self]
  refine C_dec (fun h3 => ?_) (fun h3 => ?_)
  · obtain ⟨z, ds, hz, hzd, hp⟩ := pre2_step its tls x y (j := j) (by omega)
    have hle : szs ds ≤ szs its + szs tls := by rcases hzd with ⟨_, rfl⟩ | ⟨_, rfl⟩ <;> omega
    have hds : DS st0 z ds := by rcases hzd with ⟨rfl, rfl⟩ | ⟨rfl, rfl⟩ <;> assumption
    have hpl := pre2_le its tls (j + 1)
    rw [hp, szs_app, szs_app] at hpl
    simp (disch:=first|assumption|omega|(simp only [lens];omega)) only [eqs,↓gvd_succ,↓gvd_zero,↓and_of,im_of,im_of trivial,vlt,hP,hst,initS,Nat.reduceBEq,Nat.reduceAdd,Nat.reduceMul,Nat.reduceSub,Nat.reduceDiv,Nat.reduceMod,Nat.reducePow,Nat.reduceLT,Nat.reduceLeDiff,Nat.reduceEqDiff,Int.reduceAdd,Int.reduceSub,Int.reduceNeg,Int.reduceMul,Int.reduceToNat,Int.reducePow,Int.reduceLE,Int.reduceLT,Int.reduceEq,Int.reduceNe,reduceIte,reduceCtorEq,ne_eq,not_true_eq_false,not_false_eq_true,imp_self,implies_true,bls,eq_self]
    refine F_idx hz rfl (by omega) ?_
    obtain ⟨cs1, hsl, hdl, hcl⟩ := (hds.ext (he0.trans hT)).inv
    simp (disch:=first|assumption|omega|(simp only [lens];omega)) only [eqs,↓gvd_succ,↓gvd_zero,↓and_of,im_of,im_of trivial,vlt,hP,hst,initS,Nat.reduceBEq,Nat.reduceAdd,Nat.reduceMul,Nat.reduceSub,Nat.reduceDiv,Nat.reduceMod,Nat.reducePow,Nat.reduceLT,Nat.reduceLeDiff,Nat.reduceEqDiff,Int.reduceAdd,Int.reduceSub,Int.reduceNeg,Int.reduceMul,Int.reduceToNat,Int.reducePow,Int.reduceLE,Int.reduceLT,Int.reduceEq,Int.reduceNe,reduceIte,reduceCtorEq,ne_eq,not_true_eq_false,not_false_eq_true,imp_self,implies_true,bls,eq_self,hsl]
    refine fun hlen => ?_
    refine V_loop (ι := Nat × AV × St) (fun e => [(20, .val (.int .i64 (e.1 : Int))), (19, .val (.int .i64 (ds.length : Int))), (18, z), (3, e.2.1), (15, .val (.int .i64 (j : Int))), (14, .agg [x, y])]) (fun e => e.2.2)
      (fun e => e.1 ≤ ds.length ∧ ∃ cs, App st e.2.2 e.2.1 7 cs ∧ DL st0 cs (.mk k g l b s its tls :: (allsL (pre2 its tls j) ++ allsL (ds.take e.1)))) (fun e => ds.length - e.1) (0, o, T) ⟨by simp, cs, hA, by simpa [allsL] using hD⟩ rfl (by simp (disch:=first|assumption|omega|(simp only [lens];omega)) only [eqs,↓gvd_succ,↓gvd_zero,↓and_of,im_of,im_of trivial,vlt,hP,hst,initS,Nat.reduceBEq,Nat.reduceAdd,Nat.reduceMul,Nat.reduceSub,Nat.reduceDiv,Nat.reduceMod,Nat.reducePow,Nat.reduceLT,Nat.reduceLeDiff,Nat.reduceEqDiff,Int.reduceAdd,Int.reduceSub,Int.reduceNeg,Int.reduceMul,Int.reduceToNat,Int.reducePow,Int.reduceLE,Int.reduceLT,Int.reduceEq,Int.reduceNe,reduceIte,reduceCtorEq,ne_eq,not_true_eq_false,not_false_eq_true,imp_self,implies_true,bls,eq_self] <;> rfl) ?_
    rintro ⟨i, o, U⟩ ⟨hi, cs, hA, hD⟩
    dsimp only at hi hA hD ⊢
    have hU := hA.ex
    obtain ⟨cs1, hsl, hdl, hcl⟩ := (hds.ext (he0.trans hU)).inv
    simp (disch:=first|assumption|omega|(simp only [lens];omega)) only [eqs,↓gvd_succ,↓gvd_zero,↓and_of,im_of,im_of trivial,vlt,hP,hst,initS,Nat.reduceBEq,Nat.reduceAdd,Nat.reduceMul,Nat.reduceSub,Nat.reduceDiv,Nat.reduceMod,Nat.reducePow,Nat.reduceLT,Nat.reduceLeDiff,Nat.reduceEqDiff,Int.reduceAdd,Int.reduceSub,Int.reduceNeg,Int.reduceMul,Int.reduceToNat,Int.reducePow,Int.reduceLE,Int.reduceLT,Int.reduceEq,Int.reduceNe,reduceIte,reduceCtorEq,ne_eq,not_true_eq_false,not_false_eq_true,imp_self,implies_true,bls,eq_self]
    refine C_dec (fun h4 => ?_) (fun h4 => ?_)
    · obtain ⟨cs2, c, e, hsl, hcl, hc, hc7, hca, he, hec, hl1, hl2⟩ := hds.at (i := i) (by omega)
      have hsl := sl_le hsl (he0.trans hU).le
      have hXl := Nat.le_trans hX hU.len
      have hes := szs_mem (List.mem_of_getElem? he)
      have htk := szs_take he
      have hte := szs_take_le (ds := ds) (i := i + 1)
      have hlo := (sl_slc (hA.sl7 (n := (.mk k g l b s its tls :: (allsL (pre2 its tls j) ++ allsL (ds.take i)) : List Dt).length) hD.len)).1
      have lo := sl_leaf (hA.sl7 hD.len)
      simp (disch:=first|assumption|omega|(simp only [lens];omega)) only [eqs,↓gvd_succ,↓gvd_zero,↓and_of,im_of,im_of trivial,vlt,hP,hst,initS,Nat.reduceBEq,Nat.reduceAdd,Nat.reduceMul,Nat.reduceSub,Nat.reduceDiv,Nat.reduceMod,Nat.reducePow,Nat.reduceLT,Nat.reduceLeDiff,Nat.reduceEqDiff,Int.reduceAdd,Int.reduceSub,Int.reduceNeg,Int.reduceMul,Int.reduceToNat,Int.reducePow,Int.reduceLE,Int.reduceLT,Int.reduceEq,Int.reduceNe,reduceIte,reduceCtorEq,ne_eq,not_true_eq_false,not_false_eq_true,imp_self,implies_true,bls,eq_self,hsl,hcl,hc,hca,take7 hc7,zD_drop,zD_len,List.append_nil,hXl,hl1,hl2,lo]
      refine E_call (hP ▸ ih) ⟨st0, _, e, rfl, (he0.trans hU).trans (.add _), ⟨c, rfl, hec⟩, by omega, by omega, fun o2 V cs2 hA2 hD2 => ?_⟩
      have lo2 := sl_leaf (hA2.sl7 hD2.len)
      have hA' := (hA.ext (.add _)).ext hA2.ex
      have hl3 := hD.len
      have hl4 := hD2.len
      rw [allL_len] at hl4
      simp only [List.length_cons, List.length_append, allsL_len] at hl3
      simp (disch:=first|assumption|omega|(simp only [lens];omega)) only [eqs,↓gvd_succ,↓gvd_zero,↓and_of,im_of,im_of trivial,vlt,hP,hst,initS,Nat.reduceBEq,Nat.reduceAdd,Nat.reduceMul,Nat.reduceSub,Nat.reduceDiv,Nat.reduceMod,Nat.reducePow,Nat.reduceLT,Nat.reduceLeDiff,Nat.reduceEqDiff,Int.reduceAdd,Int.reduceSub,Int.reduceNeg,Int.reduceMul,Int.reduceToNat,Int.reducePow,Int.reduceLE,Int.reduceLT,Int.reduceEq,Int.reduceNe,reduceIte,reduceCtorEq,ne_eq,not_true_eq_false,not_false_eq_true,imp_self,implies_true,bls,eq_self,lo,lo2]
      refine F_app hA' hst (sl_slc (hA2.sl7 hD2.len)).1 hD2.len hD2.all (by rw [allL_len]; omega) (by omega) (by rw [allL_len]; omega) fun o' V' hA3 => ?_
      have lo3 := sl_leaf (hA3.sl7 (hD.app hD2).len)
      simp (disch:=first|assumption|omega|(simp only [lens];omega)) only [eqs,↓gvd_succ,↓gvd_zero,↓and_of,im_of,im_of trivial,vlt,hP,hst,initS,Nat.reduceBEq,Nat.reduceAdd,Nat.reduceMul,Nat.reduceSub,Nat.reduceDiv,Nat.reduceMod,Nat.reducePow,Nat.reduceLT,Nat.reduceLeDiff,Nat.reduceEqDiff,Int.reduceAdd,Int.reduceSub,Int.reduceNeg,Int.reduceMul,Int.reduceToNat,Int.reducePow,Int.reduceLE,Int.reduceLT,Int.reduceEq,Int.reduceNe,reduceIte,reduceCtorEq,ne_eq,not_true_eq_false,not_false_eq_true,imp_self,implies_true,bls,eq_self,lo3]
      refine again (i + 1, o', V') ⟨by dsimp only; omega, _, hA3, by dsimp only; rw [alls_take he]; simpa using hD.app hD2⟩ (by dsimp only; omega) rfl (by dsimp only; simp (disch:=first|assumption|omega|(simp only [lens];omega)) only [eqs,↓gvd_succ,↓gvd_zero,↓and_of,im_of,im_of trivial,vlt,hP,hst,initS,Nat.reduceBEq,Nat.reduceAdd,Nat.reduceMul,Nat.reduceSub,Nat.reduceDiv,Nat.reduceMod,Nat.reducePow,Nat.reduceLT,Nat.reduceLeDiff,Nat.reduceEqDiff,Int.reduceAdd,Int.reduceSub,Int.reduceNeg,Int.reduceMul,Int.reduceToNat,Int.reducePow,Int.reduceLE,Int.reduceLT,Int.reduceEq,Int.reduceNe,reduceIte,reduceCtorEq,ne_eq,not_true_eq_false,not_false_eq_true,imp_self,implies_true,bls,eq_self] <;> rfl)
    · have hi2 : i = ds.length := by omega
      subst hi2
      rw [List.take_length] at hD
      simp (disch:=first|assumption|omega|(simp only [lens];omega)) only [eqs,↓gvd_succ,↓gvd_zero,↓and_of,im_of,im_of trivial,vlt,hP,hst,initS,Nat.reduceBEq,Nat.reduceAdd,Nat.reduceMul,Nat.reduceSub,Nat.reduceDiv,Nat.reduceMod,Nat.reducePow,Nat.reduceLT,Nat.reduceLeDiff,Nat.reduceEqDiff,Int.reduceAdd,Int.reduceSub,Int.reduceNeg,Int.reduceMul,Int.reduceToNat,Int.reducePow,Int.reduceLE,Int.reduceLT,Int.reduceEq,Int.reduceNe,reduceIte,reduceCtorEq,ne_eq,not_true_eq_false,not_false_eq_true,imp_self,implies_true,bls,eq_self]
      refine again (j + 1, o, U) ⟨by dsimp only; omega, cs, hA, by dsimp only; rw [hp, alls_app]; exact hD⟩ (by dsimp only; omega) rfl (by dsimp only; simp (disch:=first|assumption|omega|(simp only [lens];omega)) only [eqs,↓gvd_succ,↓gvd_zero,↓and_of,im_of,im_of trivial,vlt,hP,hst,initS,Nat.reduceBEq,Nat.reduceAdd,Nat.reduceMul,Nat.reduceSub,Nat.reduceDiv,Nat.reduceMod,Nat.reducePow,Nat.reduceLT,Nat.reduceLeDiff,Nat.reduceEqDiff,Int.reduceAdd,Int.reduceSub,Int.reduceNeg,Int.reduceMul,Int.reduceToNat,Int.reducePow,Int.reduceLE,Int.reduceLT,Int.reduceEq,Int.reduceNe,reduceIte,reduceCtorEq,ne_eq,not_true_eq_false,not_false_eq_true,imp_self,implies_true,bls,eq_self] <;> rfl)
  · rw [pre2_end _ _ (by omega), alls_app] at hD
    have lo := sl_leaf (hA.sl7 hD.len)
    simp (disch:=first|assumption|omega|(simp only [lens];omega)) only [eqs,↓gvd_succ,↓gvd_zero,↓and_of,im_of,im_of trivial,vlt,hP,hst,initS,Nat.reduceBEq,Nat.reduceAdd,Nat.reduceMul,Nat.reduceSub,Nat.reduceDiv,Nat.reduceMod,Nat.reducePow,Nat.reduceLT,Nat.reduceLeDiff,Nat.reduceEqDiff,Int.reduceAdd,Int.reduceSub,Int.reduceNeg,Int.reduceMul,Int.reduceToNat,Int.reducePow,Int.reduceLE,Int.reduceLT,Int.reduceEq,Int.reduceNe,reduceIte,reduceCtorEq,ne_eq,not_true_eq_false,not_false_eq_true,imp_self,implies_true,bls,eq_self,lo]
    exact hK _ _ cs hA hD
/-- Not more data, with longer numbers and texts, than are looked at here. -/
def light4 (d : Dt) : Prop := (d.sz ≤ 400 ∧ d.dp ≤ 60) ∧ ∀ e ∈ allL d, e.lm.length ≤ 80 ∧ e.tx.size ≤ 1100
def RLight4 (xs : List AV) (st : St) (K : AV → St → Prop) : Prop := ∃ x d, xs = [x] ∧ DA st x d ∧ (light4 d → anyw st (.bool true) K) ∧ (¬light4 d → anyw st (.bool false) K)
set_option maxHeartbeats 1000000 in
theorem s_light4 : PSpec Tryd.prog 10 RLight4 := by
  refine fspec_of (fn := Tryd.f10) 1 [.tmp 2] (by kernel_rfl) rfl rfl (by kernel_rfl) mixed (by rintro _ _ _ ⟨x, d, rfl, _⟩; rfl) ?_
  rintro X _ st K hP hst ⟨x, d, rfl, hx, hK1, hK0⟩
  have hX : X.st1.length ≤ st.length := by rw [hst]; omega
  obtain ⟨c, rfl, hdc⟩ := hx
  have hca := hdc.all
  have hc7 := hdc.len
  have t7 := List.take_of_length_le (Nat.le_of_eq hc7)
  refine vc_V ?_
  simp (disch:=first|assumption|omega|(simp only [lens];omega)) only [eqs,↓gvd_succ,↓gvd_zero,↓and_of,im_of,im_of trivial,vlt,hP,hst,initS,Nat.reduceBEq,Nat.reduceAdd,Nat.reduceMul,Nat.reduceSub,Nat.reduceDiv,Nat.reduceMod,Nat.reducePow,Nat.reduceLT,Nat.reduceLeDiff,Nat.reduceEqDiff,Int.reduceAdd,Int.reduceSub,Int.reduceNeg,Int.reduceMul,Int.reduceToNat,Int.reducePow,Int.reduceLE,Int.reduceLT,Int.reduceEq,Int.reduceNe,reduceIte,reduceCtorEq,ne_eq,not_true_eq_false,not_false_eq_true,imp_self,implies_true,bls,eq_self,hca,hc7,t7]
  refine E_call (hP ▸ s_Small3) ⟨_, d, 400, 60, rfl, ⟨c, rfl, hdc.ext (.add _)⟩, by omega, by omega, fun T hT => ?_⟩
  have e0 : Ext st T := (Ext.add _).trans hT
  have g0 := (At.ext (c := c) At.mk0 hT).get
  simp (disch:=first|assumption|omega|(simp only [lens];omega)) only [eqs,↓gvd_succ,↓gvd_zero,↓and_of,im_of,im_of trivial,vlt,hP,hst,initS,Nat.reduceBEq,Nat.reduceAdd,Nat.reduceMul,Nat.reduceSub,Nat.reduceDiv,Nat.reduceMod,Nat.reducePow,Nat.reduceLT,Nat.reduceLeDiff,Nat.reduceEqDiff,Int.reduceAdd,Int.reduceSub,Int.reduceNeg,Int.reduceMul,Int.reduceToNat,Int.reducePow,Int.reduceLE,Int.reduceLT,Int.reduceEq,Int.reduceNe,reduceIte,reduceCtorEq,ne_eq,not_true_eq_false,not_false_eq_true,imp_self,implies_true,bls,eq_self]
  refine C_dec (fun h => ?_) (fun h => ?_)
  · simp (disch:=first|assumption|omega|(simp only [lens];omega)) only [eqs,↓gvd_succ,↓gvd_zero,↓and_of,im_of,im_of trivial,vlt,hP,hst,initS,Nat.reduceBEq,Nat.reduceAdd,Nat.reduceMul,Nat.reduceSub,Nat.reduceDiv,Nat.reduceMod,Nat.reducePow,Nat.reduceLT,Nat.reduceLeDiff,Nat.reduceEqDiff,Int.reduceAdd,Int.reduceSub,Int.reduceNeg,Int.reduceMul,Int.reduceToNat,Int.reducePow,Int.reduceLE,Int.reduceLT,Int.reduceEq,Int.reduceNe,reduceIte,reduceCtorEq,ne_eq,not_true_eq_false,not_false_eq_true,imp_self,implies_true,bls,eq_self]
    exact hK0 (fun h2 => h h2.1) _ e0
  have h := Classical.not_not.1 h
  simp (disch:=first|assumption|omega|(simp only [lens];omega)) only [eqs,↓gvd_succ,↓gvd_zero,↓and_of,im_of,im_of trivial,vlt,hP,hst,initS,Nat.reduceBEq,Nat.reduceAdd,Nat.reduceMul,Nat.reduceSub,Nat.reduceDiv,Nat.reduceMod,Nat.reducePow,Nat.reduceLT,Nat.reduceLeDiff,Nat.reduceEqDiff,Int.reduceAdd,Int.reduceSub,Int.reduceNeg,Int.reduceMul,Int.reduceToNat,Int.reducePow,Int.reduceLE,Int.reduceLT,Int.reduceEq,Int.reduceNe,reduceIte,reduceCtorEq,ne_eq,not_true_eq_false,not_false_eq_true,imp_self,implies_true,bls,eq_self,g0,hc7,t7]
  refine E_call (hP ▸ s_All (d.sz + 1)) ⟨st, _, d, rfl, e0, ⟨c, rfl, hdc⟩, by omega, by omega, fun o T2 cs hA hD => ?_⟩
  have hDS : DS T2 o (allL d) := .mk (hA.sl7 hD.len) (hD.ext (e0.trans hA.ex))
  have hsl := hA.sl7 hD.len
  have lo := sl_leaf hsl
  simp (disch:=first|assumption|omega|(simp only [lens];omega)) only [eqs,↓gvd_succ,↓gvd_zero,↓and_of,im_of,im_of trivial,vlt,hP,hst,initS,Nat.reduceBEq,Nat.reduceAdd,Nat.reduceMul,Nat.reduceSub,Nat.reduceDiv,Nat.reduceMod,Nat.reducePow,Nat.reduceLT,Nat.reduceLeDiff,Nat.reduceEqDiff,Int.reduceAdd,Int.reduceSub,Int.reduceNeg,Int.reduceMul,Int.reduceToNat,Int.reducePow,Int.reduceLE,Int.reduceLT,Int.reduceEq,Int.reduceNe,reduceIte,reduceCtorEq,ne_eq,not_true_eq_false,not_false_eq_true,imp_self,implies_true,bls,eq_self,hsl,lo]
  refine fun hlen => ?_
  refine V_loop (ι := Nat × St) (fun e => [(11, .val (.int .i64 (e.1 : Int))), (10, .val (.int .i64 ((allL d).length : Int))), (9, o)]) (fun e => e.2)
    (fun e => Ext T2 e.2 ∧ e.1 ≤ (allL d).length ∧ ∀ (j : Nat) e', j < e.1 → (allL d)[j]? = some e' → e'.lm.length ≤ 80 ∧ e'.tx.size ≤ 1100) (fun e => (allL d).length - e.1) (0, T2) ⟨.refl, by simp, by simp⟩ rfl (by simp (disch:=first|assumption|omega|(simp only [lens];omega)) only [eqs,↓gvd_succ,↓gvd_zero,↓and_of,im_of,im_of trivial,vlt,hP,hst,initS,Nat.reduceBEq,Nat.reduceAdd,Nat.reduceMul,Nat.reduceSub,Nat.reduceDiv,Nat.reduceMod,Nat.reducePow,Nat.reduceLT,Nat.reduceLeDiff,Nat.reduceEqDiff,Int.reduceAdd,Int.reduceSub,Int.reduceNeg,Int.reduceMul,Int.reduceToNat,Int.reducePow,Int.reduceLE,Int.reduceLT,Int.reduceEq,Int.reduceNe,reduceIte,reduceCtorEq,ne_eq,not_true_eq_false,not_false_eq_true,imp_self,implies_true,bls,eq_self] <;> rfl) ?_
  rintro ⟨i, U⟩ ⟨hU, hi, hj⟩
  dsimp only at hU hi hj ⊢
  have eU : Ext st U := e0.trans (hA.ex.trans hU)
  have hXl := Nat.le_trans hX eU.len
  simp (disch:=first|assumption|omega|(simp only [lens];omega)) only [eqs,↓gvd_succ,↓gvd_zero,↓and_of,im_of,im_of trivial,vlt,hP,hst,initS,Nat.reduceBEq,Nat.reduceAdd,Nat.reduceMul,Nat.reduceSub,Nat.reduceDiv,Nat.reduceMod,Nat.reducePow,Nat.reduceLT,Nat.reduceLeDiff,Nat.reduceEqDiff,Int.reduceAdd,Int.reduceSub,Int.reduceNeg,Int.reduceMul,Int.reduceToNat,Int.reducePow,Int.reduceLE,Int.reduceLT,Int.reduceEq,Int.reduceNe,reduceIte,reduceCtorEq,ne_eq,not_true_eq_false,not_false_eq_true,imp_self,implies_true,bls,eq_self]
  refine C_dec (fun h1 => ?_) (fun h1 => ?_)
  · obtain ⟨cs, c, e, hsl, hcl, hc, hc7, hca, he, hec, hb1, hb2⟩ := (hDS.ext hU).at (i := i) (by omega)
    have hem := List.mem_of_getElem? he
    cases hec with
    | @mk k g a l b s x z its tls ha hx hz =>
    have sa := (ha.ext (.add [some [.val (.int .i64 k), .val (.bool g), a, .val (.bool b), .val (.string s), x, z]])).sl
    simp (disch:=first|assumption|omega|(simp only [lens];omega)) only [eqs,↓gvd_succ,↓gvd_zero,↓and_of,im_of,im_of trivial,vlt,hP,hst,initS,Nat.reduceBEq,Nat.reduceAdd,Nat.reduceMul,Nat.reduceSub,Nat.reduceDiv,Nat.reduceMod,Nat.reducePow,Nat.reduceLT,Nat.reduceLeDiff,Nat.reduceEqDiff,Int.reduceAdd,Int.reduceSub,Int.reduceNeg,Int.reduceMul,Int.reduceToNat,Int.reducePow,Int.reduceLE,Int.reduceLT,Int.reduceEq,Int.reduceNe,reduceIte,reduceCtorEq,ne_eq,not_true_eq_false,not_false_eq_true,imp_self,implies_true,bls,eq_self,hsl,hcl,hc,hca,zD_map,hXl,hb1,hb2,zD7,List.append_nil,sa]
    refine fun _ => ?_
    refine G_ndec (fun h3 => ?_) (fun h3 => ?_)
    rotate_left
    · simp (disch:=first|assumption|omega|(simp only [lens];omega)) only [eqs,↓gvd_succ,↓gvd_zero,↓and_of,im_of,im_of trivial,vlt,hP,hst,initS,Nat.reduceBEq,Nat.reduceAdd,Nat.reduceMul,Nat.reduceSub,Nat.reduceDiv,Nat.reduceMod,Nat.reducePow,Nat.reduceLT,Nat.reduceLeDiff,Nat.reduceEqDiff,Int.reduceAdd,Int.reduceSub,Int.reduceNeg,Int.reduceMul,Int.reduceToNat,Int.reducePow,Int.reduceLE,Int.reduceLT,Int.reduceEq,Int.reduceNe,reduceIte,reduceCtorEq,ne_eq,not_true_eq_false,not_false_eq_true,imp_self,implies_true,bls,eq_self,h3]
      exact hK0 (fun h4 => by have h5 : l.length ≤ 80 := (h4.2 _ hem).1; omega) _ (eU.trans (.add _))
    simp (disch:=first|assumption|omega|(simp only [lens];omega)) only [eqs,↓gvd_succ,↓gvd_zero,↓and_of,im_of,im_of trivial,vlt,hP,hst,initS,Nat.reduceBEq,Nat.reduceAdd,Nat.reduceMul,Nat.reduceSub,Nat.reduceDiv,Nat.reduceMod,Nat.reducePow,Nat.reduceLT,Nat.reduceLeDiff,Nat.reduceEqDiff,Int.reduceAdd,Int.reduceSub,Int.reduceNeg,Int.reduceMul,Int.reduceToNat,Int.reducePow,Int.reduceLE,Int.reduceLT,Int.reduceEq,Int.reduceNe,reduceIte,reduceCtorEq,ne_eq,not_true_eq_false,not_false_eq_true,imp_self,implies_true,bls,eq_self,h3]
    refine C_dec (fun h4 => ?_) (fun h4 => ?_)
    · simp (disch:=first|assumption|omega|(simp only [lens];omega)) only [eqs,↓gvd_succ,↓gvd_zero,↓and_of,im_of,im_of trivial,vlt,hP,hst,initS,Nat.reduceBEq,Nat.reduceAdd,Nat.reduceMul,Nat.reduceSub,Nat.reduceDiv,Nat.reduceMod,Nat.reducePow,Nat.reduceLT,Nat.reduceLeDiff,Nat.reduceEqDiff,Int.reduceAdd,Int.reduceSub,Int.reduceNeg,Int.reduceMul,Int.reduceToNat,Int.reducePow,Int.reduceLE,Int.reduceLT,Int.reduceEq,Int.reduceNe,reduceIte,reduceCtorEq,ne_eq,not_true_eq_false,not_false_eq_true,imp_self,implies_true,bls,eq_self]
      exact hK0 (fun h5 => by have h6 : s.size ≤ 1100 := (h5.2 _ hem).2; rw [← sb_length] at h6; omega) _ (eU.trans (.add _))
    · simp (disch:=first|assumption|omega|(simp only [lens];omega)) only [eqs,↓gvd_succ,↓gvd_zero,↓and_of,im_of,im_of trivial,vlt,hP,hst,initS,Nat.reduceBEq,Nat.reduceAdd,Nat.reduceMul,Nat.reduceSub,Nat.reduceDiv,Nat.reduceMod,Nat.reducePow,Nat.reduceLT,Nat.reduceLeDiff,Nat.reduceEqDiff,Int.reduceAdd,Int.reduceSub,Int.reduceNeg,Int.reduceMul,Int.reduceToNat,Int.reducePow,Int.reduceLE,Int.reduceLT,Int.reduceEq,Int.reduceNe,reduceIte,reduceCtorEq,ne_eq,not_true_eq_false,not_false_eq_true,imp_self,implies_true,bls,eq_self]
      refine again (i + 1, _) ⟨hU.trans (.add _), by dsimp only; omega, fun j d' hj2 hd => ?_⟩ (by dsimp only; omega) rfl (by dsimp only; simp (disch:=first|assumption|omega|(simp only [lens];omega)) only [eqs,↓gvd_succ,↓gvd_zero,↓and_of,im_of,im_of trivial,vlt,hP,hst,initS,Nat.reduceBEq,Nat.reduceAdd,Nat.reduceMul,Nat.reduceSub,Nat.reduceDiv,Nat.reduceMod,Nat.reducePow,Nat.reduceLT,Nat.reduceLeDiff,Nat.reduceEqDiff,Int.reduceAdd,Int.reduceSub,Int.reduceNeg,Int.reduceMul,Int.reduceToNat,Int.reducePow,Int.reduceLE,Int.reduceLT,Int.reduceEq,Int.reduceNe,reduceIte,reduceCtorEq,ne_eq,not_true_eq_false,not_false_eq_true,imp_self,implies_true,bls,eq_self] <;> rfl)
      by_cases hji : j = i
      · subst hji
        rw [he] at hd; cases hd
        exact ⟨by show l.length ≤ 80; omega, by show s.size ≤ 1100; rw [← sb_length]; omega⟩
      · exact hj j d' (by dsimp only at hj2; omega) hd
  · simp (disch:=first|assumption|omega|(simp only [lens];omega)) only [eqs,↓gvd_succ,↓gvd_zero,↓and_of,im_of,im_of trivial,vlt,hP,hst,initS,Nat.reduceBEq,Nat.reduceAdd,Nat.reduceMul,Nat.reduceSub,Nat.reduceDiv,Nat.reduceMod,Nat.reducePow,Nat.reduceLT,Nat.reduceLeDiff,Nat.reduceEqDiff,Int.reduceAdd,Int.reduceSub,Int.reduceNeg,Int.reduceMul,Int.reduceToNat,Int.reducePow,Int.reduceLE,Int.reduceLT,Int.reduceEq,Int.reduceNe,reduceIte,reduceCtorEq,ne_eq,not_true_eq_false,not_false_eq_true,imp_self,implies_true,bls,eq_self]
    exact hK1 ⟨h, fun e he => by
      obtain ⟨j, hjd⟩ := List.mem_iff_getElem?.1 he
      exact hj j e (by have := (List.getElem?_eq_some_iff.1 hjd).1; omega) hjd⟩ _ eU
/-! ### What light data are. -/
mutual
theorem light_wOk : ∀ d : Dt, (∀ e ∈ allL d, e.lm.length ≤ 80 ∧ e.tx.size ≤ 1100) → wOk d
  | .mk k g l b s its tls, h => by
    rw [allL] at h
    have h0 := h _ List.mem_cons_self
    have h1 : l.length ≤ 80 := h0.1
    have h2 : s.size ≤ 1100 := h0.2
    rw [wOk_mk]
    exact ⟨by omega, by omega, lights_wOk its fun e he => h e (by simp [he]), lights_wOk tls fun e he => h e (by simp [he])⟩
theorem lights_wOk : ∀ ds : List Dt, (∀ e ∈ allsL ds, e.lm.length ≤ 80 ∧ e.tx.size ≤ 1100) → wOks ds
  | [], _ => by rw [wOks]; trivial
  | d :: ds, h => by
    rw [allsL] at h
    rw [wOks]
    exact ⟨light_wOk d fun e he => h e (by simp [he]), lights_wOk ds fun e he => h e (by simp [he])⟩
end
mutual
theorem light_fit : ∀ d : Dt, (∀ e ∈ allL d, e.lm.length ≤ 80 ∧ e.tx.size ≤ 1100) → d.fit
  | .mk k g l b s its tls, h => by
    rw [allL] at h
    have h0 := h _ List.mem_cons_self
    have h1 : l.length ≤ 80 := h0.1
    rw [fit_mk]
    exact ⟨by omega, lights_fit its fun e he => h e (by simp [he]), lights_fit tls fun e he => h e (by simp [he])⟩
theorem lights_fit : ∀ ds : List Dt, (∀ e ∈ allsL ds, e.lm.length ≤ 80 ∧ e.tx.size ≤ 1100) → fits ds
  | [], _ => by rw [fits]; trivial
  | d :: ds, h => by
    rw [allsL] at h
    rw [fits]
    exact ⟨light_fit d fun e he => h e (by simp [he]), lights_fit ds fun e he => h e (by simp [he])⟩
end
/-! ### Shown as written. -/
def pl1 (e : Dt) : Prop := e.kd ≠ 4 ∧ (e.kd = 3 → plainL (sb e.tx) = true)
mutual
def plS : Dt → Prop
  | .mk k _ _ _ s its tls => (k ≠ 4 ∧ (k = 3 → plainL (sb s) = true)) ∧ plSs its ∧ plSs tls
def plSs : List Dt → Prop
  | [] => True
  | d :: ds => plS d ∧ plSs ds
end
mutual
theorem plS_of : ∀ d : Dt, (∀ e ∈ allL d, pl1 e) → plS d
  | .mk k g l b s its tls, h => by
    rw [allL] at h
    rw [plS]
    exact ⟨h _ List.mem_cons_self, plSs_of its fun e he => h e (by simp [he]), plSs_of tls fun e he => h e (by simp [he])⟩
theorem plSs_of : ∀ ds : List Dt, (∀ e ∈ allsL ds, pl1 e) → plSs ds
  | [], _ => by rw [plSs]; trivial
  | d :: ds, h => by
    rw [allsL] at h
    rw [plSs]
    exact ⟨plS_of d fun e he => h e (by simp [he]), plSs_of ds fun e he => h e (by simp [he])⟩
end
theorem plSs_app {l m : List Dt} : plSs (l ++ m) ↔ plSs l ∧ plSs m := by
  induction l with
  | nil => simp [plSs]
  | cons d l ih => simp only [List.cons_append, plSs, ih, and_assoc]
theorem plS0 {k : Int} {g : Bool} {l : List Nat} {b : Bool} {s : ByteArray} (h1 : k ≠ 4) (h2 : k = 3 → plainL (sb s) = true) : plS (.mk k g l b s [] []) := by
  rw [plS]; exact ⟨⟨h1, h2⟩, by rw [plSs]; trivial, by rw [plSs]; trivial⟩
mutual
theorem nrm_plS : ∀ d : Dt, plS d → plS (nrm d)
  | .mk k g l b s its tls, h => by
    rw [plS] at h
    have h1 := nrms_plS its h.2.1
    have h2 := nrms_plS tls h.2.2
    rw [nrm]
    split
    · exact plS0 (by omega) (by omega)
    split
    · exact plS0 (by omega) (by omega)
    split
    · exact plS0 h.1.1 h.1.2
    split
    · split
      · rw [plS]; exact ⟨⟨by omega, by omega⟩, h1, by rw [plSs]; trivial⟩
      · rename_i t ts hts
        rw [hts, plSs] at h2
        unfold jn
        split
        · exact h2.1
        split
        · obtain ⟨k', g', l', b', s', its', tls'⟩ := t
          have h3 := h2.1
          rw [plS] at h3 ⊢
          exact ⟨⟨by omega, by omega⟩, plSs_app.2 ⟨h1, h3.2.1⟩, h3.2.2⟩
        · rw [plS]
          exact ⟨⟨by omega, by omega⟩, h1, by rw [plSs]; exact ⟨h2.1, by rw [plSs]; trivial⟩⟩
    · exact plS0 h.1.1 (by omega)
theorem nrms_plS : ∀ ds : List Dt, plSs ds → plSs (nrms ds)
  | [], _ => by rw [nrms, plSs]; trivial
  | d :: ds, h => by
    rw [plSs] at h
    rw [nrms, plSs]
    exact ⟨nrm_plS d h.1, nrms_plS ds h.2⟩
end
mutual
theorem text_pl : ∀ d : Dt, plS d → textL true d = textL false d
  | .mk k g l b s its tls, h => by
    rw [plS] at h
    have h1 := its_pl its h.2.1
    have h2 := tls_pl tls h.2.2
    rw [text_mk, text_mk, h1, h2]
    by_cases h3 : k = 3
    · subst h3
      unfold nameL
      rw [h.1.2 rfl]
      simp
    · have h4 := h.1.1
      simp [h3, h4]
theorem its_pl : ∀ ds : List Dt, plSs ds → itsL true ds = itsL false ds
  | [], _ => by rw [itsL, itsL]
  | d :: ds, h => by
    rw [plSs] at h
    rw [itsL, itsL, text_pl d h.1, more_pl ds h.2]
theorem more_pl : ∀ ds : List Dt, plSs ds → moreL true ds = moreL false ds
  | [], _ => by rw [moreL, moreL]
  | d :: ds, h => by
    rw [plSs] at h
    rw [moreL, moreL, text_pl d h.1, more_pl ds h.2]
theorem tls_pl : ∀ ds : List Dt, plSs ds → tlsL true ds = tlsL false ds
  | [], _ => by rw [tlsL, tlsL]
  | d :: ds, h => by
    rw [plSs] at h
    rw [tlsL, tlsL, text_pl d h.1, tls_pl ds h.2]
end
theorem wrt_pl {d : Dt} (h : plS d) : wrtL true d = wrtL false d := by
  unfold wrtL
  rw [text_pl _ (nrm_plS d h)]
end Go.Proofs.Pv
