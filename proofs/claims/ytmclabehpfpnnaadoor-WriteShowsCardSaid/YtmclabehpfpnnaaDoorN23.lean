/- pavaneref03: Few, norm. -/
import Derived.Test.YtmclabehpfpnnaaDoorN9
set_option linter.unusedSimpArgs false
set_option linter.unusedVariables false
namespace Go.Proofs.Pv
open Go Go.RowKit Go.Proofs
set_option maxRecDepth 20000

theorem s_qFew : PSpec Tryd.prog 32 (RFew 100000 10000) := by
  refine fspec_of (fn := Tryd.f32) 1 [.tmp 2] (by kernel_rfl) rfl rfl (by kernel_rfl) mixed (by rintro _ _ _ ⟨x, d, rfl, _⟩; rfl) ?_
  rintro X _ st K hP hst ⟨x, d, rfl, hx, hK⟩
  obtain ⟨c, rfl, hc⟩ := hx
  have hca := hc.all
  have hc7 := hc.len
  have t7 := List.take_of_length_le (Nat.le_of_eq hc7)
  refine vc_V ?_
  simp (disch:=first|assumption|omega|(simp only [lens];omega)) only [eqs,↓gvd_succ,↓gvd_zero,↓and_of,im_of,im_of trivial,vlt,hP,hst,initS,Nat.reduceBEq,Nat.reduceAdd,Nat.reduceMul,Nat.reduceSub,Nat.reduceDiv,Nat.reduceMod,Nat.reducePow,Nat.reduceLT,Nat.reduceLeDiff,Nat.reduceEqDiff,Int.reduceAdd,Int.reduceSub,Int.reduceNeg,Int.reduceMul,Int.reduceToNat,Int.reducePow,Int.reduceLE,Int.reduceLT,Int.reduceEq,Int.reduceNe,reduceIte,reduceCtorEq,ne_eq,not_true_eq_false,not_false_eq_true,imp_self,implies_true,bls,eq_self,hca,hc7,t7]
  refine E_call (hP ▸ s_budget (d.sz + 1)) ⟨_, d, 100000, 10000, rfl, ⟨c, rfl, hc.ext (.add _)⟩, by omega, by omega, by omega, fun T hT => ?_⟩
  simp (disch:=first|assumption|omega|(simp only [lens];omega)) only [eqs,↓gvd_succ,↓gvd_zero,↓and_of,im_of,im_of trivial,vlt,hP,hst,initS,Nat.reduceBEq,Nat.reduceAdd,Nat.reduceMul,Nat.reduceSub,Nat.reduceDiv,Nat.reduceMod,Nat.reducePow,Nat.reduceLT,Nat.reduceLeDiff,Nat.reduceEqDiff,Int.reduceAdd,Int.reduceSub,Int.reduceNeg,Int.reduceMul,Int.reduceToNat,Int.reducePow,Int.reduceLE,Int.reduceLT,Int.reduceEq,Int.reduceNe,reduceIte,reduceCtorEq,ne_eq,not_true_eq_false,not_false_eq_true,imp_self,implies_true,bls,eq_self,bg_dec]
  exact hK _ ((Ext.add _).trans hT)
abbrev rD (o y : AV) : List AV := [.val (.int .i64 5), .val (.bool false), .val (.slice none 0 0), .val (.bool false), .val (.string ⟨#[]⟩), o, y]
abbrev zD : List AV := [.val (.int .i64 0), .val (.bool false), .val (.slice none 0 0), .val (.bool false), .val (.string ⟨#[]⟩), .val (.slice none 0 0), .val (.slice none 0 0)]
theorem Fine.setN {n0 : Nat} {T : St} {P : St → Prop} {r : Nat} {y : Option (List AV)} (h : Fine n0 T nilV P) (hr : r < n0) : Fine n0 (T.set r y) nilV P := by
  intro B hB
  have := h B hB
  unfold mask at this ⊢
  simp only at this ⊢
  rw [drop_set_lt hr]
  exact this
theorem DA.dc1 {st : St} {c : List AV} {d : Dt} (h : DA st (.agg c) d) : DC st c d := by
  obtain ⟨_, hc, hdc⟩ := h
  cases hc
  exact hdc
set_option maxHeartbeats 4000000 in
theorem s_qnormD (N : Nat) : PSpec Tryd.prog 44 (RNormD N) := by
  induction N with
  | zero =>
    refine fspec_of (fn := Tryd.f44) 1 [.cell 2 27] (by kernel_rfl) rfl rfl (by kernel_rfl) mixed (by rintro _ _ _ ⟨x, d, rfl, _⟩; rfl) ?_
    rintro X _ st K hP hst ⟨x, d, rfl, hx, hN, _⟩
    omega
  | succ N ih =>
  refine fspec_of (fn := Tryd.f44) 1 [.cell 2 27] (by kernel_rfl) rfl rfl (by kernel_rfl) mixed (by rintro _ _ _ ⟨x, d, rfl, _⟩; rfl) ?_
  rintro X _ st K hP hst ⟨x, d, rfl, hx, hN, hM, hfit, hK⟩
  obtain ⟨k, g, a, l, b, s, x, y, its, tls, rfl, rfl, ha, hxs, hy⟩ := hx.inv
  have la := ha.leaf
  have lx := hxs.leaf
  have ly := hy.leaf
  rw [fit_mk] at hfit
  rw [sz_mk] at hN hM
  rw [nrm_mk] at hK
  have hX : X.st1.length = st.length := by rw [hst]
  have hX1 : X.st1.length ≤ st.length + 1 := by omega
  have hX2 : X.st1.length ≤ st.length + 2 := by omega
  refine vc_V ?_
  simp (disch:=first|assumption|omega|(simp only [lens];omega)) only [eqs,↓gvd_succ,↓gvd_zero,↓and_of,im_of,im_of trivial,vlt,hP,hst,initS,Nat.reduceBEq,Nat.reduceAdd,Nat.reduceMul,Nat.reduceSub,Nat.reduceDiv,Nat.reduceMod,Nat.reducePow,Nat.reduceLT,Nat.reduceLeDiff,Nat.reduceEqDiff,Int.reduceAdd,Int.reduceSub,Int.reduceNeg,Int.reduceMul,Int.reduceToNat,Int.reducePow,Int.reduceLE,Int.reduceLT,Int.reduceEq,Int.reduceNe,reduceIte,reduceCtorEq,ne_eq,not_true_eq_false,not_false_eq_true,imp_self,implies_true,bls,eq_self,la,lx,ly,zD_map,hX1,hX2,zD7,List.append_nil]
  refine C_dec (fun h1 => ?_) (fun h1 => ?_)
  · subst h1
    rw [if_pos rfl] at hK
    simp (disch:=first|assumption|omega|(simp only [lens];omega)) only [eqs,↓gvd_succ,↓gvd_zero,↓and_of,im_of,im_of trivial,vlt,hP,hst,initS,Nat.reduceBEq,Nat.reduceAdd,Nat.reduceMul,Nat.reduceSub,Nat.reduceDiv,Nat.reduceMod,Nat.reducePow,Nat.reduceLT,Nat.reduceLeDiff,Nat.reduceEqDiff,Int.reduceAdd,Int.reduceSub,Int.reduceNeg,Int.reduceMul,Int.reduceToNat,Int.reducePow,Int.reduceLE,Int.reduceLT,Int.reduceEq,Int.reduceNe,reduceIte,reduceCtorEq,ne_eq,not_true_eq_false,not_false_eq_true,imp_self,implies_true,bls,eq_self]
    refine E_call (hP ▸ s_qNorm) ⟨_, g, l, rfl, ⟨a, rfl, ha.app _⟩, hfit.1, fun z T hz => ?_⟩
    obtain ⟨a', rfl, hg⟩ := hz
    have e0 := hg.ex
    have g1 := (At.ext At.mk1 e0).get
    have l1 := (At.ext At.mk1 e0).lt
    have la' := hg.nm.leaf
    have hlt : st.length + 1 < T.length := l1
    simp (disch:=first|assumption|omega|(simp only [lens];omega)) only [eqs,↓gvd_succ,↓gvd_zero,↓and_of,im_of,im_of trivial,vlt,hP,hst,initS,Nat.reduceBEq,Nat.reduceAdd,Nat.reduceMul,Nat.reduceSub,Nat.reduceDiv,Nat.reduceMod,Nat.reducePow,Nat.reduceLT,Nat.reduceLeDiff,Nat.reduceEqDiff,Int.reduceAdd,Int.reduceSub,Int.reduceNeg,Int.reduceMul,Int.reduceToNat,Int.reducePow,Int.reduceLE,Int.reduceLT,Int.reduceEq,Int.reduceNe,reduceIte,reduceCtorEq,ne_eq,not_true_eq_false,not_false_eq_true,imp_self,implies_true,bls,eq_self,g1,la',hX1,hX2,List.getElem?_set_self,hlt,List.length_set,zD_map,zD7,List.append_nil]
    refine hK _ _ (New.of_fine (n1 := st.length + 2) ?_ (by omega) (by simp; omega) fun B hB => ?_)
    · rw [List.take_set_of_le (by omega)]
      obtain ⟨y0, rfl⟩ := e0
      simp
    · refine DA.mk' ?_ DS.nil DS.nil
      have := hg.fine B (by rw [hB]; simp)
      unfold mask at this ⊢
      simp only at this ⊢
      rw [drop_set_lt (by omega)]
      simpa using this
  rw [if_neg h1] at hK
  simp (disch:=first|assumption|omega|(simp only [lens];omega)) only [eqs,↓gvd_succ,↓gvd_zero,↓and_of,im_of,im_of trivial,vlt,hP,hst,initS,Nat.reduceBEq,Nat.reduceAdd,Nat.reduceMul,Nat.reduceSub,Nat.reduceDiv,Nat.reduceMod,Nat.reducePow,Nat.reduceLT,Nat.reduceLeDiff,Nat.reduceEqDiff,Int.reduceAdd,Int.reduceSub,Int.reduceNeg,Int.reduceMul,Int.reduceToNat,Int.reducePow,Int.reduceLE,Int.reduceLT,Int.reduceEq,Int.reduceNe,reduceIte,reduceCtorEq,ne_eq,not_true_eq_false,not_false_eq_true,imp_self,implies_true,bls,eq_self]
  refine C_dec (fun h2 => ?_) (fun h2 => ?_)
  · subst h2
    rw [if_pos rfl] at hK
    simp (disch:=first|assumption|omega|(simp only [lens];omega)) only [eqs,↓gvd_succ,↓gvd_zero,↓and_of,im_of,im_of trivial,vlt,hP,hst,initS,Nat.reduceBEq,Nat.reduceAdd,Nat.reduceMul,Nat.reduceSub,Nat.reduceDiv,Nat.reduceMod,Nat.reducePow,Nat.reduceLT,Nat.reduceLeDiff,Nat.reduceEqDiff,Int.reduceAdd,Int.reduceSub,Int.reduceNeg,Int.reduceMul,Int.reduceToNat,Int.reducePow,Int.reduceLE,Int.reduceLT,Int.reduceEq,Int.reduceNe,reduceIte,reduceCtorEq,ne_eq,not_true_eq_false,not_false_eq_true,imp_self,implies_true,bls,eq_self,hX1,hX2,zD_map,zD7,List.append_nil]
    exact hK _ _ ⟨_, rfl, fun B _ => DA.mk' Nm.nil DS.nil DS.nil⟩
  rw [if_neg h2] at hK
  simp (disch:=first|assumption|omega|(simp only [lens];omega)) only [eqs,↓gvd_succ,↓gvd_zero,↓and_of,im_of,im_of trivial,vlt,hP,hst,initS,Nat.reduceBEq,Nat.reduceAdd,Nat.reduceMul,Nat.reduceSub,Nat.reduceDiv,Nat.reduceMod,Nat.reducePow,Nat.reduceLT,Nat.reduceLeDiff,Nat.reduceEqDiff,Int.reduceAdd,Int.reduceSub,Int.reduceNeg,Int.reduceMul,Int.reduceToNat,Int.reducePow,Int.reduceLE,Int.reduceLT,Int.reduceEq,Int.reduceNe,reduceIte,reduceCtorEq,ne_eq,not_true_eq_false,not_false_eq_true,imp_self,implies_true,bls,eq_self]
  refine C_dec (fun h3 => ?_) (fun h3 => ?_)
  · subst h3
    rw [if_pos (.inl rfl)] at hK
    simp (disch:=first|assumption|omega|(simp only [lens];omega)) only [eqs,↓gvd_succ,↓gvd_zero,↓and_of,im_of,im_of trivial,vlt,hP,hst,initS,Nat.reduceBEq,Nat.reduceAdd,Nat.reduceMul,Nat.reduceSub,Nat.reduceDiv,Nat.reduceMod,Nat.reducePow,Nat.reduceLT,Nat.reduceLeDiff,Nat.reduceEqDiff,Int.reduceAdd,Int.reduceSub,Int.reduceNeg,Int.reduceMul,Int.reduceToNat,Int.reducePow,Int.reduceLE,Int.reduceLT,Int.reduceEq,Int.reduceNe,reduceIte,reduceCtorEq,ne_eq,not_true_eq_false,not_false_eq_true,imp_self,implies_true,bls,eq_self,hX1,hX2,zD_map,zD7,List.append_nil]
    exact hK _ _ ⟨_, rfl, fun B _ => DA.mk' Nm.nil DS.nil DS.nil⟩
  simp (disch:=first|assumption|omega|(simp only [lens];omega)) only [eqs,↓gvd_succ,↓gvd_zero,↓and_of,im_of,im_of trivial,vlt,hP,hst,initS,Nat.reduceBEq,Nat.reduceAdd,Nat.reduceMul,Nat.reduceSub,Nat.reduceDiv,Nat.reduceMod,Nat.reducePow,Nat.reduceLT,Nat.reduceLeDiff,Nat.reduceEqDiff,Int.reduceAdd,Int.reduceSub,Int.reduceNeg,Int.reduceMul,Int.reduceToNat,Int.reducePow,Int.reduceLE,Int.reduceLT,Int.reduceEq,Int.reduceNe,reduceIte,reduceCtorEq,ne_eq,not_true_eq_false,not_false_eq_true,imp_self,implies_true,bls,eq_self]
  refine C_dec (fun h4 => ?_) (fun h4 => ?_)
  · subst h4
    rw [if_pos (.inr rfl)] at hK
    simp (disch:=first|assumption|omega|(simp only [lens];omega)) only [eqs,↓gvd_succ,↓gvd_zero,↓and_of,im_of,im_of trivial,vlt,hP,hst,initS,Nat.reduceBEq,Nat.reduceAdd,Nat.reduceMul,Nat.reduceSub,Nat.reduceDiv,Nat.reduceMod,Nat.reducePow,Nat.reduceLT,Nat.reduceLeDiff,Nat.reduceEqDiff,Int.reduceAdd,Int.reduceSub,Int.reduceNeg,Int.reduceMul,Int.reduceToNat,Int.reducePow,Int.reduceLE,Int.reduceLT,Int.reduceEq,Int.reduceNe,reduceIte,reduceCtorEq,ne_eq,not_true_eq_false,not_false_eq_true,imp_self,implies_true,bls,eq_self,hX1,hX2,zD_map,zD7,List.append_nil]
    exact hK _ _ ⟨_, rfl, fun B _ => DA.mk' Nm.nil DS.nil DS.nil⟩
  rw [if_neg (by omega)] at hK
  simp (disch:=first|assumption|omega|(simp only [lens];omega)) only [eqs,↓gvd_succ,↓gvd_zero,↓and_of,im_of,im_of trivial,vlt,hP,hst,initS,Nat.reduceBEq,Nat.reduceAdd,Nat.reduceMul,Nat.reduceSub,Nat.reduceDiv,Nat.reduceMod,Nat.reducePow,Nat.reduceLT,Nat.reduceLeDiff,Nat.reduceEqDiff,Int.reduceAdd,Int.reduceSub,Int.reduceNeg,Int.reduceMul,Int.reduceToNat,Int.reducePow,Int.reduceLE,Int.reduceLT,Int.reduceEq,Int.reduceNe,reduceIte,reduceCtorEq,ne_eq,not_true_eq_false,not_false_eq_true,imp_self,implies_true,bls,eq_self]
  refine C_dec (fun h5 => ?_) (fun h5 => ?_)
  rotate_left
  · rw [if_neg h5] at hK
    simp (disch:=first|assumption|omega|(simp only [lens];omega)) only [eqs,↓gvd_succ,↓gvd_zero,↓and_of,im_of,im_of trivial,vlt,hP,hst,initS,Nat.reduceBEq,Nat.reduceAdd,Nat.reduceMul,Nat.reduceSub,Nat.reduceDiv,Nat.reduceMod,Nat.reducePow,Nat.reduceLT,Nat.reduceLeDiff,Nat.reduceEqDiff,Int.reduceAdd,Int.reduceSub,Int.reduceNeg,Int.reduceMul,Int.reduceToNat,Int.reducePow,Int.reduceLE,Int.reduceLT,Int.reduceEq,Int.reduceNe,reduceIte,reduceCtorEq,ne_eq,not_true_eq_false,not_false_eq_true,imp_self,implies_true,bls,eq_self,hX1,hX2,zD_map,zD7,List.append_nil]
    exact hK _ _ ⟨_, rfl, fun B _ => DA.mk' Nm.nil DS.nil DS.nil⟩
  subst h5
  rw [if_pos rfl] at hK
  obtain ⟨cs, hsl, hdl, hcl⟩ := hxs.inv
  have hlen := szs_len (ds := its)
  have hslg := fun y => sl_grow hsl y
  simp (disch:=first|assumption|omega|(simp only [lens];omega)) only [eqs,↓gvd_succ,↓gvd_zero,↓and_of,im_of,im_of trivial,vlt,hP,hst,initS,Nat.reduceBEq,Nat.reduceAdd,Nat.reduceMul,Nat.reduceSub,Nat.reduceDiv,Nat.reduceMod,Nat.reducePow,Nat.reduceLT,Nat.reduceLeDiff,Nat.reduceEqDiff,Int.reduceAdd,Int.reduceSub,Int.reduceNeg,Int.reduceMul,Int.reduceToNat,Int.reducePow,Int.reduceLE,Int.reduceLT,Int.reduceEq,Int.reduceNe,reduceIte,reduceCtorEq,ne_eq,not_true_eq_false,not_false_eq_true,imp_self,implies_true,bls,eq_self,hX2,hslg,zD_map,zD7,List.append_nil]
  refine V_loop (ι := Nat × AV × St) (fun e => [(37, .val (.int .i64 (e.1 : Int))), (36, .val (.int .i64 (its.length : Int))), (35, x), (1, .ptr st.length 0), (2, .ptr (st.length + 1) 0), (3, .ptr (st.length + 2) 0)]) (fun e => e.2.2)
    (fun e => e.1 ≤ its.length ∧ st.length + 3 ≤ e.2.2.length ∧ e.2.2.take (st.length + 3) = st ++ [some [.val (.int .i64 5), .val (.bool g), a, .val (.bool b), .val (.string s), x, y], some zD, some (rD e.2.1 nilV)] ∧ Acc (st.length + 3) e.2.2 e.2.1 ((its.take e.1).map nrm)) (fun e => its.length - e.1) (0, nilV, _)
    ⟨by simp, by simp, List.take_of_length_le (by simp), ⟨by simp, .inl ⟨rfl, rfl⟩⟩⟩ rfl (by simp (disch:=first|assumption|omega|(simp only [lens];omega)) only [eqs,↓gvd_succ,↓gvd_zero,↓and_of,im_of,im_of trivial,vlt,hP,hst,initS,Nat.reduceBEq,Nat.reduceAdd,Nat.reduceMul,Nat.reduceSub,Nat.reduceDiv,Nat.reduceMod,Nat.reducePow,Nat.reduceLT,Nat.reduceLeDiff,Nat.reduceEqDiff,Int.reduceAdd,Int.reduceSub,Int.reduceNeg,Int.reduceMul,Int.reduceToNat,Int.reducePow,Int.reduceLE,Int.reduceLT,Int.reduceEq,Int.reduceNe,reduceIte,reduceCtorEq,ne_eq,not_true_eq_false,not_false_eq_true,imp_self,implies_true,bls,eq_self] <;> rfl) ?_
  rintro ⟨i, o, T⟩ ⟨hi, h1, h2, h3⟩
  dsimp only at hi h1 h2 h3 ⊢
  have lo := h3.dS.leaf
  have e2 : Ext _ T := take_ext h2
  have est : Ext st T := (Ext.add _).trans e2
  simp (disch:=first|assumption|omega|(simp only [lens];omega)) only [eqs,↓gvd_succ,↓gvd_zero,↓and_of,im_of,im_of trivial,vlt,hP,hst,initS,Nat.reduceBEq,Nat.reduceAdd,Nat.reduceMul,Nat.reduceSub,Nat.reduceDiv,Nat.reduceMod,Nat.reducePow,Nat.reduceLT,Nat.reduceLeDiff,Nat.reduceEqDiff,Int.reduceAdd,Int.reduceSub,Int.reduceNeg,Int.reduceMul,Int.reduceToNat,Int.reducePow,Int.reduceLE,Int.reduceLT,Int.reduceEq,Int.reduceNe,reduceIte,reduceCtorEq,ne_eq,not_true_eq_false,not_false_eq_true,imp_self,implies_true,bls,eq_self]
  refine C_dec (fun h4 => ?_) (fun h4 => ?_)
  · obtain ⟨cs0, c, e, hsl', hcl', hc, hc7, hca, he, hec, hb1, hb2⟩ := hxs.at (i := i) (by omega)
    rw [hsl] at hsl'
    cases hsl'
    have hsT := sl_le hsl est.le
    have t7 := List.take_of_length_le (Nat.le_of_eq hc7)
    have hX3 : X.st1.length ≤ T.length := by omega
    have hes := szs_mem (List.mem_of_getElem? he)
    have hef := fits_mem hfit.2.1 (List.mem_of_getElem? he)
    have g2 := (At.ext (c := rD o nilV) At.mk2 e2).get
    have hlt2 : st.length + 2 < T.length := by omega
    have g2c : (T ++ [some c])[st.length + 2]? = some (some (rD o nilV)) := by rw [List.getElem?_append_left hlt2]; exact g2
    obtain ⟨ds, hds⟩ : ∃ ds, (its.take i).map nrm = ds := ⟨_, rfl⟩
    rw [hds] at h3
    have hdl2 : ds.length = i := by rw [← hds]; simp; omega
    obtain ⟨co, hco, hdo, hcol⟩ := h3.cells
    simp (disch:=first|assumption|omega|(simp only [lens];omega)) only [eqs,↓gvd_succ,↓gvd_zero,↓and_of,im_of,im_of trivial,vlt,hP,hst,initS,Nat.reduceBEq,Nat.reduceAdd,Nat.reduceMul,Nat.reduceSub,Nat.reduceDiv,Nat.reduceMod,Nat.reducePow,Nat.reduceLT,Nat.reduceLeDiff,Nat.reduceEqDiff,Int.reduceAdd,Int.reduceSub,Int.reduceNeg,Int.reduceMul,Int.reduceToNat,Int.reducePow,Int.reduceLE,Int.reduceLT,Int.reduceEq,Int.reduceNe,reduceIte,reduceCtorEq,ne_eq,not_true_eq_false,not_false_eq_true,imp_self,implies_true,bls,eq_self,hsT,hc,hca,hc7,take7 hc7,t7,zD_drop,zD_len,List.append_nil,hX3,hb1,hb2]
    refine V_draw [0, 1, 2, 3, 4, 5, 6, 7] (by kernel_rfl) (.cons rfl <| .cons rfl <| .cons rfl <| .cons rfl <| .cons rfl <| .cons rfl <| .cons rfl <| .cons rfl <| .nil) ?_
    simp (disch:=first|assumption|omega|(simp only [lens];omega)) only [eqs,↓gvd_succ,↓gvd_zero,↓and_of,im_of,im_of trivial,vlt,hP,hst,initS,Nat.reduceBEq,Nat.reduceAdd,Nat.reduceMul,Nat.reduceSub,Nat.reduceDiv,Nat.reduceMod,Nat.reducePow,Nat.reduceLT,Nat.reduceLeDiff,Nat.reduceEqDiff,Int.reduceAdd,Int.reduceSub,Int.reduceNeg,Int.reduceMul,Int.reduceToNat,Int.reducePow,Int.reduceLE,Int.reduceLT,Int.reduceEq,Int.reduceNe,reduceIte,reduceCtorEq,ne_eq,not_true_eq_false,not_false_eq_true,imp_self,implies_true,bls,eq_self,g2c,lo,hca,hc7,t7,take7 hc7]
    refine E_call (hP ▸ ih) ⟨_, e, rfl, ⟨c, rfl, hec.ext (est.trans (.add _))⟩, by omega, by omega, hef, fun x' T2 hN2 => ?_⟩
    have hA2 : Acc (st.length + 3) T2 o ds := by
      obtain ⟨z, rfl⟩ := hN2.ex
      exact (h3.ext _).ext z
    have eT : Ext T T2 := (Ext.add _).trans hN2.ex
    have hF2 := hN2.fine (h3.ext _)
    obtain ⟨c', rfl, hdc'⟩ := hN2.da
    have lc7 := hdc'.len
    have lca := hdc'.all
    have tc7 := List.take_of_length_le (Nat.le_of_eq lc7)
    simp (disch:=first|assumption|omega|(simp only [lens];omega)) only [eqs,↓gvd_succ,↓gvd_zero,↓and_of,im_of,im_of trivial,vlt,hP,hst,initS,Nat.reduceBEq,Nat.reduceAdd,Nat.reduceMul,Nat.reduceSub,Nat.reduceDiv,Nat.reduceMod,Nat.reducePow,Nat.reduceLT,Nat.reduceLeDiff,Nat.reduceEqDiff,Int.reduceAdd,Int.reduceSub,Int.reduceNeg,Int.reduceMul,Int.reduceToNat,Int.reducePow,Int.reduceLE,Int.reduceLT,Int.reduceEq,Int.reduceNe,reduceIte,reduceCtorEq,ne_eq,not_true_eq_false,not_false_eq_true,imp_self,implies_true,bls,eq_self,lo,lc7,lca,tc7,take7 lc7,zrA1,zD7,List.append_nil]
    have hX30 : X.st1.length ≤ st.length + 3 := by omega
    have hsc : slc (T2 ++ [some c']) (.own T2.length 0 1 7) = some (1, c') := (sl_slc (show Pv.sl 7 (T2 ++ [some c']) (.own T2.length 0 1 7) = some (1, c') by rw [sl_own_eq, if_pos rfl, get_app0]; simp [lc7, tc7])).1
    refine F_appD (hA2.ext _) hX30 (m := 1) (ys := c') hsc (by rw [lc7]) lca (by omega) (by omega) fun q T' co' p1 p2 p3 p4 p5 p6 p7 => ?_
    have h4' : co' = co := by
      obtain ⟨z, hz⟩ := eT
      have h4'' := sl_grow hco z
      rw [← hz] at h4''
      rw [sl_grow h4'' _] at p4
      cases p4
      rfl
    subst h4'
    have p1 : T2.length ≤ q := by simp at p1; omega
    have p3 : T'.take (st.length + 3) = T2.take (st.length + 3) := by rw [p3, List.take_append_of_le_length hA2.len]
    have p7 : ∀ i c, T2[i]? = some (some c) → (∀ r f n s, o = .own r f n s → i ≠ r) → T'[i]? = some (some c) := fun i c hi hne => p7 i c (by rw [List.getElem?_append_left (List.getElem?_eq_some_iff.1 hi).1]; exact hi) hne
    have b2 : T'[st.length + 2]? = some (some (rD o nilV)) := by
      rw [take_get p3 (by omega), List.getElem?_take, if_pos (by omega)]
      obtain ⟨z, rfl⟩ := eT
      rw [List.getElem?_append_left hlt2]; exact g2
    have hl3 := eT.len
    have hmv : ∀ P, Mono P → Fine (st.length + 3) T2 o P → Fine (st.length + 3) (T'.set (st.length + 2) (some (rD (.own q 0 (ds.length + 1) 7) nilV))) (.own q 0 (ds.length + 1) 7) P := fun P hP hFP => hFP.move hP (fun r f n s e => (hA2.own r f n s e).1) (fun r f n s e => by cases e; omega) fun i c hi hc hne => by
      have hil := (List.getElem?_eq_some_iff.1 hc).1
      refine ⟨?_, fun r f n s e => by cases e; omega⟩
      rw [List.getElem?_set_ne (by omega)]
      exact p7 i c hc hne
    have hdo2 : Fine (st.length + 3) T2 o fun S => DL S co' ds := by
      obtain ⟨z, rfl⟩ := eT
      exact hdo.ext mono_DL h3 z
    simp (disch:=first|assumption|omega|(simp only [lens];omega)) only [eqs,↓gvd_succ,↓gvd_zero,↓and_of,im_of,im_of trivial,vlt,hP,hst,initS,Nat.reduceBEq,Nat.reduceAdd,Nat.reduceMul,Nat.reduceSub,Nat.reduceDiv,Nat.reduceMod,Nat.reducePow,Nat.reduceLT,Nat.reduceLeDiff,Nat.reduceEqDiff,Int.reduceAdd,Int.reduceSub,Int.reduceNeg,Int.reduceMul,Int.reduceToNat,Int.reducePow,Int.reduceLE,Int.reduceLT,Int.reduceEq,Int.reduceNe,reduceIte,reduceCtorEq,ne_eq,not_true_eq_false,not_false_eq_true,imp_self,implies_true,bls,eq_self,b2,lo]
    refine again (i + 1, .own q 0 (ds.length + 1) 7, _) ⟨by dsimp only; omega, by dsimp only; simp; omega, ?_, by dsimp only; simp; omega, .inr ⟨q, co' ++ c', [], ?_, by omega, ?_, ?_, ?_⟩⟩ (by dsimp only; omega) rfl (by dsimp only; simp (disch:=first|assumption|omega|(simp only [lens];omega)) only [eqs,↓gvd_succ,↓gvd_zero,↓and_of,im_of,im_of trivial,vlt,hP,hst,initS,Nat.reduceBEq,Nat.reduceAdd,Nat.reduceMul,Nat.reduceSub,Nat.reduceDiv,Nat.reduceMod,Nat.reducePow,Nat.reduceLT,Nat.reduceLeDiff,Nat.reduceEqDiff,Int.reduceAdd,Int.reduceSub,Int.reduceNeg,Int.reduceMul,Int.reduceToNat,Int.reducePow,Int.reduceLE,Int.reduceLT,Int.reduceEq,Int.reduceNe,reduceIte,reduceCtorEq,ne_eq,not_true_eq_false,not_false_eq_true,imp_self,implies_true,bls,eq_self] <;> rfl)
    · dsimp only
      rw [List.take_set, p3]
      obtain ⟨z, rfl⟩ := eT
      rw [List.take_append_of_le_length h1, h2, List.set_append_right _ _ (by omega)]
      simp
    · simp [take_succ' he, hds]
    · dsimp only
      rw [List.getElem?_set_ne (by omega), p5, List.append_nil]
    · simp [take_succ' he, hds, hcol, lc7]; omega
    · have h8 := hmv _ mono_DL hdo2
      have h9 := hmv _ mono_DA hF2
      intro B hB
      dsimp only
      rw [take_succ' he, List.map_append, hds]
      obtain ⟨_, hc, hdc⟩ := h9 B hB
      cases hc
      have := (h8 B hB).app (.one hdc)
      simpa using this
  · have hie : i = its.length := by omega
    subst hie
    rw [List.take_length] at h3
    have g0 := (take_get (i := st.length) h2 (by omega)).trans (by rw [get_app0])
    have g1 := (take_get (i := st.length + 1) h2 (by omega)).trans (by rw [get_app])
    have g2 := (take_get (i := st.length + 2) h2 (by omega)).trans (by rw [get_app])
    have hyT : DS T y tls := hy.ext est
    obtain ⟨cst, hst', hdt, hct⟩ := hyT.inv
    have htl := szs_len (ds := tls)
    have hX3 : X.st1.length ≤ st.length + 3 := by omega
    have htk : T.take st.length = st := by
      have := congrArg (List.take st.length) h2
      rw [List.take_take, Nat.min_eq_left (by omega), List.take_left] at this
      exact this
    simp (disch:=first|assumption|omega|(simp only [lens];omega)) only [eqs,↓gvd_succ,↓gvd_zero,↓and_of,im_of,im_of trivial,vlt,hP,hst,initS,Nat.reduceBEq,Nat.reduceAdd,Nat.reduceMul,Nat.reduceSub,Nat.reduceDiv,Nat.reduceMod,Nat.reducePow,Nat.reduceLT,Nat.reduceLeDiff,Nat.reduceEqDiff,Int.reduceAdd,Int.reduceSub,Int.reduceNeg,Int.reduceMul,Int.reduceToNat,Int.reducePow,Int.reduceLE,Int.reduceLT,Int.reduceEq,Int.reduceNe,reduceIte,reduceCtorEq,ne_eq,not_true_eq_false,not_false_eq_true,imp_self,implies_true,bls,eq_self,g0,g1,g2,lo,ly,hst']
    refine C_dec (fun h6 => ?_) (fun h6 => ?_)
    · have h6 : tls = [] := by
        cases tls with
        | nil => rfl
        | cons t ts => simp at h6; omega
      subst h6
      simp (disch:=first|assumption|omega|(simp only [lens];omega)) only [eqs,↓gvd_succ,↓gvd_zero,↓and_of,im_of,im_of trivial,vlt,hP,hst,initS,Nat.reduceBEq,Nat.reduceAdd,Nat.reduceMul,Nat.reduceSub,Nat.reduceDiv,Nat.reduceMod,Nat.reducePow,Nat.reduceLT,Nat.reduceLeDiff,Nat.reduceEqDiff,Int.reduceAdd,Int.reduceSub,Int.reduceNeg,Int.reduceMul,Int.reduceToNat,Int.reducePow,Int.reduceLE,Int.reduceLT,Int.reduceEq,Int.reduceNe,reduceIte,reduceCtorEq,ne_eq,not_true_eq_false,not_false_eq_true,imp_self,implies_true,bls,eq_self,g0,g1,g2,lo,ly,hX1,hX2,zD7,List.append_nil]
      have h7 := h3.low (i := st.length + 1) (y := some (rD o nilV)) (by omega)
      refine hK _ _ (New.of_fine (n1 := st.length + 3) (by rw [List.take_set_of_le (by omega)]; exact htk) (by omega) (by simp; omega) fun B hB => DA.mk' Nm.nil (h7.1.fineDS B hB) DS.nil)
    · obtain ⟨cs0, c, e, hsl', hcl', hc, hc7, hca, he, hec, hb1, hb2⟩ := hyT.at (i := 0) (by omega)
      rw [hst'] at hsl'
      cases hsl'
      have t7 := List.take_of_length_le (Nat.le_of_eq hc7)
      have hes := szs_mem (List.mem_of_getElem? he)
      have hef := fits_mem hfit.2.2 (List.mem_of_getElem? he)
      have hni := nrm_its e
      have hc0 : List.take 7 cst = c := by simpa using hc
      simp (disch:=first|assumption|omega|(simp only [lens];omega)) only [eqs,↓gvd_succ,↓gvd_zero,↓and_of,im_of,im_of trivial,vlt,hP,hst,initS,Nat.reduceBEq,Nat.reduceAdd,Nat.reduceMul,Nat.reduceSub,Nat.reduceDiv,Nat.reduceMod,Nat.reducePow,Nat.reduceLT,Nat.reduceLeDiff,Nat.reduceEqDiff,Int.reduceAdd,Int.reduceSub,Int.reduceNeg,Int.reduceMul,Int.reduceToNat,Int.reducePow,Int.reduceLE,Int.reduceLT,Int.reduceEq,Int.reduceNe,reduceIte,reduceCtorEq,ne_eq,not_true_eq_false,not_false_eq_true,imp_self,implies_true,bls,eq_self,g0,g1,g2,lo,ly,hst',hca,hc7,t7,hc0,hb1,hb2]
      refine E_call (hP ▸ ih) ⟨_, e, rfl, ⟨c, rfl, hec⟩, by omega, by omega, hef, fun x' T2 hN2 => ?_⟩
      have hA2 : Acc (st.length + 3) T2 o (its.map nrm) := by
        obtain ⟨z, rfl⟩ := hN2.ex
        exact h3.ext z
      have hF2 := hN2.fine h3
      obtain ⟨k', g', a', l', b', s', x', y', its', tls', rfl, hne, ha', hxs', hy'⟩ := hN2.da.inv
      have la' := ha'.leaf
      have lx' := hxs'.leaf
      have ly' := hy'.leaf
      have eT2 := hN2.ex
      have hl3 := eT2.len
      have b1 : T2[st.length + 1]? = some (some zD) := by
        obtain ⟨z, rfl⟩ := eT2
        rw [List.getElem?_append_left (by omega)]; exact g1
      have b2 : T2[st.length + 2]? = some (some (rD o nilV)) := by
        obtain ⟨z, rfl⟩ := eT2
        rw [List.getElem?_append_left (by omega)]; exact g2
      have ga : ∀ (y : St) (i : Nat) c, T2[i]? = some (some c) → (T2 ++ y)[i]? = some (some c) := fun y i c hi => by
        rw [List.getElem?_append_left (List.getElem?_eq_some_iff.1 hi).1]; exact hi
      have b1g := fun y => ga y _ _ b1
      have b2g := fun y => ga y _ _ b2
      obtain ⟨co, hco, hdo, hcol⟩ := hA2.cells
      rw [List.length_map] at hco hcol
      have hcog := fun y => sl_grow hco y
      have hXT : X.st1.length ≤ T2.length := by omega
      have lo := sl_leaf hco
      have htk2 : T2.take st.length = st := by
        obtain ⟨z, rfl⟩ := eT2
        rw [List.take_append_of_le_length (by omega)]; exact htk
      cases tls with
      | nil => simp at he
      | cons t ts =>
      simp only [List.getElem?_cons_zero, Option.some.injEq] at he
      subst he
      dsimp only at hK
      unfold jn at hK
      rw [List.length_map] at hK
      simp (disch:=first|assumption|omega|(simp only [lens];omega)) only [eqs,↓gvd_succ,↓gvd_zero,↓and_of,im_of,im_of trivial,vlt,hP,hst,initS,Nat.reduceBEq,Nat.reduceAdd,Nat.reduceMul,Nat.reduceSub,Nat.reduceDiv,Nat.reduceMod,Nat.reducePow,Nat.reduceLT,Nat.reduceLeDiff,Nat.reduceEqDiff,Int.reduceAdd,Int.reduceSub,Int.reduceNeg,Int.reduceMul,Int.reduceToNat,Int.reducePow,Int.reduceLE,Int.reduceLT,Int.reduceEq,Int.reduceNe,reduceIte,reduceCtorEq,ne_eq,not_true_eq_false,not_false_eq_true,imp_self,implies_true,bls,eq_self,la',lx',ly',zD_map,zD7,List.append_nil,hXT,b1g,b2g,hcog]
      refine C_dec (fun h7 => ?_) (fun h7 => ?_)
      · rw [if_pos (by omega)] at hK
        simp (disch:=first|assumption|omega|(simp only [lens];omega)) only [eqs,↓gvd_succ,↓gvd_zero,↓and_of,im_of,im_of trivial,vlt,hP,hst,initS,Nat.reduceBEq,Nat.reduceAdd,Nat.reduceMul,Nat.reduceSub,Nat.reduceDiv,Nat.reduceMod,Nat.reducePow,Nat.reduceLT,Nat.reduceLeDiff,Nat.reduceEqDiff,Int.reduceAdd,Int.reduceSub,Int.reduceNeg,Int.reduceMul,Int.reduceToNat,Int.reducePow,Int.reduceLE,Int.reduceLT,Int.reduceEq,Int.reduceNe,reduceIte,reduceCtorEq,ne_eq,not_true_eq_false,not_false_eq_true,imp_self,implies_true,bls,eq_self,la',lx',ly',zD_map,zD7,List.append_nil,hX1,b1g,b2g,hcog]
        refine hK _ _ (New.of_fine (n1 := st.length + 3) ?_ (by omega) (by simp; omega) (((hF2.all mono_DA).extN mono_DA hA2.len _).setN (by omega)))
        rw [List.take_set_of_le (by omega), List.take_append_of_le_length (by omega)]
        exact htk2
      rw [if_neg (by omega), hne] at hK
      simp (disch:=first|assumption|omega|(simp only [lens];omega)) only [eqs,↓gvd_succ,↓gvd_zero,↓and_of,im_of,im_of trivial,vlt,hP,hst,initS,Nat.reduceBEq,Nat.reduceAdd,Nat.reduceMul,Nat.reduceSub,Nat.reduceDiv,Nat.reduceMod,Nat.reducePow,Nat.reduceLT,Nat.reduceLeDiff,Nat.reduceEqDiff,Int.reduceAdd,Int.reduceSub,Int.reduceNeg,Int.reduceMul,Int.reduceToNat,Int.reducePow,Int.reduceLE,Int.reduceLT,Int.reduceEq,Int.reduceNe,reduceIte,reduceCtorEq,ne_eq,not_true_eq_false,not_false_eq_true,imp_self,implies_true,bls,eq_self,la',lx',ly',zD_map,zD7,List.append_nil,hX1,b1g,b2g,hcog]
      refine C_dec (fun h8 => ?_) (fun h8 => ?_)
      · rw [if_pos (show (Dt.mk k' g' l' b' s' its' tls').kd = 5 from h8)] at hK
        simp (disch:=first|assumption|omega|(simp only [lens];omega)) only [eqs,↓gvd_succ,↓gvd_zero,↓and_of,im_of,im_of trivial,vlt,hP,hst,initS,Nat.reduceBEq,Nat.reduceAdd,Nat.reduceMul,Nat.reduceSub,Nat.reduceDiv,Nat.reduceMod,Nat.reducePow,Nat.reduceLT,Nat.reduceLeDiff,Nat.reduceEqDiff,Int.reduceAdd,Int.reduceSub,Int.reduceNeg,Int.reduceMul,Int.reduceToNat,Int.reducePow,Int.reduceLE,Int.reduceLT,Int.reduceEq,Int.reduceNe,reduceIte,reduceCtorEq,ne_eq,not_true_eq_false,not_false_eq_true,imp_self,implies_true,bls,eq_self,la',lx',ly',lo,zD_map,zD7,List.append_nil,hX1,b1g,b2g,hcog]
        rw [hne] at hF2
        have hi' : its'.length ≤ t.sz := by rw [hne] at hni; exact hni
        have hFy : Fine (st.length + 3) T2 o fun S => DS S x' its' := fun B hB => by
          obtain ⟨c, hc, hdc⟩ := hF2 B hB
          cases hc
          cases hdc with
          | mk k1 k2 k3 => exact k2
        have hFz : Fine (st.length + 3) T2 o fun S => DS S y' tls' := fun B hB => by
          obtain ⟨c, hc, hdc⟩ := hF2 B hB
          cases hc
          cases hdc with
          | mk k1 k2 k3 => exact k3
        obtain ⟨cs2, hsl2, hdl2, hcl2⟩ := hFy.cells hA2.len
        have hall2 := (hdl2.da mono_DL hA2.len).all
        have hml : (its.map nrm).length = its.length := by simp
        refine F_appD (hA2.ext _) hX3 (sl_slc (sl_grow hsl2 _)).1 hcl2 hall2 (by omega) (by omega) fun q T' cs' p1 p2 p3 p4 p5 p6 p7 => ?_
        rw [hml] at p4 p6
        have h4' : cs' = co := by
          rw [hcog] at p4
          cases p4
          rfl
        subst h4'
        have p1 : T2.length + 1 ≤ q := by simpa using p1
        have b3 : T'[T2.length]? = _ := p7 T2.length _ (by rw [get_app0]; rfl) (fun r f n s e => by have := (hA2.own r f n s e).2; omega)
        have p3 : T'.take (st.length + 3) = T2.take (st.length + 3) := by rw [p3, List.take_append_of_le_length hA2.len]
        have p7 : ∀ i c, T2[i]? = some (some c) → (∀ r f n s, o = .own r f n s → i ≠ r) → T'[i]? = some (some c) := fun i c hi hne => p7 i c (by rw [List.getElem?_append_left (List.getElem?_eq_some_iff.1 hi).1]; exact hi) hne
        have c1 : T'[st.length + 1]? = some (some zD) := by rw [take_get p3 (by omega), List.getElem?_take, if_pos (by omega)]; exact b1
        have c2 : T'[st.length + 2]? = some (some (rD o nilV)) := by rw [take_get p3 (by omega), List.getElem?_take, if_pos (by omega)]; exact b2
        have c2l := (List.getElem?_eq_some_iff.1 c2).1
        have q1 : st.length + 2 ≠ T2.length := by omega
        have q2 : st.length + 2 ≠ st.length + 1 := by omega
        simp (disch:=first|assumption|omega|(simp only [lens];omega)) only [eqs,↓gvd_succ,↓gvd_zero,↓and_of,im_of,im_of trivial,vlt,hP,hst,initS,Nat.reduceBEq,Nat.reduceAdd,Nat.reduceMul,Nat.reduceSub,Nat.reduceDiv,Nat.reduceMod,Nat.reducePow,Nat.reduceLT,Nat.reduceLeDiff,Nat.reduceEqDiff,Int.reduceAdd,Int.reduceSub,Int.reduceNeg,Int.reduceMul,Int.reduceToNat,Int.reducePow,Int.reduceLE,Int.reduceLT,Int.reduceEq,Int.reduceNe,reduceIte,reduceCtorEq,ne_eq,not_true_eq_false,not_false_eq_true,imp_self,implies_true,bls,eq_self,c1,c2,b3,c2l,hml,ly',zD7,List.append_nil,hX1,hX2,List.getElem?_set_self,List.getElem?_set_ne,q1,q2,List.length_set]
        have hl' := (List.getElem?_eq_some_iff.1 p5).1
        have hmv : ∀ P, Mono P → Fine (st.length + 3) T2 o P → Fine (st.length + 3) ((List.set T' (st.length + 2) (some (rD (.own q 0 (its.length + its'.length) 7) y'))).set (st.length + 1) (some (rD (.own q 0 (its.length + its'.length) 7) y'))) nilV P := fun P hP hFP => hFP.move hP (fun r f n s e => (hA2.own r f n s e).1) (fun r f n s e => by cases e) fun i c hi hc hne => by
          refine ⟨?_, fun r f n s e => by cases e⟩
          rw [List.getElem?_set_ne (by omega), List.getElem?_set_ne (by omega)]
          exact p7 i c hc hne
        have m1 := hmv _ mono_DL hdo
        have m2 := hmv _ mono_DL hdl2
        have m3 := hmv _ mono_DS hFz
        refine hK _ _ (New.of_fine (n1 := st.length + 3) ?_ (by omega) (by simp; omega) fun B hB => ?_)
        · rw [List.take_set_of_le (by omega), List.take_set_of_le (by omega)]
          have := congrArg (List.take st.length) p3
          rw [List.take_take, List.take_take, Nat.min_eq_left (by omega)] at this
          rw [this]; exact htk2
        · refine DA.mk' Nm.nil ?_ (m3 B hB)
          have := DS.own (T := B ++ mask nilV (st.length + 3) ((List.set T' (st.length + 2) (some (rD (.own q 0 (its.length + its'.length) 7) y'))).set (st.length + 1) (some (rD (.own q 0 (its.length + its'.length) 7) y')))) (ds := its.map nrm ++ its') ⟨(get_low hB (r := q) (by omega)).trans (by rw [List.getElem?_set_ne (by omega), List.getElem?_set_ne (by omega)]; exact p5)⟩ ((m1 B hB).app (m2 B hB))
          rwa [List.length_append, hml] at this
      · rw [if_neg (show ¬(Dt.mk k' g' l' b' s' its' tls').kd = 5 from h8)] at hK
        simp (disch:=first|assumption|omega|(simp only [lens];omega)) only [eqs,↓gvd_succ,↓gvd_zero,↓and_of,im_of,im_of trivial,vlt,hP,hst,initS,Nat.reduceBEq,Nat.reduceAdd,Nat.reduceMul,Nat.reduceSub,Nat.reduceDiv,Nat.reduceMod,Nat.reducePow,Nat.reduceLT,Nat.reduceLeDiff,Nat.reduceEqDiff,Int.reduceAdd,Int.reduceSub,Int.reduceNeg,Int.reduceMul,Int.reduceToNat,Int.reducePow,Int.reduceLE,Int.reduceLT,Int.reduceEq,Int.reduceNe,reduceIte,reduceCtorEq,ne_eq,not_true_eq_false,not_false_eq_true,imp_self,implies_true,bls,eq_self,la',lx',ly',lo,zD_map,zD7,List.append_nil,hX1,hX2,hX3,b1g,b2g,hcog,zrA1,List.getElem?_set_ne]
        rw [hne] at hF2
        have q2 : st.length + 2 ≠ st.length + 1 := by omega
        refine hK _ _ (New.of_fine (n1 := st.length + 3) ?_ (by omega) (by simp; omega) fun B hB => ?_)
        · rw [List.take_set_of_le (by omega), List.take_set_of_le (by omega), List.take_append_of_le_length (by omega)]
          exact htk2
        · have mvn : ∀ (z : St) (y1 y2 : Option (List AV)) (P : St → Prop), Mono P → Fine (st.length + 3) T2 nilV P → Fine (st.length + 3) (((T2 ++ z).set (st.length + 2) y1).set (st.length + 1) y2) nilV P := fun z y1 y2 P hP hF => ((hF.extN hP hA2.len z).setN (by omega)).setN (by omega)
          refine DA.mk' Nm.nil (mvn _ _ _ _ mono_DS hA2.fineDS B hB) ?_
          exact DS.own (ds := [_]) ⟨(get_low hB (r := T2.length + 1) (by omega)).trans (by rw [List.getElem?_set_ne (by omega), List.getElem?_set_ne (by omega), get_app]; rfl)⟩ (.one (DA.dc1 (mvn _ _ _ _ mono_DA (hF2.all mono_DA) B hB)))
end Go.Proofs.Pv
