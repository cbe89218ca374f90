/- The document's whole numbers, third part: divisions. -/
import Derived.Test.YtmclabehpfpnnaaGreatDoorQ2
import Derived.Test.YtmclabehpfpnnaaGreatDoorW15
import Derived.Test.YtmclabehpfpnnaaGreatDoorR8
set_option linter.unusedSimpArgs false
set_option linter.unusedVariables false
namespace Go.Proofs.Pv
open Go Go.RowKit Go.Proofs
set_option maxRecDepth 20000

set_option maxHeartbeats 4000000 in
theorem s_qQuo : PSpec Tryz.prog 62 (RwQuo Int.tdiv Int.tmod) := by
  refine fspec_of (fn := Tryz.f62) 2 [.cell 4 27, .cell 5 27, .tmp 6] (by kernel_rfl) rfl rfl (by kernel_rfl) mixed (by rintro _ _ _ ⟨x, y, s, t, l, m, rfl, _⟩; rfl) ?_
  rintro X _ st K hP hst ⟨x, y, s, t, l, m, rfl, hx, hy, hl, hm, hK, hK0⟩
  have hx1 := hx
  have hy1 := hy
  obtain ⟨a, rfl, ha, hal⟩ := hx.iv
  obtain ⟨b, rfl, hb, hbl⟩ := hy.iv
  refine vc_V ?_
  have b1 := limbs_len ha.lt
  have b2 := limbs_len hb.lt
  simp (disch:=first|assumption|omega|(simp only [lens];omega)) only [eqs,↓gvd_succ,↓gvd_zero,↓and_of,im_of,im_of trivial,vlt,hP,hst,initS,Nat.reduceBEq,Nat.reduceAdd,Nat.reduceMul,Nat.reduceSub,Nat.reduceDiv,Nat.reduceMod,Nat.reducePow,Nat.reduceLT,Nat.reduceLeDiff,Nat.reduceEqDiff,Int.reduceAdd,Int.reduceSub,Int.reduceNeg,Int.reduceMul,Int.reduceToNat,Int.reducePow,Int.reduceLE,Int.reduceLT,Int.reduceEq,Int.reduceNe,reduceIte,reduceCtorEq,ne_eq,not_true_eq_false,not_false_eq_true,imp_self,implies_true,bls,eq_self,hal,hbl]
  refine V_late (s' := (7, AV.junk) :: (8, AV.junk) :: _) [4, 5] [0, 2, 1, 3] [6, 7] hP (by kernel_rfl) (by kernel_rfl) (.cons rfl <| .cons rfl <| .cons rfl <| .cons rfl <| .cons rfl <| .cons rfl <| .cons rfl <| .cons rfl <| .nil) rfl ?_; rw [mask_nil]
  simp (disch:=first|assumption|omega|(simp only [lens];omega)) only [eqs,↓gvd_succ,↓gvd_zero,↓and_of,im_of,im_of trivial,vlt,hP,hst,initS,Nat.reduceBEq,Nat.reduceAdd,Nat.reduceMul,Nat.reduceSub,Nat.reduceDiv,Nat.reduceMod,Nat.reducePow,Nat.reduceLT,Nat.reduceLeDiff,Nat.reduceEqDiff,Int.reduceAdd,Int.reduceSub,Int.reduceNeg,Int.reduceMul,Int.reduceToNat,Int.reducePow,Int.reduceLE,Int.reduceLT,Int.reduceEq,Int.reduceNe,reduceIte,reduceCtorEq,ne_eq,not_true_eq_false,not_false_eq_true,imp_self,implies_true,bls,eq_self]
  refine E_call (hP ▸ s_qNorm) ⟨_, s, l, rfl, hx1.ext (.add _), by omega, fun z T hz => ?_⟩
  simp (disch:=first|assumption|omega|(simp only [lens];omega)) only [eqs,↓gvd_succ,↓gvd_zero,↓and_of,im_of,im_of trivial,vlt,hP,hst,initS,Nat.reduceBEq,Nat.reduceAdd,Nat.reduceMul,Nat.reduceSub,Nat.reduceDiv,Nat.reduceMod,Nat.reducePow,Nat.reduceLT,Nat.reduceLeDiff,Nat.reduceEqDiff,Int.reduceAdd,Int.reduceSub,Int.reduceNeg,Int.reduceMul,Int.reduceToNat,Int.reducePow,Int.reduceLE,Int.reduceLT,Int.reduceEq,Int.reduceNe,reduceIte,reduceCtorEq,ne_eq,not_true_eq_false,not_false_eq_true,imp_self,implies_true,bls,eq_self]
  refine E_call (hP ▸ s_qNorm) ⟨_, t, m, rfl, hy1.ext ((Ext.add _).trans hz.ex), by omega, fun w T2 hw => ?_⟩
  have hz2 := hz.ext hw.ex
  have e0 : Ext st T2 := (Ext.add _).trans hz2.ex
  have hC : At T2 (st.length + 2) [.val (.bool false), .val (.slice none 0 0)] := At.ext ⟨by rw [get_app]; rfl⟩ hz2.ex
  have hD : At T2 (st.length + 3) [.val (.bool false), .val (.slice none 0 0)] := At.ext ⟨by rw [get_app]; rfl⟩ hz2.ex
  have hW0 : val m = 0 ↔ iv t (val m) = 0 := iv_eq_zero.symm
  have c1 : (limbs (iv s (val l)).natAbs).length ≤ 800 := by rw [iv_natAbs]; omega
  have c2 : (limbs (iv t (val m)).natAbs).length ≤ 800 := by rw [iv_natAbs]; omega
  generalize iv s (val l) = Z at *
  generalize iv t (val m) = W at *
  obtain ⟨a', rfl, ha'⟩ := hz2
  obtain ⟨b', rfl, hb'⟩ := hw
  have hal' := ha'.nm.leaf
  have hbl' := hb'.nm.leaf
  have hlen := e0.len
  have hX0 : X.st1.length ≤ T2.length := by rw [hst]; omega
  have hX1 : X.st1.length ≤ T2.length + 1 := by omega
  rw [hst] at hX0 hX1
  obtain ⟨s', hs'⟩ : ∃ s', decide (Z < 0) = s' := ⟨_, rfl⟩
  obtain ⟨t', ht'⟩ : ∃ t', decide (W < 0) = t' := ⟨_, rfl⟩
  rw [hs', ht']
  simp (disch:=first|assumption|omega|(simp only [lens];omega)) only [eqs,↓gvd_succ,↓gvd_zero,↓and_of,im_of,im_of trivial,vlt,hP,hst,initS,Nat.reduceBEq,Nat.reduceAdd,Nat.reduceMul,Nat.reduceSub,Nat.reduceDiv,Nat.reduceMod,Nat.reducePow,Nat.reduceLT,Nat.reduceLeDiff,Nat.reduceEqDiff,Int.reduceAdd,Int.reduceSub,Int.reduceNeg,Int.reduceMul,Int.reduceToNat,Int.reducePow,Int.reduceLE,Int.reduceLT,Int.reduceEq,Int.reduceNe,reduceIte,reduceCtorEq,ne_eq,not_true_eq_false,not_false_eq_true,imp_self,implies_true,bls,eq_self,hal',hbl',hX0,hX1]
  obtain ⟨S, hS⟩ : ∃ S, T2 ++ [some [.val (.bool s'), a'], some [.val (.bool t'), b']] = S := ⟨_, rfl⟩
  have hTS : Ext T2 S := ⟨_, hS.symm⟩
  have hNa : Nm S a' (limbs Z.natAbs) := ha'.nm.ext hTS
  have hNb : Nm S b' (limbs W.natAbs) := hb'.nm.ext hTS
  have hSe : Ext st S := e0.trans hTS
  have hSA : At S T2.length [.val (.bool s'), a'] := ⟨hS ▸ by rw [get_app0]; rfl⟩
  have hSB : At S (T2.length + 1) [.val (.bool t'), b'] := ⟨hS ▸ by rw [get_app]; rfl⟩
  have hSC := hC.ext hTS
  have hSD := hD.ext hTS
  rw [hS]
  clear hS
  have hSA1 := hSA.get
  have hSB1 := hSB.get
  have hSC1 := hSC.get
  have hSD1 := hSD.get
  have hSC2 := hSC.lt
  have hSD2 := hSD.lt
  have h1 := hNa.sl
  have h2 := hNb.sl
  have hX2 : X.st1.length ≤ st.length + 2 := by rw [hst]; omega
  have hX3 : X.st1.length ≤ st.length + 3 := by omega
  have hne2 : st.length + 2 ≠ st.length + 3 := by omega
  simp (disch:=first|assumption|omega|(simp only [lens];omega)) only [eqs,↓gvd_succ,↓gvd_zero,↓and_of,im_of,im_of trivial,vlt,hP,hst,initS,Nat.reduceBEq,Nat.reduceAdd,Nat.reduceMul,Nat.reduceSub,Nat.reduceDiv,Nat.reduceMod,Nat.reducePow,Nat.reduceLT,Nat.reduceLeDiff,Nat.reduceEqDiff,Int.reduceAdd,Int.reduceSub,Int.reduceNeg,Int.reduceMul,Int.reduceToNat,Int.reducePow,Int.reduceLE,Int.reduceLT,Int.reduceEq,Int.reduceNe,reduceIte,reduceCtorEq,ne_eq,not_true_eq_false,not_false_eq_true,imp_self,implies_true,bls,eq_self,hSA1,hSB1,h2]
  refine C_dec (fun h => ?_) (fun h => ?_)
  · have hWz : W = 0 := by
      have := val_limbs W.natAbs
      rw [List.eq_nil_of_length_eq_zero (show (limbs W.natAbs).length = 0 by omega)] at this
      simp [val] at this
      omega
    simp (disch:=first|assumption|omega|(simp only [lens];omega)) only [eqs,↓gvd_succ,↓gvd_zero,↓and_of,im_of,im_of trivial,vlt,hP,hst,initS,Nat.reduceBEq,Nat.reduceAdd,Nat.reduceMul,Nat.reduceSub,Nat.reduceDiv,Nat.reduceMod,Nat.reducePow,Nat.reduceLT,Nat.reduceLeDiff,Nat.reduceEqDiff,Int.reduceAdd,Int.reduceSub,Int.reduceNeg,Int.reduceMul,Int.reduceToNat,Int.reducePow,Int.reduceLE,Int.reduceLT,Int.reduceEq,Int.reduceNe,reduceIte,reduceCtorEq,ne_eq,not_true_eq_false,not_false_eq_true,imp_self,implies_true,bls,eq_self,hSC1,hSD1,List.getElem?_set_ne]
    exact hK0 (hW0.2 hWz) _ ((hSe.set (by omega) _).set (by omega) _)
  · have hWn : W ≠ 0 := by
      rintro rfl
      rw [show (0 : Int).natAbs = 0 from rfl, limbs_zero] at h
      exact h rfl
    have hmn : val m ≠ 0 := fun h => hWn (hW0.1 h)
    have hWa : W.natAbs ≠ 0 := by omega
    have d1 := len_div Z.natAbs W.natAbs
    have d2 := len_rem Z.natAbs W.natAbs
    rw [if_neg hWa] at d2
    simp (disch:=first|assumption|omega|(simp only [lens];omega)) only [eqs,↓gvd_succ,↓gvd_zero,↓and_of,im_of,im_of trivial,vlt,hP,hst,initS,Nat.reduceBEq,Nat.reduceAdd,Nat.reduceMul,Nat.reduceSub,Nat.reduceDiv,Nat.reduceMod,Nat.reducePow,Nat.reduceLT,Nat.reduceLeDiff,Nat.reduceEqDiff,Int.reduceAdd,Int.reduceSub,Int.reduceNeg,Int.reduceMul,Int.reduceToNat,Int.reducePow,Int.reduceLE,Int.reduceLT,Int.reduceEq,Int.reduceNe,reduceIte,reduceCtorEq,ne_eq,not_true_eq_false,not_false_eq_true,imp_self,implies_true,bls,eq_self,hSA1,hSB1]
    refine E_call (hP ▸ s_rDiv) ⟨a', b', _, _, rfl, hNa, hNb, by omega, by omega, fun q r T3 hq hr => ?_⟩
    rw [val_limbs, val_limbs] at hq hr
    rw [if_neg hWa] at hr
    have gA := (hSA.ext hq.ex).get
    have gB := (hSB.ext hq.ex).get
    have hql := hq.nm.leaf
    have hrl := hr.nm.leaf
    simp (disch:=first|assumption|omega|(simp only [lens];omega)) only [eqs,↓gvd_succ,↓gvd_zero,↓and_of,im_of,im_of trivial,vlt,hP,hst,initS,Nat.reduceBEq,Nat.reduceAdd,Nat.reduceMul,Nat.reduceSub,Nat.reduceDiv,Nat.reduceMod,Nat.reducePow,Nat.reduceLT,Nat.reduceLeDiff,Nat.reduceEqDiff,Int.reduceAdd,Int.reduceSub,Int.reduceNeg,Int.reduceMul,Int.reduceToNat,Int.reducePow,Int.reduceLE,Int.reduceLT,Int.reduceEq,Int.reduceNe,reduceIte,reduceCtorEq,ne_eq,not_true_eq_false,not_false_eq_true,imp_self,implies_true,bls,eq_self]
    refine V_draw [0, 1, 2, 3, 4, 5, 6, 8, 9, 10, 11, 7, 12, 13, 14, 15] (by kernel_rfl) (.cons rfl <| .cons rfl <| .cons rfl <| .cons rfl <| .cons rfl <| .cons rfl <| .cons rfl <| .cons rfl <| .cons rfl <| .cons rfl <| .cons rfl <| .cons rfl <| .cons rfl <| .cons rfl <| .cons rfl <| .cons rfl <| .nil) ?_
    simp (disch:=first|assumption|omega|(simp only [lens];omega)) only [eqs,↓gvd_succ,↓gvd_zero,↓and_of,im_of,im_of trivial,vlt,hP,hst,initS,Nat.reduceBEq,Nat.reduceAdd,Nat.reduceMul,Nat.reduceSub,Nat.reduceDiv,Nat.reduceMod,Nat.reducePow,Nat.reduceLT,Nat.reduceLeDiff,Nat.reduceEqDiff,Int.reduceAdd,Int.reduceSub,Int.reduceNeg,Int.reduceMul,Int.reduceToNat,Int.reducePow,Int.reduceLE,Int.reduceLT,Int.reduceEq,Int.reduceNe,reduceIte,reduceCtorEq,ne_eq,not_true_eq_false,not_false_eq_true,imp_self,implies_true,bls,eq_self,gA,gB,hql,hrl]
    refine E_call (hP ▸ s_qNorm) ⟨_, _, _, rfl, ⟨q, rfl, hq.nm⟩, by omega, fun Q T4 hQ => ?_⟩
    simp (disch:=first|assumption|omega|(simp only [lens];omega)) only [eqs,↓gvd_succ,↓gvd_zero,↓and_of,im_of,im_of trivial,vlt,hP,hst,initS,Nat.reduceBEq,Nat.reduceAdd,Nat.reduceMul,Nat.reduceSub,Nat.reduceDiv,Nat.reduceMod,Nat.reducePow,Nat.reduceLT,Nat.reduceLeDiff,Nat.reduceEqDiff,Int.reduceAdd,Int.reduceSub,Int.reduceNeg,Int.reduceMul,Int.reduceToNat,Int.reducePow,Int.reduceLE,Int.reduceLT,Int.reduceEq,Int.reduceNe,reduceIte,reduceCtorEq,ne_eq,not_true_eq_false,not_false_eq_true,imp_self,implies_true,bls,eq_self]
    refine E_call (hP ▸ s_qNorm) ⟨_, _, _, rfl, ⟨r, rfl, hr.nm.ext hQ.ex⟩, by omega, fun R' T5 hR' => ?_⟩
    have k1 := iv_bool hs'
    have k2 := iv_bool ht'
    have eQ : iv (s' != t') (val (limbs (Z.natAbs / W.natAbs))) = Z.tdiv W := by rw [val_limbs, ← iv_tdiv, ← k1, ← k2]
    have eR : iv s' (val (limbs (Z.natAbs % W.natAbs))) = Z.tmod W := by rw [val_limbs, ← iv_tmod (t := t'), ← k1, ← k2]
    rw [eQ] at hQ
    rw [eR] at hR'
    have hu2 : GotI S T5 Q (Z.tdiv W) := GotI.pre hq.ex (hQ.ext hR'.ex)
    have hv2 : GotI S T5 R' (Z.tmod W) := GotI.pre (hq.ex.trans hQ.ex) hR'
    have hu3 := hu2
    have hv3 := hv2
    obtain ⟨u', rfl, hu'⟩ := hu2
    obtain ⟨v', rfl, hv'⟩ := hv2
    have hul := hu'.nm.leaf
    have hvl := hv'.nm.leaf
    have fC := (hSC.ext hu'.ex).get
    have fD := (hSD.ext hu'.ex).get
    have fC2 := (hSC.ext hu'.ex).lt
    have fD2 := (hSD.ext hu'.ex).lt
    simp (disch:=first|assumption|omega|(simp only [lens];omega)) only [eqs,↓gvd_succ,↓gvd_zero,↓and_of,im_of,im_of trivial,vlt,hP,hst,initS,Nat.reduceBEq,Nat.reduceAdd,Nat.reduceMul,Nat.reduceSub,Nat.reduceDiv,Nat.reduceMod,Nat.reducePow,Nat.reduceLT,Nat.reduceLeDiff,Nat.reduceEqDiff,Int.reduceAdd,Int.reduceSub,Int.reduceNeg,Int.reduceMul,Int.reduceToNat,Int.reducePow,Int.reduceLE,Int.reduceLT,Int.reduceEq,Int.reduceNe,reduceIte,reduceCtorEq,ne_eq,not_true_eq_false,not_false_eq_true,imp_self,implies_true,bls,eq_self,hul,hvl,fC,fD,List.getElem?_set_ne]
    exact hK hmn _ _ _ (hu3.end2 hSe (by omega) hSC2 (by omega) hSD2) (hv3.end2 hSe (by omega) hSC2 (by omega) hSD2)
theorem fq_yes {Z W : Int} (h : Z.tmod W = 0 ∨ decide (Z.tmod W < 0) = decide (W < 0)) : fq Z W = Z.tdiv W ∧ fr Z W = Z.tmod W := by
  have h2 : Z.tmod W = 0 ∨ ((Z.tmod W < 0) ↔ (W < 0)) := by rwa [decide_eq_decide] at h
  unfold fq fr
  rw [if_pos h2, if_pos h2]
  exact ⟨rfl, rfl⟩
theorem fq_no {Z W : Int} (h : Z.tmod W ≠ 0) (h1 : decide (Z.tmod W < 0) ≠ decide (W < 0)) : fq Z W = Z.tdiv W - 1 ∧ fr Z W = Z.tmod W + W := by
  have h2 : ¬(Z.tmod W = 0 ∨ ((Z.tmod W < 0) ↔ (W < 0))) := by
    rintro (h3 | h3)
    · exact h h3
    · exact h1 (decide_eq_decide.2 h3)
  unfold fq fr
  rw [if_neg h2, if_neg h2]
  exact ⟨rfl, rfl⟩
set_option maxHeartbeats 4000000 in
theorem s_qFloor : PSpec Tryz.prog 63 (RwQuo fq fr) := by
  refine fspec_of (fn := Tryz.f63) 2 [.cell 4 27, .cell 5 27, .tmp 6] (by kernel_rfl) rfl rfl (by kernel_rfl) mixed (by rintro _ _ _ ⟨x, y, s, t, l, m, rfl, _⟩; rfl) ?_
  rintro X _ st K hP hst ⟨x, y, s, t, l, m, rfl, hx, hy, hl, hm, hK, hK0⟩
  have hx1 := hx
  have hy1 := hy
  obtain ⟨a, rfl, ha, hal⟩ := hx.iv
  obtain ⟨b, rfl, hb, hbl⟩ := hy.iv
  refine vc_V ?_
  have b1 := limbs_len ha.lt
  have b2 := limbs_len hb.lt
  have hX2 : X.st1.length ≤ st.length + 2 := by rw [hst]; omega
  have hX3 : X.st1.length ≤ st.length + 3 := by rw [hst]; omega
  have hne2 : st.length + 2 ≠ st.length + 3 := by omega
  simp (disch:=first|assumption|omega|(simp only [lens];omega)) only [eqs,↓gvd_succ,↓gvd_zero,↓and_of,im_of,im_of trivial,vlt,hP,hst,initS,Nat.reduceBEq,Nat.reduceAdd,Nat.reduceMul,Nat.reduceSub,Nat.reduceDiv,Nat.reduceMod,Nat.reducePow,Nat.reduceLT,Nat.reduceLeDiff,Nat.reduceEqDiff,Int.reduceAdd,Int.reduceSub,Int.reduceNeg,Int.reduceMul,Int.reduceToNat,Int.reducePow,Int.reduceLE,Int.reduceLT,Int.reduceEq,Int.reduceNe,reduceIte,reduceCtorEq,ne_eq,not_true_eq_false,not_false_eq_true,imp_self,implies_true,bls,eq_self,hal,hbl]
  refine E_call (hP ▸ s_qQuo) ⟨_, _, s, t, l, m, rfl, hx1.ext (.add _), hy1.ext (.add _), hl, hm, fun hm0 u w T hu hw => ?_, fun hm0 T hT => ?_⟩
  · have hT := hu.ex
    have e0 : Ext st T := (Ext.add _).trans hT
    have hlen := e0.len
    have hlen2 := hT.len
    simp only [List.length_append, List.length_cons, List.length_nil] at hlen2
    have hB : At T (st.length + 1) [.val (.bool t), b] := At.ext ⟨by rw [get_app]; rfl⟩ hT
    have hC : At T (st.length + 2) [.val (.bool false), .val (.slice none 0 0)] := At.ext ⟨by rw [get_app]; rfl⟩ hT
    have hD : At T (st.length + 3) [.val (.bool false), .val (.slice none 0 0)] := At.ext ⟨by rw [get_app]; rfl⟩ hT
    have hK := hK hm0
    have c0 := limbs_len_mono (Nat.le_of_lt (tmod_sign (iv s (val l)) (iv t (val m)) (fun h => hm0 (iv_eq_zero.1 h))).1)
    have c1 : (limbs (iv t (val m)).natAbs).length ≤ 800 := by rw [iv_natAbs]; omega
    have c2 : (limbs ((iv s (val l)).tdiv (iv t (val m))).natAbs).length ≤ 800 := by rw [iv_tdiv, iv_natAbs]; have := len_div (val l) (val m); omega
    obtain ⟨Z, hZ⟩ : ∃ Z, iv s (val l) = Z := ⟨_, rfl⟩
    obtain ⟨W, hW⟩ : ∃ W, iv t (val m) = W := ⟨_, rfl⟩
    rw [hZ, hW] at hu hw hK c0 c2
    rw [hW] at c1
    have hu1 := hu
    have hw1 := hw
    obtain ⟨u', rfl, hu'⟩ := hu
    obtain ⟨w', rfl, hw'⟩ := hw
    have hul := hu'.nm.leaf
    have hwl := hw'.nm.leaf
    have hX0 : st.length ≤ T.length + 1 := by omega
    simp (disch:=first|assumption|omega|(simp only [lens];omega)) only [eqs,↓gvd_succ,↓gvd_zero,↓and_of,im_of,im_of trivial,vlt,hP,hst,initS,Nat.reduceBEq,Nat.reduceAdd,Nat.reduceMul,Nat.reduceSub,Nat.reduceDiv,Nat.reduceMod,Nat.reducePow,Nat.reduceLT,Nat.reduceLeDiff,Nat.reduceEqDiff,Int.reduceAdd,Int.reduceSub,Int.reduceNeg,Int.reduceMul,Int.reduceToNat,Int.reducePow,Int.reduceLE,Int.reduceLT,Int.reduceEq,Int.reduceNe,reduceIte,reduceCtorEq,ne_eq,not_true_eq_false,not_false_eq_true,imp_self,implies_true,bls,eq_self,hul,hwl,hlen,hX0]
    obtain ⟨S, hS⟩ : ∃ S, T ++ [some [.val (.bool (decide (Z.tdiv W < 0))), u'], some [.val (.bool (decide (Z.tmod W < 0))), w']] = S := ⟨_, rfl⟩
    have hTS : Ext T S := ⟨_, hS.symm⟩
    have hSe : Ext st S := e0.trans hTS
    have hSA : At S T.length [.val (.bool (decide (Z.tdiv W < 0))), u'] := ⟨hS ▸ by rw [get_app0]; rfl⟩
    have hSB : At S (T.length + 1) [.val (.bool (decide (Z.tmod W < 0))), w'] := ⟨hS ▸ by rw [get_app]; rfl⟩
    have hSY := hB.ext hTS
    have hSC := hC.ext hTS
    have hSD := hD.ext hTS
    rw [hS]
    clear hS
    have gA := hSA.get
    have gB := hSB.get
    have gC := hSC.get
    have gD := hSD.get
    have gC2 := hSC.lt
    have gD2 := hSD.lt
    have h1 := (hw'.nm.ext hTS).sl
    have yes : (Z.tmod W = 0 ∨ decide (Z.tmod W < 0) = decide (W < 0)) → ∀ S', Ext S S' → K (.tup [.agg [.val (.bool (decide (Z.tdiv W < 0))), u'], .agg [.val (.bool (decide (Z.tmod W < 0))), w'], .val (.int .i64 0)]) ((S'.set (st.length + 2) (some [.val (.bool (decide (Z.tdiv W < 0))), u'])).set (st.length + 3) (some [.val (.bool (decide (Z.tmod W < 0))), w'])) := by
      intro h S' hS'
      rw [(fq_yes h).1, (fq_yes h).2] at hK
      have hS2 := hTS.trans hS'
      exact hK _ _ _ ((hu1.ext hS2).end2 (.add _) (by omega) (by simp) (by omega) (by simp)) ((hw1.ext hS2).end2 (.add _) (by omega) (by simp) (by omega) (by simp))

    refine V_draw [0, 1, 2, 3, 4, 5, 6, 7, 8, 9, 10, 11, 12, 13, 14, 15] (by kernel_rfl) (.cons rfl <| .cons rfl <| .cons rfl <| .cons rfl <| .cons rfl <| .cons rfl <| .cons rfl <| .cons rfl <| .cons rfl <| .cons rfl <| .cons rfl <| .cons rfl <| .cons rfl <| .cons rfl <| .cons rfl <| .cons rfl <| .nil) ?_
    simp (disch:=first|assumption|omega|(simp only [lens];omega)) only [eqs,↓gvd_succ,↓gvd_zero,↓and_of,im_of,im_of trivial,vlt,hP,hst,initS,Nat.reduceBEq,Nat.reduceAdd,Nat.reduceMul,Nat.reduceSub,Nat.reduceDiv,Nat.reduceMod,Nat.reducePow,Nat.reduceLT,Nat.reduceLeDiff,Nat.reduceEqDiff,Int.reduceAdd,Int.reduceSub,Int.reduceNeg,Int.reduceMul,Int.reduceToNat,Int.reducePow,Int.reduceLE,Int.reduceLT,Int.reduceEq,Int.reduceNe,reduceIte,reduceCtorEq,ne_eq,not_true_eq_false,not_false_eq_true,imp_self,implies_true,bls,eq_self,gB,h1]
    refine G_dec (fun h => ?_) (fun h => ?_)
    · have hR : Z.tmod W ≠ 0 := fun h3 => by rw [h3, show (0 : Int).natAbs = 0 from rfl, limbs_zero] at h; exact absurd h (by simp)
      have gY := hSY.get
      simp (disch:=first|assumption|omega|(simp only [lens];omega)) only [eqs,↓gvd_succ,↓gvd_zero,↓and_of,im_of,im_of trivial,vlt,hP,hst,initS,Nat.reduceBEq,Nat.reduceAdd,Nat.reduceMul,Nat.reduceSub,Nat.reduceDiv,Nat.reduceMod,Nat.reducePow,Nat.reduceLT,Nat.reduceLeDiff,Nat.reduceEqDiff,Int.reduceAdd,Int.reduceSub,Int.reduceNeg,Int.reduceMul,Int.reduceToNat,Int.reducePow,Int.reduceLE,Int.reduceLT,Int.reduceEq,Int.reduceNe,reduceIte,reduceCtorEq,ne_eq,not_true_eq_false,not_false_eq_true,imp_self,implies_true,bls,eq_self,gB,gY,h]
      refine E_call (hP ▸ s_qNorm) ⟨_, t, m, rfl, hy1.ext hSe, by omega, fun n T3 hn => ?_⟩
      rw [hW] at hn
      have hnx := hn.ex
      obtain ⟨n', rfl, hn'⟩ := hn
      have hnl := hn'.nm.leaf
      simp (disch:=first|assumption|omega|(simp only [lens];omega)) only [eqs,↓gvd_succ,↓gvd_zero,↓and_of,im_of,im_of trivial,vlt,hP,hst,initS,Nat.reduceBEq,Nat.reduceAdd,Nat.reduceMul,Nat.reduceSub,Nat.reduceDiv,Nat.reduceMod,Nat.reducePow,Nat.reduceLT,Nat.reduceLeDiff,Nat.reduceEqDiff,Int.reduceAdd,Int.reduceSub,Int.reduceNeg,Int.reduceMul,Int.reduceToNat,Int.reducePow,Int.reduceLE,Int.reduceLT,Int.reduceEq,Int.reduceNe,reduceIte,reduceCtorEq,ne_eq,not_true_eq_false,not_false_eq_true,imp_self,implies_true,bls,eq_self,hnl]
      refine C_bool (fun h2 => ?_) (fun h2 => ?_)
      · have h2 : decide (Z.tmod W < 0) ≠ decide (W < 0) := by simpa using h2
        rw [(fq_no hR h2).1, (fq_no hR h2).2] at hK
        have kA := (hSA.ext hnx).get
        have kB := (hSB.ext hnx).get
        have kY := (hSY.ext hnx).get
        refine V_draw [0, 3, 4, 1, 2, 5, 6, 7] (by kernel_rfl) (.cons rfl <| .cons rfl <| .cons rfl <| .cons rfl <| .cons rfl <| .cons rfl <| .cons rfl <| .cons rfl <| .nil) ?_
        simp (disch:=first|assumption|omega|(simp only [lens];omega)) only [eqs,↓gvd_succ,↓gvd_zero,↓and_of,im_of,im_of trivial,vlt,hP,hst,initS,Nat.reduceBEq,Nat.reduceAdd,Nat.reduceMul,Nat.reduceSub,Nat.reduceDiv,Nat.reduceMod,Nat.reducePow,Nat.reduceLT,Nat.reduceLeDiff,Nat.reduceEqDiff,Int.reduceAdd,Int.reduceSub,Int.reduceNeg,Int.reduceMul,Int.reduceToNat,Int.reducePow,Int.reduceLE,Int.reduceLT,Int.reduceEq,Int.reduceNe,reduceIte,reduceCtorEq,ne_eq,not_true_eq_false,not_false_eq_true,imp_self,implies_true,bls,eq_self,kA,kB,kY]
        refine E_call (hP ▸ s_qOf) ⟨1, rfl, by omega, by omega, fun o T4 ho => ?_⟩
        have how := ho.wh
        rw [show (1 : Int).natAbs = 1 from rfl] at how
        have l1 : (limbs 1).length ≤ 1 := limbs_len_le (by omega)
        simp (disch:=first|assumption|omega|(simp only [lens];omega)) only [eqs,↓gvd_succ,↓gvd_zero,↓and_of,im_of,im_of trivial,vlt,hP,hst,initS,Nat.reduceBEq,Nat.reduceAdd,Nat.reduceMul,Nat.reduceSub,Nat.reduceDiv,Nat.reduceMod,Nat.reducePow,Nat.reduceLT,Nat.reduceLeDiff,Nat.reduceEqDiff,Int.reduceAdd,Int.reduceSub,Int.reduceNeg,Int.reduceMul,Int.reduceToNat,Int.reducePow,Int.reduceLE,Int.reduceLT,Int.reduceEq,Int.reduceNe,reduceIte,reduceCtorEq,ne_eq,not_true_eq_false,not_false_eq_true,imp_self,implies_true,bls,eq_self]
        refine E_call (hP ▸ s_qSub) ⟨_, o, _, _, _, _, rfl, hu1.wh.ext (hTS.trans (hnx.trans ho.ex)), how, by omega, by omega, fun p T5 hp => ?_⟩
        dsimp only at hp
        rw [iv_limbs, show iv (decide ((1 : Int) < 0)) (val (limbs 1)) = 1 by rw [val_limbs]; rfl] at hp
        simp (disch:=first|assumption|omega|(simp only [lens];omega)) only [eqs,↓gvd_succ,↓gvd_zero,↓and_of,im_of,im_of trivial,vlt,hP,hst,initS,Nat.reduceBEq,Nat.reduceAdd,Nat.reduceMul,Nat.reduceSub,Nat.reduceDiv,Nat.reduceMod,Nat.reducePow,Nat.reduceLT,Nat.reduceLeDiff,Nat.reduceEqDiff,Int.reduceAdd,Int.reduceSub,Int.reduceNeg,Int.reduceMul,Int.reduceToNat,Int.reducePow,Int.reduceLE,Int.reduceLT,Int.reduceEq,Int.reduceNe,reduceIte,reduceCtorEq,ne_eq,not_true_eq_false,not_false_eq_true,imp_self,implies_true,bls,eq_self]
        refine E_call (hP ▸ s_qAdd) ⟨_, _, _, t, _, m, rfl, hw1.wh.ext (hTS.trans (hnx.trans (ho.ex.trans hp.ex))), hy1.ext (hSe.trans (hnx.trans (ho.ex.trans hp.ex))), by omega, by omega, fun r T6 hr => ?_⟩
        dsimp only at hr
        rw [iv_limbs, hW] at hr
        have hp2 : GotI S T6 p _ := GotI.pre (hnx.trans ho.ex) (hp.ext hr.ex)
        have hr2 : GotI S T6 r _ := GotI.pre (hnx.trans (ho.ex.trans hp.ex)) hr
        have hp3 := hp2
        have hr3 := hr2
        obtain ⟨p', rfl, hp'⟩ := hp2
        obtain ⟨r', rfl, hr'⟩ := hr2
        have hpl := hp'.nm.leaf
        have hrl := hr'.nm.leaf
        have mA := (hSA.ext hp'.ex).get
        have mB := (hSB.ext hp'.ex).get
        have mA2 := (hSA.ext hp'.ex).lt
        have mB2 := (hSB.ext hp'.ex).lt
        have mC := (hSC.ext hp'.ex).get
        have mD := (hSD.ext hp'.ex).get
        have mC2 := (hSC.ext hp'.ex).lt
        have mD2 := (hSD.ext hp'.ex).lt
        have hY0 : X.st1.length ≤ T.length := by rw [hst]; omega
        have hY1 : X.st1.length ≤ T.length + 1 := by omega
        have hne1 : T.length ≠ T.length + 1 := by omega
        have sA := hSA.lt
        have sB := hSB.lt
        simp (disch:=first|assumption|omega|(simp only [lens];omega)) only [eqs,↓gvd_succ,↓gvd_zero,↓and_of,im_of,im_of trivial,vlt,hP,hst,initS,Nat.reduceBEq,Nat.reduceAdd,Nat.reduceMul,Nat.reduceSub,Nat.reduceDiv,Nat.reduceMod,Nat.reducePow,Nat.reduceLT,Nat.reduceLeDiff,Nat.reduceEqDiff,Int.reduceAdd,Int.reduceSub,Int.reduceNeg,Int.reduceMul,Int.reduceToNat,Int.reducePow,Int.reduceLE,Int.reduceLT,Int.reduceEq,Int.reduceNe,reduceIte,reduceCtorEq,ne_eq,not_true_eq_false,not_false_eq_true,imp_self,implies_true,bls,eq_self,hpl,hrl,mA,mB,List.getElem?_set_ne]
        obtain ⟨S2, hS2⟩ : ∃ S2, (T6.set T.length (some [.val (.bool (decide (Z.tdiv W - 1 < 0))), p'])).set (T.length + 1) (some [.val (.bool (decide (Z.tmod W + W < 0))), r']) = S2 := ⟨_, rfl⟩
        have hS2l : S2.length = T6.length := hS2 ▸ by simp
        have nA : S2[T.length]? = some (some [.val (.bool (decide (Z.tdiv W - 1 < 0))), p']) := hS2 ▸ get_set2 mA2 hne1
        have nB : S2[T.length + 1]? = some (some [.val (.bool (decide (Z.tmod W + W < 0))), r']) := hS2 ▸ get_set3 mB2
        have nC : S2[st.length + 2]? = some (some [.val (.bool false), .val (.slice none 0 0)]) := hS2 ▸ by rw [List.getElem?_set_ne (by omega), List.getElem?_set_ne (by omega)]; exact mC
        have nD : S2[st.length + 3]? = some (some [.val (.bool false), .val (.slice none 0 0)]) := hS2 ▸ by rw [List.getElem?_set_ne (by omega), List.getElem?_set_ne (by omega)]; exact mD
        have e2 : Ext st ((S.set T.length (some [.val (.bool (decide (Z.tdiv W - 1 < 0))), p'])).set (T.length + 1) (some [.val (.bool (decide (Z.tmod W + W < 0))), r'])) := (hSe.set (by omega) _).set (by omega) _
        have hp5 := (hp3.put sA (some [.val (.bool (decide (Z.tdiv W - 1 < 0))), p'])).put (r := T.length + 1) (by simpa using sB) (some [.val (.bool (decide (Z.tmod W + W < 0))), r'])
        have hr5 := (hr3.put sA (some [.val (.bool (decide (Z.tdiv W - 1 < 0))), p'])).put (r := T.length + 1) (by simpa using sB) (some [.val (.bool (decide (Z.tmod W + W < 0))), r'])
        rw [hS2] at hp5 hr5 ⊢
        clear hS2
        have nC2 : st.length + 2 < S2.length := by omega
        have nD2 : st.length + 3 < S2.length := by omega
        have nE : st.length + 2 ≠ T.length + 1 := by omega
        have w1 := fun (x : Option (List AV)) => List.getElem?_set_ne (l := S2) (a := x) nE
        have w2 := fun (x : Option (List AV)) => List.getElem?_set_ne (l := S2) (a := x) hne2
        have w3 := fun (b c : Option (List AV)) => get_set2 (b := b) (c := c) nC2 hne2
        refine V_tree (.take 0 (.take 2 (.two 1 (.take 3 (.take 4 (.take 5 .fin))) 3 (.take 1 (.take 4 (.take 5 .fin)))))) (by kernel_rfl) ?_
        simp (disch:=first|assumption|omega|(simp only [lens];omega)) only [eqs,↓gvd_succ,↓gvd_zero,↓and_of,im_of,im_of trivial,vlt,hP,hst,initS,Nat.reduceBEq,Nat.reduceAdd,Nat.reduceMul,Nat.reduceSub,Nat.reduceDiv,Nat.reduceMod,Nat.reducePow,Nat.reduceLT,Nat.reduceLeDiff,Nat.reduceEqDiff,Int.reduceAdd,Int.reduceSub,Int.reduceNeg,Int.reduceMul,Int.reduceToNat,Int.reducePow,Int.reduceLE,Int.reduceLT,Int.reduceEq,Int.reduceNe,reduceIte,reduceCtorEq,ne_eq,not_true_eq_false,not_false_eq_true,imp_self,implies_true,bls,eq_self,hpl,hrl,nA,nB,nC,nD,w1,w2,w3,runT_take,runT_two,runT_fin]
        exact hK _ _ _ (hp5.end2 e2 (by omega) (by simpa using gC2) (by omega) (by simpa using gD2)) (hr5.end2 e2 (by omega) (by simpa using gC2) (by omega) (by simpa using gD2))
      · have h3 : decide (Z.tmod W < 0) = decide (W < 0) := by simpa using h2
        have kA := (hSA.ext hnx).get
        have kB := (hSB.ext hnx).get
        have kC := (hSC.ext hnx).get
        have kD := (hSD.ext hnx).get
        have kC2 := (hSC.ext hnx).lt
        have kD2 := (hSD.ext hnx).lt
        have nE : st.length + 2 ≠ T.length + 1 := by omega
        have w1 := fun (x : Option (List AV)) => List.getElem?_set_ne (l := T3) (a := x) nE
        have w2 := fun (x : Option (List AV)) => List.getElem?_set_ne (l := T3) (a := x) hne2
        have w3 := fun (b c : Option (List AV)) => get_set2 (b := b) (c := c) kC2 hne2
        simp (disch:=first|assumption|omega|(simp only [lens];omega)) only [eqs,↓gvd_succ,↓gvd_zero,↓and_of,im_of,im_of trivial,vlt,hP,hst,initS,Nat.reduceBEq,Nat.reduceAdd,Nat.reduceMul,Nat.reduceSub,Nat.reduceDiv,Nat.reduceMod,Nat.reducePow,Nat.reduceLT,Nat.reduceLeDiff,Nat.reduceEqDiff,Int.reduceAdd,Int.reduceSub,Int.reduceNeg,Int.reduceMul,Int.reduceToNat,Int.reducePow,Int.reduceLE,Int.reduceLT,Int.reduceEq,Int.reduceNe,reduceIte,reduceCtorEq,ne_eq,not_true_eq_false,not_false_eq_true,imp_self,implies_true,bls,eq_self]
        refine V_tree (.take 0 (.take 2 (.two 1 (.take 3 (.take 4 (.take 5 .fin))) 3 (.take 1 (.take 4 (.take 5 .fin)))))) (by kernel_rfl) ?_
        simp (disch:=first|assumption|omega|(simp only [lens];omega)) only [eqs,↓gvd_succ,↓gvd_zero,↓and_of,im_of,im_of trivial,vlt,hP,hst,initS,Nat.reduceBEq,Nat.reduceAdd,Nat.reduceMul,Nat.reduceSub,Nat.reduceDiv,Nat.reduceMod,Nat.reducePow,Nat.reduceLT,Nat.reduceLeDiff,Nat.reduceEqDiff,Int.reduceAdd,Int.reduceSub,Int.reduceNeg,Int.reduceMul,Int.reduceToNat,Int.reducePow,Int.reduceLE,Int.reduceLT,Int.reduceEq,Int.reduceNe,reduceIte,reduceCtorEq,ne_eq,not_true_eq_false,not_false_eq_true,imp_self,implies_true,bls,eq_self,hul,hwl,kA,kB,kC,kD,w1,w2,w3,runT_take,runT_two,runT_fin]
        exact yes (.inr h3) _ hnx
    · have hR : Z.tmod W = 0 := by
        have h4 : ¬0 < (Z.tmod W).natAbs := fun h5 => h (by have := limbs_pos_len.2 h5; omega)
        omega
      have nE : st.length + 2 ≠ T.length + 1 := by omega
      have w1 := fun (x : Option (List AV)) => List.getElem?_set_ne (l := S) (a := x) nE
      have w2 := fun (x : Option (List AV)) => List.getElem?_set_ne (l := S) (a := x) hne2
      have w3 := fun (b c : Option (List AV)) => get_set2 (b := b) (c := c) gC2 hne2
      simp (disch:=first|assumption|omega|(simp only [lens];omega)) only [eqs,↓gvd_succ,↓gvd_zero,↓and_of,im_of,im_of trivial,vlt,hP,hst,initS,Nat.reduceBEq,Nat.reduceAdd,Nat.reduceMul,Nat.reduceSub,Nat.reduceDiv,Nat.reduceMod,Nat.reducePow,Nat.reduceLT,Nat.reduceLeDiff,Nat.reduceEqDiff,Int.reduceAdd,Int.reduceSub,Int.reduceNeg,Int.reduceMul,Int.reduceToNat,Int.reducePow,Int.reduceLE,Int.reduceLT,Int.reduceEq,Int.reduceNe,reduceIte,reduceCtorEq,ne_eq,not_true_eq_false,not_false_eq_true,imp_self,implies_true,bls,eq_self,h]
      refine V_tree (.take 0 (.take 2 (.two 1 (.take 3 (.take 4 (.take 5 .fin))) 3 (.take 1 (.take 4 (.take 5 .fin)))))) (by kernel_rfl) ?_
      simp (disch:=first|assumption|omega|(simp only [lens];omega)) only [eqs,↓gvd_succ,↓gvd_zero,↓and_of,im_of,im_of trivial,vlt,hP,hst,initS,Nat.reduceBEq,Nat.reduceAdd,Nat.reduceMul,Nat.reduceSub,Nat.reduceDiv,Nat.reduceMod,Nat.reducePow,Nat.reduceLT,Nat.reduceLeDiff,Nat.reduceEqDiff,Int.reduceAdd,Int.reduceSub,Int.reduceNeg,Int.reduceMul,Int.reduceToNat,Int.reducePow,Int.reduceLE,Int.reduceLT,Int.reduceEq,Int.reduceNe,reduceIte,reduceCtorEq,ne_eq,not_true_eq_false,not_false_eq_true,imp_self,implies_true,bls,eq_self,hul,hwl,gA,gB,gC,gD,w1,w2,w3,runT_take,runT_two,runT_fin]
      exact yes (.inl hR) _ .refl
  · have e0 : Ext st T := (Ext.add _).trans hT
    have hlen := e0.len
    have hlen2 := hT.len
    simp only [List.length_append, List.length_cons, List.length_nil] at hlen2
    have hC : At T (st.length + 2) [.val (.bool false), .val (.slice none 0 0)] := At.ext ⟨by rw [get_app]; rfl⟩ hT
    have hD : At T (st.length + 3) [.val (.bool false), .val (.slice none 0 0)] := At.ext ⟨by rw [get_app]; rfl⟩ hT
    have hX0 : st.length ≤ T.length + 1 := by omega
    unfold zeroI
    simp (disch:=first|assumption|omega|(simp only [lens];omega)) only [eqs,↓gvd_succ,↓gvd_zero,↓and_of,im_of,im_of trivial,vlt,hP,hst,initS,Nat.reduceBEq,Nat.reduceAdd,Nat.reduceMul,Nat.reduceSub,Nat.reduceDiv,Nat.reduceMod,Nat.reducePow,Nat.reduceLT,Nat.reduceLeDiff,Nat.reduceEqDiff,Int.reduceAdd,Int.reduceSub,Int.reduceNeg,Int.reduceMul,Int.reduceToNat,Int.reducePow,Int.reduceLE,Int.reduceLT,Int.reduceEq,Int.reduceNe,reduceIte,reduceCtorEq,ne_eq,not_true_eq_false,not_false_eq_true,imp_self,implies_true,bls,eq_self,hlen,hX0]
    obtain ⟨S, hS⟩ : ∃ S, T ++ [some [.val (.bool false), .val (.slice none 0 0)], some [.val (.bool false), .val (.slice none 0 0)]] = S := ⟨_, rfl⟩
    have hTS : Ext T S := ⟨_, hS.symm⟩
    have gA : S[T.length]? = some (some [.val (.bool false), .val (.slice none 0 0)]) := hS ▸ by rw [get_app0]; rfl
    have gB : S[T.length + 1]? = some (some [.val (.bool false), .val (.slice none 0 0)]) := hS ▸ by rw [get_app]; rfl
    have gC := (hC.ext hTS).get
    have gD := (hD.ext hTS).get
    have gC2 := (hC.ext hTS).lt
    have gD2 := (hD.ext hTS).lt
    rw [hS]
    clear hS
    have nE : st.length + 2 ≠ T.length + 1 := by omega
    have w1 := fun (x : Option (List AV)) => List.getElem?_set_ne (l := S) (a := x) nE
    have w2 := fun (x : Option (List AV)) => List.getElem?_set_ne (l := S) (a := x) hne2
    have w3 := fun (b c : Option (List AV)) => get_set2 (b := b) (c := c) gC2 hne2

    refine V_draw [0, 1, 2, 3, 4, 5, 6, 7, 8, 9, 10, 11, 12, 13, 14, 15] (by kernel_rfl) (.cons rfl <| .cons rfl <| .cons rfl <| .cons rfl <| .cons rfl <| .cons rfl <| .cons rfl <| .cons rfl <| .cons rfl <| .cons rfl <| .cons rfl <| .cons rfl <| .cons rfl <| .cons rfl <| .cons rfl <| .cons rfl <| .nil) ?_
    simp (disch:=first|assumption|omega|(simp only [lens];omega)) only [eqs,↓gvd_succ,↓gvd_zero,↓and_of,im_of,im_of trivial,vlt,hP,hst,initS,Nat.reduceBEq,Nat.reduceAdd,Nat.reduceMul,Nat.reduceSub,Nat.reduceDiv,Nat.reduceMod,Nat.reducePow,Nat.reduceLT,Nat.reduceLeDiff,Nat.reduceEqDiff,Int.reduceAdd,Int.reduceSub,Int.reduceNeg,Int.reduceMul,Int.reduceToNat,Int.reducePow,Int.reduceLE,Int.reduceLT,Int.reduceEq,Int.reduceNe,reduceIte,reduceCtorEq,ne_eq,not_true_eq_false,not_false_eq_true,imp_self,implies_true,bls,eq_self]
    refine V_tree (.take 0 (.take 2 (.two 1 (.take 3 (.take 4 (.take 5 .fin))) 3 (.take 1 (.take 4 (.take 5 .fin)))))) (by kernel_rfl) ?_
    simp (disch:=first|assumption|omega|(simp only [lens];omega)) only [eqs,↓gvd_succ,↓gvd_zero,↓and_of,im_of,im_of trivial,vlt,hP,hst,initS,Nat.reduceBEq,Nat.reduceAdd,Nat.reduceMul,Nat.reduceSub,Nat.reduceDiv,Nat.reduceMod,Nat.reducePow,Nat.reduceLT,Nat.reduceLeDiff,Nat.reduceEqDiff,Int.reduceAdd,Int.reduceSub,Int.reduceNeg,Int.reduceMul,Int.reduceToNat,Int.reducePow,Int.reduceLE,Int.reduceLT,Int.reduceEq,Int.reduceNe,reduceIte,reduceCtorEq,ne_eq,not_true_eq_false,not_false_eq_true,imp_self,implies_true,bls,eq_self,gA,gB,gC,gD,w1,w2,w3,runT_take,runT_two,runT_fin]
    refine hK0 hm0 _ ?_
    exact ((e0.trans hTS).set (by omega) _).set (by omega) _
end Go.Proofs.Pv
