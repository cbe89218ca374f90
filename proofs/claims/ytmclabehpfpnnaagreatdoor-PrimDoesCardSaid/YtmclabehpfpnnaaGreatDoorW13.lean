/- The whole functions' walks, second part: divisions. -/
import Derived.Test.YtmclabehpfpnnaaGreatDoorW11
import Derived.Test.YtmclabehpfpnnaaGreatDoorR8
set_option linter.unusedSimpArgs false
set_option linter.unusedVariables false
namespace Go.Proofs.Pv
open Go Go.RowKit Go.Proofs
set_option maxRecDepth 20000

def zeroI : AV := .agg [.val (.bool false), .val (.slice none 0 0)]
def RwQuoF (xs : List AV) (st : St) (K : AV → St → Prop) : Prop := ∃ x y S0 Z W, xs = [x, y] ∧ GotI S0 st x Z ∧ GotI S0 st y W ∧ ∀ S', GotI S0 S' x Z → GotI S0 S' y W → K (.tup [x, y]) S'
theorem s_QuoF : PSpec Tryz.prog 74 RwQuoF := by
  refine fspec_of (fn := Tryz.f74) 2 [.cell 4 27, .cell 5 27] (by kernel_rfl) rfl rfl (by kernel_rfl) mixed (by rintro _ _ _ ⟨x, y, S0, Z, W, rfl, _⟩; rfl) ?_
  rintro X _ st K hP hst ⟨x, y, S0, Z, W, rfl, hx, hy, hK⟩
  have hx0 := hx
  have hy0 := hy
  obtain ⟨a, rfl, ha⟩ := hx
  obtain ⟨b, rfl, hb⟩ := hy
  have hal := ha.nm.leaf
  have hbl := hb.nm.leaf
  refine vc_V ?_
  simp (disch:=first|assumption|omega|(simp only [lens];omega)) only [eqs,↓gvd_succ,↓gvd_zero,↓and_of,im_of,im_of trivial,vlt,hP,hst,initS,Nat.reduceBEq,Nat.reduceAdd,Nat.reduceMul,Nat.reduceSub,Nat.reduceDiv,Nat.reduceMod,Nat.reducePow,Nat.reduceLT,Nat.reduceLeDiff,Nat.reduceEqDiff,Int.reduceAdd,Int.reduceSub,Int.reduceNeg,Int.reduceMul,Int.reduceToNat,Int.reducePow,Int.reduceLE,Int.reduceLT,Int.reduceEq,Int.reduceNe,reduceIte,reduceCtorEq,ne_eq,not_true_eq_false,not_false_eq_true,imp_self,implies_true,bls,eq_self,hal,hbl]
  refine V_tree (.take 0 (.two 1 (.take 2 (.take 3 .fin)) 2 (.take 1 (.take 3 .fin)))) (by kernel_rfl) ?_
  simp (disch:=first|assumption|omega|(simp only [lens];omega)) only [eqs,↓gvd_succ,↓gvd_zero,↓and_of,im_of,im_of trivial,vlt,hP,hst,initS,Nat.reduceBEq,Nat.reduceAdd,Nat.reduceMul,Nat.reduceSub,Nat.reduceDiv,Nat.reduceMod,Nat.reducePow,Nat.reduceLT,Nat.reduceLeDiff,Nat.reduceEqDiff,Int.reduceAdd,Int.reduceSub,Int.reduceNeg,Int.reduceMul,Int.reduceToNat,Int.reducePow,Int.reduceLE,Int.reduceLT,Int.reduceEq,Int.reduceNe,reduceIte,reduceCtorEq,ne_eq,not_true_eq_false,not_false_eq_true,imp_self,implies_true,bls,eq_self,hal,hbl,runT_take,runT_two,runT_fin]
  exact hK _ (hx0.ext (.add _)) (hy0.ext (.add _))

def RwFloorF (xs : List AV) (st : St) (K : AV → St → Prop) : Prop := ∃ x y p S0 Z W t b m, xs = [x, y, .ptr p 0] ∧ GotI S0 st x Z ∧ GotI S0 st y W ∧ st[p]? = some (some [.val (.bool t), b]) ∧ Nm st b m ∧ m.length ≤ 1000 ∧ (limbs Z.natAbs).length ≤ 900 ∧ (limbs W.natAbs).length ≤ 900 ∧
  ∀ u v S', GotI S0 S' u (if W = 0 ∨ decide (W < 0) = t then Z else Z - 1) → GotI S0 S' v (if W = 0 ∨ decide (W < 0) = t then W else W + iv t (val m)) → K (.tup [u, v]) S'
theorem s_FloorF : PSpec Tryz.prog 75 RwFloorF := by
  refine fspec_of (fn := Tryz.f75) 3 [.cell 5 27, .cell 6 27] (by kernel_rfl) rfl rfl (by kernel_rfl) mixed (by rintro _ _ _ ⟨x, y, p, S0, Z, W, t, b, m, rfl, _⟩; rfl) ?_
  rintro X _ st K hP hst ⟨x, y, p, S0, Z, W, t, b, m, rfl, hx, hy, hp, hm, hml, hZ, hW, hK⟩
  have hx0 := hx
  have hy0 := hy
  have hxw := hx.wh
  have hyw := hy.wh
  have hAp : At st p [.val (.bool t), b] := ⟨hp⟩
  have hp2 := hAp.gr
  have hbl := hm.leaf
  obtain ⟨a, rfl, ha⟩ := hx
  obtain ⟨c, rfl, hc⟩ := hy
  have hal := ha.nm.leaf
  have hcl := hc.nm.leaf
  have h1 := hc.nm.grow
  have n1 := hZ
  have n2 := hW
  have hS0 : S0.length ≤ st.length := hx0.ex.len
  refine vc_V ?_
  simp (disch:=first|assumption|omega|(simp only [lens];omega)) only [eqs,↓gvd_succ,↓gvd_zero,↓and_of,im_of,im_of trivial,vlt,hP,hst,initS,Nat.reduceBEq,Nat.reduceAdd,Nat.reduceMul,Nat.reduceSub,Nat.reduceDiv,Nat.reduceMod,Nat.reducePow,Nat.reduceLT,Nat.reduceLeDiff,Nat.reduceEqDiff,Int.reduceAdd,Int.reduceSub,Int.reduceNeg,Int.reduceMul,Int.reduceToNat,Int.reducePow,Int.reduceLE,Int.reduceLT,Int.reduceEq,Int.reduceNe,reduceIte,reduceCtorEq,ne_eq,not_true_eq_false,not_false_eq_true,imp_self,implies_true,bls,eq_self,hal,hcl,h1,hp2]
  refine G_ndec (fun h => ?_) (fun h => ?_)
  · have hW0 : W ≠ 0 := by
      rintro rfl
      rw [show (0 : Int).natAbs = 0 from rfl, limbs_zero] at h
      exact h rfl
    simp (disch:=first|assumption|omega|(simp only [lens];omega)) only [eqs,↓gvd_succ,↓gvd_zero,↓and_of,im_of,im_of trivial,vlt,hP,hst,initS,Nat.reduceBEq,Nat.reduceAdd,Nat.reduceMul,Nat.reduceSub,Nat.reduceDiv,Nat.reduceMod,Nat.reducePow,Nat.reduceLT,Nat.reduceLeDiff,Nat.reduceEqDiff,Int.reduceAdd,Int.reduceSub,Int.reduceNeg,Int.reduceMul,Int.reduceToNat,Int.reducePow,Int.reduceLE,Int.reduceLT,Int.reduceEq,Int.reduceNe,reduceIte,reduceCtorEq,ne_eq,not_true_eq_false,not_false_eq_true,imp_self,implies_true,bls,eq_self,hal,hcl,h1,hp2,h]
    refine C_bool (fun h2 => ?_) (fun h2 => ?_)
    · have h3 : decide (W < 0) = t := by simpa using h2
      rw [if_pos (.inr h3), if_pos (.inr h3)] at hK
      simp (disch:=first|assumption|omega|(simp only [lens];omega)) only [eqs,↓gvd_succ,↓gvd_zero,↓and_of,im_of,im_of trivial,vlt,hP,hst,initS,Nat.reduceBEq,Nat.reduceAdd,Nat.reduceMul,Nat.reduceSub,Nat.reduceDiv,Nat.reduceMod,Nat.reducePow,Nat.reduceLT,Nat.reduceLeDiff,Nat.reduceEqDiff,Int.reduceAdd,Int.reduceSub,Int.reduceNeg,Int.reduceMul,Int.reduceToNat,Int.reducePow,Int.reduceLE,Int.reduceLT,Int.reduceEq,Int.reduceNe,reduceIte,reduceCtorEq,ne_eq,not_true_eq_false,not_false_eq_true,imp_self,implies_true,bls,eq_self]
      refine V_tree (.take 0 (.two 1 (.take 2 (.take 3 .fin)) 2 (.take 1 (.take 3 .fin)))) (by kernel_rfl) ?_
      simp (disch:=first|assumption|omega|(simp only [lens];omega)) only [eqs,↓gvd_succ,↓gvd_zero,↓and_of,im_of,im_of trivial,vlt,hP,hst,initS,Nat.reduceBEq,Nat.reduceAdd,Nat.reduceMul,Nat.reduceSub,Nat.reduceDiv,Nat.reduceMod,Nat.reducePow,Nat.reduceLT,Nat.reduceLeDiff,Nat.reduceEqDiff,Int.reduceAdd,Int.reduceSub,Int.reduceNeg,Int.reduceMul,Int.reduceToNat,Int.reducePow,Int.reduceLE,Int.reduceLT,Int.reduceEq,Int.reduceNe,reduceIte,reduceCtorEq,ne_eq,not_true_eq_false,not_false_eq_true,imp_self,implies_true,bls,eq_self,hal,hcl,runT_take,runT_two,runT_fin]
      exact hK _ _ _ (hx0.ext (.add _)) (hy0.ext (.add _))
    · have h3 : ¬(W = 0 ∨ decide (W < 0) = t) := by
        rintro (h4 | h4)
        · exact hW0 h4
        · rw [h4] at h2; simp at h2
      rw [if_neg h3, if_neg h3] at hK
      simp (disch:=first|assumption|omega|(simp only [lens];omega)) only [eqs,↓gvd_succ,↓gvd_zero,↓and_of,im_of,im_of trivial,vlt,hP,hst,initS,Nat.reduceBEq,Nat.reduceAdd,Nat.reduceMul,Nat.reduceSub,Nat.reduceDiv,Nat.reduceMod,Nat.reducePow,Nat.reduceLT,Nat.reduceLeDiff,Nat.reduceEqDiff,Int.reduceAdd,Int.reduceSub,Int.reduceNeg,Int.reduceMul,Int.reduceToNat,Int.reducePow,Int.reduceLE,Int.reduceLT,Int.reduceEq,Int.reduceNe,reduceIte,reduceCtorEq,ne_eq,not_true_eq_false,not_false_eq_true,imp_self,implies_true,bls,eq_self]
      refine V_draw [0, 3, 4, 1, 2, 5, 6, 7] (by kernel_rfl) (.cons rfl <| .cons rfl <| .cons rfl <| .cons rfl <| .cons rfl <| .cons rfl <| .cons rfl <| .cons rfl <| .nil) ?_
      simp (disch:=first|assumption|omega|(simp only [lens];omega)) only [eqs,↓gvd_succ,↓gvd_zero,↓and_of,im_of,im_of trivial,vlt,hP,hst,initS,Nat.reduceBEq,Nat.reduceAdd,Nat.reduceMul,Nat.reduceSub,Nat.reduceDiv,Nat.reduceMod,Nat.reducePow,Nat.reduceLT,Nat.reduceLeDiff,Nat.reduceEqDiff,Int.reduceAdd,Int.reduceSub,Int.reduceNeg,Int.reduceMul,Int.reduceToNat,Int.reducePow,Int.reduceLE,Int.reduceLT,Int.reduceEq,Int.reduceNe,reduceIte,reduceCtorEq,ne_eq,not_true_eq_false,not_false_eq_true,imp_self,implies_true,bls,eq_self,hal,hcl,hp2]
      refine E_call (hP ▸ s_wOf) ⟨1, rfl, by omega, by omega, fun o T1 ho => ?_⟩
      have how := ho.wh
      rw [show (1 : Int).natAbs = 1 from rfl] at how
      have l1 : (limbs 1).length ≤ 1 := limbs_len_le (by omega)
      simp (disch:=first|assumption|omega|(simp only [lens];omega)) only [eqs,↓gvd_succ,↓gvd_zero,↓and_of,im_of,im_of trivial,vlt,hP,hst,initS,Nat.reduceBEq,Nat.reduceAdd,Nat.reduceMul,Nat.reduceSub,Nat.reduceDiv,Nat.reduceMod,Nat.reducePow,Nat.reduceLT,Nat.reduceLeDiff,Nat.reduceEqDiff,Int.reduceAdd,Int.reduceSub,Int.reduceNeg,Int.reduceMul,Int.reduceToNat,Int.reducePow,Int.reduceLE,Int.reduceLT,Int.reduceEq,Int.reduceNe,reduceIte,reduceCtorEq,ne_eq,not_true_eq_false,not_false_eq_true,imp_self,implies_true,bls,eq_self]
      refine E_call (hP ▸ s_wSub) ⟨_, o, _, _, _, _, rfl, hxw.ext ((Ext.add _).trans ho.ex), how, by omega, by omega, fun u T2 hu => ?_⟩
      dsimp only at hu
      rw [iv_limbs, show iv (decide ((1 : Int) < 0)) (val (limbs 1)) = 1 by rw [val_limbs]; rfl] at hu
      simp (disch:=first|assumption|omega|(simp only [lens];omega)) only [eqs,↓gvd_succ,↓gvd_zero,↓and_of,im_of,im_of trivial,vlt,hP,hst,initS,Nat.reduceBEq,Nat.reduceAdd,Nat.reduceMul,Nat.reduceSub,Nat.reduceDiv,Nat.reduceMod,Nat.reducePow,Nat.reduceLT,Nat.reduceLeDiff,Nat.reduceEqDiff,Int.reduceAdd,Int.reduceSub,Int.reduceNeg,Int.reduceMul,Int.reduceToNat,Int.reducePow,Int.reduceLE,Int.reduceLT,Int.reduceEq,Int.reduceNe,reduceIte,reduceCtorEq,ne_eq,not_true_eq_false,not_false_eq_true,imp_self,implies_true,bls,eq_self]
      refine E_call (hP ▸ s_wAdd) ⟨_, _, _, t, _, m, rfl, hyw.ext ((Ext.add _).trans (ho.ex.trans hu.ex)), ⟨b, rfl, hm.ext ((Ext.add _).trans (ho.ex.trans hu.ex))⟩, by omega, by omega, fun v T3 hv => ?_⟩
      dsimp only at hv
      rw [iv_limbs] at hv
      have e1 := ho.ex.trans (hu.ex.trans hv.ex)
      have hC : At T3 (st.length + 2) [.val (.bool false), .val (.slice none 0 0)] := At.ext ⟨by rw [get_app]; rfl⟩ e1
      have hD : At T3 (st.length + 3) [.val (.bool false), .val (.slice none 0 0)] := At.ext ⟨by rw [get_app]; rfl⟩ e1
      have hX1 : X.st1.length ≤ st.length + 2 := by rw [hst]; omega
      have hX2 : X.st1.length ≤ st.length + 3 := by rw [hst]; omega
      have hu2 := GotI.pre ho.ex (hu.ext hv.ex)
      have hv2 := GotI.pre (ho.ex.trans hu.ex) hv
      have hu3 := hu2
      have hv3 := hv2
      obtain ⟨u', rfl, hu'⟩ := hu2
      obtain ⟨v', rfl, hv'⟩ := hv2
      have hul := hu'.nm.leaf
      have hvl := hv'.nm.leaf
      have hC1 := hC.get
      have hD1 := hD.get
      have hC2 := hC.lt
      have hD2 := hD.lt
      have hne : st.length + 2 ≠ st.length + 3 := by omega
      simp (disch:=first|assumption|omega|(simp only [lens];omega)) only [eqs,↓gvd_succ,↓gvd_zero,↓and_of,im_of,im_of trivial,vlt,hP,hst,initS,Nat.reduceBEq,Nat.reduceAdd,Nat.reduceMul,Nat.reduceSub,Nat.reduceDiv,Nat.reduceMod,Nat.reducePow,Nat.reduceLT,Nat.reduceLeDiff,Nat.reduceEqDiff,Int.reduceAdd,Int.reduceSub,Int.reduceNeg,Int.reduceMul,Int.reduceToNat,Int.reducePow,Int.reduceLE,Int.reduceLT,Int.reduceEq,Int.reduceNe,reduceIte,reduceCtorEq,ne_eq,not_true_eq_false,not_false_eq_true,imp_self,implies_true,bls,eq_self,hul,hvl,hC1,hD1,List.getElem?_set_ne]
      have e0 : Ext S0 (st ++ [some [AV.val (Value.bool (decide (Z < 0))), a], some [AV.val (Value.bool (decide (W < 0))), c], some [AV.val (Value.bool false), AV.val (Value.slice none 0 0)], some [AV.val (Value.bool false), AV.val (Value.slice none 0 0)]]) := hx0.ex.trans (.add _)
      exact hK _ _ _ (hu3.end2 e0 (by omega) (by simp) (by omega) (by simp)) (hv3.end2 e0 (by omega) (by simp) (by omega) (by simp))
  · have hW0 : W = 0 := by
      have := val_limbs W.natAbs
      rw [List.eq_nil_of_length_eq_zero (show (limbs W.natAbs).length = 0 by omega)] at this
      simp [val] at this
      omega
    rw [if_pos (.inl hW0), if_pos (.inl hW0)] at hK
    simp (disch:=first|assumption|omega|(simp only [lens];omega)) only [eqs,↓gvd_succ,↓gvd_zero,↓and_of,im_of,im_of trivial,vlt,hP,hst,initS,Nat.reduceBEq,Nat.reduceAdd,Nat.reduceMul,Nat.reduceSub,Nat.reduceDiv,Nat.reduceMod,Nat.reducePow,Nat.reduceLT,Nat.reduceLeDiff,Nat.reduceEqDiff,Int.reduceAdd,Int.reduceSub,Int.reduceNeg,Int.reduceMul,Int.reduceToNat,Int.reducePow,Int.reduceLE,Int.reduceLT,Int.reduceEq,Int.reduceNe,reduceIte,reduceCtorEq,ne_eq,not_true_eq_false,not_false_eq_true,imp_self,implies_true,bls,eq_self,hal,hcl,h1,hp2,h]
    refine V_tree (.take 0 (.two 1 (.take 2 (.take 3 .fin)) 2 (.take 1 (.take 3 .fin)))) (by kernel_rfl) ?_
    simp (disch:=first|assumption|omega|(simp only [lens];omega)) only [eqs,↓gvd_succ,↓gvd_zero,↓and_of,im_of,im_of trivial,vlt,hP,hst,initS,Nat.reduceBEq,Nat.reduceAdd,Nat.reduceMul,Nat.reduceSub,Nat.reduceDiv,Nat.reduceMod,Nat.reducePow,Nat.reduceLT,Nat.reduceLeDiff,Nat.reduceEqDiff,Int.reduceAdd,Int.reduceSub,Int.reduceNeg,Int.reduceMul,Int.reduceToNat,Int.reducePow,Int.reduceLE,Int.reduceLT,Int.reduceEq,Int.reduceNe,reduceIte,reduceCtorEq,ne_eq,not_true_eq_false,not_false_eq_true,imp_self,implies_true,bls,eq_self,hal,hcl,runT_take,runT_two,runT_fin]
    exact hK _ _ _ (hx0.ext (.add _)) (hy0.ext (.add _))

/-- What is done with a quotient and what is left: R; what comes: ZQ, ZR. -/
def RwDivided (P : Program) (xs : List AV) (st : St) (K : AV → St → Prop) : Prop := ∃ x y s t l m f cs R ZQ ZR, xs = [x, y, .fn (.func f) [] cs] ∧ Wh st x s l ∧ Wh st y t m ∧ l.length ≤ 800 ∧ m.length ≤ 800 ∧ PSpec P f R ∧
  (val m ≠ 0 → ∀ S0 S q r, Ext st S0 → GotI S0 S q ((iv s (val l)).tdiv (iv t (val m))) → GotI S0 S r ((iv s (val l)).tmod (iv t (val m))) → ∀ K' : AV → St → Prop, (∀ u w S', GotI S0 S' u ZQ → GotI S0 S' w ZR → K' (.tup [u, w]) S') → R ([q, r] ++ cs) S K') ∧
  (val m ≠ 0 → ∀ u w S', GotI st S' u ZQ → GotI st S' w ZR → K (.tup [u, w, .val (.int .i64 0)]) S') ∧
  (val m = 0 → ∀ S', Ext st S' → K (.tup [zeroI, zeroI, .val (.int .i64 3)]) S')
theorem s_divided : PSpec Tryz.prog 73 (RwDivided Tryz.prog) := by
  refine fspec_of (fn := Tryz.f73) 3 [.cell 6 27, .cell 7 27, .tmp 8] (by kernel_rfl) rfl rfl (by kernel_rfl) mixed (by rintro _ _ _ ⟨x, y, s, t, l, m, f, cs, R, ZQ, ZR, rfl, _⟩; rfl) ?_
  rintro X _ st K hP hst ⟨x, y, s, t, l, m, f, cs, R, ZQ, ZR, rfl, hx, hy, hl, hm, hR, hdo, hK, hK0⟩
  have hx1 := hx
  have hy1 := hy
  obtain ⟨a, rfl, ha, hal⟩ := hx.iv
  obtain ⟨b, rfl, hb, hbl⟩ := hy.iv
  refine vc_V ?_
  have b1 := limbs_len ha.lt
  have b2 := limbs_len hb.lt
  simp (disch:=first|assumption|omega|(simp only [lens];omega)) only [eqs,↓gvd_succ,↓gvd_zero,↓and_of,im_of,im_of trivial,vlt,hP,hst,initS,Nat.reduceBEq,Nat.reduceAdd,Nat.reduceMul,Nat.reduceSub,Nat.reduceDiv,Nat.reduceMod,Nat.reducePow,Nat.reduceLT,Nat.reduceLeDiff,Nat.reduceEqDiff,Int.reduceAdd,Int.reduceSub,Int.reduceNeg,Int.reduceMul,Int.reduceToNat,Int.reducePow,Int.reduceLE,Int.reduceLT,Int.reduceEq,Int.reduceNe,reduceIte,reduceCtorEq,ne_eq,not_true_eq_false,not_false_eq_true,imp_self,implies_true,bls,eq_self,hal,hbl]
  refine V_draw [0, 2, 1, 3, 4, 5] (by kernel_rfl) (.cons rfl <| .cons rfl <| .cons rfl <| .cons rfl <| .cons rfl <| .cons rfl <| .nil) ?_
  simp (disch:=first|assumption|omega|(simp only [lens];omega)) only [eqs,↓gvd_succ,↓gvd_zero,↓and_of,im_of,im_of trivial,vlt,hP,hst,initS,Nat.reduceBEq,Nat.reduceAdd,Nat.reduceMul,Nat.reduceSub,Nat.reduceDiv,Nat.reduceMod,Nat.reducePow,Nat.reduceLT,Nat.reduceLeDiff,Nat.reduceEqDiff,Int.reduceAdd,Int.reduceSub,Int.reduceNeg,Int.reduceMul,Int.reduceToNat,Int.reducePow,Int.reduceLE,Int.reduceLT,Int.reduceEq,Int.reduceNe,reduceIte,reduceCtorEq,ne_eq,not_true_eq_false,not_false_eq_true,imp_self,implies_true,bls,eq_self]
  refine E_call (hP ▸ s_wNorm) ⟨_, s, l, rfl, hx1.ext (.add _), by omega, fun z T hz => ?_⟩
  simp (disch:=first|assumption|omega|(simp only [lens];omega)) only [eqs,↓gvd_succ,↓gvd_zero,↓and_of,im_of,im_of trivial,vlt,hP,hst,initS,Nat.reduceBEq,Nat.reduceAdd,Nat.reduceMul,Nat.reduceSub,Nat.reduceDiv,Nat.reduceMod,Nat.reducePow,Nat.reduceLT,Nat.reduceLeDiff,Nat.reduceEqDiff,Int.reduceAdd,Int.reduceSub,Int.reduceNeg,Int.reduceMul,Int.reduceToNat,Int.reducePow,Int.reduceLE,Int.reduceLT,Int.reduceEq,Int.reduceNe,reduceIte,reduceCtorEq,ne_eq,not_true_eq_false,not_false_eq_true,imp_self,implies_true,bls,eq_self]
  refine E_call (hP ▸ s_wNorm) ⟨_, t, m, rfl, hy1.ext ((Ext.add _).trans hz.ex), by omega, fun w T2 hw => ?_⟩
  have hz2 := hz.ext hw.ex
  have e0 : Ext st T2 := (Ext.add _).trans hz2.ex
  have hC : At T2 (st.length + 2) [.val (.bool false), .val (.slice none 0 0)] := At.ext ⟨by rw [get_app]; rfl⟩ hz2.ex
  have hD : At T2 (st.length + 3) [.val (.bool false), .val (.slice none 0 0)] := At.ext ⟨by rw [get_app]; rfl⟩ hz2.ex
  have hA : At T2 st.length [.val (.bool s), a] := At.ext ⟨by rw [get_app0]; rfl⟩ hz2.ex
  have hB : At T2 (st.length + 1) [.val (.bool t), b] := At.ext ⟨by rw [get_app]; rfl⟩ hz2.ex
  have hW0 : val m = 0 ↔ iv t (val m) = 0 := iv_eq_zero.symm
  have c1 : (limbs (iv s (val l)).natAbs).length ≤ 800 := by rw [iv_natAbs]; omega
  have c2 : (limbs (iv t (val m)).natAbs).length ≤ 800 := by rw [iv_natAbs]; omega
  generalize iv s (val l) = Z at *
  generalize iv t (val m) = W at *
  obtain ⟨a', rfl, ha'⟩ := hz2
  obtain ⟨b', rfl, hb'⟩ := hw
  have hal' := ha'.nm.leaf
  have hbl' := hb'.nm.leaf
  have hA1 := hA.get
  have hB1 := hB.get
  have hlt1 := hA.lt
  have hlt2 := hB.lt
  have hX0 : X.st1.length ≤ st.length := by rw [hst]; omega
  have hX1 : X.st1.length ≤ st.length + 1 := by omega
  have hne : st.length ≠ st.length + 1 := by omega
  obtain ⟨s', hs'⟩ : ∃ s', decide (Z < 0) = s' := ⟨_, rfl⟩
  obtain ⟨t', ht'⟩ : ∃ t', decide (W < 0) = t' := ⟨_, rfl⟩
  rw [hs', ht']
  simp (disch:=first|assumption|omega|(simp only [lens];omega)) only [eqs,↓gvd_succ,↓gvd_zero,↓and_of,im_of,im_of trivial,vlt,hP,hst,initS,Nat.reduceBEq,Nat.reduceAdd,Nat.reduceMul,Nat.reduceSub,Nat.reduceDiv,Nat.reduceMod,Nat.reducePow,Nat.reduceLT,Nat.reduceLeDiff,Nat.reduceEqDiff,Int.reduceAdd,Int.reduceSub,Int.reduceNeg,Int.reduceMul,Int.reduceToNat,Int.reducePow,Int.reduceLE,Int.reduceLT,Int.reduceEq,Int.reduceNe,reduceIte,reduceCtorEq,ne_eq,not_true_eq_false,not_false_eq_true,imp_self,implies_true,bls,eq_self,hal',hbl',hA1,hB1,List.getElem?_set_ne]
  obtain ⟨S, hS⟩ : ∃ S, (T2.set st.length (some [.val (.bool s'), a'])).set (st.length + 1) (some [.val (.bool t'), b']) = S := ⟨_, rfl⟩
  have hTl : st.length + 3 < T.length := by
    have := hz.ex.len
    simp at this
    omega
  have hNa : Nm S a' (limbs Z.natAbs) := hS ▸ ((ha'.put (by simp) _).put (by simp) _).nm
  have hNb : Nm S b' (limbs W.natAbs) := hS ▸ ((hb'.put (by omega) _).put (by simp; omega) _).nm
  have hSe : Ext st S := hS ▸ ((e0.set (Nat.le_refl _) _).set (by omega) _)
  have hSA : At S st.length [.val (.bool s'), a'] := ⟨hS ▸ get_set2 hlt1 hne⟩
  have hSB : At S (st.length + 1) [.val (.bool t'), b'] := ⟨hS ▸ get_set3 hlt2⟩
  have hSC : At S (st.length + 2) [.val (.bool false), .val (.slice none 0 0)] := ⟨hS ▸ by rw [List.getElem?_set_ne (by omega), List.getElem?_set_ne (by omega)]; exact hC.get⟩
  have hSD : At S (st.length + 3) [.val (.bool false), .val (.slice none 0 0)] := ⟨hS ▸ by rw [List.getElem?_set_ne (by omega), List.getElem?_set_ne (by omega)]; exact hD.get⟩
  rw [hS]
  clear hS
  have hSA1 := hSA.get
  have hSB1 := hSB.get
  have hSC1 := hSC.get
  have hSD1 := hSD.get
  have hSC2 := hSC.lt
  have hSD2 := hSD.lt
  have h1 := hNa.sl
  have h2 := hNb.sl
  have hX2 : X.st1.length ≤ st.length + 2 := by omega
  have hX3 : X.st1.length ≤ st.length + 3 := by omega
  have hne2 : st.length + 2 ≠ st.length + 3 := by omega
  simp (disch:=first|assumption|omega|(simp only [lens];omega)) only [eqs,↓gvd_succ,↓gvd_zero,↓and_of,im_of,im_of trivial,vlt,hP,hst,initS,Nat.reduceBEq,Nat.reduceAdd,Nat.reduceMul,Nat.reduceSub,Nat.reduceDiv,Nat.reduceMod,Nat.reducePow,Nat.reduceLT,Nat.reduceLeDiff,Nat.reduceEqDiff,Int.reduceAdd,Int.reduceSub,Int.reduceNeg,Int.reduceMul,Int.reduceToNat,Int.reducePow,Int.reduceLE,Int.reduceLT,Int.reduceEq,Int.reduceNe,reduceIte,reduceCtorEq,ne_eq,not_true_eq_false,not_false_eq_true,imp_self,implies_true,bls,eq_self,hSA1,hSB1,h2]
  refine C_dec (fun h => ?_) (fun h => ?_)
  · have hWz : W = 0 := by
      have := val_limbs W.natAbs
      rw [List.eq_nil_of_length_eq_zero (show (limbs W.natAbs).length = 0 by omega)] at this
      simp [val] at this
      omega
    simp (disch:=first|assumption|omega|(simp only [lens];omega)) only [eqs,↓gvd_succ,↓gvd_zero,↓and_of,im_of,im_of trivial,vlt,hP,hst,initS,Nat.reduceBEq,Nat.reduceAdd,Nat.reduceMul,Nat.reduceSub,Nat.reduceDiv,Nat.reduceMod,Nat.reducePow,Nat.reduceLT,Nat.reduceLeDiff,Nat.reduceEqDiff,Int.reduceAdd,Int.reduceSub,Int.reduceNeg,Int.reduceMul,Int.reduceToNat,Int.reducePow,Int.reduceLE,Int.reduceLT,Int.reduceEq,Int.reduceNe,reduceIte,reduceCtorEq,ne_eq,not_true_eq_false,not_false_eq_true,imp_self,implies_true,bls,eq_self,hSC1,hSD1,List.getElem?_set_ne]
    exact hK0 (hW0.2 hWz) _ ((hSe.set (by omega) _).set (by omega) _)
  · have hWn : W ≠ 0 := by
      rintro rfl
      rw [show (0 : Int).natAbs = 0 from rfl, limbs_zero] at h
      exact h rfl
    have hmn : val m ≠ 0 := fun h => hWn (hW0.1 h)
    have hWa : W.natAbs ≠ 0 := by omega
    have d1 := len_div Z.natAbs W.natAbs
    have d2 := len_rem Z.natAbs W.natAbs
    rw [if_neg hWa] at d2
    simp (disch:=first|assumption|omega|(simp only [lens];omega)) only [eqs,↓gvd_succ,↓gvd_zero,↓and_of,im_of,im_of trivial,vlt,hP,hst,initS,Nat.reduceBEq,Nat.reduceAdd,Nat.reduceMul,Nat.reduceSub,Nat.reduceDiv,Nat.reduceMod,Nat.reducePow,Nat.reduceLT,Nat.reduceLeDiff,Nat.reduceEqDiff,Int.reduceAdd,Int.reduceSub,Int.reduceNeg,Int.reduceMul,Int.reduceToNat,Int.reducePow,Int.reduceLE,Int.reduceLT,Int.reduceEq,Int.reduceNe,reduceIte,reduceCtorEq,ne_eq,not_true_eq_false,not_false_eq_true,imp_self,implies_true,bls,eq_self,hSA1,hSB1]
    refine E_call (hP ▸ s_Div) ⟨a', b', _, _, rfl, hNa, hNb, by omega, by omega, fresh2_got fun q r T3 hq hr => ?_⟩
    rw [val_limbs, val_limbs] at hq hr
    rw [if_neg hWa] at hr
    have gA := (hSA.ext hq.ex).get
    have gB := (hSB.ext hq.ex).get
    simp (disch:=first|assumption|omega|(simp only [lens];omega)) only [eqs,↓gvd_succ,↓gvd_zero,↓and_of,im_of,im_of trivial,vlt,hP,hst,initS,Nat.reduceBEq,Nat.reduceAdd,Nat.reduceMul,Nat.reduceSub,Nat.reduceDiv,Nat.reduceMod,Nat.reducePow,Nat.reduceLT,Nat.reduceLeDiff,Nat.reduceEqDiff,Int.reduceAdd,Int.reduceSub,Int.reduceNeg,Int.reduceMul,Int.reduceToNat,Int.reducePow,Int.reduceLE,Int.reduceLT,Int.reduceEq,Int.reduceNe,reduceIte,reduceCtorEq,ne_eq,not_true_eq_false,not_false_eq_true,imp_self,implies_true,bls,eq_self]
    refine V_late (s' := (11, AV.junk) :: (12, AV.junk) :: _) [16, 17] [0, 1, 2, 3, 4, 5, 6, 8, 9, 10, 7, 11, 12, 13, 14, 15] [18, 19] hP (by kernel_rfl) (by kernel_rfl) (.cons rfl <| .cons rfl <| .cons rfl <| .cons rfl <| .cons rfl <| .cons rfl <| .cons rfl <| .cons rfl <| .cons rfl <| .cons rfl <| .cons rfl <| .cons rfl <| .cons rfl <| .cons rfl <| .cons rfl <| .cons rfl <| .cons rfl <| .cons rfl <| .cons rfl <| .cons rfl <| .nil) rfl ?_; rw [mask_nil]
    simp (disch:=first|assumption|omega|(simp only [lens];omega)) only [eqs,↓gvd_succ,↓gvd_zero,↓and_of,im_of,im_of trivial,vlt,hP,hst,initS,Nat.reduceBEq,Nat.reduceAdd,Nat.reduceMul,Nat.reduceSub,Nat.reduceDiv,Nat.reduceMod,Nat.reducePow,Nat.reduceLT,Nat.reduceLeDiff,Nat.reduceEqDiff,Int.reduceAdd,Int.reduceSub,Int.reduceNeg,Int.reduceMul,Int.reduceToNat,Int.reducePow,Int.reduceLE,Int.reduceLT,Int.reduceEq,Int.reduceNe,reduceIte,reduceCtorEq,ne_eq,not_true_eq_false,not_false_eq_true,imp_self,implies_true,bls,eq_self,gA,gB]
    refine E_call (hP ▸ s_of) ⟨_, q, _, rfl, hq.nm, by omega, fun Q T4 hQ => ?_⟩
    simp (disch:=first|assumption|omega|(simp only [lens];omega)) only [eqs,↓gvd_succ,↓gvd_zero,↓and_of,im_of,im_of trivial,vlt,hP,hst,initS,Nat.reduceBEq,Nat.reduceAdd,Nat.reduceMul,Nat.reduceSub,Nat.reduceDiv,Nat.reduceMod,Nat.reducePow,Nat.reduceLT,Nat.reduceLeDiff,Nat.reduceEqDiff,Int.reduceAdd,Int.reduceSub,Int.reduceNeg,Int.reduceMul,Int.reduceToNat,Int.reducePow,Int.reduceLE,Int.reduceLT,Int.reduceEq,Int.reduceNe,reduceIte,reduceCtorEq,ne_eq,not_true_eq_false,not_false_eq_true,imp_self,implies_true,bls,eq_self]
    refine E_call (hP ▸ s_of) ⟨_, r, _, rfl, hr.nm.ext hQ.ex, by omega, fun R' T5 hR' => ?_⟩
    have k1 := iv_bool hs'
    have k2 := iv_bool ht'
    have eQ : iv (s' != t') (val (limbs (Z.natAbs / W.natAbs))) = Z.tdiv W := by rw [val_limbs, ← iv_tdiv, ← k1, ← k2]
    have eR : iv s' (val (limbs (Z.natAbs % W.natAbs))) = Z.tmod W := by rw [val_limbs, ← iv_tmod (t := t'), ← k1, ← k2]
    rw [eQ] at hQ
    rw [eR] at hR'
    simp (disch:=first|assumption|omega|(simp only [lens];omega)) only [eqs,↓gvd_succ,↓gvd_zero,↓and_of,im_of,im_of trivial,vlt,hP,hst,initS,Nat.reduceBEq,Nat.reduceAdd,Nat.reduceMul,Nat.reduceSub,Nat.reduceDiv,Nat.reduceMod,Nat.reducePow,Nat.reduceLT,Nat.reduceLeDiff,Nat.reduceEqDiff,Int.reduceAdd,Int.reduceSub,Int.reduceNeg,Int.reduceMul,Int.reduceToNat,Int.reducePow,Int.reduceLE,Int.reduceLT,Int.reduceEq,Int.reduceNe,reduceIte,reduceCtorEq,ne_eq,not_true_eq_false,not_false_eq_true,imp_self,implies_true,bls,eq_self]
    refine E_call (hP ▸ hR) (hdo hmn S T5 Q R' hSe (GotI.pre hq.ex (hQ.ext hR'.ex)) (GotI.pre (hq.ex.trans hQ.ex) hR') _ fun u v T6 hu hv => ?_)
    have hu3 := hu
    have hv3 := hv
    obtain ⟨u', rfl, hu'⟩ := hu
    obtain ⟨v', rfl, hv'⟩ := hv
    have hul := hu'.nm.leaf
    have hvl := hv'.nm.leaf
    have fC := (hSC.ext hu'.ex).gr
    have fD := (hSD.ext hu'.ex).gr
    have fC2 := (hSC.ext hu'.ex).lt
    have fD2 := (hSD.ext hu'.ex).lt
    simp (disch:=first|assumption|omega|(simp only [lens];omega)) only [eqs,↓gvd_succ,↓gvd_zero,↓and_of,im_of,im_of trivial,vlt,hP,hst,initS,Nat.reduceBEq,Nat.reduceAdd,Nat.reduceMul,Nat.reduceSub,Nat.reduceDiv,Nat.reduceMod,Nat.reducePow,Nat.reduceLT,Nat.reduceLeDiff,Nat.reduceEqDiff,Int.reduceAdd,Int.reduceSub,Int.reduceNeg,Int.reduceMul,Int.reduceToNat,Int.reducePow,Int.reduceLE,Int.reduceLT,Int.reduceEq,Int.reduceNe,reduceIte,reduceCtorEq,ne_eq,not_true_eq_false,not_false_eq_true,imp_self,implies_true,bls,eq_self,hul,hvl]
    obtain ⟨S7, hS7⟩ : ∃ S7, T6 ++ [some [AV.val (Value.bool (decide (ZQ < 0))), u'], some [AV.val (Value.bool (decide (ZR < 0))), v']] = S7 := ⟨_, rfl⟩
    have i1 : S7[T6.length]? = some (some [AV.val (Value.bool (decide (ZQ < 0))), u']) := hS7 ▸ by rw [get_app0]; rfl
    have i2 : S7[T6.length + 1]? = some (some [AV.val (Value.bool (decide (ZR < 0))), v']) := hS7 ▸ by rw [get_app]; rfl
    have i3 : S7[st.length + 2]? = some (some [.val (.bool false), .val (.slice none 0 0)]) := hS7 ▸ fC _
    have i4 : S7[st.length + 3]? = some (some [.val (.bool false), .val (.slice none 0 0)]) := hS7 ▸ fD _
    have i5 : st.length + 2 < S7.length := hS7 ▸ by simp; omega
    have i6 : st.length + 3 < S7.length := hS7 ▸ by simp; omega
    have hu4 : GotI S S7 _ ZQ := hS7 ▸ hu3.ext (.add _)
    have hv4 : GotI S S7 _ ZR := hS7 ▸ hv3.ext (.add _)
    have n1 : st.length + 2 ≠ T6.length + 1 := by omega
    rw [hS7]
    clear hS7
    have r1 := fun (x : Option (List AV)) => List.getElem?_set_ne (l := S7) (a := x) n1
    have r2 := fun (x : Option (List AV)) => List.getElem?_set_ne (l := S7) (a := x) hne2
    have r3 := fun (b c : Option (List AV)) => get_set2 (b := b) (c := c) i5 hne2
    refine V_tree (.take 0 (.two 1 (.take 2 (.take 3 (.take 4 .fin))) 2 (.take 1 (.take 3 (.take 4 .fin))))) (by kernel_rfl) ?_
    simp (disch:=first|assumption|omega|(simp only [lens];omega)) only [eqs,↓gvd_succ,↓gvd_zero,↓and_of,im_of,im_of trivial,vlt,hP,hst,initS,Nat.reduceBEq,Nat.reduceAdd,Nat.reduceMul,Nat.reduceSub,Nat.reduceDiv,Nat.reduceMod,Nat.reducePow,Nat.reduceLT,Nat.reduceLeDiff,Nat.reduceEqDiff,Int.reduceAdd,Int.reduceSub,Int.reduceNeg,Int.reduceMul,Int.reduceToNat,Int.reducePow,Int.reduceLE,Int.reduceLT,Int.reduceEq,Int.reduceNe,reduceIte,reduceCtorEq,ne_eq,not_true_eq_false,not_false_eq_true,imp_self,implies_true,bls,eq_self,hul,hvl,i1,i2,i3,i4,r1,r2,r3,runT_take,runT_two,runT_fin]
    exact hK hmn _ _ _ (hu4.end2 hSe (by omega) hSC2 (by omega) hSD2) (hv4.end2 hSe (by omega) hSC2 (by omega) hSD2)

def RwQuo (FQ FR : Int → Int → Int) (xs : List AV) (st : St) (K : AV → St → Prop) : Prop := ∃ x y s t l m, xs = [x, y] ∧ Wh st x s l ∧ Wh st y t m ∧ l.length ≤ 800 ∧ m.length ≤ 800 ∧
  (val m ≠ 0 → ∀ u w S', GotI st S' u (FQ (iv s (val l)) (iv t (val m))) → GotI st S' w (FR (iv s (val l)) (iv t (val m))) → K (.tup [u, w, .val (.int .i64 0)]) S') ∧
  (val m = 0 → ∀ S', Ext st S' → K (.tup [zeroI, zeroI, .val (.int .i64 3)]) S')
theorem s_wQuo : PSpec Tryz.prog 50 (RwQuo Int.tdiv Int.tmod) := by
  refine fspec_of (fn := Tryz.f50) 2 [.cell 4 27, .cell 5 27, .tmp 6] (by kernel_rfl) rfl rfl (by kernel_rfl) mixed (by rintro _ _ _ ⟨x, y, s, t, l, m, rfl, _⟩; rfl) ?_
  rintro X _ st K hP hst ⟨x, y, s, t, l, m, rfl, hx, hy, hl, hm, hK, hK0⟩
  have hx1 := hx
  have hy1 := hy
  obtain ⟨a, rfl, ha, hal⟩ := hx.iv
  obtain ⟨b, rfl, hb, hbl⟩ := hy.iv
  refine vc_V ?_
  simp (disch:=first|assumption|omega|(simp only [lens];omega)) only [eqs,↓gvd_succ,↓gvd_zero,↓and_of,im_of,im_of trivial,vlt,hP,hst,initS,Nat.reduceBEq,Nat.reduceAdd,Nat.reduceMul,Nat.reduceSub,Nat.reduceDiv,Nat.reduceMod,Nat.reducePow,Nat.reduceLT,Nat.reduceLeDiff,Nat.reduceEqDiff,Int.reduceAdd,Int.reduceSub,Int.reduceNeg,Int.reduceMul,Int.reduceToNat,Int.reducePow,Int.reduceLE,Int.reduceLT,Int.reduceEq,Int.reduceNe,reduceIte,reduceCtorEq,ne_eq,not_true_eq_false,not_false_eq_true,imp_self,implies_true,bls,eq_self,hal,hbl]
  refine E_call (hP ▸ s_divided) ⟨_, _, s, t, l, m, _, [], RwQuoF, (iv s (val l)).tdiv (iv t (val m)), (iv s (val l)).tmod (iv t (val m)), rfl, hx1.ext (.add _), hy1.ext (.add _), hl, hm, hP ▸ s_QuoF, fun _ S0 S q r _ hq hr K' hk => ⟨q, r, S0, _, _, rfl, hq, hr, fun S' h1 h2 => hk q r S' h1 h2⟩, fun hm0 u w S' hu hw => ?_, fun hm0 S' hS => ?_⟩
  · have hu0 := hu
    have hw0 := hw
    obtain ⟨u', rfl, hu'⟩ := hu
    obtain ⟨w', rfl, hw'⟩ := hw
    have hul := hu'.nm.leaf
    have hwl := hw'.nm.leaf
    obtain ⟨g, rfl⟩ := hu'.ex
    simp (disch:=first|assumption|omega|(simp only [lens];omega)) only [eqs,↓gvd_succ,↓gvd_zero,↓and_of,im_of,im_of trivial,vlt,hP,hst,initS,Nat.reduceBEq,Nat.reduceAdd,Nat.reduceMul,Nat.reduceSub,Nat.reduceDiv,Nat.reduceMod,Nat.reducePow,Nat.reduceLT,Nat.reduceLeDiff,Nat.reduceEqDiff,Int.reduceAdd,Int.reduceSub,Int.reduceNeg,Int.reduceMul,Int.reduceToNat,Int.reducePow,Int.reduceLE,Int.reduceLT,Int.reduceEq,Int.reduceNe,reduceIte,reduceCtorEq,ne_eq,not_true_eq_false,not_false_eq_true,imp_self,implies_true,bls,eq_self,hul,hwl]
    exact hK hm0 _ _ _ (hu0.fin (pre' := [_, _, _, _]) (by simp)) (hw0.fin (pre' := [_, _, _, _]) (by simp))
  · obtain ⟨g, rfl⟩ := hS
    unfold zeroI
    simp (disch:=first|assumption|omega|(simp only [lens];omega)) only [eqs,↓gvd_succ,↓gvd_zero,↓and_of,im_of,im_of trivial,vlt,hP,hst,initS,Nat.reduceBEq,Nat.reduceAdd,Nat.reduceMul,Nat.reduceSub,Nat.reduceDiv,Nat.reduceMod,Nat.reducePow,Nat.reduceLT,Nat.reduceLeDiff,Nat.reduceEqDiff,Int.reduceAdd,Int.reduceSub,Int.reduceNeg,Int.reduceMul,Int.reduceToNat,Int.reducePow,Int.reduceLE,Int.reduceLT,Int.reduceEq,Int.reduceNe,reduceIte,reduceCtorEq,ne_eq,not_true_eq_false,not_false_eq_true,imp_self,implies_true,bls,eq_self]
    exact hK0 hm0 _ (.add _)

theorem fq_if (Z W : Int) (t : Bool) {n : Nat} (hW : W = iv t n) (hn : n ≠ 0) : (Z.tmod W = 0 ∨ decide (Z.tmod W < 0) = t) ↔ (Z.tmod W = 0 ∨ ((Z.tmod W < 0) ↔ (W < 0))) := by
  have h : W < 0 ↔ t = true := by
    subst hW
    have := iv_neg (s := t) (a := n)
    constructor
    · intro h
      rw [decide_eq_true h] at this
      cases t
      · simp at this
      · rfl
    · intro h
      subst h
      have h2 : decide (iv true n < 0) = true := by rw [this]; simp; omega
      exact of_decide_eq_true h2
  rw [h]
  cases t <;> simp
theorem s_wFloor : PSpec Tryz.prog 51 (RwQuo fq fr) := by
  refine fspec_of (fn := Tryz.f51) 2 [.cell 4 27, .cell 5 27, .tmp 6] (by kernel_rfl) rfl rfl (by kernel_rfl) mixed (by rintro _ _ _ ⟨x, y, s, t, l, m, rfl, _⟩; rfl) ?_
  rintro X _ st K hP hst ⟨x, y, s, t, l, m, rfl, hx, hy, hl, hm, hK, hK0⟩
  have hx1 := hx
  have hy1 := hy
  obtain ⟨a, rfl, ha, hal⟩ := hx.iv
  obtain ⟨b, rfl, hb, hbl⟩ := hy.iv
  have hd : (limbs ((iv s (val l)).tdiv (iv t (val m))).natAbs).length ≤ 900 ∧ (limbs ((iv s (val l)).tmod (iv t (val m))).natAbs).length ≤ 900 := by
    rw [iv_tdiv, iv_natAbs, iv_tmod, iv_natAbs]
    have h0 := limbs_len ha.lt
    have h1 := limbs_len_mono (Nat.div_le_self (val l) (val m))
    have h2 := limbs_len_mono (Nat.mod_le (val l) (val m))
    omega
  have hB : At (st ++ [some [.val (.bool s), a], some [.val (.bool t), b], some [.val (.bool false), .val (.slice none 0 0)], some [.val (.bool false), .val (.slice none 0 0)]]) (st.length + 1) [.val (.bool t), b] := ⟨by rw [get_app]; rfl⟩
  refine vc_V ?_
  simp (disch:=first|assumption|omega|(simp only [lens];omega)) only [eqs,↓gvd_succ,↓gvd_zero,↓and_of,im_of,im_of trivial,vlt,hP,hst,initS,Nat.reduceBEq,Nat.reduceAdd,Nat.reduceMul,Nat.reduceSub,Nat.reduceDiv,Nat.reduceMod,Nat.reducePow,Nat.reduceLT,Nat.reduceLeDiff,Nat.reduceEqDiff,Int.reduceAdd,Int.reduceSub,Int.reduceNeg,Int.reduceMul,Int.reduceToNat,Int.reducePow,Int.reduceLE,Int.reduceLT,Int.reduceEq,Int.reduceNe,reduceIte,reduceCtorEq,ne_eq,not_true_eq_false,not_false_eq_true,imp_self,implies_true,bls,eq_self,hal,hbl]
  refine E_call (hP ▸ s_divided) ⟨_, _, s, t, l, m, _, [.ptr (st.length + 1) 0], RwFloorF, fq (iv s (val l)) (iv t (val m)), fr (iv s (val l)) (iv t (val m)), rfl, hx1.ext (.add _), hy1.ext (.add _), hl, hm, hP ▸ s_FloorF, fun hm0 S0 S q r h0 hq hr K' hk => ⟨q, r, _, S0, _, _, t, b, m, rfl, hq, hr, (hB.ext (h0.trans hq.ex)).get, hb.ext ((Ext.add _).trans (h0.trans hq.ex)), by omega, hd.1, hd.2, fun u v S' hu hv => hk u v S' ?_ ?_⟩, fun hm0 u w S' hu hw => ?_, fun hm0 S' hS => ?_⟩
  · have e := fq_if (iv s (val l)) (iv t (val m)) t rfl hm0
    unfold fq
    by_cases h : (iv s (val l)).tmod (iv t (val m)) = 0 ∨ decide ((iv s (val l)).tmod (iv t (val m)) < 0) = t
    · rw [if_pos h] at hu; rw [if_pos (e.1 h)]; exact hu
    · rw [if_neg h] at hu; rw [if_neg (fun h2 => h (e.2 h2))]; exact hu
  · have e := fq_if (iv s (val l)) (iv t (val m)) t rfl hm0
    unfold fr
    by_cases h : (iv s (val l)).tmod (iv t (val m)) = 0 ∨ decide ((iv s (val l)).tmod (iv t (val m)) < 0) = t
    · rw [if_pos h] at hv; rw [if_pos (e.1 h)]; exact hv
    · rw [if_neg h] at hv; rw [if_neg (fun h2 => h (e.2 h2))]; exact hv
  · have hu0 := hu
    have hw0 := hw
    obtain ⟨u', rfl, hu'⟩ := hu
    obtain ⟨w', rfl, hw'⟩ := hw
    have hul := hu'.nm.leaf
    have hwl := hw'.nm.leaf
    obtain ⟨g, rfl⟩ := hu'.ex
    simp (disch:=first|assumption|omega|(simp only [lens];omega)) only [eqs,↓gvd_succ,↓gvd_zero,↓and_of,im_of,im_of trivial,vlt,hP,hst,initS,Nat.reduceBEq,Nat.reduceAdd,Nat.reduceMul,Nat.reduceSub,Nat.reduceDiv,Nat.reduceMod,Nat.reducePow,Nat.reduceLT,Nat.reduceLeDiff,Nat.reduceEqDiff,Int.reduceAdd,Int.reduceSub,Int.reduceNeg,Int.reduceMul,Int.reduceToNat,Int.reducePow,Int.reduceLE,Int.reduceLT,Int.reduceEq,Int.reduceNe,reduceIte,reduceCtorEq,ne_eq,not_true_eq_false,not_false_eq_true,imp_self,implies_true,bls,eq_self,hul,hwl]
    exact hK hm0 _ _ _ (hu0.fin (pre' := [_, _, _, _]) (by simp)) (hw0.fin (pre' := [_, _, _, _]) (by simp))
  · obtain ⟨g, rfl⟩ := hS
    unfold zeroI
    simp (disch:=first|assumption|omega|(simp only [lens];omega)) only [eqs,↓gvd_succ,↓gvd_zero,↓and_of,im_of,im_of trivial,vlt,hP,hst,initS,Nat.reduceBEq,Nat.reduceAdd,Nat.reduceMul,Nat.reduceSub,Nat.reduceDiv,Nat.reduceMod,Nat.reducePow,Nat.reduceLT,Nat.reduceLeDiff,Nat.reduceEqDiff,Int.reduceAdd,Int.reduceSub,Int.reduceNeg,Int.reduceMul,Int.reduceToNat,Int.reducePow,Int.reduceLE,Int.reduceLT,Int.reduceEq,Int.reduceNe,reduceIte,reduceCtorEq,ne_eq,not_true_eq_false,not_false_eq_true,imp_self,implies_true,bls,eq_self]
    exact hK0 hm0 _ (.add _)
end Go.Proofs.Pv

/- The whole functions' walks, third part: the root, the text. -/
namespace Go.Proofs.Pv
open Go Go.RowKit Go.Proofs
set_option maxRecDepth 20000

def RwRoot (xs : List AV) (st : St) (K : AV → St → Prop) : Prop := ∃ x s l, xs = [x] ∧ Wh st x s l ∧ l.length ≤ 100 ∧
  (iv s (val l) < 0 → ∀ S', Ext st S' → K (.tup [zeroI, zeroI, .val (.int .i64 2)]) S') ∧
  (0 ≤ iv s (val l) → ∀ u w S', GotI st S' u (isqrt (val l) : Nat) → GotI st S' w ((val l - isqrt (val l) * isqrt (val l) : Nat) : Int) → K (.tup [u, w, .val (.int .i64 0)]) S')
end Go.Proofs.Pv
