/- The document's answer for whole numbers: its walks, first part. -/
import Derived.Test.YtmclabehpfpnnaaGreatDoorW11
import Derived.Test.YtmclabehpfpnnaaGreatDoorR5
set_option linter.unusedSimpArgs false
set_option linter.unusedVariables false
namespace Go.Proofs.Pv
open Go Go.RowKit Go.Proofs
set_option maxRecDepth 20000

theorem s_qNorm : PSpec Tryz.prog 38 RwNorm := by
  refine fspec_of (fn := Tryz.f38) 1 [.cell 2 27] (by kernel_rfl) rfl rfl (by kernel_rfl) mixed (by rintro _ _ _ ⟨x, neg, l, rfl, _⟩; rfl) ?_
  rintro X _ st K hP hst ⟨x, neg, l, rfl, hx, hl, hK⟩
  obtain ⟨a, rfl, ha, hle⟩ := hx.iv
  refine vc_V ?_
  simp (disch:=first|assumption|omega|(simp only [lens];omega)) only [eqs,↓gvd_succ,↓gvd_zero,↓and_of,im_of,im_of trivial,vlt,hP,hst,initS,Nat.reduceBEq,Nat.reduceAdd,Nat.reduceMul,Nat.reduceSub,Nat.reduceDiv,Nat.reduceMod,Nat.reducePow,Nat.reduceLT,Nat.reduceLeDiff,Nat.reduceEqDiff,Int.reduceAdd,Int.reduceSub,Int.reduceNeg,Int.reduceMul,Int.reduceToNat,Int.reducePow,Int.reduceLE,Int.reduceLT,Int.reduceEq,Int.reduceNe,reduceIte,reduceCtorEq,ne_eq,not_true_eq_false,not_false_eq_true,imp_self,implies_true,bls,eq_self,hle]
  refine E_call (hP ▸ s_rNorm) ⟨a, l, rfl, ha.app _, by omega, fresh_got fun z T hz => ?_⟩
  have hlen := limbs_len ha.lt
  have h1 := hz.nm.sl
  have h2 := hz.nm.leaf
  obtain ⟨g, rfl⟩ := hz.ex
  simp only [List.append_assoc, List.cons_append, List.nil_append] at h1
  have hpl := limbs_pos_len (v := val l)
  cases neg
  · simp (disch:=first|assumption|omega|(simp only [lens];omega)) only [eqs,↓gvd_succ,↓gvd_zero,↓and_of,im_of,im_of trivial,vlt,hP,hst,initS,Nat.reduceBEq,Nat.reduceAdd,Nat.reduceMul,Nat.reduceSub,Nat.reduceDiv,Nat.reduceMod,Nat.reducePow,Nat.reduceLT,Nat.reduceLeDiff,Nat.reduceEqDiff,Int.reduceAdd,Int.reduceSub,Int.reduceNeg,Int.reduceMul,Int.reduceToNat,Int.reducePow,Int.reduceLE,Int.reduceLT,Int.reduceEq,Int.reduceNe,reduceIte,reduceCtorEq,ne_eq,not_true_eq_false,not_false_eq_true,imp_self,implies_true,bls,eq_self,h2]
    exact hK _ _ (GotI.mk (hz.fin (pre' := [_, _]) (by simp)) rfl (by simp))
  · simp (disch:=first|assumption|omega|(simp only [lens];omega)) only [eqs,↓gvd_succ,↓gvd_zero,↓and_of,im_of,im_of trivial,vlt,hP,hst,initS,Nat.reduceBEq,Nat.reduceAdd,Nat.reduceMul,Nat.reduceSub,Nat.reduceDiv,Nat.reduceMod,Nat.reducePow,Nat.reduceLT,Nat.reduceLeDiff,Nat.reduceEqDiff,Int.reduceAdd,Int.reduceSub,Int.reduceNeg,Int.reduceMul,Int.reduceToNat,Int.reducePow,Int.reduceLE,Int.reduceLT,Int.reduceEq,Int.reduceNe,reduceIte,reduceCtorEq,ne_eq,not_true_eq_false,not_false_eq_true,imp_self,implies_true,bls,eq_self,h1,h2]
    exact hK _ _ (GotI.mk (b := decide ((0 : Int) < ((limbs (val l)).length : Int))) (hz.fin (pre' := [_, _]) (by simp)) (by
      by_cases h0 : 0 < val l
      · rw [decide_eq_true (by omega)]
      · rw [decide_eq_false (by omega), show val l = 0 by omega, iv_zero, iv_zero]) (fun h => by have := of_decide_eq_true h; omega))

def RwSame (xs : List AV) (st : St) (K : AV → St → Prop) : Prop := ∃ x y s t l m, xs = [x, y] ∧ Wh st x s l ∧ Wh st y t m ∧ l.length ≤ 35184372088832 ∧ m.length ≤ 35184372088832 ∧ anyw st (.bool (decide (s = t ∧ l = m))) K
theorem s_qSame : PSpec Tryz.prog 37 RwSame := by
  refine fspec_of (fn := Tryz.f37) 2 [.tmp 4] (by kernel_rfl) rfl rfl (by kernel_rfl) mixed (by rintro _ _ _ ⟨x, y, s, t, l, m, rfl, _⟩; rfl) ?_
  rintro X _ st K hP hst ⟨x, y, s, t, l, m, rfl, hx, hy, hl, hm, hK⟩
  obtain ⟨a, rfl, ha, hal⟩ := hx.iv
  obtain ⟨b, rfl, hb, hbl⟩ := hy.iv
  refine vc_V ?_
  by_cases hst2 : s = t
  · subst hst2
    simp (disch:=first|assumption|omega|(simp only [lens];omega)) only [eqs,↓gvd_succ,↓gvd_zero,↓and_of,im_of,im_of trivial,vlt,hP,hst,initS,Nat.reduceBEq,Nat.reduceAdd,Nat.reduceMul,Nat.reduceSub,Nat.reduceDiv,Nat.reduceMod,Nat.reducePow,Nat.reduceLT,Nat.reduceLeDiff,Nat.reduceEqDiff,Int.reduceAdd,Int.reduceSub,Int.reduceNeg,Int.reduceMul,Int.reduceToNat,Int.reducePow,Int.reduceLE,Int.reduceLT,Int.reduceEq,Int.reduceNe,reduceIte,reduceCtorEq,ne_eq,not_true_eq_false,not_false_eq_true,imp_self,implies_true,bls,eq_self,hal,hbl,beq_self_eq_true]
    refine E_call (hP ▸ s_Same) ⟨a, b, l, m, rfl, ha.app _, hb.app _, hl, hm, ?_⟩
    simp (disch:=first|assumption|omega|(simp only [lens];omega)) only [eqs,↓gvd_succ,↓gvd_zero,↓and_of,im_of,im_of trivial,vlt,hP,hst,initS,Nat.reduceBEq,Nat.reduceAdd,Nat.reduceMul,Nat.reduceSub,Nat.reduceDiv,Nat.reduceMod,Nat.reducePow,Nat.reduceLT,Nat.reduceLeDiff,Nat.reduceEqDiff,Int.reduceAdd,Int.reduceSub,Int.reduceNeg,Int.reduceMul,Int.reduceToNat,Int.reducePow,Int.reduceLE,Int.reduceLT,Int.reduceEq,Int.reduceNe,reduceIte,reduceCtorEq,ne_eq,not_true_eq_false,not_false_eq_true,imp_self,implies_true,bls,eq_self,beq_self_eq_true]
    rw [show decide (s = s ∧ l = m) = decide (l = m) by simp] at hK
    exact hK _ (.add _)
  · have e : (s == t) = false := by simpa using hst2
    simp (disch:=first|assumption|omega|(simp only [lens];omega)) only [eqs,↓gvd_succ,↓gvd_zero,↓and_of,im_of,im_of trivial,vlt,hP,hst,initS,Nat.reduceBEq,Nat.reduceAdd,Nat.reduceMul,Nat.reduceSub,Nat.reduceDiv,Nat.reduceMod,Nat.reducePow,Nat.reduceLT,Nat.reduceLeDiff,Nat.reduceEqDiff,Int.reduceAdd,Int.reduceSub,Int.reduceNeg,Int.reduceMul,Int.reduceToNat,Int.reducePow,Int.reduceLE,Int.reduceLT,Int.reduceEq,Int.reduceNe,reduceIte,reduceCtorEq,ne_eq,not_true_eq_false,not_false_eq_true,imp_self,implies_true,bls,eq_self,hal,hbl,e]
    rw [decide_eq_false (fun h => hst2 h.1)] at hK
    exact hK _ (.add _)

theorem s_qNeg : PSpec Tryz.prog 86 RwNeg := by
  refine fspec_of (fn := Tryz.f86) 1 [.cell 2 27] (by kernel_rfl) rfl rfl (by kernel_rfl) mixed (by rintro _ _ _ ⟨x, neg, l, rfl, _⟩; rfl) ?_
  rintro X _ st K hP hst ⟨x, neg, l, rfl, hx, hl, hK⟩
  obtain ⟨a, rfl, ha, hle⟩ := hx.iv
  refine vc_V ?_
  simp (disch:=first|assumption|omega|(simp only [lens];omega)) only [eqs,↓gvd_succ,↓gvd_zero,↓and_of,im_of,im_of trivial,vlt,hP,hst,initS,Nat.reduceBEq,Nat.reduceAdd,Nat.reduceMul,Nat.reduceSub,Nat.reduceDiv,Nat.reduceMod,Nat.reducePow,Nat.reduceLT,Nat.reduceLeDiff,Nat.reduceEqDiff,Int.reduceAdd,Int.reduceSub,Int.reduceNeg,Int.reduceMul,Int.reduceToNat,Int.reducePow,Int.reduceLE,Int.reduceLT,Int.reduceEq,Int.reduceNe,reduceIte,reduceCtorEq,ne_eq,not_true_eq_false,not_false_eq_true,imp_self,implies_true,bls,eq_self,hle]
  refine E_call (hP ▸ s_qNorm) ⟨_, !neg, l, rfl, ⟨a, rfl, ha.app _⟩, hl, fun z T hz => ?_⟩
  rw [iv_not] at hz
  have hz0 := hz
  obtain ⟨c, rfl, hc⟩ := hz
  have hcl := hc.nm.leaf
  obtain ⟨g, rfl⟩ := hc.ex
  simp (disch:=first|assumption|omega|(simp only [lens];omega)) only [eqs,↓gvd_succ,↓gvd_zero,↓and_of,im_of,im_of trivial,vlt,hP,hst,initS,Nat.reduceBEq,Nat.reduceAdd,Nat.reduceMul,Nat.reduceSub,Nat.reduceDiv,Nat.reduceMod,Nat.reducePow,Nat.reduceLT,Nat.reduceLeDiff,Nat.reduceEqDiff,Int.reduceAdd,Int.reduceSub,Int.reduceNeg,Int.reduceMul,Int.reduceToNat,Int.reducePow,Int.reduceLE,Int.reduceLT,Int.reduceEq,Int.reduceNe,reduceIte,reduceCtorEq,ne_eq,not_true_eq_false,not_false_eq_true,imp_self,implies_true,bls,eq_self,hcl]
  exact hK _ _ (hz0.fin (pre' := [_, _]) (by simp))

theorem s_qOf : PSpec Tryz.prog 36 RwOfInt := by
  refine fspec_of (fn := Tryz.f36) 1 [.cell 2 27] (by kernel_rfl) rfl rfl (by kernel_rfl) mixed (by rintro _ _ _ ⟨n, rfl, _⟩; rfl) ?_
  rintro X _ st K hP hst ⟨n, rfl, hn1, hn2, hK⟩
  refine vc_V ?_
  simp (disch:=first|assumption|omega|(simp only [lens];omega)) only [eqs,↓gvd_succ,↓gvd_zero,↓and_of,im_of,im_of trivial,vlt,hP,hst,initS,Nat.reduceBEq,Nat.reduceAdd,Nat.reduceMul,Nat.reduceSub,Nat.reduceDiv,Nat.reduceMod,Nat.reducePow,Nat.reduceLT,Nat.reduceLeDiff,Nat.reduceEqDiff,Int.reduceAdd,Int.reduceSub,Int.reduceNeg,Int.reduceMul,Int.reduceToNat,Int.reducePow,Int.reduceLE,Int.reduceLT,Int.reduceEq,Int.reduceNe,reduceIte,reduceCtorEq,ne_eq,not_true_eq_false,not_false_eq_true,imp_self,implies_true,bls,eq_self]
  refine C_dec (fun h => ?_) (fun h => ?_)
  · obtain ⟨u, hu⟩ : ∃ u : Nat, n = -(u : Int) := ⟨n.natAbs, by omega⟩
    subst hu
    have e1 : IntKind.u64.wrap (0 - IntKind.u64.wrap (-(u : Int))) = (u : Int) := by rw [wrap64, wrap64]; omega
    have hu2 : u < 18446744073709551616 := by omega
    simp (disch:=first|assumption|omega|(simp only [lens];omega)) only [eqs,↓gvd_succ,↓gvd_zero,↓and_of,im_of,im_of trivial,vlt,hP,hst,initS,Nat.reduceBEq,Nat.reduceAdd,Nat.reduceMul,Nat.reduceSub,Nat.reduceDiv,Nat.reduceMod,Nat.reducePow,Nat.reduceLT,Nat.reduceLeDiff,Nat.reduceEqDiff,Int.reduceAdd,Int.reduceSub,Int.reduceNeg,Int.reduceMul,Int.reduceToNat,Int.reducePow,Int.reduceLE,Int.reduceLT,Int.reduceEq,Int.reduceNe,reduceIte,reduceCtorEq,ne_eq,not_true_eq_false,not_false_eq_true,imp_self,implies_true,bls,eq_self,e1,h]
    refine E_call (hP ▸ s_qNorm) ⟨_, _, [u % 4294967296, u / 4294967296], rfl, ⟨_, rfl, Nm.two (by rw [get_app]; rfl) (by rw [IntKind.wrap_u32]; omega) (by omega) (by omega) (by omega)⟩, by simp, fun z T hz => ?_⟩
    rw [split64 u hu2] at hz
    have hz0 := hz
    obtain ⟨c, rfl, hc⟩ := hz
    have hcl := hc.nm.leaf
    obtain ⟨g, rfl⟩ := hc.ex
    simp (disch:=first|assumption|omega|(simp only [lens];omega)) only [eqs,↓gvd_succ,↓gvd_zero,↓and_of,im_of,im_of trivial,vlt,hP,hst,initS,Nat.reduceBEq,Nat.reduceAdd,Nat.reduceMul,Nat.reduceSub,Nat.reduceDiv,Nat.reduceMod,Nat.reducePow,Nat.reduceLT,Nat.reduceLeDiff,Nat.reduceEqDiff,Int.reduceAdd,Int.reduceSub,Int.reduceNeg,Int.reduceMul,Int.reduceToNat,Int.reducePow,Int.reduceLE,Int.reduceLT,Int.reduceEq,Int.reduceNe,reduceIte,reduceCtorEq,ne_eq,not_true_eq_false,not_false_eq_true,imp_self,implies_true,bls,eq_self,hcl]
    exact hK _ _ (hz0.fin (pre' := [_, _]) (by simp))
  · obtain ⟨u, hu⟩ : ∃ u : Nat, n = (u : Int) := ⟨n.toNat, by omega⟩
    subst hu
    have hu2 : u < 18446744073709551616 := by omega
    simp (disch:=first|assumption|omega|(simp only [lens];omega)) only [eqs,↓gvd_succ,↓gvd_zero,↓and_of,im_of,im_of trivial,vlt,hP,hst,initS,Nat.reduceBEq,Nat.reduceAdd,Nat.reduceMul,Nat.reduceSub,Nat.reduceDiv,Nat.reduceMod,Nat.reducePow,Nat.reduceLT,Nat.reduceLeDiff,Nat.reduceEqDiff,Int.reduceAdd,Int.reduceSub,Int.reduceNeg,Int.reduceMul,Int.reduceToNat,Int.reducePow,Int.reduceLE,Int.reduceLT,Int.reduceEq,Int.reduceNe,reduceIte,reduceCtorEq,ne_eq,not_true_eq_false,not_false_eq_true,imp_self,implies_true,bls,eq_self,h]
    refine E_call (hP ▸ s_qNorm) ⟨_, _, [u % 4294967296, u / 4294967296], rfl, ⟨_, rfl, Nm.two (by rw [get_app]; rfl) (by rw [IntKind.wrap_u32]; omega) (by omega) (by omega) (by omega)⟩, by simp, fun z T hz => ?_⟩
    rw [split64 u hu2] at hz
    have hz0 := hz
    obtain ⟨c, rfl, hc⟩ := hz
    have hcl := hc.nm.leaf
    obtain ⟨g, rfl⟩ := hc.ex
    simp (disch:=first|assumption|omega|(simp only [lens];omega)) only [eqs,↓gvd_succ,↓gvd_zero,↓and_of,im_of,im_of trivial,vlt,hP,hst,initS,Nat.reduceBEq,Nat.reduceAdd,Nat.reduceMul,Nat.reduceSub,Nat.reduceDiv,Nat.reduceMod,Nat.reducePow,Nat.reduceLT,Nat.reduceLeDiff,Nat.reduceEqDiff,Int.reduceAdd,Int.reduceSub,Int.reduceNeg,Int.reduceMul,Int.reduceToNat,Int.reducePow,Int.reduceLE,Int.reduceLT,Int.reduceEq,Int.reduceNe,reduceIte,reduceCtorEq,ne_eq,not_true_eq_false,not_false_eq_true,imp_self,implies_true,bls,eq_self,hcl]
    exact hK _ _ (hz0.fin (pre' := [_, _]) (by simp))

/-- Two normed ones, each in a variable made at any time. -/
structure Two (st S : St) (r q : Nat) (Z W : Int) (a b : AV) : Prop where
  ex : Ext st S
  na : Nm S a (limbs Z.natAbs)
  nb : Nm S b (limbs W.natAbs)
  ra : S[r]? = some (some [.val (.bool (decide (Z < 0))), a])
  rb : S[q]? = some (some [.val (.bool (decide (W < 0))), b])

/-- The order of two, of the document's. 61 -/
def RqCmp (xs : List AV) (st : St) (K : AV → St → Prop) : Prop := ∃ x y s t l m, xs = [x, y] ∧ Wh st x s l ∧ Wh st y t m ∧ l.length ≤ 1000 ∧ m.length ≤ 1000 ∧ anyw st (.int .i64 (cmpI (iv s (val l)) (iv t (val m)))) K
theorem s_qCmp : PSpec Tryz.prog 61 RqCmp := by
  refine fspec_of (fn := Tryz.f61) 2 [.tmp 4] (by kernel_rfl) rfl rfl (by kernel_rfl) mixed (by rintro _ _ _ ⟨x, y, s, t, l, m, rfl, _⟩; rfl) ?_
  rintro X _ st K hP hst ⟨x, y, s, t, l, m, rfl, hx, hy, hl, hm, hK⟩
  have hx1 := hx
  have hy1 := hy
  obtain ⟨a, rfl, ha, hal⟩ := hx.iv
  obtain ⟨b, rfl, hb, hbl⟩ := hy.iv
  refine vc_V ?_
  have b1 := limbs_len ha.lt
  have b2 := limbs_len hb.lt
  simp (disch:=first|assumption|omega|(simp only [lens];omega)) only [eqs,↓gvd_succ,↓gvd_zero,↓and_of,im_of,im_of trivial,vlt,hP,hst,initS,Nat.reduceBEq,Nat.reduceAdd,Nat.reduceMul,Nat.reduceSub,Nat.reduceDiv,Nat.reduceMod,Nat.reducePow,Nat.reduceLT,Nat.reduceLeDiff,Nat.reduceEqDiff,Int.reduceAdd,Int.reduceSub,Int.reduceNeg,Int.reduceMul,Int.reduceToNat,Int.reducePow,Int.reduceLE,Int.reduceLT,Int.reduceEq,Int.reduceNe,reduceIte,reduceCtorEq,ne_eq,not_true_eq_false,not_false_eq_true,imp_self,implies_true,bls,eq_self,hal,hbl]
  refine V_late (s' := (5, AV.junk) :: (6, AV.junk) :: _) [4, 5] [0, 2, 1, 3] [6, 7] hP (by kernel_rfl) (by kernel_rfl) (.cons rfl <| .cons rfl <| .cons rfl <| .cons rfl <| .cons rfl <| .cons rfl <| .cons rfl <| .cons rfl <| .nil) rfl ?_; rw [mask_nil]
  simp (disch:=first|assumption|omega|(simp only [lens];omega)) only [eqs,↓gvd_succ,↓gvd_zero,↓and_of,im_of,im_of trivial,vlt,hP,hst,initS,Nat.reduceBEq,Nat.reduceAdd,Nat.reduceMul,Nat.reduceSub,Nat.reduceDiv,Nat.reduceMod,Nat.reducePow,Nat.reduceLT,Nat.reduceLeDiff,Nat.reduceEqDiff,Int.reduceAdd,Int.reduceSub,Int.reduceNeg,Int.reduceMul,Int.reduceToNat,Int.reducePow,Int.reduceLE,Int.reduceLT,Int.reduceEq,Int.reduceNe,reduceIte,reduceCtorEq,ne_eq,not_true_eq_false,not_false_eq_true,imp_self,implies_true,bls,eq_self]
  refine E_call (hP ▸ s_qNorm) ⟨_, s, l, rfl, hx1.ext (.add _), by omega, fun z T hz => ?_⟩
  simp (disch:=first|assumption|omega|(simp only [lens];omega)) only [eqs,↓gvd_succ,↓gvd_zero,↓and_of,im_of,im_of trivial,vlt,hP,hst,initS,Nat.reduceBEq,Nat.reduceAdd,Nat.reduceMul,Nat.reduceSub,Nat.reduceDiv,Nat.reduceMod,Nat.reducePow,Nat.reduceLT,Nat.reduceLeDiff,Nat.reduceEqDiff,Int.reduceAdd,Int.reduceSub,Int.reduceNeg,Int.reduceMul,Int.reduceToNat,Int.reducePow,Int.reduceLE,Int.reduceLT,Int.reduceEq,Int.reduceNe,reduceIte,reduceCtorEq,ne_eq,not_true_eq_false,not_false_eq_true,imp_self,implies_true,bls,eq_self]
  refine E_call (hP ▸ s_qNorm) ⟨_, t, m, rfl, hy1.ext ((Ext.add _).trans hz.ex), by omega, fun w T2 hw => ?_⟩
  have hz2 := hz.ext hw.ex
  have e0 : Ext st T2 := (Ext.add _).trans hz2.ex
  generalize hzz : iv s (val l) = Z at *
  generalize hww : iv t (val m) = W at *
  have c1 : (limbs Z.natAbs).length ≤ 1000 := by rw [← hzz, iv_natAbs]; omega
  have c2 : (limbs W.natAbs).length ≤ 1000 := by rw [← hww, iv_natAbs]; omega
  obtain ⟨a', rfl, ha'⟩ := hz2
  obtain ⟨b', rfl, hb'⟩ := hw
  have hal' := ha'.nm.leaf
  have hbl' := hb'.nm.leaf
  have hX1 : X.st1.length ≤ T2.length := by rw [hst]; exact e0.len
  have hX2 : X.st1.length ≤ T2.length + 1 := by omega
  obtain ⟨s', hs'⟩ : ∃ s', decide (Z < 0) = s' := ⟨_, rfl⟩
  obtain ⟨t', ht'⟩ : ∃ t', decide (W < 0) = t' := ⟨_, rfl⟩
  rw [hs', ht']
  have hNa := ha'.nm.grow
  have hNb := hb'.nm.grow
  have k1 := iv_bool hs'
  have k2 := iv_bool ht'
  have e2 : ∀ y, Ext st (T2 ++ y) := fun y => e0.app y
  cases s' <;> cases t'
  · simp (disch:=first|assumption|omega|(simp only [lens];omega)) only [eqs,↓gvd_succ,↓gvd_zero,↓and_of,im_of,im_of trivial,vlt,hP,hst,initS,Nat.reduceBEq,Nat.reduceAdd,Nat.reduceMul,Nat.reduceSub,Nat.reduceDiv,Nat.reduceMod,Nat.reducePow,Nat.reduceLT,Nat.reduceLeDiff,Nat.reduceEqDiff,Int.reduceAdd,Int.reduceSub,Int.reduceNeg,Int.reduceMul,Int.reduceToNat,Int.reducePow,Int.reduceLE,Int.reduceLT,Int.reduceEq,Int.reduceNe,reduceIte,reduceCtorEq,ne_eq,not_true_eq_false,not_false_eq_true,imp_self,implies_true,bls,eq_self,hal',hbl',bools,hNa,hNb]
    refine E_call (hP ▸ s_rCmp) ⟨a', b', _, _, rfl, ha'.nm.app _, hb'.nm.app _, by omega, by omega, ?_⟩
    rw [val_limbs, val_limbs]
    rw [k1, k2, iv_cmp_pos] at hK
    simp (disch:=first|assumption|omega|(simp only [lens];omega)) only [eqs,↓gvd_succ,↓gvd_zero,↓and_of,im_of,im_of trivial,vlt,hP,hst,initS,Nat.reduceBEq,Nat.reduceAdd,Nat.reduceMul,Nat.reduceSub,Nat.reduceDiv,Nat.reduceMod,Nat.reducePow,Nat.reduceLT,Nat.reduceLeDiff,Nat.reduceEqDiff,Int.reduceAdd,Int.reduceSub,Int.reduceNeg,Int.reduceMul,Int.reduceToNat,Int.reducePow,Int.reduceLE,Int.reduceLT,Int.reduceEq,Int.reduceNe,reduceIte,reduceCtorEq,ne_eq,not_true_eq_false,not_false_eq_true,imp_self,implies_true,bls,eq_self]
    exact hK _ (e2 _)
  · simp (disch:=first|assumption|omega|(simp only [lens];omega)) only [eqs,↓gvd_succ,↓gvd_zero,↓and_of,im_of,im_of trivial,vlt,hP,hst,initS,Nat.reduceBEq,Nat.reduceAdd,Nat.reduceMul,Nat.reduceSub,Nat.reduceDiv,Nat.reduceMod,Nat.reducePow,Nat.reduceLT,Nat.reduceLeDiff,Nat.reduceEqDiff,Int.reduceAdd,Int.reduceSub,Int.reduceNeg,Int.reduceMul,Int.reduceToNat,Int.reducePow,Int.reduceLE,Int.reduceLT,Int.reduceEq,Int.reduceNe,reduceIte,reduceCtorEq,ne_eq,not_true_eq_false,not_false_eq_true,imp_self,implies_true,bls,eq_self,hal',hbl',bools]
    rw [cmpI_gt' (show W < Z by have := of_decide_eq_true ht'; have := of_decide_eq_false hs'; omega)] at hK
    exact hK _ (e2 _)
  · simp (disch:=first|assumption|omega|(simp only [lens];omega)) only [eqs,↓gvd_succ,↓gvd_zero,↓and_of,im_of,im_of trivial,vlt,hP,hst,initS,Nat.reduceBEq,Nat.reduceAdd,Nat.reduceMul,Nat.reduceSub,Nat.reduceDiv,Nat.reduceMod,Nat.reducePow,Nat.reduceLT,Nat.reduceLeDiff,Nat.reduceEqDiff,Int.reduceAdd,Int.reduceSub,Int.reduceNeg,Int.reduceMul,Int.reduceToNat,Int.reducePow,Int.reduceLE,Int.reduceLT,Int.reduceEq,Int.reduceNe,reduceIte,reduceCtorEq,ne_eq,not_true_eq_false,not_false_eq_true,imp_self,implies_true,bls,eq_self,hal',hbl',bools,hNa,hNb]
    rw [cmpI_lt' (show Z < W by have := of_decide_eq_true hs'; have := of_decide_eq_false ht'; omega)] at hK
    exact hK _ (e2 _)
  · simp (disch:=first|assumption|omega|(simp only [lens];omega)) only [eqs,↓gvd_succ,↓gvd_zero,↓and_of,im_of,im_of trivial,vlt,hP,hst,initS,Nat.reduceBEq,Nat.reduceAdd,Nat.reduceMul,Nat.reduceSub,Nat.reduceDiv,Nat.reduceMod,Nat.reducePow,Nat.reduceLT,Nat.reduceLeDiff,Nat.reduceEqDiff,Int.reduceAdd,Int.reduceSub,Int.reduceNeg,Int.reduceMul,Int.reduceToNat,Int.reducePow,Int.reduceLE,Int.reduceLT,Int.reduceEq,Int.reduceNe,reduceIte,reduceCtorEq,ne_eq,not_true_eq_false,not_false_eq_true,imp_self,implies_true,bls,eq_self,hal',hbl',bools,hNa,hNb]
    refine E_call (hP ▸ s_rCmp) ⟨a', b', _, _, rfl, ha'.nm.app _, hb'.nm.app _, by omega, by omega, ?_⟩
    rw [val_limbs, val_limbs]
    rw [k1, k2, iv_cmp_neg, cmpI_swap] at hK
    have hc1 := cmpI_cases (Z.natAbs : Nat) (W.natAbs : Nat)
    simp (disch:=first|assumption|omega|(simp only [lens];omega)) only [eqs,↓gvd_succ,↓gvd_zero,↓and_of,im_of,im_of trivial,vlt,hP,hst,initS,Nat.reduceBEq,Nat.reduceAdd,Nat.reduceMul,Nat.reduceSub,Nat.reduceDiv,Nat.reduceMod,Nat.reducePow,Nat.reduceLT,Nat.reduceLeDiff,Nat.reduceEqDiff,Int.reduceAdd,Int.reduceSub,Int.reduceNeg,Int.reduceMul,Int.reduceToNat,Int.reducePow,Int.reduceLE,Int.reduceLT,Int.reduceEq,Int.reduceNe,reduceIte,reduceCtorEq,ne_eq,not_true_eq_false,not_false_eq_true,imp_self,implies_true,bls,eq_self]
    rw [show (0 : Int) - cmpI (Z.natAbs : Nat) (W.natAbs : Nat) = -cmpI (Z.natAbs : Nat) (W.natAbs : Nat) by omega]
    exact hK _ (e2 _)
end Go.Proofs.Pv

/- The document's answer for whole numbers: its walks, second part. -/
namespace Go.Proofs.Pv
open Go Go.RowKit Go.Proofs
set_option maxRecDepth 20000

theorem s_qAdd : PSpec Tryz.prog 58 (RwTwo (· + ·)) := by
  refine fspec_of (fn := Tryz.f58) 2 [.cell 4 27] (by kernel_rfl) rfl rfl (by kernel_rfl) mixed (by rintro _ _ _ ⟨x, y, s, t, l, m, rfl, _⟩; rfl) ?_
  rintro X _ st K hP hst ⟨x, y, s, t, l, m, rfl, hx, hy, hl, hm, hK⟩
  dsimp only at hK
  have hx1 := hx
  have hy1 := hy
  obtain ⟨a, rfl, ha, hal⟩ := hx.iv
  obtain ⟨b, rfl, hb, hbl⟩ := hy.iv
  refine vc_V ?_
  have b1 := limbs_len ha.lt
  have b2 := limbs_len hb.lt
  simp (disch:=first|assumption|omega|(simp only [lens];omega)) only [eqs,↓gvd_succ,↓gvd_zero,↓and_of,im_of,im_of trivial,vlt,hP,hst,initS,Nat.reduceBEq,Nat.reduceAdd,Nat.reduceMul,Nat.reduceSub,Nat.reduceDiv,Nat.reduceMod,Nat.reducePow,Nat.reduceLT,Nat.reduceLeDiff,Nat.reduceEqDiff,Int.reduceAdd,Int.reduceSub,Int.reduceNeg,Int.reduceMul,Int.reduceToNat,Int.reducePow,Int.reduceLE,Int.reduceLT,Int.reduceEq,Int.reduceNe,reduceIte,reduceCtorEq,ne_eq,not_true_eq_false,not_false_eq_true,imp_self,implies_true,bls,eq_self,hal,hbl]
  refine V_late (s' := (5, AV.junk) :: (6, AV.junk) :: _) [4, 5] [0, 2, 1, 3] [6, 7] hP (by kernel_rfl) (by kernel_rfl) (.cons rfl <| .cons rfl <| .cons rfl <| .cons rfl <| .cons rfl <| .cons rfl <| .cons rfl <| .cons rfl <| .nil) rfl ?_; rw [mask_nil]
  simp (disch:=first|assumption|omega|(simp only [lens];omega)) only [eqs,↓gvd_succ,↓gvd_zero,↓and_of,im_of,im_of trivial,vlt,hP,hst,initS,Nat.reduceBEq,Nat.reduceAdd,Nat.reduceMul,Nat.reduceSub,Nat.reduceDiv,Nat.reduceMod,Nat.reducePow,Nat.reduceLT,Nat.reduceLeDiff,Nat.reduceEqDiff,Int.reduceAdd,Int.reduceSub,Int.reduceNeg,Int.reduceMul,Int.reduceToNat,Int.reducePow,Int.reduceLE,Int.reduceLT,Int.reduceEq,Int.reduceNe,reduceIte,reduceCtorEq,ne_eq,not_true_eq_false,not_false_eq_true,imp_self,implies_true,bls,eq_self]
  refine E_call (hP ▸ s_qNorm) ⟨_, s, l, rfl, hx1.ext (.add _), by omega, fun z T hz => ?_⟩
  simp (disch:=first|assumption|omega|(simp only [lens];omega)) only [eqs,↓gvd_succ,↓gvd_zero,↓and_of,im_of,im_of trivial,vlt,hP,hst,initS,Nat.reduceBEq,Nat.reduceAdd,Nat.reduceMul,Nat.reduceSub,Nat.reduceDiv,Nat.reduceMod,Nat.reducePow,Nat.reduceLT,Nat.reduceLeDiff,Nat.reduceEqDiff,Int.reduceAdd,Int.reduceSub,Int.reduceNeg,Int.reduceMul,Int.reduceToNat,Int.reducePow,Int.reduceLE,Int.reduceLT,Int.reduceEq,Int.reduceNe,reduceIte,reduceCtorEq,ne_eq,not_true_eq_false,not_false_eq_true,imp_self,implies_true,bls,eq_self]
  refine E_call (hP ▸ s_qNorm) ⟨_, t, m, rfl, hy1.ext ((Ext.add _).trans hz.ex), by omega, fun w T2 hw => ?_⟩
  have hz2 := hz.ext hw.ex
  have e0 : Ext st T2 := (Ext.add _).trans hz2.ex
  have hC : At T2 (st.length + 2) [.val (.bool false), .val (.slice none 0 0)] := At.ext ⟨by rw [get_app]; rfl⟩ hz2.ex
  generalize hzz : iv s (val l) = Z at *
  generalize hww : iv t (val m) = W at *
  have c1 : (limbs Z.natAbs).length ≤ 1000 := by rw [← hzz, iv_natAbs]; omega
  have c2 : (limbs W.natAbs).length ≤ 1000 := by rw [← hww, iv_natAbs]; omega
  have c3 := len_add Z.natAbs W.natAbs
  have c4 := len_sub Z.natAbs W.natAbs
  have c5 := len_sub W.natAbs Z.natAbs
  obtain ⟨a', rfl, ha'⟩ := hz2
  obtain ⟨b', rfl, hb'⟩ := hw
  have hal' := ha'.nm.leaf
  have hbl' := hb'.nm.leaf
  have hX1 : X.st1.length ≤ T2.length := by rw [hst]; exact e0.len
  have hX2 : X.st1.length ≤ T2.length + 1 := by omega
  have hX3 : X.st1.length ≤ st.length + 2 := by rw [hst]; omega
  obtain ⟨s', hs'⟩ : ∃ s', decide (Z < 0) = s' := ⟨_, rfl⟩
  obtain ⟨t', ht'⟩ : ∃ t', decide (W < 0) = t' := ⟨_, rfl⟩
  rw [hs', ht']
  have k1 := iv_bool hs'
  have k2 := iv_bool ht'
  have e2 : ∀ y, Ext st (T2 ++ y) := fun y => e0.app y
  have hr2 : st.length + 2 < T2.length := hC.lt
  -- the sum's end, whichever way
  have fin : ∀ (S V : St) (w : AV) (c : Option (List AV)), Ext st S → GotI S V w (Z + W) → st.length + 2 < S.length → K w (V.set (st.length + 2) c) := fun S V w c h1 h2 h3 => hK _ _ (h2.end1 h1 (by omega) h3)
  by_cases hsame : s' = t'
  · subst hsame
    have hsum : Z + W = iv s' (Z.natAbs + W.natAbs) := by conv => lhs; rw [k1, k2, iv_same]
    simp (disch:=first|assumption|omega|(simp only [lens];omega)) only [eqs,↓gvd_succ,↓gvd_zero,↓and_of,im_of,im_of trivial,vlt,hP,hst,initS,Nat.reduceBEq,Nat.reduceAdd,Nat.reduceMul,Nat.reduceSub,Nat.reduceDiv,Nat.reduceMod,Nat.reducePow,Nat.reduceLT,Nat.reduceLeDiff,Nat.reduceEqDiff,Int.reduceAdd,Int.reduceSub,Int.reduceNeg,Int.reduceMul,Int.reduceToNat,Int.reducePow,Int.reduceLE,Int.reduceLT,Int.reduceEq,Int.reduceNe,reduceIte,reduceCtorEq,ne_eq,not_true_eq_false,not_false_eq_true,imp_self,implies_true,bls,eq_self,hal',hbl',beq_self_eq_true]
    refine V_draw [0, 1, 2, 3, 4, 5, 6, 7, 8, 9] (by kernel_rfl) (.cons rfl <| .cons rfl <| .cons rfl <| .cons rfl <| .cons rfl <| .cons rfl <| .cons rfl <| .cons rfl <| .cons rfl <| .cons rfl <| .nil) ?_
    simp (disch:=first|assumption|omega|(simp only [lens];omega)) only [eqs,↓gvd_succ,↓gvd_zero,↓and_of,im_of,im_of trivial,vlt,hP,hst,initS,Nat.reduceBEq,Nat.reduceAdd,Nat.reduceMul,Nat.reduceSub,Nat.reduceDiv,Nat.reduceMod,Nat.reducePow,Nat.reduceLT,Nat.reduceLeDiff,Nat.reduceEqDiff,Int.reduceAdd,Int.reduceSub,Int.reduceNeg,Int.reduceMul,Int.reduceToNat,Int.reducePow,Int.reduceLE,Int.reduceLT,Int.reduceEq,Int.reduceNe,reduceIte,reduceCtorEq,ne_eq,not_true_eq_false,not_false_eq_true,imp_self,implies_true,bls,eq_self]
    refine E_call (hP ▸ s_rAdd) ⟨a', b', _, _, rfl, ha'.nm.app _, hb'.nm.app _, by omega, by omega, fresh_got fun z V hz => ?_⟩
    rw [val_limbs, val_limbs] at hz
    have hzl := hz.nm.leaf
    simp (disch:=first|assumption|omega|(simp only [lens];omega)) only [eqs,↓gvd_succ,↓gvd_zero,↓and_of,im_of,im_of trivial,vlt,hP,hst,initS,Nat.reduceBEq,Nat.reduceAdd,Nat.reduceMul,Nat.reduceSub,Nat.reduceDiv,Nat.reduceMod,Nat.reducePow,Nat.reduceLT,Nat.reduceLeDiff,Nat.reduceEqDiff,Int.reduceAdd,Int.reduceSub,Int.reduceNeg,Int.reduceMul,Int.reduceToNat,Int.reducePow,Int.reduceLE,Int.reduceLT,Int.reduceEq,Int.reduceNe,reduceIte,reduceCtorEq,ne_eq,not_true_eq_false,not_false_eq_true,imp_self,implies_true,bls,eq_self,hzl]
    refine E_call (hP ▸ s_qNorm) ⟨_, s', _, rfl, ⟨_, rfl, hz.nm⟩, by omega, fun w V2 hw2 => ?_⟩
    rw [val_limbs, ← hsum] at hw2
    have hC2 := (hC.ext ((Ext.add _).trans (hz.ex.trans hw2.ex))).get
    have hw3 := hw2
    obtain ⟨c, rfl, hc⟩ := hw2
    have hcl := hc.nm.leaf
    have hlt : st.length + 2 < V2.length := (hC.ext ((Ext.add _).trans (hz.ex.trans hc.ex))).lt
    simp (disch:=first|assumption|omega|(simp only [lens];omega)) only [eqs,↓gvd_succ,↓gvd_zero,↓and_of,im_of,im_of trivial,vlt,hP,hst,initS,Nat.reduceBEq,Nat.reduceAdd,Nat.reduceMul,Nat.reduceSub,Nat.reduceDiv,Nat.reduceMod,Nat.reducePow,Nat.reduceLT,Nat.reduceLeDiff,Nat.reduceEqDiff,Int.reduceAdd,Int.reduceSub,Int.reduceNeg,Int.reduceMul,Int.reduceToNat,Int.reducePow,Int.reduceLE,Int.reduceLT,Int.reduceEq,Int.reduceNe,reduceIte,reduceCtorEq,ne_eq,not_true_eq_false,not_false_eq_true,imp_self,implies_true,bls,eq_self,hcl,hC2]
    refine fin _ _ _ _ ((e2 _).trans hz.ex) hw3 ?_
    exact (hC.ext ((Ext.add _).trans hz.ex)).lt
  · have hne : (s' == t') = false := by simpa using hsame
    simp (disch:=first|assumption|omega|(simp only [lens];omega)) only [eqs,↓gvd_succ,↓gvd_zero,↓and_of,im_of,im_of trivial,vlt,hP,hst,initS,Nat.reduceBEq,Nat.reduceAdd,Nat.reduceMul,Nat.reduceSub,Nat.reduceDiv,Nat.reduceMod,Nat.reducePow,Nat.reduceLT,Nat.reduceLeDiff,Nat.reduceEqDiff,Int.reduceAdd,Int.reduceSub,Int.reduceNeg,Int.reduceMul,Int.reduceToNat,Int.reducePow,Int.reduceLE,Int.reduceLT,Int.reduceEq,Int.reduceNe,reduceIte,reduceCtorEq,ne_eq,not_true_eq_false,not_false_eq_true,imp_self,implies_true,bls,eq_self,hal',hbl',hne]
    refine E_call (hP ▸ s_rCmp) ⟨a', b', _, _, rfl, ha'.nm.app _, hb'.nm.app _, by omega, by omega, ?_⟩
    rw [val_limbs, val_limbs]
    simp (disch:=first|assumption|omega|(simp only [lens];omega)) only [eqs,↓gvd_succ,↓gvd_zero,↓and_of,im_of,im_of trivial,vlt,hP,hst,initS,Nat.reduceBEq,Nat.reduceAdd,Nat.reduceMul,Nat.reduceSub,Nat.reduceDiv,Nat.reduceMod,Nat.reducePow,Nat.reduceLT,Nat.reduceLeDiff,Nat.reduceEqDiff,Int.reduceAdd,Int.reduceSub,Int.reduceNeg,Int.reduceMul,Int.reduceToNat,Int.reducePow,Int.reduceLE,Int.reduceLT,Int.reduceEq,Int.reduceNe,reduceIte,reduceCtorEq,ne_eq,not_true_eq_false,not_false_eq_true,imp_self,implies_true,bls,eq_self,cmpI_lt]
    refine C_dec (fun h2 => ?_) (fun h2 => ?_)
    · have hsum : Z + W = iv t' (W.natAbs - Z.natAbs) := by conv => lhs; rw [k1, k2, iv_lt hsame h2]
      simp (disch:=first|assumption|omega|(simp only [lens];omega)) only [eqs,↓gvd_succ,↓gvd_zero,↓and_of,im_of,im_of trivial,vlt,hP,hst,initS,Nat.reduceBEq,Nat.reduceAdd,Nat.reduceMul,Nat.reduceSub,Nat.reduceDiv,Nat.reduceMod,Nat.reducePow,Nat.reduceLT,Nat.reduceLeDiff,Nat.reduceEqDiff,Int.reduceAdd,Int.reduceSub,Int.reduceNeg,Int.reduceMul,Int.reduceToNat,Int.reducePow,Int.reduceLE,Int.reduceLT,Int.reduceEq,Int.reduceNe,reduceIte,reduceCtorEq,ne_eq,not_true_eq_false,not_false_eq_true,imp_self,implies_true,bls,eq_self,hal',hbl']
      refine V_draw [0, 1, 2, 3, 4, 5, 6, 7, 8, 9] (by kernel_rfl) (.cons rfl <| .cons rfl <| .cons rfl <| .cons rfl <| .cons rfl <| .cons rfl <| .cons rfl <| .cons rfl <| .cons rfl <| .cons rfl <| .nil) ?_
      simp (disch:=first|assumption|omega|(simp only [lens];omega)) only [eqs,↓gvd_succ,↓gvd_zero,↓and_of,im_of,im_of trivial,vlt,hP,hst,initS,Nat.reduceBEq,Nat.reduceAdd,Nat.reduceMul,Nat.reduceSub,Nat.reduceDiv,Nat.reduceMod,Nat.reducePow,Nat.reduceLT,Nat.reduceLeDiff,Nat.reduceEqDiff,Int.reduceAdd,Int.reduceSub,Int.reduceNeg,Int.reduceMul,Int.reduceToNat,Int.reducePow,Int.reduceLE,Int.reduceLT,Int.reduceEq,Int.reduceNe,reduceIte,reduceCtorEq,ne_eq,not_true_eq_false,not_false_eq_true,imp_self,implies_true,bls,eq_self]
      refine E_call (hP ▸ s_rSub) ⟨b', a', _, _, rfl, hb'.nm.app _, ha'.nm.app _, by omega, by omega, fun z V hz => ?_⟩
      rw [val_limbs, val_limbs] at hz
      have hzl := hz.nm.leaf
      simp (disch:=first|assumption|omega|(simp only [lens];omega)) only [eqs,↓gvd_succ,↓gvd_zero,↓and_of,im_of,im_of trivial,vlt,hP,hst,initS,Nat.reduceBEq,Nat.reduceAdd,Nat.reduceMul,Nat.reduceSub,Nat.reduceDiv,Nat.reduceMod,Nat.reducePow,Nat.reduceLT,Nat.reduceLeDiff,Nat.reduceEqDiff,Int.reduceAdd,Int.reduceSub,Int.reduceNeg,Int.reduceMul,Int.reduceToNat,Int.reducePow,Int.reduceLE,Int.reduceLT,Int.reduceEq,Int.reduceNe,reduceIte,reduceCtorEq,ne_eq,not_true_eq_false,not_false_eq_true,imp_self,implies_true,bls,eq_self,hzl]
      refine E_call (hP ▸ s_qNorm) ⟨_, t', _, rfl, ⟨_, rfl, hz.nm⟩, by omega, fun w V2 hw2 => ?_⟩
      rw [val_limbs, ← hsum] at hw2
      have hC2 := (hC.ext ((Ext.add _).trans (hz.ex.trans hw2.ex))).get
      have hw3 := hw2
      obtain ⟨c, rfl, hc⟩ := hw2
      have hcl := hc.nm.leaf
      have hlt : st.length + 2 < V2.length := (hC.ext ((Ext.add _).trans (hz.ex.trans hc.ex))).lt
      simp (disch:=first|assumption|omega|(simp only [lens];omega)) only [eqs,↓gvd_succ,↓gvd_zero,↓and_of,im_of,im_of trivial,vlt,hP,hst,initS,Nat.reduceBEq,Nat.reduceAdd,Nat.reduceMul,Nat.reduceSub,Nat.reduceDiv,Nat.reduceMod,Nat.reducePow,Nat.reduceLT,Nat.reduceLeDiff,Nat.reduceEqDiff,Int.reduceAdd,Int.reduceSub,Int.reduceNeg,Int.reduceMul,Int.reduceToNat,Int.reducePow,Int.reduceLE,Int.reduceLT,Int.reduceEq,Int.reduceNe,reduceIte,reduceCtorEq,ne_eq,not_true_eq_false,not_false_eq_true,imp_self,implies_true,bls,eq_self,hcl,hC2]
      refine fin _ _ _ _ ((e2 _).trans hz.ex) hw3 ?_
      exact (hC.ext ((Ext.add _).trans hz.ex)).lt
    · have hsum : Z + W = iv s' (Z.natAbs - W.natAbs) := by conv => lhs; rw [k1, k2, iv_ge hsame (by omega)]
      simp (disch:=first|assumption|omega|(simp only [lens];omega)) only [eqs,↓gvd_succ,↓gvd_zero,↓and_of,im_of,im_of trivial,vlt,hP,hst,initS,Nat.reduceBEq,Nat.reduceAdd,Nat.reduceMul,Nat.reduceSub,Nat.reduceDiv,Nat.reduceMod,Nat.reducePow,Nat.reduceLT,Nat.reduceLeDiff,Nat.reduceEqDiff,Int.reduceAdd,Int.reduceSub,Int.reduceNeg,Int.reduceMul,Int.reduceToNat,Int.reducePow,Int.reduceLE,Int.reduceLT,Int.reduceEq,Int.reduceNe,reduceIte,reduceCtorEq,ne_eq,not_true_eq_false,not_false_eq_true,imp_self,implies_true,bls,eq_self,hal',hbl']
      refine V_draw [0, 1, 2, 3, 4, 5, 6, 7, 8, 9] (by kernel_rfl) (.cons rfl <| .cons rfl <| .cons rfl <| .cons rfl <| .cons rfl <| .cons rfl <| .cons rfl <| .cons rfl <| .cons rfl <| .cons rfl <| .nil) ?_
      simp (disch:=first|assumption|omega|(simp only [lens];omega)) only [eqs,↓gvd_succ,↓gvd_zero,↓and_of,im_of,im_of trivial,vlt,hP,hst,initS,Nat.reduceBEq,Nat.reduceAdd,Nat.reduceMul,Nat.reduceSub,Nat.reduceDiv,Nat.reduceMod,Nat.reducePow,Nat.reduceLT,Nat.reduceLeDiff,Nat.reduceEqDiff,Int.reduceAdd,Int.reduceSub,Int.reduceNeg,Int.reduceMul,Int.reduceToNat,Int.reducePow,Int.reduceLE,Int.reduceLT,Int.reduceEq,Int.reduceNe,reduceIte,reduceCtorEq,ne_eq,not_true_eq_false,not_false_eq_true,imp_self,implies_true,bls,eq_self]
      refine E_call (hP ▸ s_rSub) ⟨a', b', _, _, rfl, ha'.nm.app _, hb'.nm.app _, by omega, by omega, fun z V hz => ?_⟩
      rw [val_limbs, val_limbs] at hz
      have hzl := hz.nm.leaf
      simp (disch:=first|assumption|omega|(simp only [lens];omega)) only [eqs,↓gvd_succ,↓gvd_zero,↓and_of,im_of,im_of trivial,vlt,hP,hst,initS,Nat.reduceBEq,Nat.reduceAdd,Nat.reduceMul,Nat.reduceSub,Nat.reduceDiv,Nat.reduceMod,Nat.reducePow,Nat.reduceLT,Nat.reduceLeDiff,Nat.reduceEqDiff,Int.reduceAdd,Int.reduceSub,Int.reduceNeg,Int.reduceMul,Int.reduceToNat,Int.reducePow,Int.reduceLE,Int.reduceLT,Int.reduceEq,Int.reduceNe,reduceIte,reduceCtorEq,ne_eq,not_true_eq_false,not_false_eq_true,imp_self,implies_true,bls,eq_self,hzl]
      refine E_call (hP ▸ s_qNorm) ⟨_, s', _, rfl, ⟨_, rfl, hz.nm⟩, by omega, fun w V2 hw2 => ?_⟩
      rw [val_limbs, ← hsum] at hw2
      have hC2 := (hC.ext ((Ext.add _).trans (hz.ex.trans hw2.ex))).get
      have hw3 := hw2
      obtain ⟨c, rfl, hc⟩ := hw2
      have hcl := hc.nm.leaf
      have hlt : st.length + 2 < V2.length := (hC.ext ((Ext.add _).trans (hz.ex.trans hc.ex))).lt
      simp (disch:=first|assumption|omega|(simp only [lens];omega)) only [eqs,↓gvd_succ,↓gvd_zero,↓and_of,im_of,im_of trivial,vlt,hP,hst,initS,Nat.reduceBEq,Nat.reduceAdd,Nat.reduceMul,Nat.reduceSub,Nat.reduceDiv,Nat.reduceMod,Nat.reducePow,Nat.reduceLT,Nat.reduceLeDiff,Nat.reduceEqDiff,Int.reduceAdd,Int.reduceSub,Int.reduceNeg,Int.reduceMul,Int.reduceToNat,Int.reducePow,Int.reduceLE,Int.reduceLT,Int.reduceEq,Int.reduceNe,reduceIte,reduceCtorEq,ne_eq,not_true_eq_false,not_false_eq_true,imp_self,implies_true,bls,eq_self,hcl,hC2]
      refine fin _ _ _ _ ((e2 _).trans hz.ex) hw3 ?_
      exact (hC.ext ((Ext.add _).trans hz.ex)).lt

theorem s_qSub : PSpec Tryz.prog 59 (RwTwo (· - ·)) := by
  refine fspec_of (fn := Tryz.f59) 2 [.cell 4 27] (by kernel_rfl) rfl rfl (by kernel_rfl) mixed (by rintro _ _ _ ⟨x, y, s, t, l, m, rfl, _⟩; rfl) ?_
  rintro X _ st K hP hst ⟨x, y, s, t, l, m, rfl, hx, hy, hl, hm, hK⟩
  dsimp only at hK
  have hx1 := hx
  have hy1 := hy
  obtain ⟨a, rfl, ha, hal⟩ := hx.iv
  obtain ⟨b, rfl, hb, hbl⟩ := hy.iv
  refine vc_V ?_
  have b2 := limbs_len hb.lt
  simp (disch:=first|assumption|omega|(simp only [lens];omega)) only [eqs,↓gvd_succ,↓gvd_zero,↓and_of,im_of,im_of trivial,vlt,hP,hst,initS,Nat.reduceBEq,Nat.reduceAdd,Nat.reduceMul,Nat.reduceSub,Nat.reduceDiv,Nat.reduceMod,Nat.reducePow,Nat.reduceLT,Nat.reduceLeDiff,Nat.reduceEqDiff,Int.reduceAdd,Int.reduceSub,Int.reduceNeg,Int.reduceMul,Int.reduceToNat,Int.reducePow,Int.reduceLE,Int.reduceLT,Int.reduceEq,Int.reduceNe,reduceIte,reduceCtorEq,ne_eq,not_true_eq_false,not_false_eq_true,imp_self,implies_true,bls,eq_self,hal,hbl]
  refine V_draw [0, 1, 2, 3, 4] (by kernel_rfl) (.cons rfl <| .cons rfl <| .cons rfl <| .cons rfl <| .cons rfl <| .nil) ?_
  simp (disch:=first|assumption|omega|(simp only [lens];omega)) only [eqs,↓gvd_succ,↓gvd_zero,↓and_of,im_of,im_of trivial,vlt,hP,hst,initS,Nat.reduceBEq,Nat.reduceAdd,Nat.reduceMul,Nat.reduceSub,Nat.reduceDiv,Nat.reduceMod,Nat.reducePow,Nat.reduceLT,Nat.reduceLeDiff,Nat.reduceEqDiff,Int.reduceAdd,Int.reduceSub,Int.reduceNeg,Int.reduceMul,Int.reduceToNat,Int.reducePow,Int.reduceLE,Int.reduceLT,Int.reduceEq,Int.reduceNe,reduceIte,reduceCtorEq,ne_eq,not_true_eq_false,not_false_eq_true,imp_self,implies_true,bls,eq_self]
  refine E_call (hP ▸ s_qNeg) ⟨_, t, m, rfl, hy1.ext (.add _), by omega, fun z T hz => ?_⟩
  have e1 : iv (decide (-iv t (val m) < 0)) (val (limbs (-iv t (val m)).natAbs)) = -iv t (val m) := iv_limbs _
  have hzw := hz.wh
  rw [show (-iv t (val m)).natAbs = val m by rw [Int.natAbs_neg, iv_natAbs]] at hzw e1
  simp (disch:=first|assumption|omega|(simp only [lens];omega)) only [eqs,↓gvd_succ,↓gvd_zero,↓and_of,im_of,im_of trivial,vlt,hP,hst,initS,Nat.reduceBEq,Nat.reduceAdd,Nat.reduceMul,Nat.reduceSub,Nat.reduceDiv,Nat.reduceMod,Nat.reducePow,Nat.reduceLT,Nat.reduceLeDiff,Nat.reduceEqDiff,Int.reduceAdd,Int.reduceSub,Int.reduceNeg,Int.reduceMul,Int.reduceToNat,Int.reducePow,Int.reduceLE,Int.reduceLT,Int.reduceEq,Int.reduceNe,reduceIte,reduceCtorEq,ne_eq,not_true_eq_false,not_false_eq_true,imp_self,implies_true,bls,eq_self]
  refine E_call (hP ▸ s_qAdd) ⟨_, z, s, _, l, _, rfl, hx1.ext ((Ext.add _).trans hz.ex), hzw, by omega, by omega, fun w T2 hw => ?_⟩
  dsimp only at hw
  rw [e1, ← Int.sub_eq_add_neg] at hw
  replace hw := GotI.pre hz.ex hw
  have hw0 := hw
  obtain ⟨c, rfl, hc⟩ := hw
  have hcl := hc.nm.leaf
  obtain ⟨g, rfl⟩ := hc.ex
  simp (disch:=first|assumption|omega|(simp only [lens];omega)) only [eqs,↓gvd_succ,↓gvd_zero,↓and_of,im_of,im_of trivial,vlt,hP,hst,initS,Nat.reduceBEq,Nat.reduceAdd,Nat.reduceMul,Nat.reduceSub,Nat.reduceDiv,Nat.reduceMod,Nat.reducePow,Nat.reduceLT,Nat.reduceLeDiff,Nat.reduceEqDiff,Int.reduceAdd,Int.reduceSub,Int.reduceNeg,Int.reduceMul,Int.reduceToNat,Int.reducePow,Int.reduceLE,Int.reduceLT,Int.reduceEq,Int.reduceNe,reduceIte,reduceCtorEq,ne_eq,not_true_eq_false,not_false_eq_true,imp_self,implies_true,bls,eq_self,hcl]
  exact hK _ _ (hw0.fin (pre' := [_, _, _]) (by simp))

theorem s_qMul : PSpec Tryz.prog 60 (RwTwo (· * ·)) := by
  refine fspec_of (fn := Tryz.f60) 2 [.cell 4 27] (by kernel_rfl) rfl rfl (by kernel_rfl) mixed (by rintro _ _ _ ⟨x, y, s, t, l, m, rfl, _⟩; rfl) ?_
  rintro X _ st K hP hst ⟨x, y, s, t, l, m, rfl, hx, hy, hl, hm, hK⟩
  dsimp only at hK
  have hx1 := hx
  have hy1 := hy
  obtain ⟨a, rfl, ha, hal⟩ := hx.iv
  obtain ⟨b, rfl, hb, hbl⟩ := hy.iv
  refine vc_V ?_
  have b1 := limbs_len ha.lt
  have b2 := limbs_len hb.lt
  simp (disch:=first|assumption|omega|(simp only [lens];omega)) only [eqs,↓gvd_succ,↓gvd_zero,↓and_of,im_of,im_of trivial,vlt,hP,hst,initS,Nat.reduceBEq,Nat.reduceAdd,Nat.reduceMul,Nat.reduceSub,Nat.reduceDiv,Nat.reduceMod,Nat.reducePow,Nat.reduceLT,Nat.reduceLeDiff,Nat.reduceEqDiff,Int.reduceAdd,Int.reduceSub,Int.reduceNeg,Int.reduceMul,Int.reduceToNat,Int.reducePow,Int.reduceLE,Int.reduceLT,Int.reduceEq,Int.reduceNe,reduceIte,reduceCtorEq,ne_eq,not_true_eq_false,not_false_eq_true,imp_self,implies_true,bls,eq_self,hal,hbl]
  refine V_late (s' := (5, AV.junk) :: (6, AV.junk) :: _) [4, 5] [0, 2, 1, 3] [6, 7] hP (by kernel_rfl) (by kernel_rfl) (.cons rfl <| .cons rfl <| .cons rfl <| .cons rfl <| .cons rfl <| .cons rfl <| .cons rfl <| .cons rfl <| .nil) rfl ?_; rw [mask_nil]
  simp (disch:=first|assumption|omega|(simp only [lens];omega)) only [eqs,↓gvd_succ,↓gvd_zero,↓and_of,im_of,im_of trivial,vlt,hP,hst,initS,Nat.reduceBEq,Nat.reduceAdd,Nat.reduceMul,Nat.reduceSub,Nat.reduceDiv,Nat.reduceMod,Nat.reducePow,Nat.reduceLT,Nat.reduceLeDiff,Nat.reduceEqDiff,Int.reduceAdd,Int.reduceSub,Int.reduceNeg,Int.reduceMul,Int.reduceToNat,Int.reducePow,Int.reduceLE,Int.reduceLT,Int.reduceEq,Int.reduceNe,reduceIte,reduceCtorEq,ne_eq,not_true_eq_false,not_false_eq_true,imp_self,implies_true,bls,eq_self]
  refine E_call (hP ▸ s_qNorm) ⟨_, s, l, rfl, hx1.ext (.add _), by omega, fun z T hz => ?_⟩
  simp (disch:=first|assumption|omega|(simp only [lens];omega)) only [eqs,↓gvd_succ,↓gvd_zero,↓and_of,im_of,im_of trivial,vlt,hP,hst,initS,Nat.reduceBEq,Nat.reduceAdd,Nat.reduceMul,Nat.reduceSub,Nat.reduceDiv,Nat.reduceMod,Nat.reducePow,Nat.reduceLT,Nat.reduceLeDiff,Nat.reduceEqDiff,Int.reduceAdd,Int.reduceSub,Int.reduceNeg,Int.reduceMul,Int.reduceToNat,Int.reducePow,Int.reduceLE,Int.reduceLT,Int.reduceEq,Int.reduceNe,reduceIte,reduceCtorEq,ne_eq,not_true_eq_false,not_false_eq_true,imp_self,implies_true,bls,eq_self]
  refine E_call (hP ▸ s_qNorm) ⟨_, t, m, rfl, hy1.ext ((Ext.add _).trans hz.ex), by omega, fun w T2 hw => ?_⟩
  have hz2 := hz.ext hw.ex
  have e0 : Ext st T2 := (Ext.add _).trans hz2.ex
  have hC : At T2 (st.length + 2) [.val (.bool false), .val (.slice none 0 0)] := At.ext ⟨by rw [get_app]; rfl⟩ hz2.ex
  generalize hzz : iv s (val l) = Z at *
  generalize hww : iv t (val m) = W at *
  have c1 : (limbs Z.natAbs).length ≤ 1000 := by rw [← hzz, iv_natAbs]; omega
  have c2 : (limbs W.natAbs).length ≤ 1000 := by rw [← hww, iv_natAbs]; omega
  have c3 := len_mul Z.natAbs W.natAbs
  obtain ⟨a', rfl, ha'⟩ := hz2
  obtain ⟨b', rfl, hb'⟩ := hw
  have hal' := ha'.nm.leaf
  have hbl' := hb'.nm.leaf
  have hX1 : X.st1.length ≤ T2.length := by rw [hst]; exact e0.len
  have hX2 : X.st1.length ≤ T2.length + 1 := by omega
  have hX3 : X.st1.length ≤ st.length + 2 := by rw [hst]; omega
  have hr2 : st.length + 2 < T2.length := hC.lt
  have hprod : Z * W = iv (decide (Z < 0) != decide (W < 0)) (Z.natAbs * W.natAbs) := by
    have h1 := iv_self Z
    have h2 := iv_self W
    conv => lhs; rw [← h1, ← h2, iv_mul]
  simp (disch:=first|assumption|omega|(simp only [lens];omega)) only [eqs,↓gvd_succ,↓gvd_zero,↓and_of,im_of,im_of trivial,vlt,hP,hst,initS,Nat.reduceBEq,Nat.reduceAdd,Nat.reduceMul,Nat.reduceSub,Nat.reduceDiv,Nat.reduceMod,Nat.reducePow,Nat.reduceLT,Nat.reduceLeDiff,Nat.reduceEqDiff,Int.reduceAdd,Int.reduceSub,Int.reduceNeg,Int.reduceMul,Int.reduceToNat,Int.reducePow,Int.reduceLE,Int.reduceLT,Int.reduceEq,Int.reduceNe,reduceIte,reduceCtorEq,ne_eq,not_true_eq_false,not_false_eq_true,imp_self,implies_true,bls,eq_self,hal',hbl']
  refine V_draw [0, 1, 2, 3, 4, 5, 6, 7, 8, 9, 10, 11, 12] (by kernel_rfl) (.cons rfl <| .cons rfl <| .cons rfl <| .cons rfl <| .cons rfl <| .cons rfl <| .cons rfl <| .cons rfl <| .cons rfl <| .cons rfl <| .cons rfl <| .cons rfl <| .cons rfl <| .nil) ?_
  simp (disch:=first|assumption|omega|(simp only [lens];omega)) only [eqs,↓gvd_succ,↓gvd_zero,↓and_of,im_of,im_of trivial,vlt,hP,hst,initS,Nat.reduceBEq,Nat.reduceAdd,Nat.reduceMul,Nat.reduceSub,Nat.reduceDiv,Nat.reduceMod,Nat.reducePow,Nat.reduceLT,Nat.reduceLeDiff,Nat.reduceEqDiff,Int.reduceAdd,Int.reduceSub,Int.reduceNeg,Int.reduceMul,Int.reduceToNat,Int.reducePow,Int.reduceLE,Int.reduceLT,Int.reduceEq,Int.reduceNe,reduceIte,reduceCtorEq,ne_eq,not_true_eq_false,not_false_eq_true,imp_self,implies_true,bls,eq_self]
  refine E_call (hP ▸ s_rMul) ⟨a', b', _, _, rfl, ha'.nm.app _, hb'.nm.app _, by omega, by omega, fun z V hz => ?_⟩
  rw [val_limbs, val_limbs] at hz
  have hzl := hz.nm.leaf
  simp (disch:=first|assumption|omega|(simp only [lens];omega)) only [eqs,↓gvd_succ,↓gvd_zero,↓and_of,im_of,im_of trivial,vlt,hP,hst,initS,Nat.reduceBEq,Nat.reduceAdd,Nat.reduceMul,Nat.reduceSub,Nat.reduceDiv,Nat.reduceMod,Nat.reducePow,Nat.reduceLT,Nat.reduceLeDiff,Nat.reduceEqDiff,Int.reduceAdd,Int.reduceSub,Int.reduceNeg,Int.reduceMul,Int.reduceToNat,Int.reducePow,Int.reduceLE,Int.reduceLT,Int.reduceEq,Int.reduceNe,reduceIte,reduceCtorEq,ne_eq,not_true_eq_false,not_false_eq_true,imp_self,implies_true,bls,eq_self,hzl]
  refine E_call (hP ▸ s_qNorm) ⟨_, _, _, rfl, ⟨_, rfl, hz.nm⟩, by omega, fun w V2 hw2 => ?_⟩
  rw [val_limbs, ← hprod] at hw2
  have hC2 := (hC.ext ((Ext.add _).trans (hz.ex.trans hw2.ex))).get
  have hw3 := hw2
  obtain ⟨c, rfl, hc⟩ := hw2
  have hcl := hc.nm.leaf
  have hlt : st.length + 2 < V2.length := (hC.ext ((Ext.add _).trans (hz.ex.trans hc.ex))).lt
  simp (disch:=first|assumption|omega|(simp only [lens];omega)) only [eqs,↓gvd_succ,↓gvd_zero,↓and_of,im_of,im_of trivial,vlt,hP,hst,initS,Nat.reduceBEq,Nat.reduceAdd,Nat.reduceMul,Nat.reduceSub,Nat.reduceDiv,Nat.reduceMod,Nat.reducePow,Nat.reduceLT,Nat.reduceLeDiff,Nat.reduceEqDiff,Int.reduceAdd,Int.reduceSub,Int.reduceNeg,Int.reduceMul,Int.reduceToNat,Int.reducePow,Int.reduceLE,Int.reduceLT,Int.reduceEq,Int.reduceNe,reduceIte,reduceCtorEq,ne_eq,not_true_eq_false,not_false_eq_true,imp_self,implies_true,bls,eq_self,hcl,hC2]
  exact hK _ _ (hw3.end1 (((e0.app _).trans hz.ex)) (by omega) (hC.ext ((Ext.add _).trans hz.ex)).lt)
end Go.Proofs.Pv
