/- The document's primitives: what is told, which are plain. -/
import Derived.Test.YtmclabehpfpnnaaGreatDoorP9
import Derived.Test.YtmclabehpfpnnaaGreatDoorQ3
import Derived.Test.YtmclabehpfpnnaaGreatDoorE23
set_option linter.unusedSimpArgs false
set_option linter.unusedVariables false
namespace Go.Proofs.Pv
open Go Go.RowKit Go.Proofs
set_option maxRecDepth 20000

theorem s_truth9 : PSpec Tryz.prog 31 RTruth := by
  refine fspec_of (fn := Tryz.f31) 1 [.cell 2 29] (by kernel_rfl) rfl rfl (by kernel_rfl) mixed (by rintro _ _ _ ⟨b, rfl, _⟩; rfl) ?_
  rintro X _ st K hP hst ⟨b, rfl, hK⟩
  have hX : X.st1.length ≤ st.length := by rw [hst]; omega
  refine vc_V ?_
  simp (disch:=first|assumption|omega|(simp only [lens];omega)) only [eqs,↓gvd_succ,↓gvd_zero,↓and_of,im_of,im_of trivial,vlt,hP,hst,initS,Nat.reduceBEq,Nat.reduceAdd,Nat.reduceMul,Nat.reduceSub,Nat.reduceDiv,Nat.reduceMod,Nat.reducePow,Nat.reduceLT,Nat.reduceLeDiff,Nat.reduceEqDiff,Int.reduceAdd,Int.reduceSub,Int.reduceNeg,Int.reduceMul,Int.reduceToNat,Int.reducePow,Int.reduceLE,Int.reduceLT,Int.reduceEq,Int.reduceNe,reduceIte,reduceCtorEq,ne_eq,not_true_eq_false,not_false_eq_true,imp_self,implies_true,bls,eq_self,hX,zD_map]
  exact hK _ _ (.add _) (DA0.mk Nm.nil)
def RNum9 (xs : List AV) (st : St) (K : AV → St → Prop) : Prop := ∃ x z n, xs = [x] ∧ NZ st x z n ∧ tell2 st (toldM z).1 (toldM z).2 K
theorem s_number9 : PSpec Tryz.prog 35 RNum9 := by
  refine fspec_of (fn := Tryz.f35) 1 [.cell 2 29, .tmp 3] (by kernel_rfl) rfl rfl (by kernel_rfl) mixed (by rintro _ _ _ ⟨x, z, n, rfl, _⟩; rfl) ?_
  rintro X _ st K hP hst ⟨x, z, n, rfl, hx, hK⟩
  have hX : X.st1.length ≤ st.length := by rw [hst]; omega
  have hX1 : X.st1.length ≤ st.length + 1 := by omega
  obtain ⟨a, rfl, ha⟩ := hx.1
  have la := ha.leaf
  have hs := (ha.ext (Ext.add [some [.val (.bool (decide (z < 0))), a], some [.val (.int .i64 0), .val (.bool false), .val (.slice none 0 0), .val (.bool false), .val (.string ⟨#[]⟩), .val (.slice none 0 0), .val (.slice none 0 0)]])).sl
  unfold toldM at hK
  refine vc_V ?_
  simp (disch:=first|assumption|omega|(simp only [lens];omega)) only [eqs,↓gvd_succ,↓gvd_zero,↓and_of,im_of,im_of trivial,vlt,hP,hst,initS,Nat.reduceBEq,Nat.reduceAdd,Nat.reduceMul,Nat.reduceSub,Nat.reduceDiv,Nat.reduceMod,Nat.reducePow,Nat.reduceLT,Nat.reduceLeDiff,Nat.reduceEqDiff,Int.reduceAdd,Int.reduceSub,Int.reduceNeg,Int.reduceMul,Int.reduceToNat,Int.reducePow,Int.reduceLE,Int.reduceLT,Int.reduceEq,Int.reduceNe,reduceIte,reduceCtorEq,ne_eq,not_true_eq_false,not_false_eq_true,imp_self,implies_true,bls,eq_self,la,zD_map,hs]
  refine fun _ => ?_
  refine C_dec (fun h3 => ?_) (fun h3 => ?_)
  · rw [if_pos (by omega)] at hK
    simp (disch:=first|assumption|omega|(simp only [lens];omega)) only [eqs,↓gvd_succ,↓gvd_zero,↓and_of,im_of,im_of trivial,vlt,hP,hst,initS,Nat.reduceBEq,Nat.reduceAdd,Nat.reduceMul,Nat.reduceSub,Nat.reduceDiv,Nat.reduceMod,Nat.reducePow,Nat.reduceLT,Nat.reduceLeDiff,Nat.reduceEqDiff,Int.reduceAdd,Int.reduceSub,Int.reduceNeg,Int.reduceMul,Int.reduceToNat,Int.reducePow,Int.reduceLE,Int.reduceLT,Int.reduceEq,Int.reduceNe,reduceIte,reduceCtorEq,ne_eq,not_true_eq_false,not_false_eq_true,imp_self,implies_true,bls,eq_self,zD_map,hX1]
    exact hK _ _ (.add _) (DA0.mk Nm.nil)
  · rw [if_neg (by omega)] at hK
    simp (disch:=first|assumption|omega|(simp only [lens];omega)) only [eqs,↓gvd_succ,↓gvd_zero,↓and_of,im_of,im_of trivial,vlt,hP,hst,initS,Nat.reduceBEq,Nat.reduceAdd,Nat.reduceMul,Nat.reduceSub,Nat.reduceDiv,Nat.reduceMod,Nat.reducePow,Nat.reduceLT,Nat.reduceLeDiff,Nat.reduceEqDiff,Int.reduceAdd,Int.reduceSub,Int.reduceNeg,Int.reduceMul,Int.reduceToNat,Int.reducePow,Int.reduceLE,Int.reduceLT,Int.reduceEq,Int.reduceNe,reduceIte,reduceCtorEq,ne_eq,not_true_eq_false,not_false_eq_true,imp_self,implies_true,bls,eq_self,zD_map,hX1,la]
    exact hK _ _ (.add _) (DA0.mk (ha.ext (.add _)))
theorem s_plain9 : PSpec Tryz.prog 12 RPlain := by
  refine fspec_of (fn := Tryz.f12) 1 [.tmp 2] (by kernel_rfl) rfl rfl (by kernel_rfl) mixed (by rintro _ _ _ ⟨p, rfl, _⟩; rfl) ?_
  rintro X _ st K hP hst ⟨p, rfl, hK⟩
  have yes : (1 ≤ p ∧ p ≤ 8) ∨ (14 ≤ p ∧ p ≤ 19) ∨ (21 ≤ p ∧ p ≤ 27) → K (.val (.bool true)) st := fun h => by rwa [show plainM p = true from decide_eq_true h] at hK
  have no : ¬((1 ≤ p ∧ p ≤ 8) ∨ (14 ≤ p ∧ p ≤ 19) ∨ (21 ≤ p ∧ p ≤ 27)) → K (.val (.bool false)) st := fun h => by rwa [show plainM p = false from decide_eq_false h] at hK
  clear hK
  refine vc_V ?_
  by_cases a1 : 1 ≤ p
  · by_cases a2 : p ≤ 8
    · simp (disch:=first|assumption|omega|(simp only [lens];omega)) only [eqs,↓gvd_succ,↓gvd_zero,↓and_of,im_of,im_of trivial,vlt,hP,hst,initS,Nat.reduceBEq,Nat.reduceAdd,Nat.reduceMul,Nat.reduceSub,Nat.reduceDiv,Nat.reduceMod,Nat.reducePow,Nat.reduceLT,Nat.reduceLeDiff,Nat.reduceEqDiff,Int.reduceAdd,Int.reduceSub,Int.reduceNeg,Int.reduceMul,Int.reduceToNat,Int.reducePow,Int.reduceLE,Int.reduceLT,Int.reduceEq,Int.reduceNe,reduceIte,reduceCtorEq,ne_eq,not_true_eq_false,not_false_eq_true,imp_self,implies_true,bls,eq_self,a1,a2]
      exact yes (by omega)
    · by_cases a3 : 14 ≤ p
      · by_cases a4 : p ≤ 22
        · by_cases a5 : p = 20
          · subst a5
            simp (disch:=first|assumption|omega|(simp only [lens];omega)) only [eqs,↓gvd_succ,↓gvd_zero,↓and_of,im_of,im_of trivial,vlt,hP,hst,initS,Nat.reduceBEq,Nat.reduceAdd,Nat.reduceMul,Nat.reduceSub,Nat.reduceDiv,Nat.reduceMod,Nat.reducePow,Nat.reduceLT,Nat.reduceLeDiff,Nat.reduceEqDiff,Int.reduceAdd,Int.reduceSub,Int.reduceNeg,Int.reduceMul,Int.reduceToNat,Int.reducePow,Int.reduceLE,Int.reduceLT,Int.reduceEq,Int.reduceNe,reduceIte,reduceCtorEq,ne_eq,not_true_eq_false,not_false_eq_true,imp_self,implies_true,bls,eq_self]
            exact no (by omega)
          · simp (disch:=first|assumption|omega|(simp only [lens];omega)) only [eqs,↓gvd_succ,↓gvd_zero,↓and_of,im_of,im_of trivial,vlt,hP,hst,initS,Nat.reduceBEq,Nat.reduceAdd,Nat.reduceMul,Nat.reduceSub,Nat.reduceDiv,Nat.reduceMod,Nat.reducePow,Nat.reduceLT,Nat.reduceLeDiff,Nat.reduceEqDiff,Int.reduceAdd,Int.reduceSub,Int.reduceNeg,Int.reduceMul,Int.reduceToNat,Int.reducePow,Int.reduceLE,Int.reduceLT,Int.reduceEq,Int.reduceNe,reduceIte,reduceCtorEq,ne_eq,not_true_eq_false,not_false_eq_true,imp_self,implies_true,bls,eq_self,a1,a2,a3,a4,a5]
            exact yes (by omega)
        · have a6 : 23 ≤ p := by omega
          by_cases a7 : p ≤ 27
          · simp (disch:=first|assumption|omega|(simp only [lens];omega)) only [eqs,↓gvd_succ,↓gvd_zero,↓and_of,im_of,im_of trivial,vlt,hP,hst,initS,Nat.reduceBEq,Nat.reduceAdd,Nat.reduceMul,Nat.reduceSub,Nat.reduceDiv,Nat.reduceMod,Nat.reducePow,Nat.reduceLT,Nat.reduceLeDiff,Nat.reduceEqDiff,Int.reduceAdd,Int.reduceSub,Int.reduceNeg,Int.reduceMul,Int.reduceToNat,Int.reducePow,Int.reduceLE,Int.reduceLT,Int.reduceEq,Int.reduceNe,reduceIte,reduceCtorEq,ne_eq,not_true_eq_false,not_false_eq_true,imp_self,implies_true,bls,eq_self,a1,a2,a3,a4,a6,a7]
            exact yes (by omega)
          · simp (disch:=first|assumption|omega|(simp only [lens];omega)) only [eqs,↓gvd_succ,↓gvd_zero,↓and_of,im_of,im_of trivial,vlt,hP,hst,initS,Nat.reduceBEq,Nat.reduceAdd,Nat.reduceMul,Nat.reduceSub,Nat.reduceDiv,Nat.reduceMod,Nat.reducePow,Nat.reduceLT,Nat.reduceLeDiff,Nat.reduceEqDiff,Int.reduceAdd,Int.reduceSub,Int.reduceNeg,Int.reduceMul,Int.reduceToNat,Int.reducePow,Int.reduceLE,Int.reduceLT,Int.reduceEq,Int.reduceNe,reduceIte,reduceCtorEq,ne_eq,not_true_eq_false,not_false_eq_true,imp_self,implies_true,bls,eq_self,a1,a2,a3,a4,a6,a7]
            exact no (by omega)
      · have a6 : ¬23 ≤ p := by omega
        simp (disch:=first|assumption|omega|(simp only [lens];omega)) only [eqs,↓gvd_succ,↓gvd_zero,↓and_of,im_of,im_of trivial,vlt,hP,hst,initS,Nat.reduceBEq,Nat.reduceAdd,Nat.reduceMul,Nat.reduceSub,Nat.reduceDiv,Nat.reduceMod,Nat.reducePow,Nat.reduceLT,Nat.reduceLeDiff,Nat.reduceEqDiff,Int.reduceAdd,Int.reduceSub,Int.reduceNeg,Int.reduceMul,Int.reduceToNat,Int.reducePow,Int.reduceLE,Int.reduceLT,Int.reduceEq,Int.reduceNe,reduceIte,reduceCtorEq,ne_eq,not_true_eq_false,not_false_eq_true,imp_self,implies_true,bls,eq_self,a1,a2,a3,a6]
        exact no (by omega)
  · have a3 : ¬14 ≤ p := by omega
    have a6 : ¬23 ≤ p := by omega
    simp (disch:=first|assumption|omega|(simp only [lens];omega)) only [eqs,↓gvd_succ,↓gvd_zero,↓and_of,im_of,im_of trivial,vlt,hP,hst,initS,Nat.reduceBEq,Nat.reduceAdd,Nat.reduceMul,Nat.reduceSub,Nat.reduceDiv,Nat.reduceMod,Nat.reducePow,Nat.reduceLT,Nat.reduceLeDiff,Nat.reduceEqDiff,Int.reduceAdd,Int.reduceSub,Int.reduceNeg,Int.reduceMul,Int.reduceToNat,Int.reducePow,Int.reduceLE,Int.reduceLT,Int.reduceEq,Int.reduceNe,reduceIte,reduceCtorEq,ne_eq,not_true_eq_false,not_false_eq_true,imp_self,implies_true,bls,eq_self,a1,a3,a6]
    exact no (by omega)
end Go.Proofs.Pv

/- The document's reckoning. -/
namespace Go.Proofs.Pv
open Go Go.RowKit Go.Proofs
set_option maxRecDepth 20000

theorem z_qCmp : PSpec Tryz.prog 61 RzCmp := s_qCmp.imp2 fun xs st K ⟨x, y, z, w, n, m, e, hx, hy, hn, hm, hK⟩ => by
  obtain ⟨s, l, hx, rfl, h3⟩ := hx
  obtain ⟨t, k, hy, rfl, h4⟩ := hy
  exact ⟨x, y, s, t, l, k, e, hx, hy, by omega, by omega, hK⟩
theorem z_qQuo : PSpec Tryz.prog 62 (RzQuo Int.tdiv Int.tmod) := quo_z s_qQuo (fun _ _ _ h => Nat.le_trans (zlen_tdiv h) (by omega)) (fun _ _ _ hb h => zlen_tmod hb h)
theorem z_qFloor : PSpec Tryz.prog 63 (RzQuo fq fr) := quo_z s_qFloor (fun _ _ _ h => zlen_fq h) (fun _ _ _ hb h => zlen_fr hb h)
theorem Nm.no32 {st : St} {x : AV} {l : List Nat} (h : Nm st x l) {b : Bool} : ∀ y ∈ [AV.val (.bool b), x], ∀ n, y ≠ .val (.int .u32 n) := by
  intro y hy n h2
  subst h2
  simp only [List.mem_cons, List.not_mem_nil, or_false, reduceCtorEq, false_or] at hy
  rcases sl_cases h.sl with ⟨h3, _⟩ | ⟨_, _, _, h3, _⟩ | ⟨h3, _⟩ <;> rw [h3] at hy <;> simp at hy
def reckM (p : Int) (d e : Dt) : Dt × Int := if d.kd = 1 ∧ e.kd = 1 then numM p d.iv e.iv else (dNil, 6)
def RReck (xs : List AV) (st : St) (K : AV → St → Prop) : Prop := ∃ p x y d e, xs = [.val (.int .i64 p), x, y] ∧ 1 ≤ p ∧ p ≤ 8 ∧ DA st x d ∧ DA st y e ∧ d.lm.length ≤ 400 ∧ e.lm.length ≤ 400 ∧ tell2 st (reckM p d e).1 (reckM p d e).2 K
set_option maxHeartbeats 4000000 in
theorem s_reckon : PSpec Tryz.prog 30 RReck := by
  refine fspec_of (fn := Tryz.f30) 3 [.cell 6 29, .tmp 7] (by kernel_rfl) rfl rfl (by kernel_rfl) mixed (by rintro _ _ _ ⟨p, x, y, d, e, rfl, _⟩; rfl) ?_
  rintro X _ st K hP hst ⟨p, x, y, d, e, rfl, p0, p8, hx, hy, hn, hm, hK⟩
  have hX : X.st1.length ≤ st.length := by rw [hst]; omega
  have hX2 : X.st1.length ≤ st.length + 2 := by omega
  obtain ⟨k, g, a, l, i1, i2, i3, i4, its, tls, rfl, rfl, ha, hi3, hi4⟩ := hx.inv
  obtain ⟨k', g', b, m, j1, j2, j3, j4, its', tls', rfl, rfl, hb, hj3, hj4⟩ := hy.inv
  have la := ha.leaf
  have lb := hb.leaf
  have q3 := hi3.leaf
  have q4 := hi4.leaf
  have r3 := hj3.leaf
  have r4 := hj4.leaf
  refine vc_V ?_
  simp (disch:=first|assumption|omega|(simp only [lens];omega)) only [eqs,↓gvd_succ,↓gvd_zero,↓and_of,im_of,im_of trivial,vlt,hP,hst,initS,Nat.reduceBEq,Nat.reduceAdd,Nat.reduceMul,Nat.reduceSub,Nat.reduceDiv,Nat.reduceMod,Nat.reducePow,Nat.reduceLT,Nat.reduceLeDiff,Nat.reduceEqDiff,Int.reduceAdd,Int.reduceSub,Int.reduceNeg,Int.reduceMul,Int.reduceToNat,Int.reducePow,Int.reduceLE,Int.reduceLT,Int.reduceEq,Int.reduceNe,reduceIte,reduceCtorEq,ne_eq,not_true_eq_false,not_false_eq_true,imp_self,implies_true,bls,eq_self,la,lb,q3,q4,r3,r4,zD_map]
  obtain ⟨T0, hT0⟩ : ∃ T, st ++ [some [.val (.int .i64 k), .val (.bool g), a, .val (.bool i1), .val (.string i2), i3, i4], some [.val (.int .i64 k'), .val (.bool g'), b, .val (.bool j1), .val (.string j2), j3, j4], some [.val (.int .i64 0), .val (.bool false), .val (.slice none 0 0), .val (.bool false), .val (.string ⟨#[]⟩), .val (.slice none 0 0), .val (.slice none 0 0)]] = T := ⟨_, rfl⟩
  have gA : At T0 st.length _ := hT0 ▸ At.mk0
  have gB : At T0 (st.length + 1) _ := hT0 ▸ At.mk1
  have gC : At T0 (st.length + 2) _ := hT0 ▸ At.mk2
  have e0 : Ext st T0 := ⟨_, hT0.symm⟩
  try rw [hT0]
  clear hT0
  have gA0 := gA.get
  have gB0 := gB.get
  have gC0 := gC.get
  have gC1 := gC.lt
  have nope : ∀ T, Ext T0 T → reckM p (.mk k g l i1 i2 its tls) (.mk k' g' m j1 j2 its' tls') = (dNil, 6) → K (.tup [.agg [.val (.int .i64 0), .val (.bool false), .val (.slice none 0 0), .val (.bool false), .val (.string ⟨#[]⟩), .val (.slice none 0 0), .val (.slice none 0 0)], .val (.int .i64 6)]) (T.set (st.length + 2) (some [.val (.int .i64 0), .val (.bool false), .val (.slice none 0 0), .val (.bool false), .val (.string ⟨#[]⟩), .val (.slice none 0 0), .val (.slice none 0 0)])) := fun T hT hE => by
    rw [hE] at hK
    exact hK _ _ ((e0.trans hT).set (by omega) _) (DA0.mk Nm.nil)
  refine G_ndec (fun q1 => ?_) (fun q1 => ?_)
  rotate_left
  · simp (disch:=first|assumption|omega|(simp only [lens];omega)) only [eqs,↓gvd_succ,↓gvd_zero,↓and_of,im_of,im_of trivial,vlt,hP,hst,initS,Nat.reduceBEq,Nat.reduceAdd,Nat.reduceMul,Nat.reduceSub,Nat.reduceDiv,Nat.reduceMod,Nat.reducePow,Nat.reduceLT,Nat.reduceLeDiff,Nat.reduceEqDiff,Int.reduceAdd,Int.reduceSub,Int.reduceNeg,Int.reduceMul,Int.reduceToNat,Int.reducePow,Int.reduceLE,Int.reduceLT,Int.reduceEq,Int.reduceNe,reduceIte,reduceCtorEq,ne_eq,not_true_eq_false,not_false_eq_true,imp_self,implies_true,bls,eq_self,q1,gC0,gC1,hX2,zD_map]
    exact nope _ .refl (if_neg fun h => q1 h.1)
  have q1 := Classical.not_not.1 q1
  simp (disch:=first|assumption|omega|(simp only [lens];omega)) only [eqs,↓gvd_succ,↓gvd_zero,↓and_of,im_of,im_of trivial,vlt,hP,hst,initS,Nat.reduceBEq,Nat.reduceAdd,Nat.reduceMul,Nat.reduceSub,Nat.reduceDiv,Nat.reduceMod,Nat.reducePow,Nat.reduceLT,Nat.reduceLeDiff,Nat.reduceEqDiff,Int.reduceAdd,Int.reduceSub,Int.reduceNeg,Int.reduceMul,Int.reduceToNat,Int.reducePow,Int.reduceLE,Int.reduceLT,Int.reduceEq,Int.reduceNe,reduceIte,reduceCtorEq,ne_eq,not_true_eq_false,not_false_eq_true,imp_self,implies_true,bls,eq_self,q1,gB0]
  refine C_dec (fun q2 => ?_) (fun q2 => ?_)
  · simp (disch:=first|assumption|omega|(simp only [lens];omega)) only [eqs,↓gvd_succ,↓gvd_zero,↓and_of,im_of,im_of trivial,vlt,hP,hst,initS,Nat.reduceBEq,Nat.reduceAdd,Nat.reduceMul,Nat.reduceSub,Nat.reduceDiv,Nat.reduceMod,Nat.reducePow,Nat.reduceLT,Nat.reduceLeDiff,Nat.reduceEqDiff,Int.reduceAdd,Int.reduceSub,Int.reduceNeg,Int.reduceMul,Int.reduceToNat,Int.reducePow,Int.reduceLE,Int.reduceLT,Int.reduceEq,Int.reduceNe,reduceIte,reduceCtorEq,ne_eq,not_true_eq_false,not_false_eq_true,imp_self,implies_true,bls,eq_self,gC0,gC1,hX2,zD_map]
    exact nope _ .refl (if_neg fun h => q2 h.2)
  have q2 := Classical.not_not.1 q2
  subst q1
  subst q2
  clear nope
  have hK : tell2 st (numM p (iv g (val l)) (iv g' (val m))).1 (numM p (iv g (val l)) (iv g' (val m))).2 K := by
    rw [show reckM p (.mk 1 g l i1 i2 its tls) (.mk 1 g' m j1 j2 its' tls') = numM p (iv g (val l)) (iv g' (val m)) from if_pos ⟨rfl, rfl⟩] at hK
    exact hK
  have hn : l.length ≤ 400 := hn
  have hm : m.length ≤ 400 := hm
  obtain ⟨z, hz⟩ : ∃ z, iv g (val l) = z := ⟨_, rfl⟩
  obtain ⟨u, hu⟩ : ∃ u, iv g' (val m) = u := ⟨_, rfl⟩
  rw [hz, hu] at hK
  have fin : ∀ (v : AV) (T : St) (e : Int), Ext T0 T → (numM p z u).2 = e → DA0 T v (numM p z u).1 → ∃ c, v = .agg c ∧ c.all leaf = true ∧ c.length = 7 ∧ List.take 7 c = c ∧ K (.tup [.agg c, .val (.int .i64 e)]) (T.set (st.length + 2) (some c)) := by
    rintro v T e hT rfl hv
    obtain ⟨c, hc1, hc2, hc3, hc4, hc5⟩ := hv.da.all
    have hv2 := hv.setz (c' := c) (gC.ext hT) no32
    exact ⟨c, hc1, hc4, hc3, hc5, by rw [← hc1]; exact hK _ _ ((e0.trans hT).set (by omega) _) hv2⟩
  simp (disch:=first|assumption|omega|(simp only [lens];omega)) only [eqs,↓gvd_succ,↓gvd_zero,↓and_of,im_of,im_of trivial,vlt,hP,hst,initS,Nat.reduceBEq,Nat.reduceAdd,Nat.reduceMul,Nat.reduceSub,Nat.reduceDiv,Nat.reduceMod,Nat.reducePow,Nat.reduceLT,Nat.reduceLeDiff,Nat.reduceEqDiff,Int.reduceAdd,Int.reduceSub,Int.reduceNeg,Int.reduceMul,Int.reduceToNat,Int.reducePow,Int.reduceLE,Int.reduceLT,Int.reduceEq,Int.reduceNe,reduceIte,reduceCtorEq,ne_eq,not_true_eq_false,not_false_eq_true,imp_self,implies_true,bls,eq_self]
  refine V_late (s' := (8, AV.junk) :: (9, AV.junk) :: _) [6, 7] [0, 1, 3, 4, 2, 5] [8, 9] hP (by kernel_rfl) (by kernel_rfl) (.cons rfl <| .cons rfl <| .cons rfl <| .cons rfl <| .cons rfl <| .cons rfl <| .cons rfl <| .cons rfl <| .cons rfl <| .cons rfl <| .nil) rfl ?_; rw [mask_nil]
  simp (disch:=first|assumption|omega|(simp only [lens];omega)) only [eqs,↓gvd_succ,↓gvd_zero,↓and_of,im_of,im_of trivial,vlt,hP,hst,initS,Nat.reduceBEq,Nat.reduceAdd,Nat.reduceMul,Nat.reduceSub,Nat.reduceDiv,Nat.reduceMod,Nat.reducePow,Nat.reduceLT,Nat.reduceLeDiff,Nat.reduceEqDiff,Int.reduceAdd,Int.reduceSub,Int.reduceNeg,Int.reduceMul,Int.reduceToNat,Int.reducePow,Int.reduceLE,Int.reduceLT,Int.reduceEq,Int.reduceNe,reduceIte,reduceCtorEq,ne_eq,not_true_eq_false,not_false_eq_true,imp_self,implies_true,bls,eq_self,gA0,gB0,la,lb]
  refine E_call (hP ▸ s_qNorm) ⟨_, g, l, rfl, ⟨a, rfl, ha.ext e0⟩, by omega, fun v1 T1 hv1 => ?_⟩
  have e1 := hv1.ex
  rw [hz] at hv1
  have hv3 := hv1
  obtain ⟨c1, rfl, hc1⟩ := hv1
  have l1 := hc1.nm.leaf
  simp (disch:=first|assumption|omega|(simp only [lens];omega)) only [eqs,↓gvd_succ,↓gvd_zero,↓and_of,im_of,im_of trivial,vlt,hP,hst,initS,Nat.reduceBEq,Nat.reduceAdd,Nat.reduceMul,Nat.reduceSub,Nat.reduceDiv,Nat.reduceMod,Nat.reducePow,Nat.reduceLT,Nat.reduceLeDiff,Nat.reduceEqDiff,Int.reduceAdd,Int.reduceSub,Int.reduceNeg,Int.reduceMul,Int.reduceToNat,Int.reducePow,Int.reduceLE,Int.reduceLT,Int.reduceEq,Int.reduceNe,reduceIte,reduceCtorEq,ne_eq,not_true_eq_false,not_false_eq_true,imp_self,implies_true,bls,eq_self,l1]
  refine E_call (hP ▸ s_qNorm) ⟨_, g', m, rfl, ⟨b, rfl, hb.ext (e0.trans e1)⟩, by omega, fun v2 T2 hv2 => ?_⟩
  have e2 := hv2.ex
  rw [hu] at hv2
  have hv4 := hv2
  obtain ⟨c2, rfl, hc2⟩ := hv2
  have l2 := hc2.nm.leaf
  have x2 := Nat.le_trans hX ((e0.trans e1).trans e2).len
  have x2b : X.st1.length ≤ T2.length + 1 := by omega
  simp (disch:=first|assumption|omega|(simp only [lens];omega)) only [eqs,↓gvd_succ,↓gvd_zero,↓and_of,im_of,im_of trivial,vlt,hP,hst,initS,Nat.reduceBEq,Nat.reduceAdd,Nat.reduceMul,Nat.reduceSub,Nat.reduceDiv,Nat.reduceMod,Nat.reducePow,Nat.reduceLT,Nat.reduceLeDiff,Nat.reduceEqDiff,Int.reduceAdd,Int.reduceSub,Int.reduceNeg,Int.reduceMul,Int.reduceToNat,Int.reducePow,Int.reduceLE,Int.reduceLT,Int.reduceEq,Int.reduceNe,reduceIte,reduceCtorEq,ne_eq,not_true_eq_false,not_false_eq_true,imp_self,implies_true,bls,eq_self,l1,l2,x2,x2b]
  obtain ⟨T3, hT3⟩ : ∃ T, T2 ++ [some [.val (.bool (decide (z < 0))), c1], some [.val (.bool (decide (u < 0))), c2]] = T := ⟨_, rfl⟩
  have atX : At T3 T2.length _ := hT3 ▸ At.mk0
  have atY : At T3 (T2.length + 1) _ := hT3 ▸ At.mk1
  have e3 : Ext T2 T3 := ⟨_, hT3.symm⟩
  rw [hT3]
  clear hT3
  have gX := atX.get
  have gY := atY.get
  have eT : Ext T0 T3 := e1.trans (e2.trans e3)
  have lz : (limbs z.natAbs).length ≤ 400 := by rw [← hz, iv_natAbs]; exact Nat.le_trans (limbs_len ha.lt) hn
  have lu : (limbs u.natAbs).length ≤ 400 := by rw [← hu, iv_natAbs]; exact Nat.le_trans (limbs_len hb.lt) hm
  have zx := ((NZ.mk hv3 lz).ext (e2.trans e3)).toZ
  have zy := ((NZ.mk hv4 lu).ext e3).toZ
  refine C_dec (fun p1 => ?_) (fun p1 => ?_)
  · simp (disch:=first|assumption|omega|(simp only [lens];omega)) only [eqs,↓gvd_succ,↓gvd_zero,↓and_of,im_of,im_of trivial,vlt,hP,hst,initS,Nat.reduceBEq,Nat.reduceAdd,Nat.reduceMul,Nat.reduceSub,Nat.reduceDiv,Nat.reduceMod,Nat.reducePow,Nat.reduceLT,Nat.reduceLeDiff,Nat.reduceEqDiff,Int.reduceAdd,Int.reduceSub,Int.reduceNeg,Int.reduceMul,Int.reduceToNat,Int.reducePow,Int.reduceLE,Int.reduceLT,Int.reduceEq,Int.reduceNe,reduceIte,reduceCtorEq,ne_eq,not_true_eq_false,not_false_eq_true,imp_self,implies_true,bls,eq_self,gX,gY]
    refine E_call (hP ▸ z_qAdd) ⟨_, _, _, _, _, _, rfl, zx, zy, by omega, by omega, fun v T4 e4 hv5 => ?_⟩
    dsimp only at hv5
    simp (disch:=first|assumption|omega|(simp only [lens];omega)) only [eqs,↓gvd_succ,↓gvd_zero,↓and_of,im_of,im_of trivial,vlt,hP,hst,initS,Nat.reduceBEq,Nat.reduceAdd,Nat.reduceMul,Nat.reduceSub,Nat.reduceDiv,Nat.reduceMod,Nat.reducePow,Nat.reduceLT,Nat.reduceLeDiff,Nat.reduceEqDiff,Int.reduceAdd,Int.reduceSub,Int.reduceNeg,Int.reduceMul,Int.reduceToNat,Int.reducePow,Int.reduceLE,Int.reduceLT,Int.reduceEq,Int.reduceNe,reduceIte,reduceCtorEq,ne_eq,not_true_eq_false,not_false_eq_true,imp_self,implies_true,bls,eq_self]
    refine E_call (hP ▸ s_number9) ⟨_, _, _, rfl, hv5, fun v T6 e6 hv6 => ?_⟩
    have hE : numM p z u = toldM (z + u) := by rw [p1]; rfl
    rw [← hE] at hv6 ⊢
    obtain ⟨c, rfl, hc1, hc2, hc3, hc⟩ := fin v T6 _ (eT.trans (e4.trans e6)) rfl hv6
    have gD := (gC.ext (eT.trans (e4.trans e6))).get
    have gE := (gC.ext (eT.trans (e4.trans e6))).lt
    simp (disch:=first|assumption|omega|(simp only [lens];omega)) only [eqs,↓gvd_succ,↓gvd_zero,↓and_of,im_of,im_of trivial,vlt,hP,hst,initS,Nat.reduceBEq,Nat.reduceAdd,Nat.reduceMul,Nat.reduceSub,Nat.reduceDiv,Nat.reduceMod,Nat.reducePow,Nat.reduceLT,Nat.reduceLeDiff,Nat.reduceEqDiff,Int.reduceAdd,Int.reduceSub,Int.reduceNeg,Int.reduceMul,Int.reduceToNat,Int.reducePow,Int.reduceLE,Int.reduceLT,Int.reduceEq,Int.reduceNe,reduceIte,reduceCtorEq,ne_eq,not_true_eq_false,not_false_eq_true,imp_self,implies_true,bls,eq_self,gD,gE,hX2,hc1,hc2,hc3,take7 hc2,List.append_nil,zD7]
    exact hc
  simp (disch:=first|assumption|omega|(simp only [lens];omega)) only [eqs,↓gvd_succ,↓gvd_zero,↓and_of,im_of,im_of trivial,vlt,hP,hst,initS,Nat.reduceBEq,Nat.reduceAdd,Nat.reduceMul,Nat.reduceSub,Nat.reduceDiv,Nat.reduceMod,Nat.reducePow,Nat.reduceLT,Nat.reduceLeDiff,Nat.reduceEqDiff,Int.reduceAdd,Int.reduceSub,Int.reduceNeg,Int.reduceMul,Int.reduceToNat,Int.reducePow,Int.reduceLE,Int.reduceLT,Int.reduceEq,Int.reduceNe,reduceIte,reduceCtorEq,ne_eq,not_true_eq_false,not_false_eq_true,imp_self,implies_true,bls,eq_self]
  refine C_dec (fun p2 => ?_) (fun p2 => ?_)
  · simp (disch:=first|assumption|omega|(simp only [lens];omega)) only [eqs,↓gvd_succ,↓gvd_zero,↓and_of,im_of,im_of trivial,vlt,hP,hst,initS,Nat.reduceBEq,Nat.reduceAdd,Nat.reduceMul,Nat.reduceSub,Nat.reduceDiv,Nat.reduceMod,Nat.reducePow,Nat.reduceLT,Nat.reduceLeDiff,Nat.reduceEqDiff,Int.reduceAdd,Int.reduceSub,Int.reduceNeg,Int.reduceMul,Int.reduceToNat,Int.reducePow,Int.reduceLE,Int.reduceLT,Int.reduceEq,Int.reduceNe,reduceIte,reduceCtorEq,ne_eq,not_true_eq_false,not_false_eq_true,imp_self,implies_true,bls,eq_self,gX,gY]
    refine E_call (hP ▸ z_qSub) ⟨_, _, _, _, _, _, rfl, zx, zy, by omega, by omega, fun v T4 e4 hv5 => ?_⟩
    dsimp only at hv5
    simp (disch:=first|assumption|omega|(simp only [lens];omega)) only [eqs,↓gvd_succ,↓gvd_zero,↓and_of,im_of,im_of trivial,vlt,hP,hst,initS,Nat.reduceBEq,Nat.reduceAdd,Nat.reduceMul,Nat.reduceSub,Nat.reduceDiv,Nat.reduceMod,Nat.reducePow,Nat.reduceLT,Nat.reduceLeDiff,Nat.reduceEqDiff,Int.reduceAdd,Int.reduceSub,Int.reduceNeg,Int.reduceMul,Int.reduceToNat,Int.reducePow,Int.reduceLE,Int.reduceLT,Int.reduceEq,Int.reduceNe,reduceIte,reduceCtorEq,ne_eq,not_true_eq_false,not_false_eq_true,imp_self,implies_true,bls,eq_self]
    refine E_call (hP ▸ s_number9) ⟨_, _, _, rfl, hv5, fun v T6 e6 hv6 => ?_⟩
    have hE : numM p z u = toldM (z - u) := by rw [p2]; rfl
    rw [← hE] at hv6 ⊢
    obtain ⟨c, rfl, hc1, hc2, hc3, hc⟩ := fin v T6 _ (eT.trans (e4.trans e6)) rfl hv6
    have gD := (gC.ext (eT.trans (e4.trans e6))).get
    have gE := (gC.ext (eT.trans (e4.trans e6))).lt
    simp (disch:=first|assumption|omega|(simp only [lens];omega)) only [eqs,↓gvd_succ,↓gvd_zero,↓and_of,im_of,im_of trivial,vlt,hP,hst,initS,Nat.reduceBEq,Nat.reduceAdd,Nat.reduceMul,Nat.reduceSub,Nat.reduceDiv,Nat.reduceMod,Nat.reducePow,Nat.reduceLT,Nat.reduceLeDiff,Nat.reduceEqDiff,Int.reduceAdd,Int.reduceSub,Int.reduceNeg,Int.reduceMul,Int.reduceToNat,Int.reducePow,Int.reduceLE,Int.reduceLT,Int.reduceEq,Int.reduceNe,reduceIte,reduceCtorEq,ne_eq,not_true_eq_false,not_false_eq_true,imp_self,implies_true,bls,eq_self,gD,gE,hX2,hc1,hc2,hc3,take7 hc2,List.append_nil,zD7]
    exact hc
  simp (disch:=first|assumption|omega|(simp only [lens];omega)) only [eqs,↓gvd_succ,↓gvd_zero,↓and_of,im_of,im_of trivial,vlt,hP,hst,initS,Nat.reduceBEq,Nat.reduceAdd,Nat.reduceMul,Nat.reduceSub,Nat.reduceDiv,Nat.reduceMod,Nat.reducePow,Nat.reduceLT,Nat.reduceLeDiff,Nat.reduceEqDiff,Int.reduceAdd,Int.reduceSub,Int.reduceNeg,Int.reduceMul,Int.reduceToNat,Int.reducePow,Int.reduceLE,Int.reduceLT,Int.reduceEq,Int.reduceNe,reduceIte,reduceCtorEq,ne_eq,not_true_eq_false,not_false_eq_true,imp_self,implies_true,bls,eq_self]
  refine C_dec (fun p3 => ?_) (fun p3 => ?_)
  · simp (disch:=first|assumption|omega|(simp only [lens];omega)) only [eqs,↓gvd_succ,↓gvd_zero,↓and_of,im_of,im_of trivial,vlt,hP,hst,initS,Nat.reduceBEq,Nat.reduceAdd,Nat.reduceMul,Nat.reduceSub,Nat.reduceDiv,Nat.reduceMod,Nat.reducePow,Nat.reduceLT,Nat.reduceLeDiff,Nat.reduceEqDiff,Int.reduceAdd,Int.reduceSub,Int.reduceNeg,Int.reduceMul,Int.reduceToNat,Int.reducePow,Int.reduceLE,Int.reduceLT,Int.reduceEq,Int.reduceNe,reduceIte,reduceCtorEq,ne_eq,not_true_eq_false,not_false_eq_true,imp_self,implies_true,bls,eq_self,gX,gY]
    refine E_call (hP ▸ z_qMul) ⟨_, _, _, _, _, _, rfl, zx, zy, by omega, by omega, fun v T4 e4 hv5 => ?_⟩
    dsimp only at hv5
    simp (disch:=first|assumption|omega|(simp only [lens];omega)) only [eqs,↓gvd_succ,↓gvd_zero,↓and_of,im_of,im_of trivial,vlt,hP,hst,initS,Nat.reduceBEq,Nat.reduceAdd,Nat.reduceMul,Nat.reduceSub,Nat.reduceDiv,Nat.reduceMod,Nat.reducePow,Nat.reduceLT,Nat.reduceLeDiff,Nat.reduceEqDiff,Int.reduceAdd,Int.reduceSub,Int.reduceNeg,Int.reduceMul,Int.reduceToNat,Int.reducePow,Int.reduceLE,Int.reduceLT,Int.reduceEq,Int.reduceNe,reduceIte,reduceCtorEq,ne_eq,not_true_eq_false,not_false_eq_true,imp_self,implies_true,bls,eq_self]
    refine E_call (hP ▸ s_number9) ⟨_, _, _, rfl, hv5, fun v T6 e6 hv6 => ?_⟩
    have hE : numM p z u = toldM (z * u) := by rw [p3]; rfl
    rw [← hE] at hv6 ⊢
    obtain ⟨c, rfl, hc1, hc2, hc3, hc⟩ := fin v T6 _ (eT.trans (e4.trans e6)) rfl hv6
    have gD := (gC.ext (eT.trans (e4.trans e6))).get
    have gE := (gC.ext (eT.trans (e4.trans e6))).lt
    simp (disch:=first|assumption|omega|(simp only [lens];omega)) only [eqs,↓gvd_succ,↓gvd_zero,↓and_of,im_of,im_of trivial,vlt,hP,hst,initS,Nat.reduceBEq,Nat.reduceAdd,Nat.reduceMul,Nat.reduceSub,Nat.reduceDiv,Nat.reduceMod,Nat.reducePow,Nat.reduceLT,Nat.reduceLeDiff,Nat.reduceEqDiff,Int.reduceAdd,Int.reduceSub,Int.reduceNeg,Int.reduceMul,Int.reduceToNat,Int.reducePow,Int.reduceLE,Int.reduceLT,Int.reduceEq,Int.reduceNe,reduceIte,reduceCtorEq,ne_eq,not_true_eq_false,not_false_eq_true,imp_self,implies_true,bls,eq_self,gD,gE,hX2,hc1,hc2,hc3,take7 hc2,List.append_nil,zD7]
    exact hc
  simp (disch:=first|assumption|omega|(simp only [lens];omega)) only [eqs,↓gvd_succ,↓gvd_zero,↓and_of,im_of,im_of trivial,vlt,hP,hst,initS,Nat.reduceBEq,Nat.reduceAdd,Nat.reduceMul,Nat.reduceSub,Nat.reduceDiv,Nat.reduceMod,Nat.reducePow,Nat.reduceLT,Nat.reduceLeDiff,Nat.reduceEqDiff,Int.reduceAdd,Int.reduceSub,Int.reduceNeg,Int.reduceMul,Int.reduceToNat,Int.reducePow,Int.reduceLE,Int.reduceLT,Int.reduceEq,Int.reduceNe,reduceIte,reduceCtorEq,ne_eq,not_true_eq_false,not_false_eq_true,imp_self,implies_true,bls,eq_self]
  refine C_dec (fun p7 => ?_) (fun p7 => ?_)
  · simp (disch:=first|assumption|omega|(simp only [lens];omega)) only [eqs,↓gvd_succ,↓gvd_zero,↓and_of,im_of,im_of trivial,vlt,hP,hst,initS,Nat.reduceBEq,Nat.reduceAdd,Nat.reduceMul,Nat.reduceSub,Nat.reduceDiv,Nat.reduceMod,Nat.reducePow,Nat.reduceLT,Nat.reduceLeDiff,Nat.reduceEqDiff,Int.reduceAdd,Int.reduceSub,Int.reduceNeg,Int.reduceMul,Int.reduceToNat,Int.reducePow,Int.reduceLE,Int.reduceLT,Int.reduceEq,Int.reduceNe,reduceIte,reduceCtorEq,ne_eq,not_true_eq_false,not_false_eq_true,imp_self,implies_true,bls,eq_self,gX,gY]
    refine E_call (hP ▸ z_qCmp) ⟨_, _, _, _, _, _, rfl, zx, zy, by omega, by omega, fun T4 e4 => ?_⟩
    simp (disch:=first|assumption|omega|(simp only [lens];omega)) only [eqs,↓gvd_succ,↓gvd_zero,↓and_of,im_of,im_of trivial,vlt,hP,hst,initS,Nat.reduceBEq,Nat.reduceAdd,Nat.reduceMul,Nat.reduceSub,Nat.reduceDiv,Nat.reduceMod,Nat.reducePow,Nat.reduceLT,Nat.reduceLeDiff,Nat.reduceEqDiff,Int.reduceAdd,Int.reduceSub,Int.reduceNeg,Int.reduceMul,Int.reduceToNat,Int.reducePow,Int.reduceLE,Int.reduceLT,Int.reduceEq,Int.reduceNe,reduceIte,reduceCtorEq,ne_eq,not_true_eq_false,not_false_eq_true,imp_self,implies_true,bls,eq_self,cmp_zero]
    refine E_call (hP ▸ s_truth9) ⟨_, rfl, fun v T6 e6 hv6 => ?_⟩
    have hE : numM p z u = (dBool (decide (z = u)), 0) := by rw [p7]; rfl
    obtain ⟨c, rfl, hc1, hc2, hc3, hc⟩ := fin v T6 0 (eT.trans (e4.trans e6)) (by rw [hE]) (by rw [hE]; exact hv6)
    have gD := (gC.ext (eT.trans (e4.trans e6))).get
    have gE := (gC.ext (eT.trans (e4.trans e6))).lt
    simp (disch:=first|assumption|omega|(simp only [lens];omega)) only [eqs,↓gvd_succ,↓gvd_zero,↓and_of,im_of,im_of trivial,vlt,hP,hst,initS,Nat.reduceBEq,Nat.reduceAdd,Nat.reduceMul,Nat.reduceSub,Nat.reduceDiv,Nat.reduceMod,Nat.reducePow,Nat.reduceLT,Nat.reduceLeDiff,Nat.reduceEqDiff,Int.reduceAdd,Int.reduceSub,Int.reduceNeg,Int.reduceMul,Int.reduceToNat,Int.reducePow,Int.reduceLE,Int.reduceLT,Int.reduceEq,Int.reduceNe,reduceIte,reduceCtorEq,ne_eq,not_true_eq_false,not_false_eq_true,imp_self,implies_true,bls,eq_self,gD,gE,hX2,hc1,hc2,hc3,take7 hc2,List.append_nil,zD7]
    exact hc
  simp (disch:=first|assumption|omega|(simp only [lens];omega)) only [eqs,↓gvd_succ,↓gvd_zero,↓and_of,im_of,im_of trivial,vlt,hP,hst,initS,Nat.reduceBEq,Nat.reduceAdd,Nat.reduceMul,Nat.reduceSub,Nat.reduceDiv,Nat.reduceMod,Nat.reducePow,Nat.reduceLT,Nat.reduceLeDiff,Nat.reduceEqDiff,Int.reduceAdd,Int.reduceSub,Int.reduceNeg,Int.reduceMul,Int.reduceToNat,Int.reducePow,Int.reduceLE,Int.reduceLT,Int.reduceEq,Int.reduceNe,reduceIte,reduceCtorEq,ne_eq,not_true_eq_false,not_false_eq_true,imp_self,implies_true,bls,eq_self]
  refine C_dec (fun p8 => ?_) (fun p8 => ?_)
  · simp (disch:=first|assumption|omega|(simp only [lens];omega)) only [eqs,↓gvd_succ,↓gvd_zero,↓and_of,im_of,im_of trivial,vlt,hP,hst,initS,Nat.reduceBEq,Nat.reduceAdd,Nat.reduceMul,Nat.reduceSub,Nat.reduceDiv,Nat.reduceMod,Nat.reducePow,Nat.reduceLT,Nat.reduceLeDiff,Nat.reduceEqDiff,Int.reduceAdd,Int.reduceSub,Int.reduceNeg,Int.reduceMul,Int.reduceToNat,Int.reducePow,Int.reduceLE,Int.reduceLT,Int.reduceEq,Int.reduceNe,reduceIte,reduceCtorEq,ne_eq,not_true_eq_false,not_false_eq_true,imp_self,implies_true,bls,eq_self,gX,gY]
    refine E_call (hP ▸ z_qCmp) ⟨_, _, _, _, _, _, rfl, zx, zy, by omega, by omega, fun T4 e4 => ?_⟩
    simp (disch:=first|assumption|omega|(simp only [lens];omega)) only [eqs,↓gvd_succ,↓gvd_zero,↓and_of,im_of,im_of trivial,vlt,hP,hst,initS,Nat.reduceBEq,Nat.reduceAdd,Nat.reduceMul,Nat.reduceSub,Nat.reduceDiv,Nat.reduceMod,Nat.reducePow,Nat.reduceLT,Nat.reduceLeDiff,Nat.reduceEqDiff,Int.reduceAdd,Int.reduceSub,Int.reduceNeg,Int.reduceMul,Int.reduceToNat,Int.reducePow,Int.reduceLE,Int.reduceLT,Int.reduceEq,Int.reduceNe,reduceIte,reduceCtorEq,ne_eq,not_true_eq_false,not_false_eq_true,imp_self,implies_true,bls,eq_self,cmp_neg]
    refine E_call (hP ▸ s_truth9) ⟨_, rfl, fun v T6 e6 hv6 => ?_⟩
    have hE : numM p z u = (dBool (decide (z < u)), 0) := by rw [p8]; rfl
    obtain ⟨c, rfl, hc1, hc2, hc3, hc⟩ := fin v T6 0 (eT.trans (e4.trans e6)) (by rw [hE]) (by rw [hE]; exact hv6)
    have gD := (gC.ext (eT.trans (e4.trans e6))).get
    have gE := (gC.ext (eT.trans (e4.trans e6))).lt
    simp (disch:=first|assumption|omega|(simp only [lens];omega)) only [eqs,↓gvd_succ,↓gvd_zero,↓and_of,im_of,im_of trivial,vlt,hP,hst,initS,Nat.reduceBEq,Nat.reduceAdd,Nat.reduceMul,Nat.reduceSub,Nat.reduceDiv,Nat.reduceMod,Nat.reducePow,Nat.reduceLT,Nat.reduceLeDiff,Nat.reduceEqDiff,Int.reduceAdd,Int.reduceSub,Int.reduceNeg,Int.reduceMul,Int.reduceToNat,Int.reducePow,Int.reduceLE,Int.reduceLT,Int.reduceEq,Int.reduceNe,reduceIte,reduceCtorEq,ne_eq,not_true_eq_false,not_false_eq_true,imp_self,implies_true,bls,eq_self,gD,gE,hX2,hc1,hc2,hc3,take7 hc2,List.append_nil,zD7]
    exact hc
  simp (disch:=first|assumption|omega|(simp only [lens];omega)) only [eqs,↓gvd_succ,↓gvd_zero,↓and_of,im_of,im_of trivial,vlt,hP,hst,initS,Nat.reduceBEq,Nat.reduceAdd,Nat.reduceMul,Nat.reduceSub,Nat.reduceDiv,Nat.reduceMod,Nat.reducePow,Nat.reduceLT,Nat.reduceLeDiff,Nat.reduceEqDiff,Int.reduceAdd,Int.reduceSub,Int.reduceNeg,Int.reduceMul,Int.reduceToNat,Int.reducePow,Int.reduceLE,Int.reduceLT,Int.reduceEq,Int.reduceNe,reduceIte,reduceCtorEq,ne_eq,not_true_eq_false,not_false_eq_true,imp_self,implies_true,bls,eq_self,gX,gY]
  refine E_call (hP ▸ z_qQuo) ⟨_, _, _, _, _, _, rfl, zx, zy, by omega, by omega, fun h0 q r T4 e4 hq hr => ?_, fun h0 T4 e4 => ?_⟩
  · obtain ⟨c3, rfl, hc3⟩ := hq.1
    obtain ⟨c4, rfl, hc4⟩ := hr.1
    have l3 := hc3.leaf
    have l4 := hc4.leaf
    have x4 := Nat.le_trans hX (e0.trans (eT.trans e4)).len
    have x4b : X.st1.length ≤ T4.length + 1 := by omega
    simp (disch:=first|assumption|omega|(simp only [lens];omega)) only [eqs,↓gvd_succ,↓gvd_zero,↓and_of,im_of,im_of trivial,vlt,hP,hst,initS,Nat.reduceBEq,Nat.reduceAdd,Nat.reduceMul,Nat.reduceSub,Nat.reduceDiv,Nat.reduceMod,Nat.reducePow,Nat.reduceLT,Nat.reduceLeDiff,Nat.reduceEqDiff,Int.reduceAdd,Int.reduceSub,Int.reduceNeg,Int.reduceMul,Int.reduceToNat,Int.reducePow,Int.reduceLE,Int.reduceLT,Int.reduceEq,Int.reduceNe,reduceIte,reduceCtorEq,ne_eq,not_true_eq_false,not_false_eq_true,imp_self,implies_true,bls,eq_self,l3,l4,x4,x4b]
    obtain ⟨T5, hT5⟩ : ∃ T, T4 ++ [some [.val (.bool (decide (z.tdiv u < 0))), c3], some [.val (.bool (decide (z.tmod u < 0))), c4]] = T := ⟨_, rfl⟩
    have atQ : At T5 T4.length _ := hT5 ▸ At.mk0
    have atR : At T5 (T4.length + 1) _ := hT5 ▸ At.mk1
    have e5 : Ext T4 T5 := ⟨_, hT5.symm⟩
    rw [hT5]
    clear hT5
    have gX := (atX.ext (e4.trans e5)).get
    have gY := (atY.ext (e4.trans e5)).get
    have zx := zx.ext (e4.trans e5)
    have zy := zy.ext (e4.trans e5)
    have x5 := Nat.le_trans x4 e5.len
    refine C_dec (fun p6 => ?_) (fun p6 => ?_)
    · have p4 : ¬p = 4 := by omega
      simp (disch:=first|assumption|omega|(simp only [lens];omega)) only [eqs,↓gvd_succ,↓gvd_zero,↓and_of,im_of,im_of trivial,vlt,hP,hst,initS,Nat.reduceBEq,Nat.reduceAdd,Nat.reduceMul,Nat.reduceSub,Nat.reduceDiv,Nat.reduceMod,Nat.reducePow,Nat.reduceLT,Nat.reduceLeDiff,Nat.reduceEqDiff,Int.reduceAdd,Int.reduceSub,Int.reduceNeg,Int.reduceMul,Int.reduceToNat,Int.reducePow,Int.reduceLE,Int.reduceLT,Int.reduceEq,Int.reduceNe,reduceIte,reduceCtorEq,ne_eq,not_true_eq_false,not_false_eq_true,imp_self,implies_true,bls,eq_self,gX,gY]
      refine E_call (hP ▸ z_qFloor) ⟨_, _, _, _, _, _, rfl, zx, zy, by omega, by omega, fun _ q2 r2 T7 e7 hq2 hr2 => ?_, fun h => absurd h h0⟩
      obtain ⟨c5, rfl, hc5⟩ := hq2.1
      obtain ⟨c6, rfl, hc6⟩ := hr2.1
      have l5 := hc5.leaf
      have l6 := hc6.leaf
      have gQ := (atQ.ext e7).get
      have gQl := (atQ.ext e7).lt
      have gR := (atR.ext e7).get
      have gRl := (atR.ext e7).lt
      have hne : T4.length ≠ T4.length + 1 := by omega
      have gR2 : ∀ c, (T7.set T4.length c)[T4.length + 1]? = T7[T4.length + 1]? := fun c => List.getElem?_set_ne hne
      have gR3 : ∀ c d, ((T7.set T4.length c).set (T4.length + 1) d)[T4.length + 1]? = some d := fun c d => List.getElem?_set_self (by rw [List.length_set]; exact gRl)
      simp (disch:=first|assumption|omega|(simp only [lens];omega)) only [eqs,↓gvd_succ,↓gvd_zero,↓and_of,im_of,im_of trivial,vlt,hP,hst,initS,Nat.reduceBEq,Nat.reduceAdd,Nat.reduceMul,Nat.reduceSub,Nat.reduceDiv,Nat.reduceMod,Nat.reducePow,Nat.reduceLT,Nat.reduceLeDiff,Nat.reduceEqDiff,Int.reduceAdd,Int.reduceSub,Int.reduceNeg,Int.reduceMul,Int.reduceToNat,Int.reducePow,Int.reduceLE,Int.reduceLT,Int.reduceEq,Int.reduceNe,reduceIte,reduceCtorEq,ne_eq,not_true_eq_false,not_false_eq_true,imp_self,implies_true,bls,eq_self,l5,l6,gQ,gQl,gR,gRl,gR2,gR3,x4,x4b,p4,List.length_set]
      have atR2 : At (T7.set T4.length (some [.val (.bool (decide (fq z u < 0))), c5])) (T4.length + 1) _ := ⟨by rw [gR2]; exact gR⟩
      have nS := (hc6.setz (atQ.ext e7) hc3.no32 (c' := [.val (.bool (decide (fq z u < 0))), c5])).setz atR2 hc4.no32 (c' := [.val (.bool (decide (fr z u < 0))), c6])
      have eS := ((e4.trans (e5.trans e7)).set e4.len (some [.val (.bool (decide (fq z u < 0))), c5])).set (show T3.length ≤ T4.length + 1 from Nat.le_trans e4.len (by omega)) (some [.val (.bool (decide (fr z u < 0))), c6])
      refine E_call (hP ▸ s_number9) ⟨_, fr z u, _, rfl, ⟨⟨_, rfl, nS⟩, hr2.2⟩, fun v T6 e6 hv6 => ?_⟩
      have hE : numM p z u = toldM (fr z u) := by rw [p6]; exact if_neg h0
      rw [← hE] at hv6 ⊢
      obtain ⟨c, rfl, hc1, hc2, hc3, hc⟩ := fin v T6 _ (eT.trans (eS.trans e6)) rfl hv6
      have gD := (gC.ext (eT.trans (eS.trans e6))).get
      have gE := (gC.ext (eT.trans (eS.trans e6))).lt
      simp (disch:=first|assumption|omega|(simp only [lens];omega)) only [eqs,↓gvd_succ,↓gvd_zero,↓and_of,im_of,im_of trivial,vlt,hP,hst,initS,Nat.reduceBEq,Nat.reduceAdd,Nat.reduceMul,Nat.reduceSub,Nat.reduceDiv,Nat.reduceMod,Nat.reducePow,Nat.reduceLT,Nat.reduceLeDiff,Nat.reduceEqDiff,Int.reduceAdd,Int.reduceSub,Int.reduceNeg,Int.reduceMul,Int.reduceToNat,Int.reducePow,Int.reduceLE,Int.reduceLT,Int.reduceEq,Int.reduceNe,reduceIte,reduceCtorEq,ne_eq,not_true_eq_false,not_false_eq_true,imp_self,implies_true,bls,eq_self,gD,gE,hX2,hc1,hc2,hc3,take7 hc2,List.append_nil,zD7]
      exact hc
    simp (disch:=first|assumption|omega|(simp only [lens];omega)) only [eqs,↓gvd_succ,↓gvd_zero,↓and_of,im_of,im_of trivial,vlt,hP,hst,initS,Nat.reduceBEq,Nat.reduceAdd,Nat.reduceMul,Nat.reduceSub,Nat.reduceDiv,Nat.reduceMod,Nat.reducePow,Nat.reduceLT,Nat.reduceLeDiff,Nat.reduceEqDiff,Int.reduceAdd,Int.reduceSub,Int.reduceNeg,Int.reduceMul,Int.reduceToNat,Int.reducePow,Int.reduceLE,Int.reduceLT,Int.reduceEq,Int.reduceNe,reduceIte,reduceCtorEq,ne_eq,not_true_eq_false,not_false_eq_true,imp_self,implies_true,bls,eq_self]
    refine C_dec (fun p4 => ?_) (fun p4 => ?_)
    · have gQ := atQ.get
      simp (disch:=first|assumption|omega|(simp only [lens];omega)) only [eqs,↓gvd_succ,↓gvd_zero,↓and_of,im_of,im_of trivial,vlt,hP,hst,initS,Nat.reduceBEq,Nat.reduceAdd,Nat.reduceMul,Nat.reduceSub,Nat.reduceDiv,Nat.reduceMod,Nat.reducePow,Nat.reduceLT,Nat.reduceLeDiff,Nat.reduceEqDiff,Int.reduceAdd,Int.reduceSub,Int.reduceNeg,Int.reduceMul,Int.reduceToNat,Int.reducePow,Int.reduceLE,Int.reduceLT,Int.reduceEq,Int.reduceNe,reduceIte,reduceCtorEq,ne_eq,not_true_eq_false,not_false_eq_true,imp_self,implies_true,bls,eq_self,gQ,l3]
      refine E_call (hP ▸ s_number9) ⟨_, _, _, rfl, hq.ext e5, fun v T6 e6 hv6 => ?_⟩
      have hE : numM p z u = toldM (z.tdiv u) := by rw [p4]; exact if_neg h0
      rw [← hE] at hv6 ⊢
      obtain ⟨c, rfl, hc1, hc2, hc3, hc⟩ := fin v T6 _ (eT.trans (e4.trans (e5.trans e6))) rfl hv6
      have gD := (gC.ext (eT.trans (e4.trans (e5.trans e6)))).get
      have gE := (gC.ext (eT.trans (e4.trans (e5.trans e6)))).lt
      simp (disch:=first|assumption|omega|(simp only [lens];omega)) only [eqs,↓gvd_succ,↓gvd_zero,↓and_of,im_of,im_of trivial,vlt,hP,hst,initS,Nat.reduceBEq,Nat.reduceAdd,Nat.reduceMul,Nat.reduceSub,Nat.reduceDiv,Nat.reduceMod,Nat.reducePow,Nat.reduceLT,Nat.reduceLeDiff,Nat.reduceEqDiff,Int.reduceAdd,Int.reduceSub,Int.reduceNeg,Int.reduceMul,Int.reduceToNat,Int.reducePow,Int.reduceLE,Int.reduceLT,Int.reduceEq,Int.reduceNe,reduceIte,reduceCtorEq,ne_eq,not_true_eq_false,not_false_eq_true,imp_self,implies_true,bls,eq_self,gD,gE,hX2,hc1,hc2,hc3,take7 hc2,List.append_nil,zD7]
      exact hc
    have p5 : p = 5 := by omega
    have gR := atR.get
    simp (disch:=first|assumption|omega|(simp only [lens];omega)) only [eqs,↓gvd_succ,↓gvd_zero,↓and_of,im_of,im_of trivial,vlt,hP,hst,initS,Nat.reduceBEq,Nat.reduceAdd,Nat.reduceMul,Nat.reduceSub,Nat.reduceDiv,Nat.reduceMod,Nat.reducePow,Nat.reduceLT,Nat.reduceLeDiff,Nat.reduceEqDiff,Int.reduceAdd,Int.reduceSub,Int.reduceNeg,Int.reduceMul,Int.reduceToNat,Int.reducePow,Int.reduceLE,Int.reduceLT,Int.reduceEq,Int.reduceNe,reduceIte,reduceCtorEq,ne_eq,not_true_eq_false,not_false_eq_true,imp_self,implies_true,bls,eq_self,gR,l4]
    refine E_call (hP ▸ s_number9) ⟨_, _, _, rfl, hr.ext e5, fun v T6 e6 hv6 => ?_⟩
    have hE : numM p z u = toldM (z.tmod u) := by rw [p5]; exact if_neg h0
    rw [← hE] at hv6 ⊢
    obtain ⟨c, rfl, hc1, hc2, hc3, hc⟩ := fin v T6 _ (eT.trans (e4.trans (e5.trans e6))) rfl hv6
    have gD := (gC.ext (eT.trans (e4.trans (e5.trans e6)))).get
    have gE := (gC.ext (eT.trans (e4.trans (e5.trans e6)))).lt
    simp (disch:=first|assumption|omega|(simp only [lens];omega)) only [eqs,↓gvd_succ,↓gvd_zero,↓and_of,im_of,im_of trivial,vlt,hP,hst,initS,Nat.reduceBEq,Nat.reduceAdd,Nat.reduceMul,Nat.reduceSub,Nat.reduceDiv,Nat.reduceMod,Nat.reducePow,Nat.reduceLT,Nat.reduceLeDiff,Nat.reduceEqDiff,Int.reduceAdd,Int.reduceSub,Int.reduceNeg,Int.reduceMul,Int.reduceToNat,Int.reducePow,Int.reduceLE,Int.reduceLT,Int.reduceEq,Int.reduceNe,reduceIte,reduceCtorEq,ne_eq,not_true_eq_false,not_false_eq_true,imp_self,implies_true,bls,eq_self,gD,gE,hX2,hc1,hc2,hc3,take7 hc2,List.append_nil,zD7]
    exact hc
  · unfold zeroI
    have x4 := Nat.le_trans hX (e0.trans (eT.trans e4)).len
    have x4b : X.st1.length ≤ T4.length + 1 := by omega
    simp (disch:=first|assumption|omega|(simp only [lens];omega)) only [eqs,↓gvd_succ,↓gvd_zero,↓and_of,im_of,im_of trivial,vlt,hP,hst,initS,Nat.reduceBEq,Nat.reduceAdd,Nat.reduceMul,Nat.reduceSub,Nat.reduceDiv,Nat.reduceMod,Nat.reducePow,Nat.reduceLT,Nat.reduceLeDiff,Nat.reduceEqDiff,Int.reduceAdd,Int.reduceSub,Int.reduceNeg,Int.reduceMul,Int.reduceToNat,Int.reducePow,Int.reduceLE,Int.reduceLT,Int.reduceEq,Int.reduceNe,reduceIte,reduceCtorEq,ne_eq,not_true_eq_false,not_false_eq_true,imp_self,implies_true,bls,eq_self,x4,x4b]
    obtain ⟨T5, hT5⟩ : ∃ T, T4 ++ [some [.val (.bool false), .val (.slice none 0 0)], some [.val (.bool false), .val (.slice none 0 0)]] = T := ⟨_, rfl⟩
    have atQ : At T5 T4.length _ := hT5 ▸ At.mk0
    have atR : At T5 (T4.length + 1) _ := hT5 ▸ At.mk1
    have e5 : Ext T4 T5 := ⟨_, hT5.symm⟩
    rw [hT5]
    clear hT5
    have gX := (atX.ext (e4.trans e5)).get
    have gY := (atY.ext (e4.trans e5)).get
    have zx := zx.ext (e4.trans e5)
    have zy := zy.ext (e4.trans e5)
    have x5 := Nat.le_trans x4 e5.len
    have hE : numM p z u = (dNil, 3) := by
      have : p = 4 ∨ p = 5 ∨ p = 6 := by omega
      rcases this with h | h | h <;> rw [h] <;> exact if_pos h0
    rw [hE] at hK
    refine C_dec (fun p6 => ?_) (fun p6 => ?_)
    · simp (disch:=first|assumption|omega|(simp only [lens];omega)) only [eqs,↓gvd_succ,↓gvd_zero,↓and_of,im_of,im_of trivial,vlt,hP,hst,initS,Nat.reduceBEq,Nat.reduceAdd,Nat.reduceMul,Nat.reduceSub,Nat.reduceDiv,Nat.reduceMod,Nat.reducePow,Nat.reduceLT,Nat.reduceLeDiff,Nat.reduceEqDiff,Int.reduceAdd,Int.reduceSub,Int.reduceNeg,Int.reduceMul,Int.reduceToNat,Int.reducePow,Int.reduceLE,Int.reduceLT,Int.reduceEq,Int.reduceNe,reduceIte,reduceCtorEq,ne_eq,not_true_eq_false,not_false_eq_true,imp_self,implies_true,bls,eq_self,gX,gY]
      refine E_call (hP ▸ z_qFloor) ⟨_, _, _, _, _, _, rfl, zx, zy, by omega, by omega, fun h => absurd h0 h, fun _ T7 e7 => ?_⟩
      unfold zeroI
      have gQ := (atQ.ext e7).get
      have gQl := (atQ.ext e7).lt
      have gR := (atR.ext e7).get
      have gRl := (atR.ext e7).lt
      have hne : T4.length ≠ T4.length + 1 := by omega
      have gR2 : ∀ c, (T7.set T4.length c)[T4.length + 1]? = T7[T4.length + 1]? := fun c => List.getElem?_set_ne hne
      have eS := ((e4.trans (e5.trans e7)).set e4.len (some [.val (.bool false), .val (.slice none 0 0)])).set (show T3.length ≤ T4.length + 1 from Nat.le_trans e4.len (by omega)) (some [.val (.bool false), .val (.slice none 0 0)])
      have gD := (gC.ext (eT.trans eS)).get
      have gE := (gC.ext (eT.trans eS)).lt
      simp (disch:=first|assumption|omega|(simp only [lens];omega)) only [eqs,↓gvd_succ,↓gvd_zero,↓and_of,im_of,im_of trivial,vlt,hP,hst,initS,Nat.reduceBEq,Nat.reduceAdd,Nat.reduceMul,Nat.reduceSub,Nat.reduceDiv,Nat.reduceMod,Nat.reducePow,Nat.reduceLT,Nat.reduceLeDiff,Nat.reduceEqDiff,Int.reduceAdd,Int.reduceSub,Int.reduceNeg,Int.reduceMul,Int.reduceToNat,Int.reducePow,Int.reduceLE,Int.reduceLT,Int.reduceEq,Int.reduceNe,reduceIte,reduceCtorEq,ne_eq,not_true_eq_false,not_false_eq_true,imp_self,implies_true,bls,eq_self,gQ,gQl,gR,gRl,gR2,x4,x4b,List.length_set,gD,gE,hX2,zD_map,zD7]
      exact hK _ _ ((e0.trans (eT.trans eS)).set (by omega) _) (DA0.mk Nm.nil)
    have gD := (gC.ext (eT.trans (e4.trans e5))).get
    have gE := (gC.ext (eT.trans (e4.trans e5))).lt
    simp (disch:=first|assumption|omega|(simp only [lens];omega)) only [eqs,↓gvd_succ,↓gvd_zero,↓and_of,im_of,im_of trivial,vlt,hP,hst,initS,Nat.reduceBEq,Nat.reduceAdd,Nat.reduceMul,Nat.reduceSub,Nat.reduceDiv,Nat.reduceMod,Nat.reducePow,Nat.reduceLT,Nat.reduceLeDiff,Nat.reduceEqDiff,Int.reduceAdd,Int.reduceSub,Int.reduceNeg,Int.reduceMul,Int.reduceToNat,Int.reducePow,Int.reduceLE,Int.reduceLT,Int.reduceEq,Int.reduceNe,reduceIte,reduceCtorEq,ne_eq,not_true_eq_false,not_false_eq_true,imp_self,implies_true,bls,eq_self,gD,gE,hX2,zD_map,zD7]
    exact hK _ _ ((e0.trans (eT.trans (e4.trans e5))).set (by omega) _) (DA0.mk Nm.nil)
end Go.Proofs.Pv

/- The document's primitives: which are pure. -/
namespace Go.Proofs.Pv
open Go Go.RowKit Go.Proofs
set_option maxRecDepth 20000

def pureM (p : Int) : Bool := (plainM p && decide (p ≠ 24 ∧ p ≠ 26 ∧ p ≠ 27)) || decide (p = 20 ∨ p = 38)
def RPureM (xs : List AV) (st : St) (K : AV → St → Prop) : Prop := ∃ p : Int, xs = [.val (.int .i64 p)] ∧ K (.val (.bool (pureM p))) st
theorem s_pure9 : PSpec Tryz.prog 10 RPureM := by
  refine fspec_of (fn := Tryz.f10) 1 [.tmp 2] (by kernel_rfl) rfl rfl (by kernel_rfl) mixed (by rintro _ _ _ ⟨p, rfl, _⟩; rfl) ?_
  rintro X _ st K hP hst ⟨p, rfl, hK⟩
  refine vc_V ?_
  simp (disch:=first|assumption|omega|(simp only [lens];omega)) only [eqs,↓gvd_succ,↓gvd_zero,↓and_of,im_of,im_of trivial,vlt,hP,hst,initS,Nat.reduceBEq,Nat.reduceAdd,Nat.reduceMul,Nat.reduceSub,Nat.reduceDiv,Nat.reduceMod,Nat.reducePow,Nat.reduceLT,Nat.reduceLeDiff,Nat.reduceEqDiff,Int.reduceAdd,Int.reduceSub,Int.reduceNeg,Int.reduceMul,Int.reduceToNat,Int.reducePow,Int.reduceLE,Int.reduceLT,Int.reduceEq,Int.reduceNe,reduceIte,reduceCtorEq,ne_eq,not_true_eq_false,not_false_eq_true,imp_self,implies_true,bls,eq_self]
  refine E_call (hP ▸ s_plain9) ⟨p, rfl, ?_⟩
  by_cases b1 : p = 20
  · subst b1
    rw [show pureM 20 = true from rfl] at hK
    rw [show plainM 20 = false from rfl]
    simp (disch:=first|assumption|omega|(simp only [lens];omega)) only [eqs,↓gvd_succ,↓gvd_zero,↓and_of,im_of,im_of trivial,vlt,hP,hst,initS,Nat.reduceBEq,Nat.reduceAdd,Nat.reduceMul,Nat.reduceSub,Nat.reduceDiv,Nat.reduceMod,Nat.reducePow,Nat.reduceLT,Nat.reduceLeDiff,Nat.reduceEqDiff,Int.reduceAdd,Int.reduceSub,Int.reduceNeg,Int.reduceMul,Int.reduceToNat,Int.reducePow,Int.reduceLE,Int.reduceLT,Int.reduceEq,Int.reduceNe,reduceIte,reduceCtorEq,ne_eq,not_true_eq_false,not_false_eq_true,imp_self,implies_true,bls,eq_self]
    exact hK
  by_cases b2 : p = 38
  · subst b2
    rw [show pureM 38 = true from rfl] at hK
    rw [show plainM 38 = false from rfl]
    simp (disch:=first|assumption|omega|(simp only [lens];omega)) only [eqs,↓gvd_succ,↓gvd_zero,↓and_of,im_of,im_of trivial,vlt,hP,hst,initS,Nat.reduceBEq,Nat.reduceAdd,Nat.reduceMul,Nat.reduceSub,Nat.reduceDiv,Nat.reduceMod,Nat.reducePow,Nat.reduceLT,Nat.reduceLeDiff,Nat.reduceEqDiff,Int.reduceAdd,Int.reduceSub,Int.reduceNeg,Int.reduceMul,Int.reduceToNat,Int.reducePow,Int.reduceLE,Int.reduceLT,Int.reduceEq,Int.reduceNe,reduceIte,reduceCtorEq,ne_eq,not_true_eq_false,not_false_eq_true,imp_self,implies_true,bls,eq_self]
    exact hK
  by_cases b3 : p = 24
  · subst b3
    rw [show pureM 24 = false from rfl] at hK
    rw [show plainM 24 = true from rfl]
    simp (disch:=first|assumption|omega|(simp only [lens];omega)) only [eqs,↓gvd_succ,↓gvd_zero,↓and_of,im_of,im_of trivial,vlt,hP,hst,initS,Nat.reduceBEq,Nat.reduceAdd,Nat.reduceMul,Nat.reduceSub,Nat.reduceDiv,Nat.reduceMod,Nat.reducePow,Nat.reduceLT,Nat.reduceLeDiff,Nat.reduceEqDiff,Int.reduceAdd,Int.reduceSub,Int.reduceNeg,Int.reduceMul,Int.reduceToNat,Int.reducePow,Int.reduceLE,Int.reduceLT,Int.reduceEq,Int.reduceNe,reduceIte,reduceCtorEq,ne_eq,not_true_eq_false,not_false_eq_true,imp_self,implies_true,bls,eq_self]
    exact hK
  by_cases b4 : p = 26
  · subst b4
    rw [show pureM 26 = false from rfl] at hK
    rw [show plainM 26 = true from rfl]
    simp (disch:=first|assumption|omega|(simp only [lens];omega)) only [eqs,↓gvd_succ,↓gvd_zero,↓and_of,im_of,im_of trivial,vlt,hP,hst,initS,Nat.reduceBEq,Nat.reduceAdd,Nat.reduceMul,Nat.reduceSub,Nat.reduceDiv,Nat.reduceMod,Nat.reducePow,Nat.reduceLT,Nat.reduceLeDiff,Nat.reduceEqDiff,Int.reduceAdd,Int.reduceSub,Int.reduceNeg,Int.reduceMul,Int.reduceToNat,Int.reducePow,Int.reduceLE,Int.reduceLT,Int.reduceEq,Int.reduceNe,reduceIte,reduceCtorEq,ne_eq,not_true_eq_false,not_false_eq_true,imp_self,implies_true,bls,eq_self]
    exact hK
  by_cases b5 : p = 27
  · subst b5
    rw [show pureM 27 = false from rfl] at hK
    rw [show plainM 27 = true from rfl]
    simp (disch:=first|assumption|omega|(simp only [lens];omega)) only [eqs,↓gvd_succ,↓gvd_zero,↓and_of,im_of,im_of trivial,vlt,hP,hst,initS,Nat.reduceBEq,Nat.reduceAdd,Nat.reduceMul,Nat.reduceSub,Nat.reduceDiv,Nat.reduceMod,Nat.reducePow,Nat.reduceLT,Nat.reduceLeDiff,Nat.reduceEqDiff,Int.reduceAdd,Int.reduceSub,Int.reduceNeg,Int.reduceMul,Int.reduceToNat,Int.reducePow,Int.reduceLE,Int.reduceLT,Int.reduceEq,Int.reduceNe,reduceIte,reduceCtorEq,ne_eq,not_true_eq_false,not_false_eq_true,imp_self,implies_true,bls,eq_self]
    exact hK
  rw [show pureM p = plainM p by unfold pureM; simp [b1, b2, b3, b4, b5]] at hK
  cases hp : plainM p
  · rw [hp] at hK
    simp (disch:=first|assumption|omega|(simp only [lens];omega)) only [eqs,↓gvd_succ,↓gvd_zero,↓and_of,im_of,im_of trivial,vlt,hP,hst,initS,Nat.reduceBEq,Nat.reduceAdd,Nat.reduceMul,Nat.reduceSub,Nat.reduceDiv,Nat.reduceMod,Nat.reducePow,Nat.reduceLT,Nat.reduceLeDiff,Nat.reduceEqDiff,Int.reduceAdd,Int.reduceSub,Int.reduceNeg,Int.reduceMul,Int.reduceToNat,Int.reducePow,Int.reduceLE,Int.reduceLT,Int.reduceEq,Int.reduceNe,reduceIte,reduceCtorEq,ne_eq,not_true_eq_false,not_false_eq_true,imp_self,implies_true,bls,eq_self,b1,b2]
    exact hK
  · rw [hp] at hK
    simp (disch:=first|assumption|omega|(simp only [lens];omega)) only [eqs,↓gvd_succ,↓gvd_zero,↓and_of,im_of,im_of trivial,vlt,hP,hst,initS,Nat.reduceBEq,Nat.reduceAdd,Nat.reduceMul,Nat.reduceSub,Nat.reduceDiv,Nat.reduceMod,Nat.reducePow,Nat.reduceLT,Nat.reduceLeDiff,Nat.reduceEqDiff,Int.reduceAdd,Int.reduceSub,Int.reduceNeg,Int.reduceMul,Int.reduceToNat,Int.reducePow,Int.reduceLE,Int.reduceLT,Int.reduceEq,Int.reduceNe,reduceIte,reduceCtorEq,ne_eq,not_true_eq_false,not_false_eq_true,imp_self,implies_true,bls,eq_self,b1,b2,b3,b4,b5]
    exact hK
theorem s_primName : ∀ w0, GP w0 → PSpecAt Tryz.prog w0 13 RName := by
  refine gspec_of (fn := Tryz.f13) 1 [.tmp 2] (by kernel_rfl) rfl rfl (by kernel_rfl) mixed (by rintro _ _ _ ⟨p, rfl, _⟩; rfl) ?_
  rintro X _ st K hP hst hG ⟨p, rfl, hK⟩
  refine vc_V ?_
  simp (disch:=first|assumption|omega|(simp only [lens];omega)) only [eqs,↓gvd_succ,↓gvd_zero,↓and_of,im_of,im_of trivial,vlt,hP,hst,initS,Nat.reduceBEq,Nat.reduceAdd,Nat.reduceMul,Nat.reduceSub,Nat.reduceDiv,Nat.reduceMod,Nat.reducePow,Nat.reduceLT,Nat.reduceLeDiff,Nat.reduceEqDiff,Int.reduceAdd,Int.reduceSub,Int.reduceNeg,Int.reduceMul,Int.reduceToNat,Int.reducePow,Int.reduceLE,Int.reduceLT,Int.reduceEq,Int.reduceNe,reduceIte,reduceCtorEq,ne_eq,not_true_eq_false,not_false_eq_true,imp_self,implies_true,bls,eq_self]
  refine E_callA (hP ▸ s_ExName _ hG) ⟨p, rfl, ?_⟩
  simp (disch:=first|assumption|omega|(simp only [lens];omega)) only [eqs,↓gvd_succ,↓gvd_zero,↓and_of,im_of,im_of trivial,vlt,hP,hst,initS,Nat.reduceBEq,Nat.reduceAdd,Nat.reduceMul,Nat.reduceSub,Nat.reduceDiv,Nat.reduceMod,Nat.reducePow,Nat.reduceLT,Nat.reduceLeDiff,Nat.reduceEqDiff,Int.reduceAdd,Int.reduceSub,Int.reduceNeg,Int.reduceMul,Int.reduceToNat,Int.reducePow,Int.reduceLE,Int.reduceLT,Int.reduceEq,Int.reduceNe,reduceIte,reduceCtorEq,ne_eq,not_true_eq_false,not_false_eq_true,imp_self,implies_true,bls,eq_self]
  exact hK
end Go.Proofs.Pv

/- The document's arities and names; pure primitives. -/
namespace Go.Proofs.Pv
open Go Go.RowKit Go.Proofs
set_option maxRecDepth 20000

def names38 : List AV := namesA.drop 1
theorem fill39 : fillA (fun i => some (i * 1, 1)) (List.map AV.val (List.replicate 39 (.int .i64 0))) [(0, .val (.int .i64 0)), (1, .val (.int .i64 2)), (2, .val (.int .i64 2)), (3, .val (.int .i64 2)), (4, .val (.int .i64 2)), (5, .val (.int .i64 2)), (6, .val (.int .i64 2)), (7, .val (.int .i64 2)), (8, .val (.int .i64 2)), (9, .val (.int .i64 2)), (10, .val (.int .i64 1)), (11, .val (.int .i64 1)), (12, .val (.int .i64 2)), (13, .val (.int .i64 2)), (14, .val (.int .i64 1)), (15, .val (.int .i64 1)), (16, .val (.int .i64 1)), (17, .val (.int .i64 1)), (18, .val (.int .i64 1)), (19, .val (.int .i64 1)), (20, .val (.int .i64 1)), (21, .val (.int .i64 2)), (22, .val (.int .i64 1)), (23, .val (.int .i64 1)), (24, .val (.int .i64 2)), (25, .val (.int .i64 2)), (26, .val (.int .i64 1)), (27, .val (.int .i64 1)), (28, .val (.int .i64 1)), (29, .val (.int .i64 1)), (30, .val (.int .i64 0)), (31, .val (.int .i64 0)), (32, .val (.int .i64 1)), (33, .val (.int .i64 1)), (34, .val (.int .i64 2)), (35, .val (.int .i64 1)), (36, .val (.int .i64 1)), (37, .val (.int .i64 2)), (38, .val (.int .i64 0))] = some aritiesA := by kernel_rfl
theorem fill38 : fillA (fun i => some (i * 1, 1)) (List.map AV.val (List.replicate 38 (.string ⟨#[]⟩))) [(0, .val (.string ⟨#[43]⟩)), (1, .val (.string ⟨#[45]⟩)), (2, .val (.string ⟨#[42]⟩)), (3, .val (.string ⟨#[113, 117, 111, 116, 105, 101, 110, 116]⟩)), (4, .val (.string ⟨#[114, 101, 109, 97, 105, 110, 100, 101, 114]⟩)), (5, .val (.string ⟨#[109, 111, 100, 117, 108, 111]⟩)), (6, .val (.string ⟨#[61]⟩)), (7, .val (.string ⟨#[60]⟩)), (8, .val (.string ⟨#[99, 111, 110, 115]⟩)), (9, .val (.string ⟨#[99, 97, 114]⟩)), (10, .val (.string ⟨#[99, 100, 114]⟩)), (11, .val (.string ⟨#[115, 101, 116, 45, 99, 97, 114, 33]⟩)), (12, .val (.string ⟨#[115, 101, 116, 45, 99, 100, 114, 33]⟩)), (13, .val (.string ⟨#[110, 117, 108, 108, 63]⟩)), (14, .val (.string ⟨#[112, 97, 105, 114, 63]⟩)), (15, .val (.string ⟨#[105, 110, 116, 101, 103, 101, 114, 63]⟩)), (16, .val (.string ⟨#[115, 121, 109, 98, 111, 108, 63]⟩)), (17, .val (.string ⟨#[115, 116, 114, 105, 110, 103, 63]⟩)), (18, .val (.string ⟨#[98, 111, 111, 108, 101, 97, 110, 63]⟩)), (19, .val (.string ⟨#[112, 114, 111, 99, 101, 100, 117, 114, 101, 63]⟩)), (20, .val (.string ⟨#[101, 113, 63]⟩)), (21, .val (.string ⟨#[110, 111, 116]⟩)), (22, .val (.string ⟨#[115, 116, 114, 105, 110, 103, 45, 108, 101, 110, 103, 116, 104]⟩)), (23, .val (.string ⟨#[115, 116, 114, 105, 110, 103, 45, 97, 112, 112, 101, 110, 100]⟩)), (24, .val (.string ⟨#[115, 116, 114, 105, 110, 103, 61, 63]⟩)), (25, .val (.string ⟨#[115, 121, 109, 98, 111, 108, 45, 62, 115, 116, 114, 105, 110, 103]⟩)), (26, .val (.string ⟨#[110, 117, 109, 98, 101, 114, 45, 62, 115, 116, 114, 105, 110, 103]⟩)), (27, .val (.string ⟨#[119, 114, 105, 116, 101]⟩)), (28, .val (.string ⟨#[100, 105, 115, 112, 108, 97, 121]⟩)), (29, .val (.string ⟨#[110, 101, 119, 108, 105, 110, 101]⟩)), (30, .val (.string ⟨#[114, 101, 97, 100, 45, 98, 121, 116, 101]⟩)), (31, .val (.string ⟨#[114, 97, 105, 115, 101]⟩)), (32, .val (.string ⟨#[99, 97, 108, 108, 47, 99, 99]⟩)), (33, .val (.string ⟨#[97, 112, 112, 108, 121]⟩)), (34, .val (.string ⟨#[98, 111, 120]⟩)), (35, .val (.string ⟨#[117, 110, 98, 111, 120]⟩)), (36, .val (.string ⟨#[115, 101, 116, 45, 98, 111, 120, 33]⟩)), (37, .val (.string ⟨#[118, 111, 105, 100]⟩))] = some names38 := by kernel_rfl
theorem ar39_get {i : Nat} (h : i < 39) : aritiesA[i]? = some (.val (.int .i64 (aritiesL.getD i 0))) := by
  have := arities_at h
  rwa [List.getElem?_drop, Nat.add_zero] at this
theorem names38_get {i : Nat} (h : i < 38) : names38[i]? = some (.val (.string (namesL.getD (i + 1) ⟨#[]⟩))) := by
  rw [names38, List.getElem?_drop, Nat.add_comm]
  exact names_get (by omega)
theorem arM_in {p : Int} (h : 1 ≤ p ∧ p < 39) : arM p = aritiesL.getD p.toNat 0 := if_pos h
theorem arM_out {p : Int} (h : ¬(1 ≤ p ∧ p < 39)) : arM p = -1 := if_neg h
theorem s_arity7 : PSpec Tryz.prog 29 RArity := by
  refine fspec_of (fn := Tryz.f29) 1 [.tmp 2] (by kernel_rfl) rfl rfl (by kernel_rfl) mixed (by rintro _ _ _ ⟨p, rfl, _⟩; rfl) ?_
  rintro X _ st K hP hst ⟨p, rfl, hK⟩
  refine vc_V ?_
  by_cases h1 : p < 1
  · rw [arM_out (by omega)] at hK
    simp (disch:=first|assumption|omega|(simp only [lens];omega)) only [eqs,↓gvd_succ,↓gvd_zero,↓and_of,im_of,im_of trivial,vlt,hP,hst,initS,Nat.reduceBEq,Nat.reduceAdd,Nat.reduceMul,Nat.reduceSub,Nat.reduceDiv,Nat.reduceMod,Nat.reducePow,Nat.reduceLT,Nat.reduceLeDiff,Nat.reduceEqDiff,Int.reduceAdd,Int.reduceSub,Int.reduceNeg,Int.reduceMul,Int.reduceToNat,Int.reducePow,Int.reduceLE,Int.reduceLT,Int.reduceEq,Int.reduceNe,reduceIte,reduceCtorEq,ne_eq,not_true_eq_false,not_false_eq_true,imp_self,implies_true,bls,eq_self,h1]
    exact hK
  by_cases h2 : 38 < p
  · rw [arM_out (by omega)] at hK
    simp (disch:=first|assumption|omega|(simp only [lens];omega)) only [eqs,↓gvd_succ,↓gvd_zero,↓and_of,im_of,im_of trivial,vlt,hP,hst,initS,Nat.reduceBEq,Nat.reduceAdd,Nat.reduceMul,Nat.reduceSub,Nat.reduceDiv,Nat.reduceMod,Nat.reducePow,Nat.reduceLT,Nat.reduceLeDiff,Nat.reduceEqDiff,Int.reduceAdd,Int.reduceSub,Int.reduceNeg,Int.reduceMul,Int.reduceToNat,Int.reducePow,Int.reduceLE,Int.reduceLT,Int.reduceEq,Int.reduceNe,reduceIte,reduceCtorEq,ne_eq,not_true_eq_false,not_false_eq_true,imp_self,implies_true,bls,eq_self,h1,h2]
    exact hK
  rw [arM_in (by omega)] at hK
  simp (disch:=first|assumption|omega|(simp only [lens];omega)) only [eqs,↓gvd_succ,↓gvd_zero,↓and_of,im_of,im_of trivial,vlt,hP,hst,initS,Nat.reduceBEq,Nat.reduceAdd,Nat.reduceMul,Nat.reduceSub,Nat.reduceDiv,Nat.reduceMod,Nat.reducePow,Nat.reduceLT,Nat.reduceLeDiff,Nat.reduceEqDiff,Int.reduceAdd,Int.reduceSub,Int.reduceNeg,Int.reduceMul,Int.reduceToNat,Int.reducePow,Int.reduceLE,Int.reduceLT,Int.reduceEq,Int.reduceNe,reduceIte,reduceCtorEq,ne_eq,not_true_eq_false,not_false_eq_true,imp_self,implies_true,bls,eq_self,h1,h2,↓fill39]
  refine F_idx (ar39_get (i := p.toNat) (by omega)) (by omega) (by omega) ?_
  simp (disch:=first|assumption|omega|(simp only [lens];omega)) only [eqs,↓gvd_succ,↓gvd_zero,↓and_of,im_of,im_of trivial,vlt,hP,hst,initS,Nat.reduceBEq,Nat.reduceAdd,Nat.reduceMul,Nat.reduceSub,Nat.reduceDiv,Nat.reduceMod,Nat.reducePow,Nat.reduceLT,Nat.reduceLeDiff,Nat.reduceEqDiff,Int.reduceAdd,Int.reduceSub,Int.reduceNeg,Int.reduceMul,Int.reduceToNat,Int.reducePow,Int.reduceLE,Int.reduceLT,Int.reduceEq,Int.reduceNe,reduceIte,reduceCtorEq,ne_eq,not_true_eq_false,not_false_eq_true,imp_self,implies_true,bls,eq_self]
  exact hK
theorem s_prim7 : PSpec Tryz.prog 41 RPrim := by
  refine fspec_of (fn := Tryz.f41) 1 [.tmp 2, .tmp 3, .tmp 4] (by kernel_rfl) rfl rfl (by kernel_rfl) mixed (by rintro _ _ _ ⟨p, rfl, _⟩; rfl) ?_
  rintro X _ st K hP hst ⟨p, rfl, hp1, hp2, hK⟩
  refine vc_V ?_
  simp (disch:=first|assumption|omega|(simp only [lens];omega)) only [eqs,↓gvd_succ,↓gvd_zero,↓and_of,im_of,im_of trivial,vlt,hP,hst,initS,Nat.reduceBEq,Nat.reduceAdd,Nat.reduceMul,Nat.reduceSub,Nat.reduceDiv,Nat.reduceMod,Nat.reducePow,Nat.reduceLT,Nat.reduceLeDiff,Nat.reduceEqDiff,Int.reduceAdd,Int.reduceSub,Int.reduceNeg,Int.reduceMul,Int.reduceToNat,Int.reducePow,Int.reduceLE,Int.reduceLT,Int.reduceEq,Int.reduceNe,reduceIte,reduceCtorEq,ne_eq,not_true_eq_false,not_false_eq_true,imp_self,implies_true,bls,eq_self,↓fill38]
  refine V_loop (ι := Nat) (fun i => [(8, .val (.int .i64 (i : Int))), (7, .agg names38), (0, .val (.string (namesL.getD p ⟨#[]⟩)))]) (fun _ => st) (fun i => i + 1 ≤ p) (fun i => 39 - i) 0 (by omega) rfl (by simp (disch:=first|assumption|omega|(simp only [lens];omega)) only [eqs,↓gvd_succ,↓gvd_zero,↓and_of,im_of,im_of trivial,vlt,hP,hst,initS,Nat.reduceBEq,Nat.reduceAdd,Nat.reduceMul,Nat.reduceSub,Nat.reduceDiv,Nat.reduceMod,Nat.reducePow,Nat.reduceLT,Nat.reduceLeDiff,Nat.reduceEqDiff,Int.reduceAdd,Int.reduceSub,Int.reduceNeg,Int.reduceMul,Int.reduceToNat,Int.reducePow,Int.reduceLE,Int.reduceLT,Int.reduceEq,Int.reduceNe,reduceIte,reduceCtorEq,ne_eq,not_true_eq_false,not_false_eq_true,imp_self,implies_true,bls,eq_self] <;> rfl) ?_
  intro i hi
  simp (disch:=first|assumption|omega|(simp only [lens];omega)) only [eqs,↓gvd_succ,↓gvd_zero,↓and_of,im_of,im_of trivial,vlt,hP,hst,initS,Nat.reduceBEq,Nat.reduceAdd,Nat.reduceMul,Nat.reduceSub,Nat.reduceDiv,Nat.reduceMod,Nat.reducePow,Nat.reduceLT,Nat.reduceLeDiff,Nat.reduceEqDiff,Int.reduceAdd,Int.reduceSub,Int.reduceNeg,Int.reduceMul,Int.reduceToNat,Int.reducePow,Int.reduceLE,Int.reduceLT,Int.reduceEq,Int.reduceNe,reduceIte,reduceCtorEq,ne_eq,not_true_eq_false,not_false_eq_true,imp_self,implies_true,bls,eq_self]
  refine C_dec (fun h => ?_) (fun h => ?_)
  rotate_left
  · omega
  simp (disch:=first|assumption|omega|(simp only [lens];omega)) only [eqs,↓gvd_succ,↓gvd_zero,↓and_of,im_of,im_of trivial,vlt,hP,hst,initS,Nat.reduceBEq,Nat.reduceAdd,Nat.reduceMul,Nat.reduceSub,Nat.reduceDiv,Nat.reduceMod,Nat.reducePow,Nat.reduceLT,Nat.reduceLeDiff,Nat.reduceEqDiff,Int.reduceAdd,Int.reduceSub,Int.reduceNeg,Int.reduceMul,Int.reduceToNat,Int.reducePow,Int.reduceLE,Int.reduceLT,Int.reduceEq,Int.reduceNe,reduceIte,reduceCtorEq,ne_eq,not_true_eq_false,not_false_eq_true,imp_self,implies_true,bls,eq_self]
  refine F_idx (names38_get (i := i) (by omega)) rfl (by omega) ?_
  simp (disch:=first|assumption|omega|(simp only [lens];omega)) only [eqs,↓gvd_succ,↓gvd_zero,↓and_of,im_of,im_of trivial,vlt,hP,hst,initS,Nat.reduceBEq,Nat.reduceAdd,Nat.reduceMul,Nat.reduceSub,Nat.reduceDiv,Nat.reduceMod,Nat.reducePow,Nat.reduceLT,Nat.reduceLeDiff,Nat.reduceEqDiff,Int.reduceAdd,Int.reduceSub,Int.reduceNeg,Int.reduceMul,Int.reduceToNat,Int.reducePow,Int.reduceLE,Int.reduceLT,Int.reduceEq,Int.reduceNe,reduceIte,reduceCtorEq,ne_eq,not_true_eq_false,not_false_eq_true,imp_self,implies_true,bls,eq_self,str_eq2]
  refine C_dec (fun h3 => ?_) (fun h3 => ?_)
  · have hip : i + 1 = p := by
      rcases Nat.lt_or_ge (i + 1) p with h4 | h4
      · exact absurd h3 (names_nodup p hp2 (i + 1) h4 (by omega))
      · omega
    subst hip
    simp (disch:=first|assumption|omega|(simp only [lens];omega)) only [eqs,↓gvd_succ,↓gvd_zero,↓and_of,im_of,im_of trivial,vlt,hP,hst,initS,Nat.reduceBEq,Nat.reduceAdd,Nat.reduceMul,Nat.reduceSub,Nat.reduceDiv,Nat.reduceMod,Nat.reducePow,Nat.reduceLT,Nat.reduceLeDiff,Nat.reduceEqDiff,Int.reduceAdd,Int.reduceSub,Int.reduceNeg,Int.reduceMul,Int.reduceToNat,Int.reducePow,Int.reduceLE,Int.reduceLT,Int.reduceEq,Int.reduceNe,reduceIte,reduceCtorEq,ne_eq,not_true_eq_false,not_false_eq_true,imp_self,implies_true,bls,eq_self]
    refine E_call (hP ▸ s_arity7) ⟨(i : Int) + 1, rfl, ?_⟩
    rw [arM_in (by omega), show ((i : Int) + 1).toNat = i + 1 by omega]
    simp (disch:=first|assumption|omega|(simp only [lens];omega)) only [eqs,↓gvd_succ,↓gvd_zero,↓and_of,im_of,im_of trivial,vlt,hP,hst,initS,Nat.reduceBEq,Nat.reduceAdd,Nat.reduceMul,Nat.reduceSub,Nat.reduceDiv,Nat.reduceMod,Nat.reducePow,Nat.reduceLT,Nat.reduceLeDiff,Nat.reduceEqDiff,Int.reduceAdd,Int.reduceSub,Int.reduceNeg,Int.reduceMul,Int.reduceToNat,Int.reducePow,Int.reduceLE,Int.reduceLT,Int.reduceEq,Int.reduceNe,reduceIte,reduceCtorEq,ne_eq,not_true_eq_false,not_false_eq_true,imp_self,implies_true,bls,eq_self]
    exact hK
  · have hip : i + 1 ≠ p := by rintro rfl; exact h3 rfl
    simp (disch:=first|assumption|omega|(simp only [lens];omega)) only [eqs,↓gvd_succ,↓gvd_zero,↓and_of,im_of,im_of trivial,vlt,hP,hst,initS,Nat.reduceBEq,Nat.reduceAdd,Nat.reduceMul,Nat.reduceSub,Nat.reduceDiv,Nat.reduceMod,Nat.reducePow,Nat.reduceLT,Nat.reduceLeDiff,Nat.reduceEqDiff,Int.reduceAdd,Int.reduceSub,Int.reduceNeg,Int.reduceMul,Int.reduceToNat,Int.reducePow,Int.reduceLE,Int.reduceLT,Int.reduceEq,Int.reduceNe,reduceIte,reduceCtorEq,ne_eq,not_true_eq_false,not_false_eq_true,imp_self,implies_true,bls,eq_self]
    exact again (i + 1) (by omega) (by omega) rfl (by simp (disch:=first|assumption|omega|(simp only [lens];omega)) only [eqs,↓gvd_succ,↓gvd_zero,↓and_of,im_of,im_of trivial,vlt,hP,hst,initS,Nat.reduceBEq,Nat.reduceAdd,Nat.reduceMul,Nat.reduceSub,Nat.reduceDiv,Nat.reduceMod,Nat.reducePow,Nat.reduceLT,Nat.reduceLeDiff,Nat.reduceEqDiff,Int.reduceAdd,Int.reduceSub,Int.reduceNeg,Int.reduceMul,Int.reduceToNat,Int.reducePow,Int.reduceLE,Int.reduceLT,Int.reduceEq,Int.reduceNe,reduceIte,reduceCtorEq,ne_eq,not_true_eq_false,not_false_eq_true,imp_self,implies_true,bls,eq_self] <;> rfl)
theorem nameM_in {p : Int} (h : 1 ≤ p ∧ p < 39) : nameM p = namesL.getD p.toNat ⟨#[]⟩ := if_pos h
theorem nameM_out {p : Int} (h : ¬(1 ≤ p ∧ p < 39)) : nameM p = ⟨#[]⟩ := if_neg h
theorem s_name9 : PSpec Tryz.prog 14 RName := by
  refine fspec_of (fn := Tryz.f14) 1 [.tmp 2] (by kernel_rfl) rfl rfl (by kernel_rfl) mixed (by rintro _ _ _ ⟨p, rfl, _⟩; rfl) ?_
  rintro X _ st K hP hst ⟨p, rfl, hK⟩
  refine vc_V ?_
  simp (disch:=first|assumption|omega|(simp only [lens];omega)) only [eqs,↓gvd_succ,↓gvd_zero,↓and_of,im_of,im_of trivial,vlt,hP,hst,initS,Nat.reduceBEq,Nat.reduceAdd,Nat.reduceMul,Nat.reduceSub,Nat.reduceDiv,Nat.reduceMod,Nat.reducePow,Nat.reduceLT,Nat.reduceLeDiff,Nat.reduceEqDiff,Int.reduceAdd,Int.reduceSub,Int.reduceNeg,Int.reduceMul,Int.reduceToNat,Int.reducePow,Int.reduceLE,Int.reduceLT,Int.reduceEq,Int.reduceNe,reduceIte,reduceCtorEq,ne_eq,not_true_eq_false,not_false_eq_true,imp_self,implies_true,bls,eq_self,↓fill38]
  refine V_loop (ι := Nat) (fun i => [(9, .val (.int .i64 (i : Int))), (8, .agg names38), (0, .val (.int .i64 p))]) (fun _ => st) (fun i => i ≤ 38 ∧ ∀ j : Nat, j < i → (j : Int) + 1 ≠ p) (fun i => 38 - i) 0 ⟨by omega, by simp⟩ rfl (by simp (disch:=first|assumption|omega|(simp only [lens];omega)) only [eqs,↓gvd_succ,↓gvd_zero,↓and_of,im_of,im_of trivial,vlt,hP,hst,initS,Nat.reduceBEq,Nat.reduceAdd,Nat.reduceMul,Nat.reduceSub,Nat.reduceDiv,Nat.reduceMod,Nat.reducePow,Nat.reduceLT,Nat.reduceLeDiff,Nat.reduceEqDiff,Int.reduceAdd,Int.reduceSub,Int.reduceNeg,Int.reduceMul,Int.reduceToNat,Int.reducePow,Int.reduceLE,Int.reduceLT,Int.reduceEq,Int.reduceNe,reduceIte,reduceCtorEq,ne_eq,not_true_eq_false,not_false_eq_true,imp_self,implies_true,bls,eq_self] <;> rfl) ?_
  rintro i ⟨hi, hj⟩
  simp (disch:=first|assumption|omega|(simp only [lens];omega)) only [eqs,↓gvd_succ,↓gvd_zero,↓and_of,im_of,im_of trivial,vlt,hP,hst,initS,Nat.reduceBEq,Nat.reduceAdd,Nat.reduceMul,Nat.reduceSub,Nat.reduceDiv,Nat.reduceMod,Nat.reducePow,Nat.reduceLT,Nat.reduceLeDiff,Nat.reduceEqDiff,Int.reduceAdd,Int.reduceSub,Int.reduceNeg,Int.reduceMul,Int.reduceToNat,Int.reducePow,Int.reduceLE,Int.reduceLT,Int.reduceEq,Int.reduceNe,reduceIte,reduceCtorEq,ne_eq,not_true_eq_false,not_false_eq_true,imp_self,implies_true,bls,eq_self]
  refine C_dec (fun h => ?_) (fun h => ?_)
  · simp (disch:=first|assumption|omega|(simp only [lens];omega)) only [eqs,↓gvd_succ,↓gvd_zero,↓and_of,im_of,im_of trivial,vlt,hP,hst,initS,Nat.reduceBEq,Nat.reduceAdd,Nat.reduceMul,Nat.reduceSub,Nat.reduceDiv,Nat.reduceMod,Nat.reducePow,Nat.reduceLT,Nat.reduceLeDiff,Nat.reduceEqDiff,Int.reduceAdd,Int.reduceSub,Int.reduceNeg,Int.reduceMul,Int.reduceToNat,Int.reducePow,Int.reduceLE,Int.reduceLT,Int.reduceEq,Int.reduceNe,reduceIte,reduceCtorEq,ne_eq,not_true_eq_false,not_false_eq_true,imp_self,implies_true,bls,eq_self]
    refine F_idx (names38_get (i := i) (by omega)) rfl (by omega) ?_
    simp (disch:=first|assumption|omega|(simp only [lens];omega)) only [eqs,↓gvd_succ,↓gvd_zero,↓and_of,im_of,im_of trivial,vlt,hP,hst,initS,Nat.reduceBEq,Nat.reduceAdd,Nat.reduceMul,Nat.reduceSub,Nat.reduceDiv,Nat.reduceMod,Nat.reducePow,Nat.reduceLT,Nat.reduceLeDiff,Nat.reduceEqDiff,Int.reduceAdd,Int.reduceSub,Int.reduceNeg,Int.reduceMul,Int.reduceToNat,Int.reducePow,Int.reduceLE,Int.reduceLT,Int.reduceEq,Int.reduceNe,reduceIte,reduceCtorEq,ne_eq,not_true_eq_false,not_false_eq_true,imp_self,implies_true,bls,eq_self]
    refine E_call (hP ▸ s_prim7) ⟨i + 1, rfl, by omega, by omega, ?_⟩
    simp (disch:=first|assumption|omega|(simp only [lens];omega)) only [eqs,↓gvd_succ,↓gvd_zero,↓and_of,im_of,im_of trivial,vlt,hP,hst,initS,Nat.reduceBEq,Nat.reduceAdd,Nat.reduceMul,Nat.reduceSub,Nat.reduceDiv,Nat.reduceMod,Nat.reducePow,Nat.reduceLT,Nat.reduceLeDiff,Nat.reduceEqDiff,Int.reduceAdd,Int.reduceSub,Int.reduceNeg,Int.reduceMul,Int.reduceToNat,Int.reducePow,Int.reduceLE,Int.reduceLT,Int.reduceEq,Int.reduceNe,reduceIte,reduceCtorEq,ne_eq,not_true_eq_false,not_false_eq_true,imp_self,implies_true,bls,eq_self]
    refine C_dec (fun h2 => ?_) (fun h2 => ?_)
    · subst h2
      rw [nameM_in (by omega), show ((i : Int) + 1).toNat = i + 1 by omega] at hK
      simp (disch:=first|assumption|omega|(simp only [lens];omega)) only [eqs,↓gvd_succ,↓gvd_zero,↓and_of,im_of,im_of trivial,vlt,hP,hst,initS,Nat.reduceBEq,Nat.reduceAdd,Nat.reduceMul,Nat.reduceSub,Nat.reduceDiv,Nat.reduceMod,Nat.reducePow,Nat.reduceLT,Nat.reduceLeDiff,Nat.reduceEqDiff,Int.reduceAdd,Int.reduceSub,Int.reduceNeg,Int.reduceMul,Int.reduceToNat,Int.reducePow,Int.reduceLE,Int.reduceLT,Int.reduceEq,Int.reduceNe,reduceIte,reduceCtorEq,ne_eq,not_true_eq_false,not_false_eq_true,imp_self,implies_true,bls,eq_self]
      exact hK
    · simp (disch:=first|assumption|omega|(simp only [lens];omega)) only [eqs,↓gvd_succ,↓gvd_zero,↓and_of,im_of,im_of trivial,vlt,hP,hst,initS,Nat.reduceBEq,Nat.reduceAdd,Nat.reduceMul,Nat.reduceSub,Nat.reduceDiv,Nat.reduceMod,Nat.reducePow,Nat.reduceLT,Nat.reduceLeDiff,Nat.reduceEqDiff,Int.reduceAdd,Int.reduceSub,Int.reduceNeg,Int.reduceMul,Int.reduceToNat,Int.reducePow,Int.reduceLE,Int.reduceLT,Int.reduceEq,Int.reduceNe,reduceIte,reduceCtorEq,ne_eq,not_true_eq_false,not_false_eq_true,imp_self,implies_true,bls,eq_self]
      refine again (i + 1) ⟨by omega, fun j hj2 => ?_⟩ (by omega) rfl (by simp (disch:=first|assumption|omega|(simp only [lens];omega)) only [eqs,↓gvd_succ,↓gvd_zero,↓and_of,im_of,im_of trivial,vlt,hP,hst,initS,Nat.reduceBEq,Nat.reduceAdd,Nat.reduceMul,Nat.reduceSub,Nat.reduceDiv,Nat.reduceMod,Nat.reducePow,Nat.reduceLT,Nat.reduceLeDiff,Nat.reduceEqDiff,Int.reduceAdd,Int.reduceSub,Int.reduceNeg,Int.reduceMul,Int.reduceToNat,Int.reducePow,Int.reduceLE,Int.reduceLT,Int.reduceEq,Int.reduceNe,reduceIte,reduceCtorEq,ne_eq,not_true_eq_false,not_false_eq_true,imp_self,implies_true,bls,eq_self] <;> rfl)
      by_cases hji : j = i
      · subst hji; omega
      · exact hj j (by omega)
  · rw [nameM_out (fun h2 => hj (p - 1).toNat (by omega) (by omega))] at hK
    simp (disch:=first|assumption|omega|(simp only [lens];omega)) only [eqs,↓gvd_succ,↓gvd_zero,↓and_of,im_of,im_of trivial,vlt,hP,hst,initS,Nat.reduceBEq,Nat.reduceAdd,Nat.reduceMul,Nat.reduceSub,Nat.reduceDiv,Nat.reduceMod,Nat.reducePow,Nat.reduceLT,Nat.reduceLeDiff,Nat.reduceEqDiff,Int.reduceAdd,Int.reduceSub,Int.reduceNeg,Int.reduceMul,Int.reduceToNat,Int.reducePow,Int.reduceLE,Int.reduceLT,Int.reduceEq,Int.reduceNe,reduceIte,reduceCtorEq,ne_eq,not_true_eq_false,not_false_eq_true,imp_self,implies_true,bls,eq_self]
    exact hK
def impureL : List Int := [24, 26, 27]
def impureA : List AV := impureL.map fun n => .val (.int .i64 n)
/-- What the third table holds. -/
def GI (w : World) : Prop := VRel w [] (.pointer (some ⟨0, 0, none⟩)) (.imp impureA)
theorem impureA_len : impureA.length = 3 := rfl
theorem impure_get {i : Nat} (h : i < 3) : impureA[i]? = some (.val (.int .i64 (impureL.getD i 0))) := by
  match i, h with
  | 0, _ => rfl
  | 1, _ => rfl
  | 2, _ => rfl
theorem impure_is {i : Nat} (h : i < 3) : pureM (impureL.getD i 0) = false := by
  match i, h with
  | 0, _ => rfl
  | 1, _ => rfl
  | 2, _ => rfl
theorem s_primPure : ∀ w0, GI w0 → PSpecAt Tryz.prog w0 9 RPureM := by
  refine gspec_of (fn := Tryz.f9) 1 [.tmp 2] (by kernel_rfl) rfl rfl (by kernel_rfl) mixed (by rintro _ _ _ ⟨p, rfl, _⟩; rfl) ?_
  rintro X _ st K hP hst hG ⟨p, rfl, hK⟩
  refine vc_V ?_
  simp (disch:=first|assumption|omega|(simp only [lens];omega)) only [eqs,↓gvd_succ,↓gvd_zero,↓and_of,im_of,im_of trivial,vlt,hP,hst,initS,Nat.reduceBEq,Nat.reduceAdd,Nat.reduceMul,Nat.reduceSub,Nat.reduceDiv,Nat.reduceMod,Nat.reducePow,Nat.reduceLT,Nat.reduceLeDiff,Nat.reduceEqDiff,Int.reduceAdd,Int.reduceSub,Int.reduceNeg,Int.reduceMul,Int.reduceToNat,Int.reducePow,Int.reduceLE,Int.reduceLT,Int.reduceEq,Int.reduceNe,reduceIte,reduceCtorEq,ne_eq,not_true_eq_false,not_false_eq_true,imp_self,implies_true,bls,eq_self,ev_global]
  refine F_loadG hG ?_
  have t3 : List.take 3 impureA = impureA := rfl
  simp (disch:=first|assumption|omega|(simp only [lens];omega)) only [eqs,↓gvd_succ,↓gvd_zero,↓and_of,im_of,im_of trivial,vlt,hP,hst,initS,Nat.reduceBEq,Nat.reduceAdd,Nat.reduceMul,Nat.reduceSub,Nat.reduceDiv,Nat.reduceMod,Nat.reducePow,Nat.reduceLT,Nat.reduceLeDiff,Nat.reduceEqDiff,Int.reduceAdd,Int.reduceSub,Int.reduceNeg,Int.reduceMul,Int.reduceToNat,Int.reducePow,Int.reduceLE,Int.reduceLT,Int.reduceEq,Int.reduceNe,reduceIte,reduceCtorEq,ne_eq,not_true_eq_false,not_false_eq_true,imp_self,implies_true,bls,eq_self,impureA_len,t3,ar_good,ar_size,ar_agg]
  refine V_loop (ι := Nat) (fun i => [(6, .val (.int .i64 (i : Int))), (5, .agg impureA), (0, .val (.int .i64 p))]) (fun _ => st) (fun i => i ≤ 3 ∧ ∀ j : Nat, j < i → impureL.getD j 0 ≠ p) (fun i => 3 - i) 0 ⟨by omega, by simp⟩ rfl (by simp (disch:=first|assumption|omega|(simp only [lens];omega)) only [eqs,↓gvd_succ,↓gvd_zero,↓and_of,im_of,im_of trivial,vlt,hP,hst,initS,Nat.reduceBEq,Nat.reduceAdd,Nat.reduceMul,Nat.reduceSub,Nat.reduceDiv,Nat.reduceMod,Nat.reducePow,Nat.reduceLT,Nat.reduceLeDiff,Nat.reduceEqDiff,Int.reduceAdd,Int.reduceSub,Int.reduceNeg,Int.reduceMul,Int.reduceToNat,Int.reducePow,Int.reduceLE,Int.reduceLT,Int.reduceEq,Int.reduceNe,reduceIte,reduceCtorEq,ne_eq,not_true_eq_false,not_false_eq_true,imp_self,implies_true,bls,eq_self] <;> rfl) ?_
  rintro i ⟨hi, hj⟩
  simp (disch:=first|assumption|omega|(simp only [lens];omega)) only [eqs,↓gvd_succ,↓gvd_zero,↓and_of,im_of,im_of trivial,vlt,hP,hst,initS,Nat.reduceBEq,Nat.reduceAdd,Nat.reduceMul,Nat.reduceSub,Nat.reduceDiv,Nat.reduceMod,Nat.reducePow,Nat.reduceLT,Nat.reduceLeDiff,Nat.reduceEqDiff,Int.reduceAdd,Int.reduceSub,Int.reduceNeg,Int.reduceMul,Int.reduceToNat,Int.reducePow,Int.reduceLE,Int.reduceLT,Int.reduceEq,Int.reduceNe,reduceIte,reduceCtorEq,ne_eq,not_true_eq_false,not_false_eq_true,imp_self,implies_true,bls,eq_self]
  refine C_dec (fun h => ?_) (fun h => ?_)
  · simp (disch:=first|assumption|omega|(simp only [lens];omega)) only [eqs,↓gvd_succ,↓gvd_zero,↓and_of,im_of,im_of trivial,vlt,hP,hst,initS,Nat.reduceBEq,Nat.reduceAdd,Nat.reduceMul,Nat.reduceSub,Nat.reduceDiv,Nat.reduceMod,Nat.reducePow,Nat.reduceLT,Nat.reduceLeDiff,Nat.reduceEqDiff,Int.reduceAdd,Int.reduceSub,Int.reduceNeg,Int.reduceMul,Int.reduceToNat,Int.reducePow,Int.reduceLE,Int.reduceLT,Int.reduceEq,Int.reduceNe,reduceIte,reduceCtorEq,ne_eq,not_true_eq_false,not_false_eq_true,imp_self,implies_true,bls,eq_self]
    refine F_idx (impure_get (i := i) (by omega)) rfl (by omega) ?_
    simp (disch:=first|assumption|omega|(simp only [lens];omega)) only [eqs,↓gvd_succ,↓gvd_zero,↓and_of,im_of,im_of trivial,vlt,hP,hst,initS,Nat.reduceBEq,Nat.reduceAdd,Nat.reduceMul,Nat.reduceSub,Nat.reduceDiv,Nat.reduceMod,Nat.reducePow,Nat.reduceLT,Nat.reduceLeDiff,Nat.reduceEqDiff,Int.reduceAdd,Int.reduceSub,Int.reduceNeg,Int.reduceMul,Int.reduceToNat,Int.reducePow,Int.reduceLE,Int.reduceLT,Int.reduceEq,Int.reduceNe,reduceIte,reduceCtorEq,ne_eq,not_true_eq_false,not_false_eq_true,imp_self,implies_true,bls,eq_self]
    refine C_dec (fun h2 => ?_) (fun h2 => ?_)
    · subst h2
      rw [impure_is (by omega)] at hK
      simp (disch:=first|assumption|omega|(simp only [lens];omega)) only [eqs,↓gvd_succ,↓gvd_zero,↓and_of,im_of,im_of trivial,vlt,hP,hst,initS,Nat.reduceBEq,Nat.reduceAdd,Nat.reduceMul,Nat.reduceSub,Nat.reduceDiv,Nat.reduceMod,Nat.reducePow,Nat.reduceLT,Nat.reduceLeDiff,Nat.reduceEqDiff,Int.reduceAdd,Int.reduceSub,Int.reduceNeg,Int.reduceMul,Int.reduceToNat,Int.reducePow,Int.reduceLE,Int.reduceLT,Int.reduceEq,Int.reduceNe,reduceIte,reduceCtorEq,ne_eq,not_true_eq_false,not_false_eq_true,imp_self,implies_true,bls,eq_self]
      exact hK
    · simp (disch:=first|assumption|omega|(simp only [lens];omega)) only [eqs,↓gvd_succ,↓gvd_zero,↓and_of,im_of,im_of trivial,vlt,hP,hst,initS,Nat.reduceBEq,Nat.reduceAdd,Nat.reduceMul,Nat.reduceSub,Nat.reduceDiv,Nat.reduceMod,Nat.reducePow,Nat.reduceLT,Nat.reduceLeDiff,Nat.reduceEqDiff,Int.reduceAdd,Int.reduceSub,Int.reduceNeg,Int.reduceMul,Int.reduceToNat,Int.reducePow,Int.reduceLE,Int.reduceLT,Int.reduceEq,Int.reduceNe,reduceIte,reduceCtorEq,ne_eq,not_true_eq_false,not_false_eq_true,imp_self,implies_true,bls,eq_self]
      refine again (i + 1) ⟨by omega, fun j hj2 => ?_⟩ (by omega) rfl (by simp (disch:=first|assumption|omega|(simp only [lens];omega)) only [eqs,↓gvd_succ,↓gvd_zero,↓and_of,im_of,im_of trivial,vlt,hP,hst,initS,Nat.reduceBEq,Nat.reduceAdd,Nat.reduceMul,Nat.reduceSub,Nat.reduceDiv,Nat.reduceMod,Nat.reducePow,Nat.reduceLT,Nat.reduceLeDiff,Nat.reduceEqDiff,Int.reduceAdd,Int.reduceSub,Int.reduceNeg,Int.reduceMul,Int.reduceToNat,Int.reducePow,Int.reduceLE,Int.reduceLT,Int.reduceEq,Int.reduceNe,reduceIte,reduceCtorEq,ne_eq,not_true_eq_false,not_false_eq_true,imp_self,implies_true,bls,eq_self] <;> rfl)
      by_cases hji : j = i
      · subst hji; exact h2
      · exact hj j (by omega)
  · have n1 : p ≠ 24 := Ne.symm (hj 0 (by omega))
    have n2 : p ≠ 26 := Ne.symm (hj 1 (by omega))
    have n3 : p ≠ 27 := Ne.symm (hj 2 (by omega))
    simp (disch:=first|assumption|omega|(simp only [lens];omega)) only [eqs,↓gvd_succ,↓gvd_zero,↓and_of,im_of,im_of trivial,vlt,hP,hst,initS,Nat.reduceBEq,Nat.reduceAdd,Nat.reduceMul,Nat.reduceSub,Nat.reduceDiv,Nat.reduceMod,Nat.reducePow,Nat.reduceLT,Nat.reduceLeDiff,Nat.reduceEqDiff,Int.reduceAdd,Int.reduceSub,Int.reduceNeg,Int.reduceMul,Int.reduceToNat,Int.reducePow,Int.reduceLE,Int.reduceLT,Int.reduceEq,Int.reduceNe,reduceIte,reduceCtorEq,ne_eq,not_true_eq_false,not_false_eq_true,imp_self,implies_true,bls,eq_self]
    refine E_call (hP ▸ s_Plain) ⟨p, rfl, ?_⟩
    cases hp : plainM p
    · by_cases b1 : p = 20
      · subst b1
        rw [show pureM 20 = true from rfl] at hK
        simp (disch:=first|assumption|omega|(simp only [lens];omega)) only [eqs,↓gvd_succ,↓gvd_zero,↓and_of,im_of,im_of trivial,vlt,hP,hst,initS,Nat.reduceBEq,Nat.reduceAdd,Nat.reduceMul,Nat.reduceSub,Nat.reduceDiv,Nat.reduceMod,Nat.reducePow,Nat.reduceLT,Nat.reduceLeDiff,Nat.reduceEqDiff,Int.reduceAdd,Int.reduceSub,Int.reduceNeg,Int.reduceMul,Int.reduceToNat,Int.reducePow,Int.reduceLE,Int.reduceLT,Int.reduceEq,Int.reduceNe,reduceIte,reduceCtorEq,ne_eq,not_true_eq_false,not_false_eq_true,imp_self,implies_true,bls,eq_self]
        exact hK
      by_cases b2 : p = 38
      · subst b2
        rw [show pureM 38 = true from rfl] at hK
        simp (disch:=first|assumption|omega|(simp only [lens];omega)) only [eqs,↓gvd_succ,↓gvd_zero,↓and_of,im_of,im_of trivial,vlt,hP,hst,initS,Nat.reduceBEq,Nat.reduceAdd,Nat.reduceMul,Nat.reduceSub,Nat.reduceDiv,Nat.reduceMod,Nat.reducePow,Nat.reduceLT,Nat.reduceLeDiff,Nat.reduceEqDiff,Int.reduceAdd,Int.reduceSub,Int.reduceNeg,Int.reduceMul,Int.reduceToNat,Int.reducePow,Int.reduceLE,Int.reduceLT,Int.reduceEq,Int.reduceNe,reduceIte,reduceCtorEq,ne_eq,not_true_eq_false,not_false_eq_true,imp_self,implies_true,bls,eq_self]
        exact hK
      rw [show pureM p = false by unfold pureM; simp [hp, b1, b2]] at hK
      simp (disch:=first|assumption|omega|(simp only [lens];omega)) only [eqs,↓gvd_succ,↓gvd_zero,↓and_of,im_of,im_of trivial,vlt,hP,hst,initS,Nat.reduceBEq,Nat.reduceAdd,Nat.reduceMul,Nat.reduceSub,Nat.reduceDiv,Nat.reduceMod,Nat.reducePow,Nat.reduceLT,Nat.reduceLeDiff,Nat.reduceEqDiff,Int.reduceAdd,Int.reduceSub,Int.reduceNeg,Int.reduceMul,Int.reduceToNat,Int.reducePow,Int.reduceLE,Int.reduceLT,Int.reduceEq,Int.reduceNe,reduceIte,reduceCtorEq,ne_eq,not_true_eq_false,not_false_eq_true,imp_self,implies_true,bls,eq_self,b1,b2]
      exact hK
    · rw [show pureM p = true by unfold pureM; simp [hp, n1, n2, n3]] at hK
      simp (disch:=first|assumption|omega|(simp only [lens];omega)) only [eqs,↓gvd_succ,↓gvd_zero,↓and_of,im_of,im_of trivial,vlt,hP,hst,initS,Nat.reduceBEq,Nat.reduceAdd,Nat.reduceMul,Nat.reduceSub,Nat.reduceDiv,Nat.reduceMod,Nat.reducePow,Nat.reduceLT,Nat.reduceLeDiff,Nat.reduceEqDiff,Int.reduceAdd,Int.reduceSub,Int.reduceNeg,Int.reduceMul,Int.reduceToNat,Int.reducePow,Int.reduceLE,Int.reduceLT,Int.reduceEq,Int.reduceNe,reduceIte,reduceCtorEq,ne_eq,not_true_eq_false,not_false_eq_true,imp_self,implies_true,bls,eq_self]
      exact hK
end Go.Proofs.Pv

/- The document's primitives: what each tells. -/
namespace Go.Proofs.Pv
open Go Go.RowKit Go.Proofs
set_option maxRecDepth 20000

theorem z_qOf : PSpec Tryz.prog 36 RzOf := s_qOf.imp2 fun xs st K ⟨n, e, h1, h2, hK⟩ => ⟨n, e, h1, h2, fun v S' hv => hK v S' hv.ex (.mk hv (limbs_len_le (by omega)))⟩
set_option maxHeartbeats 8000000 in
theorem s_do9 : PSpec Tryz.prog 7 RDo := by
  refine fspec_of (fn := Tryz.f7) 2 [.cell 4 29, .tmp 5] (by kernel_rfl) rfl rfl (by kernel_rfl) mixed (by rintro _ _ _ ⟨p, y, ds, rfl, _⟩; rfl) ?_
  rintro X _ st K hP hst ⟨p, y, ds, rfl, hy, hlen, hok, hK⟩
  have hX : X.st1.length ≤ st.length := by rw [hst]; omega
  refine vc_V ?_
  simp (disch:=first|assumption|omega|(simp only [lens];omega)) only [eqs,↓gvd_succ,↓gvd_zero,↓and_of,im_of,im_of trivial,vlt,hP,hst,initS,Nat.reduceBEq,Nat.reduceAdd,Nat.reduceMul,Nat.reduceSub,Nat.reduceDiv,Nat.reduceMod,Nat.reducePow,Nat.reduceLT,Nat.reduceLeDiff,Nat.reduceEqDiff,Int.reduceAdd,Int.reduceSub,Int.reduceNeg,Int.reduceMul,Int.reduceToNat,Int.reducePow,Int.reduceLE,Int.reduceLT,Int.reduceEq,Int.reduceNe,reduceIte,reduceCtorEq,ne_eq,not_true_eq_false,not_false_eq_true,imp_self,implies_true,bls,eq_self,zD_map]
  obtain ⟨T0, hT0⟩ : ∃ T, st ++ [some [.val (.int .i64 0), .val (.bool false), .val (.slice none 0 0), .val (.bool false), .val (.string ⟨#[]⟩), .val (.slice none 0 0), .val (.slice none 0 0)]] = T := ⟨_, rfl⟩
  have gC : At T0 st.length _ := hT0 ▸ At.mk0
  have e0 : Ext st T0 := ⟨_, hT0.symm⟩
  rw [hT0]
  clear hT0
  have fin : ∀ (v : AV) (T : St) (e : Int), Ext T0 T → (doM p ds).2 = e → DA0 T v (doM p ds).1 → ∃ c, v = .agg c ∧ c.all leaf = true ∧ c.length = 7 ∧ List.take 7 c = c ∧ K (.tup [.agg c, .val (.int .i64 e)]) (T.set st.length (some c)) := by
    rintro v T e hT rfl hv
    obtain ⟨c, hc1, hc2, hc3, hc4, hc5⟩ := hv.da.all
    have hv2 := hv.setz (c' := c) (gC.ext hT) no32
    exact ⟨c, hc1, hc4, hc3, hc5, by rw [← hc1]; exact hK _ _ ((e0.trans hT).set (Nat.le_refl _) _) hv2⟩
  have bad : ∀ (T : St) (e : Int), Ext T0 T → doM p ds = (dNil, e) → K (.tup [.agg [.val (.int .i64 0), .val (.bool false), .val (.slice none 0 0), .val (.bool false), .val (.string ⟨#[]⟩), .val (.slice none 0 0), .val (.slice none 0 0)], .val (.int .i64 e)]) (T.set st.length (some [.val (.int .i64 0), .val (.bool false), .val (.slice none 0 0), .val (.bool false), .val (.string ⟨#[]⟩), .val (.slice none 0 0), .val (.slice none 0 0)])) := fun T e hT hE => by
    rw [hE] at hK
    exact hK _ _ ((e0.trans hT).set (Nat.le_refl _) _) (DA0.mk Nm.nil)
  refine E_call (hP ▸ s_plain9) ⟨p, rfl, ?_⟩
  simp (disch:=first|assumption|omega|(simp only [lens];omega)) only [eqs,↓gvd_succ,↓gvd_zero,↓and_of,im_of,im_of trivial,vlt,hP,hst,initS,Nat.reduceBEq,Nat.reduceAdd,Nat.reduceMul,Nat.reduceSub,Nat.reduceDiv,Nat.reduceMod,Nat.reducePow,Nat.reduceLT,Nat.reduceLeDiff,Nat.reduceEqDiff,Int.reduceAdd,Int.reduceSub,Int.reduceNeg,Int.reduceMul,Int.reduceToNat,Int.reducePow,Int.reduceLE,Int.reduceLT,Int.reduceEq,Int.reduceNe,reduceIte,reduceCtorEq,ne_eq,not_true_eq_false,not_false_eq_true,imp_self,implies_true,bls,eq_self]
  have gC0 := gC.get
  have gC1 := gC.lt
  refine C_bool (fun h => ?_) (fun h => ?_)
  · simp (disch:=first|assumption|omega|(simp only [lens];omega)) only [eqs,↓gvd_succ,↓gvd_zero,↓and_of,im_of,im_of trivial,vlt,hP,hst,initS,Nat.reduceBEq,Nat.reduceAdd,Nat.reduceMul,Nat.reduceSub,Nat.reduceDiv,Nat.reduceMod,Nat.reducePow,Nat.reduceLT,Nat.reduceLeDiff,Nat.reduceEqDiff,Int.reduceAdd,Int.reduceSub,Int.reduceNeg,Int.reduceMul,Int.reduceToNat,Int.reducePow,Int.reduceLE,Int.reduceLT,Int.reduceEq,Int.reduceNe,reduceIte,reduceCtorEq,ne_eq,not_true_eq_false,not_false_eq_true,imp_self,implies_true,bls,eq_self,gC0,gC1,hX,zD_map,zD7]
    exact bad T0 2 .refl (if_pos (by simpa using h))
  have hpl : plainM p = true := by simpa using h
  obtain ⟨cs, hsl, _, _⟩ := (hy.ext e0).inv
  simp (disch:=first|assumption|omega|(simp only [lens];omega)) only [eqs,↓gvd_succ,↓gvd_zero,↓and_of,im_of,im_of trivial,vlt,hP,hst,initS,Nat.reduceBEq,Nat.reduceAdd,Nat.reduceMul,Nat.reduceSub,Nat.reduceDiv,Nat.reduceMod,Nat.reducePow,Nat.reduceLT,Nat.reduceLeDiff,Nat.reduceEqDiff,Int.reduceAdd,Int.reduceSub,Int.reduceNeg,Int.reduceMul,Int.reduceToNat,Int.reducePow,Int.reduceLE,Int.reduceLT,Int.reduceEq,Int.reduceNe,reduceIte,reduceCtorEq,ne_eq,not_true_eq_false,not_false_eq_true,imp_self,implies_true,bls,eq_self,hsl]
  refine E_call (hP ▸ s_arity7) ⟨p, rfl, ?_⟩
  simp (disch:=first|assumption|omega|(simp only [lens];omega)) only [eqs,↓gvd_succ,↓gvd_zero,↓and_of,im_of,im_of trivial,vlt,hP,hst,initS,Nat.reduceBEq,Nat.reduceAdd,Nat.reduceMul,Nat.reduceSub,Nat.reduceDiv,Nat.reduceMod,Nat.reducePow,Nat.reduceLT,Nat.reduceLeDiff,Nat.reduceEqDiff,Int.reduceAdd,Int.reduceSub,Int.reduceNeg,Int.reduceMul,Int.reduceToNat,Int.reducePow,Int.reduceLE,Int.reduceLT,Int.reduceEq,Int.reduceNe,reduceIte,reduceCtorEq,ne_eq,not_true_eq_false,not_false_eq_true,imp_self,implies_true,bls,eq_self]
  refine C_dec (fun h1 => ?_) (fun h1 => ?_)
  · simp (disch:=first|assumption|omega|(simp only [lens];omega)) only [eqs,↓gvd_succ,↓gvd_zero,↓and_of,im_of,im_of trivial,vlt,hP,hst,initS,Nat.reduceBEq,Nat.reduceAdd,Nat.reduceMul,Nat.reduceSub,Nat.reduceDiv,Nat.reduceMod,Nat.reducePow,Nat.reduceLT,Nat.reduceLeDiff,Nat.reduceEqDiff,Int.reduceAdd,Int.reduceSub,Int.reduceNeg,Int.reduceMul,Int.reduceToNat,Int.reducePow,Int.reduceLE,Int.reduceLT,Int.reduceEq,Int.reduceNe,reduceIte,reduceCtorEq,ne_eq,not_true_eq_false,not_false_eq_true,imp_self,implies_true,bls,eq_self,gC0,gC1,hX,zD_map,zD7]
    exact bad T0 8 .refl (by unfold doM; rw [if_neg (by simp [hpl]), if_pos h1])
  have h1 := Classical.not_not.1 h1
  have hD : doM p ds = doL p ds := by unfold doM; rw [if_neg (by simp [hpl]), if_neg (by simp [h1])]
  have hpr : (1 ≤ p ∧ p ≤ 8) ∨ (14 ≤ p ∧ p ≤ 19) ∨ (21 ≤ p ∧ p ≤ 27) := of_decide_eq_true hpl
  simp (disch:=first|assumption|omega|(simp only [lens];omega)) only [eqs,↓gvd_succ,↓gvd_zero,↓and_of,im_of,im_of trivial,vlt,hP,hst,initS,Nat.reduceBEq,Nat.reduceAdd,Nat.reduceMul,Nat.reduceSub,Nat.reduceDiv,Nat.reduceMod,Nat.reducePow,Nat.reduceLT,Nat.reduceLeDiff,Nat.reduceEqDiff,Int.reduceAdd,Int.reduceSub,Int.reduceNeg,Int.reduceMul,Int.reduceToNat,Int.reducePow,Int.reduceLE,Int.reduceLT,Int.reduceEq,Int.reduceNe,reduceIte,reduceCtorEq,ne_eq,not_true_eq_false,not_false_eq_true,imp_self,implies_true,bls,eq_self]
  refine C_dec (fun h2 => ?_) (fun h2 => ?_)
  · have ha2 : arM p = 2 := arM_2 (by omega)
    obtain ⟨d0, d1, rfl⟩ : ∃ d0 d1, ds = [d0, d1] := by
      match ds, h1 with
      | [d0, d1], _ => exact ⟨d0, d1, rfl⟩
      | [], h1 => rw [ha2] at h1; simp at h1
      | [_], h1 => rw [ha2] at h1; simp at h1
      | _ :: _ :: _ :: _, h1 => rw [ha2] at h1; simp at h1; omega
    have f0 := hok d0 (by simp)
    have f1 := hok d1 (by simp)
    obtain ⟨k0, g0, a0, l0, b0, s0, x0, z0, its0, tls0, k1, g1, a1, l1, b1, s1, x1, z1, its1, tls1, rfl, rfl, hs, n0, i0, j0, n1, i1, j1⟩ := (hy.ext e0).two2
    have q1 := n0.leaf
    have q2 := i0.leaf
    have q3 := j0.leaf
    have q4 := n1.leaf
    have q5 := i1.leaf
    have q6 := j1.leaf
    simp (disch:=first|assumption|omega|(simp only [lens];omega)) only [eqs,↓gvd_succ,↓gvd_zero,↓and_of,im_of,im_of trivial,vlt,hP,hst,initS,Nat.reduceBEq,Nat.reduceAdd,Nat.reduceMul,Nat.reduceSub,Nat.reduceDiv,Nat.reduceMod,Nat.reducePow,Nat.reduceLT,Nat.reduceLeDiff,Nat.reduceEqDiff,Int.reduceAdd,Int.reduceSub,Int.reduceNeg,Int.reduceMul,Int.reduceToNat,Int.reducePow,Int.reduceLE,Int.reduceLT,Int.reduceEq,Int.reduceNe,reduceIte,reduceCtorEq,ne_eq,not_true_eq_false,not_false_eq_true,imp_self,implies_true,bls,eq_self]
    refine V_draw [0, 1, 2, 3, 4, 5, 6, 7, 8, 9, 10, 11] (by kernel_rfl) (.cons rfl <| .cons rfl <| .cons rfl <| .cons rfl <| .cons rfl <| .cons rfl <| .cons rfl <| .cons rfl <| .cons rfl <| .cons rfl <| .cons rfl <| .cons rfl <| .nil) ?_
    simp (disch:=first|assumption|omega|(simp only [lens];omega)) only [eqs,↓gvd_succ,↓gvd_zero,↓and_of,im_of,im_of trivial,vlt,hP,hst,initS,Nat.reduceBEq,Nat.reduceAdd,Nat.reduceMul,Nat.reduceSub,Nat.reduceDiv,Nat.reduceMod,Nat.reducePow,Nat.reduceLT,Nat.reduceLeDiff,Nat.reduceEqDiff,Int.reduceAdd,Int.reduceSub,Int.reduceNeg,Int.reduceMul,Int.reduceToNat,Int.reducePow,Int.reduceLE,Int.reduceLT,Int.reduceEq,Int.reduceNe,reduceIte,reduceCtorEq,ne_eq,not_true_eq_false,not_false_eq_true,imp_self,implies_true,bls,eq_self,hs,q1,q2,q3,q4,q5,q6]
    refine E_call (hP ▸ s_reckon) ⟨p, _, _, _, _, rfl, by omega, h2, DA.mk' n0 i0 j0, DA.mk' n1 i1 j1, f0.2.2.1, f1.2.2.1, fun v T2 hT2 hv => ?_⟩
    have hE : doM p [(.mk k0 g0 l0 b0 s0 its0 tls0), (.mk k1 g1 l1 b1 s1 its1 tls1)] = reckM p (.mk k0 g0 l0 b0 s0 its0 tls0) (.mk k1 g1 l1 b1 s1 its1 tls1) := by rw [hD, doL_le h2]; rfl
    obtain ⟨c, rfl, hc1, hc2, hc3, hc⟩ := fin v T2 _ (hT2) (by rw [hE]) (by rw [hE]; exact hv)
    have gD := (gC.ext (hT2)).get
    have gE := (gC.ext (hT2)).lt
    simp (disch:=first|assumption|omega|(simp only [lens];omega)) only [eqs,↓gvd_succ,↓gvd_zero,↓and_of,im_of,im_of trivial,vlt,hP,hst,initS,Nat.reduceBEq,Nat.reduceAdd,Nat.reduceMul,Nat.reduceSub,Nat.reduceDiv,Nat.reduceMod,Nat.reducePow,Nat.reduceLT,Nat.reduceLeDiff,Nat.reduceEqDiff,Int.reduceAdd,Int.reduceSub,Int.reduceNeg,Int.reduceMul,Int.reduceToNat,Int.reducePow,Int.reduceLE,Int.reduceLT,Int.reduceEq,Int.reduceNe,reduceIte,reduceCtorEq,ne_eq,not_true_eq_false,not_false_eq_true,imp_self,implies_true,bls,eq_self,gD,gE,hX,hc1,hc2,hc3,take7 hc2,List.append_nil,zD7]
    exact hc
  by_cases hq : p = 21 ∨ p = 24 ∨ p = 25
  · have ha2 : arM p = 2 := arM_2 (by omega)
    obtain ⟨d0, d1, rfl⟩ : ∃ d0 d1, ds = [d0, d1] := by
      match ds, h1 with
      | [d0, d1], _ => exact ⟨d0, d1, rfl⟩
      | [], h1 => rw [ha2] at h1; simp at h1
      | [_], h1 => rw [ha2] at h1; simp at h1
      | _ :: _ :: _ :: _, h1 => rw [ha2] at h1; simp at h1; omega
    have f0 := hok d0 (by simp)
    have f1 := hok d1 (by simp)
    have hy2 := hy
    obtain ⟨k0, g0, a0, l0, b0, s0, x0, z0, its0, tls0, k1, g1, a1, l1, b1, s1, x1, z1, its1, tls1, rfl, rfl, hs, n0, i0, j0, n1, i1, j1⟩ := (hy.ext e0).two2
    have q1 := n0.leaf
    have q2 := i0.leaf
    have q3 := j0.leaf
    have q4 := n1.leaf
    have q5 := i1.leaf
    have q6 := j1.leaf
    have hXT := Nat.le_trans hX e0.len
    rw [doL_gt h2] at hD
    have eT : ∀ c, Ext T0 (T0 ++ [some c]) := fun c => .add _
    have hs2 := fun y => sl_grow hs y
    have t0 := DA.mk' (k := k0) (g := g0) (b := b0) (s := s0) n0 i0 j0
    have t1 := DA.mk' (k := k1) (g := g1) (b := b1) (s := s1) n1 i1 j1
    rcases hq with rfl | rfl | rfl
    · simp (disch:=first|assumption|omega|(simp only [lens];omega)) only [eqs,↓gvd_succ,↓gvd_zero,↓and_of,im_of,im_of trivial,vlt,hP,hst,initS,Nat.reduceBEq,Nat.reduceAdd,Nat.reduceMul,Nat.reduceSub,Nat.reduceDiv,Nat.reduceMod,Nat.reducePow,Nat.reduceLT,Nat.reduceLeDiff,Nat.reduceEqDiff,Int.reduceAdd,Int.reduceSub,Int.reduceNeg,Int.reduceMul,Int.reduceToNat,Int.reducePow,Int.reduceLE,Int.reduceLT,Int.reduceEq,Int.reduceNe,reduceIte,reduceCtorEq,ne_eq,not_true_eq_false,not_false_eq_true,imp_self,implies_true,bls,eq_self,hs,q1,q2,q3,q4,q5,q6,hXT,zD_map,zD7,List.append_nil]
      refine V_draw [0, 1, 2, 3, 4, 5, 6, 7, 8, 9] (by kernel_rfl) (.cons rfl <| .cons rfl <| .cons rfl <| .cons rfl <| .cons rfl <| .cons rfl <| .cons rfl <| .cons rfl <| .cons rfl <| .cons rfl <| .nil) ?_
      simp (disch:=first|assumption|omega|(simp only [lens];omega)) only [eqs,↓gvd_succ,↓gvd_zero,↓and_of,im_of,im_of trivial,vlt,hP,hst,initS,Nat.reduceBEq,Nat.reduceAdd,Nat.reduceMul,Nat.reduceSub,Nat.reduceDiv,Nat.reduceMod,Nat.reducePow,Nat.reduceLT,Nat.reduceLeDiff,Nat.reduceEqDiff,Int.reduceAdd,Int.reduceSub,Int.reduceNeg,Int.reduceMul,Int.reduceToNat,Int.reducePow,Int.reduceLE,Int.reduceLT,Int.reduceEq,Int.reduceNe,reduceIte,reduceCtorEq,ne_eq,not_true_eq_false,not_false_eq_true,imp_self,implies_true,bls,eq_self,hs2,q1,q2,q3,q4,q5,q6]
      refine E_call (hP ▸ s_qEq) ⟨_, _, _, _, rfl, t0.ext (.add _), t1.ext (.add _), f0.1, f1.1, f0.2.1, f1.2.1, fun T1 hT1 => ?_⟩
      simp (disch:=first|assumption|omega|(simp only [lens];omega)) only [eqs,↓gvd_succ,↓gvd_zero,↓and_of,im_of,im_of trivial,vlt,hP,hst,initS,Nat.reduceBEq,Nat.reduceAdd,Nat.reduceMul,Nat.reduceSub,Nat.reduceDiv,Nat.reduceMod,Nat.reducePow,Nat.reduceLT,Nat.reduceLeDiff,Nat.reduceEqDiff,Int.reduceAdd,Int.reduceSub,Int.reduceNeg,Int.reduceMul,Int.reduceToNat,Int.reducePow,Int.reduceLE,Int.reduceLT,Int.reduceEq,Int.reduceNe,reduceIte,reduceCtorEq,ne_eq,not_true_eq_false,not_false_eq_true,imp_self,implies_true,bls,eq_self]
      refine E_call (hP ▸ s_truth9) ⟨_, rfl, fun v T2 hT2 hv => ?_⟩
      have hT2 := ((Ext.add _).trans hT1).trans hT2
      have hE : doM 21 [(.mk k0 g0 l0 b0 s0 its0 tls0), (.mk k1 g1 l1 b1 s1 its1 tls1)] = (dBool (eqM (.mk k0 g0 l0 b0 s0 its0 tls0) (.mk k1 g1 l1 b1 s1 its1 tls1)), 0) := by rw [hD]; rfl
      obtain ⟨c, rfl, hc1, hc2, hc3, hc⟩ := fin v T2 _ (hT2) (by rw [hE]) (by rw [hE]; exact hv)
      have gD := (gC.ext (hT2)).get
      have gE := (gC.ext (hT2)).lt
      simp (disch:=first|assumption|omega|(simp only [lens];omega)) only [eqs,↓gvd_succ,↓gvd_zero,↓and_of,im_of,im_of trivial,vlt,hP,hst,initS,Nat.reduceBEq,Nat.reduceAdd,Nat.reduceMul,Nat.reduceSub,Nat.reduceDiv,Nat.reduceMod,Nat.reducePow,Nat.reduceLT,Nat.reduceLeDiff,Nat.reduceEqDiff,Int.reduceAdd,Int.reduceSub,Int.reduceNeg,Int.reduceMul,Int.reduceToNat,Int.reducePow,Int.reduceLE,Int.reduceLT,Int.reduceEq,Int.reduceNe,reduceIte,reduceCtorEq,ne_eq,not_true_eq_false,not_false_eq_true,imp_self,implies_true,bls,eq_self,gD,gE,hX,hc1,hc2,hc3,take7 hc2,List.append_nil,zD7]
      exact hc
    · simp (disch:=first|assumption|omega|(simp only [lens];omega)) only [eqs,↓gvd_succ,↓gvd_zero,↓and_of,im_of,im_of trivial,vlt,hP,hst,initS,Nat.reduceBEq,Nat.reduceAdd,Nat.reduceMul,Nat.reduceSub,Nat.reduceDiv,Nat.reduceMod,Nat.reducePow,Nat.reduceLT,Nat.reduceLeDiff,Nat.reduceEqDiff,Int.reduceAdd,Int.reduceSub,Int.reduceNeg,Int.reduceMul,Int.reduceToNat,Int.reducePow,Int.reduceLE,Int.reduceLT,Int.reduceEq,Int.reduceNe,reduceIte,reduceCtorEq,ne_eq,not_true_eq_false,not_false_eq_true,imp_self,implies_true,bls,eq_self,hs,q1,q2,q3,q4,q5,q6,hXT,zD_map,zD7,List.append_nil]
      obtain ⟨V0, hV0⟩ : ∃ V, T0 ++ [some [.val (.int .i64 k0), .val (.bool g0), a0, .val (.bool b0), .val (.string s0), x0, z0]] = V := ⟨_, rfl⟩
      have v0 : Ext T0 V0 := ⟨_, hV0.symm⟩
      have gB : At V0 T0.length _ := hV0 ▸ At.mk0
      rw [hV0]
      clear hV0
      have hyV := hy2.ext (e0.trans v0)
      obtain ⟨csV, hslV, _, _⟩ := hyV.inv
      simp (disch:=first|assumption|omega|(simp only [lens];omega)) only [eqs,↓gvd_succ,↓gvd_zero,↓and_of,im_of,im_of trivial,vlt,hP,hst,initS,Nat.reduceBEq,Nat.reduceAdd,Nat.reduceMul,Nat.reduceSub,Nat.reduceDiv,Nat.reduceMod,Nat.reducePow,Nat.reduceLT,Nat.reduceLeDiff,Nat.reduceEqDiff,Int.reduceAdd,Int.reduceSub,Int.reduceNeg,Int.reduceMul,Int.reduceToNat,Int.reducePow,Int.reduceLE,Int.reduceLT,Int.reduceEq,Int.reduceNe,reduceIte,reduceCtorEq,ne_eq,not_true_eq_false,not_false_eq_true,imp_self,implies_true,bls,eq_self,hslV]
      refine V_loop (ι := Nat × St) (fun e => [(120, .val (.int .i64 (e.1 : Int))), (119, .val (.int .i64 ((2 : Nat) : Int))), (118, y), (1, y), (0, .val (.int .i64 24)), (4, .ptr st.length 0), (6, .ptr T0.length 0)]) (fun e => e.2)
        (fun e => Ext V0 e.2 ∧ e.1 ≤ 2 ∧ ∀ (j : Nat) d, j < e.1 → ([(.mk k0 g0 l0 b0 s0 its0 tls0), (.mk k1 g1 l1 b1 s1 its1 tls1)] : List Dt)[j]? = some d → d.kd = 4) (fun e => 2 - e.1) (0, V0) ⟨.refl, by simp, by simp⟩ rfl (by simp (disch:=first|assumption|omega|(simp only [lens];omega)) only [eqs,↓gvd_succ,↓gvd_zero,↓and_of,im_of,im_of trivial,vlt,hP,hst,initS,Nat.reduceBEq,Nat.reduceAdd,Nat.reduceMul,Nat.reduceSub,Nat.reduceDiv,Nat.reduceMod,Nat.reducePow,Nat.reduceLT,Nat.reduceLeDiff,Nat.reduceEqDiff,Int.reduceAdd,Int.reduceSub,Int.reduceNeg,Int.reduceMul,Int.reduceToNat,Int.reducePow,Int.reduceLE,Int.reduceLT,Int.reduceEq,Int.reduceNe,reduceIte,reduceCtorEq,ne_eq,not_true_eq_false,not_false_eq_true,imp_self,implies_true,bls,eq_self] <;> rfl) ?_
      rintro ⟨i, T⟩ ⟨hT, hi, hj⟩
      dsimp only at hT hi hj ⊢
      simp (disch:=first|assumption|omega|(simp only [lens];omega)) only [eqs,↓gvd_succ,↓gvd_zero,↓and_of,im_of,im_of trivial,vlt,hP,hst,initS,Nat.reduceBEq,Nat.reduceAdd,Nat.reduceMul,Nat.reduceSub,Nat.reduceDiv,Nat.reduceMod,Nat.reducePow,Nat.reduceLT,Nat.reduceLeDiff,Nat.reduceEqDiff,Int.reduceAdd,Int.reduceSub,Int.reduceNeg,Int.reduceMul,Int.reduceToNat,Int.reducePow,Int.reduceLE,Int.reduceLT,Int.reduceEq,Int.reduceNe,reduceIte,reduceCtorEq,ne_eq,not_true_eq_false,not_false_eq_true,imp_self,implies_true,bls,eq_self]
      refine C_dec (fun h => ?_) (fun h => ?_)
      · obtain ⟨cs, c, d, hsl, hcl, hc, hc7, hca, he, hec, hb1, hb2⟩ := (hyV.ext hT).at (i := i) (by simp only [List.length_cons, List.length_nil]; omega)
        have hdm := List.mem_of_getElem? he
        have hXl := Nat.le_trans hX (e0.trans (v0.trans hT)).len
        cases hec with
        | @mk k g a l b s x z its tls ha hx hz =>
        simp only [List.length_cons, List.length_nil, Nat.zero_add, Nat.reduceAdd] at hsl hb1 hb2
        simp (disch:=first|assumption|omega|(simp only [lens];omega)) only [eqs,↓gvd_succ,↓gvd_zero,↓and_of,im_of,im_of trivial,vlt,hP,hst,initS,Nat.reduceBEq,Nat.reduceAdd,Nat.reduceMul,Nat.reduceSub,Nat.reduceDiv,Nat.reduceMod,Nat.reducePow,Nat.reduceLT,Nat.reduceLeDiff,Nat.reduceEqDiff,Int.reduceAdd,Int.reduceSub,Int.reduceNeg,Int.reduceMul,Int.reduceToNat,Int.reducePow,Int.reduceLE,Int.reduceLT,Int.reduceEq,Int.reduceNe,reduceIte,reduceCtorEq,ne_eq,not_true_eq_false,not_false_eq_true,imp_self,implies_true,bls,eq_self,hsl,hcl,hc,hca,zD_map,hXl,hb1,hb2]
        have gD := (gC.ext ((v0.trans hT).trans (.add [some [.val (.int .i64 k), .val (.bool g), a, .val (.bool b), .val (.string s), x, z]]))).get
        have gE := (gC.ext ((v0.trans hT).trans (.add [some [.val (.int .i64 k), .val (.bool g), a, .val (.bool b), .val (.string s), x, z]]))).lt
        refine C_dec (fun h5 => ?_) (fun h5 => ?_)
        · have hE : doM 24 [(.mk k0 g0 l0 b0 s0 its0 tls0), (.mk k1 g1 l1 b1 s1 its1 tls1)] = (dNil, 6) := by rw [hD, show doK 24 (.mk k0 g0 l0 b0 s0 its0 tls0) [(.mk k1 g1 l1 b1 s1 its1 tls1)] = textsM 24 [(.mk k0 g0 l0 b0 s0 its0 tls0), (.mk k1 g1 l1 b1 s1 its1 tls1)] from rfl]; exact if_neg fun h3 => h5 (h3 _ hdm)
          simp (disch:=first|assumption|omega|(simp only [lens];omega)) only [eqs,↓gvd_succ,↓gvd_zero,↓and_of,im_of,im_of trivial,vlt,hP,hst,initS,Nat.reduceBEq,Nat.reduceAdd,Nat.reduceMul,Nat.reduceSub,Nat.reduceDiv,Nat.reduceMod,Nat.reducePow,Nat.reduceLT,Nat.reduceLeDiff,Nat.reduceEqDiff,Int.reduceAdd,Int.reduceSub,Int.reduceNeg,Int.reduceMul,Int.reduceToNat,Int.reducePow,Int.reduceLE,Int.reduceLT,Int.reduceEq,Int.reduceNe,reduceIte,reduceCtorEq,ne_eq,not_true_eq_false,not_false_eq_true,imp_self,implies_true,bls,eq_self,gD,gE,hX,zD_map,zD7]
          exact bad _ 6 ((v0.trans hT).trans (.add _)) hE
        · have h5 := Classical.not_not.1 h5
          simp (disch:=first|assumption|omega|(simp only [lens];omega)) only [eqs,↓gvd_succ,↓gvd_zero,↓and_of,im_of,im_of trivial,vlt,hP,hst,initS,Nat.reduceBEq,Nat.reduceAdd,Nat.reduceMul,Nat.reduceSub,Nat.reduceDiv,Nat.reduceMod,Nat.reducePow,Nat.reduceLT,Nat.reduceLeDiff,Nat.reduceEqDiff,Int.reduceAdd,Int.reduceSub,Int.reduceNeg,Int.reduceMul,Int.reduceToNat,Int.reducePow,Int.reduceLE,Int.reduceLT,Int.reduceEq,Int.reduceNe,reduceIte,reduceCtorEq,ne_eq,not_true_eq_false,not_false_eq_true,imp_self,implies_true,bls,eq_self]
          refine again (i + 1, _) ⟨hT.trans (.add _), by dsimp only; omega, fun j d' hj2 hd => ?_⟩ (by dsimp only; omega) rfl (by dsimp only; simp (disch:=first|assumption|omega|(simp only [lens];omega)) only [eqs,↓gvd_succ,↓gvd_zero,↓and_of,im_of,im_of trivial,vlt,hP,hst,initS,Nat.reduceBEq,Nat.reduceAdd,Nat.reduceMul,Nat.reduceSub,Nat.reduceDiv,Nat.reduceMod,Nat.reducePow,Nat.reduceLT,Nat.reduceLeDiff,Nat.reduceEqDiff,Int.reduceAdd,Int.reduceSub,Int.reduceNeg,Int.reduceMul,Int.reduceToNat,Int.reducePow,Int.reduceLE,Int.reduceLT,Int.reduceEq,Int.reduceNe,reduceIte,reduceCtorEq,ne_eq,not_true_eq_false,not_false_eq_true,imp_self,implies_true,bls,eq_self] <;> rfl)
          by_cases hji : j = i
          · subst hji
            rw [he] at hd; cases hd
            exact h5
          · exact hj j d' (by dsimp only at hj2; omega) hd
      have hall : ∀ d ∈ ([(.mk k0 g0 l0 b0 s0 its0 tls0), (.mk k1 g1 l1 b1 s1 its1 tls1)] : List Dt), d.kd = 4 := fun d hd => by
        obtain ⟨j, hjd⟩ := List.mem_iff_getElem?.1 hd
        exact hj j d (by have := (List.getElem?_eq_some_iff.1 hjd).1; simp only [List.length_cons, List.length_nil] at this; omega) hjd
      have eT := v0.trans hT
      have gB2 := (gB.ext hT).get
      obtain ⟨hs3, _⟩ : sl 7 T y = _ ∧ True := ⟨by obtain ⟨z, rfl⟩ := eT; exact sl_grow hs z, trivial⟩
      simp (disch:=first|assumption|omega|(simp only [lens];omega)) only [eqs,↓gvd_succ,↓gvd_zero,↓and_of,im_of,im_of trivial,vlt,hP,hst,initS,Nat.reduceBEq,Nat.reduceAdd,Nat.reduceMul,Nat.reduceSub,Nat.reduceDiv,Nat.reduceMod,Nat.reducePow,Nat.reduceLT,Nat.reduceLeDiff,Nat.reduceEqDiff,Int.reduceAdd,Int.reduceSub,Int.reduceNeg,Int.reduceMul,Int.reduceToNat,Int.reducePow,Int.reduceLE,Int.reduceLT,Int.reduceEq,Int.reduceNe,reduceIte,reduceCtorEq,ne_eq,not_true_eq_false,not_false_eq_true,imp_self,implies_true,bls,eq_self]
      refine V_draw [0, 1, 2, 3, 4, 5, 6, 7, 8, 9, 10, 11] (by kernel_rfl) (.cons rfl <| .cons rfl <| .cons rfl <| .cons rfl <| .cons rfl <| .cons rfl <| .cons rfl <| .cons rfl <| .cons rfl <| .cons rfl <| .cons rfl <| .cons rfl <| .nil) ?_
      have u0 := f0.2.2.2
      have u1 := f1.2.2.2
      simp only [Dt.tx] at u0 u1
      have ub0 : ((sb s0).length : Int) + ((sb s1).length : Int) ≤ 9223372036854775807 := by rw [sb_length, sb_length]; omega
      have ub1 : -9223372036854775808 ≤ ((sb s0).length : Int) + ((sb s1).length : Int) := by omega
      simp (disch:=first|assumption|omega|(simp only [lens];omega)) only [eqs,↓gvd_succ,↓gvd_zero,↓and_of,im_of,im_of trivial,vlt,hP,hst,initS,Nat.reduceBEq,Nat.reduceAdd,Nat.reduceMul,Nat.reduceSub,Nat.reduceDiv,Nat.reduceMod,Nat.reducePow,Nat.reduceLT,Nat.reduceLeDiff,Nat.reduceEqDiff,Int.reduceAdd,Int.reduceSub,Int.reduceNeg,Int.reduceMul,Int.reduceToNat,Int.reducePow,Int.reduceLE,Int.reduceLT,Int.reduceEq,Int.reduceNe,reduceIte,reduceCtorEq,ne_eq,not_true_eq_false,not_false_eq_true,imp_self,implies_true,bls,eq_self,hs3]
      have hsum : sumT [(.mk k0 g0 l0 b0 s0 its0 tls0), (.mk k1 g1 l1 b1 s1 its1 tls1)] = s0.size + s1.size := by simp [sumT, Dt.tx]
      refine C_dec (fun h6 => ?_) (fun h6 => ?_)
      · rw [sb_length, sb_length] at h6
        have hE : doM 24 [(.mk k0 g0 l0 b0 s0 its0 tls0), (.mk k1 g1 l1 b1 s1 its1 tls1)] = (dNil, 12) := by rw [hD, show doK 24 (.mk k0 g0 l0 b0 s0 its0 tls0) [(.mk k1 g1 l1 b1 s1 its1 tls1)] = textsM 24 [(.mk k0 g0 l0 b0 s0 its0 tls0), (.mk k1 g1 l1 b1 s1 its1 tls1)] from rfl]; unfold textsM; rw [if_pos hall, if_neg (by omega), if_neg (by omega), if_pos (by rw [hsum]; omega)]
        have gD := (gC.ext eT).get
        have gE := (gC.ext eT).lt
        simp (disch:=first|assumption|omega|(simp only [lens];omega)) only [eqs,↓gvd_succ,↓gvd_zero,↓and_of,im_of,im_of trivial,vlt,hP,hst,initS,Nat.reduceBEq,Nat.reduceAdd,Nat.reduceMul,Nat.reduceSub,Nat.reduceDiv,Nat.reduceMod,Nat.reducePow,Nat.reduceLT,Nat.reduceLeDiff,Nat.reduceEqDiff,Int.reduceAdd,Int.reduceSub,Int.reduceNeg,Int.reduceMul,Int.reduceToNat,Int.reducePow,Int.reduceLE,Int.reduceLT,Int.reduceEq,Int.reduceNe,reduceIte,reduceCtorEq,ne_eq,not_true_eq_false,not_false_eq_true,imp_self,implies_true,bls,eq_self,gD,gE,hX,zD_map,zD7]
        exact bad _ 12 eT hE
      · rw [sb_length, sb_length] at h6
        have hE : doM 24 [(.mk k0 g0 l0 b0 s0 its0 tls0), (.mk k1 g1 l1 b1 s1 its1 tls1)] = (dStr (s0 ++ s1), 0) := by rw [hD, show doK 24 (.mk k0 g0 l0 b0 s0 its0 tls0) [(.mk k1 g1 l1 b1 s1 its1 tls1)] = textsM 24 [(.mk k0 g0 l0 b0 s0 its0 tls0), (.mk k1 g1 l1 b1 s1 its1 tls1)] from rfl]; unfold textsM; rw [if_pos hall, if_neg (by omega), if_neg (by omega), if_neg (by rw [hsum]; omega)]; simp [Dt.tx]
        have hb1 : s0.size + s1.size ≤ 9223372036854775807 := by omega
        have gD := (gC.ext eT).get
        have gE := (gC.ext eT).lt
        simp (disch:=first|assumption|omega|(simp only [lens];omega)) only [eqs,↓gvd_succ,↓gvd_zero,↓and_of,im_of,im_of trivial,vlt,hP,hst,initS,Nat.reduceBEq,Nat.reduceAdd,Nat.reduceMul,Nat.reduceSub,Nat.reduceDiv,Nat.reduceMod,Nat.reducePow,Nat.reduceLT,Nat.reduceLeDiff,Nat.reduceEqDiff,Int.reduceAdd,Int.reduceSub,Int.reduceNeg,Int.reduceMul,Int.reduceToNat,Int.reducePow,Int.reduceLE,Int.reduceLT,Int.reduceEq,Int.reduceNe,reduceIte,reduceCtorEq,ne_eq,not_true_eq_false,not_false_eq_true,imp_self,implies_true,bls,eq_self]
        refine V_draw [0, 1, 2, 3, 4, 5, 6, 7, 8, 9, 10, 11] (by kernel_rfl) (.cons rfl <| .cons rfl <| .cons rfl <| .cons rfl <| .cons rfl <| .cons rfl <| .cons rfl <| .cons rfl <| .cons rfl <| .cons rfl <| .cons rfl <| .cons rfl <| .nil) ?_
        simp (disch:=first|assumption|omega|(simp only [lens];omega)) only [eqs,↓gvd_succ,↓gvd_zero,↓and_of,im_of,im_of trivial,vlt,hP,hst,initS,Nat.reduceBEq,Nat.reduceAdd,Nat.reduceMul,Nat.reduceSub,Nat.reduceDiv,Nat.reduceMod,Nat.reducePow,Nat.reduceLT,Nat.reduceLeDiff,Nat.reduceEqDiff,Int.reduceAdd,Int.reduceSub,Int.reduceNeg,Int.reduceMul,Int.reduceToNat,Int.reducePow,Int.reduceLE,Int.reduceLT,Int.reduceEq,Int.reduceNe,reduceIte,reduceCtorEq,ne_eq,not_true_eq_false,not_false_eq_true,imp_self,implies_true,bls,eq_self,hs3,hb1,gD,gE,hX,zD_map,zD7]
        rw [hE] at hK
        exact hK _ _ ((e0.trans eT).set (Nat.le_refl _) _) (DA0.mk Nm.nil)
    · simp (disch:=first|assumption|omega|(simp only [lens];omega)) only [eqs,↓gvd_succ,↓gvd_zero,↓and_of,im_of,im_of trivial,vlt,hP,hst,initS,Nat.reduceBEq,Nat.reduceAdd,Nat.reduceMul,Nat.reduceSub,Nat.reduceDiv,Nat.reduceMod,Nat.reducePow,Nat.reduceLT,Nat.reduceLeDiff,Nat.reduceEqDiff,Int.reduceAdd,Int.reduceSub,Int.reduceNeg,Int.reduceMul,Int.reduceToNat,Int.reducePow,Int.reduceLE,Int.reduceLT,Int.reduceEq,Int.reduceNe,reduceIte,reduceCtorEq,ne_eq,not_true_eq_false,not_false_eq_true,imp_self,implies_true,bls,eq_self,hs,q1,q2,q3,q4,q5,q6,hXT,zD_map,zD7,List.append_nil]
      obtain ⟨V0, hV0⟩ : ∃ V, T0 ++ [some [.val (.int .i64 k0), .val (.bool g0), a0, .val (.bool b0), .val (.string s0), x0, z0]] = V := ⟨_, rfl⟩
      have v0 : Ext T0 V0 := ⟨_, hV0.symm⟩
      have gB : At V0 T0.length _ := hV0 ▸ At.mk0
      rw [hV0]
      clear hV0
      have hyV := hy2.ext (e0.trans v0)
      obtain ⟨csV, hslV, _, _⟩ := hyV.inv
      simp (disch:=first|assumption|omega|(simp only [lens];omega)) only [eqs,↓gvd_succ,↓gvd_zero,↓and_of,im_of,im_of trivial,vlt,hP,hst,initS,Nat.reduceBEq,Nat.reduceAdd,Nat.reduceMul,Nat.reduceSub,Nat.reduceDiv,Nat.reduceMod,Nat.reducePow,Nat.reduceLT,Nat.reduceLeDiff,Nat.reduceEqDiff,Int.reduceAdd,Int.reduceSub,Int.reduceNeg,Int.reduceMul,Int.reduceToNat,Int.reducePow,Int.reduceLE,Int.reduceLT,Int.reduceEq,Int.reduceNe,reduceIte,reduceCtorEq,ne_eq,not_true_eq_false,not_false_eq_true,imp_self,implies_true,bls,eq_self,hslV]
      refine V_loop (ι := Nat × St) (fun e => [(120, .val (.int .i64 (e.1 : Int))), (119, .val (.int .i64 ((2 : Nat) : Int))), (118, y), (1, y), (0, .val (.int .i64 25)), (4, .ptr st.length 0), (6, .ptr T0.length 0)]) (fun e => e.2)
        (fun e => Ext V0 e.2 ∧ e.1 ≤ 2 ∧ ∀ (j : Nat) d, j < e.1 → ([(.mk k0 g0 l0 b0 s0 its0 tls0), (.mk k1 g1 l1 b1 s1 its1 tls1)] : List Dt)[j]? = some d → d.kd = 4) (fun e => 2 - e.1) (0, V0) ⟨.refl, by simp, by simp⟩ rfl (by simp (disch:=first|assumption|omega|(simp only [lens];omega)) only [eqs,↓gvd_succ,↓gvd_zero,↓and_of,im_of,im_of trivial,vlt,hP,hst,initS,Nat.reduceBEq,Nat.reduceAdd,Nat.reduceMul,Nat.reduceSub,Nat.reduceDiv,Nat.reduceMod,Nat.reducePow,Nat.reduceLT,Nat.reduceLeDiff,Nat.reduceEqDiff,Int.reduceAdd,Int.reduceSub,Int.reduceNeg,Int.reduceMul,Int.reduceToNat,Int.reducePow,Int.reduceLE,Int.reduceLT,Int.reduceEq,Int.reduceNe,reduceIte,reduceCtorEq,ne_eq,not_true_eq_false,not_false_eq_true,imp_self,implies_true,bls,eq_self] <;> rfl) ?_
      rintro ⟨i, T⟩ ⟨hT, hi, hj⟩
      dsimp only at hT hi hj ⊢
      simp (disch:=first|assumption|omega|(simp only [lens];omega)) only [eqs,↓gvd_succ,↓gvd_zero,↓and_of,im_of,im_of trivial,vlt,hP,hst,initS,Nat.reduceBEq,Nat.reduceAdd,Nat.reduceMul,Nat.reduceSub,Nat.reduceDiv,Nat.reduceMod,Nat.reducePow,Nat.reduceLT,Nat.reduceLeDiff,Nat.reduceEqDiff,Int.reduceAdd,Int.reduceSub,Int.reduceNeg,Int.reduceMul,Int.reduceToNat,Int.reducePow,Int.reduceLE,Int.reduceLT,Int.reduceEq,Int.reduceNe,reduceIte,reduceCtorEq,ne_eq,not_true_eq_false,not_false_eq_true,imp_self,implies_true,bls,eq_self]
      refine C_dec (fun h => ?_) (fun h => ?_)
      · obtain ⟨cs, c, d, hsl, hcl, hc, hc7, hca, he, hec, hb1, hb2⟩ := (hyV.ext hT).at (i := i) (by simp only [List.length_cons, List.length_nil]; omega)
        have hdm := List.mem_of_getElem? he
        have hXl := Nat.le_trans hX (e0.trans (v0.trans hT)).len
        cases hec with
        | @mk k g a l b s x z its tls ha hx hz =>
        simp only [List.length_cons, List.length_nil, Nat.zero_add, Nat.reduceAdd] at hsl hb1 hb2
        simp (disch:=first|assumption|omega|(simp only [lens];omega)) only [eqs,↓gvd_succ,↓gvd_zero,↓and_of,im_of,im_of trivial,vlt,hP,hst,initS,Nat.reduceBEq,Nat.reduceAdd,Nat.reduceMul,Nat.reduceSub,Nat.reduceDiv,Nat.reduceMod,Nat.reducePow,Nat.reduceLT,Nat.reduceLeDiff,Nat.reduceEqDiff,Int.reduceAdd,Int.reduceSub,Int.reduceNeg,Int.reduceMul,Int.reduceToNat,Int.reducePow,Int.reduceLE,Int.reduceLT,Int.reduceEq,Int.reduceNe,reduceIte,reduceCtorEq,ne_eq,not_true_eq_false,not_false_eq_true,imp_self,implies_true,bls,eq_self,hsl,hcl,hc,hca,zD_map,hXl,hb1,hb2]
        have gD := (gC.ext ((v0.trans hT).trans (.add [some [.val (.int .i64 k), .val (.bool g), a, .val (.bool b), .val (.string s), x, z]]))).get
        have gE := (gC.ext ((v0.trans hT).trans (.add [some [.val (.int .i64 k), .val (.bool g), a, .val (.bool b), .val (.string s), x, z]]))).lt
        refine C_dec (fun h5 => ?_) (fun h5 => ?_)
        · have hE : doM 25 [(.mk k0 g0 l0 b0 s0 its0 tls0), (.mk k1 g1 l1 b1 s1 its1 tls1)] = (dNil, 6) := by rw [hD, show doK 25 (.mk k0 g0 l0 b0 s0 its0 tls0) [(.mk k1 g1 l1 b1 s1 its1 tls1)] = textsM 25 [(.mk k0 g0 l0 b0 s0 its0 tls0), (.mk k1 g1 l1 b1 s1 its1 tls1)] from rfl]; exact if_neg fun h3 => h5 (h3 _ hdm)
          simp (disch:=first|assumption|omega|(simp only [lens];omega)) only [eqs,↓gvd_succ,↓gvd_zero,↓and_of,im_of,im_of trivial,vlt,hP,hst,initS,Nat.reduceBEq,Nat.reduceAdd,Nat.reduceMul,Nat.reduceSub,Nat.reduceDiv,Nat.reduceMod,Nat.reducePow,Nat.reduceLT,Nat.reduceLeDiff,Nat.reduceEqDiff,Int.reduceAdd,Int.reduceSub,Int.reduceNeg,Int.reduceMul,Int.reduceToNat,Int.reducePow,Int.reduceLE,Int.reduceLT,Int.reduceEq,Int.reduceNe,reduceIte,reduceCtorEq,ne_eq,not_true_eq_false,not_false_eq_true,imp_self,implies_true,bls,eq_self,gD,gE,hX,zD_map,zD7]
          exact bad _ 6 ((v0.trans hT).trans (.add _)) hE
        · have h5 := Classical.not_not.1 h5
          simp (disch:=first|assumption|omega|(simp only [lens];omega)) only [eqs,↓gvd_succ,↓gvd_zero,↓and_of,im_of,im_of trivial,vlt,hP,hst,initS,Nat.reduceBEq,Nat.reduceAdd,Nat.reduceMul,Nat.reduceSub,Nat.reduceDiv,Nat.reduceMod,Nat.reducePow,Nat.reduceLT,Nat.reduceLeDiff,Nat.reduceEqDiff,Int.reduceAdd,Int.reduceSub,Int.reduceNeg,Int.reduceMul,Int.reduceToNat,Int.reducePow,Int.reduceLE,Int.reduceLT,Int.reduceEq,Int.reduceNe,reduceIte,reduceCtorEq,ne_eq,not_true_eq_false,not_false_eq_true,imp_self,implies_true,bls,eq_self]
          refine again (i + 1, _) ⟨hT.trans (.add _), by dsimp only; omega, fun j d' hj2 hd => ?_⟩ (by dsimp only; omega) rfl (by dsimp only; simp (disch:=first|assumption|omega|(simp only [lens];omega)) only [eqs,↓gvd_succ,↓gvd_zero,↓and_of,im_of,im_of trivial,vlt,hP,hst,initS,Nat.reduceBEq,Nat.reduceAdd,Nat.reduceMul,Nat.reduceSub,Nat.reduceDiv,Nat.reduceMod,Nat.reducePow,Nat.reduceLT,Nat.reduceLeDiff,Nat.reduceEqDiff,Int.reduceAdd,Int.reduceSub,Int.reduceNeg,Int.reduceMul,Int.reduceToNat,Int.reducePow,Int.reduceLE,Int.reduceLT,Int.reduceEq,Int.reduceNe,reduceIte,reduceCtorEq,ne_eq,not_true_eq_false,not_false_eq_true,imp_self,implies_true,bls,eq_self] <;> rfl)
          by_cases hji : j = i
          · subst hji
            rw [he] at hd; cases hd
            exact h5
          · exact hj j d' (by dsimp only at hj2; omega) hd
      have hall : ∀ d ∈ ([(.mk k0 g0 l0 b0 s0 its0 tls0), (.mk k1 g1 l1 b1 s1 its1 tls1)] : List Dt), d.kd = 4 := fun d hd => by
        obtain ⟨j, hjd⟩ := List.mem_iff_getElem?.1 hd
        exact hj j d (by have := (List.getElem?_eq_some_iff.1 hjd).1; simp only [List.length_cons, List.length_nil] at this; omega) hjd
      have eT := v0.trans hT
      have gB2 := (gB.ext hT).get
      obtain ⟨hs3, _⟩ : sl 7 T y = _ ∧ True := ⟨by obtain ⟨z, rfl⟩ := eT; exact sl_grow hs z, trivial⟩
      simp (disch:=first|assumption|omega|(simp only [lens];omega)) only [eqs,↓gvd_succ,↓gvd_zero,↓and_of,im_of,im_of trivial,vlt,hP,hst,initS,Nat.reduceBEq,Nat.reduceAdd,Nat.reduceMul,Nat.reduceSub,Nat.reduceDiv,Nat.reduceMod,Nat.reducePow,Nat.reduceLT,Nat.reduceLeDiff,Nat.reduceEqDiff,Int.reduceAdd,Int.reduceSub,Int.reduceNeg,Int.reduceMul,Int.reduceToNat,Int.reducePow,Int.reduceLE,Int.reduceLT,Int.reduceEq,Int.reduceNe,reduceIte,reduceCtorEq,ne_eq,not_true_eq_false,not_false_eq_true,imp_self,implies_true,bls,eq_self]
      refine V_draw [0, 1, 2, 3, 4, 5, 6, 7, 8, 9, 10, 11] (by kernel_rfl) (.cons rfl <| .cons rfl <| .cons rfl <| .cons rfl <| .cons rfl <| .cons rfl <| .cons rfl <| .cons rfl <| .cons rfl <| .cons rfl <| .cons rfl <| .cons rfl <| .nil) ?_
      simp (disch:=first|assumption|omega|(simp only [lens];omega)) only [eqs,↓gvd_succ,↓gvd_zero,↓and_of,im_of,im_of trivial,vlt,hP,hst,initS,Nat.reduceBEq,Nat.reduceAdd,Nat.reduceMul,Nat.reduceSub,Nat.reduceDiv,Nat.reduceMod,Nat.reducePow,Nat.reduceLT,Nat.reduceLeDiff,Nat.reduceEqDiff,Int.reduceAdd,Int.reduceSub,Int.reduceNeg,Int.reduceMul,Int.reduceToNat,Int.reducePow,Int.reduceLE,Int.reduceLT,Int.reduceEq,Int.reduceNe,reduceIte,reduceCtorEq,ne_eq,not_true_eq_false,not_false_eq_true,imp_self,implies_true,bls,eq_self,hs3,str_eq2]
      refine E_call (hP ▸ s_truth9) ⟨_, rfl, fun v T2 hT2 hv => ?_⟩
      have hT2 := eT.trans hT2
      have hE : doM 25 [(.mk k0 g0 l0 b0 s0 its0 tls0), (.mk k1 g1 l1 b1 s1 its1 tls1)] = (dBool (decide (s0 = s1)), 0) := by rw [hD, show doK 25 (.mk k0 g0 l0 b0 s0 its0 tls0) [(.mk k1 g1 l1 b1 s1 its1 tls1)] = textsM 25 [(.mk k0 g0 l0 b0 s0 its0 tls0), (.mk k1 g1 l1 b1 s1 its1 tls1)] from rfl]; unfold textsM; rw [if_pos hall, if_neg (by omega), if_pos rfl]; simp [Dt.tx]
      obtain ⟨c, rfl, hc1, hc2, hc3, hc⟩ := fin v T2 _ (hT2) (by rw [hE]) (by rw [hE]; exact hv)
      have gD := (gC.ext (hT2)).get
      have gE := (gC.ext (hT2)).lt
      simp (disch:=first|assumption|omega|(simp only [lens];omega)) only [eqs,↓gvd_succ,↓gvd_zero,↓and_of,im_of,im_of trivial,vlt,hP,hst,initS,Nat.reduceBEq,Nat.reduceAdd,Nat.reduceMul,Nat.reduceSub,Nat.reduceDiv,Nat.reduceMod,Nat.reducePow,Nat.reduceLT,Nat.reduceLeDiff,Nat.reduceEqDiff,Int.reduceAdd,Int.reduceSub,Int.reduceNeg,Int.reduceMul,Int.reduceToNat,Int.reducePow,Int.reduceLE,Int.reduceLT,Int.reduceEq,Int.reduceNe,reduceIte,reduceCtorEq,ne_eq,not_true_eq_false,not_false_eq_true,imp_self,implies_true,bls,eq_self,gD,gE,hX,hc1,hc2,hc3,take7 hc2,List.append_nil,zD7]
      exact hc
  · have ha1 : arM p = 1 := arM_1 (by omega)
    obtain ⟨d0, rfl⟩ : ∃ d0, ds = [d0] := by
      match ds, h1 with
      | [d0], _ => exact ⟨d0, rfl⟩
      | [], h1 => rw [ha1] at h1; simp at h1
      | _ :: _ :: _, h1 => rw [ha1] at h1; simp at h1; omega
    have f0 := hok d0 (by simp)
    have hy2 := hy
    obtain ⟨k0, g0, a0, l0, b0, s0, x0, z0, its0, tls0, rfl, hs, n0, i0, j0⟩ := (hy.ext e0).one1
    have q1 := n0.leaf
    have q2 := i0.leaf
    have q3 := j0.leaf
    have hXT := Nat.le_trans hX e0.len
    rw [doL_gt h2] at hD
    have hs2 := fun y => sl_grow hs y
    obtain ⟨cx, sx, _⟩ := i0.inv
    have sx2 := fun y => sl_grow sx y
    have t0 := DA.mk' (k := k0) (g := g0) (b := b0) (s := s0) n0 i0 j0
    have w0 : l0.length ≤ 1000 := Nat.le_trans f0.2.2.1 (by omega)
    rcases (by omega : p = 14 ∨ p = 15 ∨ p = 16 ∨ p = 17 ∨ p = 18 ∨ p = 19 ∨ p = 22 ∨ p = 23 ∨ p = 26 ∨ p = 27) with rfl | rfl | rfl | rfl | rfl | rfl | rfl | rfl | rfl | rfl
    · simp (disch:=first|assumption|omega|(simp only [lens];omega)) only [eqs,↓gvd_succ,↓gvd_zero,↓and_of,im_of,im_of trivial,vlt,hP,hst,initS,Nat.reduceBEq,Nat.reduceAdd,Nat.reduceMul,Nat.reduceSub,Nat.reduceDiv,Nat.reduceMod,Nat.reducePow,Nat.reduceLT,Nat.reduceLeDiff,Nat.reduceEqDiff,Int.reduceAdd,Int.reduceSub,Int.reduceNeg,Int.reduceMul,Int.reduceToNat,Int.reducePow,Int.reduceLE,Int.reduceLT,Int.reduceEq,Int.reduceNe,reduceIte,reduceCtorEq,ne_eq,not_true_eq_false,not_false_eq_true,imp_self,implies_true,bls,eq_self,hs,q1,q2,q3,hXT,zD_map,zD7,List.append_nil,sx2]
      have bx : its0.length ≤ 100000 := by have := szs_len (ds := its0); have := f0.2.1.1; rw [sz_mk] at this; omega
      refine G_dec (fun h5 => ?_) (fun h5 => ?_)
      · simp (disch:=first|assumption|omega|(simp only [lens];omega)) only [eqs,↓gvd_succ,↓gvd_zero,↓and_of,im_of,im_of trivial,vlt,hP,hst,initS,Nat.reduceBEq,Nat.reduceAdd,Nat.reduceMul,Nat.reduceSub,Nat.reduceDiv,Nat.reduceMod,Nat.reducePow,Nat.reduceLT,Nat.reduceLeDiff,Nat.reduceEqDiff,Int.reduceAdd,Int.reduceSub,Int.reduceNeg,Int.reduceMul,Int.reduceToNat,Int.reducePow,Int.reduceLE,Int.reduceLT,Int.reduceEq,Int.reduceNe,reduceIte,reduceCtorEq,ne_eq,not_true_eq_false,not_false_eq_true,imp_self,implies_true,bls,eq_self,h5,sx2]
        refine E_call (hP ▸ s_truth9) ⟨_, rfl, fun v T2 hT2 hv => ?_⟩
        have hT2 := (Ext.add _).trans hT2
        have hE : doM 14 [(.mk k0 g0 l0 b0 s0 its0 tls0)] = (dBool (decide ((its0.length : Int) = 0)), 0) := by rw [hD, show doK 14 (.mk k0 g0 l0 b0 s0 its0 tls0) [] = (dBool (decide (k0 = 5 ∧ its0.length = 0)), 0) from rfl, show decide (k0 = 5 ∧ its0.length = 0) = decide ((its0.length : Int) = 0) by rw [decide_eq_decide]; omega]
        obtain ⟨c, rfl, hc1, hc2, hc3, hc⟩ := fin v T2 _ (hT2) (by rw [hE]) (by rw [hE]; exact hv)
        have gD := (gC.ext (hT2)).get
        have gE := (gC.ext (hT2)).lt
        simp (disch:=first|assumption|omega|(simp only [lens];omega)) only [eqs,↓gvd_succ,↓gvd_zero,↓and_of,im_of,im_of trivial,vlt,hP,hst,initS,Nat.reduceBEq,Nat.reduceAdd,Nat.reduceMul,Nat.reduceSub,Nat.reduceDiv,Nat.reduceMod,Nat.reducePow,Nat.reduceLT,Nat.reduceLeDiff,Nat.reduceEqDiff,Int.reduceAdd,Int.reduceSub,Int.reduceNeg,Int.reduceMul,Int.reduceToNat,Int.reducePow,Int.reduceLE,Int.reduceLT,Int.reduceEq,Int.reduceNe,reduceIte,reduceCtorEq,ne_eq,not_true_eq_false,not_false_eq_true,imp_self,implies_true,bls,eq_self,gD,gE,hX,hc1,hc2,hc3,take7 hc2,List.append_nil,zD7]
        exact hc
      · simp (disch:=first|assumption|omega|(simp only [lens];omega)) only [eqs,↓gvd_succ,↓gvd_zero,↓and_of,im_of,im_of trivial,vlt,hP,hst,initS,Nat.reduceBEq,Nat.reduceAdd,Nat.reduceMul,Nat.reduceSub,Nat.reduceDiv,Nat.reduceMod,Nat.reducePow,Nat.reduceLT,Nat.reduceLeDiff,Nat.reduceEqDiff,Int.reduceAdd,Int.reduceSub,Int.reduceNeg,Int.reduceMul,Int.reduceToNat,Int.reducePow,Int.reduceLE,Int.reduceLT,Int.reduceEq,Int.reduceNe,reduceIte,reduceCtorEq,ne_eq,not_true_eq_false,not_false_eq_true,imp_self,implies_true,bls,eq_self,h5]
        refine E_call (hP ▸ s_truth9) ⟨_, rfl, fun v T2 hT2 hv => ?_⟩
        have hT2 := (Ext.add _).trans hT2
        have hE : doM 14 [(.mk k0 g0 l0 b0 s0 its0 tls0)] = (dBool false, 0) := by rw [hD, show doK 14 (.mk k0 g0 l0 b0 s0 its0 tls0) [] = (dBool (decide (k0 = 5 ∧ its0.length = 0)), 0) from rfl, decide_eq_false (fun h6 => h5 h6.1)]
        obtain ⟨c, rfl, hc1, hc2, hc3, hc⟩ := fin v T2 _ (hT2) (by rw [hE]) (by rw [hE]; exact hv)
        have gD := (gC.ext (hT2)).get
        have gE := (gC.ext (hT2)).lt
        simp (disch:=first|assumption|omega|(simp only [lens];omega)) only [eqs,↓gvd_succ,↓gvd_zero,↓and_of,im_of,im_of trivial,vlt,hP,hst,initS,Nat.reduceBEq,Nat.reduceAdd,Nat.reduceMul,Nat.reduceSub,Nat.reduceDiv,Nat.reduceMod,Nat.reducePow,Nat.reduceLT,Nat.reduceLeDiff,Nat.reduceEqDiff,Int.reduceAdd,Int.reduceSub,Int.reduceNeg,Int.reduceMul,Int.reduceToNat,Int.reducePow,Int.reduceLE,Int.reduceLT,Int.reduceEq,Int.reduceNe,reduceIte,reduceCtorEq,ne_eq,not_true_eq_false,not_false_eq_true,imp_self,implies_true,bls,eq_self,gD,gE,hX,hc1,hc2,hc3,take7 hc2,List.append_nil,zD7]
        exact hc
    · simp (disch:=first|assumption|omega|(simp only [lens];omega)) only [eqs,↓gvd_succ,↓gvd_zero,↓and_of,im_of,im_of trivial,vlt,hP,hst,initS,Nat.reduceBEq,Nat.reduceAdd,Nat.reduceMul,Nat.reduceSub,Nat.reduceDiv,Nat.reduceMod,Nat.reducePow,Nat.reduceLT,Nat.reduceLeDiff,Nat.reduceEqDiff,Int.reduceAdd,Int.reduceSub,Int.reduceNeg,Int.reduceMul,Int.reduceToNat,Int.reducePow,Int.reduceLE,Int.reduceLT,Int.reduceEq,Int.reduceNe,reduceIte,reduceCtorEq,ne_eq,not_true_eq_false,not_false_eq_true,imp_self,implies_true,bls,eq_self,hs,q1,q2,q3,hXT,zD_map,zD7,List.append_nil,sx2]
      have bx : its0.length ≤ 100000 := by have := szs_len (ds := its0); have := f0.2.1.1; rw [sz_mk] at this; omega
      refine G_dec (fun h5 => ?_) (fun h5 => ?_)
      · simp (disch:=first|assumption|omega|(simp only [lens];omega)) only [eqs,↓gvd_succ,↓gvd_zero,↓and_of,im_of,im_of trivial,vlt,hP,hst,initS,Nat.reduceBEq,Nat.reduceAdd,Nat.reduceMul,Nat.reduceSub,Nat.reduceDiv,Nat.reduceMod,Nat.reducePow,Nat.reduceLT,Nat.reduceLeDiff,Nat.reduceEqDiff,Int.reduceAdd,Int.reduceSub,Int.reduceNeg,Int.reduceMul,Int.reduceToNat,Int.reducePow,Int.reduceLE,Int.reduceLT,Int.reduceEq,Int.reduceNe,reduceIte,reduceCtorEq,ne_eq,not_true_eq_false,not_false_eq_true,imp_self,implies_true,bls,eq_self,h5,sx2]
        refine E_call (hP ▸ s_truth9) ⟨_, rfl, fun v T2 hT2 hv => ?_⟩
        have hT2 := (Ext.add _).trans hT2
        have hE : doM 15 [(.mk k0 g0 l0 b0 s0 its0 tls0)] = (dBool (decide (0 < (its0.length : Int))), 0) := by rw [hD, show doK 15 (.mk k0 g0 l0 b0 s0 its0 tls0) [] = (dBool (decide (k0 = 5 ∧ its0.length ≠ 0)), 0) from rfl, show decide (k0 = 5 ∧ its0.length ≠ 0) = decide (0 < (its0.length : Int)) by rw [decide_eq_decide]; omega]
        obtain ⟨c, rfl, hc1, hc2, hc3, hc⟩ := fin v T2 _ (hT2) (by rw [hE]) (by rw [hE]; exact hv)
        have gD := (gC.ext (hT2)).get
        have gE := (gC.ext (hT2)).lt
        simp (disch:=first|assumption|omega|(simp only [lens];omega)) only [eqs,↓gvd_succ,↓gvd_zero,↓and_of,im_of,im_of trivial,vlt,hP,hst,initS,Nat.reduceBEq,Nat.reduceAdd,Nat.reduceMul,Nat.reduceSub,Nat.reduceDiv,Nat.reduceMod,Nat.reducePow,Nat.reduceLT,Nat.reduceLeDiff,Nat.reduceEqDiff,Int.reduceAdd,Int.reduceSub,Int.reduceNeg,Int.reduceMul,Int.reduceToNat,Int.reducePow,Int.reduceLE,Int.reduceLT,Int.reduceEq,Int.reduceNe,reduceIte,reduceCtorEq,ne_eq,not_true_eq_false,not_false_eq_true,imp_self,implies_true,bls,eq_self,gD,gE,hX,hc1,hc2,hc3,take7 hc2,List.append_nil,zD7]
        exact hc
      · simp (disch:=first|assumption|omega|(simp only [lens];omega)) only [eqs,↓gvd_succ,↓gvd_zero,↓and_of,im_of,im_of trivial,vlt,hP,hst,initS,Nat.reduceBEq,Nat.reduceAdd,Nat.reduceMul,Nat.reduceSub,Nat.reduceDiv,Nat.reduceMod,Nat.reducePow,Nat.reduceLT,Nat.reduceLeDiff,Nat.reduceEqDiff,Int.reduceAdd,Int.reduceSub,Int.reduceNeg,Int.reduceMul,Int.reduceToNat,Int.reducePow,Int.reduceLE,Int.reduceLT,Int.reduceEq,Int.reduceNe,reduceIte,reduceCtorEq,ne_eq,not_true_eq_false,not_false_eq_true,imp_self,implies_true,bls,eq_self,h5]
        refine E_call (hP ▸ s_truth9) ⟨_, rfl, fun v T2 hT2 hv => ?_⟩
        have hT2 := (Ext.add _).trans hT2
        have hE : doM 15 [(.mk k0 g0 l0 b0 s0 its0 tls0)] = (dBool false, 0) := by rw [hD, show doK 15 (.mk k0 g0 l0 b0 s0 its0 tls0) [] = (dBool (decide (k0 = 5 ∧ its0.length ≠ 0)), 0) from rfl, decide_eq_false (fun h6 => h5 h6.1)]
        obtain ⟨c, rfl, hc1, hc2, hc3, hc⟩ := fin v T2 _ (hT2) (by rw [hE]) (by rw [hE]; exact hv)
        have gD := (gC.ext (hT2)).get
        have gE := (gC.ext (hT2)).lt
        simp (disch:=first|assumption|omega|(simp only [lens];omega)) only [eqs,↓gvd_succ,↓gvd_zero,↓and_of,im_of,im_of trivial,vlt,hP,hst,initS,Nat.reduceBEq,Nat.reduceAdd,Nat.reduceMul,Nat.reduceSub,Nat.reduceDiv,Nat.reduceMod,Nat.reducePow,Nat.reduceLT,Nat.reduceLeDiff,Nat.reduceEqDiff,Int.reduceAdd,Int.reduceSub,Int.reduceNeg,Int.reduceMul,Int.reduceToNat,Int.reducePow,Int.reduceLE,Int.reduceLT,Int.reduceEq,Int.reduceNe,reduceIte,reduceCtorEq,ne_eq,not_true_eq_false,not_false_eq_true,imp_self,implies_true,bls,eq_self,gD,gE,hX,hc1,hc2,hc3,take7 hc2,List.append_nil,zD7]
        exact hc
    · simp (disch:=first|assumption|omega|(simp only [lens];omega)) only [eqs,↓gvd_succ,↓gvd_zero,↓and_of,im_of,im_of trivial,vlt,hP,hst,initS,Nat.reduceBEq,Nat.reduceAdd,Nat.reduceMul,Nat.reduceSub,Nat.reduceDiv,Nat.reduceMod,Nat.reducePow,Nat.reduceLT,Nat.reduceLeDiff,Nat.reduceEqDiff,Int.reduceAdd,Int.reduceSub,Int.reduceNeg,Int.reduceMul,Int.reduceToNat,Int.reducePow,Int.reduceLE,Int.reduceLT,Int.reduceEq,Int.reduceNe,reduceIte,reduceCtorEq,ne_eq,not_true_eq_false,not_false_eq_true,imp_self,implies_true,bls,eq_self,hs,q1,q2,q3,hXT,zD_map,zD7,List.append_nil,sx2]
      refine E_call (hP ▸ s_truth9) ⟨_, rfl, fun v T2 hT2 hv => ?_⟩
      have hT2 := (Ext.add _).trans hT2
      have hE : doM 16 [(.mk k0 g0 l0 b0 s0 its0 tls0)] = (dBool (decide (k0 = 1)), 0) := by rw [hD]; rfl
      obtain ⟨c, rfl, hc1, hc2, hc3, hc⟩ := fin v T2 _ (hT2) (by rw [hE]) (by rw [hE]; exact hv)
      have gD := (gC.ext (hT2)).get
      have gE := (gC.ext (hT2)).lt
      simp (disch:=first|assumption|omega|(simp only [lens];omega)) only [eqs,↓gvd_succ,↓gvd_zero,↓and_of,im_of,im_of trivial,vlt,hP,hst,initS,Nat.reduceBEq,Nat.reduceAdd,Nat.reduceMul,Nat.reduceSub,Nat.reduceDiv,Nat.reduceMod,Nat.reducePow,Nat.reduceLT,Nat.reduceLeDiff,Nat.reduceEqDiff,Int.reduceAdd,Int.reduceSub,Int.reduceNeg,Int.reduceMul,Int.reduceToNat,Int.reducePow,Int.reduceLE,Int.reduceLT,Int.reduceEq,Int.reduceNe,reduceIte,reduceCtorEq,ne_eq,not_true_eq_false,not_false_eq_true,imp_self,implies_true,bls,eq_self,gD,gE,hX,hc1,hc2,hc3,take7 hc2,List.append_nil,zD7]
      exact hc
    · simp (disch:=first|assumption|omega|(simp only [lens];omega)) only [eqs,↓gvd_succ,↓gvd_zero,↓and_of,im_of,im_of trivial,vlt,hP,hst,initS,Nat.reduceBEq,Nat.reduceAdd,Nat.reduceMul,Nat.reduceSub,Nat.reduceDiv,Nat.reduceMod,Nat.reducePow,Nat.reduceLT,Nat.reduceLeDiff,Nat.reduceEqDiff,Int.reduceAdd,Int.reduceSub,Int.reduceNeg,Int.reduceMul,Int.reduceToNat,Int.reducePow,Int.reduceLE,Int.reduceLT,Int.reduceEq,Int.reduceNe,reduceIte,reduceCtorEq,ne_eq,not_true_eq_false,not_false_eq_true,imp_self,implies_true,bls,eq_self,hs,q1,q2,q3,hXT,zD_map,zD7,List.append_nil,sx2]
      refine E_call (hP ▸ s_truth9) ⟨_, rfl, fun v T2 hT2 hv => ?_⟩
      have hT2 := (Ext.add _).trans hT2
      have hE : doM 17 [(.mk k0 g0 l0 b0 s0 its0 tls0)] = (dBool (decide (k0 = 3)), 0) := by rw [hD]; rfl
      obtain ⟨c, rfl, hc1, hc2, hc3, hc⟩ := fin v T2 _ (hT2) (by rw [hE]) (by rw [hE]; exact hv)
      have gD := (gC.ext (hT2)).get
      have gE := (gC.ext (hT2)).lt
      simp (disch:=first|assumption|omega|(simp only [lens];omega)) only [eqs,↓gvd_succ,↓gvd_zero,↓and_of,im_of,im_of trivial,vlt,hP,hst,initS,Nat.reduceBEq,Nat.reduceAdd,Nat.reduceMul,Nat.reduceSub,Nat.reduceDiv,Nat.reduceMod,Nat.reducePow,Nat.reduceLT,Nat.reduceLeDiff,Nat.reduceEqDiff,Int.reduceAdd,Int.reduceSub,Int.reduceNeg,Int.reduceMul,Int.reduceToNat,Int.reducePow,Int.reduceLE,Int.reduceLT,Int.reduceEq,Int.reduceNe,reduceIte,reduceCtorEq,ne_eq,not_true_eq_false,not_false_eq_true,imp_self,implies_true,bls,eq_self,gD,gE,hX,hc1,hc2,hc3,take7 hc2,List.append_nil,zD7]
      exact hc
    · simp (disch:=first|assumption|omega|(simp only [lens];omega)) only [eqs,↓gvd_succ,↓gvd_zero,↓and_of,im_of,im_of trivial,vlt,hP,hst,initS,Nat.reduceBEq,Nat.reduceAdd,Nat.reduceMul,Nat.reduceSub,Nat.reduceDiv,Nat.reduceMod,Nat.reducePow,Nat.reduceLT,Nat.reduceLeDiff,Nat.reduceEqDiff,Int.reduceAdd,Int.reduceSub,Int.reduceNeg,Int.reduceMul,Int.reduceToNat,Int.reducePow,Int.reduceLE,Int.reduceLT,Int.reduceEq,Int.reduceNe,reduceIte,reduceCtorEq,ne_eq,not_true_eq_false,not_false_eq_true,imp_self,implies_true,bls,eq_self,hs,q1,q2,q3,hXT,zD_map,zD7,List.append_nil,sx2]
      refine E_call (hP ▸ s_truth9) ⟨_, rfl, fun v T2 hT2 hv => ?_⟩
      have hT2 := (Ext.add _).trans hT2
      have hE : doM 18 [(.mk k0 g0 l0 b0 s0 its0 tls0)] = (dBool (decide (k0 = 4)), 0) := by rw [hD]; rfl
      obtain ⟨c, rfl, hc1, hc2, hc3, hc⟩ := fin v T2 _ (hT2) (by rw [hE]) (by rw [hE]; exact hv)
      have gD := (gC.ext (hT2)).get
      have gE := (gC.ext (hT2)).lt
      simp (disch:=first|assumption|omega|(simp only [lens];omega)) only [eqs,↓gvd_succ,↓gvd_zero,↓and_of,im_of,im_of trivial,vlt,hP,hst,initS,Nat.reduceBEq,Nat.reduceAdd,Nat.reduceMul,Nat.reduceSub,Nat.reduceDiv,Nat.reduceMod,Nat.reducePow,Nat.reduceLT,Nat.reduceLeDiff,Nat.reduceEqDiff,Int.reduceAdd,Int.reduceSub,Int.reduceNeg,Int.reduceMul,Int.reduceToNat,Int.reducePow,Int.reduceLE,Int.reduceLT,Int.reduceEq,Int.reduceNe,reduceIte,reduceCtorEq,ne_eq,not_true_eq_false,not_false_eq_true,imp_self,implies_true,bls,eq_self,gD,gE,hX,hc1,hc2,hc3,take7 hc2,List.append_nil,zD7]
      exact hc
    · simp (disch:=first|assumption|omega|(simp only [lens];omega)) only [eqs,↓gvd_succ,↓gvd_zero,↓and_of,im_of,im_of trivial,vlt,hP,hst,initS,Nat.reduceBEq,Nat.reduceAdd,Nat.reduceMul,Nat.reduceSub,Nat.reduceDiv,Nat.reduceMod,Nat.reducePow,Nat.reduceLT,Nat.reduceLeDiff,Nat.reduceEqDiff,Int.reduceAdd,Int.reduceSub,Int.reduceNeg,Int.reduceMul,Int.reduceToNat,Int.reducePow,Int.reduceLE,Int.reduceLT,Int.reduceEq,Int.reduceNe,reduceIte,reduceCtorEq,ne_eq,not_true_eq_false,not_false_eq_true,imp_self,implies_true,bls,eq_self,hs,q1,q2,q3,hXT,zD_map,zD7,List.append_nil,sx2]
      refine E_call (hP ▸ s_truth9) ⟨_, rfl, fun v T2 hT2 hv => ?_⟩
      have hT2 := (Ext.add _).trans hT2
      have hE : doM 19 [(.mk k0 g0 l0 b0 s0 its0 tls0)] = (dBool (decide (k0 = 2)), 0) := by rw [hD]; rfl
      obtain ⟨c, rfl, hc1, hc2, hc3, hc⟩ := fin v T2 _ (hT2) (by rw [hE]) (by rw [hE]; exact hv)
      have gD := (gC.ext (hT2)).get
      have gE := (gC.ext (hT2)).lt
      simp (disch:=first|assumption|omega|(simp only [lens];omega)) only [eqs,↓gvd_succ,↓gvd_zero,↓and_of,im_of,im_of trivial,vlt,hP,hst,initS,Nat.reduceBEq,Nat.reduceAdd,Nat.reduceMul,Nat.reduceSub,Nat.reduceDiv,Nat.reduceMod,Nat.reducePow,Nat.reduceLT,Nat.reduceLeDiff,Nat.reduceEqDiff,Int.reduceAdd,Int.reduceSub,Int.reduceNeg,Int.reduceMul,Int.reduceToNat,Int.reducePow,Int.reduceLE,Int.reduceLT,Int.reduceEq,Int.reduceNe,reduceIte,reduceCtorEq,ne_eq,not_true_eq_false,not_false_eq_true,imp_self,implies_true,bls,eq_self,gD,gE,hX,hc1,hc2,hc3,take7 hc2,List.append_nil,zD7]
      exact hc
    · simp (disch:=first|assumption|omega|(simp only [lens];omega)) only [eqs,↓gvd_succ,↓gvd_zero,↓and_of,im_of,im_of trivial,vlt,hP,hst,initS,Nat.reduceBEq,Nat.reduceAdd,Nat.reduceMul,Nat.reduceSub,Nat.reduceDiv,Nat.reduceMod,Nat.reducePow,Nat.reduceLT,Nat.reduceLeDiff,Nat.reduceEqDiff,Int.reduceAdd,Int.reduceSub,Int.reduceNeg,Int.reduceMul,Int.reduceToNat,Int.reducePow,Int.reduceLE,Int.reduceLT,Int.reduceEq,Int.reduceNe,reduceIte,reduceCtorEq,ne_eq,not_true_eq_false,not_false_eq_true,imp_self,implies_true,bls,eq_self,hs,q1,q2,q3,hXT,zD_map,zD7,List.append_nil,sx2]
      refine E_call (hP ▸ s_qTrue) ⟨_, _, rfl, t0.ext (.add _), fun T1 hT1 => ?_⟩
      simp (disch:=first|assumption|omega|(simp only [lens];omega)) only [eqs,↓gvd_succ,↓gvd_zero,↓and_of,im_of,im_of trivial,vlt,hP,hst,initS,Nat.reduceBEq,Nat.reduceAdd,Nat.reduceMul,Nat.reduceSub,Nat.reduceDiv,Nat.reduceMod,Nat.reducePow,Nat.reduceLT,Nat.reduceLeDiff,Nat.reduceEqDiff,Int.reduceAdd,Int.reduceSub,Int.reduceNeg,Int.reduceMul,Int.reduceToNat,Int.reducePow,Int.reduceLE,Int.reduceLT,Int.reduceEq,Int.reduceNe,reduceIte,reduceCtorEq,ne_eq,not_true_eq_false,not_false_eq_true,imp_self,implies_true,bls,eq_self]
      refine E_call (hP ▸ s_truth9) ⟨_, rfl, fun v T2 hT2 hv => ?_⟩
      have hT2 := ((Ext.add _).trans hT1).trans hT2
      have hE : doM 22 [(.mk k0 g0 l0 b0 s0 its0 tls0)] = (dBool (!trM (.mk k0 g0 l0 b0 s0 its0 tls0)), 0) := by rw [hD]; rfl
      obtain ⟨c, rfl, hc1, hc2, hc3, hc⟩ := fin v T2 _ (hT2) (by rw [hE]) (by rw [hE]; exact hv)
      have gD := (gC.ext (hT2)).get
      have gE := (gC.ext (hT2)).lt
      simp (disch:=first|assumption|omega|(simp only [lens];omega)) only [eqs,↓gvd_succ,↓gvd_zero,↓and_of,im_of,im_of trivial,vlt,hP,hst,initS,Nat.reduceBEq,Nat.reduceAdd,Nat.reduceMul,Nat.reduceSub,Nat.reduceDiv,Nat.reduceMod,Nat.reducePow,Nat.reduceLT,Nat.reduceLeDiff,Nat.reduceEqDiff,Int.reduceAdd,Int.reduceSub,Int.reduceNeg,Int.reduceMul,Int.reduceToNat,Int.reducePow,Int.reduceLE,Int.reduceLT,Int.reduceEq,Int.reduceNe,reduceIte,reduceCtorEq,ne_eq,not_true_eq_false,not_false_eq_true,imp_self,implies_true,bls,eq_self,gD,gE,hX,hc1,hc2,hc3,take7 hc2,List.append_nil,zD7]
      exact hc
    · simp (disch:=first|assumption|omega|(simp only [lens];omega)) only [eqs,↓gvd_succ,↓gvd_zero,↓and_of,im_of,im_of trivial,vlt,hP,hst,initS,Nat.reduceBEq,Nat.reduceAdd,Nat.reduceMul,Nat.reduceSub,Nat.reduceDiv,Nat.reduceMod,Nat.reducePow,Nat.reduceLT,Nat.reduceLeDiff,Nat.reduceEqDiff,Int.reduceAdd,Int.reduceSub,Int.reduceNeg,Int.reduceMul,Int.reduceToNat,Int.reducePow,Int.reduceLE,Int.reduceLT,Int.reduceEq,Int.reduceNe,reduceIte,reduceCtorEq,ne_eq,not_true_eq_false,not_false_eq_true,imp_self,implies_true,bls,eq_self,hs,q1,q2,q3,hXT,zD_map,zD7,List.append_nil]
      obtain ⟨V0, hV0⟩ : ∃ V, T0 ++ [some [.val (.int .i64 k0), .val (.bool g0), a0, .val (.bool b0), .val (.string s0), x0, z0]] = V := ⟨_, rfl⟩
      have v0 : Ext T0 V0 := ⟨_, hV0.symm⟩
      have gB : At V0 T0.length _ := hV0 ▸ At.mk0
      rw [hV0]
      clear hV0
      have hyV := hy2.ext (e0.trans v0)
      obtain ⟨csV, hslV, _, _⟩ := hyV.inv
      simp (disch:=first|assumption|omega|(simp only [lens];omega)) only [eqs,↓gvd_succ,↓gvd_zero,↓and_of,im_of,im_of trivial,vlt,hP,hst,initS,Nat.reduceBEq,Nat.reduceAdd,Nat.reduceMul,Nat.reduceSub,Nat.reduceDiv,Nat.reduceMod,Nat.reducePow,Nat.reduceLT,Nat.reduceLeDiff,Nat.reduceEqDiff,Int.reduceAdd,Int.reduceSub,Int.reduceNeg,Int.reduceMul,Int.reduceToNat,Int.reducePow,Int.reduceLE,Int.reduceLT,Int.reduceEq,Int.reduceNe,reduceIte,reduceCtorEq,ne_eq,not_true_eq_false,not_false_eq_true,imp_self,implies_true,bls,eq_self,hslV]
      refine V_loop (ι := Nat × St) (fun e => [(120, .val (.int .i64 (e.1 : Int))), (119, .val (.int .i64 ((1 : Nat) : Int))), (118, y), (1, y), (0, .val (.int .i64 23)), (4, .ptr st.length 0), (6, .ptr T0.length 0)]) (fun e => e.2)
        (fun e => Ext V0 e.2 ∧ e.1 ≤ 1 ∧ ∀ (j : Nat) d, j < e.1 → ([(.mk k0 g0 l0 b0 s0 its0 tls0)] : List Dt)[j]? = some d → d.kd = 4) (fun e => 1 - e.1) (0, V0) ⟨.refl, by simp, by simp⟩ rfl (by simp (disch:=first|assumption|omega|(simp only [lens];omega)) only [eqs,↓gvd_succ,↓gvd_zero,↓and_of,im_of,im_of trivial,vlt,hP,hst,initS,Nat.reduceBEq,Nat.reduceAdd,Nat.reduceMul,Nat.reduceSub,Nat.reduceDiv,Nat.reduceMod,Nat.reducePow,Nat.reduceLT,Nat.reduceLeDiff,Nat.reduceEqDiff,Int.reduceAdd,Int.reduceSub,Int.reduceNeg,Int.reduceMul,Int.reduceToNat,Int.reducePow,Int.reduceLE,Int.reduceLT,Int.reduceEq,Int.reduceNe,reduceIte,reduceCtorEq,ne_eq,not_true_eq_false,not_false_eq_true,imp_self,implies_true,bls,eq_self] <;> rfl) ?_
      rintro ⟨i, T⟩ ⟨hT, hi, hj⟩
      dsimp only at hT hi hj ⊢
      simp (disch:=first|assumption|omega|(simp only [lens];omega)) only [eqs,↓gvd_succ,↓gvd_zero,↓and_of,im_of,im_of trivial,vlt,hP,hst,initS,Nat.reduceBEq,Nat.reduceAdd,Nat.reduceMul,Nat.reduceSub,Nat.reduceDiv,Nat.reduceMod,Nat.reducePow,Nat.reduceLT,Nat.reduceLeDiff,Nat.reduceEqDiff,Int.reduceAdd,Int.reduceSub,Int.reduceNeg,Int.reduceMul,Int.reduceToNat,Int.reducePow,Int.reduceLE,Int.reduceLT,Int.reduceEq,Int.reduceNe,reduceIte,reduceCtorEq,ne_eq,not_true_eq_false,not_false_eq_true,imp_self,implies_true,bls,eq_self]
      refine C_dec (fun h => ?_) (fun h => ?_)
      · obtain ⟨cs, c, d, hsl, hcl, hc, hc7, hca, he, hec, hb1, hb2⟩ := (hyV.ext hT).at (i := i) (by simp only [List.length_cons, List.length_nil]; omega)
        have hdm := List.mem_of_getElem? he
        have hXl := Nat.le_trans hX (e0.trans (v0.trans hT)).len
        cases hec with
        | @mk k g a l b s x z its tls ha hx hz =>
        simp only [List.length_cons, List.length_nil, Nat.zero_add, Nat.reduceAdd] at hsl hb1 hb2
        simp (disch:=first|assumption|omega|(simp only [lens];omega)) only [eqs,↓gvd_succ,↓gvd_zero,↓and_of,im_of,im_of trivial,vlt,hP,hst,initS,Nat.reduceBEq,Nat.reduceAdd,Nat.reduceMul,Nat.reduceSub,Nat.reduceDiv,Nat.reduceMod,Nat.reducePow,Nat.reduceLT,Nat.reduceLeDiff,Nat.reduceEqDiff,Int.reduceAdd,Int.reduceSub,Int.reduceNeg,Int.reduceMul,Int.reduceToNat,Int.reducePow,Int.reduceLE,Int.reduceLT,Int.reduceEq,Int.reduceNe,reduceIte,reduceCtorEq,ne_eq,not_true_eq_false,not_false_eq_true,imp_self,implies_true,bls,eq_self,hsl,hcl,hc,hca,zD_map,hXl,hb1,hb2]
        have gD := (gC.ext ((v0.trans hT).trans (.add [some [.val (.int .i64 k), .val (.bool g), a, .val (.bool b), .val (.string s), x, z]]))).get
        have gE := (gC.ext ((v0.trans hT).trans (.add [some [.val (.int .i64 k), .val (.bool g), a, .val (.bool b), .val (.string s), x, z]]))).lt
        refine C_dec (fun h5 => ?_) (fun h5 => ?_)
        · have hE : doM 23 [(.mk k0 g0 l0 b0 s0 its0 tls0)] = (dNil, 6) := by rw [hD, show doK 23 (.mk k0 g0 l0 b0 s0 its0 tls0) [] = textsM 23 [(.mk k0 g0 l0 b0 s0 its0 tls0)] from rfl]; exact if_neg fun h3 => h5 (h3 _ hdm)
          simp (disch:=first|assumption|omega|(simp only [lens];omega)) only [eqs,↓gvd_succ,↓gvd_zero,↓and_of,im_of,im_of trivial,vlt,hP,hst,initS,Nat.reduceBEq,Nat.reduceAdd,Nat.reduceMul,Nat.reduceSub,Nat.reduceDiv,Nat.reduceMod,Nat.reducePow,Nat.reduceLT,Nat.reduceLeDiff,Nat.reduceEqDiff,Int.reduceAdd,Int.reduceSub,Int.reduceNeg,Int.reduceMul,Int.reduceToNat,Int.reducePow,Int.reduceLE,Int.reduceLT,Int.reduceEq,Int.reduceNe,reduceIte,reduceCtorEq,ne_eq,not_true_eq_false,not_false_eq_true,imp_self,implies_true,bls,eq_self,gD,gE,hX,zD_map,zD7]
          exact bad _ 6 ((v0.trans hT).trans (.add _)) hE
        · have h5 := Classical.not_not.1 h5
          simp (disch:=first|assumption|omega|(simp only [lens];omega)) only [eqs,↓gvd_succ,↓gvd_zero,↓and_of,im_of,im_of trivial,vlt,hP,hst,initS,Nat.reduceBEq,Nat.reduceAdd,Nat.reduceMul,Nat.reduceSub,Nat.reduceDiv,Nat.reduceMod,Nat.reducePow,Nat.reduceLT,Nat.reduceLeDiff,Nat.reduceEqDiff,Int.reduceAdd,Int.reduceSub,Int.reduceNeg,Int.reduceMul,Int.reduceToNat,Int.reducePow,Int.reduceLE,Int.reduceLT,Int.reduceEq,Int.reduceNe,reduceIte,reduceCtorEq,ne_eq,not_true_eq_false,not_false_eq_true,imp_self,implies_true,bls,eq_self]
          refine again (i + 1, _) ⟨hT.trans (.add _), by dsimp only; omega, fun j d' hj2 hd => ?_⟩ (by dsimp only; omega) rfl (by dsimp only; simp (disch:=first|assumption|omega|(simp only [lens];omega)) only [eqs,↓gvd_succ,↓gvd_zero,↓and_of,im_of,im_of trivial,vlt,hP,hst,initS,Nat.reduceBEq,Nat.reduceAdd,Nat.reduceMul,Nat.reduceSub,Nat.reduceDiv,Nat.reduceMod,Nat.reducePow,Nat.reduceLT,Nat.reduceLeDiff,Nat.reduceEqDiff,Int.reduceAdd,Int.reduceSub,Int.reduceNeg,Int.reduceMul,Int.reduceToNat,Int.reducePow,Int.reduceLE,Int.reduceLT,Int.reduceEq,Int.reduceNe,reduceIte,reduceCtorEq,ne_eq,not_true_eq_false,not_false_eq_true,imp_self,implies_true,bls,eq_self] <;> rfl)
          by_cases hji : j = i
          · subst hji
            rw [he] at hd; cases hd
            exact h5
          · exact hj j d' (by dsimp only at hj2; omega) hd
      have hall : ∀ d ∈ ([(.mk k0 g0 l0 b0 s0 its0 tls0)] : List Dt), d.kd = 4 := fun d hd => by
        obtain ⟨j, hjd⟩ := List.mem_iff_getElem?.1 hd
        exact hj j d (by have := (List.getElem?_eq_some_iff.1 hjd).1; simp only [List.length_cons, List.length_nil] at this; omega) hjd
      have eT := v0.trans hT
      have gB2 := (gB.ext hT).get
      obtain ⟨hs3, _⟩ : sl 7 T y = _ ∧ True := ⟨by obtain ⟨z, rfl⟩ := eT; exact sl_grow hs z, trivial⟩
      have u0 := f0.2.2.2
      simp only [Dt.tx] at u0
      have ub0 : ((sb s0).length : Int) ≤ 9223372036854775807 := by rw [sb_length]; omega
      simp (disch:=first|assumption|omega|(simp only [lens];omega)) only [eqs,↓gvd_succ,↓gvd_zero,↓and_of,im_of,im_of trivial,vlt,hP,hst,initS,Nat.reduceBEq,Nat.reduceAdd,Nat.reduceMul,Nat.reduceSub,Nat.reduceDiv,Nat.reduceMod,Nat.reducePow,Nat.reduceLT,Nat.reduceLeDiff,Nat.reduceEqDiff,Int.reduceAdd,Int.reduceSub,Int.reduceNeg,Int.reduceMul,Int.reduceToNat,Int.reducePow,Int.reduceLE,Int.reduceLT,Int.reduceEq,Int.reduceNe,reduceIte,reduceCtorEq,ne_eq,not_true_eq_false,not_false_eq_true,imp_self,implies_true,bls,eq_self,gB2]
      refine E_call (hP ▸ z_qOf) ⟨_, rfl, by omega, ub0, fun v1 T1 hT1 hv1 => ?_⟩
      simp (disch:=first|assumption|omega|(simp only [lens];omega)) only [eqs,↓gvd_succ,↓gvd_zero,↓and_of,im_of,im_of trivial,vlt,hP,hst,initS,Nat.reduceBEq,Nat.reduceAdd,Nat.reduceMul,Nat.reduceSub,Nat.reduceDiv,Nat.reduceMod,Nat.reducePow,Nat.reduceLT,Nat.reduceLeDiff,Nat.reduceEqDiff,Int.reduceAdd,Int.reduceSub,Int.reduceNeg,Int.reduceMul,Int.reduceToNat,Int.reducePow,Int.reduceLE,Int.reduceLT,Int.reduceEq,Int.reduceNe,reduceIte,reduceCtorEq,ne_eq,not_true_eq_false,not_false_eq_true,imp_self,implies_true,bls,eq_self]
      refine E_call (hP ▸ s_number9) ⟨_, _, _, rfl, hv1, fun v T2 hT2 hv => ?_⟩
      have hT2 := (eT.trans hT1).trans hT2
      rw [told_small (Nat.le_trans (limbs_len_le (k := 2) (by rw [sb_length, show (4294967296 : Nat) ^ 2 = 18446744073709551616 from rfl]; omega)) (by omega))] at hv ⊢
      rw [sb_length] at hv
      have hE : doM 23 [(.mk k0 g0 l0 b0 s0 its0 tls0)] = (dNum (s0.size : Nat), 0) := by rw [hD, show doK 23 (.mk k0 g0 l0 b0 s0 its0 tls0) [] = textsM 23 [(.mk k0 g0 l0 b0 s0 its0 tls0)] from rfl]; unfold textsM; rw [if_pos hall, if_pos rfl]; simp [sumT, Dt.tx]
      obtain ⟨c, rfl, hc1, hc2, hc3, hc⟩ := fin v T2 _ (hT2) (by rw [hE]) (by rw [hE]; exact hv)
      have gD := (gC.ext (hT2)).get
      have gE := (gC.ext (hT2)).lt
      simp (disch:=first|assumption|omega|(simp only [lens];omega)) only [eqs,↓gvd_succ,↓gvd_zero,↓and_of,im_of,im_of trivial,vlt,hP,hst,initS,Nat.reduceBEq,Nat.reduceAdd,Nat.reduceMul,Nat.reduceSub,Nat.reduceDiv,Nat.reduceMod,Nat.reducePow,Nat.reduceLT,Nat.reduceLeDiff,Nat.reduceEqDiff,Int.reduceAdd,Int.reduceSub,Int.reduceNeg,Int.reduceMul,Int.reduceToNat,Int.reducePow,Int.reduceLE,Int.reduceLT,Int.reduceEq,Int.reduceNe,reduceIte,reduceCtorEq,ne_eq,not_true_eq_false,not_false_eq_true,imp_self,implies_true,bls,eq_self,gD,gE,hX,hc1,hc2,hc3,take7 hc2,List.append_nil,zD7]
      exact hc
    · simp (disch:=first|assumption|omega|(simp only [lens];omega)) only [eqs,↓gvd_succ,↓gvd_zero,↓and_of,im_of,im_of trivial,vlt,hP,hst,initS,Nat.reduceBEq,Nat.reduceAdd,Nat.reduceMul,Nat.reduceSub,Nat.reduceDiv,Nat.reduceMod,Nat.reducePow,Nat.reduceLT,Nat.reduceLeDiff,Nat.reduceEqDiff,Int.reduceAdd,Int.reduceSub,Int.reduceNeg,Int.reduceMul,Int.reduceToNat,Int.reducePow,Int.reduceLE,Int.reduceLT,Int.reduceEq,Int.reduceNe,reduceIte,reduceCtorEq,ne_eq,not_true_eq_false,not_false_eq_true,imp_self,implies_true,bls,eq_self,hs,q1,q2,q3,hXT,zD_map,zD7,List.append_nil,sx2]
      refine C_dec (fun h5 => ?_) (fun h5 => ?_)
      · have hE : doM 26 [(.mk k0 g0 l0 b0 s0 its0 tls0)] = (dNil, 6) := by rw [hD]; exact if_neg h5
        have gD := (gC.ext (Ext.add [some [.val (.int .i64 k0), .val (.bool g0), a0, .val (.bool b0), .val (.string s0), x0, z0]])).get
        have gE := (gC.ext (Ext.add [some [.val (.int .i64 k0), .val (.bool g0), a0, .val (.bool b0), .val (.string s0), x0, z0]])).lt
        simp (disch:=first|assumption|omega|(simp only [lens];omega)) only [eqs,↓gvd_succ,↓gvd_zero,↓and_of,im_of,im_of trivial,vlt,hP,hst,initS,Nat.reduceBEq,Nat.reduceAdd,Nat.reduceMul,Nat.reduceSub,Nat.reduceDiv,Nat.reduceMod,Nat.reducePow,Nat.reduceLT,Nat.reduceLeDiff,Nat.reduceEqDiff,Int.reduceAdd,Int.reduceSub,Int.reduceNeg,Int.reduceMul,Int.reduceToNat,Int.reducePow,Int.reduceLE,Int.reduceLT,Int.reduceEq,Int.reduceNe,reduceIte,reduceCtorEq,ne_eq,not_true_eq_false,not_false_eq_true,imp_self,implies_true,bls,eq_self,gD,gE,hX,zD_map,zD7]
        exact bad _ 6 (.add _) hE
      · have h5 := Classical.not_not.1 h5
        have hT2 : Ext T0 (T0 ++ [some [.val (.int .i64 k0), .val (.bool g0), a0, .val (.bool b0), .val (.string s0), x0, z0]]) := .add _
        have hE : doM 26 [(.mk k0 g0 l0 b0 s0 its0 tls0)] = (dStr (s0), 0) := by rw [hD]; exact if_pos h5
        have gD := (gC.ext hT2).get
        have gE := (gC.ext hT2).lt
        simp (disch:=first|assumption|omega|(simp only [lens];omega)) only [eqs,↓gvd_succ,↓gvd_zero,↓and_of,im_of,im_of trivial,vlt,hP,hst,initS,Nat.reduceBEq,Nat.reduceAdd,Nat.reduceMul,Nat.reduceSub,Nat.reduceDiv,Nat.reduceMod,Nat.reducePow,Nat.reduceLT,Nat.reduceLeDiff,Nat.reduceEqDiff,Int.reduceAdd,Int.reduceSub,Int.reduceNeg,Int.reduceMul,Int.reduceToNat,Int.reducePow,Int.reduceLE,Int.reduceLT,Int.reduceEq,Int.reduceNe,reduceIte,reduceCtorEq,ne_eq,not_true_eq_false,not_false_eq_true,imp_self,implies_true,bls,eq_self,gD,gE,hX,zD_map,zD7]
        rw [hE] at hK
        exact hK _ _ ((e0.trans hT2).set (Nat.le_refl _) _) (DA0.mk Nm.nil)
    · simp (disch:=first|assumption|omega|(simp only [lens];omega)) only [eqs,↓gvd_succ,↓gvd_zero,↓and_of,im_of,im_of trivial,vlt,hP,hst,initS,Nat.reduceBEq,Nat.reduceAdd,Nat.reduceMul,Nat.reduceSub,Nat.reduceDiv,Nat.reduceMod,Nat.reducePow,Nat.reduceLT,Nat.reduceLeDiff,Nat.reduceEqDiff,Int.reduceAdd,Int.reduceSub,Int.reduceNeg,Int.reduceMul,Int.reduceToNat,Int.reducePow,Int.reduceLE,Int.reduceLT,Int.reduceEq,Int.reduceNe,reduceIte,reduceCtorEq,ne_eq,not_true_eq_false,not_false_eq_true,imp_self,implies_true,bls,eq_self,hs,q1,q2,q3,hXT,zD_map,zD7,List.append_nil,sx2]
      refine C_dec (fun h5 => ?_) (fun h5 => ?_)
      · have hE : doM 27 [(.mk k0 g0 l0 b0 s0 its0 tls0)] = (dNil, 6) := by rw [hD]; exact if_neg h5
        have gD := (gC.ext (Ext.add [some [.val (.int .i64 k0), .val (.bool g0), a0, .val (.bool b0), .val (.string s0), x0, z0]])).get
        have gE := (gC.ext (Ext.add [some [.val (.int .i64 k0), .val (.bool g0), a0, .val (.bool b0), .val (.string s0), x0, z0]])).lt
        simp (disch:=first|assumption|omega|(simp only [lens];omega)) only [eqs,↓gvd_succ,↓gvd_zero,↓and_of,im_of,im_of trivial,vlt,hP,hst,initS,Nat.reduceBEq,Nat.reduceAdd,Nat.reduceMul,Nat.reduceSub,Nat.reduceDiv,Nat.reduceMod,Nat.reducePow,Nat.reduceLT,Nat.reduceLeDiff,Nat.reduceEqDiff,Int.reduceAdd,Int.reduceSub,Int.reduceNeg,Int.reduceMul,Int.reduceToNat,Int.reducePow,Int.reduceLE,Int.reduceLT,Int.reduceEq,Int.reduceNe,reduceIte,reduceCtorEq,ne_eq,not_true_eq_false,not_false_eq_true,imp_self,implies_true,bls,eq_self,gD,gE,hX,zD_map,zD7]
        exact bad _ 6 (.add _) hE
      · have h5 := Classical.not_not.1 h5
        simp (disch:=first|assumption|omega|(simp only [lens];omega)) only [eqs,↓gvd_succ,↓gvd_zero,↓and_of,im_of,im_of trivial,vlt,hP,hst,initS,Nat.reduceBEq,Nat.reduceAdd,Nat.reduceMul,Nat.reduceSub,Nat.reduceDiv,Nat.reduceMod,Nat.reducePow,Nat.reduceLT,Nat.reduceLeDiff,Nat.reduceEqDiff,Int.reduceAdd,Int.reduceSub,Int.reduceNeg,Int.reduceMul,Int.reduceToNat,Int.reducePow,Int.reduceLE,Int.reduceLT,Int.reduceEq,Int.reduceNe,reduceIte,reduceCtorEq,ne_eq,not_true_eq_false,not_false_eq_true,imp_self,implies_true,bls,eq_self]
        refine E_call (hP ▸ s_qText) ⟨_, g0, l0, rfl, ⟨a0, rfl, n0.ext (.add _)⟩, w0, fun T2 hT2 => ?_⟩
        have hT2 := (Ext.add _).trans hT2
        have hE : doM 27 [(.mk k0 g0 l0 b0 s0 its0 tls0)] = (dStr (bstr (txtI (iv g0 (val l0)))), 0) := by rw [hD]; exact if_pos h5
        have gD := (gC.ext hT2).get
        have gE := (gC.ext hT2).lt
        simp (disch:=first|assumption|omega|(simp only [lens];omega)) only [eqs,↓gvd_succ,↓gvd_zero,↓and_of,im_of,im_of trivial,vlt,hP,hst,initS,Nat.reduceBEq,Nat.reduceAdd,Nat.reduceMul,Nat.reduceSub,Nat.reduceDiv,Nat.reduceMod,Nat.reducePow,Nat.reduceLT,Nat.reduceLeDiff,Nat.reduceEqDiff,Int.reduceAdd,Int.reduceSub,Int.reduceNeg,Int.reduceMul,Int.reduceToNat,Int.reducePow,Int.reduceLE,Int.reduceLT,Int.reduceEq,Int.reduceNe,reduceIte,reduceCtorEq,ne_eq,not_true_eq_false,not_false_eq_true,imp_self,implies_true,bls,eq_self,gD,gE,hX,zD_map,zD7]
        rw [hE] at hK
        exact hK _ _ ((e0.trans hT2).set (Nat.le_refl _) _) (DA0.mk Nm.nil)
end Go.Proofs.Pv

/- PrimDoes, walked. -/
namespace Go.Proofs.Pv
open Go Go.RowKit Go.Proofs
set_option maxRecDepth 20000

theorem fit_nil : dNil.fit := fit0 (by simp)
theorem fit_bool {b : Bool} : (dBool b).fit := fit0 (by simp)
theorem fit_str {s : ByteArray} : (dStr s).fit := fit0 (by simp)
theorem fit_num {z : Int} (h : (limbs z.natAbs).length ≤ 64) : (dNum z).fit := fit0 (by omega)
theorem fit_told {z : Int} : (toldM z).1.fit := by
  unfold toldM
  split
  · exact fit_nil
  · exact fit_num (by omega)
theorem fit_numM {p z w : Int} : (numM p z w).1.fit := by
  unfold numM
  repeat' split
  all_goals first | exact fit_told | exact fit_nil | exact fit_bool
theorem fit_textsM {p : Int} {l : List Dt} (hl : lightM l) : (textsM p l).1.fit := by
  unfold textsM
  split
  · split
    · have h1 : ∀ d ∈ l, d.tx.size ≤ 140737488355328 := fun d hd => Nat.le_trans (hl.2 d hd).2.2.2 (by omega)
      have h2 := sumT_le h1
      have h3 := hl.1
      refine fit_num (Nat.le_trans (limbs_len_le (k := 3) ?_) (by omega))
      rw [Int.natAbs_natCast, show (4294967296 : Nat) ^ 3 = 79228162514264337593543950336 from rfl]
      omega
    · split
      · exact fit_bool
      · split
        · exact fit_nil
        · exact fit_str
  · exact fit_nil
theorem fit_doK {p : Int} {d : Dt} {r : List Dt} (hl : lightM (d :: r)) : (doK p d r).1.fit := by
  unfold doK
  by_cases h : p = 14
  · rw [if_pos h]; exact fit_bool
  rw [if_neg h]; clear h
  by_cases h : p = 15
  · rw [if_pos h]; exact fit_bool
  rw [if_neg h]; clear h
  by_cases h : p = 16
  · rw [if_pos h]; exact fit_bool
  rw [if_neg h]; clear h
  by_cases h : p = 17
  · rw [if_pos h]; exact fit_bool
  rw [if_neg h]; clear h
  by_cases h : p = 18
  · rw [if_pos h]; exact fit_bool
  rw [if_neg h]; clear h
  by_cases h : p = 19
  · rw [if_pos h]; exact fit_bool
  rw [if_neg h]; clear h
  by_cases h : p = 21
  · rw [if_pos h]
    cases r with
    | nil => exact fit_nil
    | cons e r => exact fit_bool
  rw [if_neg h]; clear h
  by_cases h : p = 22
  · rw [if_pos h]; exact fit_bool
  rw [if_neg h]; clear h
  by_cases h : p = 26
  · rw [if_pos h]
    by_cases h3 : d.kd = 3
    · rw [if_pos h3]; exact fit_str
    · rw [if_neg h3]; exact fit_nil
  rw [if_neg h]; clear h
  by_cases h : p = 27
  · rw [if_pos h]
    by_cases h3 : d.kd = 1
    · rw [if_pos h3]; exact fit_str
    · rw [if_neg h3]; exact fit_nil
  rw [if_neg h]
  exact fit_textsM hl
theorem fit_doM {p : Int} {ds : List Dt} (hl : lightM ds) : (doM p ds).1.fit := by
  unfold doM
  split
  · exact fit_nil
  · split
    · exact fit_nil
    · match ds with
      | [] => exact fit_nil
      | d :: r =>
        by_cases h8 : p ≤ 8
        · match r with
          | [] => rw [show doL p [d] = if p ≤ 8 then (dNil, 8) else doK p d [] from rfl, if_pos h8]; exact fit_nil
          | e :: r =>
            rw [show doL p (d :: e :: r) = if p ≤ 8 then (if d.kd = 1 ∧ e.kd = 1 then numM p d.iv e.iv else (dNil, 6)) else doK p d (e :: r) from rfl, if_pos h8]
            split
            · exact fit_numM
            · exact fit_nil
        · rw [doL_gt h8]
          exact fit_doK hl
theorem light_few2 {d : Dt} (h : light1 d) : d.few := ⟨by have := h.1; omega, by have := h.2.1; omega⟩
def RDoes (xs : List AV) (st : St) (K : AV → St → Prop) : Prop := ∃ (p : Int) (y : AV) (ds : List Dt), xs = [.val (.int .i64 p), y] ∧ DS st y ds ∧ fits ds ∧ anyw st (.bool true) K
set_option maxHeartbeats 4000000 in
theorem s_PrimDoes : ∀ w0, (GP w0 ∧ GI w0) → PSpecAt Tryz.prog w0 3 RDoes := by
  refine gspec_of (G := fun w => GP w ∧ GI w) (fn := Tryz.f3) 2 [.tmp 4] (by kernel_rfl) rfl rfl (by kernel_rfl) mixed (by rintro _ _ _ ⟨p, y, ds, rfl, _⟩; rfl) ?_
  rintro X _ st K hP hst hG ⟨p, y, ds, rfl, hy, hf, hK⟩
  have hG2 := hG.2
  have hG := hG.1
  have hX : X.st1.length ≤ st.length := by rw [hst]; omega
  refine vc_V ?_
  simp (disch:=first|assumption|omega|(simp only [lens];omega)) only [eqs,↓gvd_succ,↓gvd_zero,↓and_of,im_of,im_of trivial,vlt,hP,hst,initS,Nat.reduceBEq,Nat.reduceAdd,Nat.reduceMul,Nat.reduceSub,Nat.reduceDiv,Nat.reduceMod,Nat.reducePow,Nat.reduceLT,Nat.reduceLeDiff,Nat.reduceEqDiff,Int.reduceAdd,Int.reduceSub,Int.reduceNeg,Int.reduceMul,Int.reduceToNat,Int.reducePow,Int.reduceLE,Int.reduceLT,Int.reduceEq,Int.reduceNe,reduceIte,reduceCtorEq,ne_eq,not_true_eq_false,not_false_eq_true,imp_self,implies_true,bls,eq_self]
  refine E_call (hP ▸ s_light) ⟨_, ds, rfl, hy, fun hl T1 e1 => ?_, fun hl T1 e1 => ?_⟩
  rotate_left
  · simp (disch:=first|assumption|omega|(simp only [lens];omega)) only [eqs,↓gvd_succ,↓gvd_zero,↓and_of,im_of,im_of trivial,vlt,hP,hst,initS,Nat.reduceBEq,Nat.reduceAdd,Nat.reduceMul,Nat.reduceSub,Nat.reduceDiv,Nat.reduceMod,Nat.reducePow,Nat.reduceLT,Nat.reduceLeDiff,Nat.reduceEqDiff,Int.reduceAdd,Int.reduceSub,Int.reduceNeg,Int.reduceMul,Int.reduceToNat,Int.reducePow,Int.reduceLE,Int.reduceLT,Int.reduceEq,Int.reduceNe,reduceIte,reduceCtorEq,ne_eq,not_true_eq_false,not_false_eq_true,imp_self,implies_true,bls,eq_self]
    refine E_callA (hP ▸ s_lives9 _ hG) ⟨rfl, fun T2 e2 => ?_⟩
    simp (disch:=first|assumption|omega|(simp only [lens];omega)) only [eqs,↓gvd_succ,↓gvd_zero,↓and_of,im_of,im_of trivial,vlt,hP,hst,initS,Nat.reduceBEq,Nat.reduceAdd,Nat.reduceMul,Nat.reduceSub,Nat.reduceDiv,Nat.reduceMod,Nat.reducePow,Nat.reduceLT,Nat.reduceLeDiff,Nat.reduceEqDiff,Int.reduceAdd,Int.reduceSub,Int.reduceNeg,Int.reduceMul,Int.reduceToNat,Int.reducePow,Int.reduceLE,Int.reduceLT,Int.reduceEq,Int.reduceNe,reduceIte,reduceCtorEq,ne_eq,not_true_eq_false,not_false_eq_true,imp_self,implies_true,bls,eq_self]
    exact hK _ (e1.trans e2)
  have hn : ds.length ≤ 10 := hl.1
  have hok : ∀ d ∈ ds, fineD d := fun d hd => ⟨fits_mem hf hd, light_few2 (hl.2 d hd), by have := (hl.2 d hd).2.2.1; omega, by have := (hl.2 d hd).2.2.2; omega⟩
  have q6 := fit_doM (p := p) hl
  obtain ⟨D, e, hq⟩ : ∃ D e, doM p ds = (D, e) := ⟨_, _, rfl⟩
  rw [hq] at q6
  dsimp only at q6
  simp (disch:=first|assumption|omega|(simp only [lens];omega)) only [eqs,↓gvd_succ,↓gvd_zero,↓and_of,im_of,im_of trivial,vlt,hP,hst,initS,Nat.reduceBEq,Nat.reduceAdd,Nat.reduceMul,Nat.reduceSub,Nat.reduceDiv,Nat.reduceMod,Nat.reducePow,Nat.reduceLT,Nat.reduceLeDiff,Nat.reduceEqDiff,Int.reduceAdd,Int.reduceSub,Int.reduceNeg,Int.reduceMul,Int.reduceToNat,Int.reducePow,Int.reduceLE,Int.reduceLT,Int.reduceEq,Int.reduceNe,reduceIte,reduceCtorEq,ne_eq,not_true_eq_false,not_false_eq_true,imp_self,implies_true,bls,eq_self]
  refine E_callA (hP ▸ s_Do _ hG) ⟨p, y, ds, rfl, hy.ext e1, by omega, hok, fun v T2 hT2 hv => ?_⟩
  rw [hq] at hv ⊢
  dsimp only at hv ⊢
  have dv := hv
  obtain ⟨k, g, a, l, b, s, rfl, hD, n⟩ := hv
  have lv := n.leaf
  have x2 := Nat.le_trans hX (e1.trans hT2).len
  simp (disch:=first|assumption|omega|(simp only [lens];omega)) only [eqs,↓gvd_succ,↓gvd_zero,↓and_of,im_of,im_of trivial,vlt,hP,hst,initS,Nat.reduceBEq,Nat.reduceAdd,Nat.reduceMul,Nat.reduceSub,Nat.reduceDiv,Nat.reduceMod,Nat.reducePow,Nat.reduceLT,Nat.reduceLeDiff,Nat.reduceEqDiff,Int.reduceAdd,Int.reduceSub,Int.reduceNeg,Int.reduceMul,Int.reduceToNat,Int.reducePow,Int.reduceLE,Int.reduceLT,Int.reduceEq,Int.reduceNe,reduceIte,reduceCtorEq,ne_eq,not_true_eq_false,not_false_eq_true,imp_self,implies_true,bls,eq_self,lv,x2,zD_map,zD7,List.append_nil]
  refine E_call (hP ▸ s_do9) ⟨p, y, ds, rfl, hy.ext ((e1.trans hT2).trans (.add _)), by omega, hok, fun v T3 hT3 hv => ?_⟩
  rw [hq] at hv ⊢
  dsimp only at hv ⊢
  have dw := hv
  obtain ⟨k', g', a', l', b', s', rfl, hD', n'⟩ := hv
  have lw := n'.leaf
  have e3 : Ext T2 T3 := (Ext.add _).trans hT3
  have at1 := At.mk0.ext hT3
  have g1 := fun y => at1.gr y
  have x3 := Nat.le_trans hX ((e1.trans hT2).trans e3).len
  simp (disch:=first|assumption|omega|(simp only [lens];omega)) only [eqs,↓gvd_succ,↓gvd_zero,↓and_of,im_of,im_of trivial,vlt,hP,hst,initS,Nat.reduceBEq,Nat.reduceAdd,Nat.reduceMul,Nat.reduceSub,Nat.reduceDiv,Nat.reduceMod,Nat.reducePow,Nat.reduceLT,Nat.reduceLeDiff,Nat.reduceEqDiff,Int.reduceAdd,Int.reduceSub,Int.reduceNeg,Int.reduceMul,Int.reduceToNat,Int.reducePow,Int.reduceLE,Int.reduceLT,Int.reduceEq,Int.reduceNe,reduceIte,reduceCtorEq,ne_eq,not_true_eq_false,not_false_eq_true,imp_self,implies_true,bls,eq_self,lv,lw,g1,x3,zD_map,zD7,List.append_nil]
  refine E_call (hP ▸ s_Same3 (D.sz + 1)) ⟨_, _, D, D, rfl, (dv.ext (e3.trans (.add _))).da, (dw.ext (.add _)).da, by omega, q6, q6, fun T4 hT4 => ?_⟩
  have e4 : Ext T3 T4 := (Ext.add _).trans hT4
  rw [sm_self]
  simp (disch:=first|assumption|omega|(simp only [lens];omega)) only [eqs,↓gvd_succ,↓gvd_zero,↓and_of,im_of,im_of trivial,vlt,hP,hst,initS,Nat.reduceBEq,Nat.reduceAdd,Nat.reduceMul,Nat.reduceSub,Nat.reduceDiv,Nat.reduceMod,Nat.reducePow,Nat.reduceLT,Nat.reduceLeDiff,Nat.reduceEqDiff,Int.reduceAdd,Int.reduceSub,Int.reduceNeg,Int.reduceMul,Int.reduceToNat,Int.reducePow,Int.reduceLE,Int.reduceLT,Int.reduceEq,Int.reduceNe,reduceIte,reduceCtorEq,ne_eq,not_true_eq_false,not_false_eq_true,imp_self,implies_true,bls,eq_self]
  refine E_callA (hP ▸ s_primPure _ hG2) ⟨p, rfl, ?_⟩
  simp (disch:=first|assumption|omega|(simp only [lens];omega)) only [eqs,↓gvd_succ,↓gvd_zero,↓and_of,im_of,im_of trivial,vlt,hP,hst,initS,Nat.reduceBEq,Nat.reduceAdd,Nat.reduceMul,Nat.reduceSub,Nat.reduceDiv,Nat.reduceMod,Nat.reducePow,Nat.reduceLT,Nat.reduceLeDiff,Nat.reduceEqDiff,Int.reduceAdd,Int.reduceSub,Int.reduceNeg,Int.reduceMul,Int.reduceToNat,Int.reducePow,Int.reduceLE,Int.reduceLT,Int.reduceEq,Int.reduceNe,reduceIte,reduceCtorEq,ne_eq,not_true_eq_false,not_false_eq_true,imp_self,implies_true,bls,eq_self]
  refine E_call (hP ▸ s_pure9) ⟨p, rfl, ?_⟩
  simp (disch:=first|assumption|omega|(simp only [lens];omega)) only [eqs,↓gvd_succ,↓gvd_zero,↓and_of,im_of,im_of trivial,vlt,hP,hst,initS,Nat.reduceBEq,Nat.reduceAdd,Nat.reduceMul,Nat.reduceSub,Nat.reduceDiv,Nat.reduceMod,Nat.reducePow,Nat.reduceLT,Nat.reduceLeDiff,Nat.reduceEqDiff,Int.reduceAdd,Int.reduceSub,Int.reduceNeg,Int.reduceMul,Int.reduceToNat,Int.reducePow,Int.reduceLE,Int.reduceLT,Int.reduceEq,Int.reduceNe,reduceIte,reduceCtorEq,ne_eq,not_true_eq_false,not_false_eq_true,imp_self,implies_true,bls,eq_self,beq_self_eq_true]
  refine E_call (hP ▸ s_Plain) ⟨p, rfl, ?_⟩
  simp (disch:=first|assumption|omega|(simp only [lens];omega)) only [eqs,↓gvd_succ,↓gvd_zero,↓and_of,im_of,im_of trivial,vlt,hP,hst,initS,Nat.reduceBEq,Nat.reduceAdd,Nat.reduceMul,Nat.reduceSub,Nat.reduceDiv,Nat.reduceMod,Nat.reducePow,Nat.reduceLT,Nat.reduceLeDiff,Nat.reduceEqDiff,Int.reduceAdd,Int.reduceSub,Int.reduceNeg,Int.reduceMul,Int.reduceToNat,Int.reducePow,Int.reduceLE,Int.reduceLT,Int.reduceEq,Int.reduceNe,reduceIte,reduceCtorEq,ne_eq,not_true_eq_false,not_false_eq_true,imp_self,implies_true,bls,eq_self]
  refine E_call (hP ▸ s_plain9) ⟨p, rfl, ?_⟩
  simp (disch:=first|assumption|omega|(simp only [lens];omega)) only [eqs,↓gvd_succ,↓gvd_zero,↓and_of,im_of,im_of trivial,vlt,hP,hst,initS,Nat.reduceBEq,Nat.reduceAdd,Nat.reduceMul,Nat.reduceSub,Nat.reduceDiv,Nat.reduceMod,Nat.reducePow,Nat.reduceLT,Nat.reduceLeDiff,Nat.reduceEqDiff,Int.reduceAdd,Int.reduceSub,Int.reduceNeg,Int.reduceMul,Int.reduceToNat,Int.reducePow,Int.reduceLE,Int.reduceLT,Int.reduceEq,Int.reduceNe,reduceIte,reduceCtorEq,ne_eq,not_true_eq_false,not_false_eq_true,imp_self,implies_true,bls,eq_self,beq_self_eq_true]
  refine E_callA (hP ▸ s_primName _ hG) ⟨p, rfl, ?_⟩
  simp (disch:=first|assumption|omega|(simp only [lens];omega)) only [eqs,↓gvd_succ,↓gvd_zero,↓and_of,im_of,im_of trivial,vlt,hP,hst,initS,Nat.reduceBEq,Nat.reduceAdd,Nat.reduceMul,Nat.reduceSub,Nat.reduceDiv,Nat.reduceMod,Nat.reducePow,Nat.reduceLT,Nat.reduceLeDiff,Nat.reduceEqDiff,Int.reduceAdd,Int.reduceSub,Int.reduceNeg,Int.reduceMul,Int.reduceToNat,Int.reducePow,Int.reduceLE,Int.reduceLT,Int.reduceEq,Int.reduceNe,reduceIte,reduceCtorEq,ne_eq,not_true_eq_false,not_false_eq_true,imp_self,implies_true,bls,eq_self]
  refine E_call (hP ▸ s_name9) ⟨p, rfl, ?_⟩
  simp (disch:=first|assumption|omega|(simp only [lens];omega)) only [eqs,↓gvd_succ,↓gvd_zero,↓and_of,im_of,im_of trivial,vlt,hP,hst,initS,Nat.reduceBEq,Nat.reduceAdd,Nat.reduceMul,Nat.reduceSub,Nat.reduceDiv,Nat.reduceMod,Nat.reducePow,Nat.reduceLT,Nat.reduceLeDiff,Nat.reduceEqDiff,Int.reduceAdd,Int.reduceSub,Int.reduceNeg,Int.reduceMul,Int.reduceToNat,Int.reducePow,Int.reduceLE,Int.reduceLT,Int.reduceEq,Int.reduceNe,reduceIte,reduceCtorEq,ne_eq,not_true_eq_false,not_false_eq_true,imp_self,implies_true,bls,eq_self,str_eq2]
  refine E_callA (hP ▸ s_lives9 _ hG) ⟨rfl, fun TT eT => ?_⟩
  simp (disch:=first|assumption|omega|(simp only [lens];omega)) only [eqs,↓gvd_succ,↓gvd_zero,↓and_of,im_of,im_of trivial,vlt,hP,hst,initS,Nat.reduceBEq,Nat.reduceAdd,Nat.reduceMul,Nat.reduceSub,Nat.reduceDiv,Nat.reduceMod,Nat.reducePow,Nat.reduceLT,Nat.reduceLeDiff,Nat.reduceEqDiff,Int.reduceAdd,Int.reduceSub,Int.reduceNeg,Int.reduceMul,Int.reduceToNat,Int.reducePow,Int.reduceLE,Int.reduceLT,Int.reduceEq,Int.reduceNe,reduceIte,reduceCtorEq,ne_eq,not_true_eq_false,not_false_eq_true,imp_self,implies_true,bls,eq_self]
  exact hK _ (((((e1.trans hT2).trans e3)).trans e4).trans eT)
end Go.Proofs.Pv
