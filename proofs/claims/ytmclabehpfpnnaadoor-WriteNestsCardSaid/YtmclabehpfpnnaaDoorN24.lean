/- pavaneref04: text, Write, Display; pavaneref03.Norm. -/
import Derived.Test.YtmclabehpfpnnaaDoorN21
import Derived.Test.YtmclabehpfpnnaaDoorN23
import Derived.Test.YtmclabehpfpnnaaDoorQ6
set_option linter.unusedSimpArgs false
set_option linter.unusedVariables false
namespace Go.Proofs.Pv
open Go Go.RowKit Go.Proofs
set_option maxRecDepth 20000

def RNormQ (xs : List AV) (st : St) (K : AV → St → Prop) : Prop := ∃ x d, xs = [x] ∧ DA st x d ∧ d.fit ∧ (d.sz ≤ 100000 ∧ d.dp ≤ 10000) ∧ ∀ x' T, New st T x' (nrm d) → K x' T
theorem s_qNormD : PSpec Tryd.prog 23 RNormQ := by
  refine fspec_of (fn := Tryd.f23) 1 [.cell 2 27] (by kernel_rfl) rfl rfl (by kernel_rfl) mixed (by rintro _ _ _ ⟨x, d, rfl, _⟩; rfl) ?_
  rintro X _ st K hP hst ⟨x, d, rfl, hx, hfit, hf, hK⟩
  obtain ⟨c, rfl, hc⟩ := hx
  have hca := hc.all
  have hc7 := hc.len
  have t7 := List.take_of_length_le (Nat.le_of_eq hc7)
  have hX1 : X.st1.length ≤ st.length + 1 := by rw [hst]; omega
  refine vc_V ?_
  simp (disch:=first|assumption|omega|(simp only [lens];omega)) only [eqs,↓gvd_succ,↓gvd_zero,↓and_of,im_of,im_of trivial,vlt,hP,hst,initS,Nat.reduceBEq,Nat.reduceAdd,Nat.reduceMul,Nat.reduceSub,Nat.reduceDiv,Nat.reduceMod,Nat.reducePow,Nat.reduceLT,Nat.reduceLeDiff,Nat.reduceEqDiff,Int.reduceAdd,Int.reduceSub,Int.reduceNeg,Int.reduceMul,Int.reduceToNat,Int.reducePow,Int.reduceLE,Int.reduceLT,Int.reduceEq,Int.reduceNe,reduceIte,reduceCtorEq,ne_eq,not_true_eq_false,not_false_eq_true,imp_self,implies_true,bls,eq_self,hca,hc7,t7,hX1]
  refine E_call (hP ▸ s_qFew) ⟨_, d, rfl, ⟨c, rfl, hc.ext (.add _)⟩, fun T hT => ?_⟩
  rw [decide_eq_true hf]
  have g0 := (At.ext (c := c) At.mk0 hT).get
  have g1 := (At.ext At.mk1 hT).get
  simp (disch:=first|assumption|omega|(simp only [lens];omega)) only [eqs,↓gvd_succ,↓gvd_zero,↓and_of,im_of,im_of trivial,vlt,hP,hst,initS,Nat.reduceBEq,Nat.reduceAdd,Nat.reduceMul,Nat.reduceSub,Nat.reduceDiv,Nat.reduceMod,Nat.reducePow,Nat.reduceLT,Nat.reduceLeDiff,Nat.reduceEqDiff,Int.reduceAdd,Int.reduceSub,Int.reduceNeg,Int.reduceMul,Int.reduceToNat,Int.reducePow,Int.reduceLE,Int.reduceLT,Int.reduceEq,Int.reduceNe,reduceIte,reduceCtorEq,ne_eq,not_true_eq_false,not_false_eq_true,imp_self,implies_true,bls,eq_self,g0,g1,hc7,t7]
  refine E_call (hP ▸ s_qnormD (d.sz + 1)) ⟨_, d, rfl, ⟨c, rfl, hc.ext ((Ext.add _).trans hT)⟩, by omega, hf.1, hfit, fun x' T2 hN => ?_⟩
  have e2 := hT.trans hN.ex
  have g1 := (At.ext At.mk1 e2).get
  obtain ⟨c', rfl, hdc'⟩ := hN.da
  have lc7 := hdc'.len
  have lca := hdc'.all
  have tc7 := List.take_of_length_le (Nat.le_of_eq lc7)
  have l1 := (List.getElem?_eq_some_iff.1 g1).1
  simp (disch:=first|assumption|omega|(simp only [lens];omega)) only [eqs,↓gvd_succ,↓gvd_zero,↓and_of,im_of,im_of trivial,vlt,hP,hst,initS,Nat.reduceBEq,Nat.reduceAdd,Nat.reduceMul,Nat.reduceSub,Nat.reduceDiv,Nat.reduceMod,Nat.reducePow,Nat.reduceLT,Nat.reduceLeDiff,Nat.reduceEqDiff,Int.reduceAdd,Int.reduceSub,Int.reduceNeg,Int.reduceMul,Int.reduceToNat,Int.reducePow,Int.reduceLE,Int.reduceLT,Int.reduceEq,Int.reduceNe,reduceIte,reduceCtorEq,ne_eq,not_true_eq_false,not_false_eq_true,imp_self,implies_true,bls,eq_self,g1,hX1,lc7,lca,tc7,take7 lc7,zD_map,zD7,List.append_nil,List.getElem?_set_self,l1]
  refine hK _ _ (New.of_fine (n1 := st.length + 2) ?_ (by omega) (by simp; omega) ?_)
  · rw [List.take_set_of_le (by omega)]
    obtain ⟨z, rfl⟩ := e2
    simp
  · have hT2 := hT.len
    exact (hN.fine (⟨by simpa using hT2, .inl ⟨rfl, rfl⟩⟩ : Acc (st.length + 2) T nilV [])).setN (by omega)
theorem e32 : (⟨#[32]⟩ : ByteArray) = bstr [32] := rfl
theorem e3 : (⟨#[32, 46, 32]⟩ : ByteArray) = bstr [32, 46, 32] := rfl
theorem e40 : (⟨#[40]⟩ : ByteArray) = bstr [40] := rfl
theorem e41 : (⟨#[41]⟩ : ByteArray) = bstr [41] := rfl
def RTextQ (N : Nat) (xs : List AV) (st : St) (K : AV → St → Prop) : Prop := ∃ (x : AV) (raw : Bool) (d : Dt), xs = [x, .val (.bool raw)] ∧ DA st x d ∧ d.sz < N ∧ d.sz ≤ 100000 ∧ wOk d ∧ anyw st (.string (bstr (textL raw d))) K
set_option maxHeartbeats 4000000 in
theorem s_qtext (N : Nat) : PSpec Tryd.prog 33 (RTextQ N) := by
  induction N with
  | zero =>
    refine fspec_of (fn := Tryd.f33) 2 [.tmp 4] (by kernel_rfl) rfl rfl (by kernel_rfl) mixed (by rintro _ _ _ ⟨_, _, _, rfl, _⟩; rfl) ?_
    rintro X _ st K hP hst ⟨x, raw, d, rfl, hx, hN, _⟩
    omega
  | succ N ih =>
  refine fspec_of (fn := Tryd.f33) 2 [.tmp 4] (by kernel_rfl) rfl rfl (by kernel_rfl) mixed (by rintro _ _ _ ⟨_, _, _, rfl, _⟩; rfl) ?_
  rintro X _ st K hP hst ⟨x, raw, d, rfl, hx, hN, hM, hok, hK⟩
  have hlts := hx.lts
  have hlen := textL_len raw d hok hlts
  obtain ⟨k, g, a, l, bb, s, x, y, its, tls, rfl, rfl, ha, hxs, hy⟩ := hx.inv
  have hXl : X.st1.length ≤ st.length := by rw [hst]; omega
  have la := ha.leaf
  have lx := hxs.leaf
  have ly := hy.leaf
  rw [sz_mk] at hN hM hlen
  rw [wOk_mk] at hok
  rw [text_mk] at hK hlen
  rw [lts] at hlts
  have hss : s.size ≤ 1000000000 := by omega
  refine vc_V ?_
  simp (disch:=first|assumption|omega|(simp only [lens];omega)) only [eqs,↓gvd_succ,↓gvd_zero,↓and_of,im_of,im_of trivial,vlt,hP,hst,initS,Nat.reduceBEq,Nat.reduceAdd,Nat.reduceMul,Nat.reduceSub,Nat.reduceDiv,Nat.reduceMod,Nat.reducePow,Nat.reduceLT,Nat.reduceLeDiff,Nat.reduceEqDiff,Int.reduceAdd,Int.reduceSub,Int.reduceNeg,Int.reduceMul,Int.reduceToNat,Int.reducePow,Int.reduceLE,Int.reduceLT,Int.reduceEq,Int.reduceNe,reduceIte,reduceCtorEq,ne_eq,not_true_eq_false,not_false_eq_true,imp_self,implies_true,bls,eq_self,la,lx,ly]
  refine C_dec (fun h1 => ?_) (fun h1 => ?_)
  · subst h1
    rw [if_pos rfl] at hK
    simp (disch:=first|assumption|omega|(simp only [lens];omega)) only [eqs,↓gvd_succ,↓gvd_zero,↓and_of,im_of,im_of trivial,vlt,hP,hst,initS,Nat.reduceBEq,Nat.reduceAdd,Nat.reduceMul,Nat.reduceSub,Nat.reduceDiv,Nat.reduceMod,Nat.reducePow,Nat.reduceLT,Nat.reduceLeDiff,Nat.reduceEqDiff,Int.reduceAdd,Int.reduceSub,Int.reduceNeg,Int.reduceMul,Int.reduceToNat,Int.reducePow,Int.reduceLE,Int.reduceLT,Int.reduceEq,Int.reduceNe,reduceIte,reduceCtorEq,ne_eq,not_true_eq_false,not_false_eq_true,imp_self,implies_true,bls,eq_self]
    refine E_call (hP ▸ s_qText) ⟨_, g, l, rfl, ⟨a, rfl, ha.ext (.add _)⟩, hok.1, fun T eT => ?_⟩
    simp (disch:=first|assumption|omega|(simp only [lens];omega)) only [eqs,↓gvd_succ,↓gvd_zero,↓and_of,im_of,im_of trivial,vlt,hP,hst,initS,Nat.reduceBEq,Nat.reduceAdd,Nat.reduceMul,Nat.reduceSub,Nat.reduceDiv,Nat.reduceMod,Nat.reducePow,Nat.reduceLT,Nat.reduceLeDiff,Nat.reduceEqDiff,Int.reduceAdd,Int.reduceSub,Int.reduceNeg,Int.reduceMul,Int.reduceToNat,Int.reducePow,Int.reduceLE,Int.reduceLT,Int.reduceEq,Int.reduceNe,reduceIte,reduceCtorEq,ne_eq,not_true_eq_false,not_false_eq_true,imp_self,implies_true,bls,eq_self]
    exact hK _ ((Ext.add _).trans eT)
  rw [if_neg h1] at hK hlen
  simp (disch:=first|assumption|omega|(simp only [lens];omega)) only [eqs,↓gvd_succ,↓gvd_zero,↓and_of,im_of,im_of trivial,vlt,hP,hst,initS,Nat.reduceBEq,Nat.reduceAdd,Nat.reduceMul,Nat.reduceSub,Nat.reduceDiv,Nat.reduceMod,Nat.reducePow,Nat.reduceLT,Nat.reduceLeDiff,Nat.reduceEqDiff,Int.reduceAdd,Int.reduceSub,Int.reduceNeg,Int.reduceMul,Int.reduceToNat,Int.reducePow,Int.reduceLE,Int.reduceLT,Int.reduceEq,Int.reduceNe,reduceIte,reduceCtorEq,ne_eq,not_true_eq_false,not_false_eq_true,imp_self,implies_true,bls,eq_self]
  refine C_dec (fun h2 => ?_) (fun h2 => ?_)
  · subst h2
    rw [if_pos rfl] at hK
    simp (disch:=first|assumption|omega|(simp only [lens];omega)) only [eqs,↓gvd_succ,↓gvd_zero,↓and_of,im_of,im_of trivial,vlt,hP,hst,initS,Nat.reduceBEq,Nat.reduceAdd,Nat.reduceMul,Nat.reduceSub,Nat.reduceDiv,Nat.reduceMod,Nat.reducePow,Nat.reduceLT,Nat.reduceLeDiff,Nat.reduceEqDiff,Int.reduceAdd,Int.reduceSub,Int.reduceNeg,Int.reduceMul,Int.reduceToNat,Int.reducePow,Int.reduceLE,Int.reduceLT,Int.reduceEq,Int.reduceNe,reduceIte,reduceCtorEq,ne_eq,not_true_eq_false,not_false_eq_true,imp_self,implies_true,bls,eq_self]
    refine C_bool (fun h3 => ?_) (fun h3 => ?_)
    · rw [if_pos h3] at hK
      simp (disch:=first|assumption|omega|(simp only [lens];omega)) only [eqs,↓gvd_succ,↓gvd_zero,↓and_of,im_of,im_of trivial,vlt,hP,hst,initS,Nat.reduceBEq,Nat.reduceAdd,Nat.reduceMul,Nat.reduceSub,Nat.reduceDiv,Nat.reduceMod,Nat.reducePow,Nat.reduceLT,Nat.reduceLeDiff,Nat.reduceEqDiff,Int.reduceAdd,Int.reduceSub,Int.reduceNeg,Int.reduceMul,Int.reduceToNat,Int.reducePow,Int.reduceLE,Int.reduceLT,Int.reduceEq,Int.reduceNe,reduceIte,reduceCtorEq,ne_eq,not_true_eq_false,not_false_eq_true,imp_self,implies_true,bls,eq_self]
      exact hK _ (.add _)
    · rw [if_neg (by rw [h3]; decide)] at hK
      simp (disch:=first|assumption|omega|(simp only [lens];omega)) only [eqs,↓gvd_succ,↓gvd_zero,↓and_of,im_of,im_of trivial,vlt,hP,hst,initS,Nat.reduceBEq,Nat.reduceAdd,Nat.reduceMul,Nat.reduceSub,Nat.reduceDiv,Nat.reduceMod,Nat.reducePow,Nat.reduceLT,Nat.reduceLeDiff,Nat.reduceEqDiff,Int.reduceAdd,Int.reduceSub,Int.reduceNeg,Int.reduceMul,Int.reduceToNat,Int.reducePow,Int.reduceLE,Int.reduceLT,Int.reduceEq,Int.reduceNe,reduceIte,reduceCtorEq,ne_eq,not_true_eq_false,not_false_eq_true,imp_self,implies_true,bls,eq_self]
      exact hK _ (.add _)
  rw [if_neg h2] at hK hlen
  simp (disch:=first|assumption|omega|(simp only [lens];omega)) only [eqs,↓gvd_succ,↓gvd_zero,↓and_of,im_of,im_of trivial,vlt,hP,hst,initS,Nat.reduceBEq,Nat.reduceAdd,Nat.reduceMul,Nat.reduceSub,Nat.reduceDiv,Nat.reduceMod,Nat.reducePow,Nat.reduceLT,Nat.reduceLeDiff,Nat.reduceEqDiff,Int.reduceAdd,Int.reduceSub,Int.reduceNeg,Int.reduceMul,Int.reduceToNat,Int.reducePow,Int.reduceLE,Int.reduceLT,Int.reduceEq,Int.reduceNe,reduceIte,reduceCtorEq,ne_eq,not_true_eq_false,not_false_eq_true,imp_self,implies_true,bls,eq_self]
  refine C_dec (fun h3 => ?_) (fun h3 => ?_)
  · subst h3
    simp (disch:=first|assumption|omega|(simp only [lens];omega)) only [eqs,↓gvd_succ,↓gvd_zero,↓and_of,im_of,im_of trivial,vlt,hP,hst,initS,Nat.reduceBEq,Nat.reduceAdd,Nat.reduceMul,Nat.reduceSub,Nat.reduceDiv,Nat.reduceMod,Nat.reducePow,Nat.reduceLT,Nat.reduceLeDiff,Nat.reduceEqDiff,Int.reduceAdd,Int.reduceSub,Int.reduceNeg,Int.reduceMul,Int.reduceToNat,Int.reducePow,Int.reduceLE,Int.reduceLT,Int.reduceEq,Int.reduceNe,reduceIte,reduceCtorEq,ne_eq,not_true_eq_false,not_false_eq_true,imp_self,implies_true,bls,eq_self]
    refine C_bool (fun h4 => ?_) (fun h4 => ?_)
    · rw [if_pos ⟨h4, .inl rfl⟩, bstr_sb] at hK
      simp (disch:=first|assumption|omega|(simp only [lens];omega)) only [eqs,↓gvd_succ,↓gvd_zero,↓and_of,im_of,im_of trivial,vlt,hP,hst,initS,Nat.reduceBEq,Nat.reduceAdd,Nat.reduceMul,Nat.reduceSub,Nat.reduceDiv,Nat.reduceMod,Nat.reducePow,Nat.reduceLT,Nat.reduceLeDiff,Nat.reduceEqDiff,Int.reduceAdd,Int.reduceSub,Int.reduceNeg,Int.reduceMul,Int.reduceToNat,Int.reducePow,Int.reduceLE,Int.reduceLT,Int.reduceEq,Int.reduceNe,reduceIte,reduceCtorEq,ne_eq,not_true_eq_false,not_false_eq_true,imp_self,implies_true,bls,eq_self]
      exact hK _ (.add _)
    · rw [if_neg (by rw [h4]; simp), if_pos rfl] at hK
      simp (disch:=first|assumption|omega|(simp only [lens];omega)) only [eqs,↓gvd_succ,↓gvd_zero,↓and_of,im_of,im_of trivial,vlt,hP,hst,initS,Nat.reduceBEq,Nat.reduceAdd,Nat.reduceMul,Nat.reduceSub,Nat.reduceDiv,Nat.reduceMod,Nat.reducePow,Nat.reduceLT,Nat.reduceLeDiff,Nat.reduceEqDiff,Int.reduceAdd,Int.reduceSub,Int.reduceNeg,Int.reduceMul,Int.reduceToNat,Int.reducePow,Int.reduceLE,Int.reduceLT,Int.reduceEq,Int.reduceNe,reduceIte,reduceCtorEq,ne_eq,not_true_eq_false,not_false_eq_true,imp_self,implies_true,bls,eq_self]
      refine E_call (hP ▸ s_qName) ⟨s, rfl, hss, fun T eT => ?_⟩
      simp (disch:=first|assumption|omega|(simp only [lens];omega)) only [eqs,↓gvd_succ,↓gvd_zero,↓and_of,im_of,im_of trivial,vlt,hP,hst,initS,Nat.reduceBEq,Nat.reduceAdd,Nat.reduceMul,Nat.reduceSub,Nat.reduceDiv,Nat.reduceMod,Nat.reducePow,Nat.reduceLT,Nat.reduceLeDiff,Nat.reduceEqDiff,Int.reduceAdd,Int.reduceSub,Int.reduceNeg,Int.reduceMul,Int.reduceToNat,Int.reducePow,Int.reduceLE,Int.reduceLT,Int.reduceEq,Int.reduceNe,reduceIte,reduceCtorEq,ne_eq,not_true_eq_false,not_false_eq_true,imp_self,implies_true,bls,eq_self]
      exact hK _ ((Ext.add _).trans eT)
  simp (disch:=first|assumption|omega|(simp only [lens];omega)) only [eqs,↓gvd_succ,↓gvd_zero,↓and_of,im_of,im_of trivial,vlt,hP,hst,initS,Nat.reduceBEq,Nat.reduceAdd,Nat.reduceMul,Nat.reduceSub,Nat.reduceDiv,Nat.reduceMod,Nat.reducePow,Nat.reduceLT,Nat.reduceLeDiff,Nat.reduceEqDiff,Int.reduceAdd,Int.reduceSub,Int.reduceNeg,Int.reduceMul,Int.reduceToNat,Int.reducePow,Int.reduceLE,Int.reduceLT,Int.reduceEq,Int.reduceNe,reduceIte,reduceCtorEq,ne_eq,not_true_eq_false,not_false_eq_true,imp_self,implies_true,bls,eq_self]
  refine C_dec (fun h4 => ?_) (fun h4 => ?_)
  · subst h4
    simp (disch:=first|assumption|omega|(simp only [lens];omega)) only [eqs,↓gvd_succ,↓gvd_zero,↓and_of,im_of,im_of trivial,vlt,hP,hst,initS,Nat.reduceBEq,Nat.reduceAdd,Nat.reduceMul,Nat.reduceSub,Nat.reduceDiv,Nat.reduceMod,Nat.reducePow,Nat.reduceLT,Nat.reduceLeDiff,Nat.reduceEqDiff,Int.reduceAdd,Int.reduceSub,Int.reduceNeg,Int.reduceMul,Int.reduceToNat,Int.reducePow,Int.reduceLE,Int.reduceLT,Int.reduceEq,Int.reduceNe,reduceIte,reduceCtorEq,ne_eq,not_true_eq_false,not_false_eq_true,imp_self,implies_true,bls,eq_self]
    refine C_bool (fun h4 => ?_) (fun h4 => ?_)
    · rw [if_pos ⟨h4, .inr rfl⟩, bstr_sb] at hK
      simp (disch:=first|assumption|omega|(simp only [lens];omega)) only [eqs,↓gvd_succ,↓gvd_zero,↓and_of,im_of,im_of trivial,vlt,hP,hst,initS,Nat.reduceBEq,Nat.reduceAdd,Nat.reduceMul,Nat.reduceSub,Nat.reduceDiv,Nat.reduceMod,Nat.reducePow,Nat.reduceLT,Nat.reduceLeDiff,Nat.reduceEqDiff,Int.reduceAdd,Int.reduceSub,Int.reduceNeg,Int.reduceMul,Int.reduceToNat,Int.reducePow,Int.reduceLE,Int.reduceLT,Int.reduceEq,Int.reduceNe,reduceIte,reduceCtorEq,ne_eq,not_true_eq_false,not_false_eq_true,imp_self,implies_true,bls,eq_self]
      exact hK _ (.add _)
    · rw [if_neg (by rw [h4]; simp), if_neg (by omega), if_pos rfl] at hK
      simp (disch:=first|assumption|omega|(simp only [lens];omega)) only [eqs,↓gvd_succ,↓gvd_zero,↓and_of,im_of,im_of trivial,vlt,hP,hst,initS,Nat.reduceBEq,Nat.reduceAdd,Nat.reduceMul,Nat.reduceSub,Nat.reduceDiv,Nat.reduceMod,Nat.reducePow,Nat.reduceLT,Nat.reduceLeDiff,Nat.reduceEqDiff,Int.reduceAdd,Int.reduceSub,Int.reduceNeg,Int.reduceMul,Int.reduceToNat,Int.reducePow,Int.reduceLE,Int.reduceLT,Int.reduceEq,Int.reduceNe,reduceIte,reduceCtorEq,ne_eq,not_true_eq_false,not_false_eq_true,imp_self,implies_true,bls,eq_self]
      refine E_call (hP ▸ s_qQuote) ⟨s, rfl, hss, fun T eT => ?_⟩
      simp (disch:=first|assumption|omega|(simp only [lens];omega)) only [eqs,↓gvd_succ,↓gvd_zero,↓and_of,im_of,im_of trivial,vlt,hP,hst,initS,Nat.reduceBEq,Nat.reduceAdd,Nat.reduceMul,Nat.reduceSub,Nat.reduceDiv,Nat.reduceMod,Nat.reducePow,Nat.reduceLT,Nat.reduceLeDiff,Nat.reduceEqDiff,Int.reduceAdd,Int.reduceSub,Int.reduceNeg,Int.reduceMul,Int.reduceToNat,Int.reducePow,Int.reduceLE,Int.reduceLT,Int.reduceEq,Int.reduceNe,reduceIte,reduceCtorEq,ne_eq,not_true_eq_false,not_false_eq_true,imp_self,implies_true,bls,eq_self]
      exact hK _ ((Ext.add _).trans eT)
  rw [if_neg (by omega), if_neg h3, if_neg h4] at hK hlen
  simp (disch:=first|assumption|omega|(simp only [lens];omega)) only [eqs,↓gvd_succ,↓gvd_zero,↓and_of,im_of,im_of trivial,vlt,hP,hst,initS,Nat.reduceBEq,Nat.reduceAdd,Nat.reduceMul,Nat.reduceSub,Nat.reduceDiv,Nat.reduceMod,Nat.reducePow,Nat.reduceLT,Nat.reduceLeDiff,Nat.reduceEqDiff,Int.reduceAdd,Int.reduceSub,Int.reduceNeg,Int.reduceMul,Int.reduceToNat,Int.reducePow,Int.reduceLE,Int.reduceLT,Int.reduceEq,Int.reduceNe,reduceIte,reduceCtorEq,ne_eq,not_true_eq_false,not_false_eq_true,imp_self,implies_true,bls,eq_self]
  refine C_dec (fun h5 => ?_) (fun h5 => ?_)
  rotate_left
  · rw [if_neg h5] at hK
    simp (disch:=first|assumption|omega|(simp only [lens];omega)) only [eqs,↓gvd_succ,↓gvd_zero,↓and_of,im_of,im_of trivial,vlt,hP,hst,initS,Nat.reduceBEq,Nat.reduceAdd,Nat.reduceMul,Nat.reduceSub,Nat.reduceDiv,Nat.reduceMod,Nat.reducePow,Nat.reduceLT,Nat.reduceLeDiff,Nat.reduceEqDiff,Int.reduceAdd,Int.reduceSub,Int.reduceNeg,Int.reduceMul,Int.reduceToNat,Int.reducePow,Int.reduceLE,Int.reduceLT,Int.reduceEq,Int.reduceNe,reduceIte,reduceCtorEq,ne_eq,not_true_eq_false,not_false_eq_true,imp_self,implies_true,bls,eq_self]
    exact hK _ (.add _)
  subst h5
  rw [if_pos rfl] at hK hlen
  simp only [List.length_cons, List.length_append, List.length_nil] at hlen
  obtain ⟨cs, hsl, hdl, hcl⟩ := hxs.inv
  have hslg := fun y => sl_grow hsl y
  simp (disch:=first|assumption|omega|(simp only [lens];omega)) only [eqs,↓gvd_succ,↓gvd_zero,↓and_of,im_of,im_of trivial,vlt,hP,hst,initS,Nat.reduceBEq,Nat.reduceAdd,Nat.reduceMul,Nat.reduceSub,Nat.reduceDiv,Nat.reduceMod,Nat.reducePow,Nat.reduceLT,Nat.reduceLeDiff,Nat.reduceEqDiff,Int.reduceAdd,Int.reduceSub,Int.reduceNeg,Int.reduceMul,Int.reduceToNat,Int.reducePow,Int.reduceLE,Int.reduceLT,Int.reduceEq,Int.reduceNe,reduceIte,reduceCtorEq,ne_eq,not_true_eq_false,not_false_eq_true,imp_self,implies_true,bls,eq_self,hslg]
  refine fun _ => ?_
  refine V_loop (ι := Nat × St) (fun e => [(42, .val (.int .i64 (e.1 : Int))), (41, .val (.int .i64 (its.length : Int))), (40, x), (5, .val (.string (bstr (itsL raw (its.take e.1))))), (1, .val (.bool raw)), (2, .ptr st.length 0)]) (fun e => e.2)
    (fun e => e.1 ≤ its.length ∧ Ext (st ++ [some [.val (.int .i64 5), .val (.bool g), a, .val (.bool bb), .val (.string s), x, y]]) e.2) (fun e => its.length - e.1) (0, _) ⟨by simp, .refl⟩ rfl (by simp (disch:=first|assumption|omega|(simp only [lens];omega)) only [eqs,↓gvd_succ,↓gvd_zero,↓and_of,im_of,im_of trivial,vlt,hP,hst,initS,Nat.reduceBEq,Nat.reduceAdd,Nat.reduceMul,Nat.reduceSub,Nat.reduceDiv,Nat.reduceMod,Nat.reducePow,Nat.reduceLT,Nat.reduceLeDiff,Nat.reduceEqDiff,Int.reduceAdd,Int.reduceSub,Int.reduceNeg,Int.reduceMul,Int.reduceToNat,Int.reducePow,Int.reduceLE,Int.reduceLT,Int.reduceEq,Int.reduceNe,reduceIte,reduceCtorEq,ne_eq,not_true_eq_false,not_false_eq_true,imp_self,implies_true,bls,eq_self,List.take_zero,itsL,bstr_nil] <;> rfl) ?_
  rintro ⟨i, T⟩ ⟨hi, hT⟩
  dsimp only at hi hT ⊢
  have eT : Ext st T := (Ext.add _).trans hT
  have hil := its_take (raw := raw) (l := its) (i := i)
  have hXT := Nat.le_trans hXl eT.len
  simp (disch:=first|assumption|omega|(simp only [lens];omega)) only [eqs,↓gvd_succ,↓gvd_zero,↓and_of,im_of,im_of trivial,vlt,hP,hst,initS,Nat.reduceBEq,Nat.reduceAdd,Nat.reduceMul,Nat.reduceSub,Nat.reduceDiv,Nat.reduceMod,Nat.reducePow,Nat.reduceLT,Nat.reduceLeDiff,Nat.reduceEqDiff,Int.reduceAdd,Int.reduceSub,Int.reduceNeg,Int.reduceMul,Int.reduceToNat,Int.reducePow,Int.reduceLE,Int.reduceLT,Int.reduceEq,Int.reduceNe,reduceIte,reduceCtorEq,ne_eq,not_true_eq_false,not_false_eq_true,imp_self,implies_true,bls,eq_self]
  refine C_dec (fun h6 => ?_) (fun h6 => ?_)
  · obtain ⟨cs0, c, e, hsl', hcl', hc, hc7, hca, he, hec, hb1, hb2⟩ := (hxs.ext eT).at (i := i) (by omega)
    have t7 := List.take_of_length_le (Nat.le_of_eq hc7)
    have hes := szs_mem (List.mem_of_getElem? he)
    have hok2 := wOks_mem hok.2.2.1 (List.mem_of_getElem? he)
    have hil1 := its_take (raw := raw) (l := its) (i := i + 1)
    have hsn := its_snoc (raw := raw) (l := its.take i) (e := e)
    rw [← take_succ' he] at hsn
    have hte : (its.take i).length = i := by rw [List.length_take]; omega
    rw [hte] at hsn
    have hll := congrArg List.length hsn
    rw [List.length_append, List.length_append] at hll
    simp (disch:=first|assumption|omega|(simp only [lens];omega)) only [eqs,↓gvd_succ,↓gvd_zero,↓and_of,im_of,im_of trivial,vlt,hP,hst,initS,Nat.reduceBEq,Nat.reduceAdd,Nat.reduceMul,Nat.reduceSub,Nat.reduceDiv,Nat.reduceMod,Nat.reducePow,Nat.reduceLT,Nat.reduceLeDiff,Nat.reduceEqDiff,Int.reduceAdd,Int.reduceSub,Int.reduceNeg,Int.reduceMul,Int.reduceToNat,Int.reducePow,Int.reduceLE,Int.reduceLT,Int.reduceEq,Int.reduceNe,reduceIte,reduceCtorEq,ne_eq,not_true_eq_false,not_false_eq_true,imp_self,implies_true,bls,eq_self,hsl',hcl',hc,hc7,hca,take7 hc7,t7,zD_drop,zD_len,List.append_nil,hXT,hb1,hb2]
    have hsz : (itsL raw (its.take i)).length + 1 + (textL raw e).length ≤ 9223372036854775807 := by omega
    have hsz1 : (itsL raw (its.take i)).length + 1 ≤ 9223372036854775807 := by omega
    have hsz0 : (itsL raw (its.take i)).length + (textL raw e).length ≤ 9223372036854775807 := by omega
    refine C_dec (fun h7 => ?_) (fun h7 => ?_)
    · rw [if_neg (by omega)] at hsn
      simp (disch:=first|assumption|omega|(simp only [lens];omega)) only [eqs,↓gvd_succ,↓gvd_zero,↓and_of,im_of,im_of trivial,vlt,hP,hst,initS,Nat.reduceBEq,Nat.reduceAdd,Nat.reduceMul,Nat.reduceSub,Nat.reduceDiv,Nat.reduceMod,Nat.reducePow,Nat.reduceLT,Nat.reduceLeDiff,Nat.reduceEqDiff,Int.reduceAdd,Int.reduceSub,Int.reduceNeg,Int.reduceMul,Int.reduceToNat,Int.reducePow,Int.reduceLE,Int.reduceLT,Int.reduceEq,Int.reduceNe,reduceIte,reduceCtorEq,ne_eq,not_true_eq_false,not_false_eq_true,imp_self,implies_true,bls,eq_self,e32,bstr_append,bstr_size,List.length_append,List.length_cons,List.length_nil,hsz1,hc7,t7,take7 hc7]
      refine E_call (hP ▸ ih) ⟨_, raw, e, rfl, ⟨c, rfl, hec.ext (.add _)⟩, by omega, by omega, hok2, fun T2 e2 => ?_⟩
      simp (disch:=first|assumption|omega|(simp only [lens];omega)) only [eqs,↓gvd_succ,↓gvd_zero,↓and_of,im_of,im_of trivial,vlt,hP,hst,initS,Nat.reduceBEq,Nat.reduceAdd,Nat.reduceMul,Nat.reduceSub,Nat.reduceDiv,Nat.reduceMod,Nat.reducePow,Nat.reduceLT,Nat.reduceLeDiff,Nat.reduceEqDiff,Int.reduceAdd,Int.reduceSub,Int.reduceNeg,Int.reduceMul,Int.reduceToNat,Int.reducePow,Int.reduceLE,Int.reduceLT,Int.reduceEq,Int.reduceNe,reduceIte,reduceCtorEq,ne_eq,not_true_eq_false,not_false_eq_true,imp_self,implies_true,bls,eq_self,bstr_append,bstr_size,List.length_append,List.length_cons,List.length_nil,hsz]
      refine again (i + 1, T2) ⟨by dsimp only; omega, hT.trans ((Ext.add _).trans e2)⟩ (by dsimp only; omega) rfl (by dsimp only; simp (disch:=first|assumption|omega|(simp only [lens];omega)) only [eqs,↓gvd_succ,↓gvd_zero,↓and_of,im_of,im_of trivial,vlt,hP,hst,initS,Nat.reduceBEq,Nat.reduceAdd,Nat.reduceMul,Nat.reduceSub,Nat.reduceDiv,Nat.reduceMod,Nat.reducePow,Nat.reduceLT,Nat.reduceLeDiff,Nat.reduceEqDiff,Int.reduceAdd,Int.reduceSub,Int.reduceNeg,Int.reduceMul,Int.reduceToNat,Int.reducePow,Int.reduceLE,Int.reduceLT,Int.reduceEq,Int.reduceNe,reduceIte,reduceCtorEq,ne_eq,not_true_eq_false,not_false_eq_true,imp_self,implies_true,bls,eq_self,hsn,List.append_assoc] <;> rfl)
    · rw [if_pos (by omega), List.nil_append] at hsn
      simp (disch:=first|assumption|omega|(simp only [lens];omega)) only [eqs,↓gvd_succ,↓gvd_zero,↓and_of,im_of,im_of trivial,vlt,hP,hst,initS,Nat.reduceBEq,Nat.reduceAdd,Nat.reduceMul,Nat.reduceSub,Nat.reduceDiv,Nat.reduceMod,Nat.reducePow,Nat.reduceLT,Nat.reduceLeDiff,Nat.reduceEqDiff,Int.reduceAdd,Int.reduceSub,Int.reduceNeg,Int.reduceMul,Int.reduceToNat,Int.reducePow,Int.reduceLE,Int.reduceLT,Int.reduceEq,Int.reduceNe,reduceIte,reduceCtorEq,ne_eq,not_true_eq_false,not_false_eq_true,imp_self,implies_true,bls,eq_self,hc7,t7,take7 hc7]
      refine E_call (hP ▸ ih) ⟨_, raw, e, rfl, ⟨c, rfl, hec.ext (.add _)⟩, by omega, by omega, hok2, fun T2 e2 => ?_⟩
      simp (disch:=first|assumption|omega|(simp only [lens];omega)) only [eqs,↓gvd_succ,↓gvd_zero,↓and_of,im_of,im_of trivial,vlt,hP,hst,initS,Nat.reduceBEq,Nat.reduceAdd,Nat.reduceMul,Nat.reduceSub,Nat.reduceDiv,Nat.reduceMod,Nat.reducePow,Nat.reduceLT,Nat.reduceLeDiff,Nat.reduceEqDiff,Int.reduceAdd,Int.reduceSub,Int.reduceNeg,Int.reduceMul,Int.reduceToNat,Int.reducePow,Int.reduceLE,Int.reduceLT,Int.reduceEq,Int.reduceNe,reduceIte,reduceCtorEq,ne_eq,not_true_eq_false,not_false_eq_true,imp_self,implies_true,bls,eq_self,bstr_append,bstr_size,List.length_append,List.length_cons,List.length_nil,hsz0]
      refine again (i + 1, T2) ⟨by dsimp only; omega, hT.trans ((Ext.add _).trans e2)⟩ (by dsimp only; omega) rfl (by dsimp only; simp (disch:=first|assumption|omega|(simp only [lens];omega)) only [eqs,↓gvd_succ,↓gvd_zero,↓and_of,im_of,im_of trivial,vlt,hP,hst,initS,Nat.reduceBEq,Nat.reduceAdd,Nat.reduceMul,Nat.reduceSub,Nat.reduceDiv,Nat.reduceMod,Nat.reducePow,Nat.reduceLT,Nat.reduceLeDiff,Nat.reduceEqDiff,Int.reduceAdd,Int.reduceSub,Int.reduceNeg,Int.reduceMul,Int.reduceToNat,Int.reducePow,Int.reduceLE,Int.reduceLT,Int.reduceEq,Int.reduceNe,reduceIte,reduceCtorEq,ne_eq,not_true_eq_false,not_false_eq_true,imp_self,implies_true,bls,eq_self,hsn] <;> rfl)
  · have hie : i = its.length := by omega
    subst hie
    rw [List.take_length]
    have g0 := (At.mk0.ext hT).get
    obtain ⟨cs, hsl, hdl, hcl⟩ := (hy.ext eT).inv
    simp (disch:=first|assumption|omega|(simp only [lens];omega)) only [eqs,↓gvd_succ,↓gvd_zero,↓and_of,im_of,im_of trivial,vlt,hP,hst,initS,Nat.reduceBEq,Nat.reduceAdd,Nat.reduceMul,Nat.reduceSub,Nat.reduceDiv,Nat.reduceMod,Nat.reducePow,Nat.reduceLT,Nat.reduceLeDiff,Nat.reduceEqDiff,Int.reduceAdd,Int.reduceSub,Int.reduceNeg,Int.reduceMul,Int.reduceToNat,Int.reducePow,Int.reduceLE,Int.reduceLT,Int.reduceEq,Int.reduceNe,reduceIte,reduceCtorEq,ne_eq,not_true_eq_false,not_false_eq_true,imp_self,implies_true,bls,eq_self,g0,hsl]
    refine fun _ => ?_
    refine V_loop (ι := Nat × St) (fun e => [(60, .val (.int .i64 (e.1 : Int))), (59, .val (.int .i64 (tls.length : Int))), (58, y), (5, .val (.string (bstr (itsL raw its ++ tlsL raw (tls.take e.1))))), (1, .val (.bool raw))]) (fun e => e.2)
      (fun e => e.1 ≤ tls.length ∧ Ext st e.2) (fun e => tls.length - e.1) (0, T) ⟨by simp, eT⟩ rfl (by simp (disch:=first|assumption|omega|(simp only [lens];omega)) only [eqs,↓gvd_succ,↓gvd_zero,↓and_of,im_of,im_of trivial,vlt,hP,hst,initS,Nat.reduceBEq,Nat.reduceAdd,Nat.reduceMul,Nat.reduceSub,Nat.reduceDiv,Nat.reduceMod,Nat.reducePow,Nat.reduceLT,Nat.reduceLeDiff,Nat.reduceEqDiff,Int.reduceAdd,Int.reduceSub,Int.reduceNeg,Int.reduceMul,Int.reduceToNat,Int.reducePow,Int.reduceLE,Int.reduceLT,Int.reduceEq,Int.reduceNe,reduceIte,reduceCtorEq,ne_eq,not_true_eq_false,not_false_eq_true,imp_self,implies_true,bls,eq_self,List.take_zero,tlsL,List.append_nil] <;> rfl) ?_
    rintro ⟨j, U⟩ ⟨hj, eU⟩
    dsimp only at hj eU ⊢
    have htl := tls_take (raw := raw) (l := tls) (i := j)
    have hXU := Nat.le_trans hXl eU.len
    simp (disch:=first|assumption|omega|(simp only [lens];omega)) only [eqs,↓gvd_succ,↓gvd_zero,↓and_of,im_of,im_of trivial,vlt,hP,hst,initS,Nat.reduceBEq,Nat.reduceAdd,Nat.reduceMul,Nat.reduceSub,Nat.reduceDiv,Nat.reduceMod,Nat.reducePow,Nat.reduceLT,Nat.reduceLeDiff,Nat.reduceEqDiff,Int.reduceAdd,Int.reduceSub,Int.reduceNeg,Int.reduceMul,Int.reduceToNat,Int.reducePow,Int.reduceLE,Int.reduceLT,Int.reduceEq,Int.reduceNe,reduceIte,reduceCtorEq,ne_eq,not_true_eq_false,not_false_eq_true,imp_self,implies_true,bls,eq_self]
    refine C_dec (fun h6 => ?_) (fun h6 => ?_)
    · obtain ⟨cs0, c, e, hsl', hcl', hc, hc7, hca, he, hec, hb1, hb2⟩ := (hy.ext eU).at (i := j) (by omega)
      have t7 := List.take_of_length_le (Nat.le_of_eq hc7)
      have hes := szs_mem (List.mem_of_getElem? he)
      have hok2 := wOks_mem hok.2.2.2 (List.mem_of_getElem? he)
      have htl1 := tls_take (raw := raw) (l := tls) (i := j + 1)
      have hsn := tls_snoc (raw := raw) (l := tls.take j) (e := e)
      rw [← take_succ' he] at hsn
      have hll := congrArg List.length hsn
      simp only [List.length_append, List.length_cons] at hll
      have hsz3 : 3 + (textL raw e).length ≤ 9223372036854775807 := by omega
      have hsz : (itsL raw its).length + (tlsL raw (tls.take j)).length + (3 + (textL raw e).length) ≤ 9223372036854775807 := by omega
      simp (disch:=first|assumption|omega|(simp only [lens];omega)) only [eqs,↓gvd_succ,↓gvd_zero,↓and_of,im_of,im_of trivial,vlt,hP,hst,initS,Nat.reduceBEq,Nat.reduceAdd,Nat.reduceMul,Nat.reduceSub,Nat.reduceDiv,Nat.reduceMod,Nat.reducePow,Nat.reduceLT,Nat.reduceLeDiff,Nat.reduceEqDiff,Int.reduceAdd,Int.reduceSub,Int.reduceNeg,Int.reduceMul,Int.reduceToNat,Int.reducePow,Int.reduceLE,Int.reduceLT,Int.reduceEq,Int.reduceNe,reduceIte,reduceCtorEq,ne_eq,not_true_eq_false,not_false_eq_true,imp_self,implies_true,bls,eq_self,hsl',hcl',hc,hc7,hca,take7 hc7,t7,zD_drop,zD_len,List.append_nil,hXU,hb1,hb2]
      refine E_call (hP ▸ ih) ⟨_, raw, e, rfl, ⟨c, rfl, hec.ext (.add _)⟩, by omega, by omega, hok2, fun T2 e2 => ?_⟩
      simp (disch:=first|assumption|omega|(simp only [lens];omega)) only [eqs,↓gvd_succ,↓gvd_zero,↓and_of,im_of,im_of trivial,vlt,hP,hst,initS,Nat.reduceBEq,Nat.reduceAdd,Nat.reduceMul,Nat.reduceSub,Nat.reduceDiv,Nat.reduceMod,Nat.reducePow,Nat.reduceLT,Nat.reduceLeDiff,Nat.reduceEqDiff,Int.reduceAdd,Int.reduceSub,Int.reduceNeg,Int.reduceMul,Int.reduceToNat,Int.reducePow,Int.reduceLE,Int.reduceLT,Int.reduceEq,Int.reduceNe,reduceIte,reduceCtorEq,ne_eq,not_true_eq_false,not_false_eq_true,imp_self,implies_true,bls,eq_self,e3,bstr_append,bstr_size,List.length_append,List.length_cons,List.length_nil,hsz3,hsz]
      refine again (j + 1, T2) ⟨by dsimp only; omega, eU.trans ((Ext.add _).trans e2)⟩ (by dsimp only; omega) rfl (by dsimp only; simp (disch:=first|assumption|omega|(simp only [lens];omega)) only [eqs,↓gvd_succ,↓gvd_zero,↓and_of,im_of,im_of trivial,vlt,hP,hst,initS,Nat.reduceBEq,Nat.reduceAdd,Nat.reduceMul,Nat.reduceSub,Nat.reduceDiv,Nat.reduceMod,Nat.reducePow,Nat.reduceLT,Nat.reduceLeDiff,Nat.reduceEqDiff,Int.reduceAdd,Int.reduceSub,Int.reduceNeg,Int.reduceMul,Int.reduceToNat,Int.reducePow,Int.reduceLE,Int.reduceLT,Int.reduceEq,Int.reduceNe,reduceIte,reduceCtorEq,ne_eq,not_true_eq_false,not_false_eq_true,imp_self,implies_true,bls,eq_self,hsn,List.append_assoc] <;> rfl)
    · have hje : j = tls.length := by omega
      subst hje
      rw [List.take_length]
      have hsz : 1 + ((itsL raw its).length + (tlsL raw tls).length) ≤ 9223372036854775807 := by omega
      have hsz2 : 1 + ((itsL raw its).length + (tlsL raw tls).length) + 1 ≤ 9223372036854775807 := by omega
      simp (disch:=first|assumption|omega|(simp only [lens];omega)) only [eqs,↓gvd_succ,↓gvd_zero,↓and_of,im_of,im_of trivial,vlt,hP,hst,initS,Nat.reduceBEq,Nat.reduceAdd,Nat.reduceMul,Nat.reduceSub,Nat.reduceDiv,Nat.reduceMod,Nat.reducePow,Nat.reduceLT,Nat.reduceLeDiff,Nat.reduceEqDiff,Int.reduceAdd,Int.reduceSub,Int.reduceNeg,Int.reduceMul,Int.reduceToNat,Int.reducePow,Int.reduceLE,Int.reduceLT,Int.reduceEq,Int.reduceNe,reduceIte,reduceCtorEq,ne_eq,not_true_eq_false,not_false_eq_true,imp_self,implies_true,bls,eq_self,e40,e41,bstr_append,bstr_size,List.length_append,List.length_cons,List.length_nil,hsz,hsz2]
      rw [List.append_assoc] at hK
      exact hK _ eU
def RWrQ (raw : Bool) (xs : List AV) (st : St) (K : AV → St → Prop) : Prop := ∃ x d, xs = [x] ∧ DA st x d ∧ d.fit ∧ wOk d ∧ (d.sz ≤ 100000 ∧ d.dp ≤ 10000) ∧ anyw st (.string (bstr (wrtL raw d))) K
theorem s_qWrite : PSpec Tryd.prog 13 (RWrQ false) := by
  refine fspec_of (fn := Tryd.f13) 1 [.tmp 2] (by kernel_rfl) rfl rfl (by kernel_rfl) mixed (by rintro _ _ _ ⟨_, _, rfl, _⟩; rfl) ?_
  rintro X _ st K hP hst ⟨x, d, rfl, hx, hfit, hok, hf, hK⟩
  have hda := hx
  have hlts := hx.lts
  obtain ⟨c, rfl, hdc⟩ := hx
  have hca := hdc.all
  have hc7 := hdc.len
  have t7 := List.take_of_length_le (Nat.le_of_eq hc7)
  have hn := nrm_sz d
  refine vc_V ?_
  simp (disch:=first|assumption|omega|(simp only [lens];omega)) only [eqs,↓gvd_succ,↓gvd_zero,↓and_of,im_of,im_of trivial,vlt,hP,hst,initS,Nat.reduceBEq,Nat.reduceAdd,Nat.reduceMul,Nat.reduceSub,Nat.reduceDiv,Nat.reduceMod,Nat.reducePow,Nat.reduceLT,Nat.reduceLeDiff,Nat.reduceEqDiff,Int.reduceAdd,Int.reduceSub,Int.reduceNeg,Int.reduceMul,Int.reduceToNat,Int.reducePow,Int.reduceLE,Int.reduceLT,Int.reduceEq,Int.reduceNe,reduceIte,reduceCtorEq,ne_eq,not_true_eq_false,not_false_eq_true,imp_self,implies_true,bls,eq_self,hca,hc7,t7]
  refine E_call (hP ▸ s_qFew) ⟨_, d, rfl, hda.ext (.add _), fun T eT => ?_⟩
  rw [decide_eq_true hf]
  have g0 := (At.ext (c := c) At.mk0 eT).get
  simp (disch:=first|assumption|omega|(simp only [lens];omega)) only [eqs,↓gvd_succ,↓gvd_zero,↓and_of,im_of,im_of trivial,vlt,hP,hst,initS,Nat.reduceBEq,Nat.reduceAdd,Nat.reduceMul,Nat.reduceSub,Nat.reduceDiv,Nat.reduceMod,Nat.reducePow,Nat.reduceLT,Nat.reduceLeDiff,Nat.reduceEqDiff,Int.reduceAdd,Int.reduceSub,Int.reduceNeg,Int.reduceMul,Int.reduceToNat,Int.reducePow,Int.reduceLE,Int.reduceLT,Int.reduceEq,Int.reduceNe,reduceIte,reduceCtorEq,ne_eq,not_true_eq_false,not_false_eq_true,imp_self,implies_true,bls,eq_self,g0,hc7,t7]
  refine E_call (hP ▸ s_qNormD) ⟨_, d, rfl, hda.ext ((Ext.add _).trans eT), hfit, hf, fun x' T2 hN => ?_⟩
  simp (disch:=first|assumption|omega|(simp only [lens];omega)) only [eqs,↓gvd_succ,↓gvd_zero,↓and_of,im_of,im_of trivial,vlt,hP,hst,initS,Nat.reduceBEq,Nat.reduceAdd,Nat.reduceMul,Nat.reduceSub,Nat.reduceDiv,Nat.reduceMod,Nat.reducePow,Nat.reduceLT,Nat.reduceLeDiff,Nat.reduceEqDiff,Int.reduceAdd,Int.reduceSub,Int.reduceNeg,Int.reduceMul,Int.reduceToNat,Int.reducePow,Int.reduceLE,Int.reduceLT,Int.reduceEq,Int.reduceNe,reduceIte,reduceCtorEq,ne_eq,not_true_eq_false,not_false_eq_true,imp_self,implies_true,bls,eq_self]
  refine E_call (hP ▸ s_qtext ((nrm d).sz + 1)) ⟨x', false, nrm d, rfl, hN.da, by omega, by omega, nrm_wOk d hok hlts, fun T3 e3 => ?_⟩
  simp (disch:=first|assumption|omega|(simp only [lens];omega)) only [eqs,↓gvd_succ,↓gvd_zero,↓and_of,im_of,im_of trivial,vlt,hP,hst,initS,Nat.reduceBEq,Nat.reduceAdd,Nat.reduceMul,Nat.reduceSub,Nat.reduceDiv,Nat.reduceMod,Nat.reducePow,Nat.reduceLT,Nat.reduceLeDiff,Nat.reduceEqDiff,Int.reduceAdd,Int.reduceSub,Int.reduceNeg,Int.reduceMul,Int.reduceToNat,Int.reducePow,Int.reduceLE,Int.reduceLT,Int.reduceEq,Int.reduceNe,reduceIte,reduceCtorEq,ne_eq,not_true_eq_false,not_false_eq_true,imp_self,implies_true,bls,eq_self]
  have hw : wrtL false d = textL false (nrm d) := if_pos hf
  rw [hw] at hK
  exact hK _ (((Ext.add _).trans eT).trans (hN.ex.trans e3))
theorem s_qDisplay : PSpec Tryd.prog 15 (RWrQ true) := by
  refine fspec_of (fn := Tryd.f15) 1 [.tmp 2] (by kernel_rfl) rfl rfl (by kernel_rfl) mixed (by rintro _ _ _ ⟨_, _, rfl, _⟩; rfl) ?_
  rintro X _ st K hP hst ⟨x, d, rfl, hx, hfit, hok, hf, hK⟩
  have hda := hx
  have hlts := hx.lts
  obtain ⟨c, rfl, hdc⟩ := hx
  have hca := hdc.all
  have hc7 := hdc.len
  have t7 := List.take_of_length_le (Nat.le_of_eq hc7)
  have hn := nrm_sz d
  refine vc_V ?_
  simp (disch:=first|assumption|omega|(simp only [lens];omega)) only [eqs,↓gvd_succ,↓gvd_zero,↓and_of,im_of,im_of trivial,vlt,hP,hst,initS,Nat.reduceBEq,Nat.reduceAdd,Nat.reduceMul,Nat.reduceSub,Nat.reduceDiv,Nat.reduceMod,Nat.reducePow,Nat.reduceLT,Nat.reduceLeDiff,Nat.reduceEqDiff,Int.reduceAdd,Int.reduceSub,Int.reduceNeg,Int.reduceMul,Int.reduceToNat,Int.reducePow,Int.reduceLE,Int.reduceLT,Int.reduceEq,Int.reduceNe,reduceIte,reduceCtorEq,ne_eq,not_true_eq_false,not_false_eq_true,imp_self,implies_true,bls,eq_self,hca,hc7,t7]
  refine E_call (hP ▸ s_qFew) ⟨_, d, rfl, hda.ext (.add _), fun T eT => ?_⟩
  rw [decide_eq_true hf]
  have g0 := (At.ext (c := c) At.mk0 eT).get
  simp (disch:=first|assumption|omega|(simp only [lens];omega)) only [eqs,↓gvd_succ,↓gvd_zero,↓and_of,im_of,im_of trivial,vlt,hP,hst,initS,Nat.reduceBEq,Nat.reduceAdd,Nat.reduceMul,Nat.reduceSub,Nat.reduceDiv,Nat.reduceMod,Nat.reducePow,Nat.reduceLT,Nat.reduceLeDiff,Nat.reduceEqDiff,Int.reduceAdd,Int.reduceSub,Int.reduceNeg,Int.reduceMul,Int.reduceToNat,Int.reducePow,Int.reduceLE,Int.reduceLT,Int.reduceEq,Int.reduceNe,reduceIte,reduceCtorEq,ne_eq,not_true_eq_false,not_false_eq_true,imp_self,implies_true,bls,eq_self,g0,hc7,t7]
  refine E_call (hP ▸ s_qNormD) ⟨_, d, rfl, hda.ext ((Ext.add _).trans eT), hfit, hf, fun x' T2 hN => ?_⟩
  simp (disch:=first|assumption|omega|(simp only [lens];omega)) only [eqs,↓gvd_succ,↓gvd_zero,↓and_of,im_of,im_of trivial,vlt,hP,hst,initS,Nat.reduceBEq,Nat.reduceAdd,Nat.reduceMul,Nat.reduceSub,Nat.reduceDiv,Nat.reduceMod,Nat.reducePow,Nat.reduceLT,Nat.reduceLeDiff,Nat.reduceEqDiff,Int.reduceAdd,Int.reduceSub,Int.reduceNeg,Int.reduceMul,Int.reduceToNat,Int.reducePow,Int.reduceLE,Int.reduceLT,Int.reduceEq,Int.reduceNe,reduceIte,reduceCtorEq,ne_eq,not_true_eq_false,not_false_eq_true,imp_self,implies_true,bls,eq_self]
  refine E_call (hP ▸ s_qtext ((nrm d).sz + 1)) ⟨x', true, nrm d, rfl, hN.da, by omega, by omega, nrm_wOk d hok hlts, fun T3 e3 => ?_⟩
  simp (disch:=first|assumption|omega|(simp only [lens];omega)) only [eqs,↓gvd_succ,↓gvd_zero,↓and_of,im_of,im_of trivial,vlt,hP,hst,initS,Nat.reduceBEq,Nat.reduceAdd,Nat.reduceMul,Nat.reduceSub,Nat.reduceDiv,Nat.reduceMod,Nat.reducePow,Nat.reduceLT,Nat.reduceLeDiff,Nat.reduceEqDiff,Int.reduceAdd,Int.reduceSub,Int.reduceNeg,Int.reduceMul,Int.reduceToNat,Int.reducePow,Int.reduceLE,Int.reduceLT,Int.reduceEq,Int.reduceNe,reduceIte,reduceCtorEq,ne_eq,not_true_eq_false,not_false_eq_true,imp_self,implies_true,bls,eq_self]
  have hw : wrtL true d = textL true (nrm d) := if_pos hf
  rw [hw] at hK
  exact hK _ (((Ext.add _).trans eT).trans (hN.ex.trans e3))
end Go.Proofs.Pv
