/- Go's strings: a prefix. -/
import Derived.Test.YtmclabehpfpnnaaDoorS1
import Derived.Test.YtmclabehpfpnnaaDoorQ2
import Derived.Test.YtmclabehpfpnnaaDoorW16
import Derived.Test.YtmclabehpfpnnaaDoorW14
import Derived.Test.YtmclabehpfpnnaaDoorR8
import Derived.Test.YtmclabehpfpnnaaDoorR10
set_option linter.unusedSimpArgs false
set_option linter.unusedVariables false
namespace Go.Proofs.Pv
open Go Go.RowKit Go.Proofs
set_option maxRecDepth 20000

theorem size_sb (s : ByteArray) : s.size = (sb s).length := by
  show s.data.size = _
  unfold sb
  rw [List.length_map, Array.length_toList]
def RHas (xs : List AV) (st : St) (K : AV → St → Prop) : Prop := ∃ s p : ByteArray, xs = [.val (.string s), .val (.string p)] ∧ True ∧ (sb p).length ≤ 1000 ∧ K (.val (.bool (decide ((sb s).take (sb p).length = sb p)))) st
theorem s_HasPrefix : PSpec Tryd.prog 124 RHas := by
  refine fspec_of (fn := Tryd.f124) 2 [.tmp 4] (by kernel_rfl) rfl rfl (by kernel_rfl) mixed (by rintro _ _ _ ⟨s, p, rfl, _⟩; rfl) ?_
  rintro X _ st K hP hst ⟨s, p, rfl, hs, hp, hK⟩
  refine vc_V ?_
  simp (disch:=first|assumption|omega|(simp only [lens];omega)) only [eqs,↓gvd_succ,↓gvd_zero,↓and_of,im_of,im_of trivial,vlt,hP,hst,initS,Nat.reduceBEq,Nat.reduceAdd,Nat.reduceMul,Nat.reduceSub,Nat.reduceDiv,Nat.reduceMod,Nat.reducePow,Nat.reduceLT,Nat.reduceLeDiff,Nat.reduceEqDiff,Int.reduceAdd,Int.reduceSub,Int.reduceNeg,Int.reduceMul,Int.reduceToNat,Int.reducePow,Int.reduceLE,Int.reduceLT,Int.reduceEq,Int.reduceNe,reduceIte,reduceCtorEq,ne_eq,not_true_eq_false,not_false_eq_true,imp_self,implies_true,bls,eq_self]
  refine G_dec (fun h => ?_) (fun h => ?_)
  · have e1 : decide (s.extract 0 (sb p).length = p) = decide ((sb s).take (sb p).length = sb p) := by
      rw [decide_eq_decide]
      constructor
      · intro h2
        have := congrArg sb h2
        rwa [sb_extract, List.drop_zero] at this
      · intro h2
        apply sb_inj
        rw [sb_extract, List.drop_zero, h2]
    have h3 : ((sb p).length : Int) ≤ (s.size : Int) := by rw [size_sb]; exact h
    simp (disch:=first|assumption|omega|(simp only [lens];omega)) only [eqs,↓gvd_succ,↓gvd_zero,↓and_of,im_of,im_of trivial,vlt,hP,hst,initS,Nat.reduceBEq,Nat.reduceAdd,Nat.reduceMul,Nat.reduceSub,Nat.reduceDiv,Nat.reduceMod,Nat.reducePow,Nat.reduceLT,Nat.reduceLeDiff,Nat.reduceEqDiff,Int.reduceAdd,Int.reduceSub,Int.reduceNeg,Int.reduceMul,Int.reduceToNat,Int.reducePow,Int.reduceLE,Int.reduceLT,Int.reduceEq,Int.reduceNe,reduceIte,reduceCtorEq,ne_eq,not_true_eq_false,not_false_eq_true,imp_self,implies_true,bls,eq_self,h,h3,str_eq2,e1]
    exact hK
  · have e1 : decide ((sb s).take (sb p).length = sb p) = false := decide_eq_false fun h2 => by
      have := congrArg List.length h2
      rw [List.length_take] at this
      omega
    rw [e1] at hK
    simp (disch:=first|assumption|omega|(simp only [lens];omega)) only [eqs,↓gvd_succ,↓gvd_zero,↓and_of,im_of,im_of trivial,vlt,hP,hst,initS,Nat.reduceBEq,Nat.reduceAdd,Nat.reduceMul,Nat.reduceSub,Nat.reduceDiv,Nat.reduceMod,Nat.reducePow,Nat.reduceLT,Nat.reduceLeDiff,Nat.reduceEqDiff,Int.reduceAdd,Int.reduceSub,Int.reduceNeg,Int.reduceMul,Int.reduceToNat,Int.reducePow,Int.reduceLE,Int.reduceLT,Int.reduceEq,Int.reduceNe,reduceIte,reduceCtorEq,ne_eq,not_true_eq_false,not_false_eq_true,imp_self,implies_true,bls,eq_self,h]
    exact hK
def RCut (xs : List AV) (st : St) (K : AV → St → Prop) : Prop := ∃ s p : ByteArray, xs = [.val (.string s), .val (.string p)] ∧ True ∧ (sb p).length ≤ 1000 ∧
  ((sb s).take (sb p).length = sb p → K (.tup [.val (.string (bstr ((sb s).drop (sb p).length))), .val (.bool true)]) st) ∧ ((sb s).take (sb p).length ≠ sb p → K (.tup [.val (.string s), .val (.bool false)]) st)
theorem s_CutPrefix0 : PSpec Tryd.prog 99 RCut := by
  refine fspec_of (fn := Tryd.f99) 2 [.tmp 4, .tmp 5] (by kernel_rfl) rfl rfl (by kernel_rfl) mixed (by rintro _ _ _ ⟨s, p, rfl, _⟩; rfl) ?_
  rintro X _ st K hP hst ⟨s, p, rfl, hs, hp, hK, hK0⟩
  refine vc_V ?_
  simp (disch:=first|assumption|omega|(simp only [lens];omega)) only [eqs,↓gvd_succ,↓gvd_zero,↓and_of,im_of,im_of trivial,vlt,hP,hst,initS,Nat.reduceBEq,Nat.reduceAdd,Nat.reduceMul,Nat.reduceSub,Nat.reduceDiv,Nat.reduceMod,Nat.reducePow,Nat.reduceLT,Nat.reduceLeDiff,Nat.reduceEqDiff,Int.reduceAdd,Int.reduceSub,Int.reduceNeg,Int.reduceMul,Int.reduceToNat,Int.reducePow,Int.reduceLE,Int.reduceLT,Int.reduceEq,Int.reduceNe,reduceIte,reduceCtorEq,ne_eq,not_true_eq_false,not_false_eq_true,imp_self,implies_true,bls,eq_self]
  refine E_call (hP ▸ s_HasPrefix) ⟨s, p, rfl, hs, hp, ?_⟩
  simp (disch:=first|assumption|omega|(simp only [lens];omega)) only [eqs,↓gvd_succ,↓gvd_zero,↓and_of,im_of,im_of trivial,vlt,hP,hst,initS,Nat.reduceBEq,Nat.reduceAdd,Nat.reduceMul,Nat.reduceSub,Nat.reduceDiv,Nat.reduceMod,Nat.reducePow,Nat.reduceLT,Nat.reduceLeDiff,Nat.reduceEqDiff,Int.reduceAdd,Int.reduceSub,Int.reduceNeg,Int.reduceMul,Int.reduceToNat,Int.reducePow,Int.reduceLE,Int.reduceLT,Int.reduceEq,Int.reduceNe,reduceIte,reduceCtorEq,ne_eq,not_true_eq_false,not_false_eq_true,imp_self,implies_true,bls,eq_self]
  refine C_dec (fun h => ?_) (fun h => ?_)
  · simp (disch:=first|assumption|omega|(simp only [lens];omega)) only [eqs,↓gvd_succ,↓gvd_zero,↓and_of,im_of,im_of trivial,vlt,hP,hst,initS,Nat.reduceBEq,Nat.reduceAdd,Nat.reduceMul,Nat.reduceSub,Nat.reduceDiv,Nat.reduceMod,Nat.reducePow,Nat.reduceLT,Nat.reduceLeDiff,Nat.reduceEqDiff,Int.reduceAdd,Int.reduceSub,Int.reduceNeg,Int.reduceMul,Int.reduceToNat,Int.reducePow,Int.reduceLE,Int.reduceLT,Int.reduceEq,Int.reduceNe,reduceIte,reduceCtorEq,ne_eq,not_true_eq_false,not_false_eq_true,imp_self,implies_true,bls,eq_self]
    exact hK0 h
  · have h := Classical.not_not.1 h
    have h2 : (sb p).length ≤ (sb s).length := by
      have := congrArg List.length h
      rw [List.length_take] at this
      omega
    have h3 : ((sb p).length : Int) ≤ (s.size : Int) := by rw [size_sb]; exact Int.ofNat_le.2 h2
    have e1 : s.extract (sb p).length s.size = bstr ((sb s).drop (sb p).length) := sb_inj (by rw [sb_extract, size_sb, sb_bstr (fun n hn => sb_lt' s n (List.mem_of_mem_drop hn)), List.take_length])
    simp (disch:=first|assumption|omega|(simp only [lens];omega)) only [eqs,↓gvd_succ,↓gvd_zero,↓and_of,im_of,im_of trivial,vlt,hP,hst,initS,Nat.reduceBEq,Nat.reduceAdd,Nat.reduceMul,Nat.reduceSub,Nat.reduceDiv,Nat.reduceMod,Nat.reducePow,Nat.reduceLT,Nat.reduceLeDiff,Nat.reduceEqDiff,Int.reduceAdd,Int.reduceSub,Int.reduceNeg,Int.reduceMul,Int.reduceToNat,Int.reducePow,Int.reduceLE,Int.reduceLT,Int.reduceEq,Int.reduceNe,reduceIte,reduceCtorEq,ne_eq,not_true_eq_false,not_false_eq_true,imp_self,implies_true,bls,eq_self,h3,e1]
    exact hK h
theorem s_CutPrefix : PSpec Tryd.prog 68 RCut := by
  refine fspec_of (fn := Tryd.f68) 2 [.tmp 4, .tmp 5] (by kernel_rfl) rfl rfl (by kernel_rfl) mixed (by rintro _ _ _ ⟨s, p, rfl, _⟩; rfl) ?_
  rintro X _ st K hP hst ⟨s, p, rfl, hs, hp, hK, hK0⟩
  refine vc_V ?_
  simp (disch:=first|assumption|omega|(simp only [lens];omega)) only [eqs,↓gvd_succ,↓gvd_zero,↓and_of,im_of,im_of trivial,vlt,hP,hst,initS,Nat.reduceBEq,Nat.reduceAdd,Nat.reduceMul,Nat.reduceSub,Nat.reduceDiv,Nat.reduceMod,Nat.reducePow,Nat.reduceLT,Nat.reduceLeDiff,Nat.reduceEqDiff,Int.reduceAdd,Int.reduceSub,Int.reduceNeg,Int.reduceMul,Int.reduceToNat,Int.reducePow,Int.reduceLE,Int.reduceLT,Int.reduceEq,Int.reduceNe,reduceIte,reduceCtorEq,ne_eq,not_true_eq_false,not_false_eq_true,imp_self,implies_true,bls,eq_self]
  refine E_call (hP ▸ s_CutPrefix0) ⟨s, p, rfl, hs, hp, fun h => ?_, fun h => ?_⟩
  · simp (disch:=first|assumption|omega|(simp only [lens];omega)) only [eqs,↓gvd_succ,↓gvd_zero,↓and_of,im_of,im_of trivial,vlt,hP,hst,initS,Nat.reduceBEq,Nat.reduceAdd,Nat.reduceMul,Nat.reduceSub,Nat.reduceDiv,Nat.reduceMod,Nat.reducePow,Nat.reduceLT,Nat.reduceLeDiff,Nat.reduceEqDiff,Int.reduceAdd,Int.reduceSub,Int.reduceNeg,Int.reduceMul,Int.reduceToNat,Int.reducePow,Int.reduceLE,Int.reduceLT,Int.reduceEq,Int.reduceNe,reduceIte,reduceCtorEq,ne_eq,not_true_eq_false,not_false_eq_true,imp_self,implies_true,bls,eq_self]
    exact hK h
  · simp (disch:=first|assumption|omega|(simp only [lens];omega)) only [eqs,↓gvd_succ,↓gvd_zero,↓and_of,im_of,im_of trivial,vlt,hP,hst,initS,Nat.reduceBEq,Nat.reduceAdd,Nat.reduceMul,Nat.reduceSub,Nat.reduceDiv,Nat.reduceMod,Nat.reducePow,Nat.reduceLT,Nat.reduceLeDiff,Nat.reduceEqDiff,Int.reduceAdd,Int.reduceSub,Int.reduceNeg,Int.reduceMul,Int.reduceToNat,Int.reducePow,Int.reduceLE,Int.reduceLT,Int.reduceEq,Int.reduceNe,reduceIte,reduceCtorEq,ne_eq,not_true_eq_false,not_false_eq_true,imp_self,implies_true,bls,eq_self]
    exact hK0 h
def RTrimP (xs : List AV) (st : St) (K : AV → St → Prop) : Prop := ∃ s p : ByteArray, xs = [.val (.string s), .val (.string p)] ∧ True ∧ (sb p).length ≤ 1000 ∧
  ((sb s).take (sb p).length = sb p → K (.val (.string (bstr ((sb s).drop (sb p).length)))) st) ∧ ((sb s).take (sb p).length ≠ sb p → K (.val (.string s)) st)
theorem s_TrimPrefix0 : PSpec Tryd.prog 100 RTrimP := by
  refine fspec_of (fn := Tryd.f100) 2 [.tmp 4] (by kernel_rfl) rfl rfl (by kernel_rfl) mixed (by rintro _ _ _ ⟨s, p, rfl, _⟩; rfl) ?_
  rintro X _ st K hP hst ⟨s, p, rfl, hs, hp, hK, hK0⟩
  refine vc_V ?_
  simp (disch:=first|assumption|omega|(simp only [lens];omega)) only [eqs,↓gvd_succ,↓gvd_zero,↓and_of,im_of,im_of trivial,vlt,hP,hst,initS,Nat.reduceBEq,Nat.reduceAdd,Nat.reduceMul,Nat.reduceSub,Nat.reduceDiv,Nat.reduceMod,Nat.reducePow,Nat.reduceLT,Nat.reduceLeDiff,Nat.reduceEqDiff,Int.reduceAdd,Int.reduceSub,Int.reduceNeg,Int.reduceMul,Int.reduceToNat,Int.reducePow,Int.reduceLE,Int.reduceLT,Int.reduceEq,Int.reduceNe,reduceIte,reduceCtorEq,ne_eq,not_true_eq_false,not_false_eq_true,imp_self,implies_true,bls,eq_self]
  refine E_call (hP ▸ s_HasPrefix) ⟨s, p, rfl, hs, hp, ?_⟩
  simp (disch:=first|assumption|omega|(simp only [lens];omega)) only [eqs,↓gvd_succ,↓gvd_zero,↓and_of,im_of,im_of trivial,vlt,hP,hst,initS,Nat.reduceBEq,Nat.reduceAdd,Nat.reduceMul,Nat.reduceSub,Nat.reduceDiv,Nat.reduceMod,Nat.reducePow,Nat.reduceLT,Nat.reduceLeDiff,Nat.reduceEqDiff,Int.reduceAdd,Int.reduceSub,Int.reduceNeg,Int.reduceMul,Int.reduceToNat,Int.reducePow,Int.reduceLE,Int.reduceLT,Int.reduceEq,Int.reduceNe,reduceIte,reduceCtorEq,ne_eq,not_true_eq_false,not_false_eq_true,imp_self,implies_true,bls,eq_self]
  refine C_dec (fun h => ?_) (fun h => ?_)
  · have h2 : (sb p).length ≤ (sb s).length := by
      have := congrArg List.length h
      rw [List.length_take] at this
      omega
    have h3 : ((sb p).length : Int) ≤ (s.size : Int) := by rw [size_sb]; exact Int.ofNat_le.2 h2
    have e1 : s.extract (sb p).length s.size = bstr ((sb s).drop (sb p).length) := sb_inj (by rw [sb_extract, size_sb, sb_bstr (fun n hn => sb_lt' s n (List.mem_of_mem_drop hn)), List.take_length])
    simp (disch:=first|assumption|omega|(simp only [lens];omega)) only [eqs,↓gvd_succ,↓gvd_zero,↓and_of,im_of,im_of trivial,vlt,hP,hst,initS,Nat.reduceBEq,Nat.reduceAdd,Nat.reduceMul,Nat.reduceSub,Nat.reduceDiv,Nat.reduceMod,Nat.reducePow,Nat.reduceLT,Nat.reduceLeDiff,Nat.reduceEqDiff,Int.reduceAdd,Int.reduceSub,Int.reduceNeg,Int.reduceMul,Int.reduceToNat,Int.reducePow,Int.reduceLE,Int.reduceLT,Int.reduceEq,Int.reduceNe,reduceIte,reduceCtorEq,ne_eq,not_true_eq_false,not_false_eq_true,imp_self,implies_true,bls,eq_self,h3,e1]
    exact hK h
  · simp (disch:=first|assumption|omega|(simp only [lens];omega)) only [eqs,↓gvd_succ,↓gvd_zero,↓and_of,im_of,im_of trivial,vlt,hP,hst,initS,Nat.reduceBEq,Nat.reduceAdd,Nat.reduceMul,Nat.reduceSub,Nat.reduceDiv,Nat.reduceMod,Nat.reducePow,Nat.reduceLT,Nat.reduceLeDiff,Nat.reduceEqDiff,Int.reduceAdd,Int.reduceSub,Int.reduceNeg,Int.reduceMul,Int.reduceToNat,Int.reducePow,Int.reduceLE,Int.reduceLT,Int.reduceEq,Int.reduceNe,reduceIte,reduceCtorEq,ne_eq,not_true_eq_false,not_false_eq_true,imp_self,implies_true,bls,eq_self]
    exact hK0 h
theorem s_TrimPrefix : PSpec Tryd.prog 69 RTrimP := by
  refine fspec_of (fn := Tryd.f69) 2 [.tmp 4] (by kernel_rfl) rfl rfl (by kernel_rfl) mixed (by rintro _ _ _ ⟨s, p, rfl, _⟩; rfl) ?_
  rintro X _ st K hP hst ⟨s, p, rfl, hs, hp, hK, hK0⟩
  refine vc_V ?_
  simp (disch:=first|assumption|omega|(simp only [lens];omega)) only [eqs,↓gvd_succ,↓gvd_zero,↓and_of,im_of,im_of trivial,vlt,hP,hst,initS,Nat.reduceBEq,Nat.reduceAdd,Nat.reduceMul,Nat.reduceSub,Nat.reduceDiv,Nat.reduceMod,Nat.reducePow,Nat.reduceLT,Nat.reduceLeDiff,Nat.reduceEqDiff,Int.reduceAdd,Int.reduceSub,Int.reduceNeg,Int.reduceMul,Int.reduceToNat,Int.reducePow,Int.reduceLE,Int.reduceLT,Int.reduceEq,Int.reduceNe,reduceIte,reduceCtorEq,ne_eq,not_true_eq_false,not_false_eq_true,imp_self,implies_true,bls,eq_self]
  refine E_call (hP ▸ s_TrimPrefix0) ⟨s, p, rfl, hs, hp, fun h => ?_, fun h => ?_⟩
  · simp (disch:=first|assumption|omega|(simp only [lens];omega)) only [eqs,↓gvd_succ,↓gvd_zero,↓and_of,im_of,im_of trivial,vlt,hP,hst,initS,Nat.reduceBEq,Nat.reduceAdd,Nat.reduceMul,Nat.reduceSub,Nat.reduceDiv,Nat.reduceMod,Nat.reducePow,Nat.reduceLT,Nat.reduceLeDiff,Nat.reduceEqDiff,Int.reduceAdd,Int.reduceSub,Int.reduceNeg,Int.reduceMul,Int.reduceToNat,Int.reducePow,Int.reduceLE,Int.reduceLT,Int.reduceEq,Int.reduceNe,reduceIte,reduceCtorEq,ne_eq,not_true_eq_false,not_false_eq_true,imp_self,implies_true,bls,eq_self]
    exact hK h
  · simp (disch:=first|assumption|omega|(simp only [lens];omega)) only [eqs,↓gvd_succ,↓gvd_zero,↓and_of,im_of,im_of trivial,vlt,hP,hst,initS,Nat.reduceBEq,Nat.reduceAdd,Nat.reduceMul,Nat.reduceSub,Nat.reduceDiv,Nat.reduceMod,Nat.reducePow,Nat.reduceLT,Nat.reduceLeDiff,Nat.reduceEqDiff,Int.reduceAdd,Int.reduceSub,Int.reduceNeg,Int.reduceMul,Int.reduceToNat,Int.reducePow,Int.reduceLE,Int.reduceLT,Int.reduceEq,Int.reduceNe,reduceIte,reduceCtorEq,ne_eq,not_true_eq_false,not_false_eq_true,imp_self,implies_true,bls,eq_self]
    exact hK0 h
end Go.Proofs.Pv

/- The document's whole numbers, fifth part: as a small number; as a text. -/
namespace Go.Proofs.Pv
open Go Go.RowKit Go.Proofs
set_option maxRecDepth 20000

end Go.Proofs.Pv

/- The whole functions' walks, seventh part: out of a text. -/
namespace Go.Proofs.Pv
open Go Go.RowKit Go.Proofs
set_option maxRecDepth 20000

/-- A text's whole number: a sign, if any, and digits. -/
def parseI (l : List Nat) : Option Int :=
  if l.take 1 = [45] then (parse 10 (l.drop 1)).map fun n : Nat => -(n : Int) else if l.take 1 = [43] then (parse 10 (l.drop 1)).map fun n : Nat => (n : Int) else (parse 10 l).map fun n : Nat => (n : Int)
theorem parse_len {l : List Nat} {n : Nat} (h : parse 10 l = some n) : (limbs n).length ≤ 1000 := by
  unfold parse at h
  split at h
  · simp at h
  · rename_i h2
    have h3 : n < 36 ^ l.length := pnum_lt (by omega) h
    have h4 : l.length ≤ 1000 := by omega
    have h5 := Nat.pow_le_pow_left (show 36 ≤ 4294967296 by omega) l.length
    exact Nat.le_trans (limbs_len_le (Nat.lt_of_lt_of_le h3 h5)) h4
def RwParse (xs : List AV) (st : St) (K : AV → St → Prop) : Prop := ∃ s, xs = [.val (.string s)] ∧ True ∧
  (∀ z v st', parseI (sb s) = some z → GotI st st' v z → K (.tup [v, .val (.bool true)]) st') ∧ (parseI (sb s) = none → ∀ st', Ext st st' → K (.tup [zeroI, .val (.bool false)]) st')
theorem s_minus : sb ⟨#[45]⟩ = [45] := rfl
theorem s_plus : sb ⟨#[43]⟩ = [43] := rfl
set_option maxHeartbeats 4000000 in
theorem s_wParse : PSpec Tryd.prog 37 RwParse := by
  refine fspec_of (fn := Tryd.f37) 1 [.cell 2 24, .tmp 3] (by kernel_rfl) rfl rfl (by kernel_rfl) mixed (by rintro _ _ _ ⟨s, rfl, _⟩; rfl) ?_
  rintro X _ st K hP hst ⟨s, rfl, hs, hK, hK0⟩
  have hX : X.st1.length ≤ st.length := by rw [hst]; omega
  have hd : sb (bstr ((sb s).drop 1)) = (sb s).drop 1 := sb_bstr fun n hn => sb_lt' s n (List.mem_of_mem_drop hn)
  refine vc_V ?_
  simp (disch:=first|assumption|omega|(simp only [lens];omega)) only [eqs,↓gvd_succ,↓gvd_zero,↓and_of,im_of,im_of trivial,vlt,hP,hst,initS,Nat.reduceBEq,Nat.reduceAdd,Nat.reduceMul,Nat.reduceSub,Nat.reduceDiv,Nat.reduceMod,Nat.reducePow,Nat.reduceLT,Nat.reduceLeDiff,Nat.reduceEqDiff,Int.reduceAdd,Int.reduceSub,Int.reduceNeg,Int.reduceMul,Int.reduceToNat,Int.reducePow,Int.reduceLE,Int.reduceLT,Int.reduceEq,Int.reduceNe,reduceIte,reduceCtorEq,ne_eq,not_true_eq_false,not_false_eq_true,imp_self,implies_true,bls,eq_self]
  refine E_call (hP ▸ s_CutPrefix) ⟨s, ⟨#[45]⟩, rfl, hs, by rw [s_minus]; simp, fun h => ?_, fun h => ?_⟩
  · have h1 : (sb s).take 1 = [45] := h
    rw [s_minus, show ([45] : List Nat).length = 1 from rfl]
    simp (disch:=first|assumption|omega|(simp only [lens];omega)) only [eqs,↓gvd_succ,↓gvd_zero,↓and_of,im_of,im_of trivial,vlt,hP,hst,initS,Nat.reduceBEq,Nat.reduceAdd,Nat.reduceMul,Nat.reduceSub,Nat.reduceDiv,Nat.reduceMod,Nat.reducePow,Nat.reduceLT,Nat.reduceLeDiff,Nat.reduceEqDiff,Int.reduceAdd,Int.reduceSub,Int.reduceNeg,Int.reduceMul,Int.reduceToNat,Int.reducePow,Int.reduceLE,Int.reduceLT,Int.reduceEq,Int.reduceNe,reduceIte,reduceCtorEq,ne_eq,not_true_eq_false,not_false_eq_true,imp_self,implies_true,bls,eq_self]
    refine E_call (hP ▸ s_Parse) ⟨_, 10, rfl, gotP_pres fun x T hT hx => ?_⟩
    rw [hd] at hx ⊢
    have hl := show parseI (sb s) = (parse 10 ((sb s).drop 1)).map (fun n : Nat => -(n : Int)) by unfold parseI; rw [if_pos h1]
    have hC : At T st.length [.val (.bool false), .val (.slice none 0 0)] := At.ext ⟨by rw [get_app0]; rfl⟩ hT
    have gC := hC.get
    have gC2 := hC.lt
    have e0 : Ext st T := (Ext.add _).trans hT
    rcases hp : parse 10 ((sb s).drop 1) with _ | n
    · rw [hp] at hx hl
      simp only [Option.isSome_none]
      simp (disch:=first|assumption|omega|(simp only [lens];omega)) only [eqs,↓gvd_succ,↓gvd_zero,↓and_of,im_of,im_of trivial,vlt,hP,hst,initS,Nat.reduceBEq,Nat.reduceAdd,Nat.reduceMul,Nat.reduceSub,Nat.reduceDiv,Nat.reduceMod,Nat.reducePow,Nat.reduceLT,Nat.reduceLeDiff,Nat.reduceEqDiff,Int.reduceAdd,Int.reduceSub,Int.reduceNeg,Int.reduceMul,Int.reduceToNat,Int.reducePow,Int.reduceLE,Int.reduceLT,Int.reduceEq,Int.reduceNe,reduceIte,reduceCtorEq,ne_eq,not_true_eq_false,not_false_eq_true,imp_self,implies_true,bls,eq_self,gC,hX]
      exact hK0 hl _ (e0.set (Nat.le_refl _) _)
    · rw [hp] at hx hl
      simp only [Option.isSome_some, Option.getD_some] at hx ⊢
      have hln := parse_len hp
      simp (disch:=first|assumption|omega|(simp only [lens];omega)) only [eqs,↓gvd_succ,↓gvd_zero,↓and_of,im_of,im_of trivial,vlt,hP,hst,initS,Nat.reduceBEq,Nat.reduceAdd,Nat.reduceMul,Nat.reduceSub,Nat.reduceDiv,Nat.reduceMod,Nat.reducePow,Nat.reduceLT,Nat.reduceLeDiff,Nat.reduceEqDiff,Int.reduceAdd,Int.reduceSub,Int.reduceNeg,Int.reduceMul,Int.reduceToNat,Int.reducePow,Int.reduceLE,Int.reduceLT,Int.reduceEq,Int.reduceNe,reduceIte,reduceCtorEq,ne_eq,not_true_eq_false,not_false_eq_true,imp_self,implies_true,bls,eq_self]
      refine E_call (hP ▸ s_of) ⟨true, x, _, rfl, hx, by omega, fun z T2 hz => ?_⟩
      rw [val_limbs] at hz
      have hz0 := hz
      obtain ⟨z', rfl, hz'⟩ := hz
      have hzl := hz'.nm.leaf
      have gD := (hC.ext hz'.ex).get
      have gE := (hC.ext hz'.ex).lt
      simp (disch:=first|assumption|omega|(simp only [lens];omega)) only [eqs,↓gvd_succ,↓gvd_zero,↓and_of,im_of,im_of trivial,vlt,hP,hst,initS,Nat.reduceBEq,Nat.reduceAdd,Nat.reduceMul,Nat.reduceSub,Nat.reduceDiv,Nat.reduceMod,Nat.reducePow,Nat.reduceLT,Nat.reduceLeDiff,Nat.reduceEqDiff,Int.reduceAdd,Int.reduceSub,Int.reduceNeg,Int.reduceMul,Int.reduceToNat,Int.reducePow,Int.reduceLE,Int.reduceLT,Int.reduceEq,Int.reduceNe,reduceIte,reduceCtorEq,ne_eq,not_true_eq_false,not_false_eq_true,imp_self,implies_true,bls,eq_self,hzl,gD,gE,hX]
      exact hK _ _ _ hl (hz0.end1 e0 (Nat.le_refl _) gC2)
  · have h1 : (sb s).take 1 ≠ [45] := h
    simp (disch:=first|assumption|omega|(simp only [lens];omega)) only [eqs,↓gvd_succ,↓gvd_zero,↓and_of,im_of,im_of trivial,vlt,hP,hst,initS,Nat.reduceBEq,Nat.reduceAdd,Nat.reduceMul,Nat.reduceSub,Nat.reduceDiv,Nat.reduceMod,Nat.reducePow,Nat.reduceLT,Nat.reduceLeDiff,Nat.reduceEqDiff,Int.reduceAdd,Int.reduceSub,Int.reduceNeg,Int.reduceMul,Int.reduceToNat,Int.reducePow,Int.reduceLE,Int.reduceLT,Int.reduceEq,Int.reduceNe,reduceIte,reduceCtorEq,ne_eq,not_true_eq_false,not_false_eq_true,imp_self,implies_true,bls,eq_self]
    refine E_call (hP ▸ s_TrimPrefix) ⟨s, ⟨#[43]⟩, rfl, hs, by rw [s_plus]; simp, fun h2 => ?_, fun h2 => ?_⟩
    · have h3 : (sb s).take 1 = [43] := h2
      rw [s_plus, show ([43] : List Nat).length = 1 from rfl]
      simp (disch:=first|assumption|omega|(simp only [lens];omega)) only [eqs,↓gvd_succ,↓gvd_zero,↓and_of,im_of,im_of trivial,vlt,hP,hst,initS,Nat.reduceBEq,Nat.reduceAdd,Nat.reduceMul,Nat.reduceSub,Nat.reduceDiv,Nat.reduceMod,Nat.reducePow,Nat.reduceLT,Nat.reduceLeDiff,Nat.reduceEqDiff,Int.reduceAdd,Int.reduceSub,Int.reduceNeg,Int.reduceMul,Int.reduceToNat,Int.reducePow,Int.reduceLE,Int.reduceLT,Int.reduceEq,Int.reduceNe,reduceIte,reduceCtorEq,ne_eq,not_true_eq_false,not_false_eq_true,imp_self,implies_true,bls,eq_self]
      refine E_call (hP ▸ s_Parse) ⟨_, 10, rfl, gotP_pres fun x T hT hx => ?_⟩
      rw [hd] at hx ⊢
      have hl := show parseI (sb s) = (parse 10 ((sb s).drop 1)).map (fun n : Nat => (n : Int)) by unfold parseI; rw [if_neg h1, if_pos h3]
      have hC : At T st.length [.val (.bool false), .val (.slice none 0 0)] := At.ext ⟨by rw [get_app0]; rfl⟩ hT
      have gC := hC.get
      have gC2 := hC.lt
      have e0 : Ext st T := (Ext.add _).trans hT
      rcases hp : parse 10 ((sb s).drop 1) with _ | n
      · rw [hp] at hx hl
        simp only [Option.isSome_none]
        simp (disch:=first|assumption|omega|(simp only [lens];omega)) only [eqs,↓gvd_succ,↓gvd_zero,↓and_of,im_of,im_of trivial,vlt,hP,hst,initS,Nat.reduceBEq,Nat.reduceAdd,Nat.reduceMul,Nat.reduceSub,Nat.reduceDiv,Nat.reduceMod,Nat.reducePow,Nat.reduceLT,Nat.reduceLeDiff,Nat.reduceEqDiff,Int.reduceAdd,Int.reduceSub,Int.reduceNeg,Int.reduceMul,Int.reduceToNat,Int.reducePow,Int.reduceLE,Int.reduceLT,Int.reduceEq,Int.reduceNe,reduceIte,reduceCtorEq,ne_eq,not_true_eq_false,not_false_eq_true,imp_self,implies_true,bls,eq_self,gC,hX]
        exact hK0 hl _ (e0.set (Nat.le_refl _) _)
      · rw [hp] at hx hl
        simp only [Option.isSome_some, Option.getD_some] at hx ⊢
        have hln := parse_len hp
        simp (disch:=first|assumption|omega|(simp only [lens];omega)) only [eqs,↓gvd_succ,↓gvd_zero,↓and_of,im_of,im_of trivial,vlt,hP,hst,initS,Nat.reduceBEq,Nat.reduceAdd,Nat.reduceMul,Nat.reduceSub,Nat.reduceDiv,Nat.reduceMod,Nat.reducePow,Nat.reduceLT,Nat.reduceLeDiff,Nat.reduceEqDiff,Int.reduceAdd,Int.reduceSub,Int.reduceNeg,Int.reduceMul,Int.reduceToNat,Int.reducePow,Int.reduceLE,Int.reduceLT,Int.reduceEq,Int.reduceNe,reduceIte,reduceCtorEq,ne_eq,not_true_eq_false,not_false_eq_true,imp_self,implies_true,bls,eq_self]
        refine E_call (hP ▸ s_of) ⟨false, x, _, rfl, hx, by omega, fun z T2 hz => ?_⟩
        rw [val_limbs] at hz
        have hz0 := hz
        obtain ⟨z', rfl, hz'⟩ := hz
        have hzl := hz'.nm.leaf
        have gD := (hC.ext hz'.ex).get
        have gE := (hC.ext hz'.ex).lt
        simp (disch:=first|assumption|omega|(simp only [lens];omega)) only [eqs,↓gvd_succ,↓gvd_zero,↓and_of,im_of,im_of trivial,vlt,hP,hst,initS,Nat.reduceBEq,Nat.reduceAdd,Nat.reduceMul,Nat.reduceSub,Nat.reduceDiv,Nat.reduceMod,Nat.reducePow,Nat.reduceLT,Nat.reduceLeDiff,Nat.reduceEqDiff,Int.reduceAdd,Int.reduceSub,Int.reduceNeg,Int.reduceMul,Int.reduceToNat,Int.reducePow,Int.reduceLE,Int.reduceLT,Int.reduceEq,Int.reduceNe,reduceIte,reduceCtorEq,ne_eq,not_true_eq_false,not_false_eq_true,imp_self,implies_true,bls,eq_self,hzl,gD,gE,hX]
        exact hK _ _ _ hl (hz0.end1 e0 (Nat.le_refl _) gC2)
    · have h3 : (sb s).take 1 ≠ [43] := h2
      simp (disch:=first|assumption|omega|(simp only [lens];omega)) only [eqs,↓gvd_succ,↓gvd_zero,↓and_of,im_of,im_of trivial,vlt,hP,hst,initS,Nat.reduceBEq,Nat.reduceAdd,Nat.reduceMul,Nat.reduceSub,Nat.reduceDiv,Nat.reduceMod,Nat.reducePow,Nat.reduceLT,Nat.reduceLeDiff,Nat.reduceEqDiff,Int.reduceAdd,Int.reduceSub,Int.reduceNeg,Int.reduceMul,Int.reduceToNat,Int.reducePow,Int.reduceLE,Int.reduceLT,Int.reduceEq,Int.reduceNe,reduceIte,reduceCtorEq,ne_eq,not_true_eq_false,not_false_eq_true,imp_self,implies_true,bls,eq_self]
      refine E_call (hP ▸ s_Parse) ⟨_, 10, rfl, gotP_pres fun x T hT hx => ?_⟩
      have hl := show parseI (sb s) = (parse 10 (sb s)).map (fun n : Nat => (n : Int)) by unfold parseI; rw [if_neg h1, if_neg h3]
      have hC : At T st.length [.val (.bool false), .val (.slice none 0 0)] := At.ext ⟨by rw [get_app0]; rfl⟩ hT
      have gC := hC.get
      have gC2 := hC.lt
      have e0 : Ext st T := (Ext.add _).trans hT
      rcases hp : parse 10 (sb s) with _ | n
      · rw [hp] at hx hl
        simp only [Option.isSome_none]
        simp (disch:=first|assumption|omega|(simp only [lens];omega)) only [eqs,↓gvd_succ,↓gvd_zero,↓and_of,im_of,im_of trivial,vlt,hP,hst,initS,Nat.reduceBEq,Nat.reduceAdd,Nat.reduceMul,Nat.reduceSub,Nat.reduceDiv,Nat.reduceMod,Nat.reducePow,Nat.reduceLT,Nat.reduceLeDiff,Nat.reduceEqDiff,Int.reduceAdd,Int.reduceSub,Int.reduceNeg,Int.reduceMul,Int.reduceToNat,Int.reducePow,Int.reduceLE,Int.reduceLT,Int.reduceEq,Int.reduceNe,reduceIte,reduceCtorEq,ne_eq,not_true_eq_false,not_false_eq_true,imp_self,implies_true,bls,eq_self,gC,hX]
        exact hK0 hl _ (e0.set (Nat.le_refl _) _)
      · rw [hp] at hx hl
        simp only [Option.isSome_some, Option.getD_some] at hx ⊢
        have hln := parse_len hp
        simp (disch:=first|assumption|omega|(simp only [lens];omega)) only [eqs,↓gvd_succ,↓gvd_zero,↓and_of,im_of,im_of trivial,vlt,hP,hst,initS,Nat.reduceBEq,Nat.reduceAdd,Nat.reduceMul,Nat.reduceSub,Nat.reduceDiv,Nat.reduceMod,Nat.reducePow,Nat.reduceLT,Nat.reduceLeDiff,Nat.reduceEqDiff,Int.reduceAdd,Int.reduceSub,Int.reduceNeg,Int.reduceMul,Int.reduceToNat,Int.reducePow,Int.reduceLE,Int.reduceLT,Int.reduceEq,Int.reduceNe,reduceIte,reduceCtorEq,ne_eq,not_true_eq_false,not_false_eq_true,imp_self,implies_true,bls,eq_self]
        refine E_call (hP ▸ s_of) ⟨false, x, _, rfl, hx, by omega, fun z T2 hz => ?_⟩
        rw [val_limbs] at hz
        have hz0 := hz
        obtain ⟨z', rfl, hz'⟩ := hz
        have hzl := hz'.nm.leaf
        have gD := (hC.ext hz'.ex).get
        have gE := (hC.ext hz'.ex).lt
        simp (disch:=first|assumption|omega|(simp only [lens];omega)) only [eqs,↓gvd_succ,↓gvd_zero,↓and_of,im_of,im_of trivial,vlt,hP,hst,initS,Nat.reduceBEq,Nat.reduceAdd,Nat.reduceMul,Nat.reduceSub,Nat.reduceDiv,Nat.reduceMod,Nat.reducePow,Nat.reduceLT,Nat.reduceLeDiff,Nat.reduceEqDiff,Int.reduceAdd,Int.reduceSub,Int.reduceNeg,Int.reduceMul,Int.reduceToNat,Int.reducePow,Int.reduceLE,Int.reduceLT,Int.reduceEq,Int.reduceNe,reduceIte,reduceCtorEq,ne_eq,not_true_eq_false,not_false_eq_true,imp_self,implies_true,bls,eq_self,hzl,gD,gE,hX]
        exact hK _ _ _ hl (hz0.end1 e0 (Nat.le_refl _) gC2)
end Go.Proofs.Pv

/- The document's whole numbers, sixth part: out of a text. -/
namespace Go.Proofs.Pv
open Go Go.RowKit Go.Proofs
set_option maxRecDepth 20000

end Go.Proofs.Pv
