/- The nat functions' walks, first part. -/
import Derived.Test.YtmclabehpfpnnaaDoorT1
import Derived.Test.YtmclabehpfpnnaaDoorD1
set_option linter.unusedSimpArgs false
set_option linter.unusedVariables false
namespace Go.Proofs.Pv
open Go Go.RowKit Go.Proofs
set_option maxRecDepth 10000

def RAdd32 (xs : List AV) (st : St) (K : AV → St → Prop) : Prop := ∃ a b c : Nat, xs = [.val (.int .u32 (a : Int)), .val (.int .u32 (b : Int)), .val (.int .u32 (c : Int))] ∧ a < 4294967296 ∧ b < 4294967296 ∧ c < 4294967296 ∧
  K (.tup [.val (.int .u32 (((a + b + c) % 4294967296 : Nat) : Int)), .val (.int .u32 (((a + b + c) / 4294967296 : Nat) : Int))]) st

/-- A difference with a borrow. -/
def RSub32 (xs : List AV) (st : St) (K : AV → St → Prop) : Prop := ∃ a b c : Nat, xs = [.val (.int .u32 (a : Int)), .val (.int .u32 (b : Int)), .val (.int .u32 (c : Int))] ∧ a < 4294967296 ∧ b < 4294967296 ∧ c ≤ 1 ∧
  K (.tup [.val (.int .u32 (((a + 4294967296 - b - c) % 4294967296 : Nat) : Int)), .val (.int .u32 ((if a < b + c then 1 else 0 : Nat) : Int))]) st

def RDiv32 (xs : List AV) (st : St) (K : AV → St → Prop) : Prop := ∃ hi lo y : Nat, xs = [.val (.int .u32 (hi : Int)), .val (.int .u32 (lo : Int)), .val (.int .u32 (y : Int))] ∧ hi < y ∧ lo < 4294967296 ∧ y < 4294967296 ∧
  K (.tup [.val (.int .u32 (((hi * 4294967296 + lo) / y : Nat) : Int)), .val (.int .u32 (((hi * 4294967296 + lo) % y : Nat) : Int))]) st

theorem s_Div32 : PSpec Tryd.prog 133 RDiv32 := by
  refine fspec_of (fn := Tryd.f133) 3 [.tmp 6, .tmp 7] (by kernel_rfl) rfl rfl (by kernel_rfl) mixed (by rintro _ _ _ ⟨a, b, c, rfl, _⟩; rfl) ?_
  rintro X _ st K hP hst ⟨a, b, c, rfl, ha, hb, hc, hK⟩
  refine vc_V ?_
  have hq : (a * 4294967296 + b) / c < 4294967296 := by
    rw [Nat.div_lt_iff_lt_mul (by omega)]
    have := Nat.mul_le_mul_right 4294967296 (show a + 1 ≤ c by omega)
    omega
  have hr : (a * 4294967296 + b) % c < c := Nat.mod_lt _ (by omega)
  simp (disch:=first|assumption|omega|(simp only [lens];omega)) only [eqs,↓gvd_succ,↓gvd_zero,↓and_of,im_of,im_of trivial,vlt,hP,hst,initS,Nat.reduceBEq,Nat.reduceAdd,Nat.reduceMul,Nat.reduceSub,Nat.reduceDiv,Nat.reduceMod,Nat.reducePow,Nat.reduceLT,Nat.reduceLeDiff,Nat.reduceEqDiff,Int.reduceAdd,Int.reduceSub,Int.reduceNeg,Int.reduceMul,Int.reduceToNat,Int.reducePow,Int.reduceLE,Int.reduceLT,Int.reduceEq,Int.reduceNe,reduceIte,reduceCtorEq,ne_eq,not_true_eq_false,not_false_eq_true,imp_self,implies_true,bls,eq_self,show ¬((c : Int) = 0) by omega,show ¬((c : Int) ≤ a) by omega]
  have e : bitV .or .u64 ((a : Int) * 4294967296) (b : Int) = ((a * 4294967296 + b : Nat) : Int) := by
    rw [show (a : Int) * 4294967296 = ((a * 4294967296 : Nat) : Int) by omega, or64 (by omega) (by omega), or_add hb]
  have hv : a * 4294967296 + b < 18446744073709551616 := by omega
  generalize a * 4294967296 + b = v at *
  refine V_draw [0, 1, 2, 3, 4, 5, 6, 7, 8, 9, 10, 11] (by kernel_rfl) (.cons rfl <| .cons rfl <| .cons rfl <| .cons rfl <| .cons rfl <| .cons rfl <| .cons rfl <| .cons rfl <| .cons rfl <| .cons rfl <| .cons rfl <| .cons rfl <| .nil) ?_
  have hw : IntKind.u32.wrap (IntKind.u64.wrap ((v / c : Nat) : Int)) = ((v / c : Nat) : Int) := by
    generalize v / c = q at hq
    rw [IntWalk.u64_in _ (by omega), IntWalk.u32_in _ (by omega)]
  simp (disch:=first|assumption|omega|(simp only [lens];omega)) only [eqs,↓gvd_succ,↓gvd_zero,↓and_of,im_of,im_of trivial,vlt,hP,hst,initS,Nat.reduceBEq,Nat.reduceAdd,Nat.reduceMul,Nat.reduceSub,Nat.reduceDiv,Nat.reduceMod,Nat.reducePow,Nat.reduceLT,Nat.reduceLeDiff,Nat.reduceEqDiff,Int.reduceAdd,Int.reduceSub,Int.reduceNeg,Int.reduceMul,Int.reduceToNat,Int.reducePow,Int.reduceLE,Int.reduceLT,Int.reduceEq,Int.reduceNe,reduceIte,reduceCtorEq,ne_eq,not_true_eq_false,not_false_eq_true,imp_self,implies_true,bls,eq_self,e,show ¬((c : Int) = 0) by omega]
  rw [hw]
  exact hK

def RLen32 (xs : List AV) (st : St) (K : AV → St → Prop) : Prop := ∃ a : Nat, xs = [.val (.int .u32 (a : Int))] ∧ a < 4294967296 ∧ K (.val (.int .i64 (blen a : Int))) st
def RLead32 (xs : List AV) (st : St) (K : AV → St → Prop) : Prop := ∃ a : Nat, xs = [.val (.int .u32 (a : Int))] ∧ a < 4294967296 ∧ K (.val (.int .i64 ((32 - blen a : Nat) : Int))) st
def RisNaN (k : IntKind) (xs : List AV) (st : St) (K : AV → St → Prop) : Prop := ∃ a : Int, xs = [.val (.int k a)] ∧ K (.val (.bool false)) st

def cmpI (a b : Int) : Int := if a < b then -1 else if b < a then 1 else 0
def RCompare (k : IntKind) (xs : List AV) (st : St) (K : AV → St → Prop) : Prop := ∃ a b : Int, xs = [.val (.int k a), .val (.int k b)] ∧ K (.val (.int .i64 (cmpI a b))) st
end Go.Proofs.Pv

/- The nat functions' walks, second part. -/
namespace Go.Proofs.Pv
open Go Go.RowKit Go.Proofs
set_option maxRecDepth 10000

def RTrim (xs : List AV) (st : St) (K : AV → St → Prop) : Prop := ∃ x l, xs = [x] ∧ Nm st x l ∧ l.length ≤ 35184372088832 ∧ K (cutA x 0 (limbs (val l)).length 1) st

theorem s_trim : PSpec Tryd.prog 117 RTrim := by
  refine fspec_of (fn := Tryd.f117) 1 [.tmp 2] (by kernel_rfl) rfl rfl (by kernel_rfl) mixed (by rintro _ _ _ ⟨x, l, rfl, _⟩; rfl) ?_
  rintro X _ st K hP hst ⟨x, l, rfl, hx, hl, hK⟩
  refine vc_V ?_
  simp (disch:=first|assumption|omega|(simp only [lens];omega)) only [eqs,↓gvd_succ,↓gvd_zero,↓and_of,im_of,im_of trivial,vlt,hP,hst,initS,Nat.reduceBEq,Nat.reduceAdd,Nat.reduceMul,Nat.reduceSub,Nat.reduceDiv,Nat.reduceMod,Nat.reducePow,Nat.reduceLT,Nat.reduceLeDiff,Nat.reduceEqDiff,Int.reduceAdd,Int.reduceSub,Int.reduceNeg,Int.reduceMul,Int.reduceToNat,Int.reducePow,Int.reduceLE,Int.reduceLT,Int.reduceEq,Int.reduceNe,reduceIte,reduceCtorEq,ne_eq,not_true_eq_false,not_false_eq_true,imp_self,implies_true,bls,eq_self]
  refine V_loop (ι := Nat) (fun m => [(0, cutA x 0 m 1)]) (fun _ => st) (fun m => m ≤ l.length ∧ ∀ j, m ≤ j → j < l.length → l.getD j 0 = 0) id l.length ⟨Nat.le_refl _, by omega⟩ rfl (by simp (disch:=first|assumption|omega|(simp only [lens];omega)) only [eqs,↓gvd_succ,↓gvd_zero,↓and_of,im_of,im_of trivial,vlt,hP,hst,initS,Nat.reduceBEq,Nat.reduceAdd,Nat.reduceMul,Nat.reduceSub,Nat.reduceDiv,Nat.reduceMod,Nat.reducePow,Nat.reduceLT,Nat.reduceLeDiff,Nat.reduceEqDiff,Int.reduceAdd,Int.reduceSub,Int.reduceNeg,Int.reduceMul,Int.reduceToNat,Int.reducePow,Int.reduceLE,Int.reduceLT,Int.reduceEq,Int.reduceNe,reduceIte,reduceCtorEq,ne_eq,not_true_eq_false,not_false_eq_true,imp_self,implies_true,bls,eq_self,cutA_all hx.sl]) ?_
  rintro m ⟨hm, hz⟩
  have hs := hx.slcut hm
  simp (disch:=first|assumption|omega|(simp only [lens];omega)) only [eqs,↓gvd_succ,↓gvd_zero,↓and_of,im_of,im_of trivial,vlt,hP,hst,initS,Nat.reduceBEq,Nat.reduceAdd,Nat.reduceMul,Nat.reduceSub,Nat.reduceDiv,Nat.reduceMod,Nat.reducePow,Nat.reduceLT,Nat.reduceLeDiff,Nat.reduceEqDiff,Int.reduceAdd,Int.reduceSub,Int.reduceNeg,Int.reduceMul,Int.reduceToNat,Int.reducePow,Int.reduceLE,Int.reduceLT,Int.reduceEq,Int.reduceNe,reduceIte,reduceCtorEq,ne_eq,not_true_eq_false,not_false_eq_true,imp_self,implies_true,bls,eq_self,hs]
  refine G_dec (fun h => ?_) (fun h => ?_)
  · simp (disch:=first|assumption|omega|(simp only [lens];omega)) only [eqs,↓gvd_succ,↓gvd_zero,↓and_of,im_of,im_of trivial,vlt,hP,hst,initS,Nat.reduceBEq,Nat.reduceAdd,Nat.reduceMul,Nat.reduceSub,Nat.reduceDiv,Nat.reduceMod,Nat.reducePow,Nat.reduceLT,Nat.reduceLeDiff,Nat.reduceEqDiff,Int.reduceAdd,Int.reduceSub,Int.reduceNeg,Int.reduceMul,Int.reduceToNat,Int.reducePow,Int.reduceLE,Int.reduceLT,Int.reduceEq,Int.reduceNe,reduceIte,reduceCtorEq,ne_eq,not_true_eq_false,not_false_eq_true,imp_self,implies_true,bls,eq_self,hs,h]
    refine C_dec (fun h2 => ?_) (fun h2 => ?_)
    · simp (disch:=first|assumption|omega|(simp only [lens];omega)) only [eqs,↓gvd_succ,↓gvd_zero,↓and_of,im_of,im_of trivial,vlt,hP,hst,initS,Nat.reduceBEq,Nat.reduceAdd,Nat.reduceMul,Nat.reduceSub,Nat.reduceDiv,Nat.reduceMod,Nat.reducePow,Nat.reduceLT,Nat.reduceLeDiff,Nat.reduceEqDiff,Int.reduceAdd,Int.reduceSub,Int.reduceNeg,Int.reduceMul,Int.reduceToNat,Int.reducePow,Int.reduceLE,Int.reduceLT,Int.reduceEq,Int.reduceNe,reduceIte,reduceCtorEq,ne_eq,not_true_eq_false,not_false_eq_true,imp_self,implies_true,bls,eq_self,hs,h,h2]
      refine again (m - 1) ⟨by omega, fun j h3 h4 => ?_⟩ (show m - 1 < m by omega) rfl ?_
      · by_cases hj : j = m - 1
        · subst hj; omega
        · exact hz j (by omega) h4
      · simp (disch:=first|assumption|omega|(simp only [lens];omega)) only [eqs,↓gvd_succ,↓gvd_zero,↓and_of,im_of,im_of trivial,vlt,hP,hst,initS,Nat.reduceBEq,Nat.reduceAdd,Nat.reduceMul,Nat.reduceSub,Nat.reduceDiv,Nat.reduceMod,Nat.reducePow,Nat.reduceLT,Nat.reduceLeDiff,Nat.reduceEqDiff,Int.reduceAdd,Int.reduceSub,Int.reduceNeg,Int.reduceMul,Int.reduceToNat,Int.reducePow,Int.reduceLE,Int.reduceLT,Int.reduceEq,Int.reduceNe,reduceIte,reduceCtorEq,ne_eq,not_true_eq_false,not_false_eq_true,imp_self,implies_true,bls,eq_self]
        exact (cutA_cutA (show m - 1 ≤ m by omega)).symm
    · simp (disch:=first|assumption|omega|(simp only [lens];omega)) only [eqs,↓gvd_succ,↓gvd_zero,↓and_of,im_of,im_of trivial,vlt,hP,hst,initS,Nat.reduceBEq,Nat.reduceAdd,Nat.reduceMul,Nat.reduceSub,Nat.reduceDiv,Nat.reduceMod,Nat.reducePow,Nat.reduceLT,Nat.reduceLeDiff,Nat.reduceEqDiff,Int.reduceAdd,Int.reduceSub,Int.reduceNeg,Int.reduceMul,Int.reduceToNat,Int.reducePow,Int.reduceLE,Int.reduceLT,Int.reduceEq,Int.reduceNe,reduceIte,reduceCtorEq,ne_eq,not_true_eq_false,not_false_eq_true,imp_self,implies_true,bls,eq_self,hs,h,h2]
      rw [limbs_take hx.lt hm hz (.inr (by omega))] at hK
      simpa [Nat.min_eq_left hm] using hK
  · simp (disch:=first|assumption|omega|(simp only [lens];omega)) only [eqs,↓gvd_succ,↓gvd_zero,↓and_of,im_of,im_of trivial,vlt,hP,hst,initS,Nat.reduceBEq,Nat.reduceAdd,Nat.reduceMul,Nat.reduceSub,Nat.reduceDiv,Nat.reduceMod,Nat.reducePow,Nat.reduceLT,Nat.reduceLeDiff,Nat.reduceEqDiff,Int.reduceAdd,Int.reduceSub,Int.reduceNeg,Int.reduceMul,Int.reduceToNat,Int.reducePow,Int.reduceLE,Int.reduceLT,Int.reduceEq,Int.reduceNe,reduceIte,reduceCtorEq,ne_eq,not_true_eq_false,not_false_eq_true,imp_self,implies_true,bls,eq_self,hs,h]
    have : m = 0 := by omega
    subst this
    rw [limbs_take hx.lt hm hz (.inl rfl)] at hK
    simpa using hK

/-- The tail of a row, cut. -/
theorem Nm.trim {st : St} {x : AV} {l : List Nat} (h : Nm st x l) : Nm st (cutA x 0 (limbs (val l)).length 1) (limbs (val l)) := by
  have h1 := h.cut0 (limbs_len h.lt)
  rwa [limbs_cut h.lt] at h1

/-- What is handed on is a new row of a number. -/
def fresh (st : St) (v : Nat) (K : AV → St → Prop) : Prop := ∀ rest, plain rest → K (.own st.length 0 (limbs v).length 1) (st ++ [some (u32s (limbs v) ++ rest)])

def RNorm (xs : List AV) (st : St) (K : AV → St → Prop) : Prop := ∃ x l, xs = [x] ∧ Nm st x l ∧ l.length ≤ 35184372088832 ∧ fresh st (val l) K

theorem s_Norm : PSpec Tryd.prog 102 RNorm := by
  refine fspec_of (fn := Tryd.f102) 1 [.tmp 2] (by kernel_rfl) rfl rfl (by kernel_rfl) mixed (by rintro _ _ _ ⟨x, l, rfl, _⟩; rfl) ?_
  rintro X _ st K hP hst ⟨x, l, rfl, hx, hl, hK⟩
  refine vc_V ?_
  simp (disch:=first|assumption|omega|(simp only [lens];omega)) only [eqs,↓gvd_succ,↓gvd_zero,↓and_of,im_of,im_of trivial,vlt,hP,hst,initS,Nat.reduceBEq,Nat.reduceAdd,Nat.reduceMul,Nat.reduceSub,Nat.reduceDiv,Nat.reduceMod,Nat.reducePow,Nat.reduceLT,Nat.reduceLeDiff,Nat.reduceEqDiff,Int.reduceAdd,Int.reduceSub,Int.reduceNeg,Int.reduceMul,Int.reduceToNat,Int.reducePow,Int.reduceLE,Int.reduceLT,Int.reduceEq,Int.reduceNe,reduceIte,reduceCtorEq,ne_eq,not_true_eq_false,not_false_eq_true,imp_self,implies_true,bls,eq_self]
  refine E_call (hP ▸ s_trim) ⟨x, l, rfl, hx, hl, ?_⟩
  have h2 := hx.trim
  have hl2 := limbs_len hx.lt
  have h3 := h2.sl
  have h4 := h2.grow
  have h5 := h2.slcg
  simp (disch:=first|assumption|omega|(simp only [lens];omega)) only [eqs,↓gvd_succ,↓gvd_zero,↓and_of,im_of,im_of trivial,vlt,hP,hst,initS,Nat.reduceBEq,Nat.reduceAdd,Nat.reduceMul,Nat.reduceSub,Nat.reduceDiv,Nat.reduceMod,Nat.reducePow,Nat.reduceLT,Nat.reduceLeDiff,Nat.reduceEqDiff,Int.reduceAdd,Int.reduceSub,Int.reduceNeg,Int.reduceMul,Int.reduceToNat,Int.reducePow,Int.reduceLE,Int.reduceLT,Int.reduceEq,Int.reduceNe,reduceIte,reduceCtorEq,ne_eq,not_true_eq_false,not_false_eq_true,imp_self,implies_true,bls,eq_self,h3,h4,h5]
  exact hK _ u32s_plain

def RCmp (xs : List AV) (st : St) (K : AV → St → Prop) : Prop := ∃ x y l m, xs = [x, y] ∧ Nm st x l ∧ Nm st y m ∧ l.length ≤ 35184372088832 ∧ m.length ≤ 35184372088832 ∧ K (.val (.int .i64 (cmpI (val l) (val m)))) st


end Go.Proofs.Pv

/- The nat functions' walks, third part. -/
namespace Go.Proofs.Pv
open Go Go.RowKit Go.Proofs
set_option maxRecDepth 10000

theorem fresh.trim {st : St} {row : List Nat} {v : Nat} {K : AV → St → Prop} (hK : fresh st v K) (hl : ∀ z ∈ row, z < 4294967296) (hv : val row = v) : K (.own st.length 0 (limbs (val row)).length 1) (st ++ [some (u32s row)]) := by
  subst hv
  have h := hK (u32s (row.drop (limbs (val row)).length)) u32s_plain
  have e := List.take_append_drop (limbs (val row)).length row
  rw [limbs_cut hl] at e
  rw [u32s_app, e] at h
  exact h

/-- The only new object, all of it. -/
theorem Nm.last {st : St} {row : List Nat} {n : Nat} (hn : row.length = n) (hl : ∀ z ∈ row, z < 4294967296) : Nm (st ++ [some (u32s row)]) (.own st.length 0 n 1) row := by
  have := Nm.own (st := st ++ [some (u32s row)]) (r := st.length) (l := row) (rest := []) (by simp) hl
  simpa [hn] using this

def RAdd (xs : List AV) (st : St) (K : AV → St → Prop) : Prop := ∃ x y l m, xs = [x, y] ∧ Nm st x l ∧ Nm st y m ∧ l.length ≤ 100000 ∧ m.length ≤ 100000 ∧ fresh st (val l + val m) K

def RSub (xs : List AV) (st : St) (K : AV → St → Prop) : Prop := ∃ x y l m, xs = [x, y] ∧ Nm st x l ∧ Nm st y m ∧ l.length ≤ 100000 ∧ m.length ≤ 100000 ∧ fresh st (val l - val m) K

theorem fresh.zero {st : St} {K : AV → St → Prop} (h : fresh st 0 K) : K (.own st.length 0 0 1) (st ++ [some []]) := by
  have := h [] (by simp [plain])
  rw [limbs_zero] at this
  exact this

end Go.Proofs.Pv

/- The nat functions' walks, fourth part. -/
namespace Go.Proofs.Pv
open Go Go.RowKit Go.Proofs
set_option maxRecDepth 10000

def RDivSmall (xs : List AV) (st : St) (K : AV → St → Prop) : Prop := ∃ x l d, xs = [x, .val (.int .u32 ((d : Nat) : Int))] ∧ Nm st x l ∧ l.length ≤ 100000 ∧ d < 4294967296 ∧
  fresh st (val l / d) fun z st' => K (.tup [z, .val (.int .u32 ((if d = 0 then 0 else val l % d : Nat) : Int))]) st'

theorem s_DivSmall : PSpec Tryd.prog 118 RDivSmall := by
  refine fspec_of (fn := Tryd.f118) 2 [.tmp 4, .tmp 5] (by kernel_rfl) rfl rfl (by kernel_rfl) mixed (by rintro _ _ _ ⟨x, l, d, rfl, _⟩; rfl) ?_
  rintro X _ st K hP hst ⟨x, l, d, rfl, hx, hl, hd, hK⟩
  refine vc_V ?_
  have h1 := hx.sl
  simp (disch:=first|assumption|omega|(simp only [lens];omega)) only [eqs,↓gvd_succ,↓gvd_zero,↓and_of,im_of,im_of trivial,vlt,hP,hst,initS,Nat.reduceBEq,Nat.reduceAdd,Nat.reduceMul,Nat.reduceSub,Nat.reduceDiv,Nat.reduceMod,Nat.reducePow,Nat.reduceLT,Nat.reduceLeDiff,Nat.reduceEqDiff,Int.reduceAdd,Int.reduceSub,Int.reduceNeg,Int.reduceMul,Int.reduceToNat,Int.reducePow,Int.reduceLE,Int.reduceLT,Int.reduceEq,Int.reduceNe,reduceIte,reduceCtorEq,ne_eq,not_true_eq_false,not_false_eq_true,imp_self,implies_true,bls,eq_self,h1]
  refine C_dec (fun h => ?_) (fun h => ?_)
  · simp (disch:=first|assumption|omega|(simp only [lens];omega)) only [eqs,↓gvd_succ,↓gvd_zero,↓and_of,im_of,im_of trivial,vlt,hP,hst,initS,Nat.reduceBEq,Nat.reduceAdd,Nat.reduceMul,Nat.reduceSub,Nat.reduceDiv,Nat.reduceMod,Nat.reducePow,Nat.reduceLT,Nat.reduceLeDiff,Nat.reduceEqDiff,Int.reduceAdd,Int.reduceSub,Int.reduceNeg,Int.reduceMul,Int.reduceToNat,Int.reducePow,Int.reduceLE,Int.reduceLT,Int.reduceEq,Int.reduceNe,reduceIte,reduceCtorEq,ne_eq,not_true_eq_false,not_false_eq_true,imp_self,implies_true,bls,eq_self,zrow]
    have hd0 : d = 0 := by omega
    subst hd0
    rw [Nat.div_zero] at hK
    exact hK.zero
  · have hd0 : d ≠ 0 := by omega
    rw [if_neg hd0] at hK
    have h3 := hx.grow
    simp (disch:=first|assumption|omega|(simp only [lens];omega)) only [eqs,↓gvd_succ,↓gvd_zero,↓and_of,im_of,im_of trivial,vlt,hP,hst,initS,Nat.reduceBEq,Nat.reduceAdd,Nat.reduceMul,Nat.reduceSub,Nat.reduceDiv,Nat.reduceMod,Nat.reducePow,Nat.reduceLT,Nat.reduceLeDiff,Nat.reduceEqDiff,Int.reduceAdd,Int.reduceSub,Int.reduceNeg,Int.reduceMul,Int.reduceToNat,Int.reducePow,Int.reduceLE,Int.reduceLT,Int.reduceEq,Int.reduceNe,reduceIte,reduceCtorEq,ne_eq,not_true_eq_false,not_false_eq_true,imp_self,implies_true,bls,eq_self,h1,h3]
    refine V_loop (ι := Nat × List Nat × Nat) (fun e => [(8, .val (.int .i64 ((e.1 : Int) - 1))), (7, .val (.int .u32 (e.2.2 : Int))), (6, .own st.length 0 l.length 1), (1, .val (.int .u32 (d : Int))), (0, x)])
      (fun e => st ++ [some (u32s e.2.1)]) (fun e => e.1 ≤ l.length ∧ e.2.1.length = l.length ∧ e.2.2 < d ∧ (∀ z ∈ e.2.1, z < 4294967296) ∧ val (e.2.1.drop e.1) * d + e.2.2 = val (l.drop e.1)) (fun e => e.1)
      (l.length, List.replicate l.length 0, 0) ⟨by simp, by simp, by simp; omega, rep_lt (by simp), by simp [val]⟩ rfl (by simp (disch:=first|assumption|omega|(simp only [lens];omega)) only [eqs,↓gvd_succ,↓gvd_zero,↓and_of,im_of,im_of trivial,vlt,hP,hst,initS,Nat.reduceBEq,Nat.reduceAdd,Nat.reduceMul,Nat.reduceSub,Nat.reduceDiv,Nat.reduceMod,Nat.reducePow,Nat.reduceLT,Nat.reduceLeDiff,Nat.reduceEqDiff,Int.reduceAdd,Int.reduceSub,Int.reduceNeg,Int.reduceMul,Int.reduceToNat,Int.reducePow,Int.reduceLE,Int.reduceLT,Int.reduceEq,Int.reduceNe,reduceIte,reduceCtorEq,ne_eq,not_true_eq_false,not_false_eq_true,imp_self,implies_true,bls,eq_self]) ?_
    rintro ⟨k, row, r⟩ ⟨hk, hr, hc, hrl, hv⟩
    dsimp only at hk hr hc hrl hv ⊢
    simp (disch:=first|assumption|omega|(simp only [lens];omega)) only [eqs,↓gvd_succ,↓gvd_zero,↓and_of,im_of,im_of trivial,vlt,hP,hst,initS,Nat.reduceBEq,Nat.reduceAdd,Nat.reduceMul,Nat.reduceSub,Nat.reduceDiv,Nat.reduceMod,Nat.reducePow,Nat.reduceLT,Nat.reduceLeDiff,Nat.reduceEqDiff,Int.reduceAdd,Int.reduceSub,Int.reduceNeg,Int.reduceMul,Int.reduceToNat,Int.reducePow,Int.reduceLE,Int.reduceLT,Int.reduceEq,Int.reduceNe,reduceIte,reduceCtorEq,ne_eq,not_true_eq_false,not_false_eq_true,imp_self,implies_true,bls,eq_self,h1,h3]
    refine C_dec (fun h6 => ?_) (fun h6 => ?_)
    · simp (disch:=first|assumption|omega|(simp only [lens];omega)) only [eqs,↓gvd_succ,↓gvd_zero,↓and_of,im_of,im_of trivial,vlt,hP,hst,initS,Nat.reduceBEq,Nat.reduceAdd,Nat.reduceMul,Nat.reduceSub,Nat.reduceDiv,Nat.reduceMod,Nat.reducePow,Nat.reduceLT,Nat.reduceLeDiff,Nat.reduceEqDiff,Int.reduceAdd,Int.reduceSub,Int.reduceNeg,Int.reduceMul,Int.reduceToNat,Int.reducePow,Int.reduceLE,Int.reduceLT,Int.reduceEq,Int.reduceNe,reduceIte,reduceCtorEq,ne_eq,not_true_eq_false,not_false_eq_true,imp_self,implies_true,bls,eq_self,h1,h3]
      have b1 := getD_lt hx.lt (k - 1)
      refine E_call (hP ▸ s_Div32) ⟨_, _, _, rfl, hc, b1, hd, ?_⟩
      have e := div_step (a := l.getD (k - 1) 0) hv
      rw [← val_drop_pred (by omega) hk, ← val_drop_set (by omega) (by omega)] at e
      have hq : (r * 4294967296 + l.getD (k - 1) 0) / d < 4294967296 := by
        rw [Nat.div_lt_iff_lt_mul (by omega)]
        have := Nat.mul_le_mul_right 4294967296 (show r + 1 ≤ d by omega)
        omega
      have hr2 : (r * 4294967296 + l.getD (k - 1) 0) % d < d := Nat.mod_lt _ (by omega)
      generalize (r * 4294967296 + l.getD (k - 1) 0) / d = q at *
      generalize (r * 4294967296 + l.getD (k - 1) 0) % d = r2 at *
      simp (disch:=first|assumption|omega|(simp only [lens];omega)) only [eqs,↓gvd_succ,↓gvd_zero,↓and_of,im_of,im_of trivial,vlt,hP,hst,initS,Nat.reduceBEq,Nat.reduceAdd,Nat.reduceMul,Nat.reduceSub,Nat.reduceDiv,Nat.reduceMod,Nat.reducePow,Nat.reduceLT,Nat.reduceLeDiff,Nat.reduceEqDiff,Int.reduceAdd,Int.reduceSub,Int.reduceNeg,Int.reduceMul,Int.reduceToNat,Int.reducePow,Int.reduceLE,Int.reduceLT,Int.reduceEq,Int.reduceNe,reduceIte,reduceCtorEq,ne_eq,not_true_eq_false,not_false_eq_true,imp_self,implies_true,bls,eq_self,h1,h3]
      refine again (k - 1, row.set (k - 1) q, r2) ⟨by dsimp only; omega, by simp [hr], hr2, set_lt hrl hq, e⟩ (by dsimp only; omega) rfl (by
        rw [show ((k - 1 : Nat) : Int) = (k : Int) - 1 by omega]
        simp (disch:=first|assumption|omega|(simp only [lens];omega)) only [eqs,↓gvd_succ,↓gvd_zero,↓and_of,im_of,im_of trivial,vlt,hP,hst,initS,Nat.reduceBEq,Nat.reduceAdd,Nat.reduceMul,Nat.reduceSub,Nat.reduceDiv,Nat.reduceMod,Nat.reducePow,Nat.reduceLT,Nat.reduceLeDiff,Nat.reduceEqDiff,Int.reduceAdd,Int.reduceSub,Int.reduceNeg,Int.reduceMul,Int.reduceToNat,Int.reducePow,Int.reduceLE,Int.reduceLT,Int.reduceEq,Int.reduceNe,reduceIte,reduceCtorEq,ne_eq,not_true_eq_false,not_false_eq_true,imp_self,implies_true,bls,eq_self])
    · simp (disch:=first|assumption|omega|(simp only [lens];omega)) only [eqs,↓gvd_succ,↓gvd_zero,↓and_of,im_of,im_of trivial,vlt,hP,hst,initS,Nat.reduceBEq,Nat.reduceAdd,Nat.reduceMul,Nat.reduceSub,Nat.reduceDiv,Nat.reduceMod,Nat.reducePow,Nat.reduceLT,Nat.reduceLeDiff,Nat.reduceEqDiff,Int.reduceAdd,Int.reduceSub,Int.reduceNeg,Int.reduceMul,Int.reduceToNat,Int.reducePow,Int.reduceLE,Int.reduceLT,Int.reduceEq,Int.reduceNe,reduceIte,reduceCtorEq,ne_eq,not_true_eq_false,not_false_eq_true,imp_self,implies_true,bls,eq_self,h1,h3]
      have hk0 : k = 0 := by omega
      subst hk0
      refine E_call (hP ▸ s_trim) ⟨_, _, rfl, Nm.last hr hrl, by omega, ?_⟩
      simp (disch:=first|assumption|omega|(simp only [lens];omega)) only [eqs,↓gvd_succ,↓gvd_zero,↓and_of,im_of,im_of trivial,vlt,hP,hst,initS,Nat.reduceBEq,Nat.reduceAdd,Nat.reduceMul,Nat.reduceSub,Nat.reduceDiv,Nat.reduceMod,Nat.reducePow,Nat.reduceLT,Nat.reduceLeDiff,Nat.reduceEqDiff,Int.reduceAdd,Int.reduceSub,Int.reduceNeg,Int.reduceMul,Int.reduceToNat,Int.reducePow,Int.reduceLE,Int.reduceLT,Int.reduceEq,Int.reduceNe,reduceIte,reduceCtorEq,ne_eq,not_true_eq_false,not_false_eq_true,imp_self,implies_true,bls,eq_self]
      simp only [List.drop_zero] at hv
      have e1 : val l / d = val row := by
        rw [← hv, Nat.mul_comm, Nat.mul_add_div (by omega), Nat.div_eq_of_lt hc, Nat.add_zero]
      have e2 : val l % d = r := by
        rw [← hv, Nat.mul_comm, Nat.mul_add_mod, Nat.mod_eq_of_lt hc]
      rw [e1, e2] at hK
      exact hK.trim hrl rfl

def RBits (xs : List AV) (st : St) (K : AV → St → Prop) : Prop := ∃ x l, xs = [x] ∧ Nm st x l ∧ l.length ≤ 100000 ∧ K (.val (.int .i64 (blen (val l) : Int))) st
def RDown (xs : List AV) (st : St) (K : AV → St → Prop) : Prop := ∃ x l n, xs = [x, .val (.int .i64 ((n : Nat) : Int))] ∧ Nm st x l ∧ l.length ≤ 100000 ∧ n ≤ 100000 ∧ fresh st (val l / 2 ^ n) K
end Go.Proofs.Pv

/- The nat functions' walks, fifth part. -/
namespace Go.Proofs.Pv
open Go Go.RowKit Go.Proofs
set_option maxRecDepth 10000

/-- A number moved by n bits, not more than 4096. -/
def shiftV (v : Nat) (n : Int) : Nat := if n < 0 then v / 2 ^ (min (-n) 4096).toNat else v * 2 ^ (min n 4096).toNat

def RShift (xs : List AV) (st : St) (K : AV → St → Prop) : Prop := ∃ x l n, xs = [x, .val (.int .i64 n)] ∧ Nm st x l ∧ l.length ≤ 10000 ∧ -9223372036854775808 ≤ n ∧ n ≤ 9223372036854775807 ∧ fresh st (shiftV (val l) n) K
end Go.Proofs.Pv
