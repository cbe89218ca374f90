/- The nat functions' walks, seventh part. -/
import Derived.Test.YtmclabehpfpnnaaGreatDoorW6
import Derived.Test.YtmclabehpfpnnaaGreatDoorM2
set_option linter.unusedSimpArgs false
set_option linter.unusedVariables false
namespace Go.Proofs.Pv
open Go Go.RowKit Go.Proofs
set_option maxRecDepth 10000

def RReverse (b : Nat) (xs : List AV) (st : St) (K : AV → St → Prop) : Prop := ∃ r l, xs = [.own r 0 (l.length) 1] ∧ b ≤ r ∧ st[r]? = some (some (u8s l)) ∧ l.length ≤ 1000000 ∧ K (.tup []) (st.set r (some (u8s l.reverse)))

theorem s_Reverse {X : Cx} (hX : X.P = Tryz.prog) : FSpec X 82 (RReverse X.st1.length) := by
  refine wspec_of (fn := Tryz.f82) 1 [] (by kernel_rfl) rfl rfl (by kernel_rfl) mixed (by rintro _ _ _ ⟨r, l, rfl, _⟩; rfl) hX ?_
  rintro X _ st K hP hst ⟨r, l, rfl, hb, hr, hl, hK⟩
  refine vc_V ?_
  have hrl : r < st.length := (List.getElem?_eq_some_iff.1 hr).1
  simp (disch:=first|assumption|omega|(simp only [lens];omega)) only [eqs,↓gvd_succ,↓gvd_zero,↓and_of,im_of,im_of trivial,vlt,hP,hst,initS,Nat.reduceBEq,Nat.reduceAdd,Nat.reduceMul,Nat.reduceSub,Nat.reduceDiv,Nat.reduceMod,Nat.reducePow,Nat.reduceLT,Nat.reduceLeDiff,Nat.reduceEqDiff,Int.reduceAdd,Int.reduceSub,Int.reduceNeg,Int.reduceMul,Int.reduceToNat,Int.reducePow,Int.reduceLE,Int.reduceLT,Int.reduceEq,Int.reduceNe,reduceIte,reduceCtorEq,ne_eq,not_true_eq_false,not_false_eq_true,imp_self,implies_true,bls,eq_self,hr]
  refine V_loop (ι := Nat × List Nat) (fun e => [(0, .own r 0 l.length 1), (2, .val (.int .i64 (e.1 : Int))), (3, .val (.int .i64 ((l.length : Int) - 1 - e.1)))]) (fun e => st.set r (some (u8s e.2)))
    (fun e => e.1 ≤ l.length ∧ e.2.length = l.length ∧ ∀ j, j < l.length → e.2.getD j 0 = if j < e.1 ∨ l.length ≤ j + e.1 then l.getD (l.length - 1 - j) 0 else l.getD j 0) (fun e => l.length - e.1) (0, l) ⟨by simp, rfl, fun j hj => by rw [if_neg (by simp; omega)]⟩ (set_self hr) (by simp (disch:=first|assumption|omega|(simp only [lens];omega)) only [eqs,↓gvd_succ,↓gvd_zero,↓and_of,im_of,im_of trivial,vlt,hP,hst,initS,Nat.reduceBEq,Nat.reduceAdd,Nat.reduceMul,Nat.reduceSub,Nat.reduceDiv,Nat.reduceMod,Nat.reducePow,Nat.reduceLT,Nat.reduceLeDiff,Nat.reduceEqDiff,Int.reduceAdd,Int.reduceSub,Int.reduceNeg,Int.reduceMul,Int.reduceToNat,Int.reducePow,Int.reduceLE,Int.reduceLT,Int.reduceEq,Int.reduceNe,reduceIte,reduceCtorEq,ne_eq,not_true_eq_false,not_false_eq_true,imp_self,implies_true,bls,eq_self] <;> simp) ?_
  rintro ⟨i, row⟩ ⟨hi, hrow, hv⟩
  dsimp only at hi hrow hv ⊢
  simp (disch:=first|assumption|omega|(simp only [lens];omega)) only [eqs,↓gvd_succ,↓gvd_zero,↓and_of,im_of,im_of trivial,vlt,hP,hst,initS,Nat.reduceBEq,Nat.reduceAdd,Nat.reduceMul,Nat.reduceSub,Nat.reduceDiv,Nat.reduceMod,Nat.reducePow,Nat.reduceLT,Nat.reduceLeDiff,Nat.reduceEqDiff,Int.reduceAdd,Int.reduceSub,Int.reduceNeg,Int.reduceMul,Int.reduceToNat,Int.reducePow,Int.reduceLE,Int.reduceLT,Int.reduceEq,Int.reduceNe,reduceIte,reduceCtorEq,ne_eq,not_true_eq_false,not_false_eq_true,imp_self,implies_true,bls,eq_self]
  refine C_dec (fun h => ?_) (fun h => ?_)
  · simp (disch:=first|assumption|omega|(simp only [lens];omega)) only [eqs,↓gvd_succ,↓gvd_zero,↓and_of,im_of,im_of trivial,vlt,hP,hst,initS,Nat.reduceBEq,Nat.reduceAdd,Nat.reduceMul,Nat.reduceSub,Nat.reduceDiv,Nat.reduceMod,Nat.reducePow,Nat.reduceLT,Nat.reduceLeDiff,Nat.reduceEqDiff,Int.reduceAdd,Int.reduceSub,Int.reduceNeg,Int.reduceMul,Int.reduceToNat,Int.reducePow,Int.reduceLE,Int.reduceLT,Int.reduceEq,Int.reduceNe,reduceIte,reduceCtorEq,ne_eq,not_true_eq_false,not_false_eq_true,imp_self,implies_true,bls,eq_self]
    refine V_draw [0, 1, 2, 3, 4, 5, 6, 7, 8, 9, 10, 11, 12, 13, 14, 15] (by kernel_rfl) (.cons rfl <| .cons rfl <| .cons rfl <| .cons rfl <| .cons rfl <| .cons rfl <| .cons rfl <| .cons rfl <| .cons rfl <| .cons rfl <| .cons rfl <| .cons rfl <| .cons rfl <| .cons rfl <| .cons rfl <| .cons rfl <| .nil) ?_
    simp (disch:=first|assumption|omega|(simp only [lens];omega)) only [eqs,↓gvd_succ,↓gvd_zero,↓and_of,im_of,im_of trivial,vlt,hP,hst,initS,Nat.reduceBEq,Nat.reduceAdd,Nat.reduceMul,Nat.reduceSub,Nat.reduceDiv,Nat.reduceMod,Nat.reducePow,Nat.reduceLT,Nat.reduceLeDiff,Nat.reduceEqDiff,Int.reduceAdd,Int.reduceSub,Int.reduceNeg,Int.reduceMul,Int.reduceToNat,Int.reducePow,Int.reduceLE,Int.reduceLT,Int.reduceEq,Int.reduceNe,reduceIte,reduceCtorEq,ne_eq,not_true_eq_false,not_false_eq_true,imp_self,implies_true,bls,eq_self,show ((l.length : Int) - 1 - i).toNat = l.length - 1 - i by omega]
    refine again (i + 1, (row.set i (row.getD (l.length - 1 - i) 0)).set (l.length - 1 - i) (row.getD i 0)) ⟨by dsimp only; omega, by simp [hrow], fun j hj => ?_⟩ (by dsimp only; omega) rfl (by
      rw [show (l.length : Int) - 1 - ((i + 1 : Nat) : Int) = (l.length : Int) - 1 - i - 1 by omega]
      simp (disch:=first|assumption|omega|(simp only [lens];omega)) only [eqs,↓gvd_succ,↓gvd_zero,↓and_of,im_of,im_of trivial,vlt,hP,hst,initS,Nat.reduceBEq,Nat.reduceAdd,Nat.reduceMul,Nat.reduceSub,Nat.reduceDiv,Nat.reduceMod,Nat.reducePow,Nat.reduceLT,Nat.reduceLeDiff,Nat.reduceEqDiff,Int.reduceAdd,Int.reduceSub,Int.reduceNeg,Int.reduceMul,Int.reduceToNat,Int.reducePow,Int.reduceLE,Int.reduceLT,Int.reduceEq,Int.reduceNe,reduceIte,reduceCtorEq,ne_eq,not_true_eq_false,not_false_eq_true,imp_self,implies_true,bls,eq_self])
    dsimp only
    by_cases h1 : j = l.length - 1 - i
    · subst h1
      rw [getD_set_self (by simp; omega), hv i (by omega), if_neg (by omega), if_pos (by omega)]
      congr 1; omega
    · rw [getD_set_ne' (by omega)]
      by_cases h2 : j = i
      · subst h2
        rw [getD_set_self (by omega), hv _ (by omega), if_neg (by omega), if_pos (by omega)]
      · rw [getD_set_ne' (by omega), hv j hj]
        by_cases h3 : j < i ∨ l.length ≤ j + i
        · rw [if_pos h3, if_pos (by omega)]
        · rw [if_neg h3, if_neg (by omega)]
  · simp (disch:=first|assumption|omega|(simp only [lens];omega)) only [eqs,↓gvd_succ,↓gvd_zero,↓and_of,im_of,im_of trivial,vlt,hP,hst,initS,Nat.reduceBEq,Nat.reduceAdd,Nat.reduceMul,Nat.reduceSub,Nat.reduceDiv,Nat.reduceMod,Nat.reducePow,Nat.reduceLT,Nat.reduceLeDiff,Nat.reduceEqDiff,Int.reduceAdd,Int.reduceSub,Int.reduceNeg,Int.reduceMul,Int.reduceToNat,Int.reducePow,Int.reduceLE,Int.reduceLT,Int.reduceEq,Int.reduceNe,reduceIte,reduceCtorEq,ne_eq,not_true_eq_false,not_false_eq_true,imp_self,implies_true,bls,eq_self]
    have e : row = l.reverse := by
      refine ext_getD (by simp [hrow]) fun j hj => ?_
      rw [hv j (by omega), getD_reverse (by omega)]
      split
      · rfl
      · congr 1; omega
    rw [e]; exact hK

def RValue (xs : List AV) (st : St) (K : AV → St → Prop) : Prop := ∃ a : Nat, xs = [.val (.int .u8 (a : Int))] ∧ a < 256 ∧ K (.tup [.val (.int .u32 (((dv a).getD 0 : Nat) : Int)), .val (.bool (dv a).isSome)]) st
def RSmall (xs : List AV) (st : St) (K : AV → St → Prop) : Prop := ∃ x l, xs = [x] ∧ Nm st x l ∧ l.length ≤ 10000 ∧
  K (.tup [.val (.int .i64 ((if blen (val l) ≤ 63 then val l else 0 : Nat) : Int)), .val (.bool (decide (blen (val l) ≤ 63)))]) st
/-- What a text says, and whether it says a number. -/
theorem dch_all : (List.range 36).all (fun d => (sb ⟨#[48, 49, 50, 51, 52, 53, 54, 55, 56, 57, 97, 98, 99, 100, 101, 102, 103, 104, 105, 106, 107, 108, 109, 110, 111, 112, 113, 114, 115, 116, 117, 118, 119, 120, 121, 122]⟩).getD d 0 == dch d) = true := by decide +kernel

theorem tab36 {T : List Nat} (hT : (List.range 36).all (fun d => T.getD d 0 == dch d) = true) {d : Nat} (hd : d < 36) : T.getD d 0 = dch d := by
  simpa using List.all_eq_true.1 hT d (List.mem_range.2 hd)

theorem slc_u8s {st : St} {r n : Nat} {l : List Nat} (h : st[r]? = some (some (u8s l))) (hn : l.length = n) : slc st (.own r 0 n 1) = some (l.length, u8s l) := by
  subst hn
  simp only [slc_own_eq, h, List.drop_zero, Nat.mul_one]
  rw [← u8s_length (l := l), List.take_length]

def RText (xs : List AV) (st : St) (K : AV → St → Prop) : Prop := ∃ x l n, xs = [x, .val (.int .i64 n)] ∧ Nm st x l ∧ l.length ≤ 10000 ∧
  K (.val (.string (if n < 2 ∨ 36 < n then ⟨#[]⟩ else bstr (txt n.toNat (val l))))) st
def RText0 (xs : List AV) (st : St) (K : AV → St → Prop) : Prop := ∃ x l n, xs = [x, .val (.int .i64 n)] ∧ Nm st x l ∧ l.length ≤ 10000 ∧
  ∀ y, K (.val (.string (if n < 2 ∨ 36 < n then ⟨#[]⟩ else bstr (txt n.toNat (val l))))) (st ++ y)
theorem s_Text0 : PSpec Tryz.prog 56 RText0 := by
  refine fspec_of (fn := Tryz.f56) 2 [.tmp 4] (by kernel_rfl) rfl rfl (by kernel_rfl) mixed (by rintro _ _ _ ⟨x, l, n, rfl, _⟩; rfl) ?_
  rintro X _ st K hP hst ⟨x, l, n, rfl, hx, hl, hK⟩
  refine vc_V ?_
  simp (disch:=first|assumption|omega|(simp only [lens];omega)) only [eqs,↓gvd_succ,↓gvd_zero,↓and_of,im_of,im_of trivial,vlt,hP,hst,initS,Nat.reduceBEq,Nat.reduceAdd,Nat.reduceMul,Nat.reduceSub,Nat.reduceDiv,Nat.reduceMod,Nat.reducePow,Nat.reduceLT,Nat.reduceLeDiff,Nat.reduceEqDiff,Int.reduceAdd,Int.reduceSub,Int.reduceNeg,Int.reduceMul,Int.reduceToNat,Int.reducePow,Int.reduceLE,Int.reduceLT,Int.reduceEq,Int.reduceNe,reduceIte,reduceCtorEq,ne_eq,not_true_eq_false,not_false_eq_true,imp_self,implies_true,bls,eq_self]
  refine G_ndec (fun h => ?_) (fun h => ?_)
  · simp (disch:=first|assumption|omega|(simp only [lens];omega)) only [eqs,↓gvd_succ,↓gvd_zero,↓and_of,im_of,im_of trivial,vlt,hP,hst,initS,Nat.reduceBEq,Nat.reduceAdd,Nat.reduceMul,Nat.reduceSub,Nat.reduceDiv,Nat.reduceMod,Nat.reducePow,Nat.reduceLT,Nat.reduceLeDiff,Nat.reduceEqDiff,Int.reduceAdd,Int.reduceSub,Int.reduceNeg,Int.reduceMul,Int.reduceToNat,Int.reducePow,Int.reduceLE,Int.reduceLT,Int.reduceEq,Int.reduceNe,reduceIte,reduceCtorEq,ne_eq,not_true_eq_false,not_false_eq_true,imp_self,implies_true,bls,eq_self,h]
    refine C_dec (fun h2 => ?_) (fun h2 => ?_)
    · simp (disch:=first|assumption|omega|(simp only [lens];omega)) only [eqs,↓gvd_succ,↓gvd_zero,↓and_of,im_of,im_of trivial,vlt,hP,hst,initS,Nat.reduceBEq,Nat.reduceAdd,Nat.reduceMul,Nat.reduceSub,Nat.reduceDiv,Nat.reduceMod,Nat.reducePow,Nat.reduceLT,Nat.reduceLeDiff,Nat.reduceEqDiff,Int.reduceAdd,Int.reduceSub,Int.reduceNeg,Int.reduceMul,Int.reduceToNat,Int.reducePow,Int.reduceLE,Int.reduceLT,Int.reduceEq,Int.reduceNe,reduceIte,reduceCtorEq,ne_eq,not_true_eq_false,not_false_eq_true,imp_self,implies_true,bls,eq_self]
      have := hK []
      rw [if_pos (by omega), List.append_nil] at this
      exact this
    · rw [if_neg (by omega)] at hK
      obtain ⟨b, rfl⟩ : ∃ b : Nat, n = (b : Int) := ⟨n.toNat, by omega⟩
      rw [Int.toNat_natCast] at hK
      simp (disch:=first|assumption|omega|(simp only [lens];omega)) only [eqs,↓gvd_succ,↓gvd_zero,↓and_of,im_of,im_of trivial,vlt,hP,hst,initS,Nat.reduceBEq,Nat.reduceAdd,Nat.reduceMul,Nat.reduceSub,Nat.reduceDiv,Nat.reduceMod,Nat.reducePow,Nat.reduceLT,Nat.reduceLeDiff,Nat.reduceEqDiff,Int.reduceAdd,Int.reduceSub,Int.reduceNeg,Int.reduceMul,Int.reduceToNat,Int.reducePow,Int.reduceLE,Int.reduceLT,Int.reduceEq,Int.reduceNe,reduceIte,reduceCtorEq,ne_eq,not_true_eq_false,not_false_eq_true,imp_self,implies_true,bls,eq_self]
      refine E_call (hP ▸ s_trim) ⟨x, l, rfl, hx, by omega, ?_⟩
      have hx2 := hx.trim
      have hl2 := limbs_len hx.lt
      generalize cutA x 0 (limbs (val l)).length 1 = x' at hx2 ⊢
      simp (disch:=first|assumption|omega|(simp only [lens];omega)) only [eqs,↓gvd_succ,↓gvd_zero,↓and_of,im_of,im_of trivial,vlt,hP,hst,initS,Nat.reduceBEq,Nat.reduceAdd,Nat.reduceMul,Nat.reduceSub,Nat.reduceDiv,Nat.reduceMod,Nat.reducePow,Nat.reduceLT,Nat.reduceLeDiff,Nat.reduceEqDiff,Int.reduceAdd,Int.reduceSub,Int.reduceNeg,Int.reduceMul,Int.reduceToNat,Int.reducePow,Int.reduceLE,Int.reduceLT,Int.reduceEq,Int.reduceNe,reduceIte,reduceCtorEq,ne_eq,not_true_eq_false,not_false_eq_true,imp_self,implies_true,bls,eq_self]
      -- data: none: nothing done yet; some: the number that is left, the digits, what is over
      refine V_loop (ι := Option (Nat × List Nat × St × List AV × Option (List AV))) (fun e => match e with
          | none => [(0, x'), (1, .val (.int .i64 (b : Int))), (5, .val (.slice none 0 0))]
          | some (v, ds, g, rest, q) => [(0, .own (st.length + g.length) 0 (limbs v).length 1), (1, .val (.int .i64 (b : Int))), (5, .own (st.length + (g.length + 2)) 0 ds.length 1)])
        (fun e => match e with
          | none => st
          | some (v, ds, g, rest, q) => st ++ (g ++ [some (u32s (limbs v) ++ rest), q, some (u8s ds)]))
        (fun e => match e with
          | none => True
          | some (v, ds, g, rest, q) => (limbs v).length ≤ 10000 ∧ ds.length ≤ 320000 - (digs b v).length ∧ ds ++ (digs b v).map dch = (digs b (val l)).map dch ∧ val l ≠ 0 ∧ ds ≠ [])
        (fun e => match e with
          | none => val l + 1
          | some (v, ds, g, rest, q) => v)
        none trivial rfl (by simp (disch:=first|assumption|omega|(simp only [lens];omega)) only [eqs,↓gvd_succ,↓gvd_zero,↓and_of,im_of,im_of trivial,vlt,hP,hst,initS,Nat.reduceBEq,Nat.reduceAdd,Nat.reduceMul,Nat.reduceSub,Nat.reduceDiv,Nat.reduceMod,Nat.reducePow,Nat.reduceLT,Nat.reduceLeDiff,Nat.reduceEqDiff,Int.reduceAdd,Int.reduceSub,Int.reduceNeg,Int.reduceMul,Int.reduceToNat,Int.reducePow,Int.reduceLE,Int.reduceLT,Int.reduceEq,Int.reduceNe,reduceIte,reduceCtorEq,ne_eq,not_true_eq_false,not_false_eq_true,imp_self,implies_true,bls,eq_self] <;> rfl) ?_
      have hdk : ∀ k, l.length * 32 ≤ k → (digs b (val l)).length ≤ k := fun k hk => by
        refine digs_len (by omega) ?_
        have := val_lt hx.lt
        rw [show (4294967296 : Nat) = 2 ^ 32 from rfl, ← Nat.pow_mul] at this
        exact Nat.lt_of_lt_of_le this (Nat.pow_le_pow_right (by decide) (by omega))
      have hdl := hdk 320000 (by omega)
      rintro (_ | ⟨v, ds, g, rest, q⟩) hp
      · dsimp only at hp ⊢
        have h3 := hx2.sl
        simp (disch:=first|assumption|omega|(simp only [lens];omega)) only [eqs,↓gvd_succ,↓gvd_zero,↓and_of,im_of,im_of trivial,vlt,hP,hst,initS,Nat.reduceBEq,Nat.reduceAdd,Nat.reduceMul,Nat.reduceSub,Nat.reduceDiv,Nat.reduceMod,Nat.reducePow,Nat.reduceLT,Nat.reduceLeDiff,Nat.reduceEqDiff,Int.reduceAdd,Int.reduceSub,Int.reduceNeg,Int.reduceMul,Int.reduceToNat,Int.reducePow,Int.reduceLE,Int.reduceLT,Int.reduceEq,Int.reduceNe,reduceIte,reduceCtorEq,ne_eq,not_true_eq_false,not_false_eq_true,imp_self,implies_true,bls,eq_self,h3]
        refine C_dec (fun h4 => ?_) (fun h4 => ?_)
        · have hv0 : val l ≠ 0 := by rintro h5; rw [h5, limbs_zero] at h4; simp at h4
          simp (disch:=first|assumption|omega|(simp only [lens];omega)) only [eqs,↓gvd_succ,↓gvd_zero,↓and_of,im_of,im_of trivial,vlt,hP,hst,initS,Nat.reduceBEq,Nat.reduceAdd,Nat.reduceMul,Nat.reduceSub,Nat.reduceDiv,Nat.reduceMod,Nat.reducePow,Nat.reduceLT,Nat.reduceLeDiff,Nat.reduceEqDiff,Int.reduceAdd,Int.reduceSub,Int.reduceNeg,Int.reduceMul,Int.reduceToNat,Int.reducePow,Int.reduceLE,Int.reduceLT,Int.reduceEq,Int.reduceNe,reduceIte,reduceCtorEq,ne_eq,not_true_eq_false,not_false_eq_true,imp_self,implies_true,bls,eq_self]
          refine E_call (hP ▸ s_DivSmall) ⟨_, _, b, rfl, hx2, by omega, by omega, ?_⟩
          rw [val_limbs, if_neg (by omega)]
          intro rest _
          have hm : val l % b < b := Nat.mod_lt _ (by omega)
          have hdd := digs_pos (b := b) (by omega) hv0
          have hdr : (limbs (val l / b)).length ≤ 10000 := Nat.le_trans (limbs_len_mono (Nat.div_le_self _ _)) (by omega)
          have hlt : val l / b < val l + 1 := by have := Nat.div_le_self (val l) b; omega
          generalize val l % b = r at *
          generalize hv2 : val l / b = v2 at *
          have ht := tab36 dch_all (show r < 36 by omega)
          simp (disch:=first|assumption|omega|(simp only [lens];omega)) only [eqs,↓gvd_succ,↓gvd_zero,↓and_of,im_of,im_of trivial,vlt,hP,hst,initS,Nat.reduceBEq,Nat.reduceAdd,Nat.reduceMul,Nat.reduceSub,Nat.reduceDiv,Nat.reduceMod,Nat.reducePow,Nat.reduceLT,Nat.reduceLeDiff,Nat.reduceEqDiff,Int.reduceAdd,Int.reduceSub,Int.reduceNeg,Int.reduceMul,Int.reduceToNat,Int.reducePow,Int.reduceLE,Int.reduceLT,Int.reduceEq,Int.reduceNe,reduceIte,reduceCtorEq,ne_eq,not_true_eq_false,not_false_eq_true,imp_self,implies_true,bls,eq_self,ht]
          refine ⟨by rw [show (sb _).length = 36 from by kernel_rfl]; omega, ?_⟩
          refine again (some (v2, [dch r], [], rest, some (AV.val (Value.int IntKind.u8 ↑(dch r)) :: u8s (List.drop 1 (List.replicate 1 0))))) ⟨hdr, ?_, ?_, hv0, by simp⟩ hlt rfl (by simp (disch:=first|assumption|omega|(simp only [lens];omega)) only [eqs,↓gvd_succ,↓gvd_zero,↓and_of,im_of,im_of trivial,vlt,hP,hst,initS,Nat.reduceBEq,Nat.reduceAdd,Nat.reduceMul,Nat.reduceSub,Nat.reduceDiv,Nat.reduceMod,Nat.reducePow,Nat.reduceLT,Nat.reduceLeDiff,Nat.reduceEqDiff,Int.reduceAdd,Int.reduceSub,Int.reduceNeg,Int.reduceMul,Int.reduceToNat,Int.reducePow,Int.reduceLE,Int.reduceLT,Int.reduceEq,Int.reduceNe,reduceIte,reduceCtorEq,ne_eq,not_true_eq_false,not_false_eq_true,imp_self,implies_true,bls,eq_self] <;> rfl)
          · rw [hdd] at hdl; simp at hdl ⊢; omega
          · rw [hdd]; rfl
        · simp (disch:=first|assumption|omega|(simp only [lens];omega)) only [eqs,↓gvd_succ,↓gvd_zero,↓and_of,im_of,im_of trivial,vlt,hP,hst,initS,Nat.reduceBEq,Nat.reduceAdd,Nat.reduceMul,Nat.reduceSub,Nat.reduceDiv,Nat.reduceMod,Nat.reducePow,Nat.reduceLT,Nat.reduceLeDiff,Nat.reduceEqDiff,Int.reduceAdd,Int.reduceSub,Int.reduceNeg,Int.reduceMul,Int.reduceToNat,Int.reducePow,Int.reduceLE,Int.reduceLT,Int.reduceEq,Int.reduceNe,reduceIte,reduceCtorEq,ne_eq,not_true_eq_false,not_false_eq_true,imp_self,implies_true,bls,eq_self]
          have hv0 : val l = 0 := by
            rcases Nat.eq_zero_or_pos (val l) with h5 | h5
            · exact h5
            · rw [limbs_pos (by omega)] at h4; simp at h4
          refine ⟨by decide, ?_⟩
          have := hK []
          rw [hv0, List.append_nil] at this
          exact this
      · dsimp only at hp ⊢
        obtain ⟨hvl, hdl2, hda, hv0, hds⟩ := hp
        have hz : Nm (st ++ (g ++ [some (u32s (limbs v) ++ rest), q, some (u8s ds)])) (.own (st.length + g.length) 0 (limbs v).length 1) (limbs v) :=
          Nm.own (rest := rest) (by rw [get_app, get_app0]; rfl) (limbs_lt v)
        have h3 := hz.sl
        have hbl : ds.length ≠ 0 := by simpa using hds
        simp (disch:=first|assumption|omega|(simp only [lens];omega)) only [eqs,↓gvd_succ,↓gvd_zero,↓and_of,im_of,im_of trivial,vlt,hP,hst,initS,Nat.reduceBEq,Nat.reduceAdd,Nat.reduceMul,Nat.reduceSub,Nat.reduceDiv,Nat.reduceMod,Nat.reducePow,Nat.reduceLT,Nat.reduceLeDiff,Nat.reduceEqDiff,Int.reduceAdd,Int.reduceSub,Int.reduceNeg,Int.reduceMul,Int.reduceToNat,Int.reducePow,Int.reduceLE,Int.reduceLT,Int.reduceEq,Int.reduceNe,reduceIte,reduceCtorEq,ne_eq,not_true_eq_false,not_false_eq_true,imp_self,implies_true,bls,eq_self,h3]
        refine C_dec (fun h4 => ?_) (fun h4 => ?_)
        · have hv1 : v ≠ 0 := by rintro h5; rw [h5, limbs_zero] at h4; simp at h4
          simp (disch:=first|assumption|omega|(simp only [lens];omega)) only [eqs,↓gvd_succ,↓gvd_zero,↓and_of,im_of,im_of trivial,vlt,hP,hst,initS,Nat.reduceBEq,Nat.reduceAdd,Nat.reduceMul,Nat.reduceSub,Nat.reduceDiv,Nat.reduceMod,Nat.reducePow,Nat.reduceLT,Nat.reduceLeDiff,Nat.reduceEqDiff,Int.reduceAdd,Int.reduceSub,Int.reduceNeg,Int.reduceMul,Int.reduceToNat,Int.reducePow,Int.reduceLE,Int.reduceLT,Int.reduceEq,Int.reduceNe,reduceIte,reduceCtorEq,ne_eq,not_true_eq_false,not_false_eq_true,imp_self,implies_true,bls,eq_self]
          refine E_call (hP ▸ s_DivSmall) ⟨_, _, b, rfl, hz, by omega, by omega, ?_⟩
          rw [val_limbs, if_neg (by omega)]
          intro rest2 _
          have hm : v % b < b := Nat.mod_lt _ (by omega)
          have hdd := digs_pos (b := b) (by omega) hv1
          have hdr : (limbs (v / b)).length ≤ 10000 := Nat.le_trans (limbs_len_mono (Nat.div_le_self _ _)) (by omega)
          have hlt : v / b < v := Nat.div_lt_self (by omega) (by omega)
          generalize v % b = r at *
          generalize hv2 : v / b = v2 at *
          have ht := tab36 dch_all (show r < 36 by omega)
          have hdl3 : ds.length + (digs b v2).length + 1 ≤ 320000 := by
            have := congrArg List.length hda
            rw [hdd] at this
            simp at this
            omega
          simp (disch:=first|assumption|omega|(simp only [lens];omega)) only [eqs,↓gvd_succ,↓gvd_zero,↓and_of,im_of,im_of trivial,vlt,hP,hst,initS,Nat.reduceBEq,Nat.reduceAdd,Nat.reduceMul,Nat.reduceSub,Nat.reduceDiv,Nat.reduceMod,Nat.reducePow,Nat.reduceLT,Nat.reduceLeDiff,Nat.reduceEqDiff,Int.reduceAdd,Int.reduceSub,Int.reduceNeg,Int.reduceMul,Int.reduceToNat,Int.reducePow,Int.reduceLE,Int.reduceLT,Int.reduceEq,Int.reduceNe,reduceIte,reduceCtorEq,ne_eq,not_true_eq_false,not_false_eq_true,imp_self,implies_true,bls,eq_self,ht]
          refine ⟨by rw [show (sb _).length = 36 from by kernel_rfl]; omega, ?_⟩
          refine again (some (v2, ds ++ [dch r], g ++ [some (u32s (limbs v) ++ rest), q, none], rest2, some (AV.val (Value.int IntKind.u8 ↑(dch r)) :: u8s (List.drop 1 (List.replicate 1 0))))) ⟨hdr, ?_, ?_, hv0, by simp⟩ hlt (by simp [u8s]) (by simp (disch:=first|assumption|omega|(simp only [lens];omega)) only [eqs,↓gvd_succ,↓gvd_zero,↓and_of,im_of,im_of trivial,vlt,hP,hst,initS,Nat.reduceBEq,Nat.reduceAdd,Nat.reduceMul,Nat.reduceSub,Nat.reduceDiv,Nat.reduceMod,Nat.reducePow,Nat.reduceLT,Nat.reduceLeDiff,Nat.reduceEqDiff,Int.reduceAdd,Int.reduceSub,Int.reduceNeg,Int.reduceMul,Int.reduceToNat,Int.reducePow,Int.reduceLE,Int.reduceLT,Int.reduceEq,Int.reduceNe,reduceIte,reduceCtorEq,ne_eq,not_true_eq_false,not_false_eq_true,imp_self,implies_true,bls,eq_self] <;> rfl)
          · simp; omega
          · rw [← hda, hdd]; simp
        · simp (disch:=first|assumption|omega|(simp only [lens];omega)) only [eqs,↓gvd_succ,↓gvd_zero,↓and_of,im_of,im_of trivial,vlt,hP,hst,initS,Nat.reduceBEq,Nat.reduceAdd,Nat.reduceMul,Nat.reduceSub,Nat.reduceDiv,Nat.reduceMod,Nat.reducePow,Nat.reduceLT,Nat.reduceLeDiff,Nat.reduceEqDiff,Int.reduceAdd,Int.reduceSub,Int.reduceNeg,Int.reduceMul,Int.reduceToNat,Int.reducePow,Int.reduceLE,Int.reduceLT,Int.reduceEq,Int.reduceNe,reduceIte,reduceCtorEq,ne_eq,not_true_eq_false,not_false_eq_true,imp_self,implies_true,bls,eq_self]
          refine C_dec (fun h5 => absurd h5 (by omega)) (fun _ => ?_)
          have hv1 : v = 0 := by
            rcases Nat.eq_zero_or_pos v with h5 | h5
            · exact h5
            · rw [limbs_pos (by omega)] at h4; simp at h4
          subst hv1
          rw [digs_zero] at hda hdl2
          simp only [List.map_nil, List.append_nil] at hda
          simp (disch:=first|assumption|omega|(simp only [lens];omega)) only [eqs,↓gvd_succ,↓gvd_zero,↓and_of,im_of,im_of trivial,vlt,hP,hst,initS,Nat.reduceBEq,Nat.reduceAdd,Nat.reduceMul,Nat.reduceSub,Nat.reduceDiv,Nat.reduceMod,Nat.reducePow,Nat.reduceLT,Nat.reduceLeDiff,Nat.reduceEqDiff,Int.reduceAdd,Int.reduceSub,Int.reduceNeg,Int.reduceMul,Int.reduceToNat,Int.reducePow,Int.reduceLE,Int.reduceLT,Int.reduceEq,Int.reduceNe,reduceIte,reduceCtorEq,ne_eq,not_true_eq_false,not_false_eq_true,imp_self,implies_true,bls,eq_self]
          refine E_callW (s_Reverse hP) ⟨_, ds, rfl, by rw [hst]; omega, by rw [get_app, get_app]; rfl, by omega, ?_⟩
          simp (disch:=first|assumption|omega|(simp only [lens];omega)) only [eqs,↓gvd_succ,↓gvd_zero,↓and_of,im_of,im_of trivial,vlt,hP,hst,initS,Nat.reduceBEq,Nat.reduceAdd,Nat.reduceMul,Nat.reduceSub,Nat.reduceDiv,Nat.reduceMod,Nat.reducePow,Nat.reduceLT,Nat.reduceLeDiff,Nat.reduceEqDiff,Int.reduceAdd,Int.reduceSub,Int.reduceNeg,Int.reduceMul,Int.reduceToNat,Int.reducePow,Int.reduceLE,Int.reduceLT,Int.reduceEq,Int.reduceNe,reduceIte,reduceCtorEq,ne_eq,not_true_eq_false,not_false_eq_true,imp_self,implies_true,bls,eq_self]
          refine F_convS (by rw [hP]; exact ty_u8) (l := ds.reverse) (slc_u8s (by rw [get_app, get_app]; rfl) (by simp)) ?_ ?_
          · intro n hn
            rw [List.mem_reverse, hda, List.mem_map] at hn
            obtain ⟨d, hd, rfl⟩ := hn
            have := digs_lt (b := b) (by omega) (val l) d hd
            unfold dch; split <;> omega
          · simp (disch:=first|assumption|omega|(simp only [lens];omega)) only [eqs,↓gvd_succ,↓gvd_zero,↓and_of,im_of,im_of trivial,vlt,hP,hst,initS,Nat.reduceBEq,Nat.reduceAdd,Nat.reduceMul,Nat.reduceSub,Nat.reduceDiv,Nat.reduceMod,Nat.reducePow,Nat.reduceLT,Nat.reduceLeDiff,Nat.reduceEqDiff,Int.reduceAdd,Int.reduceSub,Int.reduceNeg,Int.reduceMul,Int.reduceToNat,Int.reducePow,Int.reduceLE,Int.reduceLT,Int.reduceEq,Int.reduceNe,reduceIte,reduceCtorEq,ne_eq,not_true_eq_false,not_false_eq_true,imp_self,implies_true,bls,eq_self]
            have := hK (g ++ [some (u32s (limbs 0) ++ rest), q, some (u8s ds.reverse)])
            rw [txt, if_neg hv0, ← hda] at this
            exact this
  · simp (disch:=first|assumption|omega|(simp only [lens];omega)) only [eqs,↓gvd_succ,↓gvd_zero,↓and_of,im_of,im_of trivial,vlt,hP,hst,initS,Nat.reduceBEq,Nat.reduceAdd,Nat.reduceMul,Nat.reduceSub,Nat.reduceDiv,Nat.reduceMod,Nat.reducePow,Nat.reduceLT,Nat.reduceLeDiff,Nat.reduceEqDiff,Int.reduceAdd,Int.reduceSub,Int.reduceNeg,Int.reduceMul,Int.reduceToNat,Int.reducePow,Int.reduceLE,Int.reduceLT,Int.reduceEq,Int.reduceNe,reduceIte,reduceCtorEq,ne_eq,not_true_eq_false,not_false_eq_true,imp_self,implies_true,bls,eq_self,h]
    have := hK []
    rw [if_pos (by omega), List.append_nil] at this
    exact this

theorem s_Text : PSpec Tryz.prog 56 RText := by
  refine tidy s_Text0 ?_
  rintro xs st K ⟨x, l, n, rfl, hx, hl, hK⟩
  exact ⟨x, l, n, rfl, hx, hl, fun y => ⟨[], y, [], _, rfl, List.nodup_nil, rfl, by simp, .val _, by simpa using hK⟩⟩
end Go.Proofs.Pv
