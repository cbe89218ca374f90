/- The primitives' names and arities, out of the program's tables. -/
import Derived.Test.YtmclabehpfpnnaaGreatDoorP4
import Derived.Test.YtmclabehpfpnnaaGreatDoorK0
set_option linter.unusedSimpArgs false
set_option linter.unusedVariables false
namespace Go.Proofs.Pv
open Go Go.RowKit Go.Proofs
set_option maxRecDepth 20000

def namesL : List ByteArray := [⟨#[]⟩, ⟨#[43]⟩, ⟨#[45]⟩, ⟨#[42]⟩, ⟨#[113, 117, 111, 116, 105, 101, 110, 116]⟩, ⟨#[114, 101, 109, 97, 105, 110, 100, 101, 114]⟩, ⟨#[109, 111, 100, 117, 108, 111]⟩, ⟨#[61]⟩, ⟨#[60]⟩, ⟨#[99, 111, 110, 115]⟩, ⟨#[99, 97, 114]⟩, ⟨#[99, 100, 114]⟩, ⟨#[115, 101, 116, 45, 99, 97, 114, 33]⟩, ⟨#[115, 101, 116, 45, 99, 100, 114, 33]⟩, ⟨#[110, 117, 108, 108, 63]⟩, ⟨#[112, 97, 105, 114, 63]⟩, ⟨#[105, 110, 116, 101, 103, 101, 114, 63]⟩, ⟨#[115, 121, 109, 98, 111, 108, 63]⟩, ⟨#[115, 116, 114, 105, 110, 103, 63]⟩, ⟨#[98, 111, 111, 108, 101, 97, 110, 63]⟩, ⟨#[112, 114, 111, 99, 101, 100, 117, 114, 101, 63]⟩, ⟨#[101, 113, 63]⟩, ⟨#[110, 111, 116]⟩, ⟨#[115, 116, 114, 105, 110, 103, 45, 108, 101, 110, 103, 116, 104]⟩, ⟨#[115, 116, 114, 105, 110, 103, 45, 97, 112, 112, 101, 110, 100]⟩, ⟨#[115, 116, 114, 105, 110, 103, 61, 63]⟩, ⟨#[115, 121, 109, 98, 111, 108, 45, 62, 115, 116, 114, 105, 110, 103]⟩, ⟨#[110, 117, 109, 98, 101, 114, 45, 62, 115, 116, 114, 105, 110, 103]⟩, ⟨#[119, 114, 105, 116, 101]⟩, ⟨#[100, 105, 115, 112, 108, 97, 121]⟩, ⟨#[110, 101, 119, 108, 105, 110, 101]⟩, ⟨#[114, 101, 97, 100, 45, 98, 121, 116, 101]⟩, ⟨#[114, 97, 105, 115, 101]⟩, ⟨#[99, 97, 108, 108, 47, 99, 99]⟩, ⟨#[97, 112, 112, 108, 121]⟩, ⟨#[98, 111, 120]⟩, ⟨#[117, 110, 98, 111, 120]⟩, ⟨#[115, 101, 116, 45, 98, 111, 120, 33]⟩, ⟨#[118, 111, 105, 100]⟩]
def aritiesL : List Int := [0, 2, 2, 2, 2, 2, 2, 2, 2, 2, 1, 1, 2, 2, 1, 1, 1, 1, 1, 1, 1, 2, 1, 1, 2, 2, 1, 1, 1, 1, 0, 0, 1, 1, 2, 1, 1, 2, 0]
def namesA : List AV := namesL.map fun s => .val (.string s)
def aritiesA : List AV := aritiesL.map fun n => .val (.int .i64 n)
def nameM (p : Int) : ByteArray := if 1 ≤ p ∧ p < 39 then namesL.getD p.toNat ⟨#[]⟩ else ⟨#[]⟩
def arM (p : Int) : Int := if 1 ≤ p ∧ p < 39 then aritiesL.getD p.toNat 0 else -1
/-- What the tables hold. -/
def GP (w : World) : Prop := VRel w [] (.pointer (some ⟨1, 0, none⟩)) (.imp namesA) ∧ VRel w [] (.pointer (some ⟨2, 0, none⟩)) (.imp aritiesA)

section
variable {X : Cx} {k : List Fr} {Q : Post} {s : Sl} {st : St} {d : Bool} {full rest : List Oper} {dst : Option Nat}
theorem F_loadG {u} {T : TI} {v : Value} {cs : List AV} (h : VRel X.w0 [] v (.imp cs)) (hk : F d X dst full rest k Q () s st (.load T (.imp cs))) : F d X dst full rest k Q u s st (.load T (.val v)) := ⟨cs, h, hk⟩
theorem F_iAddrG {u} {n z1 : Nat} {ea : Bool} {z : List Value} {v : Value} {cs : List AV} {kk : IntKind} {j : Int} {i : Nat} (h : VRel X.w0 [] v (.imp cs)) (hj : j = (i : Int)) (hi : i < n) (hk : O d X full rest k Q () (putS dst (.imp (cs.drop i)) s) st) : F d X dst full rest k Q u s st (.iAddr (.arr n 1 z1 ea z) (.val v) (.val (.int kk j))) := by
  subst hj
  refine ⟨by omega, by omega, cs, h, ?_⟩
  rw [Int.toNat_natCast, Nat.mul_one]
  exact hk
end
theorem ar_good {n e sz : Nat} {a : Bool} {z : List Value} : (TI.arr n e sz a z).good = true := rfl
theorem ar_size {n e sz : Nat} {a : Bool} {z : List Value} : (TI.arr n e sz a z).size = sz := rfl
theorem ar_agg {n e sz : Nat} {a : Bool} {z : List Value} : (TI.arr n e sz a z).isAgg = true := rfl
def RName (xs : List AV) (st : St) (K : AV → St → Prop) : Prop := ∃ p : Int, xs = [.val (.int .i64 p)] ∧ K (.val (.string (nameM p))) st
theorem names_len : namesL.length = 39 := rfl
theorem arities_len : aritiesL.length = 39 := rfl
theorem names_at {i : Nat} (h : i < 39) : (List.drop i namesA)[0]? = some (.val (.string (namesL.getD i ⟨#[]⟩))) := by
  rw [List.getElem?_drop, Nat.add_zero, namesA, List.getElem?_map, List.getElem?_eq_getElem (by rw [names_len]; exact h)]
  simp [List.getD_eq_getElem?_getD, List.getElem?_eq_getElem (show i < namesL.length by rw [names_len]; exact h)]
theorem arities_at {i : Nat} (h : i < 39) : (List.drop i aritiesA)[0]? = some (.val (.int .i64 (aritiesL.getD i 0))) := by
  rw [List.getElem?_drop, Nat.add_zero, aritiesA, List.getElem?_map, List.getElem?_eq_getElem (by rw [arities_len]; exact h)]
  simp [List.getD_eq_getElem?_getD, List.getElem?_eq_getElem (show i < aritiesL.length by rw [arities_len]; exact h)]
theorem s_ExName : ∀ w0, GP w0 → PSpecAt Tryz.prog w0 40 RName := by
  refine gspec_of (fn := Tryz.f40) 1 [.tmp 2] (by kernel_rfl) rfl rfl (by kernel_rfl) mixed (by rintro _ _ _ ⟨p, rfl, _⟩; rfl) ?_
  rintro X _ st K hP hst hG ⟨p, rfl, hK⟩
  refine vc_V ?_
  simp (disch:=first|assumption|omega|(simp only [lens];omega)) only [eqs,↓gvd_succ,↓gvd_zero,↓and_of,im_of,im_of trivial,vlt,hP,hst,initS,Nat.reduceBEq,Nat.reduceAdd,Nat.reduceMul,Nat.reduceSub,Nat.reduceDiv,Nat.reduceMod,Nat.reducePow,Nat.reduceLT,Nat.reduceLeDiff,Nat.reduceEqDiff,Int.reduceAdd,Int.reduceSub,Int.reduceNeg,Int.reduceMul,Int.reduceToNat,Int.reducePow,Int.reduceLE,Int.reduceLT,Int.reduceEq,Int.reduceNe,reduceIte,reduceCtorEq,ne_eq,not_true_eq_false,not_false_eq_true,imp_self,implies_true,bls,eq_self]
  refine G_ndec (fun h => ?_) (fun h => ?_)
  rotate_left
  · unfold nameM at hK
    rw [if_neg (by omega)] at hK
    simp (disch:=first|assumption|omega|(simp only [lens];omega)) only [eqs,↓gvd_succ,↓gvd_zero,↓and_of,im_of,im_of trivial,vlt,hP,hst,initS,Nat.reduceBEq,Nat.reduceAdd,Nat.reduceMul,Nat.reduceSub,Nat.reduceDiv,Nat.reduceMod,Nat.reducePow,Nat.reduceLT,Nat.reduceLeDiff,Nat.reduceEqDiff,Int.reduceAdd,Int.reduceSub,Int.reduceNeg,Int.reduceMul,Int.reduceToNat,Int.reducePow,Int.reduceLE,Int.reduceLT,Int.reduceEq,Int.reduceNe,reduceIte,reduceCtorEq,ne_eq,not_true_eq_false,not_false_eq_true,imp_self,implies_true,bls,eq_self,h]
    exact hK
  simp (disch:=first|assumption|omega|(simp only [lens];omega)) only [eqs,↓gvd_succ,↓gvd_zero,↓and_of,im_of,im_of trivial,vlt,hP,hst,initS,Nat.reduceBEq,Nat.reduceAdd,Nat.reduceMul,Nat.reduceSub,Nat.reduceDiv,Nat.reduceMod,Nat.reducePow,Nat.reduceLT,Nat.reduceLeDiff,Nat.reduceEqDiff,Int.reduceAdd,Int.reduceSub,Int.reduceNeg,Int.reduceMul,Int.reduceToNat,Int.reducePow,Int.reduceLE,Int.reduceLT,Int.reduceEq,Int.reduceNe,reduceIte,reduceCtorEq,ne_eq,not_true_eq_false,not_false_eq_true,imp_self,implies_true,bls,eq_self,h]
  refine C_dec (fun h2 => ?_) (fun h2 => ?_)
  · unfold nameM at hK
    rw [if_neg (by omega)] at hK
    simp (disch:=first|assumption|omega|(simp only [lens];omega)) only [eqs,↓gvd_succ,↓gvd_zero,↓and_of,im_of,im_of trivial,vlt,hP,hst,initS,Nat.reduceBEq,Nat.reduceAdd,Nat.reduceMul,Nat.reduceSub,Nat.reduceDiv,Nat.reduceMod,Nat.reducePow,Nat.reduceLT,Nat.reduceLeDiff,Nat.reduceEqDiff,Int.reduceAdd,Int.reduceSub,Int.reduceNeg,Int.reduceMul,Int.reduceToNat,Int.reducePow,Int.reduceLE,Int.reduceLT,Int.reduceEq,Int.reduceNe,reduceIte,reduceCtorEq,ne_eq,not_true_eq_false,not_false_eq_true,imp_self,implies_true,bls,eq_self]
    exact hK
  unfold nameM at hK
  rw [if_pos (by omega)] at hK
  simp (disch:=first|assumption|omega|(simp only [lens];omega)) only [eqs,↓gvd_succ,↓gvd_zero,↓and_of,im_of,im_of trivial,vlt,hP,hst,initS,Nat.reduceBEq,Nat.reduceAdd,Nat.reduceMul,Nat.reduceSub,Nat.reduceDiv,Nat.reduceMod,Nat.reducePow,Nat.reduceLT,Nat.reduceLeDiff,Nat.reduceEqDiff,Int.reduceAdd,Int.reduceSub,Int.reduceNeg,Int.reduceMul,Int.reduceToNat,Int.reducePow,Int.reduceLE,Int.reduceLT,Int.reduceEq,Int.reduceNe,reduceIte,reduceCtorEq,ne_eq,not_true_eq_false,not_false_eq_true,imp_self,implies_true,bls,eq_self,ev_global]
  refine F_iAddrG (i := p.toNat) hG.1 (by omega) (by omega) ?_
  have hn := names_at (i := p.toNat) (by omega)
  simp (disch:=first|assumption|omega|(simp only [lens];omega)) only [eqs,↓gvd_succ,↓gvd_zero,↓and_of,im_of,im_of trivial,vlt,hP,hst,initS,Nat.reduceBEq,Nat.reduceAdd,Nat.reduceMul,Nat.reduceSub,Nat.reduceDiv,Nat.reduceMod,Nat.reducePow,Nat.reduceLT,Nat.reduceLeDiff,Nat.reduceEqDiff,Int.reduceAdd,Int.reduceSub,Int.reduceNeg,Int.reduceMul,Int.reduceToNat,Int.reducePow,Int.reduceLE,Int.reduceLT,Int.reduceEq,Int.reduceNe,reduceIte,reduceCtorEq,ne_eq,not_true_eq_false,not_false_eq_true,imp_self,implies_true,bls,eq_self,hn]
  exact hK
def RPrim (xs : List AV) (st : St) (K : AV → St → Prop) : Prop := ∃ p : Nat, xs = [.val (.string (namesL.getD p ⟨#[]⟩))] ∧ 1 ≤ p ∧ p < 39 ∧ K (.tup [.val (.int .i64 (p : Int)), .val (.int .i64 (aritiesL.getD p 0)), .val (.bool true)]) st
theorem names_nodup : ∀ p < 39, ∀ i < p, 0 < i → ¬namesL.getD i ⟨#[]⟩ = namesL.getD p ⟨#[]⟩ := by decide +kernel
theorem names_ne : ∀ p < 39, 0 < p → ¬namesL.getD p ⟨#[]⟩ = ⟨#[]⟩ := by decide +kernel
theorem names_get {i : Nat} (h : i < 39) : namesA[i]? = some (.val (.string (namesL.getD i ⟨#[]⟩))) := by
  have := names_at h
  rwa [List.getElem?_drop, Nat.add_zero] at this
theorem namesA_len : namesA.length = 39 := rfl
theorem s_ExPrim : ∀ w0, GP w0 → PSpecAt Tryz.prog w0 43 RPrim := by
  refine gspec_of (fn := Tryz.f43) 1 [.tmp 2, .tmp 3, .tmp 4] (by kernel_rfl) rfl rfl (by kernel_rfl) mixed (by rintro _ _ _ ⟨p, rfl, _⟩; rfl) ?_
  rintro X _ st K hP hst hG ⟨p, rfl, hp1, hp2, hK⟩
  refine vc_V ?_
  simp (disch:=first|assumption|omega|(simp only [lens];omega)) only [eqs,↓gvd_succ,↓gvd_zero,↓and_of,im_of,im_of trivial,vlt,hP,hst,initS,Nat.reduceBEq,Nat.reduceAdd,Nat.reduceMul,Nat.reduceSub,Nat.reduceDiv,Nat.reduceMod,Nat.reducePow,Nat.reduceLT,Nat.reduceLeDiff,Nat.reduceEqDiff,Int.reduceAdd,Int.reduceSub,Int.reduceNeg,Int.reduceMul,Int.reduceToNat,Int.reducePow,Int.reduceLE,Int.reduceLT,Int.reduceEq,Int.reduceNe,reduceIte,reduceCtorEq,ne_eq,not_true_eq_false,not_false_eq_true,imp_self,implies_true,bls,eq_self,ev_global]
  refine F_loadG hG.1 ?_
  have t39 : List.take 39 namesA = namesA := rfl
  simp (disch:=first|assumption|omega|(simp only [lens];omega)) only [eqs,↓gvd_succ,↓gvd_zero,↓and_of,im_of,im_of trivial,vlt,hP,hst,initS,Nat.reduceBEq,Nat.reduceAdd,Nat.reduceMul,Nat.reduceSub,Nat.reduceDiv,Nat.reduceMod,Nat.reducePow,Nat.reduceLT,Nat.reduceLeDiff,Nat.reduceEqDiff,Int.reduceAdd,Int.reduceSub,Int.reduceNeg,Int.reduceMul,Int.reduceToNat,Int.reducePow,Int.reduceLE,Int.reduceLT,Int.reduceEq,Int.reduceNe,reduceIte,reduceCtorEq,ne_eq,not_true_eq_false,not_false_eq_true,imp_self,implies_true,bls,eq_self,namesA_len,t39,ar_good,ar_size,ar_agg]
  refine V_loop (ι := Nat) (fun i => [(8, .val (.int .i64 (i : Int))), (7, .agg namesA), (0, .val (.string (namesL.getD p ⟨#[]⟩)))]) (fun _ => st) (fun i => i ≤ p) (fun i => 39 - i) 0 (by omega) rfl (by simp (disch:=first|assumption|omega|(simp only [lens];omega)) only [eqs,↓gvd_succ,↓gvd_zero,↓and_of,im_of,im_of trivial,vlt,hP,hst,initS,Nat.reduceBEq,Nat.reduceAdd,Nat.reduceMul,Nat.reduceSub,Nat.reduceDiv,Nat.reduceMod,Nat.reducePow,Nat.reduceLT,Nat.reduceLeDiff,Nat.reduceEqDiff,Int.reduceAdd,Int.reduceSub,Int.reduceNeg,Int.reduceMul,Int.reduceToNat,Int.reducePow,Int.reduceLE,Int.reduceLT,Int.reduceEq,Int.reduceNe,reduceIte,reduceCtorEq,ne_eq,not_true_eq_false,not_false_eq_true,imp_self,implies_true,bls,eq_self] <;> rfl) ?_
  intro i hi
  simp (disch:=first|assumption|omega|(simp only [lens];omega)) only [eqs,↓gvd_succ,↓gvd_zero,↓and_of,im_of,im_of trivial,vlt,hP,hst,initS,Nat.reduceBEq,Nat.reduceAdd,Nat.reduceMul,Nat.reduceSub,Nat.reduceDiv,Nat.reduceMod,Nat.reducePow,Nat.reduceLT,Nat.reduceLeDiff,Nat.reduceEqDiff,Int.reduceAdd,Int.reduceSub,Int.reduceNeg,Int.reduceMul,Int.reduceToNat,Int.reducePow,Int.reduceLE,Int.reduceLT,Int.reduceEq,Int.reduceNe,reduceIte,reduceCtorEq,ne_eq,not_true_eq_false,not_false_eq_true,imp_self,implies_true,bls,eq_self]
  refine C_dec (fun h => ?_) (fun h => ?_)
  rotate_left
  · omega
  simp (disch:=first|assumption|omega|(simp only [lens];omega)) only [eqs,↓gvd_succ,↓gvd_zero,↓and_of,im_of,im_of trivial,vlt,hP,hst,initS,Nat.reduceBEq,Nat.reduceAdd,Nat.reduceMul,Nat.reduceSub,Nat.reduceDiv,Nat.reduceMod,Nat.reducePow,Nat.reduceLT,Nat.reduceLeDiff,Nat.reduceEqDiff,Int.reduceAdd,Int.reduceSub,Int.reduceNeg,Int.reduceMul,Int.reduceToNat,Int.reducePow,Int.reduceLE,Int.reduceLT,Int.reduceEq,Int.reduceNe,reduceIte,reduceCtorEq,ne_eq,not_true_eq_false,not_false_eq_true,imp_self,implies_true,bls,eq_self]
  refine F_idx (names_get (i := i) (by omega)) rfl (by omega) ?_
  simp (disch:=first|assumption|omega|(simp only [lens];omega)) only [eqs,↓gvd_succ,↓gvd_zero,↓and_of,im_of,im_of trivial,vlt,hP,hst,initS,Nat.reduceBEq,Nat.reduceAdd,Nat.reduceMul,Nat.reduceSub,Nat.reduceDiv,Nat.reduceMod,Nat.reducePow,Nat.reduceLT,Nat.reduceLeDiff,Nat.reduceEqDiff,Int.reduceAdd,Int.reduceSub,Int.reduceNeg,Int.reduceMul,Int.reduceToNat,Int.reducePow,Int.reduceLE,Int.reduceLT,Int.reduceEq,Int.reduceNe,reduceIte,reduceCtorEq,ne_eq,not_true_eq_false,not_false_eq_true,imp_self,implies_true,bls,eq_self]
  refine G_dec (fun h2 => ?_) (fun h2 => ?_)
  · simp (disch:=first|assumption|omega|(simp only [lens];omega)) only [eqs,↓gvd_succ,↓gvd_zero,↓and_of,im_of,im_of trivial,vlt,hP,hst,initS,Nat.reduceBEq,Nat.reduceAdd,Nat.reduceMul,Nat.reduceSub,Nat.reduceDiv,Nat.reduceMod,Nat.reducePow,Nat.reduceLT,Nat.reduceLeDiff,Nat.reduceEqDiff,Int.reduceAdd,Int.reduceSub,Int.reduceNeg,Int.reduceMul,Int.reduceToNat,Int.reducePow,Int.reduceLE,Int.reduceLT,Int.reduceEq,Int.reduceNe,reduceIte,reduceCtorEq,ne_eq,not_true_eq_false,not_false_eq_true,imp_self,implies_true,bls,eq_self,h2,str_eq2]
    refine C_dec (fun h3 => ?_) (fun h3 => ?_)
    · have hip : i = p := by
        rcases Nat.lt_or_ge i p with h4 | h4
        · exact absurd h3 (names_nodup p hp2 i h4 (by omega))
        · omega
      subst hip
      simp (disch:=first|assumption|omega|(simp only [lens];omega)) only [eqs,↓gvd_succ,↓gvd_zero,↓and_of,im_of,im_of trivial,vlt,hP,hst,initS,Nat.reduceBEq,Nat.reduceAdd,Nat.reduceMul,Nat.reduceSub,Nat.reduceDiv,Nat.reduceMod,Nat.reducePow,Nat.reduceLT,Nat.reduceLeDiff,Nat.reduceEqDiff,Int.reduceAdd,Int.reduceSub,Int.reduceNeg,Int.reduceMul,Int.reduceToNat,Int.reducePow,Int.reduceLE,Int.reduceLT,Int.reduceEq,Int.reduceNe,reduceIte,reduceCtorEq,ne_eq,not_true_eq_false,not_false_eq_true,imp_self,implies_true,bls,eq_self]
      refine V_draw [0, 1, 2, 3, 4, 5, 6] (by kernel_rfl) (.cons rfl <| .cons rfl <| .cons rfl <| .cons rfl <| .cons rfl <| .cons rfl <| .cons rfl <| .nil) ?_
      simp (disch:=first|assumption|omega|(simp only [lens];omega)) only [eqs,↓gvd_succ,↓gvd_zero,↓and_of,im_of,im_of trivial,vlt,hP,hst,initS,Nat.reduceBEq,Nat.reduceAdd,Nat.reduceMul,Nat.reduceSub,Nat.reduceDiv,Nat.reduceMod,Nat.reducePow,Nat.reduceLT,Nat.reduceLeDiff,Nat.reduceEqDiff,Int.reduceAdd,Int.reduceSub,Int.reduceNeg,Int.reduceMul,Int.reduceToNat,Int.reducePow,Int.reduceLE,Int.reduceLT,Int.reduceEq,Int.reduceNe,reduceIte,reduceCtorEq,ne_eq,not_true_eq_false,not_false_eq_true,imp_self,implies_true,bls,eq_self,ev_global]
      refine F_iAddrG (i := i) hG.2 rfl (by omega) ?_
      have hn := arities_at (i := i) (by omega)
      simp (disch:=first|assumption|omega|(simp only [lens];omega)) only [eqs,↓gvd_succ,↓gvd_zero,↓and_of,im_of,im_of trivial,vlt,hP,hst,initS,Nat.reduceBEq,Nat.reduceAdd,Nat.reduceMul,Nat.reduceSub,Nat.reduceDiv,Nat.reduceMod,Nat.reducePow,Nat.reduceLT,Nat.reduceLeDiff,Nat.reduceEqDiff,Int.reduceAdd,Int.reduceSub,Int.reduceNeg,Int.reduceMul,Int.reduceToNat,Int.reducePow,Int.reduceLE,Int.reduceLT,Int.reduceEq,Int.reduceNe,reduceIte,reduceCtorEq,ne_eq,not_true_eq_false,not_false_eq_true,imp_self,implies_true,bls,eq_self,hn]
      exact hK
    · have hip : i ≠ p := by rintro rfl; exact h3 rfl
      simp (disch:=first|assumption|omega|(simp only [lens];omega)) only [eqs,↓gvd_succ,↓gvd_zero,↓and_of,im_of,im_of trivial,vlt,hP,hst,initS,Nat.reduceBEq,Nat.reduceAdd,Nat.reduceMul,Nat.reduceSub,Nat.reduceDiv,Nat.reduceMod,Nat.reducePow,Nat.reduceLT,Nat.reduceLeDiff,Nat.reduceEqDiff,Int.reduceAdd,Int.reduceSub,Int.reduceNeg,Int.reduceMul,Int.reduceToNat,Int.reducePow,Int.reduceLE,Int.reduceLT,Int.reduceEq,Int.reduceNe,reduceIte,reduceCtorEq,ne_eq,not_true_eq_false,not_false_eq_true,imp_self,implies_true,bls,eq_self]
      exact again (i + 1) (by omega) (by omega) rfl (by simp (disch:=first|assumption|omega|(simp only [lens];omega)) only [eqs,↓gvd_succ,↓gvd_zero,↓and_of,im_of,im_of trivial,vlt,hP,hst,initS,Nat.reduceBEq,Nat.reduceAdd,Nat.reduceMul,Nat.reduceSub,Nat.reduceDiv,Nat.reduceMod,Nat.reducePow,Nat.reduceLT,Nat.reduceLeDiff,Nat.reduceEqDiff,Int.reduceAdd,Int.reduceSub,Int.reduceNeg,Int.reduceMul,Int.reduceToNat,Int.reducePow,Int.reduceLE,Int.reduceLT,Int.reduceEq,Int.reduceNe,reduceIte,reduceCtorEq,ne_eq,not_true_eq_false,not_false_eq_true,imp_self,implies_true,bls,eq_self] <;> rfl)
  · simp (disch:=first|assumption|omega|(simp only [lens];omega)) only [eqs,↓gvd_succ,↓gvd_zero,↓and_of,im_of,im_of trivial,vlt,hP,hst,initS,Nat.reduceBEq,Nat.reduceAdd,Nat.reduceMul,Nat.reduceSub,Nat.reduceDiv,Nat.reduceMod,Nat.reducePow,Nat.reduceLT,Nat.reduceLeDiff,Nat.reduceEqDiff,Int.reduceAdd,Int.reduceSub,Int.reduceNeg,Int.reduceMul,Int.reduceToNat,Int.reducePow,Int.reduceLE,Int.reduceLT,Int.reduceEq,Int.reduceNe,reduceIte,reduceCtorEq,ne_eq,not_true_eq_false,not_false_eq_true,imp_self,implies_true,bls,eq_self,h2]
    exact again (i + 1) (by omega) (by omega) rfl (by simp (disch:=first|assumption|omega|(simp only [lens];omega)) only [eqs,↓gvd_succ,↓gvd_zero,↓and_of,im_of,im_of trivial,vlt,hP,hst,initS,Nat.reduceBEq,Nat.reduceAdd,Nat.reduceMul,Nat.reduceSub,Nat.reduceDiv,Nat.reduceMod,Nat.reducePow,Nat.reduceLT,Nat.reduceLeDiff,Nat.reduceEqDiff,Int.reduceAdd,Int.reduceSub,Int.reduceNeg,Int.reduceMul,Int.reduceToNat,Int.reducePow,Int.reduceLE,Int.reduceLT,Int.reduceEq,Int.reduceNe,reduceIte,reduceCtorEq,ne_eq,not_true_eq_false,not_false_eq_true,imp_self,implies_true,bls,eq_self] <;> rfl)
def RArity (xs : List AV) (st : St) (K : AV → St → Prop) : Prop := ∃ p : Int, xs = [.val (.int .i64 p)] ∧ K (.val (.int .i64 (arM p))) st
theorem s_Arity : ∀ w0, GP w0 → PSpecAt Tryz.prog w0 17 RArity := by
  refine gspec_of (fn := Tryz.f17) 1 [.tmp 2] (by kernel_rfl) rfl rfl (by kernel_rfl) mixed (by rintro _ _ _ ⟨p, rfl, _⟩; rfl) ?_
  rintro X _ st K hP hst hG ⟨p, rfl, hK⟩
  refine vc_V ?_
  simp (disch:=first|assumption|omega|(simp only [lens];omega)) only [eqs,↓gvd_succ,↓gvd_zero,↓and_of,im_of,im_of trivial,vlt,hP,hst,initS,Nat.reduceBEq,Nat.reduceAdd,Nat.reduceMul,Nat.reduceSub,Nat.reduceDiv,Nat.reduceMod,Nat.reducePow,Nat.reduceLT,Nat.reduceLeDiff,Nat.reduceEqDiff,Int.reduceAdd,Int.reduceSub,Int.reduceNeg,Int.reduceMul,Int.reduceToNat,Int.reducePow,Int.reduceLE,Int.reduceLT,Int.reduceEq,Int.reduceNe,reduceIte,reduceCtorEq,ne_eq,not_true_eq_false,not_false_eq_true,imp_self,implies_true,bls,eq_self]
  refine E_callA (hP ▸ s_ExName _ hG) ⟨p, rfl, ?_⟩
  simp (disch:=first|assumption|omega|(simp only [lens];omega)) only [eqs,↓gvd_succ,↓gvd_zero,↓and_of,im_of,im_of trivial,vlt,hP,hst,initS,Nat.reduceBEq,Nat.reduceAdd,Nat.reduceMul,Nat.reduceSub,Nat.reduceDiv,Nat.reduceMod,Nat.reducePow,Nat.reduceLT,Nat.reduceLeDiff,Nat.reduceEqDiff,Int.reduceAdd,Int.reduceSub,Int.reduceNeg,Int.reduceMul,Int.reduceToNat,Int.reducePow,Int.reduceLE,Int.reduceLT,Int.reduceEq,Int.reduceNe,reduceIte,reduceCtorEq,ne_eq,not_true_eq_false,not_false_eq_true,imp_self,implies_true,bls,eq_self,str_eq2]
  by_cases h : 1 ≤ p ∧ p < 39
  · unfold arM at hK
    rw [if_pos h] at hK
    have hn : nameM p = namesL.getD p.toNat ⟨#[]⟩ := if_pos h
    have hne : ¬nameM p = ⟨#[]⟩ := by rw [hn]; exact names_ne _ (by omega) (by omega)
    simp (disch:=first|assumption|omega|(simp only [lens];omega)) only [eqs,↓gvd_succ,↓gvd_zero,↓and_of,im_of,im_of trivial,vlt,hP,hst,initS,Nat.reduceBEq,Nat.reduceAdd,Nat.reduceMul,Nat.reduceSub,Nat.reduceDiv,Nat.reduceMod,Nat.reducePow,Nat.reduceLT,Nat.reduceLeDiff,Nat.reduceEqDiff,Int.reduceAdd,Int.reduceSub,Int.reduceNeg,Int.reduceMul,Int.reduceToNat,Int.reducePow,Int.reduceLE,Int.reduceLT,Int.reduceEq,Int.reduceNe,reduceIte,reduceCtorEq,ne_eq,not_true_eq_false,not_false_eq_true,imp_self,implies_true,bls,eq_self,hne]
    rw [hn]
    refine E_callA (hP ▸ s_ExPrim _ hG) ⟨p.toNat, rfl, by omega, by omega, ?_⟩
    simp (disch:=first|assumption|omega|(simp only [lens];omega)) only [eqs,↓gvd_succ,↓gvd_zero,↓and_of,im_of,im_of trivial,vlt,hP,hst,initS,Nat.reduceBEq,Nat.reduceAdd,Nat.reduceMul,Nat.reduceSub,Nat.reduceDiv,Nat.reduceMod,Nat.reducePow,Nat.reduceLT,Nat.reduceLeDiff,Nat.reduceEqDiff,Int.reduceAdd,Int.reduceSub,Int.reduceNeg,Int.reduceMul,Int.reduceToNat,Int.reducePow,Int.reduceLE,Int.reduceLT,Int.reduceEq,Int.reduceNe,reduceIte,reduceCtorEq,ne_eq,not_true_eq_false,not_false_eq_true,imp_self,implies_true,bls,eq_self]
    exact hK
  · unfold arM at hK
    rw [if_neg h] at hK
    have hn : nameM p = ⟨#[]⟩ := if_neg h
    simp (disch:=first|assumption|omega|(simp only [lens];omega)) only [eqs,↓gvd_succ,↓gvd_zero,↓and_of,im_of,im_of trivial,vlt,hP,hst,initS,Nat.reduceBEq,Nat.reduceAdd,Nat.reduceMul,Nat.reduceSub,Nat.reduceDiv,Nat.reduceMod,Nat.reducePow,Nat.reduceLT,Nat.reduceLeDiff,Nat.reduceEqDiff,Int.reduceAdd,Int.reduceSub,Int.reduceNeg,Int.reduceMul,Int.reduceToNat,Int.reducePow,Int.reduceLE,Int.reduceLT,Int.reduceEq,Int.reduceNe,reduceIte,reduceCtorEq,ne_eq,not_true_eq_false,not_false_eq_true,imp_self,implies_true,bls,eq_self,hn]
    exact hK
end Go.Proofs.Pv

/- Primitives of numbers. -/
namespace Go.Proofs.Pv
open Go Go.RowKit Go.Proofs
set_option maxRecDepth 20000

def plainM (p : Int) : Bool := decide ((1 ≤ p ∧ p ≤ 8) ∨ (14 ≤ p ∧ p ≤ 19) ∨ (21 ≤ p ∧ p ≤ 27))
def toldM (z : Int) : Dt × Int := if 64 < (limbs z.natAbs).length then (dNil, 12) else (dNum z, 0)
def numM (p z w : Int) : Dt × Int :=
  if p = 1 then toldM (z + w) else if p = 2 then toldM (z - w) else if p = 3 then toldM (z * w) else if p = 4 then (if w = 0 then (dNil, 3) else toldM (z.tdiv w)) else if p = 5 then (if w = 0 then (dNil, 3) else toldM (z.tmod w)) else
  if p = 6 then (if w = 0 then (dNil, 3) else toldM (fr z w)) else if p = 7 then (dBool (decide (z = w)), 0) else (dBool (decide (z < w)), 0)

def RBetween (xs : List AV) (st : St) (K : AV → St → Prop) : Prop := ∃ p lo hi : Int, xs = [.val (.int .i64 p), .val (.int .i64 lo), .val (.int .i64 hi)] ∧ K (.val (.bool (decide (lo ≤ p ∧ p ≤ hi)))) st
theorem s_between : PSpec Tryz.prog 39 RBetween := by
  refine fspec_of (fn := Tryz.f39) 3 [.tmp 6] (by kernel_rfl) rfl rfl (by kernel_rfl) mixed (by rintro _ _ _ ⟨p, lo, hi, rfl, _⟩; rfl) ?_
  rintro X _ st K hP hst ⟨p, lo, hi, rfl, hK⟩
  refine vc_V ?_
  simp (disch:=first|assumption|omega|(simp only [lens];omega)) only [eqs,↓gvd_succ,↓gvd_zero,↓and_of,im_of,im_of trivial,vlt,hP,hst,initS,Nat.reduceBEq,Nat.reduceAdd,Nat.reduceMul,Nat.reduceSub,Nat.reduceDiv,Nat.reduceMod,Nat.reducePow,Nat.reduceLT,Nat.reduceLeDiff,Nat.reduceEqDiff,Int.reduceAdd,Int.reduceSub,Int.reduceNeg,Int.reduceMul,Int.reduceToNat,Int.reducePow,Int.reduceLE,Int.reduceLT,Int.reduceEq,Int.reduceNe,reduceIte,reduceCtorEq,ne_eq,not_true_eq_false,not_false_eq_true,imp_self,implies_true,bls,eq_self]
  refine G_dec (fun h => ?_) (fun h => ?_)
  · simp (disch:=first|assumption|omega|(simp only [lens];omega)) only [eqs,↓gvd_succ,↓gvd_zero,↓and_of,im_of,im_of trivial,vlt,hP,hst,initS,Nat.reduceBEq,Nat.reduceAdd,Nat.reduceMul,Nat.reduceSub,Nat.reduceDiv,Nat.reduceMod,Nat.reducePow,Nat.reduceLT,Nat.reduceLeDiff,Nat.reduceEqDiff,Int.reduceAdd,Int.reduceSub,Int.reduceNeg,Int.reduceMul,Int.reduceToNat,Int.reducePow,Int.reduceLE,Int.reduceLT,Int.reduceEq,Int.reduceNe,reduceIte,reduceCtorEq,ne_eq,not_true_eq_false,not_false_eq_true,imp_self,implies_true,bls,eq_self,h]
    rw [show decide (p ≤ hi) = decide (lo ≤ p ∧ p ≤ hi) by rw [decide_eq_decide]; omega]
    exact hK
  · simp (disch:=first|assumption|omega|(simp only [lens];omega)) only [eqs,↓gvd_succ,↓gvd_zero,↓and_of,im_of,im_of trivial,vlt,hP,hst,initS,Nat.reduceBEq,Nat.reduceAdd,Nat.reduceMul,Nat.reduceSub,Nat.reduceDiv,Nat.reduceMod,Nat.reducePow,Nat.reduceLT,Nat.reduceLeDiff,Nat.reduceEqDiff,Int.reduceAdd,Int.reduceSub,Int.reduceNeg,Int.reduceMul,Int.reduceToNat,Int.reducePow,Int.reduceLE,Int.reduceLT,Int.reduceEq,Int.reduceNe,reduceIte,reduceCtorEq,ne_eq,not_true_eq_false,not_false_eq_true,imp_self,implies_true,bls,eq_self,h]
    rw [show decide (lo ≤ p ∧ p ≤ hi) = false from decide_eq_false (by omega)] at hK
    exact hK
def RPlain (xs : List AV) (st : St) (K : AV → St → Prop) : Prop := ∃ p : Int, xs = [.val (.int .i64 p)] ∧ K (.val (.bool (plainM p))) st
theorem s_Plain : PSpec Tryz.prog 11 RPlain := by
  refine fspec_of (fn := Tryz.f11) 1 [.tmp 2] (by kernel_rfl) rfl rfl (by kernel_rfl) mixed (by rintro _ _ _ ⟨p, rfl, _⟩; rfl) ?_
  rintro X _ st K hP hst ⟨p, rfl, hK⟩
  have hKv : ∀ v, plainM p = v → K (.val (.bool v)) st := fun v h => h ▸ hK
  refine vc_V ?_
  simp (disch:=first|assumption|omega|(simp only [lens];omega)) only [eqs,↓gvd_succ,↓gvd_zero,↓and_of,im_of,im_of trivial,vlt,hP,hst,initS,Nat.reduceBEq,Nat.reduceAdd,Nat.reduceMul,Nat.reduceSub,Nat.reduceDiv,Nat.reduceMod,Nat.reducePow,Nat.reduceLT,Nat.reduceLeDiff,Nat.reduceEqDiff,Int.reduceAdd,Int.reduceSub,Int.reduceNeg,Int.reduceMul,Int.reduceToNat,Int.reducePow,Int.reduceLE,Int.reduceLT,Int.reduceEq,Int.reduceNe,reduceIte,reduceCtorEq,ne_eq,not_true_eq_false,not_false_eq_true,imp_self,implies_true,bls,eq_self]
  refine E_call (hP ▸ s_between) ⟨p, 1, 8, rfl, ?_⟩
  simp (disch:=first|assumption|omega|(simp only [lens];omega)) only [eqs,↓gvd_succ,↓gvd_zero,↓and_of,im_of,im_of trivial,vlt,hP,hst,initS,Nat.reduceBEq,Nat.reduceAdd,Nat.reduceMul,Nat.reduceSub,Nat.reduceDiv,Nat.reduceMod,Nat.reducePow,Nat.reduceLT,Nat.reduceLeDiff,Nat.reduceEqDiff,Int.reduceAdd,Int.reduceSub,Int.reduceNeg,Int.reduceMul,Int.reduceToNat,Int.reducePow,Int.reduceLE,Int.reduceLT,Int.reduceEq,Int.reduceNe,reduceIte,reduceCtorEq,ne_eq,not_true_eq_false,not_false_eq_true,imp_self,implies_true,bls,eq_self]
  refine G_ndec (fun h => ?_) (fun h => ?_)
  rotate_left
  · simp (disch:=first|assumption|omega|(simp only [lens];omega)) only [eqs,↓gvd_succ,↓gvd_zero,↓and_of,im_of,im_of trivial,vlt,hP,hst,initS,Nat.reduceBEq,Nat.reduceAdd,Nat.reduceMul,Nat.reduceSub,Nat.reduceDiv,Nat.reduceMod,Nat.reducePow,Nat.reduceLT,Nat.reduceLeDiff,Nat.reduceEqDiff,Int.reduceAdd,Int.reduceSub,Int.reduceNeg,Int.reduceMul,Int.reduceToNat,Int.reducePow,Int.reduceLE,Int.reduceLT,Int.reduceEq,Int.reduceNe,reduceIte,reduceCtorEq,ne_eq,not_true_eq_false,not_false_eq_true,imp_self,implies_true,bls,eq_self,h]
    exact hKv _ (decide_eq_true (by omega))
  simp (disch:=first|assumption|omega|(simp only [lens];omega)) only [eqs,↓gvd_succ,↓gvd_zero,↓and_of,im_of,im_of trivial,vlt,hP,hst,initS,Nat.reduceBEq,Nat.reduceAdd,Nat.reduceMul,Nat.reduceSub,Nat.reduceDiv,Nat.reduceMod,Nat.reducePow,Nat.reduceLT,Nat.reduceLeDiff,Nat.reduceEqDiff,Int.reduceAdd,Int.reduceSub,Int.reduceNeg,Int.reduceMul,Int.reduceToNat,Int.reducePow,Int.reduceLE,Int.reduceLT,Int.reduceEq,Int.reduceNe,reduceIte,reduceCtorEq,ne_eq,not_true_eq_false,not_false_eq_true,imp_self,implies_true,bls,eq_self,h]
  refine E_call (hP ▸ s_between) ⟨p, 14, 19, rfl, ?_⟩
  simp (disch:=first|assumption|omega|(simp only [lens];omega)) only [eqs,↓gvd_succ,↓gvd_zero,↓and_of,im_of,im_of trivial,vlt,hP,hst,initS,Nat.reduceBEq,Nat.reduceAdd,Nat.reduceMul,Nat.reduceSub,Nat.reduceDiv,Nat.reduceMod,Nat.reducePow,Nat.reduceLT,Nat.reduceLeDiff,Nat.reduceEqDiff,Int.reduceAdd,Int.reduceSub,Int.reduceNeg,Int.reduceMul,Int.reduceToNat,Int.reducePow,Int.reduceLE,Int.reduceLT,Int.reduceEq,Int.reduceNe,reduceIte,reduceCtorEq,ne_eq,not_true_eq_false,not_false_eq_true,imp_self,implies_true,bls,eq_self]
  refine G_ndec (fun h2 => ?_) (fun h2 => ?_)
  rotate_left
  · simp (disch:=first|assumption|omega|(simp only [lens];omega)) only [eqs,↓gvd_succ,↓gvd_zero,↓and_of,im_of,im_of trivial,vlt,hP,hst,initS,Nat.reduceBEq,Nat.reduceAdd,Nat.reduceMul,Nat.reduceSub,Nat.reduceDiv,Nat.reduceMod,Nat.reducePow,Nat.reduceLT,Nat.reduceLeDiff,Nat.reduceEqDiff,Int.reduceAdd,Int.reduceSub,Int.reduceNeg,Int.reduceMul,Int.reduceToNat,Int.reducePow,Int.reduceLE,Int.reduceLT,Int.reduceEq,Int.reduceNe,reduceIte,reduceCtorEq,ne_eq,not_true_eq_false,not_false_eq_true,imp_self,implies_true,bls,eq_self,h2]
    exact hKv _ (decide_eq_true (by omega))
  simp (disch:=first|assumption|omega|(simp only [lens];omega)) only [eqs,↓gvd_succ,↓gvd_zero,↓and_of,im_of,im_of trivial,vlt,hP,hst,initS,Nat.reduceBEq,Nat.reduceAdd,Nat.reduceMul,Nat.reduceSub,Nat.reduceDiv,Nat.reduceMod,Nat.reducePow,Nat.reduceLT,Nat.reduceLeDiff,Nat.reduceEqDiff,Int.reduceAdd,Int.reduceSub,Int.reduceNeg,Int.reduceMul,Int.reduceToNat,Int.reducePow,Int.reduceLE,Int.reduceLT,Int.reduceEq,Int.reduceNe,reduceIte,reduceCtorEq,ne_eq,not_true_eq_false,not_false_eq_true,imp_self,implies_true,bls,eq_self,h2]
  refine E_call (hP ▸ s_between) ⟨p, 21, 27, rfl, ?_⟩
  simp (disch:=first|assumption|omega|(simp only [lens];omega)) only [eqs,↓gvd_succ,↓gvd_zero,↓and_of,im_of,im_of trivial,vlt,hP,hst,initS,Nat.reduceBEq,Nat.reduceAdd,Nat.reduceMul,Nat.reduceSub,Nat.reduceDiv,Nat.reduceMod,Nat.reducePow,Nat.reduceLT,Nat.reduceLeDiff,Nat.reduceEqDiff,Int.reduceAdd,Int.reduceSub,Int.reduceNeg,Int.reduceMul,Int.reduceToNat,Int.reducePow,Int.reduceLE,Int.reduceLT,Int.reduceEq,Int.reduceNe,reduceIte,reduceCtorEq,ne_eq,not_true_eq_false,not_false_eq_true,imp_self,implies_true,bls,eq_self]
  refine hKv _ ?_
  unfold plainM
  rw [decide_eq_decide]
  omega
def RTold (xs : List AV) (st : St) (K : AV → St → Prop) : Prop := ∃ x z n e, xs = [x, .val (.int .i64 e)] ∧ NZ st x z n ∧ n ≤ 10000 ∧ (e ≠ 0 → tell2 st dNil e K) ∧ (e = 0 → tell2 st (toldM z).1 (toldM z).2 K)
theorem s_told : PSpec Tryz.prog 46 RTold := by
  refine fspec_of (fn := Tryz.f46) 2 [.cell 4 29, .tmp 5] (by kernel_rfl) rfl rfl (by kernel_rfl) mixed (by rintro _ _ _ ⟨x, z, n, e, rfl, _⟩; rfl) ?_
  rintro X _ st K hP hst ⟨x, z, n, e, rfl, hx, hn, hK1, hK0⟩
  have hX : X.st1.length ≤ st.length := by rw [hst]; omega
  have hX1 : X.st1.length ≤ st.length + 1 := by omega
  obtain ⟨a, rfl, ha⟩ := hx.1
  have la := ha.leaf
  have hl := hx.2
  refine vc_V ?_
  simp (disch:=first|assumption|omega|(simp only [lens];omega)) only [eqs,↓gvd_succ,↓gvd_zero,↓and_of,im_of,im_of trivial,vlt,hP,hst,initS,Nat.reduceBEq,Nat.reduceAdd,Nat.reduceMul,Nat.reduceSub,Nat.reduceDiv,Nat.reduceMod,Nat.reducePow,Nat.reduceLT,Nat.reduceLeDiff,Nat.reduceEqDiff,Int.reduceAdd,Int.reduceSub,Int.reduceNeg,Int.reduceMul,Int.reduceToNat,Int.reducePow,Int.reduceLE,Int.reduceLT,Int.reduceEq,Int.reduceNe,reduceIte,reduceCtorEq,ne_eq,not_true_eq_false,not_false_eq_true,imp_self,implies_true,bls,eq_self,la,zD_map]
  refine C_dec (fun h => ?_) (fun h => ?_)
  · simp (disch:=first|assumption|omega|(simp only [lens];omega)) only [eqs,↓gvd_succ,↓gvd_zero,↓and_of,im_of,im_of trivial,vlt,hP,hst,initS,Nat.reduceBEq,Nat.reduceAdd,Nat.reduceMul,Nat.reduceSub,Nat.reduceDiv,Nat.reduceMod,Nat.reducePow,Nat.reduceLT,Nat.reduceLeDiff,Nat.reduceEqDiff,Int.reduceAdd,Int.reduceSub,Int.reduceNeg,Int.reduceMul,Int.reduceToNat,Int.reducePow,Int.reduceLE,Int.reduceLT,Int.reduceEq,Int.reduceNe,reduceIte,reduceCtorEq,ne_eq,not_true_eq_false,not_false_eq_true,imp_self,implies_true,bls,eq_self,zD_map,hX1]
    exact hK1 h _ _ (.add _) (DA0.mk Nm.nil)
  have h := Classical.not_not.1 h
  have hs := (ha.ext (Ext.add [some [.val (.bool (decide (z < 0))), a], some [.val (.int .i64 0), .val (.bool false), .val (.slice none 0 0), .val (.bool false), .val (.string ⟨#[]⟩), .val (.slice none 0 0), .val (.slice none 0 0)]])).sl
  have hK0 := hK0 h
  unfold toldM at hK0
  simp (disch:=first|assumption|omega|(simp only [lens];omega)) only [eqs,↓gvd_succ,↓gvd_zero,↓and_of,im_of,im_of trivial,vlt,hP,hst,initS,Nat.reduceBEq,Nat.reduceAdd,Nat.reduceMul,Nat.reduceSub,Nat.reduceDiv,Nat.reduceMod,Nat.reducePow,Nat.reduceLT,Nat.reduceLeDiff,Nat.reduceEqDiff,Int.reduceAdd,Int.reduceSub,Int.reduceNeg,Int.reduceMul,Int.reduceToNat,Int.reducePow,Int.reduceLE,Int.reduceLT,Int.reduceEq,Int.reduceNe,reduceIte,reduceCtorEq,ne_eq,not_true_eq_false,not_false_eq_true,imp_self,implies_true,bls,eq_self,hs]
  refine C_dec (fun h3 => ?_) (fun h3 => ?_)
  · rw [if_pos (by omega)] at hK0
    simp (disch:=first|assumption|omega|(simp only [lens];omega)) only [eqs,↓gvd_succ,↓gvd_zero,↓and_of,im_of,im_of trivial,vlt,hP,hst,initS,Nat.reduceBEq,Nat.reduceAdd,Nat.reduceMul,Nat.reduceSub,Nat.reduceDiv,Nat.reduceMod,Nat.reducePow,Nat.reduceLT,Nat.reduceLeDiff,Nat.reduceEqDiff,Int.reduceAdd,Int.reduceSub,Int.reduceNeg,Int.reduceMul,Int.reduceToNat,Int.reducePow,Int.reduceLE,Int.reduceLT,Int.reduceEq,Int.reduceNe,reduceIte,reduceCtorEq,ne_eq,not_true_eq_false,not_false_eq_true,imp_self,implies_true,bls,eq_self,zD_map,hX1]
    exact hK0 _ _ (.add _) (DA0.mk Nm.nil)
  · rw [if_neg (by omega)] at hK0
    simp (disch:=first|assumption|omega|(simp only [lens];omega)) only [eqs,↓gvd_succ,↓gvd_zero,↓and_of,im_of,im_of trivial,vlt,hP,hst,initS,Nat.reduceBEq,Nat.reduceAdd,Nat.reduceMul,Nat.reduceSub,Nat.reduceDiv,Nat.reduceMod,Nat.reducePow,Nat.reduceLT,Nat.reduceLeDiff,Nat.reduceEqDiff,Int.reduceAdd,Int.reduceSub,Int.reduceNeg,Int.reduceMul,Int.reduceToNat,Int.reducePow,Int.reduceLE,Int.reduceLT,Int.reduceEq,Int.reduceNe,reduceIte,reduceCtorEq,ne_eq,not_true_eq_false,not_false_eq_true,imp_self,implies_true,bls,eq_self,zD_map,hX1,la]
    exact hK0 _ _ (.add _) (DA0.mk (ha.ext (.add _)))
theorem IsZ.lf {st : St} {s : Bool} {a : AV} {z : Int} {n : Nat} (h : IsZ st (.agg [.val (.bool s), a]) z n) : leaf a = true := by
  obtain ⟨s', l, ⟨a', h1, h2⟩, _⟩ := h
  simp only [AV.agg.injEq, List.cons.injEq, and_true] at h1
  rw [h1.2]
  exact h2.leaf
/-- A variable that holds a whole number. -/
def Wc (st : St) (r : Nat) (z : Int) (n : Nat) : Prop := ∃ s a, At st r [.val (.bool s), a] ∧ IsZ st (.agg [.val (.bool s), a]) z n
/-- One part of a division. -/
def RPart (FQ FR : Int → Int → Int) (which : Bool) (xs : List AV) (st : St) (K : AV → St → Prop) : Prop := ∃ f r q z w n m, xs = [.fn (.func f) [] [], .ptr r 0, .ptr q 0] ∧ PSpec Tryz.prog f (RzQuo FQ FR) ∧ Wc st r z n ∧ Wc st q w m ∧ n ≤ 800 ∧ m ≤ 800 ∧
  (w ≠ 0 → ∀ v S', Ext st S' → NZ S' v (if which then FQ z w else FR z w) (n + m + 2) → K (.tup [v, .val (.int .i64 0)]) S') ∧ (w = 0 → ∀ S', Ext st S' → K (.tup [zeroI, .val (.int .i64 3)]) S')
theorem s_first {FQ FR : Int → Int → Int} : PSpec Tryz.prog 44 (RPart FQ FR true) := by
  refine fspec_of (fn := Tryz.f44) 3 [.cell 4 27, .tmp 5] (by kernel_rfl) rfl rfl (by kernel_rfl) mixed (by rintro _ _ _ ⟨f, r, q, z, w, n, m, rfl, _⟩; rfl) ?_
  rintro X _ st K hP hst ⟨f, r, q, z, w, n, m, rfl, hf, ⟨s, a, hA, hz⟩, ⟨t, b, hB, hw⟩, hn, hm, hK, hK0⟩
  have hX : X.st1.length ≤ st.length := by rw [hst]; omega
  have la := hz.lf
  have lb := hw.lf
  have e1 : Ext st (st ++ [some [.val (.bool false), .val (.slice none 0 0)]]) := .add _
  have gA := (hA.ext e1).get
  have gB := (hB.ext e1).get
  refine vc_V ?_
  simp (disch:=first|assumption|omega|(simp only [lens];omega)) only [eqs,↓gvd_succ,↓gvd_zero,↓and_of,im_of,im_of trivial,vlt,hP,hst,initS,Nat.reduceBEq,Nat.reduceAdd,Nat.reduceMul,Nat.reduceSub,Nat.reduceDiv,Nat.reduceMod,Nat.reducePow,Nat.reduceLT,Nat.reduceLeDiff,Nat.reduceEqDiff,Int.reduceAdd,Int.reduceSub,Int.reduceNeg,Int.reduceMul,Int.reduceToNat,Int.reducePow,Int.reduceLE,Int.reduceLT,Int.reduceEq,Int.reduceNe,reduceIte,reduceCtorEq,ne_eq,not_true_eq_false,not_false_eq_true,imp_self,implies_true,bls,eq_self,gA,gB,la,lb]
  refine E_call (hP ▸ hf) ⟨_, _, z, w, n, m, rfl, hz.ext e1, hw.ext e1, hn, hm, fun h0 u v T hT hu hv => ?_, fun h0 T hT => ?_⟩
  · have gC := At.mk0.ext hT
    obtain ⟨p, rfl, hp⟩ := hu.1
    obtain ⟨o, rfl, ho⟩ := hv.1
    have lp := hp.leaf
    have lo := ho.leaf
    have e2 : Ext st T := e1.trans hT
    have hX1 := Nat.le_trans hX e2.len
    have hX2 : X.st1.length ≤ T.length + 1 := by omega
    have gC0 := gC.get
    have gC1 := gC.lt
    simp (disch:=first|assumption|omega|(simp only [lens];omega)) only [eqs,↓gvd_succ,↓gvd_zero,↓and_of,im_of,im_of trivial,vlt,hP,hst,initS,Nat.reduceBEq,Nat.reduceAdd,Nat.reduceMul,Nat.reduceSub,Nat.reduceDiv,Nat.reduceMod,Nat.reducePow,Nat.reduceLT,Nat.reduceLeDiff,Nat.reduceEqDiff,Int.reduceAdd,Int.reduceSub,Int.reduceNeg,Int.reduceMul,Int.reduceToNat,Int.reducePow,Int.reduceLE,Int.reduceLT,Int.reduceEq,Int.reduceNe,reduceIte,reduceCtorEq,ne_eq,not_true_eq_false,not_false_eq_true,imp_self,implies_true,bls,eq_self,hX,hX1,hX2,lp,lo,gC0,gC1]
    have hne : st.length < T.length + 2 := by omega
    have gD := fun y => gC.gr y
    simp (disch:=first|assumption|omega|(simp only [lens];omega)) only [eqs,↓gvd_succ,↓gvd_zero,↓and_of,im_of,im_of trivial,vlt,hP,hst,initS,Nat.reduceBEq,Nat.reduceAdd,Nat.reduceMul,Nat.reduceSub,Nat.reduceDiv,Nat.reduceMod,Nat.reducePow,Nat.reduceLT,Nat.reduceLeDiff,Nat.reduceEqDiff,Int.reduceAdd,Int.reduceSub,Int.reduceNeg,Int.reduceMul,Int.reduceToNat,Int.reducePow,Int.reduceLE,Int.reduceLT,Int.reduceEq,Int.reduceNe,reduceIte,reduceCtorEq,ne_eq,not_true_eq_false,not_false_eq_true,imp_self,implies_true,bls,eq_self,hX,hX1,hX2,lp,lo,gD,gC1,hne]
    refine hK h0 _ _ ((e2.trans (.add _)).set (Nat.le_refl _) _) ⟨⟨p, rfl, (hp.ext (.add _)).setz (gC.ext (.add _)) no32b⟩, Nat.le_trans hu.2 (by omega)⟩
  · have gC := At.mk0.ext hT
    have e2 : Ext st T := e1.trans hT
    have hX1 := Nat.le_trans hX e2.len
    have hX2 : X.st1.length ≤ T.length + 1 := by omega
    have gC0 := gC.get
    have gC1 := gC.lt
    unfold zeroI
    simp (disch:=first|assumption|omega|(simp only [lens];omega)) only [eqs,↓gvd_succ,↓gvd_zero,↓and_of,im_of,im_of trivial,vlt,hP,hst,initS,Nat.reduceBEq,Nat.reduceAdd,Nat.reduceMul,Nat.reduceSub,Nat.reduceDiv,Nat.reduceMod,Nat.reducePow,Nat.reduceLT,Nat.reduceLeDiff,Nat.reduceEqDiff,Int.reduceAdd,Int.reduceSub,Int.reduceNeg,Int.reduceMul,Int.reduceToNat,Int.reducePow,Int.reduceLE,Int.reduceLT,Int.reduceEq,Int.reduceNe,reduceIte,reduceCtorEq,ne_eq,not_true_eq_false,not_false_eq_true,imp_self,implies_true,bls,eq_self,hX,hX1,hX2,gC0,gC1]
    have hne : st.length < T.length + 2 := by omega
    have gD := fun y => gC.gr y
    simp (disch:=first|assumption|omega|(simp only [lens];omega)) only [eqs,↓gvd_succ,↓gvd_zero,↓and_of,im_of,im_of trivial,vlt,hP,hst,initS,Nat.reduceBEq,Nat.reduceAdd,Nat.reduceMul,Nat.reduceSub,Nat.reduceDiv,Nat.reduceMod,Nat.reducePow,Nat.reduceLT,Nat.reduceLeDiff,Nat.reduceEqDiff,Int.reduceAdd,Int.reduceSub,Int.reduceNeg,Int.reduceMul,Int.reduceToNat,Int.reducePow,Int.reduceLE,Int.reduceLT,Int.reduceEq,Int.reduceNe,reduceIte,reduceCtorEq,ne_eq,not_true_eq_false,not_false_eq_true,imp_self,implies_true,bls,eq_self,hX,hX1,hX2,gD,gC1,hne]
    exact hK0 h0 _ ((e2.trans (.add _)).set (Nat.le_refl _) _)
theorem s_second {FQ FR : Int → Int → Int} : PSpec Tryz.prog 45 (RPart FQ FR false) := by
  refine fspec_of (fn := Tryz.f45) 3 [.cell 4 27, .tmp 5] (by kernel_rfl) rfl rfl (by kernel_rfl) mixed (by rintro _ _ _ ⟨f, r, q, z, w, n, m, rfl, _⟩; rfl) ?_
  rintro X _ st K hP hst ⟨f, r, q, z, w, n, m, rfl, hf, ⟨s, a, hA, hz⟩, ⟨t, b, hB, hw⟩, hn, hm, hK, hK0⟩
  have hX : X.st1.length ≤ st.length := by rw [hst]; omega
  have la := hz.lf
  have lb := hw.lf
  have e1 : Ext st (st ++ [some [.val (.bool false), .val (.slice none 0 0)]]) := .add _
  have gA := (hA.ext e1).get
  have gB := (hB.ext e1).get
  refine vc_V ?_
  simp (disch:=first|assumption|omega|(simp only [lens];omega)) only [eqs,↓gvd_succ,↓gvd_zero,↓and_of,im_of,im_of trivial,vlt,hP,hst,initS,Nat.reduceBEq,Nat.reduceAdd,Nat.reduceMul,Nat.reduceSub,Nat.reduceDiv,Nat.reduceMod,Nat.reducePow,Nat.reduceLT,Nat.reduceLeDiff,Nat.reduceEqDiff,Int.reduceAdd,Int.reduceSub,Int.reduceNeg,Int.reduceMul,Int.reduceToNat,Int.reducePow,Int.reduceLE,Int.reduceLT,Int.reduceEq,Int.reduceNe,reduceIte,reduceCtorEq,ne_eq,not_true_eq_false,not_false_eq_true,imp_self,implies_true,bls,eq_self,gA,gB,la,lb]
  refine E_call (hP ▸ hf) ⟨_, _, z, w, n, m, rfl, hz.ext e1, hw.ext e1, hn, hm, fun h0 u v T hT hu hv => ?_, fun h0 T hT => ?_⟩
  · have gC := At.mk0.ext hT
    obtain ⟨p, rfl, hp⟩ := hu.1
    obtain ⟨o, rfl, ho⟩ := hv.1
    have lp := hp.leaf
    have lo := ho.leaf
    have e2 : Ext st T := e1.trans hT
    have hX1 := Nat.le_trans hX e2.len
    have hX2 : X.st1.length ≤ T.length + 1 := by omega
    have gC0 := gC.get
    have gC1 := gC.lt
    simp (disch:=first|assumption|omega|(simp only [lens];omega)) only [eqs,↓gvd_succ,↓gvd_zero,↓and_of,im_of,im_of trivial,vlt,hP,hst,initS,Nat.reduceBEq,Nat.reduceAdd,Nat.reduceMul,Nat.reduceSub,Nat.reduceDiv,Nat.reduceMod,Nat.reducePow,Nat.reduceLT,Nat.reduceLeDiff,Nat.reduceEqDiff,Int.reduceAdd,Int.reduceSub,Int.reduceNeg,Int.reduceMul,Int.reduceToNat,Int.reducePow,Int.reduceLE,Int.reduceLT,Int.reduceEq,Int.reduceNe,reduceIte,reduceCtorEq,ne_eq,not_true_eq_false,not_false_eq_true,imp_self,implies_true,bls,eq_self,hX,hX1,hX2,lp,lo,gC0,gC1]
    have hne : st.length < T.length + 2 := by omega
    have gD := fun y => gC.gr y
    simp (disch:=first|assumption|omega|(simp only [lens];omega)) only [eqs,↓gvd_succ,↓gvd_zero,↓and_of,im_of,im_of trivial,vlt,hP,hst,initS,Nat.reduceBEq,Nat.reduceAdd,Nat.reduceMul,Nat.reduceSub,Nat.reduceDiv,Nat.reduceMod,Nat.reducePow,Nat.reduceLT,Nat.reduceLeDiff,Nat.reduceEqDiff,Int.reduceAdd,Int.reduceSub,Int.reduceNeg,Int.reduceMul,Int.reduceToNat,Int.reducePow,Int.reduceLE,Int.reduceLT,Int.reduceEq,Int.reduceNe,reduceIte,reduceCtorEq,ne_eq,not_true_eq_false,not_false_eq_true,imp_self,implies_true,bls,eq_self,hX,hX1,hX2,lp,lo,gD,gC1,hne]
    refine hK h0 _ _ ((e2.trans (.add _)).set (Nat.le_refl _) _) ⟨⟨o, rfl, (ho.ext (.add _)).setz (gC.ext (.add _)) no32b⟩, Nat.le_trans hv.2 (by omega)⟩
  · have gC := At.mk0.ext hT
    have e2 : Ext st T := e1.trans hT
    have hX1 := Nat.le_trans hX e2.len
    have hX2 : X.st1.length ≤ T.length + 1 := by omega
    have gC0 := gC.get
    have gC1 := gC.lt
    unfold zeroI
    simp (disch:=first|assumption|omega|(simp only [lens];omega)) only [eqs,↓gvd_succ,↓gvd_zero,↓and_of,im_of,im_of trivial,vlt,hP,hst,initS,Nat.reduceBEq,Nat.reduceAdd,Nat.reduceMul,Nat.reduceSub,Nat.reduceDiv,Nat.reduceMod,Nat.reducePow,Nat.reduceLT,Nat.reduceLeDiff,Nat.reduceEqDiff,Int.reduceAdd,Int.reduceSub,Int.reduceNeg,Int.reduceMul,Int.reduceToNat,Int.reducePow,Int.reduceLE,Int.reduceLT,Int.reduceEq,Int.reduceNe,reduceIte,reduceCtorEq,ne_eq,not_true_eq_false,not_false_eq_true,imp_self,implies_true,bls,eq_self,hX,hX1,hX2,gC0,gC1]
    have hne : st.length < T.length + 2 := by omega
    have gD := fun y => gC.gr y
    simp (disch:=first|assumption|omega|(simp only [lens];omega)) only [eqs,↓gvd_succ,↓gvd_zero,↓and_of,im_of,im_of trivial,vlt,hP,hst,initS,Nat.reduceBEq,Nat.reduceAdd,Nat.reduceMul,Nat.reduceSub,Nat.reduceDiv,Nat.reduceMod,Nat.reducePow,Nat.reduceLT,Nat.reduceLeDiff,Nat.reduceEqDiff,Int.reduceAdd,Int.reduceSub,Int.reduceNeg,Int.reduceMul,Int.reduceToNat,Int.reducePow,Int.reduceLE,Int.reduceLT,Int.reduceEq,Int.reduceNe,reduceIte,reduceCtorEq,ne_eq,not_true_eq_false,not_false_eq_true,imp_self,implies_true,bls,eq_self,hX,hX1,hX2,gD,gC1,hne]
    exact hK0 h0 _ ((e2.trans (.add _)).set (Nat.le_refl _) _)
def RNumbers (xs : List AV) (st : St) (K : AV → St → Prop) : Prop := ∃ p x y z w n m, xs = [.val (.int .i64 p), x, y] ∧ NZ st x z n ∧ NZ st y w m ∧ n ≤ 500 ∧ m ≤ 500 ∧ tell2 st (numM p z w).1 (numM p z w).2 K
theorem s_numbers : PSpec Tryz.prog 18 RNumbers := by
  refine fspec_of (fn := Tryz.f18) 3 [.cell 6 29, .tmp 7] (by kernel_rfl) rfl rfl (by kernel_rfl) mixed (by rintro _ _ _ ⟨p, x, y, z, w, n, m, rfl, _⟩; rfl) ?_
  rintro X _ st K hP hst ⟨p, x, y, z, w, n, m, rfl, hx, hy, hn, hm, hK⟩
  have hX : X.st1.length ≤ st.length := by rw [hst]; omega
  have hX2 : X.st1.length ≤ st.length + 2 := by omega
  have hx1 := hx
  have hy1 := hy
  obtain ⟨a, rfl, ha⟩ := hx.1
  obtain ⟨b, rfl, hb⟩ := hy.1
  have la := ha.leaf
  have lb := hb.leaf
  refine vc_V ?_
  simp (disch:=first|assumption|omega|(simp only [lens];omega)) only [eqs,↓gvd_succ,↓gvd_zero,↓and_of,im_of,im_of trivial,vlt,hP,hst,initS,Nat.reduceBEq,Nat.reduceAdd,Nat.reduceMul,Nat.reduceSub,Nat.reduceDiv,Nat.reduceMod,Nat.reducePow,Nat.reduceLT,Nat.reduceLeDiff,Nat.reduceEqDiff,Int.reduceAdd,Int.reduceSub,Int.reduceNeg,Int.reduceMul,Int.reduceToNat,Int.reducePow,Int.reduceLE,Int.reduceLT,Int.reduceEq,Int.reduceNe,reduceIte,reduceCtorEq,ne_eq,not_true_eq_false,not_false_eq_true,imp_self,implies_true,bls,eq_self,la,lb,zD_map]
  obtain ⟨T0, hT0⟩ : ∃ T, st ++ [some [.val (.bool (decide (z < 0))), a], some [.val (.bool (decide (w < 0))), b], some [.val (.int .i64 0), .val (.bool false), .val (.slice none 0 0), .val (.bool false), .val (.string ⟨#[]⟩), .val (.slice none 0 0), .val (.slice none 0 0)]] = T := ⟨_, rfl⟩
  have gA : At T0 st.length [.val (.bool (decide (z < 0))), a] := hT0 ▸ At.mk0
  have gB : At T0 (st.length + 1) [.val (.bool (decide (w < 0))), b] := hT0 ▸ At.mk1
  have gC : At T0 (st.length + 2) _ := hT0 ▸ At.mk2
  have e0 : Ext st T0 := ⟨_, hT0.symm⟩
  rw [hT0]
  clear hT0
  have gA0 := gA.get
  have gB0 := gB.get
  have zx := hx1.toZ.ext e0
  have zy := hy1.toZ.ext e0
  /- the end -/
  have fin : ∀ (v : AV) (T : St) (e : Int), Ext T0 T → (numM p z w).2 = e → DA0 T v (numM p z w).1 → ∃ c, v = .agg c ∧ c.all leaf = true ∧ c.length = 7 ∧ List.take 7 c = c ∧ K (.tup [.agg c, .val (.int .i64 e)]) (T.set (st.length + 2) (some c)) := by
    rintro v T e hT rfl hv
    obtain ⟨c, hc1, hc2, hc3, hc4, hc5⟩ := hv.da.all
    have hv2 := hv.setz (c' := c) (gC.ext hT) no32
    exact ⟨c, hc1, hc4, hc3, hc5, by rw [← hc1]; exact hK _ _ ((e0.trans hT).set (by omega) _) hv2⟩
  refine C_dec (fun p1 => ?_) (fun p1 => ?_)
  · simp (disch:=first|assumption|omega|(simp only [lens];omega)) only [eqs,↓gvd_succ,↓gvd_zero,↓and_of,im_of,im_of trivial,vlt,hP,hst,initS,Nat.reduceBEq,Nat.reduceAdd,Nat.reduceMul,Nat.reduceSub,Nat.reduceDiv,Nat.reduceMod,Nat.reducePow,Nat.reduceLT,Nat.reduceLeDiff,Nat.reduceEqDiff,Int.reduceAdd,Int.reduceSub,Int.reduceNeg,Int.reduceMul,Int.reduceToNat,Int.reducePow,Int.reduceLE,Int.reduceLT,Int.reduceEq,Int.reduceNe,reduceIte,reduceCtorEq,ne_eq,not_true_eq_false,not_false_eq_true,imp_self,implies_true,bls,eq_self,gA0,gB0]
    refine E_call (hP ▸ z_Add) ⟨_, _, _, _, _, _, rfl, zx, zy, by omega, by omega, fun v T1 hv hvz => ?_⟩
    dsimp only at hvz
    simp (disch:=first|assumption|omega|(simp only [lens];omega)) only [eqs,↓gvd_succ,↓gvd_zero,↓and_of,im_of,im_of trivial,vlt,hP,hst,initS,Nat.reduceBEq,Nat.reduceAdd,Nat.reduceMul,Nat.reduceSub,Nat.reduceDiv,Nat.reduceMod,Nat.reducePow,Nat.reduceLT,Nat.reduceLeDiff,Nat.reduceEqDiff,Int.reduceAdd,Int.reduceSub,Int.reduceNeg,Int.reduceMul,Int.reduceToNat,Int.reducePow,Int.reduceLE,Int.reduceLT,Int.reduceEq,Int.reduceNe,reduceIte,reduceCtorEq,ne_eq,not_true_eq_false,not_false_eq_true,imp_self,implies_true,bls,eq_self]
    refine E_call (hP ▸ s_told) ⟨_, _, _, 0, rfl, hvz, by omega, fun h => absurd rfl h, fun _ v T2 hT2 hv2 => ?_⟩
    have hE : numM p z w = toldM (z + w) := by unfold numM; rw [if_pos (by omega)]
    rw [← hE] at hv2 ⊢
    obtain ⟨c, rfl, hc1, hc2, hc3, hc⟩ := fin v T2 _ (hv.trans hT2) rfl hv2
    have gD := (gC.ext (hv.trans hT2)).get
    have gE := (gC.ext (hv.trans hT2)).lt
    simp (disch:=first|assumption|omega|(simp only [lens];omega)) only [eqs,↓gvd_succ,↓gvd_zero,↓and_of,im_of,im_of trivial,vlt,hP,hst,initS,Nat.reduceBEq,Nat.reduceAdd,Nat.reduceMul,Nat.reduceSub,Nat.reduceDiv,Nat.reduceMod,Nat.reducePow,Nat.reduceLT,Nat.reduceLeDiff,Nat.reduceEqDiff,Int.reduceAdd,Int.reduceSub,Int.reduceNeg,Int.reduceMul,Int.reduceToNat,Int.reducePow,Int.reduceLE,Int.reduceLT,Int.reduceEq,Int.reduceNe,reduceIte,reduceCtorEq,ne_eq,not_true_eq_false,not_false_eq_true,imp_self,implies_true,bls,eq_self,gD,gE,hX2,hc1,hc2,hc3,take7 hc2,List.append_nil,zD7]
    exact hc
  simp (disch:=first|assumption|omega|(simp only [lens];omega)) only [eqs,↓gvd_succ,↓gvd_zero,↓and_of,im_of,im_of trivial,vlt,hP,hst,initS,Nat.reduceBEq,Nat.reduceAdd,Nat.reduceMul,Nat.reduceSub,Nat.reduceDiv,Nat.reduceMod,Nat.reducePow,Nat.reduceLT,Nat.reduceLeDiff,Nat.reduceEqDiff,Int.reduceAdd,Int.reduceSub,Int.reduceNeg,Int.reduceMul,Int.reduceToNat,Int.reducePow,Int.reduceLE,Int.reduceLT,Int.reduceEq,Int.reduceNe,reduceIte,reduceCtorEq,ne_eq,not_true_eq_false,not_false_eq_true,imp_self,implies_true,bls,eq_self]
  refine C_dec (fun p2 => ?_) (fun p2 => ?_)
  · simp (disch:=first|assumption|omega|(simp only [lens];omega)) only [eqs,↓gvd_succ,↓gvd_zero,↓and_of,im_of,im_of trivial,vlt,hP,hst,initS,Nat.reduceBEq,Nat.reduceAdd,Nat.reduceMul,Nat.reduceSub,Nat.reduceDiv,Nat.reduceMod,Nat.reducePow,Nat.reduceLT,Nat.reduceLeDiff,Nat.reduceEqDiff,Int.reduceAdd,Int.reduceSub,Int.reduceNeg,Int.reduceMul,Int.reduceToNat,Int.reducePow,Int.reduceLE,Int.reduceLT,Int.reduceEq,Int.reduceNe,reduceIte,reduceCtorEq,ne_eq,not_true_eq_false,not_false_eq_true,imp_self,implies_true,bls,eq_self,gA0,gB0]
    refine E_call (hP ▸ z_Sub) ⟨_, _, _, _, _, _, rfl, zx, zy, by omega, by omega, fun v T1 hv hvz => ?_⟩
    dsimp only at hvz
    simp (disch:=first|assumption|omega|(simp only [lens];omega)) only [eqs,↓gvd_succ,↓gvd_zero,↓and_of,im_of,im_of trivial,vlt,hP,hst,initS,Nat.reduceBEq,Nat.reduceAdd,Nat.reduceMul,Nat.reduceSub,Nat.reduceDiv,Nat.reduceMod,Nat.reducePow,Nat.reduceLT,Nat.reduceLeDiff,Nat.reduceEqDiff,Int.reduceAdd,Int.reduceSub,Int.reduceNeg,Int.reduceMul,Int.reduceToNat,Int.reducePow,Int.reduceLE,Int.reduceLT,Int.reduceEq,Int.reduceNe,reduceIte,reduceCtorEq,ne_eq,not_true_eq_false,not_false_eq_true,imp_self,implies_true,bls,eq_self]
    refine E_call (hP ▸ s_told) ⟨_, _, _, 0, rfl, hvz, by omega, fun h => absurd rfl h, fun _ v T2 hT2 hv2 => ?_⟩
    have hE : numM p z w = toldM (z - w) := by unfold numM; rw [if_neg (by omega)]; rw [if_pos (by omega)]
    rw [← hE] at hv2 ⊢
    obtain ⟨c, rfl, hc1, hc2, hc3, hc⟩ := fin v T2 _ (hv.trans hT2) rfl hv2
    have gD := (gC.ext (hv.trans hT2)).get
    have gE := (gC.ext (hv.trans hT2)).lt
    simp (disch:=first|assumption|omega|(simp only [lens];omega)) only [eqs,↓gvd_succ,↓gvd_zero,↓and_of,im_of,im_of trivial,vlt,hP,hst,initS,Nat.reduceBEq,Nat.reduceAdd,Nat.reduceMul,Nat.reduceSub,Nat.reduceDiv,Nat.reduceMod,Nat.reducePow,Nat.reduceLT,Nat.reduceLeDiff,Nat.reduceEqDiff,Int.reduceAdd,Int.reduceSub,Int.reduceNeg,Int.reduceMul,Int.reduceToNat,Int.reducePow,Int.reduceLE,Int.reduceLT,Int.reduceEq,Int.reduceNe,reduceIte,reduceCtorEq,ne_eq,not_true_eq_false,not_false_eq_true,imp_self,implies_true,bls,eq_self,gD,gE,hX2,hc1,hc2,hc3,take7 hc2,List.append_nil,zD7]
    exact hc
  simp (disch:=first|assumption|omega|(simp only [lens];omega)) only [eqs,↓gvd_succ,↓gvd_zero,↓and_of,im_of,im_of trivial,vlt,hP,hst,initS,Nat.reduceBEq,Nat.reduceAdd,Nat.reduceMul,Nat.reduceSub,Nat.reduceDiv,Nat.reduceMod,Nat.reducePow,Nat.reduceLT,Nat.reduceLeDiff,Nat.reduceEqDiff,Int.reduceAdd,Int.reduceSub,Int.reduceNeg,Int.reduceMul,Int.reduceToNat,Int.reducePow,Int.reduceLE,Int.reduceLT,Int.reduceEq,Int.reduceNe,reduceIte,reduceCtorEq,ne_eq,not_true_eq_false,not_false_eq_true,imp_self,implies_true,bls,eq_self]
  refine C_dec (fun p3 => ?_) (fun p3 => ?_)
  · simp (disch:=first|assumption|omega|(simp only [lens];omega)) only [eqs,↓gvd_succ,↓gvd_zero,↓and_of,im_of,im_of trivial,vlt,hP,hst,initS,Nat.reduceBEq,Nat.reduceAdd,Nat.reduceMul,Nat.reduceSub,Nat.reduceDiv,Nat.reduceMod,Nat.reducePow,Nat.reduceLT,Nat.reduceLeDiff,Nat.reduceEqDiff,Int.reduceAdd,Int.reduceSub,Int.reduceNeg,Int.reduceMul,Int.reduceToNat,Int.reducePow,Int.reduceLE,Int.reduceLT,Int.reduceEq,Int.reduceNe,reduceIte,reduceCtorEq,ne_eq,not_true_eq_false,not_false_eq_true,imp_self,implies_true,bls,eq_self,gA0,gB0]
    refine E_call (hP ▸ z_Mul) ⟨_, _, _, _, _, _, rfl, zx, zy, by omega, by omega, fun v T1 hv hvz => ?_⟩
    dsimp only at hvz
    simp (disch:=first|assumption|omega|(simp only [lens];omega)) only [eqs,↓gvd_succ,↓gvd_zero,↓and_of,im_of,im_of trivial,vlt,hP,hst,initS,Nat.reduceBEq,Nat.reduceAdd,Nat.reduceMul,Nat.reduceSub,Nat.reduceDiv,Nat.reduceMod,Nat.reducePow,Nat.reduceLT,Nat.reduceLeDiff,Nat.reduceEqDiff,Int.reduceAdd,Int.reduceSub,Int.reduceNeg,Int.reduceMul,Int.reduceToNat,Int.reducePow,Int.reduceLE,Int.reduceLT,Int.reduceEq,Int.reduceNe,reduceIte,reduceCtorEq,ne_eq,not_true_eq_false,not_false_eq_true,imp_self,implies_true,bls,eq_self]
    refine E_call (hP ▸ s_told) ⟨_, _, _, 0, rfl, hvz, by omega, fun h => absurd rfl h, fun _ v T2 hT2 hv2 => ?_⟩
    have hE : numM p z w = toldM (z * w) := by unfold numM; rw [if_neg (by omega)]; rw [if_neg (by omega)]; rw [if_pos (by omega)]
    rw [← hE] at hv2 ⊢
    obtain ⟨c, rfl, hc1, hc2, hc3, hc⟩ := fin v T2 _ (hv.trans hT2) rfl hv2
    have gD := (gC.ext (hv.trans hT2)).get
    have gE := (gC.ext (hv.trans hT2)).lt
    simp (disch:=first|assumption|omega|(simp only [lens];omega)) only [eqs,↓gvd_succ,↓gvd_zero,↓and_of,im_of,im_of trivial,vlt,hP,hst,initS,Nat.reduceBEq,Nat.reduceAdd,Nat.reduceMul,Nat.reduceSub,Nat.reduceDiv,Nat.reduceMod,Nat.reducePow,Nat.reduceLT,Nat.reduceLeDiff,Nat.reduceEqDiff,Int.reduceAdd,Int.reduceSub,Int.reduceNeg,Int.reduceMul,Int.reduceToNat,Int.reducePow,Int.reduceLE,Int.reduceLT,Int.reduceEq,Int.reduceNe,reduceIte,reduceCtorEq,ne_eq,not_true_eq_false,not_false_eq_true,imp_self,implies_true,bls,eq_self,gD,gE,hX2,hc1,hc2,hc3,take7 hc2,List.append_nil,zD7]
    exact hc
  simp (disch:=first|assumption|omega|(simp only [lens];omega)) only [eqs,↓gvd_succ,↓gvd_zero,↓and_of,im_of,im_of trivial,vlt,hP,hst,initS,Nat.reduceBEq,Nat.reduceAdd,Nat.reduceMul,Nat.reduceSub,Nat.reduceDiv,Nat.reduceMod,Nat.reducePow,Nat.reduceLT,Nat.reduceLeDiff,Nat.reduceEqDiff,Int.reduceAdd,Int.reduceSub,Int.reduceNeg,Int.reduceMul,Int.reduceToNat,Int.reducePow,Int.reduceLE,Int.reduceLT,Int.reduceEq,Int.reduceNe,reduceIte,reduceCtorEq,ne_eq,not_true_eq_false,not_false_eq_true,imp_self,implies_true,bls,eq_self]
  refine C_dec (fun p4 => ?_) (fun p4 => ?_)
  · simp (disch:=first|assumption|omega|(simp only [lens];omega)) only [eqs,↓gvd_succ,↓gvd_zero,↓and_of,im_of,im_of trivial,vlt,hP,hst,initS,Nat.reduceBEq,Nat.reduceAdd,Nat.reduceMul,Nat.reduceSub,Nat.reduceDiv,Nat.reduceMod,Nat.reducePow,Nat.reduceLT,Nat.reduceLeDiff,Nat.reduceEqDiff,Int.reduceAdd,Int.reduceSub,Int.reduceNeg,Int.reduceMul,Int.reduceToNat,Int.reducePow,Int.reduceLE,Int.reduceLT,Int.reduceEq,Int.reduceNe,reduceIte,reduceCtorEq,ne_eq,not_true_eq_false,not_false_eq_true,imp_self,implies_true,bls,eq_self]
    refine E_call (hP ▸ s_first) ⟨50, _, _, z, w, n, m, rfl, z_Quo, ⟨_, _, gA, zx⟩, ⟨_, _, gB, zy⟩, by omega, by omega, fun h0 v T1 hv hvz => ?_, fun h0 T1 hv => ?_⟩
    · simp (disch:=first|assumption|omega|(simp only [lens];omega)) only [eqs,↓gvd_succ,↓gvd_zero,↓and_of,im_of,im_of trivial,vlt,hP,hst,initS,Nat.reduceBEq,Nat.reduceAdd,Nat.reduceMul,Nat.reduceSub,Nat.reduceDiv,Nat.reduceMod,Nat.reducePow,Nat.reduceLT,Nat.reduceLeDiff,Nat.reduceEqDiff,Int.reduceAdd,Int.reduceSub,Int.reduceNeg,Int.reduceMul,Int.reduceToNat,Int.reducePow,Int.reduceLE,Int.reduceLT,Int.reduceEq,Int.reduceNe,reduceIte,reduceCtorEq,ne_eq,not_true_eq_false,not_false_eq_true,imp_self,implies_true,bls,eq_self]
      refine E_call (hP ▸ s_told) ⟨_, _, _, 0, rfl, hvz, by omega, fun h => absurd rfl h, fun _ v T2 hT2 hv2 => ?_⟩
      have hE : numM p z w = toldM (z.tdiv w) := by unfold numM; rw [if_neg (by omega)]; rw [if_neg (by omega)]; rw [if_neg (by omega)]; rw [if_pos (by omega), if_neg h0]
      dsimp only [if_true, Bool.false_eq_true, if_false] at hv2 ⊢
      simp only [if_true, Bool.false_eq_true, if_false] at hv2 ⊢
      rw [← hE] at hv2 ⊢
      obtain ⟨c, rfl, hc1, hc2, hc3, hc⟩ := fin v T2 _ (hv.trans hT2) rfl hv2
      have gD := (gC.ext (hv.trans hT2)).get
      have gE := (gC.ext (hv.trans hT2)).lt
      simp (disch:=first|assumption|omega|(simp only [lens];omega)) only [eqs,↓gvd_succ,↓gvd_zero,↓and_of,im_of,im_of trivial,vlt,hP,hst,initS,Nat.reduceBEq,Nat.reduceAdd,Nat.reduceMul,Nat.reduceSub,Nat.reduceDiv,Nat.reduceMod,Nat.reducePow,Nat.reduceLT,Nat.reduceLeDiff,Nat.reduceEqDiff,Int.reduceAdd,Int.reduceSub,Int.reduceNeg,Int.reduceMul,Int.reduceToNat,Int.reducePow,Int.reduceLE,Int.reduceLT,Int.reduceEq,Int.reduceNe,reduceIte,reduceCtorEq,ne_eq,not_true_eq_false,not_false_eq_true,imp_self,implies_true,bls,eq_self,gD,gE,hX2,hc1,hc2,hc3,take7 hc2,List.append_nil,zD7]
      exact hc
    · unfold zeroI
      simp (disch:=first|assumption|omega|(simp only [lens];omega)) only [eqs,↓gvd_succ,↓gvd_zero,↓and_of,im_of,im_of trivial,vlt,hP,hst,initS,Nat.reduceBEq,Nat.reduceAdd,Nat.reduceMul,Nat.reduceSub,Nat.reduceDiv,Nat.reduceMod,Nat.reducePow,Nat.reduceLT,Nat.reduceLeDiff,Nat.reduceEqDiff,Int.reduceAdd,Int.reduceSub,Int.reduceNeg,Int.reduceMul,Int.reduceToNat,Int.reducePow,Int.reduceLE,Int.reduceLT,Int.reduceEq,Int.reduceNe,reduceIte,reduceCtorEq,ne_eq,not_true_eq_false,not_false_eq_true,imp_self,implies_true,bls,eq_self]
      refine E_call (hP ▸ s_told) ⟨_, 0, 0, 3, rfl, nz_zero, by omega, fun _ v T2 hT2 hv2 => ?_, fun h => by omega⟩
      have hE : numM p z w = (dNil, 3) := by unfold numM; rw [if_neg (by omega)]; rw [if_neg (by omega)]; rw [if_neg (by omega)]; rw [if_pos (by omega), if_pos h0]
      obtain ⟨c, rfl, hc1, hc2, hc3, hc⟩ := fin v T2 3 (hv.trans hT2) (by rw [hE]) (by rw [hE]; exact hv2)
      have gD := (gC.ext (hv.trans hT2)).get
      have gE := (gC.ext (hv.trans hT2)).lt
      simp (disch:=first|assumption|omega|(simp only [lens];omega)) only [eqs,↓gvd_succ,↓gvd_zero,↓and_of,im_of,im_of trivial,vlt,hP,hst,initS,Nat.reduceBEq,Nat.reduceAdd,Nat.reduceMul,Nat.reduceSub,Nat.reduceDiv,Nat.reduceMod,Nat.reducePow,Nat.reduceLT,Nat.reduceLeDiff,Nat.reduceEqDiff,Int.reduceAdd,Int.reduceSub,Int.reduceNeg,Int.reduceMul,Int.reduceToNat,Int.reducePow,Int.reduceLE,Int.reduceLT,Int.reduceEq,Int.reduceNe,reduceIte,reduceCtorEq,ne_eq,not_true_eq_false,not_false_eq_true,imp_self,implies_true,bls,eq_self,gD,gE,hX2,hc1,hc2,hc3,take7 hc2,List.append_nil,zD7]
      exact hc
  simp (disch:=first|assumption|omega|(simp only [lens];omega)) only [eqs,↓gvd_succ,↓gvd_zero,↓and_of,im_of,im_of trivial,vlt,hP,hst,initS,Nat.reduceBEq,Nat.reduceAdd,Nat.reduceMul,Nat.reduceSub,Nat.reduceDiv,Nat.reduceMod,Nat.reducePow,Nat.reduceLT,Nat.reduceLeDiff,Nat.reduceEqDiff,Int.reduceAdd,Int.reduceSub,Int.reduceNeg,Int.reduceMul,Int.reduceToNat,Int.reducePow,Int.reduceLE,Int.reduceLT,Int.reduceEq,Int.reduceNe,reduceIte,reduceCtorEq,ne_eq,not_true_eq_false,not_false_eq_true,imp_self,implies_true,bls,eq_self]
  refine C_dec (fun p5 => ?_) (fun p5 => ?_)
  · simp (disch:=first|assumption|omega|(simp only [lens];omega)) only [eqs,↓gvd_succ,↓gvd_zero,↓and_of,im_of,im_of trivial,vlt,hP,hst,initS,Nat.reduceBEq,Nat.reduceAdd,Nat.reduceMul,Nat.reduceSub,Nat.reduceDiv,Nat.reduceMod,Nat.reducePow,Nat.reduceLT,Nat.reduceLeDiff,Nat.reduceEqDiff,Int.reduceAdd,Int.reduceSub,Int.reduceNeg,Int.reduceMul,Int.reduceToNat,Int.reducePow,Int.reduceLE,Int.reduceLT,Int.reduceEq,Int.reduceNe,reduceIte,reduceCtorEq,ne_eq,not_true_eq_false,not_false_eq_true,imp_self,implies_true,bls,eq_self]
    refine E_call (hP ▸ s_second) ⟨50, _, _, z, w, n, m, rfl, z_Quo, ⟨_, _, gA, zx⟩, ⟨_, _, gB, zy⟩, by omega, by omega, fun h0 v T1 hv hvz => ?_, fun h0 T1 hv => ?_⟩
    · simp (disch:=first|assumption|omega|(simp only [lens];omega)) only [eqs,↓gvd_succ,↓gvd_zero,↓and_of,im_of,im_of trivial,vlt,hP,hst,initS,Nat.reduceBEq,Nat.reduceAdd,Nat.reduceMul,Nat.reduceSub,Nat.reduceDiv,Nat.reduceMod,Nat.reducePow,Nat.reduceLT,Nat.reduceLeDiff,Nat.reduceEqDiff,Int.reduceAdd,Int.reduceSub,Int.reduceNeg,Int.reduceMul,Int.reduceToNat,Int.reducePow,Int.reduceLE,Int.reduceLT,Int.reduceEq,Int.reduceNe,reduceIte,reduceCtorEq,ne_eq,not_true_eq_false,not_false_eq_true,imp_self,implies_true,bls,eq_self]
      refine E_call (hP ▸ s_told) ⟨_, _, _, 0, rfl, hvz, by omega, fun h => absurd rfl h, fun _ v T2 hT2 hv2 => ?_⟩
      have hE : numM p z w = toldM (z.tmod w) := by unfold numM; rw [if_neg (by omega)]; rw [if_neg (by omega)]; rw [if_neg (by omega)]; rw [if_neg (by omega)]; rw [if_pos (by omega), if_neg h0]
      dsimp only [if_true, Bool.false_eq_true, if_false] at hv2 ⊢
      simp only [if_true, Bool.false_eq_true, if_false] at hv2 ⊢
      rw [← hE] at hv2 ⊢
      obtain ⟨c, rfl, hc1, hc2, hc3, hc⟩ := fin v T2 _ (hv.trans hT2) rfl hv2
      have gD := (gC.ext (hv.trans hT2)).get
      have gE := (gC.ext (hv.trans hT2)).lt
      simp (disch:=first|assumption|omega|(simp only [lens];omega)) only [eqs,↓gvd_succ,↓gvd_zero,↓and_of,im_of,im_of trivial,vlt,hP,hst,initS,Nat.reduceBEq,Nat.reduceAdd,Nat.reduceMul,Nat.reduceSub,Nat.reduceDiv,Nat.reduceMod,Nat.reducePow,Nat.reduceLT,Nat.reduceLeDiff,Nat.reduceEqDiff,Int.reduceAdd,Int.reduceSub,Int.reduceNeg,Int.reduceMul,Int.reduceToNat,Int.reducePow,Int.reduceLE,Int.reduceLT,Int.reduceEq,Int.reduceNe,reduceIte,reduceCtorEq,ne_eq,not_true_eq_false,not_false_eq_true,imp_self,implies_true,bls,eq_self,gD,gE,hX2,hc1,hc2,hc3,take7 hc2,List.append_nil,zD7]
      exact hc
    · unfold zeroI
      simp (disch:=first|assumption|omega|(simp only [lens];omega)) only [eqs,↓gvd_succ,↓gvd_zero,↓and_of,im_of,im_of trivial,vlt,hP,hst,initS,Nat.reduceBEq,Nat.reduceAdd,Nat.reduceMul,Nat.reduceSub,Nat.reduceDiv,Nat.reduceMod,Nat.reducePow,Nat.reduceLT,Nat.reduceLeDiff,Nat.reduceEqDiff,Int.reduceAdd,Int.reduceSub,Int.reduceNeg,Int.reduceMul,Int.reduceToNat,Int.reducePow,Int.reduceLE,Int.reduceLT,Int.reduceEq,Int.reduceNe,reduceIte,reduceCtorEq,ne_eq,not_true_eq_false,not_false_eq_true,imp_self,implies_true,bls,eq_self]
      refine E_call (hP ▸ s_told) ⟨_, 0, 0, 3, rfl, nz_zero, by omega, fun _ v T2 hT2 hv2 => ?_, fun h => by omega⟩
      have hE : numM p z w = (dNil, 3) := by unfold numM; rw [if_neg (by omega)]; rw [if_neg (by omega)]; rw [if_neg (by omega)]; rw [if_neg (by omega)]; rw [if_pos (by omega), if_pos h0]
      obtain ⟨c, rfl, hc1, hc2, hc3, hc⟩ := fin v T2 3 (hv.trans hT2) (by rw [hE]) (by rw [hE]; exact hv2)
      have gD := (gC.ext (hv.trans hT2)).get
      have gE := (gC.ext (hv.trans hT2)).lt
      simp (disch:=first|assumption|omega|(simp only [lens];omega)) only [eqs,↓gvd_succ,↓gvd_zero,↓and_of,im_of,im_of trivial,vlt,hP,hst,initS,Nat.reduceBEq,Nat.reduceAdd,Nat.reduceMul,Nat.reduceSub,Nat.reduceDiv,Nat.reduceMod,Nat.reducePow,Nat.reduceLT,Nat.reduceLeDiff,Nat.reduceEqDiff,Int.reduceAdd,Int.reduceSub,Int.reduceNeg,Int.reduceMul,Int.reduceToNat,Int.reducePow,Int.reduceLE,Int.reduceLT,Int.reduceEq,Int.reduceNe,reduceIte,reduceCtorEq,ne_eq,not_true_eq_false,not_false_eq_true,imp_self,implies_true,bls,eq_self,gD,gE,hX2,hc1,hc2,hc3,take7 hc2,List.append_nil,zD7]
      exact hc
  simp (disch:=first|assumption|omega|(simp only [lens];omega)) only [eqs,↓gvd_succ,↓gvd_zero,↓and_of,im_of,im_of trivial,vlt,hP,hst,initS,Nat.reduceBEq,Nat.reduceAdd,Nat.reduceMul,Nat.reduceSub,Nat.reduceDiv,Nat.reduceMod,Nat.reducePow,Nat.reduceLT,Nat.reduceLeDiff,Nat.reduceEqDiff,Int.reduceAdd,Int.reduceSub,Int.reduceNeg,Int.reduceMul,Int.reduceToNat,Int.reducePow,Int.reduceLE,Int.reduceLT,Int.reduceEq,Int.reduceNe,reduceIte,reduceCtorEq,ne_eq,not_true_eq_false,not_false_eq_true,imp_self,implies_true,bls,eq_self]
  refine C_dec (fun p6 => ?_) (fun p6 => ?_)
  · simp (disch:=first|assumption|omega|(simp only [lens];omega)) only [eqs,↓gvd_succ,↓gvd_zero,↓and_of,im_of,im_of trivial,vlt,hP,hst,initS,Nat.reduceBEq,Nat.reduceAdd,Nat.reduceMul,Nat.reduceSub,Nat.reduceDiv,Nat.reduceMod,Nat.reducePow,Nat.reduceLT,Nat.reduceLeDiff,Nat.reduceEqDiff,Int.reduceAdd,Int.reduceSub,Int.reduceNeg,Int.reduceMul,Int.reduceToNat,Int.reducePow,Int.reduceLE,Int.reduceLT,Int.reduceEq,Int.reduceNe,reduceIte,reduceCtorEq,ne_eq,not_true_eq_false,not_false_eq_true,imp_self,implies_true,bls,eq_self]
    refine E_call (hP ▸ s_second) ⟨51, _, _, z, w, n, m, rfl, z_Floor, ⟨_, _, gA, zx⟩, ⟨_, _, gB, zy⟩, by omega, by omega, fun h0 v T1 hv hvz => ?_, fun h0 T1 hv => ?_⟩
    · simp (disch:=first|assumption|omega|(simp only [lens];omega)) only [eqs,↓gvd_succ,↓gvd_zero,↓and_of,im_of,im_of trivial,vlt,hP,hst,initS,Nat.reduceBEq,Nat.reduceAdd,Nat.reduceMul,Nat.reduceSub,Nat.reduceDiv,Nat.reduceMod,Nat.reducePow,Nat.reduceLT,Nat.reduceLeDiff,Nat.reduceEqDiff,Int.reduceAdd,Int.reduceSub,Int.reduceNeg,Int.reduceMul,Int.reduceToNat,Int.reducePow,Int.reduceLE,Int.reduceLT,Int.reduceEq,Int.reduceNe,reduceIte,reduceCtorEq,ne_eq,not_true_eq_false,not_false_eq_true,imp_self,implies_true,bls,eq_self]
      refine E_call (hP ▸ s_told) ⟨_, _, _, 0, rfl, hvz, by omega, fun h => absurd rfl h, fun _ v T2 hT2 hv2 => ?_⟩
      have hE : numM p z w = toldM (fr z w) := by unfold numM; rw [if_neg (by omega)]; rw [if_neg (by omega)]; rw [if_neg (by omega)]; rw [if_neg (by omega)]; rw [if_neg (by omega)]; rw [if_pos (by omega), if_neg h0]
      dsimp only [if_true, Bool.false_eq_true, if_false] at hv2 ⊢
      simp only [if_true, Bool.false_eq_true, if_false] at hv2 ⊢
      rw [← hE] at hv2 ⊢
      obtain ⟨c, rfl, hc1, hc2, hc3, hc⟩ := fin v T2 _ (hv.trans hT2) rfl hv2
      have gD := (gC.ext (hv.trans hT2)).get
      have gE := (gC.ext (hv.trans hT2)).lt
      simp (disch:=first|assumption|omega|(simp only [lens];omega)) only [eqs,↓gvd_succ,↓gvd_zero,↓and_of,im_of,im_of trivial,vlt,hP,hst,initS,Nat.reduceBEq,Nat.reduceAdd,Nat.reduceMul,Nat.reduceSub,Nat.reduceDiv,Nat.reduceMod,Nat.reducePow,Nat.reduceLT,Nat.reduceLeDiff,Nat.reduceEqDiff,Int.reduceAdd,Int.reduceSub,Int.reduceNeg,Int.reduceMul,Int.reduceToNat,Int.reducePow,Int.reduceLE,Int.reduceLT,Int.reduceEq,Int.reduceNe,reduceIte,reduceCtorEq,ne_eq,not_true_eq_false,not_false_eq_true,imp_self,implies_true,bls,eq_self,gD,gE,hX2,hc1,hc2,hc3,take7 hc2,List.append_nil,zD7]
      exact hc
    · unfold zeroI
      simp (disch:=first|assumption|omega|(simp only [lens];omega)) only [eqs,↓gvd_succ,↓gvd_zero,↓and_of,im_of,im_of trivial,vlt,hP,hst,initS,Nat.reduceBEq,Nat.reduceAdd,Nat.reduceMul,Nat.reduceSub,Nat.reduceDiv,Nat.reduceMod,Nat.reducePow,Nat.reduceLT,Nat.reduceLeDiff,Nat.reduceEqDiff,Int.reduceAdd,Int.reduceSub,Int.reduceNeg,Int.reduceMul,Int.reduceToNat,Int.reducePow,Int.reduceLE,Int.reduceLT,Int.reduceEq,Int.reduceNe,reduceIte,reduceCtorEq,ne_eq,not_true_eq_false,not_false_eq_true,imp_self,implies_true,bls,eq_self]
      refine E_call (hP ▸ s_told) ⟨_, 0, 0, 3, rfl, nz_zero, by omega, fun _ v T2 hT2 hv2 => ?_, fun h => by omega⟩
      have hE : numM p z w = (dNil, 3) := by unfold numM; rw [if_neg (by omega)]; rw [if_neg (by omega)]; rw [if_neg (by omega)]; rw [if_neg (by omega)]; rw [if_neg (by omega)]; rw [if_pos (by omega), if_pos h0]
      obtain ⟨c, rfl, hc1, hc2, hc3, hc⟩ := fin v T2 3 (hv.trans hT2) (by rw [hE]) (by rw [hE]; exact hv2)
      have gD := (gC.ext (hv.trans hT2)).get
      have gE := (gC.ext (hv.trans hT2)).lt
      simp (disch:=first|assumption|omega|(simp only [lens];omega)) only [eqs,↓gvd_succ,↓gvd_zero,↓and_of,im_of,im_of trivial,vlt,hP,hst,initS,Nat.reduceBEq,Nat.reduceAdd,Nat.reduceMul,Nat.reduceSub,Nat.reduceDiv,Nat.reduceMod,Nat.reducePow,Nat.reduceLT,Nat.reduceLeDiff,Nat.reduceEqDiff,Int.reduceAdd,Int.reduceSub,Int.reduceNeg,Int.reduceMul,Int.reduceToNat,Int.reducePow,Int.reduceLE,Int.reduceLT,Int.reduceEq,Int.reduceNe,reduceIte,reduceCtorEq,ne_eq,not_true_eq_false,not_false_eq_true,imp_self,implies_true,bls,eq_self,gD,gE,hX2,hc1,hc2,hc3,take7 hc2,List.append_nil,zD7]
      exact hc
  simp (disch:=first|assumption|omega|(simp only [lens];omega)) only [eqs,↓gvd_succ,↓gvd_zero,↓and_of,im_of,im_of trivial,vlt,hP,hst,initS,Nat.reduceBEq,Nat.reduceAdd,Nat.reduceMul,Nat.reduceSub,Nat.reduceDiv,Nat.reduceMod,Nat.reducePow,Nat.reduceLT,Nat.reduceLeDiff,Nat.reduceEqDiff,Int.reduceAdd,Int.reduceSub,Int.reduceNeg,Int.reduceMul,Int.reduceToNat,Int.reducePow,Int.reduceLE,Int.reduceLT,Int.reduceEq,Int.reduceNe,reduceIte,reduceCtorEq,ne_eq,not_true_eq_false,not_false_eq_true,imp_self,implies_true,bls,eq_self]
  refine C_dec (fun p7 => ?_) (fun p7 => ?_)
  · simp (disch:=first|assumption|omega|(simp only [lens];omega)) only [eqs,↓gvd_succ,↓gvd_zero,↓and_of,im_of,im_of trivial,vlt,hP,hst,initS,Nat.reduceBEq,Nat.reduceAdd,Nat.reduceMul,Nat.reduceSub,Nat.reduceDiv,Nat.reduceMod,Nat.reducePow,Nat.reduceLT,Nat.reduceLeDiff,Nat.reduceEqDiff,Int.reduceAdd,Int.reduceSub,Int.reduceNeg,Int.reduceMul,Int.reduceToNat,Int.reducePow,Int.reduceLE,Int.reduceLT,Int.reduceEq,Int.reduceNe,reduceIte,reduceCtorEq,ne_eq,not_true_eq_false,not_false_eq_true,imp_self,implies_true,bls,eq_self,gA0,gB0]
    refine E_call (hP ▸ z_Cmp) ⟨_, _, _, _, _, _, rfl, zx, zy, by omega, by omega, fun T1 hv => ?_⟩
    simp (disch:=first|assumption|omega|(simp only [lens];omega)) only [eqs,↓gvd_succ,↓gvd_zero,↓and_of,im_of,im_of trivial,vlt,hP,hst,initS,Nat.reduceBEq,Nat.reduceAdd,Nat.reduceMul,Nat.reduceSub,Nat.reduceDiv,Nat.reduceMod,Nat.reducePow,Nat.reduceLT,Nat.reduceLeDiff,Nat.reduceEqDiff,Int.reduceAdd,Int.reduceSub,Int.reduceNeg,Int.reduceMul,Int.reduceToNat,Int.reducePow,Int.reduceLE,Int.reduceLT,Int.reduceEq,Int.reduceNe,reduceIte,reduceCtorEq,ne_eq,not_true_eq_false,not_false_eq_true,imp_self,implies_true,bls,eq_self,cmp_zero]
    refine E_call (hP ▸ s_Truth) ⟨_, rfl, fun v T2 hT2 hv2 => ?_⟩
    have hE : numM p z w = (dBool (decide (z = w)), 0) := by unfold numM; rw [if_neg (by omega)]; rw [if_neg (by omega)]; rw [if_neg (by omega)]; rw [if_neg (by omega)]; rw [if_neg (by omega)]; rw [if_neg (by omega)]; rw [if_pos (by omega)]
    obtain ⟨c, rfl, hc1, hc2, hc3, hc⟩ := fin v T2 0 (hv.trans hT2) (by rw [hE]) (by rw [hE]; exact hv2)
    have gD := (gC.ext (hv.trans hT2)).get
    have gE := (gC.ext (hv.trans hT2)).lt
    simp (disch:=first|assumption|omega|(simp only [lens];omega)) only [eqs,↓gvd_succ,↓gvd_zero,↓and_of,im_of,im_of trivial,vlt,hP,hst,initS,Nat.reduceBEq,Nat.reduceAdd,Nat.reduceMul,Nat.reduceSub,Nat.reduceDiv,Nat.reduceMod,Nat.reducePow,Nat.reduceLT,Nat.reduceLeDiff,Nat.reduceEqDiff,Int.reduceAdd,Int.reduceSub,Int.reduceNeg,Int.reduceMul,Int.reduceToNat,Int.reducePow,Int.reduceLE,Int.reduceLT,Int.reduceEq,Int.reduceNe,reduceIte,reduceCtorEq,ne_eq,not_true_eq_false,not_false_eq_true,imp_self,implies_true,bls,eq_self,gD,gE,hX2,hc1,hc2,hc3,take7 hc2,List.append_nil,zD7]
    exact hc
  simp (disch:=first|assumption|omega|(simp only [lens];omega)) only [eqs,↓gvd_succ,↓gvd_zero,↓and_of,im_of,im_of trivial,vlt,hP,hst,initS,Nat.reduceBEq,Nat.reduceAdd,Nat.reduceMul,Nat.reduceSub,Nat.reduceDiv,Nat.reduceMod,Nat.reducePow,Nat.reduceLT,Nat.reduceLeDiff,Nat.reduceEqDiff,Int.reduceAdd,Int.reduceSub,Int.reduceNeg,Int.reduceMul,Int.reduceToNat,Int.reducePow,Int.reduceLE,Int.reduceLT,Int.reduceEq,Int.reduceNe,reduceIte,reduceCtorEq,ne_eq,not_true_eq_false,not_false_eq_true,imp_self,implies_true,bls,eq_self,gA0,gB0]
  refine E_call (hP ▸ z_Cmp) ⟨_, _, _, _, _, _, rfl, zx, zy, by omega, by omega, fun T1 hv => ?_⟩
  simp (disch:=first|assumption|omega|(simp only [lens];omega)) only [eqs,↓gvd_succ,↓gvd_zero,↓and_of,im_of,im_of trivial,vlt,hP,hst,initS,Nat.reduceBEq,Nat.reduceAdd,Nat.reduceMul,Nat.reduceSub,Nat.reduceDiv,Nat.reduceMod,Nat.reducePow,Nat.reduceLT,Nat.reduceLeDiff,Nat.reduceEqDiff,Int.reduceAdd,Int.reduceSub,Int.reduceNeg,Int.reduceMul,Int.reduceToNat,Int.reducePow,Int.reduceLE,Int.reduceLT,Int.reduceEq,Int.reduceNe,reduceIte,reduceCtorEq,ne_eq,not_true_eq_false,not_false_eq_true,imp_self,implies_true,bls,eq_self,cmp_neg]
  refine E_call (hP ▸ s_Truth) ⟨_, rfl, fun v T2 hT2 hv2 => ?_⟩
  have hE : numM p z w = (dBool (decide (z < w)), 0) := by unfold numM; rw [if_neg (by omega)]; rw [if_neg (by omega)]; rw [if_neg (by omega)]; rw [if_neg (by omega)]; rw [if_neg (by omega)]; rw [if_neg (by omega)]; rw [if_neg (by omega)]
  obtain ⟨c, rfl, hc1, hc2, hc3, hc⟩ := fin v T2 0 (hv.trans hT2) (by rw [hE]) (by rw [hE]; exact hv2)
  have gD := (gC.ext (hv.trans hT2)).get
  have gE := (gC.ext (hv.trans hT2)).lt
  simp (disch:=first|assumption|omega|(simp only [lens];omega)) only [eqs,↓gvd_succ,↓gvd_zero,↓and_of,im_of,im_of trivial,vlt,hP,hst,initS,Nat.reduceBEq,Nat.reduceAdd,Nat.reduceMul,Nat.reduceSub,Nat.reduceDiv,Nat.reduceMod,Nat.reducePow,Nat.reduceLT,Nat.reduceLeDiff,Nat.reduceEqDiff,Int.reduceAdd,Int.reduceSub,Int.reduceNeg,Int.reduceMul,Int.reduceToNat,Int.reducePow,Int.reduceLE,Int.reduceLT,Int.reduceEq,Int.reduceNe,reduceIte,reduceCtorEq,ne_eq,not_true_eq_false,not_false_eq_true,imp_self,implies_true,bls,eq_self,gD,gE,hX2,hc1,hc2,hc3,take7 hc2,List.append_nil,zD7]
  exact hc
end Go.Proofs.Pv

/- Primitives of texts; each primitive. -/
namespace Go.Proofs.Pv
open Go Go.RowKit Go.Proofs
set_option maxRecDepth 20000

def sumT (l : List Dt) : Nat := (l.map fun d => d.tx.size).sum
def textsM (p : Int) (l : List Dt) : Dt × Int :=
  if (∀ d ∈ l, d.kd = 4) then
    if p = 23 then (dNum (sumT l : Nat), 0) else if p = 25 then (dBool (decide (l.head?.map Dt.tx = (l.drop 1).head?.map Dt.tx)), 0) else if 1024 < sumT l then (dNil, 12) else (dStr (((l.head?.map Dt.tx).getD ⟨#[]⟩) ++ (((l.drop 1).head?.map Dt.tx).getD ⟨#[]⟩)), 0)
  else (dNil, 6)
def RTexts (xs : List AV) (st : St) (K : AV → St → Prop) : Prop := ∃ (p : Int) (y : AV) (ds : List Dt), xs = [.val (.int .i64 p), y] ∧ DS st y ds ∧ ((p = 23 ∧ ds.length = 1) ∨ (p ≠ 23 ∧ ds.length = 2)) ∧ (∀ d ∈ ds, d.tx.size ≤ 140737488355328) ∧ tell2 st (textsM p ds).1 (textsM p ds).2 K
theorem sumT_take {l : List Dt} {i : Nat} {d : Dt} (h : l[i]? = some d) : sumT (l.take (i + 1)) = sumT (l.take i) + d.tx.size := by
  unfold sumT
  rw [take_succ' h]
  simp
theorem sumT_le {l : List Dt} (h : ∀ d ∈ l, d.tx.size ≤ 140737488355328) : sumT l ≤ l.length * 140737488355328 := by
  unfold sumT
  induction l with
  | nil => simp
  | cons d l ih =>
    have h1 := h d (by simp)
    have h2 := ih fun e he => h e (by simp [he])
    simp only [List.map_cons, List.sum_cons, List.length_cons]
    omega
set_option maxHeartbeats 1000000 in
theorem s_texts : PSpec Tryz.prog 28 RTexts := by
  refine fspec_of (fn := Tryz.f28) 2 [.cell 4 29, .tmp 5] (by kernel_rfl) rfl rfl (by kernel_rfl) mixed (by rintro _ _ _ ⟨p, y, ds, rfl, _⟩; rfl) ?_
  rintro X _ st K hP hst ⟨p, y, ds, rfl, hy, hp, hsz, hK⟩
  have hX : X.st1.length ≤ st.length := by rw [hst]; omega
  have hlen : ds.length ≤ 2 := by omega
  refine vc_V ?_
  simp (disch:=first|assumption|omega|(simp only [lens];omega)) only [eqs,↓gvd_succ,↓gvd_zero,↓and_of,im_of,im_of trivial,vlt,hP,hst,initS,Nat.reduceBEq,Nat.reduceAdd,Nat.reduceMul,Nat.reduceSub,Nat.reduceDiv,Nat.reduceMod,Nat.reducePow,Nat.reduceLT,Nat.reduceLeDiff,Nat.reduceEqDiff,Int.reduceAdd,Int.reduceSub,Int.reduceNeg,Int.reduceMul,Int.reduceToNat,Int.reducePow,Int.reduceLE,Int.reduceLT,Int.reduceEq,Int.reduceNe,reduceIte,reduceCtorEq,ne_eq,not_true_eq_false,not_false_eq_true,imp_self,implies_true,bls,eq_self,zD_map]
  obtain ⟨T0, hT0⟩ : ∃ T, st ++ [some [.val (.int .i64 0), .val (.bool false), .val (.slice none 0 0), .val (.bool false), .val (.string ⟨#[]⟩), .val (.slice none 0 0), .val (.slice none 0 0)]] = T := ⟨_, rfl⟩
  have gC : At T0 st.length _ := hT0 ▸ At.mk0
  have e0 : Ext st T0 := ⟨_, hT0.symm⟩
  rw [hT0]
  clear hT0
  have fin : ∀ (v : AV) (T : St) (e : Int), Ext T0 T → (textsM p ds).2 = e → DA0 T v (textsM p ds).1 → ∃ c, v = .agg c ∧ c.all leaf = true ∧ c.length = 7 ∧ List.take 7 c = c ∧ K (.tup [.agg c, .val (.int .i64 e)]) (T.set st.length (some c)) := by
    rintro v T e hT rfl hv
    obtain ⟨c, hc1, hc2, hc3, hc4, hc5⟩ := hv.da.all
    have hv2 := hv.setz (c' := c) (gC.ext hT) no32
    exact ⟨c, hc1, hc4, hc3, hc5, by rw [← hc1]; exact hK _ _ ((e0.trans hT).set (Nat.le_refl _) _) hv2⟩
  obtain ⟨cs, hsl, _, _⟩ := (hy.ext e0).inv
  simp (disch:=first|assumption|omega|(simp only [lens];omega)) only [eqs,↓gvd_succ,↓gvd_zero,↓and_of,im_of,im_of trivial,vlt,hP,hst,initS,Nat.reduceBEq,Nat.reduceAdd,Nat.reduceMul,Nat.reduceSub,Nat.reduceDiv,Nat.reduceMod,Nat.reducePow,Nat.reduceLT,Nat.reduceLeDiff,Nat.reduceEqDiff,Int.reduceAdd,Int.reduceSub,Int.reduceNeg,Int.reduceMul,Int.reduceToNat,Int.reducePow,Int.reduceLE,Int.reduceLT,Int.reduceEq,Int.reduceNe,reduceIte,reduceCtorEq,ne_eq,not_true_eq_false,not_false_eq_true,imp_self,implies_true,bls,eq_self,hsl]
  refine V_loop (ι := Nat × St) (fun e => [(11, .val (.int .i64 (e.1 : Int))), (10, .val (.int .i64 (ds.length : Int))), (9, y), (1, y), (0, .val (.int .i64 p)), (4, .ptr st.length 0), (6, .val (.int .i64 (sumT (ds.take e.1) : Nat)))]) (fun e => e.2)
    (fun e => Ext T0 e.2 ∧ e.1 ≤ ds.length ∧ ∀ (j : Nat) d, j < e.1 → ds[j]? = some d → d.kd = 4) (fun e => ds.length - e.1) (0, T0) ⟨.refl, by simp, by simp⟩ rfl (by simp (disch:=first|assumption|omega|(simp only [lens];omega)) only [eqs,↓gvd_succ,↓gvd_zero,↓and_of,im_of,im_of trivial,vlt,hP,hst,initS,Nat.reduceBEq,Nat.reduceAdd,Nat.reduceMul,Nat.reduceSub,Nat.reduceDiv,Nat.reduceMod,Nat.reducePow,Nat.reduceLT,Nat.reduceLeDiff,Nat.reduceEqDiff,Int.reduceAdd,Int.reduceSub,Int.reduceNeg,Int.reduceMul,Int.reduceToNat,Int.reducePow,Int.reduceLE,Int.reduceLT,Int.reduceEq,Int.reduceNe,reduceIte,reduceCtorEq,ne_eq,not_true_eq_false,not_false_eq_true,imp_self,implies_true,bls,eq_self,List.take_zero,sumT,List.map_nil,List.sum_nil] <;> rfl) ?_
  rintro ⟨i, T⟩ ⟨hT, hi, hj⟩
  dsimp only at hT hi hj ⊢
  simp (disch:=first|assumption|omega|(simp only [lens];omega)) only [eqs,↓gvd_succ,↓gvd_zero,↓and_of,im_of,im_of trivial,vlt,hP,hst,initS,Nat.reduceBEq,Nat.reduceAdd,Nat.reduceMul,Nat.reduceSub,Nat.reduceDiv,Nat.reduceMod,Nat.reducePow,Nat.reduceLT,Nat.reduceLeDiff,Nat.reduceEqDiff,Int.reduceAdd,Int.reduceSub,Int.reduceNeg,Int.reduceMul,Int.reduceToNat,Int.reducePow,Int.reduceLE,Int.reduceLT,Int.reduceEq,Int.reduceNe,reduceIte,reduceCtorEq,ne_eq,not_true_eq_false,not_false_eq_true,imp_self,implies_true,bls,eq_self]
  refine C_dec (fun h => ?_) (fun h => ?_)
  · obtain ⟨cs, c, d, hsl, hcl, hc, hc7, hca, he, hec, hb1, hb2⟩ := (hy.ext (e0.trans hT)).at (i := i) (by omega)
    have hdm := List.mem_of_getElem? he
    have hXl := Nat.le_trans hX (e0.trans hT).len
    have hs1 := sumT_take he
    have hs2 := sumT_le (l := ds.take (i + 1)) (fun d hd => hsz d (List.mem_of_mem_take hd))
    have hs3 : (ds.take (i + 1)).length ≤ 2 := by rw [List.length_take]; omega
    have hs4 : sumT (ds.take (i + 1)) ≤ 2 * 140737488355328 := Nat.le_trans hs2 (Nat.mul_le_mul_right _ hs3)
    cases hec with
    | @mk k g a l b s x z its tls ha hx hz =>
    simp (disch:=first|assumption|omega|(simp only [lens];omega)) only [eqs,↓gvd_succ,↓gvd_zero,↓and_of,im_of,im_of trivial,vlt,hP,hst,initS,Nat.reduceBEq,Nat.reduceAdd,Nat.reduceMul,Nat.reduceSub,Nat.reduceDiv,Nat.reduceMod,Nat.reducePow,Nat.reduceLT,Nat.reduceLeDiff,Nat.reduceEqDiff,Int.reduceAdd,Int.reduceSub,Int.reduceNeg,Int.reduceMul,Int.reduceToNat,Int.reducePow,Int.reduceLE,Int.reduceLT,Int.reduceEq,Int.reduceNe,reduceIte,reduceCtorEq,ne_eq,not_true_eq_false,not_false_eq_true,imp_self,implies_true,bls,eq_self,hsl,hcl,hc,hca,zD_map,hXl,hb1,hb2]
    have gD := (gC.ext (hT.trans (.add [some [.val (.int .i64 k), .val (.bool g), a, .val (.bool b), .val (.string s), x, z]]))).get
    have gE := (gC.ext (hT.trans (.add [some [.val (.int .i64 k), .val (.bool g), a, .val (.bool b), .val (.string s), x, z]]))).lt
    refine C_dec (fun h2 => ?_) (fun h2 => ?_)
    · have hE : textsM p ds = (dNil, 6) := if_neg fun h3 => h2 (h3 _ hdm)
      simp (disch:=first|assumption|omega|(simp only [lens];omega)) only [eqs,↓gvd_succ,↓gvd_zero,↓and_of,im_of,im_of trivial,vlt,hP,hst,initS,Nat.reduceBEq,Nat.reduceAdd,Nat.reduceMul,Nat.reduceSub,Nat.reduceDiv,Nat.reduceMod,Nat.reducePow,Nat.reduceLT,Nat.reduceLeDiff,Nat.reduceEqDiff,Int.reduceAdd,Int.reduceSub,Int.reduceNeg,Int.reduceMul,Int.reduceToNat,Int.reducePow,Int.reduceLE,Int.reduceLT,Int.reduceEq,Int.reduceNe,reduceIte,reduceCtorEq,ne_eq,not_true_eq_false,not_false_eq_true,imp_self,implies_true,bls,eq_self,gD,gE,hX,zD_map]
      rw [hE] at hK
      exact hK _ _ (((e0.trans hT).trans (.add _)).set (Nat.le_refl _) _) (DA0.mk Nm.nil)
    · have h2 := Classical.not_not.1 h2
      have hs5 : sumT (ds.take (i + 1)) = sumT (ds.take i) + (sb s).length := by rw [sb_length]; exact hs1
      simp (disch:=first|assumption|omega|(simp only [lens];omega)) only [eqs,↓gvd_succ,↓gvd_zero,↓and_of,im_of,im_of trivial,vlt,hP,hst,initS,Nat.reduceBEq,Nat.reduceAdd,Nat.reduceMul,Nat.reduceSub,Nat.reduceDiv,Nat.reduceMod,Nat.reducePow,Nat.reduceLT,Nat.reduceLeDiff,Nat.reduceEqDiff,Int.reduceAdd,Int.reduceSub,Int.reduceNeg,Int.reduceMul,Int.reduceToNat,Int.reducePow,Int.reduceLE,Int.reduceLT,Int.reduceEq,Int.reduceNe,reduceIte,reduceCtorEq,ne_eq,not_true_eq_false,not_false_eq_true,imp_self,implies_true,bls,eq_self]
      refine again (i + 1, _) ⟨hT.trans (.add _), by dsimp only; omega, fun j d' hj2 hd => ?_⟩ (by dsimp only; omega) rfl (by dsimp only; simp (disch:=first|assumption|omega|(simp only [lens];omega)) only [eqs,↓gvd_succ,↓gvd_zero,↓and_of,im_of,im_of trivial,vlt,hP,hst,initS,Nat.reduceBEq,Nat.reduceAdd,Nat.reduceMul,Nat.reduceSub,Nat.reduceDiv,Nat.reduceMod,Nat.reducePow,Nat.reduceLT,Nat.reduceLeDiff,Nat.reduceEqDiff,Int.reduceAdd,Int.reduceSub,Int.reduceNeg,Int.reduceMul,Int.reduceToNat,Int.reducePow,Int.reduceLE,Int.reduceLT,Int.reduceEq,Int.reduceNe,reduceIte,reduceCtorEq,ne_eq,not_true_eq_false,not_false_eq_true,imp_self,implies_true,bls,eq_self,hs5,Int.natCast_add] <;> rfl)
      by_cases hji : j = i
      · subst hji
        rw [he] at hd; cases hd
        exact h2
      · exact hj j d' (by dsimp only at hj2; omega) hd
  · have hi2 : i = ds.length := by omega
    subst hi2
    rw [List.take_length]
    have hall : ∀ d ∈ ds, d.kd = 4 := fun d hd => by
      obtain ⟨j, hjd⟩ := List.mem_iff_getElem?.1 hd
      exact hj j d (List.getElem?_eq_some_iff.1 hjd).1 hjd
    have hs2 := sumT_le hsz
    have hs4 : sumT ds ≤ 2 * 140737488355328 := Nat.le_trans hs2 (Nat.mul_le_mul_right _ hlen)
    simp (disch:=first|assumption|omega|(simp only [lens];omega)) only [eqs,↓gvd_succ,↓gvd_zero,↓and_of,im_of,im_of trivial,vlt,hP,hst,initS,Nat.reduceBEq,Nat.reduceAdd,Nat.reduceMul,Nat.reduceSub,Nat.reduceDiv,Nat.reduceMod,Nat.reducePow,Nat.reduceLT,Nat.reduceLeDiff,Nat.reduceEqDiff,Int.reduceAdd,Int.reduceSub,Int.reduceNeg,Int.reduceMul,Int.reduceToNat,Int.reducePow,Int.reduceLE,Int.reduceLT,Int.reduceEq,Int.reduceNe,reduceIte,reduceCtorEq,ne_eq,not_true_eq_false,not_false_eq_true,imp_self,implies_true,bls,eq_self]
    refine C_dec (fun h2 => ?_) (fun h2 => ?_)
    · simp (disch:=first|assumption|omega|(simp only [lens];omega)) only [eqs,↓gvd_succ,↓gvd_zero,↓and_of,im_of,im_of trivial,vlt,hP,hst,initS,Nat.reduceBEq,Nat.reduceAdd,Nat.reduceMul,Nat.reduceSub,Nat.reduceDiv,Nat.reduceMod,Nat.reducePow,Nat.reduceLT,Nat.reduceLeDiff,Nat.reduceEqDiff,Int.reduceAdd,Int.reduceSub,Int.reduceNeg,Int.reduceMul,Int.reduceToNat,Int.reducePow,Int.reduceLE,Int.reduceLT,Int.reduceEq,Int.reduceNe,reduceIte,reduceCtorEq,ne_eq,not_true_eq_false,not_false_eq_true,imp_self,implies_true,bls,eq_self]
      refine E_call (hP ▸ s_NumberD) ⟨_, rfl, by omega, by omega, fun v T2 hT2 hv2 => ?_⟩
      have hE : textsM p ds = (dNum (sumT ds : Nat), 0) := by unfold textsM; rw [if_pos hall, if_pos h2]
      obtain ⟨c, rfl, hc1, hc2, hc3, hc⟩ := fin v T2 0 (hT.trans hT2) (by rw [hE]) (by rw [hE]; exact hv2)
      have gD := (gC.ext (hT.trans hT2)).get
      have gE := (gC.ext (hT.trans hT2)).lt
      simp (disch:=first|assumption|omega|(simp only [lens];omega)) only [eqs,↓gvd_succ,↓gvd_zero,↓and_of,im_of,im_of trivial,vlt,hP,hst,initS,Nat.reduceBEq,Nat.reduceAdd,Nat.reduceMul,Nat.reduceSub,Nat.reduceDiv,Nat.reduceMod,Nat.reducePow,Nat.reduceLT,Nat.reduceLeDiff,Nat.reduceEqDiff,Int.reduceAdd,Int.reduceSub,Int.reduceNeg,Int.reduceMul,Int.reduceToNat,Int.reducePow,Int.reduceLE,Int.reduceLT,Int.reduceEq,Int.reduceNe,reduceIte,reduceCtorEq,ne_eq,not_true_eq_false,not_false_eq_true,imp_self,implies_true,bls,eq_self,gD,gE,hX,hc1,hc2,hc3,take7 hc2,List.append_nil,zD7]
      exact hc
    obtain ⟨d0, d1, rfl⟩ : ∃ d0 d1, ds = [d0, d1] := by
      match ds, hp with
      | [d0, d1], _ => exact ⟨d0, d1, rfl⟩
      | [], hp => simp at hp
      | [_], hp => simp at hp; omega
      | _ :: _ :: _ :: _, hp => simp at hp
    obtain ⟨k0, g0, a0, l0, b0, s0, x0, z0, its0, tls0, k1, g1, a1, l1, b1, s1, x1, z1, its1, tls1, rfl, rfl, hs, _⟩ := (hy.ext (e0.trans hT)).two2
    simp (disch:=first|assumption|omega|(simp only [lens];omega)) only [eqs,↓gvd_succ,↓gvd_zero,↓and_of,im_of,im_of trivial,vlt,hP,hst,initS,Nat.reduceBEq,Nat.reduceAdd,Nat.reduceMul,Nat.reduceSub,Nat.reduceDiv,Nat.reduceMod,Nat.reducePow,Nat.reduceLT,Nat.reduceLeDiff,Nat.reduceEqDiff,Int.reduceAdd,Int.reduceSub,Int.reduceNeg,Int.reduceMul,Int.reduceToNat,Int.reducePow,Int.reduceLE,Int.reduceLT,Int.reduceEq,Int.reduceNe,reduceIte,reduceCtorEq,ne_eq,not_true_eq_false,not_false_eq_true,imp_self,implies_true,bls,eq_self]
    refine C_dec (fun h3 => ?_) (fun h3 => ?_)
    · simp (disch:=first|assumption|omega|(simp only [lens];omega)) only [eqs,↓gvd_succ,↓gvd_zero,↓and_of,im_of,im_of trivial,vlt,hP,hst,initS,Nat.reduceBEq,Nat.reduceAdd,Nat.reduceMul,Nat.reduceSub,Nat.reduceDiv,Nat.reduceMod,Nat.reducePow,Nat.reduceLT,Nat.reduceLeDiff,Nat.reduceEqDiff,Int.reduceAdd,Int.reduceSub,Int.reduceNeg,Int.reduceMul,Int.reduceToNat,Int.reducePow,Int.reduceLE,Int.reduceLT,Int.reduceEq,Int.reduceNe,reduceIte,reduceCtorEq,ne_eq,not_true_eq_false,not_false_eq_true,imp_self,implies_true,bls,eq_self]
      refine V_draw [0, 1, 2, 3, 4, 5, 6, 7, 8, 9, 10, 11] (by kernel_rfl) (.cons rfl <| .cons rfl <| .cons rfl <| .cons rfl <| .cons rfl <| .cons rfl <| .cons rfl <| .cons rfl <| .cons rfl <| .cons rfl <| .cons rfl <| .cons rfl <| .nil) ?_
      simp (disch:=first|assumption|omega|(simp only [lens];omega)) only [eqs,↓gvd_succ,↓gvd_zero,↓and_of,im_of,im_of trivial,vlt,hP,hst,initS,Nat.reduceBEq,Nat.reduceAdd,Nat.reduceMul,Nat.reduceSub,Nat.reduceDiv,Nat.reduceMod,Nat.reducePow,Nat.reduceLT,Nat.reduceLeDiff,Nat.reduceEqDiff,Int.reduceAdd,Int.reduceSub,Int.reduceNeg,Int.reduceMul,Int.reduceToNat,Int.reducePow,Int.reduceLE,Int.reduceLT,Int.reduceEq,Int.reduceNe,reduceIte,reduceCtorEq,ne_eq,not_true_eq_false,not_false_eq_true,imp_self,implies_true,bls,eq_self,hs,str_eq2]
      refine E_call (hP ▸ s_Truth) ⟨_, rfl, fun v T2 hT2 hv2 => ?_⟩
      have hE : textsM p [.mk k0 g0 l0 b0 s0 its0 tls0, .mk k1 g1 l1 b1 s1 its1 tls1] = (dBool (decide (s0 = s1)), 0) := by unfold textsM; rw [if_pos hall, if_neg h2, if_pos h3]; simp [Dt.tx]
      obtain ⟨c, rfl, hc1, hc2, hc3, hc⟩ := fin v T2 0 (hT.trans hT2) (by rw [hE]) (by rw [hE]; exact hv2)
      have gD := (gC.ext (hT.trans hT2)).get
      have gE := (gC.ext (hT.trans hT2)).lt
      simp (disch:=first|assumption|omega|(simp only [lens];omega)) only [eqs,↓gvd_succ,↓gvd_zero,↓and_of,im_of,im_of trivial,vlt,hP,hst,initS,Nat.reduceBEq,Nat.reduceAdd,Nat.reduceMul,Nat.reduceSub,Nat.reduceDiv,Nat.reduceMod,Nat.reducePow,Nat.reduceLT,Nat.reduceLeDiff,Nat.reduceEqDiff,Int.reduceAdd,Int.reduceSub,Int.reduceNeg,Int.reduceMul,Int.reduceToNat,Int.reducePow,Int.reduceLE,Int.reduceLT,Int.reduceEq,Int.reduceNe,reduceIte,reduceCtorEq,ne_eq,not_true_eq_false,not_false_eq_true,imp_self,implies_true,bls,eq_self,gD,gE,hX,hc1,hc2,hc3,take7 hc2,List.append_nil,zD7]
      exact hc
    simp (disch:=first|assumption|omega|(simp only [lens];omega)) only [eqs,↓gvd_succ,↓gvd_zero,↓and_of,im_of,im_of trivial,vlt,hP,hst,initS,Nat.reduceBEq,Nat.reduceAdd,Nat.reduceMul,Nat.reduceSub,Nat.reduceDiv,Nat.reduceMod,Nat.reducePow,Nat.reduceLT,Nat.reduceLeDiff,Nat.reduceEqDiff,Int.reduceAdd,Int.reduceSub,Int.reduceNeg,Int.reduceMul,Int.reduceToNat,Int.reducePow,Int.reduceLE,Int.reduceLT,Int.reduceEq,Int.reduceNe,reduceIte,reduceCtorEq,ne_eq,not_true_eq_false,not_false_eq_true,imp_self,implies_true,bls,eq_self]
    refine C_dec (fun h4 => ?_) (fun h4 => ?_)
    · have gD := (gC.ext hT).get
      have gE := (gC.ext hT).lt
      have hE : textsM p [.mk k0 g0 l0 b0 s0 its0 tls0, .mk k1 g1 l1 b1 s1 its1 tls1] = (dNil, 12) := by unfold textsM; rw [if_pos hall, if_neg h2, if_neg h3, if_pos (by omega)]
      simp (disch:=first|assumption|omega|(simp only [lens];omega)) only [eqs,↓gvd_succ,↓gvd_zero,↓and_of,im_of,im_of trivial,vlt,hP,hst,initS,Nat.reduceBEq,Nat.reduceAdd,Nat.reduceMul,Nat.reduceSub,Nat.reduceDiv,Nat.reduceMod,Nat.reducePow,Nat.reduceLT,Nat.reduceLeDiff,Nat.reduceEqDiff,Int.reduceAdd,Int.reduceSub,Int.reduceNeg,Int.reduceMul,Int.reduceToNat,Int.reducePow,Int.reduceLE,Int.reduceLT,Int.reduceEq,Int.reduceNe,reduceIte,reduceCtorEq,ne_eq,not_true_eq_false,not_false_eq_true,imp_self,implies_true,bls,eq_self,gD,gE,hX,zD_map]
      rw [hE] at hK
      exact hK _ _ ((e0.trans hT).set (Nat.le_refl _) _) (DA0.mk Nm.nil)
    · have hb1 : s0.size + s1.size ≤ 9223372036854775807 := by
        have q1 := hsz (.mk k0 g0 l0 b0 s0 its0 tls0) (by simp)
        have q2 := hsz (.mk k1 g1 l1 b1 s1 its1 tls1) (by simp)
        simp only [Dt.tx] at q1 q2
        omega
      simp (disch:=first|assumption|omega|(simp only [lens];omega)) only [eqs,↓gvd_succ,↓gvd_zero,↓and_of,im_of,im_of trivial,vlt,hP,hst,initS,Nat.reduceBEq,Nat.reduceAdd,Nat.reduceMul,Nat.reduceSub,Nat.reduceDiv,Nat.reduceMod,Nat.reducePow,Nat.reduceLT,Nat.reduceLeDiff,Nat.reduceEqDiff,Int.reduceAdd,Int.reduceSub,Int.reduceNeg,Int.reduceMul,Int.reduceToNat,Int.reducePow,Int.reduceLE,Int.reduceLT,Int.reduceEq,Int.reduceNe,reduceIte,reduceCtorEq,ne_eq,not_true_eq_false,not_false_eq_true,imp_self,implies_true,bls,eq_self]
      refine V_draw [0, 1, 2, 3, 4, 5, 6, 7, 8, 9, 10, 11] (by kernel_rfl) (.cons rfl <| .cons rfl <| .cons rfl <| .cons rfl <| .cons rfl <| .cons rfl <| .cons rfl <| .cons rfl <| .cons rfl <| .cons rfl <| .cons rfl <| .cons rfl <| .nil) ?_
      simp (disch:=first|assumption|omega|(simp only [lens];omega)) only [eqs,↓gvd_succ,↓gvd_zero,↓and_of,im_of,im_of trivial,vlt,hP,hst,initS,Nat.reduceBEq,Nat.reduceAdd,Nat.reduceMul,Nat.reduceSub,Nat.reduceDiv,Nat.reduceMod,Nat.reducePow,Nat.reduceLT,Nat.reduceLeDiff,Nat.reduceEqDiff,Int.reduceAdd,Int.reduceSub,Int.reduceNeg,Int.reduceMul,Int.reduceToNat,Int.reducePow,Int.reduceLE,Int.reduceLT,Int.reduceEq,Int.reduceNe,reduceIte,reduceCtorEq,ne_eq,not_true_eq_false,not_false_eq_true,imp_self,implies_true,bls,eq_self,hs,hb1]
      refine E_call (hP ▸ s_TextD) ⟨_, rfl, fun v T2 hT2 hv2 => ?_⟩
      have hE : textsM p [.mk k0 g0 l0 b0 s0 its0 tls0, .mk k1 g1 l1 b1 s1 its1 tls1] = (dStr (s0 ++ s1), 0) := by unfold textsM; rw [if_pos hall, if_neg h2, if_neg h3, if_neg (by omega)]; simp [Dt.tx]
      obtain ⟨c, rfl, hc1, hc2, hc3, hc⟩ := fin v T2 0 (hT.trans hT2) (by rw [hE]) (by rw [hE]; exact hv2)
      have gD := (gC.ext (hT.trans hT2)).get
      have gE := (gC.ext (hT.trans hT2)).lt
      simp (disch:=first|assumption|omega|(simp only [lens];omega)) only [eqs,↓gvd_succ,↓gvd_zero,↓and_of,im_of,im_of trivial,vlt,hP,hst,initS,Nat.reduceBEq,Nat.reduceAdd,Nat.reduceMul,Nat.reduceSub,Nat.reduceDiv,Nat.reduceMod,Nat.reducePow,Nat.reduceLT,Nat.reduceLeDiff,Nat.reduceEqDiff,Int.reduceAdd,Int.reduceSub,Int.reduceNeg,Int.reduceMul,Int.reduceToNat,Int.reducePow,Int.reduceLE,Int.reduceLT,Int.reduceEq,Int.reduceNe,reduceIte,reduceCtorEq,ne_eq,not_true_eq_false,not_false_eq_true,imp_self,implies_true,bls,eq_self,gD,gE,hX,hc1,hc2,hc3,take7 hc2,List.append_nil,zD7]
      exact hc
end Go.Proofs.Pv

/- Each primitive. -/
namespace Go.Proofs.Pv
open Go Go.RowKit Go.Proofs
set_option maxRecDepth 20000

def doK (p : Int) (d : Dt) (r : List Dt) : Dt × Int :=
  if p = 14 then (dBool (decide (d.kd = 5 ∧ d.its.length = 0)), 0) else if p = 15 then (dBool (decide (d.kd = 5 ∧ d.its.length ≠ 0)), 0) else
  if p = 16 then (dBool (decide (d.kd = 1)), 0) else if p = 17 then (dBool (decide (d.kd = 3)), 0) else if p = 18 then (dBool (decide (d.kd = 4)), 0) else if p = 19 then (dBool (decide (d.kd = 2)), 0) else
  if p = 21 then (match r with | e :: _ => (dBool (eqM d e), 0) | [] => (dNil, 8)) else if p = 22 then (dBool (!trM d), 0) else
  if p = 26 then (if d.kd = 3 then (dStr d.tx, 0) else (dNil, 6)) else if p = 27 then (if d.kd = 1 then (dStr (bstr (txtI d.iv)), 0) else (dNil, 6)) else textsM p (d :: r)
def doL (p : Int) : List Dt → Dt × Int
  | [] => (dNil, 8)
  | d :: r => if p ≤ 8 then (match r with | e :: _ => if d.kd = 1 ∧ e.kd = 1 then numM p d.iv e.iv else (dNil, 6) | [] => (dNil, 8)) else doK p d r
theorem doL_le {p : Int} (h : p ≤ 8) {d e : Dt} : doL p [d, e] = if d.kd = 1 ∧ e.kd = 1 then numM p d.iv e.iv else (dNil, 6) := if_pos h
theorem doL_gt {p : Int} (h : ¬p ≤ 8) {d : Dt} {r : List Dt} : doL p (d :: r) = doK p d r := if_neg h
def doM (p : Int) (l : List Dt) : Dt × Int := if plainM p = false then (dNil, 2) else if (l.length : Int) ≠ arM p then (dNil, 8) else doL p l
/-- What a primitive may be handed. -/
def fineD (d : Dt) : Prop := d.fit ∧ d.few ∧ d.lm.length ≤ 400 ∧ d.tx.size ≤ 140737488355328
theorem arM_all : ∀ i < 38, (arM (i + 1 : Nat) = 0 ∨ arM (i + 1 : Nat) = 1 ∨ arM (i + 1 : Nat) = 2) ∧ (i < 8 → arM (i + 1 : Nat) = 2) ∧ ((i + 1 = 21 ∨ i + 1 = 24 ∨ i + 1 = 25) → arM (i + 1 : Nat) = 2) ∧ ((14 ≤ i + 1 ∧ i + 1 ≤ 19 ∨ i + 1 = 22 ∨ i + 1 = 23 ∨ i + 1 = 26 ∨ i + 1 = 27) → arM (i + 1 : Nat) = 1) := by decide +kernel
theorem arM_2 {p : Int} (h : 1 ≤ p ∧ p ≤ 8 ∨ p = 21 ∨ p = 24 ∨ p = 25) : arM p = 2 := by
  obtain ⟨i, rfl⟩ : ∃ i : Nat, p = (i + 1 : Nat) := ⟨(p - 1).toNat, by omega⟩
  have := arM_all i (by omega)
  rcases h with h | h
  · exact this.2.1 (by omega)
  · exact this.2.2.1 (by omega)
theorem arM_1 {p : Int} (h : 14 ≤ p ∧ p ≤ 19 ∨ p = 22 ∨ p = 23 ∨ p = 26 ∨ p = 27) : arM p = 1 := by
  obtain ⟨i, rfl⟩ : ∃ i : Nat, p = (i + 1 : Nat) := ⟨(p - 1).toNat, by omega⟩
  exact (arM_all i (by omega)).2.2.2 (by omega)

def RStrF (F : Dt → ByteArray) (xs : List AV) (st : St) (K : AV → St → Prop) : Prop := ∃ x d, xs = [x] ∧ DA st x d ∧ d.lm.length ≤ 1000 ∧ anyw st (.string (F d)) K
theorem s_Do2 : PSpec Tryz.prog 25 (RStrF Dt.tx) := by
  refine fspec_of (fn := Tryz.f25) 1 [.tmp 2] (by kernel_rfl) rfl rfl (by kernel_rfl) mixed (by rintro _ _ _ ⟨x, d, rfl, _⟩; rfl) ?_
  rintro X _ st K hP hst ⟨x, d, rfl, hx, hl, hK⟩
  obtain ⟨k, g, a, l, b, s, x, y, its, tls, rfl, rfl, ha, hx, hz⟩ := hx.inv
  have la := ha.leaf
  have lx := hx.leaf
  have ly := hz.leaf
  refine vc_V ?_
  simp (disch:=first|assumption|omega|(simp only [lens];omega)) only [eqs,↓gvd_succ,↓gvd_zero,↓and_of,im_of,im_of trivial,vlt,hP,hst,initS,Nat.reduceBEq,Nat.reduceAdd,Nat.reduceMul,Nat.reduceSub,Nat.reduceDiv,Nat.reduceMod,Nat.reducePow,Nat.reduceLT,Nat.reduceLeDiff,Nat.reduceEqDiff,Int.reduceAdd,Int.reduceSub,Int.reduceNeg,Int.reduceMul,Int.reduceToNat,Int.reducePow,Int.reduceLE,Int.reduceLT,Int.reduceEq,Int.reduceNe,reduceIte,reduceCtorEq,ne_eq,not_true_eq_false,not_false_eq_true,imp_self,implies_true,bls,eq_self,la,lx,ly]
  exact hK _ (.add _)
theorem s_Do3 : PSpec Tryz.prog 26 (RStrF fun d => bstr (txtI d.iv)) := by
  refine fspec_of (fn := Tryz.f26) 1 [.tmp 2] (by kernel_rfl) rfl rfl (by kernel_rfl) mixed (by rintro _ _ _ ⟨x, d, rfl, _⟩; rfl) ?_
  rintro X _ st K hP hst ⟨x, d, rfl, hx, hl, hK⟩
  obtain ⟨k, g, a, l, b, s, x, y, its, tls, rfl, rfl, ha, hx, hz⟩ := hx.inv
  have la := ha.leaf
  have lx := hx.leaf
  have ly := hz.leaf
  refine vc_V ?_
  simp (disch:=first|assumption|omega|(simp only [lens];omega)) only [eqs,↓gvd_succ,↓gvd_zero,↓and_of,im_of,im_of trivial,vlt,hP,hst,initS,Nat.reduceBEq,Nat.reduceAdd,Nat.reduceMul,Nat.reduceSub,Nat.reduceDiv,Nat.reduceMod,Nat.reducePow,Nat.reduceLT,Nat.reduceLeDiff,Nat.reduceEqDiff,Int.reduceAdd,Int.reduceSub,Int.reduceNeg,Int.reduceMul,Int.reduceToNat,Int.reducePow,Int.reduceLE,Int.reduceLT,Int.reduceEq,Int.reduceNe,reduceIte,reduceCtorEq,ne_eq,not_true_eq_false,not_false_eq_true,imp_self,implies_true,bls,eq_self,la,lx,ly]
  refine E_call (hP ▸ s_wText) ⟨_, g, l, rfl, ⟨a, rfl, ha.ext (.add _)⟩, hl, fun T hT => ?_⟩
  simp (disch:=first|assumption|omega|(simp only [lens];omega)) only [eqs,↓gvd_succ,↓gvd_zero,↓and_of,im_of,im_of trivial,vlt,hP,hst,initS,Nat.reduceBEq,Nat.reduceAdd,Nat.reduceMul,Nat.reduceSub,Nat.reduceDiv,Nat.reduceMod,Nat.reducePow,Nat.reduceLT,Nat.reduceLeDiff,Nat.reduceEqDiff,Int.reduceAdd,Int.reduceSub,Int.reduceNeg,Int.reduceMul,Int.reduceToNat,Int.reducePow,Int.reduceLE,Int.reduceLT,Int.reduceEq,Int.reduceNe,reduceIte,reduceCtorEq,ne_eq,not_true_eq_false,not_false_eq_true,imp_self,implies_true,bls,eq_self]
  exact hK _ ((Ext.add _).trans hT)
def RText1 (xs : List AV) (st : St) (K : AV → St → Prop) : Prop := ∃ x d k f F, xs = [x, .val (.int .i64 k), .fn (.func f) [] []] ∧ DA st x d ∧ d.lm.length ≤ 1000 ∧ PSpec Tryz.prog f (RStrF F) ∧ (d.kd ≠ k → tell2 st dNil 6 K) ∧ (d.kd = k → tell2 st (dStr (F d)) 0 K)
theorem s_text1 : PSpec Tryz.prog 24 RText1 := by
  refine fspec_of (fn := Tryz.f24) 3 [.cell 6 29, .tmp 7] (by kernel_rfl) rfl rfl (by kernel_rfl) mixed (by rintro _ _ _ ⟨x, d, k, f, F, rfl, _⟩; rfl) ?_
  rintro X _ st K hP hst ⟨x, d, kk, f, F, rfl, hx, hl, hf, hK0, hK1⟩
  have hX : X.st1.length ≤ st.length + 1 := by rw [hst]; omega
  have hx1 := hx
  obtain ⟨k, g, a, l, b, s, x, y, its, tls, rfl, rfl, ha, hx, hz⟩ := hx.inv
  have la := ha.leaf
  have lx := hx.leaf
  have ly := hz.leaf
  refine vc_V ?_
  simp (disch:=first|assumption|omega|(simp only [lens];omega)) only [eqs,↓gvd_succ,↓gvd_zero,↓and_of,im_of,im_of trivial,vlt,hP,hst,initS,Nat.reduceBEq,Nat.reduceAdd,Nat.reduceMul,Nat.reduceSub,Nat.reduceDiv,Nat.reduceMod,Nat.reducePow,Nat.reduceLT,Nat.reduceLeDiff,Nat.reduceEqDiff,Int.reduceAdd,Int.reduceSub,Int.reduceNeg,Int.reduceMul,Int.reduceToNat,Int.reducePow,Int.reduceLE,Int.reduceLT,Int.reduceEq,Int.reduceNe,reduceIte,reduceCtorEq,ne_eq,not_true_eq_false,not_false_eq_true,imp_self,implies_true,bls,eq_self,la,lx,ly,zD_map]
  refine C_dec (fun h => ?_) (fun h => ?_)
  · simp (disch:=first|assumption|omega|(simp only [lens];omega)) only [eqs,↓gvd_succ,↓gvd_zero,↓and_of,im_of,im_of trivial,vlt,hP,hst,initS,Nat.reduceBEq,Nat.reduceAdd,Nat.reduceMul,Nat.reduceSub,Nat.reduceDiv,Nat.reduceMod,Nat.reducePow,Nat.reduceLT,Nat.reduceLeDiff,Nat.reduceEqDiff,Int.reduceAdd,Int.reduceSub,Int.reduceNeg,Int.reduceMul,Int.reduceToNat,Int.reducePow,Int.reduceLE,Int.reduceLT,Int.reduceEq,Int.reduceNe,reduceIte,reduceCtorEq,ne_eq,not_true_eq_false,not_false_eq_true,imp_self,implies_true,bls,eq_self,hX,zD_map]
    exact hK0 h _ _ (.add _) (DA0.mk Nm.nil)
  · simp (disch:=first|assumption|omega|(simp only [lens];omega)) only [eqs,↓gvd_succ,↓gvd_zero,↓and_of,im_of,im_of trivial,vlt,hP,hst,initS,Nat.reduceBEq,Nat.reduceAdd,Nat.reduceMul,Nat.reduceSub,Nat.reduceDiv,Nat.reduceMod,Nat.reducePow,Nat.reduceLT,Nat.reduceLeDiff,Nat.reduceEqDiff,Int.reduceAdd,Int.reduceSub,Int.reduceNeg,Int.reduceMul,Int.reduceToNat,Int.reducePow,Int.reduceLE,Int.reduceLT,Int.reduceEq,Int.reduceNe,reduceIte,reduceCtorEq,ne_eq,not_true_eq_false,not_false_eq_true,imp_self,implies_true,bls,eq_self,zD_map]
    refine E_call (hP ▸ hf) ⟨_, _, rfl, hx1.ext (.add _), hl, fun T hT => ?_⟩
    have gC := At.mk1.ext hT
    simp (disch:=first|assumption|omega|(simp only [lens];omega)) only [eqs,↓gvd_succ,↓gvd_zero,↓and_of,im_of,im_of trivial,vlt,hP,hst,initS,Nat.reduceBEq,Nat.reduceAdd,Nat.reduceMul,Nat.reduceSub,Nat.reduceDiv,Nat.reduceMod,Nat.reducePow,Nat.reduceLT,Nat.reduceLeDiff,Nat.reduceEqDiff,Int.reduceAdd,Int.reduceSub,Int.reduceNeg,Int.reduceMul,Int.reduceToNat,Int.reducePow,Int.reduceLE,Int.reduceLT,Int.reduceEq,Int.reduceNe,reduceIte,reduceCtorEq,ne_eq,not_true_eq_false,not_false_eq_true,imp_self,implies_true,bls,eq_self]
    refine E_call (hP ▸ s_TextD) ⟨_, rfl, fun v T2 hT2 hv2 => ?_⟩
    have gD := (gC.ext hT2).get
    have gE := (gC.ext hT2).lt
    obtain ⟨c, rfl, _, hc2, hc1, hc3⟩ := hv2.da.all
    have hv3 := hv2.setz (c' := c) (gC.ext hT2) no32
    simp (disch:=first|assumption|omega|(simp only [lens];omega)) only [eqs,↓gvd_succ,↓gvd_zero,↓and_of,im_of,im_of trivial,vlt,hP,hst,initS,Nat.reduceBEq,Nat.reduceAdd,Nat.reduceMul,Nat.reduceSub,Nat.reduceDiv,Nat.reduceMod,Nat.reducePow,Nat.reduceLT,Nat.reduceLeDiff,Nat.reduceEqDiff,Int.reduceAdd,Int.reduceSub,Int.reduceNeg,Int.reduceMul,Int.reduceToNat,Int.reducePow,Int.reduceLE,Int.reduceLT,Int.reduceEq,Int.reduceNe,reduceIte,reduceCtorEq,ne_eq,not_true_eq_false,not_false_eq_true,imp_self,implies_true,bls,eq_self,gD,gE,hX,hc1,hc2,hc3,take7 hc2,List.append_nil,zD7]
    exact hK1 (Classical.not_not.1 h) _ _ ((((Ext.add _).trans hT).trans hT2).set (by omega) _) hv3
def RKinds (xs : List AV) (st : St) (K : AV → St → Prop) : Prop := ∃ (k j : Int) (r : Nat) (c : List AV), xs = [.val (.int .i64 k), .ptr r 0] ∧ At st r (.val (.int .i64 j) :: c) ∧ tell2 st (dBool (decide (j = k))) 0 K
theorem s_Do1 : PSpec Tryz.prog 20 RKinds := by
  refine fspec_of (fn := Tryz.f20) 2 [.cell 3 29, .tmp 4] (by kernel_rfl) rfl rfl (by kernel_rfl) mixed (by rintro _ _ _ ⟨k, j, r, c, rfl, _⟩; rfl) ?_
  rintro X _ st K hP hst ⟨k, j, r, c, rfl, hA, hK⟩
  have hX : X.st1.length ≤ st.length := by rw [hst]; omega
  have gA := fun y => hA.gr y
  refine vc_V ?_
  simp (disch:=first|assumption|omega|(simp only [lens];omega)) only [eqs,↓gvd_succ,↓gvd_zero,↓and_of,im_of,im_of trivial,vlt,hP,hst,initS,Nat.reduceBEq,Nat.reduceAdd,Nat.reduceMul,Nat.reduceSub,Nat.reduceDiv,Nat.reduceMod,Nat.reducePow,Nat.reduceLT,Nat.reduceLeDiff,Nat.reduceEqDiff,Int.reduceAdd,Int.reduceSub,Int.reduceNeg,Int.reduceMul,Int.reduceToNat,Int.reducePow,Int.reduceLE,Int.reduceLT,Int.reduceEq,Int.reduceNe,reduceIte,reduceCtorEq,ne_eq,not_true_eq_false,not_false_eq_true,imp_self,implies_true,bls,eq_self,zD_map,gA]
  refine E_call (hP ▸ s_Truth) ⟨_, rfl, fun v T2 hT2 hv2 => ?_⟩
  have gC := At.mk0.ext hT2
  have gD := gC.get
  have gE := gC.lt
  obtain ⟨c, rfl, _, hc2, hc1, hc3⟩ := hv2.da.all
  have hv3 := hv2.setz (c' := c) gC no32
  simp (disch:=first|assumption|omega|(simp only [lens];omega)) only [eqs,↓gvd_succ,↓gvd_zero,↓and_of,im_of,im_of trivial,vlt,hP,hst,initS,Nat.reduceBEq,Nat.reduceAdd,Nat.reduceMul,Nat.reduceSub,Nat.reduceDiv,Nat.reduceMod,Nat.reducePow,Nat.reduceLT,Nat.reduceLeDiff,Nat.reduceEqDiff,Int.reduceAdd,Int.reduceSub,Int.reduceNeg,Int.reduceMul,Int.reduceToNat,Int.reducePow,Int.reduceLE,Int.reduceLT,Int.reduceEq,Int.reduceNe,reduceIte,reduceCtorEq,ne_eq,not_true_eq_false,not_false_eq_true,imp_self,implies_true,bls,eq_self,gD,gE,hX,hc1,hc2,hc3,take7 hc2,List.append_nil,zD7]
  exact hK _ _ (((Ext.add _).trans hT2).set (Nat.le_refl _) _) hv3
def RDo (xs : List AV) (st : St) (K : AV → St → Prop) : Prop := ∃ (p : Int) (y : AV) (ds : List Dt), xs = [.val (.int .i64 p), y] ∧ DS st y ds ∧ ds.length ≤ 1000 ∧ (∀ d ∈ ds, fineD d) ∧ tell2 st (doM p ds).1 (doM p ds).2 K
set_option maxHeartbeats 4000000 in
theorem s_Do : ∀ w0, GP w0 → PSpecAt Tryz.prog w0 6 RDo := by
  refine gspec_of (fn := Tryz.f6) 2 [.cell 4 29, .tmp 5] (by kernel_rfl) rfl rfl (by kernel_rfl) mixed (by rintro _ _ _ ⟨p, y, ds, rfl, _⟩; rfl) ?_
  rintro X _ st K hP hst hG ⟨p, y, ds, rfl, hy, hlen, hok, hK⟩
  have hX : X.st1.length ≤ st.length := by rw [hst]; omega
  refine vc_V ?_
  simp (disch:=first|assumption|omega|(simp only [lens];omega)) only [eqs,↓gvd_succ,↓gvd_zero,↓and_of,im_of,im_of trivial,vlt,hP,hst,initS,Nat.reduceBEq,Nat.reduceAdd,Nat.reduceMul,Nat.reduceSub,Nat.reduceDiv,Nat.reduceMod,Nat.reducePow,Nat.reduceLT,Nat.reduceLeDiff,Nat.reduceEqDiff,Int.reduceAdd,Int.reduceSub,Int.reduceNeg,Int.reduceMul,Int.reduceToNat,Int.reducePow,Int.reduceLE,Int.reduceLT,Int.reduceEq,Int.reduceNe,reduceIte,reduceCtorEq,ne_eq,not_true_eq_false,not_false_eq_true,imp_self,implies_true,bls,eq_self,zD_map]
  obtain ⟨T0, hT0⟩ : ∃ T, st ++ [some [.val (.int .i64 0), .val (.bool false), .val (.slice none 0 0), .val (.bool false), .val (.string ⟨#[]⟩), .val (.slice none 0 0), .val (.slice none 0 0)]] = T := ⟨_, rfl⟩
  have gC : At T0 st.length _ := hT0 ▸ At.mk0
  have e0 : Ext st T0 := ⟨_, hT0.symm⟩
  rw [hT0]
  clear hT0
  have fin : ∀ (v : AV) (T : St) (e : Int), Ext T0 T → (doM p ds).2 = e → DA0 T v (doM p ds).1 → ∃ c, v = .agg c ∧ c.all leaf = true ∧ c.length = 7 ∧ List.take 7 c = c ∧ K (.tup [.agg c, .val (.int .i64 e)]) (T.set st.length (some c)) := by
    rintro v T e hT rfl hv
    obtain ⟨c, hc1, hc2, hc3, hc4, hc5⟩ := hv.da.all
    have hv2 := hv.setz (c' := c) (gC.ext hT) no32
    exact ⟨c, hc1, hc4, hc3, hc5, by rw [← hc1]; exact hK _ _ ((e0.trans hT).set (Nat.le_refl _) _) hv2⟩
  have bad : ∀ (T : St) (e : Int), Ext T0 T → doM p ds = (dNil, e) → K (.tup [.agg [.val (.int .i64 0), .val (.bool false), .val (.slice none 0 0), .val (.bool false), .val (.string ⟨#[]⟩), .val (.slice none 0 0), .val (.slice none 0 0)], .val (.int .i64 e)]) (T.set st.length (some [.val (.int .i64 0), .val (.bool false), .val (.slice none 0 0), .val (.bool false), .val (.string ⟨#[]⟩), .val (.slice none 0 0), .val (.slice none 0 0)])) := fun T e hT hE => by
    rw [hE] at hK
    exact hK _ _ ((e0.trans hT).set (Nat.le_refl _) _) (DA0.mk Nm.nil)
  refine E_call (hP ▸ s_Plain) ⟨p, rfl, ?_⟩
  simp (disch:=first|assumption|omega|(simp only [lens];omega)) only [eqs,↓gvd_succ,↓gvd_zero,↓and_of,im_of,im_of trivial,vlt,hP,hst,initS,Nat.reduceBEq,Nat.reduceAdd,Nat.reduceMul,Nat.reduceSub,Nat.reduceDiv,Nat.reduceMod,Nat.reducePow,Nat.reduceLT,Nat.reduceLeDiff,Nat.reduceEqDiff,Int.reduceAdd,Int.reduceSub,Int.reduceNeg,Int.reduceMul,Int.reduceToNat,Int.reducePow,Int.reduceLE,Int.reduceLT,Int.reduceEq,Int.reduceNe,reduceIte,reduceCtorEq,ne_eq,not_true_eq_false,not_false_eq_true,imp_self,implies_true,bls,eq_self]
  have gC0 := gC.get
  have gC1 := gC.lt
  refine C_bool (fun h => ?_) (fun h => ?_)
  · simp (disch:=first|assumption|omega|(simp only [lens];omega)) only [eqs,↓gvd_succ,↓gvd_zero,↓and_of,im_of,im_of trivial,vlt,hP,hst,initS,Nat.reduceBEq,Nat.reduceAdd,Nat.reduceMul,Nat.reduceSub,Nat.reduceDiv,Nat.reduceMod,Nat.reducePow,Nat.reduceLT,Nat.reduceLeDiff,Nat.reduceEqDiff,Int.reduceAdd,Int.reduceSub,Int.reduceNeg,Int.reduceMul,Int.reduceToNat,Int.reducePow,Int.reduceLE,Int.reduceLT,Int.reduceEq,Int.reduceNe,reduceIte,reduceCtorEq,ne_eq,not_true_eq_false,not_false_eq_true,imp_self,implies_true,bls,eq_self,gC0,gC1,hX,zD_map,zD7]
    exact bad T0 2 .refl (if_pos (by simpa using h))
  have hpl : plainM p = true := by simpa using h
  obtain ⟨cs, hsl, _, _⟩ := (hy.ext e0).inv
  simp (disch:=first|assumption|omega|(simp only [lens];omega)) only [eqs,↓gvd_succ,↓gvd_zero,↓and_of,im_of,im_of trivial,vlt,hP,hst,initS,Nat.reduceBEq,Nat.reduceAdd,Nat.reduceMul,Nat.reduceSub,Nat.reduceDiv,Nat.reduceMod,Nat.reducePow,Nat.reduceLT,Nat.reduceLeDiff,Nat.reduceEqDiff,Int.reduceAdd,Int.reduceSub,Int.reduceNeg,Int.reduceMul,Int.reduceToNat,Int.reducePow,Int.reduceLE,Int.reduceLT,Int.reduceEq,Int.reduceNe,reduceIte,reduceCtorEq,ne_eq,not_true_eq_false,not_false_eq_true,imp_self,implies_true,bls,eq_self,hsl]
  refine E_callA (hP ▸ s_Arity _ hG) ⟨p, rfl, ?_⟩
  simp (disch:=first|assumption|omega|(simp only [lens];omega)) only [eqs,↓gvd_succ,↓gvd_zero,↓and_of,im_of,im_of trivial,vlt,hP,hst,initS,Nat.reduceBEq,Nat.reduceAdd,Nat.reduceMul,Nat.reduceSub,Nat.reduceDiv,Nat.reduceMod,Nat.reducePow,Nat.reduceLT,Nat.reduceLeDiff,Nat.reduceEqDiff,Int.reduceAdd,Int.reduceSub,Int.reduceNeg,Int.reduceMul,Int.reduceToNat,Int.reducePow,Int.reduceLE,Int.reduceLT,Int.reduceEq,Int.reduceNe,reduceIte,reduceCtorEq,ne_eq,not_true_eq_false,not_false_eq_true,imp_self,implies_true,bls,eq_self]
  refine C_dec (fun h1 => ?_) (fun h1 => ?_)
  · simp (disch:=first|assumption|omega|(simp only [lens];omega)) only [eqs,↓gvd_succ,↓gvd_zero,↓and_of,im_of,im_of trivial,vlt,hP,hst,initS,Nat.reduceBEq,Nat.reduceAdd,Nat.reduceMul,Nat.reduceSub,Nat.reduceDiv,Nat.reduceMod,Nat.reducePow,Nat.reduceLT,Nat.reduceLeDiff,Nat.reduceEqDiff,Int.reduceAdd,Int.reduceSub,Int.reduceNeg,Int.reduceMul,Int.reduceToNat,Int.reducePow,Int.reduceLE,Int.reduceLT,Int.reduceEq,Int.reduceNe,reduceIte,reduceCtorEq,ne_eq,not_true_eq_false,not_false_eq_true,imp_self,implies_true,bls,eq_self,gC0,gC1,hX,zD_map,zD7]
    exact bad T0 8 .refl (by unfold doM; rw [if_neg (by simp [hpl]), if_pos h1])
  have h1 := Classical.not_not.1 h1
  have hD : doM p ds = doL p ds := by unfold doM; rw [if_neg (by simp [hpl]), if_neg (by simp [h1])]
  have hpr : (1 ≤ p ∧ p ≤ 8) ∨ (14 ≤ p ∧ p ≤ 19) ∨ (21 ≤ p ∧ p ≤ 27) := of_decide_eq_true hpl
  simp (disch:=first|assumption|omega|(simp only [lens];omega)) only [eqs,↓gvd_succ,↓gvd_zero,↓and_of,im_of,im_of trivial,vlt,hP,hst,initS,Nat.reduceBEq,Nat.reduceAdd,Nat.reduceMul,Nat.reduceSub,Nat.reduceDiv,Nat.reduceMod,Nat.reducePow,Nat.reduceLT,Nat.reduceLeDiff,Nat.reduceEqDiff,Int.reduceAdd,Int.reduceSub,Int.reduceNeg,Int.reduceMul,Int.reduceToNat,Int.reducePow,Int.reduceLE,Int.reduceLT,Int.reduceEq,Int.reduceNe,reduceIte,reduceCtorEq,ne_eq,not_true_eq_false,not_false_eq_true,imp_self,implies_true,bls,eq_self]
  refine C_dec (fun h2 => ?_) (fun h2 => ?_)
  · have ha2 : arM p = 2 := arM_2 (by omega)
    obtain ⟨d0, d1, rfl⟩ : ∃ d0 d1, ds = [d0, d1] := by
      match ds, h1 with
      | [d0, d1], _ => exact ⟨d0, d1, rfl⟩
      | [], h1 => rw [ha2] at h1; simp at h1
      | [_], h1 => rw [ha2] at h1; simp at h1
      | _ :: _ :: _ :: _, h1 => rw [ha2] at h1; simp at h1; omega
    have f0 := hok d0 (by simp)
    have f1 := hok d1 (by simp)
    obtain ⟨k0, g0, a0, l0, b0, s0, x0, z0, its0, tls0, k1, g1, a1, l1, b1, s1, x1, z1, its1, tls1, rfl, rfl, hs, n0, _, _, n1, _, _⟩ := (hy.ext e0).two2
    have hE : doM p [.mk k0 g0 l0 b0 s0 its0 tls0, .mk k1 g1 l1 b1 s1 its1 tls1] = if k0 = 1 ∧ k1 = 1 then numM p (iv g0 (val l0)) (iv g1 (val l1)) else (dNil, 6) := by rw [hD, doL_le h2]; rfl
    simp (disch:=first|assumption|omega|(simp only [lens];omega)) only [eqs,↓gvd_succ,↓gvd_zero,↓and_of,im_of,im_of trivial,vlt,hP,hst,initS,Nat.reduceBEq,Nat.reduceAdd,Nat.reduceMul,Nat.reduceSub,Nat.reduceDiv,Nat.reduceMod,Nat.reducePow,Nat.reduceLT,Nat.reduceLeDiff,Nat.reduceEqDiff,Int.reduceAdd,Int.reduceSub,Int.reduceNeg,Int.reduceMul,Int.reduceToNat,Int.reducePow,Int.reduceLE,Int.reduceLT,Int.reduceEq,Int.reduceNe,reduceIte,reduceCtorEq,ne_eq,not_true_eq_false,not_false_eq_true,imp_self,implies_true,bls,eq_self,hs]
    refine G_ndec (fun h3 => ?_) (fun h3 => ?_)
    rotate_left
    · simp (disch:=first|assumption|omega|(simp only [lens];omega)) only [eqs,↓gvd_succ,↓gvd_zero,↓and_of,im_of,im_of trivial,vlt,hP,hst,initS,Nat.reduceBEq,Nat.reduceAdd,Nat.reduceMul,Nat.reduceSub,Nat.reduceDiv,Nat.reduceMod,Nat.reducePow,Nat.reduceLT,Nat.reduceLeDiff,Nat.reduceEqDiff,Int.reduceAdd,Int.reduceSub,Int.reduceNeg,Int.reduceMul,Int.reduceToNat,Int.reducePow,Int.reduceLE,Int.reduceLT,Int.reduceEq,Int.reduceNe,reduceIte,reduceCtorEq,ne_eq,not_true_eq_false,not_false_eq_true,imp_self,implies_true,bls,eq_self,h3,gC0,gC1,hX,zD_map,zD7]
      exact bad T0 6 .refl (by rw [hE, if_neg (by omega)])
    have h3 := Classical.not_not.1 h3
    simp (disch:=first|assumption|omega|(simp only [lens];omega)) only [eqs,↓gvd_succ,↓gvd_zero,↓and_of,im_of,im_of trivial,vlt,hP,hst,initS,Nat.reduceBEq,Nat.reduceAdd,Nat.reduceMul,Nat.reduceSub,Nat.reduceDiv,Nat.reduceMod,Nat.reducePow,Nat.reduceLT,Nat.reduceLeDiff,Nat.reduceEqDiff,Int.reduceAdd,Int.reduceSub,Int.reduceNeg,Int.reduceMul,Int.reduceToNat,Int.reducePow,Int.reduceLE,Int.reduceLT,Int.reduceEq,Int.reduceNe,reduceIte,reduceCtorEq,ne_eq,not_true_eq_false,not_false_eq_true,imp_self,implies_true,bls,eq_self,h3,hs]
    refine C_dec (fun h4 => ?_) (fun h4 => ?_)
    · simp (disch:=first|assumption|omega|(simp only [lens];omega)) only [eqs,↓gvd_succ,↓gvd_zero,↓and_of,im_of,im_of trivial,vlt,hP,hst,initS,Nat.reduceBEq,Nat.reduceAdd,Nat.reduceMul,Nat.reduceSub,Nat.reduceDiv,Nat.reduceMod,Nat.reducePow,Nat.reduceLT,Nat.reduceLeDiff,Nat.reduceEqDiff,Int.reduceAdd,Int.reduceSub,Int.reduceNeg,Int.reduceMul,Int.reduceToNat,Int.reducePow,Int.reduceLE,Int.reduceLT,Int.reduceEq,Int.reduceNe,reduceIte,reduceCtorEq,ne_eq,not_true_eq_false,not_false_eq_true,imp_self,implies_true,bls,eq_self,gC0,gC1,hX,zD_map,zD7]
      exact bad T0 6 .refl (by rw [hE, if_neg (by omega)])
    have h4 := Classical.not_not.1 h4
    rw [if_pos ⟨h3, h4⟩] at hE
    have w0 : l0.length ≤ 400 := f0.2.2.1
    have w1 : l1.length ≤ 400 := f1.2.2.1
    simp (disch:=first|assumption|omega|(simp only [lens];omega)) only [eqs,↓gvd_succ,↓gvd_zero,↓and_of,im_of,im_of trivial,vlt,hP,hst,initS,Nat.reduceBEq,Nat.reduceAdd,Nat.reduceMul,Nat.reduceSub,Nat.reduceDiv,Nat.reduceMod,Nat.reducePow,Nat.reduceLT,Nat.reduceLeDiff,Nat.reduceEqDiff,Int.reduceAdd,Int.reduceSub,Int.reduceNeg,Int.reduceMul,Int.reduceToNat,Int.reducePow,Int.reduceLE,Int.reduceLT,Int.reduceEq,Int.reduceNe,reduceIte,reduceCtorEq,ne_eq,not_true_eq_false,not_false_eq_true,imp_self,implies_true,bls,eq_self]
    refine V_draw [0, 1, 2, 3, 4, 6, 7, 8, 9, 5, 10, 11, 12, 13, 14, 15] (by kernel_rfl) (.cons rfl <| .cons rfl <| .cons rfl <| .cons rfl <| .cons rfl <| .cons rfl <| .cons rfl <| .cons rfl <| .cons rfl <| .cons rfl <| .cons rfl <| .cons rfl <| .cons rfl <| .cons rfl <| .cons rfl <| .cons rfl <| .nil) ?_
    simp (disch:=first|assumption|omega|(simp only [lens];omega)) only [eqs,↓gvd_succ,↓gvd_zero,↓and_of,im_of,im_of trivial,vlt,hP,hst,initS,Nat.reduceBEq,Nat.reduceAdd,Nat.reduceMul,Nat.reduceSub,Nat.reduceDiv,Nat.reduceMod,Nat.reducePow,Nat.reduceLT,Nat.reduceLeDiff,Nat.reduceEqDiff,Int.reduceAdd,Int.reduceSub,Int.reduceNeg,Int.reduceMul,Int.reduceToNat,Int.reducePow,Int.reduceLE,Int.reduceLT,Int.reduceEq,Int.reduceNe,reduceIte,reduceCtorEq,ne_eq,not_true_eq_false,not_false_eq_true,imp_self,implies_true,bls,eq_self,hs]
    refine E_call (hP ▸ z_Norm) ⟨_, _, 400, rfl, .mk ⟨a0, rfl, n0⟩ w0, by omega, fun u T1 hT1 hu => ?_⟩
    simp (disch:=first|assumption|omega|(simp only [lens];omega)) only [eqs,↓gvd_succ,↓gvd_zero,↓and_of,im_of,im_of trivial,vlt,hP,hst,initS,Nat.reduceBEq,Nat.reduceAdd,Nat.reduceMul,Nat.reduceSub,Nat.reduceDiv,Nat.reduceMod,Nat.reducePow,Nat.reduceLT,Nat.reduceLeDiff,Nat.reduceEqDiff,Int.reduceAdd,Int.reduceSub,Int.reduceNeg,Int.reduceMul,Int.reduceToNat,Int.reducePow,Int.reduceLE,Int.reduceLT,Int.reduceEq,Int.reduceNe,reduceIte,reduceCtorEq,ne_eq,not_true_eq_false,not_false_eq_true,imp_self,implies_true,bls,eq_self]
    refine E_call (hP ▸ z_Norm) ⟨_, _, 400, rfl, .mk ⟨a1, rfl, n1.ext hT1⟩ w1, by omega, fun v T2 hT2 hv => ?_⟩
    simp (disch:=first|assumption|omega|(simp only [lens];omega)) only [eqs,↓gvd_succ,↓gvd_zero,↓and_of,im_of,im_of trivial,vlt,hP,hst,initS,Nat.reduceBEq,Nat.reduceAdd,Nat.reduceMul,Nat.reduceSub,Nat.reduceDiv,Nat.reduceMod,Nat.reducePow,Nat.reduceLT,Nat.reduceLeDiff,Nat.reduceEqDiff,Int.reduceAdd,Int.reduceSub,Int.reduceNeg,Int.reduceMul,Int.reduceToNat,Int.reducePow,Int.reduceLE,Int.reduceLT,Int.reduceEq,Int.reduceNe,reduceIte,reduceCtorEq,ne_eq,not_true_eq_false,not_false_eq_true,imp_self,implies_true,bls,eq_self]
    refine E_call (hP ▸ s_numbers) ⟨p, _, _, _, _, _, _, rfl, hu.ext hT2, hv, by omega, by omega, fun v T3 hT3 hv3 => ?_⟩
    dsimp only [id] at hv3
    obtain ⟨c, rfl, hc1, hc2, hc3, hc⟩ := fin v T3 _ ((hT1.trans hT2).trans hT3) (by rw [hE]) (by rw [hE]; exact hv3)
    have gD := (gC.ext ((hT1.trans hT2).trans hT3)).get
    have gE := (gC.ext ((hT1.trans hT2).trans hT3)).lt
    simp (disch:=first|assumption|omega|(simp only [lens];omega)) only [eqs,↓gvd_succ,↓gvd_zero,↓and_of,im_of,im_of trivial,vlt,hP,hst,initS,Nat.reduceBEq,Nat.reduceAdd,Nat.reduceMul,Nat.reduceSub,Nat.reduceDiv,Nat.reduceMod,Nat.reducePow,Nat.reduceLT,Nat.reduceLeDiff,Nat.reduceEqDiff,Int.reduceAdd,Int.reduceSub,Int.reduceNeg,Int.reduceMul,Int.reduceToNat,Int.reducePow,Int.reduceLE,Int.reduceLT,Int.reduceEq,Int.reduceNe,reduceIte,reduceCtorEq,ne_eq,not_true_eq_false,not_false_eq_true,imp_self,implies_true,bls,eq_self,gD,gE,hX,hc1,hc2,hc3,take7 hc2,List.append_nil,zD7]
    exact hc
  by_cases hq : p = 21 ∨ p = 24 ∨ p = 25
  · have ha2 : arM p = 2 := arM_2 (by omega)
    obtain ⟨d0, d1, rfl⟩ : ∃ d0 d1, ds = [d0, d1] := by
      match ds, h1 with
      | [d0, d1], _ => exact ⟨d0, d1, rfl⟩
      | [], h1 => rw [ha2] at h1; simp at h1
      | [_], h1 => rw [ha2] at h1; simp at h1
      | _ :: _ :: _ :: _, h1 => rw [ha2] at h1; simp at h1; omega
    have f0 := hok d0 (by simp)
    have f1 := hok d1 (by simp)
    have hy2 := hy
    obtain ⟨k0, g0, a0, l0, b0, s0, x0, z0, its0, tls0, k1, g1, a1, l1, b1, s1, x1, z1, its1, tls1, rfl, rfl, hs, n0, i0, j0, n1, i1, j1⟩ := (hy.ext e0).two2
    have q1 := n0.leaf
    have q2 := i0.leaf
    have q3 := j0.leaf
    have q4 := n1.leaf
    have q5 := i1.leaf
    have q6 := j1.leaf
    have hXT := Nat.le_trans hX e0.len
    rw [doL_gt h2] at hD
    have eT : ∀ c, Ext T0 (T0 ++ [some c]) := fun c => .add _
    have hs2 := fun y => sl_grow hs y
    have t0 := DA.mk' (k := k0) (g := g0) (b := b0) (s := s0) n0 i0 j0
    have t1 := DA.mk' (k := k1) (g := g1) (b := b1) (s := s1) n1 i1 j1
    rcases hq with rfl | rfl | rfl
    · simp (disch:=first|assumption|omega|(simp only [lens];omega)) only [eqs,↓gvd_succ,↓gvd_zero,↓and_of,im_of,im_of trivial,vlt,hP,hst,initS,Nat.reduceBEq,Nat.reduceAdd,Nat.reduceMul,Nat.reduceSub,Nat.reduceDiv,Nat.reduceMod,Nat.reducePow,Nat.reduceLT,Nat.reduceLeDiff,Nat.reduceEqDiff,Int.reduceAdd,Int.reduceSub,Int.reduceNeg,Int.reduceMul,Int.reduceToNat,Int.reducePow,Int.reduceLE,Int.reduceLT,Int.reduceEq,Int.reduceNe,reduceIte,reduceCtorEq,ne_eq,not_true_eq_false,not_false_eq_true,imp_self,implies_true,bls,eq_self,hs,q1,q2,q3,q4,q5,q6,hXT,zD_map,zD7,List.append_nil]
      refine V_draw [0, 1, 2, 3, 4, 5, 6, 7] (by kernel_rfl) (.cons rfl <| .cons rfl <| .cons rfl <| .cons rfl <| .cons rfl <| .cons rfl <| .cons rfl <| .cons rfl <| .nil) ?_
      simp (disch:=first|assumption|omega|(simp only [lens];omega)) only [eqs,↓gvd_succ,↓gvd_zero,↓and_of,im_of,im_of trivial,vlt,hP,hst,initS,Nat.reduceBEq,Nat.reduceAdd,Nat.reduceMul,Nat.reduceSub,Nat.reduceDiv,Nat.reduceMod,Nat.reducePow,Nat.reduceLT,Nat.reduceLeDiff,Nat.reduceEqDiff,Int.reduceAdd,Int.reduceSub,Int.reduceNeg,Int.reduceMul,Int.reduceToNat,Int.reducePow,Int.reduceLE,Int.reduceLT,Int.reduceEq,Int.reduceNe,reduceIte,reduceCtorEq,ne_eq,not_true_eq_false,not_false_eq_true,imp_self,implies_true,bls,eq_self,hs2]
      refine E_call (hP ▸ s_Eq) ⟨_, _, _, _, rfl, t0.ext (.add _), t1.ext (.add _), f0.1, f1.1, f0.2.1, f1.2.1, fun T1 hT1 => ?_⟩
      simp (disch:=first|assumption|omega|(simp only [lens];omega)) only [eqs,↓gvd_succ,↓gvd_zero,↓and_of,im_of,im_of trivial,vlt,hP,hst,initS,Nat.reduceBEq,Nat.reduceAdd,Nat.reduceMul,Nat.reduceSub,Nat.reduceDiv,Nat.reduceMod,Nat.reducePow,Nat.reduceLT,Nat.reduceLeDiff,Nat.reduceEqDiff,Int.reduceAdd,Int.reduceSub,Int.reduceNeg,Int.reduceMul,Int.reduceToNat,Int.reducePow,Int.reduceLE,Int.reduceLT,Int.reduceEq,Int.reduceNe,reduceIte,reduceCtorEq,ne_eq,not_true_eq_false,not_false_eq_true,imp_self,implies_true,bls,eq_self]
      refine E_call (hP ▸ s_Truth) ⟨_, rfl, fun v T2 hT2 hv2 => ?_⟩
      have hT2 := hT1.trans hT2
      have hE : doM 21 [(.mk k0 g0 l0 b0 s0 its0 tls0), (.mk k1 g1 l1 b1 s1 its1 tls1)] = (dBool (eqM (.mk k0 g0 l0 b0 s0 its0 tls0) (.mk k1 g1 l1 b1 s1 its1 tls1)), 0) := by rw [hD]; rfl
      obtain ⟨c, rfl, hc1, hc2, hc3, hc⟩ := fin v T2 0 ((Ext.add _).trans hT2) (by rw [hE]) (by rw [hE]; exact hv2)
      have gD := (gC.ext ((Ext.add _).trans hT2)).get
      have gE := (gC.ext ((Ext.add _).trans hT2)).lt
      simp (disch:=first|assumption|omega|(simp only [lens];omega)) only [eqs,↓gvd_succ,↓gvd_zero,↓and_of,im_of,im_of trivial,vlt,hP,hst,initS,Nat.reduceBEq,Nat.reduceAdd,Nat.reduceMul,Nat.reduceSub,Nat.reduceDiv,Nat.reduceMod,Nat.reducePow,Nat.reduceLT,Nat.reduceLeDiff,Nat.reduceEqDiff,Int.reduceAdd,Int.reduceSub,Int.reduceNeg,Int.reduceMul,Int.reduceToNat,Int.reducePow,Int.reduceLE,Int.reduceLT,Int.reduceEq,Int.reduceNe,reduceIte,reduceCtorEq,ne_eq,not_true_eq_false,not_false_eq_true,imp_self,implies_true,bls,eq_self,gD,gE,hX,hc1,hc2,hc3,take7 hc2,List.append_nil,zD7]
      exact hc
    · simp (disch:=first|assumption|omega|(simp only [lens];omega)) only [eqs,↓gvd_succ,↓gvd_zero,↓and_of,im_of,im_of trivial,vlt,hP,hst,initS,Nat.reduceBEq,Nat.reduceAdd,Nat.reduceMul,Nat.reduceSub,Nat.reduceDiv,Nat.reduceMod,Nat.reducePow,Nat.reduceLT,Nat.reduceLeDiff,Nat.reduceEqDiff,Int.reduceAdd,Int.reduceSub,Int.reduceNeg,Int.reduceMul,Int.reduceToNat,Int.reducePow,Int.reduceLE,Int.reduceLT,Int.reduceEq,Int.reduceNe,reduceIte,reduceCtorEq,ne_eq,not_true_eq_false,not_false_eq_true,imp_self,implies_true,bls,eq_self,hs,q1,q2,q3,q4,q5,q6,hXT,zD_map,zD7,List.append_nil]
      refine E_call (hP ▸ s_texts) ⟨24, _, _, rfl, hy2.ext (e0.trans (.add _)), .inr ⟨by omega, rfl⟩, fun d hd => (hok d hd).2.2.2, fun v T2 hT2 hv2 => ?_⟩
      have hE : doM 24 [(.mk k0 g0 l0 b0 s0 its0 tls0), (.mk k1 g1 l1 b1 s1 its1 tls1)] = textsM 24 [(.mk k0 g0 l0 b0 s0 its0 tls0), (.mk k1 g1 l1 b1 s1 its1 tls1)] := by rw [hD]; rfl
      obtain ⟨c, rfl, hc1, hc2, hc3, hc⟩ := fin v T2 _ ((Ext.add _).trans hT2) (by rw [hE]) (by rw [hE]; exact hv2)
      have gD := (gC.ext ((Ext.add _).trans hT2)).get
      have gE := (gC.ext ((Ext.add _).trans hT2)).lt
      simp (disch:=first|assumption|omega|(simp only [lens];omega)) only [eqs,↓gvd_succ,↓gvd_zero,↓and_of,im_of,im_of trivial,vlt,hP,hst,initS,Nat.reduceBEq,Nat.reduceAdd,Nat.reduceMul,Nat.reduceSub,Nat.reduceDiv,Nat.reduceMod,Nat.reducePow,Nat.reduceLT,Nat.reduceLeDiff,Nat.reduceEqDiff,Int.reduceAdd,Int.reduceSub,Int.reduceNeg,Int.reduceMul,Int.reduceToNat,Int.reducePow,Int.reduceLE,Int.reduceLT,Int.reduceEq,Int.reduceNe,reduceIte,reduceCtorEq,ne_eq,not_true_eq_false,not_false_eq_true,imp_self,implies_true,bls,eq_self,gD,gE,hX,hc1,hc2,hc3,take7 hc2,List.append_nil,zD7]
      exact hc
    · simp (disch:=first|assumption|omega|(simp only [lens];omega)) only [eqs,↓gvd_succ,↓gvd_zero,↓and_of,im_of,im_of trivial,vlt,hP,hst,initS,Nat.reduceBEq,Nat.reduceAdd,Nat.reduceMul,Nat.reduceSub,Nat.reduceDiv,Nat.reduceMod,Nat.reducePow,Nat.reduceLT,Nat.reduceLeDiff,Nat.reduceEqDiff,Int.reduceAdd,Int.reduceSub,Int.reduceNeg,Int.reduceMul,Int.reduceToNat,Int.reducePow,Int.reduceLE,Int.reduceLT,Int.reduceEq,Int.reduceNe,reduceIte,reduceCtorEq,ne_eq,not_true_eq_false,not_false_eq_true,imp_self,implies_true,bls,eq_self,hs,q1,q2,q3,q4,q5,q6,hXT,zD_map,zD7,List.append_nil]
      refine E_call (hP ▸ s_texts) ⟨25, _, _, rfl, hy2.ext (e0.trans (.add _)), .inr ⟨by omega, rfl⟩, fun d hd => (hok d hd).2.2.2, fun v T2 hT2 hv2 => ?_⟩
      have hE : doM 25 [(.mk k0 g0 l0 b0 s0 its0 tls0), (.mk k1 g1 l1 b1 s1 its1 tls1)] = textsM 25 [(.mk k0 g0 l0 b0 s0 its0 tls0), (.mk k1 g1 l1 b1 s1 its1 tls1)] := by rw [hD]; rfl
      obtain ⟨c, rfl, hc1, hc2, hc3, hc⟩ := fin v T2 _ ((Ext.add _).trans hT2) (by rw [hE]) (by rw [hE]; exact hv2)
      have gD := (gC.ext ((Ext.add _).trans hT2)).get
      have gE := (gC.ext ((Ext.add _).trans hT2)).lt
      simp (disch:=first|assumption|omega|(simp only [lens];omega)) only [eqs,↓gvd_succ,↓gvd_zero,↓and_of,im_of,im_of trivial,vlt,hP,hst,initS,Nat.reduceBEq,Nat.reduceAdd,Nat.reduceMul,Nat.reduceSub,Nat.reduceDiv,Nat.reduceMod,Nat.reducePow,Nat.reduceLT,Nat.reduceLeDiff,Nat.reduceEqDiff,Int.reduceAdd,Int.reduceSub,Int.reduceNeg,Int.reduceMul,Int.reduceToNat,Int.reducePow,Int.reduceLE,Int.reduceLT,Int.reduceEq,Int.reduceNe,reduceIte,reduceCtorEq,ne_eq,not_true_eq_false,not_false_eq_true,imp_self,implies_true,bls,eq_self,gD,gE,hX,hc1,hc2,hc3,take7 hc2,List.append_nil,zD7]
      exact hc
  · have ha1 : arM p = 1 := arM_1 (by omega)
    obtain ⟨d0, rfl⟩ : ∃ d0, ds = [d0] := by
      match ds, h1 with
      | [d0], _ => exact ⟨d0, rfl⟩
      | [], h1 => rw [ha1] at h1; simp at h1
      | _ :: _ :: _, h1 => rw [ha1] at h1; simp at h1; omega
    have f0 := hok d0 (by simp)
    have hy2 := hy
    obtain ⟨k0, g0, a0, l0, b0, s0, x0, z0, its0, tls0, rfl, hs, n0, i0, j0⟩ := (hy.ext e0).one1
    have q1 := n0.leaf
    have q2 := i0.leaf
    have q3 := j0.leaf
    have hXT := Nat.le_trans hX e0.len
    rw [doL_gt h2] at hD
    have hs2 := fun y => sl_grow hs y
    obtain ⟨cx, sx, _⟩ := i0.inv
    have sx2 := fun y => sl_grow sx y
    have t0 := DA.mk' (k := k0) (g := g0) (b := b0) (s := s0) n0 i0 j0
    have w0 : l0.length ≤ 1000 := Nat.le_trans f0.2.2.1 (by omega)
    rcases (by omega : p = 14 ∨ p = 15 ∨ p = 16 ∨ p = 17 ∨ p = 18 ∨ p = 19 ∨ p = 22 ∨ p = 23 ∨ p = 26 ∨ p = 27) with rfl | rfl | rfl | rfl | rfl | rfl | rfl | rfl | rfl | rfl
    · simp (disch:=first|assumption|omega|(simp only [lens];omega)) only [eqs,↓gvd_succ,↓gvd_zero,↓and_of,im_of,im_of trivial,vlt,hP,hst,initS,Nat.reduceBEq,Nat.reduceAdd,Nat.reduceMul,Nat.reduceSub,Nat.reduceDiv,Nat.reduceMod,Nat.reducePow,Nat.reduceLT,Nat.reduceLeDiff,Nat.reduceEqDiff,Int.reduceAdd,Int.reduceSub,Int.reduceNeg,Int.reduceMul,Int.reduceToNat,Int.reducePow,Int.reduceLE,Int.reduceLT,Int.reduceEq,Int.reduceNe,reduceIte,reduceCtorEq,ne_eq,not_true_eq_false,not_false_eq_true,imp_self,implies_true,bls,eq_self,hs,q1,q2,q3,hXT,zD_map,zD7,List.append_nil,sx2]
      refine G_dec (fun h5 => ?_) (fun h5 => ?_)
      · have hb : (decide (0 < (its0.length : Int)) == false) = decide (k0 = 5 ∧ its0.length = 0) := by
          by_cases hl : its0.length = 0
          · simp [hl, h5]
          · simp [hl, h5]; try omega
        simp (disch:=first|assumption|omega|(simp only [lens];omega)) only [eqs,↓gvd_succ,↓gvd_zero,↓and_of,im_of,im_of trivial,vlt,hP,hst,initS,Nat.reduceBEq,Nat.reduceAdd,Nat.reduceMul,Nat.reduceSub,Nat.reduceDiv,Nat.reduceMod,Nat.reducePow,Nat.reduceLT,Nat.reduceLeDiff,Nat.reduceEqDiff,Int.reduceAdd,Int.reduceSub,Int.reduceNeg,Int.reduceMul,Int.reduceToNat,Int.reducePow,Int.reduceLE,Int.reduceLT,Int.reduceEq,Int.reduceNe,reduceIte,reduceCtorEq,ne_eq,not_true_eq_false,not_false_eq_true,imp_self,implies_true,bls,eq_self,h5,sx2]
        refine fun _ => ?_
        refine E_call (hP ▸ s_Truth) ⟨_, rfl, fun v T2 hT2 hv2 => ?_⟩
        have hE : doM 14 [(.mk k0 g0 l0 b0 s0 its0 tls0)] = (dBool (decide (0 < (its0.length : Int)) == false), 0) := by rw [hD, hb]; rfl
        obtain ⟨c, rfl, hc1, hc2, hc3, hc⟩ := fin v T2 0 ((Ext.add _).trans hT2) (by rw [hE]) (by rw [hE]; exact hv2)
        have gD := (gC.ext ((Ext.add _).trans hT2)).get
        have gE := (gC.ext ((Ext.add _).trans hT2)).lt
        simp (disch:=first|assumption|omega|(simp only [lens];omega)) only [eqs,↓gvd_succ,↓gvd_zero,↓and_of,im_of,im_of trivial,vlt,hP,hst,initS,Nat.reduceBEq,Nat.reduceAdd,Nat.reduceMul,Nat.reduceSub,Nat.reduceDiv,Nat.reduceMod,Nat.reducePow,Nat.reduceLT,Nat.reduceLeDiff,Nat.reduceEqDiff,Int.reduceAdd,Int.reduceSub,Int.reduceNeg,Int.reduceMul,Int.reduceToNat,Int.reducePow,Int.reduceLE,Int.reduceLT,Int.reduceEq,Int.reduceNe,reduceIte,reduceCtorEq,ne_eq,not_true_eq_false,not_false_eq_true,imp_self,implies_true,bls,eq_self,gD,gE,hX,hc1,hc2,hc3,take7 hc2,List.append_nil,zD7]
        exact hc
      · simp (disch:=first|assumption|omega|(simp only [lens];omega)) only [eqs,↓gvd_succ,↓gvd_zero,↓and_of,im_of,im_of trivial,vlt,hP,hst,initS,Nat.reduceBEq,Nat.reduceAdd,Nat.reduceMul,Nat.reduceSub,Nat.reduceDiv,Nat.reduceMod,Nat.reducePow,Nat.reduceLT,Nat.reduceLeDiff,Nat.reduceEqDiff,Int.reduceAdd,Int.reduceSub,Int.reduceNeg,Int.reduceMul,Int.reduceToNat,Int.reducePow,Int.reduceLE,Int.reduceLT,Int.reduceEq,Int.reduceNe,reduceIte,reduceCtorEq,ne_eq,not_true_eq_false,not_false_eq_true,imp_self,implies_true,bls,eq_self,h5]
        refine E_call (hP ▸ s_Truth) ⟨_, rfl, fun v T2 hT2 hv2 => ?_⟩
        have hE : doM 14 [(.mk k0 g0 l0 b0 s0 its0 tls0)] = (dBool false, 0) := by rw [hD, show doK 14 (.mk k0 g0 l0 b0 s0 its0 tls0) [] = (dBool (decide (k0 = 5 ∧ its0.length = 0)), 0) from rfl, decide_eq_false (fun h6 => h5 h6.1)]
        obtain ⟨c, rfl, hc1, hc2, hc3, hc⟩ := fin v T2 0 ((Ext.add _).trans hT2) (by rw [hE]) (by rw [hE]; exact hv2)
        have gD := (gC.ext ((Ext.add _).trans hT2)).get
        have gE := (gC.ext ((Ext.add _).trans hT2)).lt
        simp (disch:=first|assumption|omega|(simp only [lens];omega)) only [eqs,↓gvd_succ,↓gvd_zero,↓and_of,im_of,im_of trivial,vlt,hP,hst,initS,Nat.reduceBEq,Nat.reduceAdd,Nat.reduceMul,Nat.reduceSub,Nat.reduceDiv,Nat.reduceMod,Nat.reducePow,Nat.reduceLT,Nat.reduceLeDiff,Nat.reduceEqDiff,Int.reduceAdd,Int.reduceSub,Int.reduceNeg,Int.reduceMul,Int.reduceToNat,Int.reducePow,Int.reduceLE,Int.reduceLT,Int.reduceEq,Int.reduceNe,reduceIte,reduceCtorEq,ne_eq,not_true_eq_false,not_false_eq_true,imp_self,implies_true,bls,eq_self,gD,gE,hX,hc1,hc2,hc3,take7 hc2,List.append_nil,zD7]
        exact hc
    · simp (disch:=first|assumption|omega|(simp only [lens];omega)) only [eqs,↓gvd_succ,↓gvd_zero,↓and_of,im_of,im_of trivial,vlt,hP,hst,initS,Nat.reduceBEq,Nat.reduceAdd,Nat.reduceMul,Nat.reduceSub,Nat.reduceDiv,Nat.reduceMod,Nat.reducePow,Nat.reduceLT,Nat.reduceLeDiff,Nat.reduceEqDiff,Int.reduceAdd,Int.reduceSub,Int.reduceNeg,Int.reduceMul,Int.reduceToNat,Int.reducePow,Int.reduceLE,Int.reduceLT,Int.reduceEq,Int.reduceNe,reduceIte,reduceCtorEq,ne_eq,not_true_eq_false,not_false_eq_true,imp_self,implies_true,bls,eq_self,hs,q1,q2,q3,hXT,zD_map,zD7,List.append_nil,sx2]
      refine G_dec (fun h5 => ?_) (fun h5 => ?_)
      · have hb : (decide (0 < (its0.length : Int)) == true) = decide (k0 = 5 ∧ its0.length ≠ 0) := by
          by_cases hl : its0.length = 0
          · simp [hl, h5]
          · simp [hl, h5]; try omega
        simp (disch:=first|assumption|omega|(simp only [lens];omega)) only [eqs,↓gvd_succ,↓gvd_zero,↓and_of,im_of,im_of trivial,vlt,hP,hst,initS,Nat.reduceBEq,Nat.reduceAdd,Nat.reduceMul,Nat.reduceSub,Nat.reduceDiv,Nat.reduceMod,Nat.reducePow,Nat.reduceLT,Nat.reduceLeDiff,Nat.reduceEqDiff,Int.reduceAdd,Int.reduceSub,Int.reduceNeg,Int.reduceMul,Int.reduceToNat,Int.reducePow,Int.reduceLE,Int.reduceLT,Int.reduceEq,Int.reduceNe,reduceIte,reduceCtorEq,ne_eq,not_true_eq_false,not_false_eq_true,imp_self,implies_true,bls,eq_self,h5,sx2]
        refine fun _ => ?_
        refine E_call (hP ▸ s_Truth) ⟨_, rfl, fun v T2 hT2 hv2 => ?_⟩
        have hE : doM 15 [(.mk k0 g0 l0 b0 s0 its0 tls0)] = (dBool (decide (0 < (its0.length : Int)) == true), 0) := by rw [hD, hb]; rfl
        obtain ⟨c, rfl, hc1, hc2, hc3, hc⟩ := fin v T2 0 ((Ext.add _).trans hT2) (by rw [hE]) (by rw [hE]; exact hv2)
        have gD := (gC.ext ((Ext.add _).trans hT2)).get
        have gE := (gC.ext ((Ext.add _).trans hT2)).lt
        simp (disch:=first|assumption|omega|(simp only [lens];omega)) only [eqs,↓gvd_succ,↓gvd_zero,↓and_of,im_of,im_of trivial,vlt,hP,hst,initS,Nat.reduceBEq,Nat.reduceAdd,Nat.reduceMul,Nat.reduceSub,Nat.reduceDiv,Nat.reduceMod,Nat.reducePow,Nat.reduceLT,Nat.reduceLeDiff,Nat.reduceEqDiff,Int.reduceAdd,Int.reduceSub,Int.reduceNeg,Int.reduceMul,Int.reduceToNat,Int.reducePow,Int.reduceLE,Int.reduceLT,Int.reduceEq,Int.reduceNe,reduceIte,reduceCtorEq,ne_eq,not_true_eq_false,not_false_eq_true,imp_self,implies_true,bls,eq_self,gD,gE,hX,hc1,hc2,hc3,take7 hc2,List.append_nil,zD7]
        exact hc
      · simp (disch:=first|assumption|omega|(simp only [lens];omega)) only [eqs,↓gvd_succ,↓gvd_zero,↓and_of,im_of,im_of trivial,vlt,hP,hst,initS,Nat.reduceBEq,Nat.reduceAdd,Nat.reduceMul,Nat.reduceSub,Nat.reduceDiv,Nat.reduceMod,Nat.reducePow,Nat.reduceLT,Nat.reduceLeDiff,Nat.reduceEqDiff,Int.reduceAdd,Int.reduceSub,Int.reduceNeg,Int.reduceMul,Int.reduceToNat,Int.reducePow,Int.reduceLE,Int.reduceLT,Int.reduceEq,Int.reduceNe,reduceIte,reduceCtorEq,ne_eq,not_true_eq_false,not_false_eq_true,imp_self,implies_true,bls,eq_self,h5]
        refine E_call (hP ▸ s_Truth) ⟨_, rfl, fun v T2 hT2 hv2 => ?_⟩
        have hE : doM 15 [(.mk k0 g0 l0 b0 s0 its0 tls0)] = (dBool false, 0) := by rw [hD, show doK 15 (.mk k0 g0 l0 b0 s0 its0 tls0) [] = (dBool (decide (k0 = 5 ∧ its0.length ≠ 0)), 0) from rfl, decide_eq_false (fun h6 => h5 h6.1)]
        obtain ⟨c, rfl, hc1, hc2, hc3, hc⟩ := fin v T2 0 ((Ext.add _).trans hT2) (by rw [hE]) (by rw [hE]; exact hv2)
        have gD := (gC.ext ((Ext.add _).trans hT2)).get
        have gE := (gC.ext ((Ext.add _).trans hT2)).lt
        simp (disch:=first|assumption|omega|(simp only [lens];omega)) only [eqs,↓gvd_succ,↓gvd_zero,↓and_of,im_of,im_of trivial,vlt,hP,hst,initS,Nat.reduceBEq,Nat.reduceAdd,Nat.reduceMul,Nat.reduceSub,Nat.reduceDiv,Nat.reduceMod,Nat.reducePow,Nat.reduceLT,Nat.reduceLeDiff,Nat.reduceEqDiff,Int.reduceAdd,Int.reduceSub,Int.reduceNeg,Int.reduceMul,Int.reduceToNat,Int.reducePow,Int.reduceLE,Int.reduceLT,Int.reduceEq,Int.reduceNe,reduceIte,reduceCtorEq,ne_eq,not_true_eq_false,not_false_eq_true,imp_self,implies_true,bls,eq_self,gD,gE,hX,hc1,hc2,hc3,take7 hc2,List.append_nil,zD7]
        exact hc
    · simp (disch:=first|assumption|omega|(simp only [lens];omega)) only [eqs,↓gvd_succ,↓gvd_zero,↓and_of,im_of,im_of trivial,vlt,hP,hst,initS,Nat.reduceBEq,Nat.reduceAdd,Nat.reduceMul,Nat.reduceSub,Nat.reduceDiv,Nat.reduceMod,Nat.reducePow,Nat.reduceLT,Nat.reduceLeDiff,Nat.reduceEqDiff,Int.reduceAdd,Int.reduceSub,Int.reduceNeg,Int.reduceMul,Int.reduceToNat,Int.reducePow,Int.reduceLE,Int.reduceLT,Int.reduceEq,Int.reduceNe,reduceIte,reduceCtorEq,ne_eq,not_true_eq_false,not_false_eq_true,imp_self,implies_true,bls,eq_self,hs,q1,q2,q3,hXT,zD_map,zD7,List.append_nil,sx2]
      refine E_call (hP ▸ s_Do1) ⟨1, k0, _, _, rfl, At.mk0, fun v T2 hT2 hv2 => ?_⟩
      have hE : doM 16 [(.mk k0 g0 l0 b0 s0 its0 tls0)] = (dBool (decide (k0 = 1)), 0) := by rw [hD]; rfl
      simp (disch:=first|assumption|omega|(simp only [lens];omega)) only [eqs,↓gvd_succ,↓gvd_zero,↓and_of,im_of,im_of trivial,vlt,hP,hst,initS,Nat.reduceBEq,Nat.reduceAdd,Nat.reduceMul,Nat.reduceSub,Nat.reduceDiv,Nat.reduceMod,Nat.reducePow,Nat.reduceLT,Nat.reduceLeDiff,Nat.reduceEqDiff,Int.reduceAdd,Int.reduceSub,Int.reduceNeg,Int.reduceMul,Int.reduceToNat,Int.reducePow,Int.reduceLE,Int.reduceLT,Int.reduceEq,Int.reduceNe,reduceIte,reduceCtorEq,ne_eq,not_true_eq_false,not_false_eq_true,imp_self,implies_true,bls,eq_self]
      obtain ⟨c, rfl, hc1, hc2, hc3, hc⟩ := fin v T2 0 ((Ext.add _).trans hT2) (by rw [hE]) (by rw [hE]; exact hv2)
      have gD := (gC.ext ((Ext.add _).trans hT2)).get
      have gE := (gC.ext ((Ext.add _).trans hT2)).lt
      simp (disch:=first|assumption|omega|(simp only [lens];omega)) only [eqs,↓gvd_succ,↓gvd_zero,↓and_of,im_of,im_of trivial,vlt,hP,hst,initS,Nat.reduceBEq,Nat.reduceAdd,Nat.reduceMul,Nat.reduceSub,Nat.reduceDiv,Nat.reduceMod,Nat.reducePow,Nat.reduceLT,Nat.reduceLeDiff,Nat.reduceEqDiff,Int.reduceAdd,Int.reduceSub,Int.reduceNeg,Int.reduceMul,Int.reduceToNat,Int.reducePow,Int.reduceLE,Int.reduceLT,Int.reduceEq,Int.reduceNe,reduceIte,reduceCtorEq,ne_eq,not_true_eq_false,not_false_eq_true,imp_self,implies_true,bls,eq_self,gD,gE,hX,hc1,hc2,hc3,take7 hc2,List.append_nil,zD7]
      exact hc
    · simp (disch:=first|assumption|omega|(simp only [lens];omega)) only [eqs,↓gvd_succ,↓gvd_zero,↓and_of,im_of,im_of trivial,vlt,hP,hst,initS,Nat.reduceBEq,Nat.reduceAdd,Nat.reduceMul,Nat.reduceSub,Nat.reduceDiv,Nat.reduceMod,Nat.reducePow,Nat.reduceLT,Nat.reduceLeDiff,Nat.reduceEqDiff,Int.reduceAdd,Int.reduceSub,Int.reduceNeg,Int.reduceMul,Int.reduceToNat,Int.reducePow,Int.reduceLE,Int.reduceLT,Int.reduceEq,Int.reduceNe,reduceIte,reduceCtorEq,ne_eq,not_true_eq_false,not_false_eq_true,imp_self,implies_true,bls,eq_self,hs,q1,q2,q3,hXT,zD_map,zD7,List.append_nil,sx2]
      refine E_call (hP ▸ s_Do1) ⟨3, k0, _, _, rfl, At.mk0, fun v T2 hT2 hv2 => ?_⟩
      have hE : doM 17 [(.mk k0 g0 l0 b0 s0 its0 tls0)] = (dBool (decide (k0 = 3)), 0) := by rw [hD]; rfl
      simp (disch:=first|assumption|omega|(simp only [lens];omega)) only [eqs,↓gvd_succ,↓gvd_zero,↓and_of,im_of,im_of trivial,vlt,hP,hst,initS,Nat.reduceBEq,Nat.reduceAdd,Nat.reduceMul,Nat.reduceSub,Nat.reduceDiv,Nat.reduceMod,Nat.reducePow,Nat.reduceLT,Nat.reduceLeDiff,Nat.reduceEqDiff,Int.reduceAdd,Int.reduceSub,Int.reduceNeg,Int.reduceMul,Int.reduceToNat,Int.reducePow,Int.reduceLE,Int.reduceLT,Int.reduceEq,Int.reduceNe,reduceIte,reduceCtorEq,ne_eq,not_true_eq_false,not_false_eq_true,imp_self,implies_true,bls,eq_self]
      obtain ⟨c, rfl, hc1, hc2, hc3, hc⟩ := fin v T2 0 ((Ext.add _).trans hT2) (by rw [hE]) (by rw [hE]; exact hv2)
      have gD := (gC.ext ((Ext.add _).trans hT2)).get
      have gE := (gC.ext ((Ext.add _).trans hT2)).lt
      simp (disch:=first|assumption|omega|(simp only [lens];omega)) only [eqs,↓gvd_succ,↓gvd_zero,↓and_of,im_of,im_of trivial,vlt,hP,hst,initS,Nat.reduceBEq,Nat.reduceAdd,Nat.reduceMul,Nat.reduceSub,Nat.reduceDiv,Nat.reduceMod,Nat.reducePow,Nat.reduceLT,Nat.reduceLeDiff,Nat.reduceEqDiff,Int.reduceAdd,Int.reduceSub,Int.reduceNeg,Int.reduceMul,Int.reduceToNat,Int.reducePow,Int.reduceLE,Int.reduceLT,Int.reduceEq,Int.reduceNe,reduceIte,reduceCtorEq,ne_eq,not_true_eq_false,not_false_eq_true,imp_self,implies_true,bls,eq_self,gD,gE,hX,hc1,hc2,hc3,take7 hc2,List.append_nil,zD7]
      exact hc
    · simp (disch:=first|assumption|omega|(simp only [lens];omega)) only [eqs,↓gvd_succ,↓gvd_zero,↓and_of,im_of,im_of trivial,vlt,hP,hst,initS,Nat.reduceBEq,Nat.reduceAdd,Nat.reduceMul,Nat.reduceSub,Nat.reduceDiv,Nat.reduceMod,Nat.reducePow,Nat.reduceLT,Nat.reduceLeDiff,Nat.reduceEqDiff,Int.reduceAdd,Int.reduceSub,Int.reduceNeg,Int.reduceMul,Int.reduceToNat,Int.reducePow,Int.reduceLE,Int.reduceLT,Int.reduceEq,Int.reduceNe,reduceIte,reduceCtorEq,ne_eq,not_true_eq_false,not_false_eq_true,imp_self,implies_true,bls,eq_self,hs,q1,q2,q3,hXT,zD_map,zD7,List.append_nil,sx2]
      refine E_call (hP ▸ s_Do1) ⟨4, k0, _, _, rfl, At.mk0, fun v T2 hT2 hv2 => ?_⟩
      have hE : doM 18 [(.mk k0 g0 l0 b0 s0 its0 tls0)] = (dBool (decide (k0 = 4)), 0) := by rw [hD]; rfl
      simp (disch:=first|assumption|omega|(simp only [lens];omega)) only [eqs,↓gvd_succ,↓gvd_zero,↓and_of,im_of,im_of trivial,vlt,hP,hst,initS,Nat.reduceBEq,Nat.reduceAdd,Nat.reduceMul,Nat.reduceSub,Nat.reduceDiv,Nat.reduceMod,Nat.reducePow,Nat.reduceLT,Nat.reduceLeDiff,Nat.reduceEqDiff,Int.reduceAdd,Int.reduceSub,Int.reduceNeg,Int.reduceMul,Int.reduceToNat,Int.reducePow,Int.reduceLE,Int.reduceLT,Int.reduceEq,Int.reduceNe,reduceIte,reduceCtorEq,ne_eq,not_true_eq_false,not_false_eq_true,imp_self,implies_true,bls,eq_self]
      obtain ⟨c, rfl, hc1, hc2, hc3, hc⟩ := fin v T2 0 ((Ext.add _).trans hT2) (by rw [hE]) (by rw [hE]; exact hv2)
      have gD := (gC.ext ((Ext.add _).trans hT2)).get
      have gE := (gC.ext ((Ext.add _).trans hT2)).lt
      simp (disch:=first|assumption|omega|(simp only [lens];omega)) only [eqs,↓gvd_succ,↓gvd_zero,↓and_of,im_of,im_of trivial,vlt,hP,hst,initS,Nat.reduceBEq,Nat.reduceAdd,Nat.reduceMul,Nat.reduceSub,Nat.reduceDiv,Nat.reduceMod,Nat.reducePow,Nat.reduceLT,Nat.reduceLeDiff,Nat.reduceEqDiff,Int.reduceAdd,Int.reduceSub,Int.reduceNeg,Int.reduceMul,Int.reduceToNat,Int.reducePow,Int.reduceLE,Int.reduceLT,Int.reduceEq,Int.reduceNe,reduceIte,reduceCtorEq,ne_eq,not_true_eq_false,not_false_eq_true,imp_self,implies_true,bls,eq_self,gD,gE,hX,hc1,hc2,hc3,take7 hc2,List.append_nil,zD7]
      exact hc
    · simp (disch:=first|assumption|omega|(simp only [lens];omega)) only [eqs,↓gvd_succ,↓gvd_zero,↓and_of,im_of,im_of trivial,vlt,hP,hst,initS,Nat.reduceBEq,Nat.reduceAdd,Nat.reduceMul,Nat.reduceSub,Nat.reduceDiv,Nat.reduceMod,Nat.reducePow,Nat.reduceLT,Nat.reduceLeDiff,Nat.reduceEqDiff,Int.reduceAdd,Int.reduceSub,Int.reduceNeg,Int.reduceMul,Int.reduceToNat,Int.reducePow,Int.reduceLE,Int.reduceLT,Int.reduceEq,Int.reduceNe,reduceIte,reduceCtorEq,ne_eq,not_true_eq_false,not_false_eq_true,imp_self,implies_true,bls,eq_self,hs,q1,q2,q3,hXT,zD_map,zD7,List.append_nil,sx2]
      refine E_call (hP ▸ s_Do1) ⟨2, k0, _, _, rfl, At.mk0, fun v T2 hT2 hv2 => ?_⟩
      have hE : doM 19 [(.mk k0 g0 l0 b0 s0 its0 tls0)] = (dBool (decide (k0 = 2)), 0) := by rw [hD]; rfl
      simp (disch:=first|assumption|omega|(simp only [lens];omega)) only [eqs,↓gvd_succ,↓gvd_zero,↓and_of,im_of,im_of trivial,vlt,hP,hst,initS,Nat.reduceBEq,Nat.reduceAdd,Nat.reduceMul,Nat.reduceSub,Nat.reduceDiv,Nat.reduceMod,Nat.reducePow,Nat.reduceLT,Nat.reduceLeDiff,Nat.reduceEqDiff,Int.reduceAdd,Int.reduceSub,Int.reduceNeg,Int.reduceMul,Int.reduceToNat,Int.reducePow,Int.reduceLE,Int.reduceLT,Int.reduceEq,Int.reduceNe,reduceIte,reduceCtorEq,ne_eq,not_true_eq_false,not_false_eq_true,imp_self,implies_true,bls,eq_self]
      obtain ⟨c, rfl, hc1, hc2, hc3, hc⟩ := fin v T2 0 ((Ext.add _).trans hT2) (by rw [hE]) (by rw [hE]; exact hv2)
      have gD := (gC.ext ((Ext.add _).trans hT2)).get
      have gE := (gC.ext ((Ext.add _).trans hT2)).lt
      simp (disch:=first|assumption|omega|(simp only [lens];omega)) only [eqs,↓gvd_succ,↓gvd_zero,↓and_of,im_of,im_of trivial,vlt,hP,hst,initS,Nat.reduceBEq,Nat.reduceAdd,Nat.reduceMul,Nat.reduceSub,Nat.reduceDiv,Nat.reduceMod,Nat.reducePow,Nat.reduceLT,Nat.reduceLeDiff,Nat.reduceEqDiff,Int.reduceAdd,Int.reduceSub,Int.reduceNeg,Int.reduceMul,Int.reduceToNat,Int.reducePow,Int.reduceLE,Int.reduceLT,Int.reduceEq,Int.reduceNe,reduceIte,reduceCtorEq,ne_eq,not_true_eq_false,not_false_eq_true,imp_self,implies_true,bls,eq_self,gD,gE,hX,hc1,hc2,hc3,take7 hc2,List.append_nil,zD7]
      exact hc
    · simp (disch:=first|assumption|omega|(simp only [lens];omega)) only [eqs,↓gvd_succ,↓gvd_zero,↓and_of,im_of,im_of trivial,vlt,hP,hst,initS,Nat.reduceBEq,Nat.reduceAdd,Nat.reduceMul,Nat.reduceSub,Nat.reduceDiv,Nat.reduceMod,Nat.reducePow,Nat.reduceLT,Nat.reduceLeDiff,Nat.reduceEqDiff,Int.reduceAdd,Int.reduceSub,Int.reduceNeg,Int.reduceMul,Int.reduceToNat,Int.reducePow,Int.reduceLE,Int.reduceLT,Int.reduceEq,Int.reduceNe,reduceIte,reduceCtorEq,ne_eq,not_true_eq_false,not_false_eq_true,imp_self,implies_true,bls,eq_self,hs,q1,q2,q3,hXT,zD_map,zD7,List.append_nil,sx2]
      refine E_call (hP ▸ s_True) ⟨_, _, rfl, t0.ext (.add _), fun T1 hT1 => ?_⟩
      simp (disch:=first|assumption|omega|(simp only [lens];omega)) only [eqs,↓gvd_succ,↓gvd_zero,↓and_of,im_of,im_of trivial,vlt,hP,hst,initS,Nat.reduceBEq,Nat.reduceAdd,Nat.reduceMul,Nat.reduceSub,Nat.reduceDiv,Nat.reduceMod,Nat.reducePow,Nat.reduceLT,Nat.reduceLeDiff,Nat.reduceEqDiff,Int.reduceAdd,Int.reduceSub,Int.reduceNeg,Int.reduceMul,Int.reduceToNat,Int.reducePow,Int.reduceLE,Int.reduceLT,Int.reduceEq,Int.reduceNe,reduceIte,reduceCtorEq,ne_eq,not_true_eq_false,not_false_eq_true,imp_self,implies_true,bls,eq_self]
      refine E_call (hP ▸ s_Truth) ⟨_, rfl, fun v T2 hT2 hv2 => ?_⟩
      have hT2 := hT1.trans hT2
      have hE : doM 22 [(.mk k0 g0 l0 b0 s0 its0 tls0)] = (dBool (!trM (.mk k0 g0 l0 b0 s0 its0 tls0)), 0) := by rw [hD]; rfl
      obtain ⟨c, rfl, hc1, hc2, hc3, hc⟩ := fin v T2 0 ((Ext.add _).trans hT2) (by rw [hE]) (by rw [hE]; exact hv2)
      have gD := (gC.ext ((Ext.add _).trans hT2)).get
      have gE := (gC.ext ((Ext.add _).trans hT2)).lt
      simp (disch:=first|assumption|omega|(simp only [lens];omega)) only [eqs,↓gvd_succ,↓gvd_zero,↓and_of,im_of,im_of trivial,vlt,hP,hst,initS,Nat.reduceBEq,Nat.reduceAdd,Nat.reduceMul,Nat.reduceSub,Nat.reduceDiv,Nat.reduceMod,Nat.reducePow,Nat.reduceLT,Nat.reduceLeDiff,Nat.reduceEqDiff,Int.reduceAdd,Int.reduceSub,Int.reduceNeg,Int.reduceMul,Int.reduceToNat,Int.reducePow,Int.reduceLE,Int.reduceLT,Int.reduceEq,Int.reduceNe,reduceIte,reduceCtorEq,ne_eq,not_true_eq_false,not_false_eq_true,imp_self,implies_true,bls,eq_self,gD,gE,hX,hc1,hc2,hc3,take7 hc2,List.append_nil,zD7]
      exact hc
    · simp (disch:=first|assumption|omega|(simp only [lens];omega)) only [eqs,↓gvd_succ,↓gvd_zero,↓and_of,im_of,im_of trivial,vlt,hP,hst,initS,Nat.reduceBEq,Nat.reduceAdd,Nat.reduceMul,Nat.reduceSub,Nat.reduceDiv,Nat.reduceMod,Nat.reducePow,Nat.reduceLT,Nat.reduceLeDiff,Nat.reduceEqDiff,Int.reduceAdd,Int.reduceSub,Int.reduceNeg,Int.reduceMul,Int.reduceToNat,Int.reducePow,Int.reduceLE,Int.reduceLT,Int.reduceEq,Int.reduceNe,reduceIte,reduceCtorEq,ne_eq,not_true_eq_false,not_false_eq_true,imp_self,implies_true,bls,eq_self,hs,q1,q2,q3,hXT,zD_map,zD7,List.append_nil,sx2]
      refine E_call (hP ▸ s_texts) ⟨23, _, _, rfl, hy2.ext (e0.trans (.add _)), .inl ⟨rfl, rfl⟩, fun d hd => (hok d hd).2.2.2, fun v T2 hT2 hv2 => ?_⟩
      have hE : doM 23 [(.mk k0 g0 l0 b0 s0 its0 tls0)] = textsM 23 [(.mk k0 g0 l0 b0 s0 its0 tls0)] := by rw [hD]; rfl
      obtain ⟨c, rfl, hc1, hc2, hc3, hc⟩ := fin v T2 _ ((Ext.add _).trans hT2) (by rw [hE]) (by rw [hE]; exact hv2)
      have gD := (gC.ext ((Ext.add _).trans hT2)).get
      have gE := (gC.ext ((Ext.add _).trans hT2)).lt
      simp (disch:=first|assumption|omega|(simp only [lens];omega)) only [eqs,↓gvd_succ,↓gvd_zero,↓and_of,im_of,im_of trivial,vlt,hP,hst,initS,Nat.reduceBEq,Nat.reduceAdd,Nat.reduceMul,Nat.reduceSub,Nat.reduceDiv,Nat.reduceMod,Nat.reducePow,Nat.reduceLT,Nat.reduceLeDiff,Nat.reduceEqDiff,Int.reduceAdd,Int.reduceSub,Int.reduceNeg,Int.reduceMul,Int.reduceToNat,Int.reducePow,Int.reduceLE,Int.reduceLT,Int.reduceEq,Int.reduceNe,reduceIte,reduceCtorEq,ne_eq,not_true_eq_false,not_false_eq_true,imp_self,implies_true,bls,eq_self,gD,gE,hX,hc1,hc2,hc3,take7 hc2,List.append_nil,zD7]
      exact hc
    · simp (disch:=first|assumption|omega|(simp only [lens];omega)) only [eqs,↓gvd_succ,↓gvd_zero,↓and_of,im_of,im_of trivial,vlt,hP,hst,initS,Nat.reduceBEq,Nat.reduceAdd,Nat.reduceMul,Nat.reduceSub,Nat.reduceDiv,Nat.reduceMod,Nat.reducePow,Nat.reduceLT,Nat.reduceLeDiff,Nat.reduceEqDiff,Int.reduceAdd,Int.reduceSub,Int.reduceNeg,Int.reduceMul,Int.reduceToNat,Int.reducePow,Int.reduceLE,Int.reduceLT,Int.reduceEq,Int.reduceNe,reduceIte,reduceCtorEq,ne_eq,not_true_eq_false,not_false_eq_true,imp_self,implies_true,bls,eq_self,hs,q1,q2,q3,hXT,zD_map,zD7,List.append_nil,sx2]
      refine E_call (hP ▸ s_text1) ⟨_, _, 3, _, _, rfl, t0.ext (.add _), w0, s_Do2, fun h5 v T2 hT2 hv2 => ?_, fun h5 v T2 hT2 hv2 => ?_⟩
      · have h5 : ¬k0 = 3 := h5
        have hE : doM 26 [(.mk k0 g0 l0 b0 s0 its0 tls0)] = (dNil, 6) := by rw [hD, show doK 26 (.mk k0 g0 l0 b0 s0 its0 tls0) [] = (if k0 = 3 then (dStr s0, 0) else (dNil, 6)) from rfl, if_neg h5]
        obtain ⟨c, rfl, hc1, hc2, hc3, hc⟩ := fin v T2 6 ((Ext.add _).trans hT2) (by rw [hE]) (by rw [hE]; exact hv2)
        have gD := (gC.ext ((Ext.add _).trans hT2)).get
        have gE := (gC.ext ((Ext.add _).trans hT2)).lt
        simp (disch:=first|assumption|omega|(simp only [lens];omega)) only [eqs,↓gvd_succ,↓gvd_zero,↓and_of,im_of,im_of trivial,vlt,hP,hst,initS,Nat.reduceBEq,Nat.reduceAdd,Nat.reduceMul,Nat.reduceSub,Nat.reduceDiv,Nat.reduceMod,Nat.reducePow,Nat.reduceLT,Nat.reduceLeDiff,Nat.reduceEqDiff,Int.reduceAdd,Int.reduceSub,Int.reduceNeg,Int.reduceMul,Int.reduceToNat,Int.reducePow,Int.reduceLE,Int.reduceLT,Int.reduceEq,Int.reduceNe,reduceIte,reduceCtorEq,ne_eq,not_true_eq_false,not_false_eq_true,imp_self,implies_true,bls,eq_self,gD,gE,hX,hc1,hc2,hc3,take7 hc2,List.append_nil,zD7]
        exact hc
      · have h5 : k0 = 3 := h5
        have hE : doM 26 [(.mk k0 g0 l0 b0 s0 its0 tls0)] = (dStr s0, 0) := by rw [hD, show doK 26 (.mk k0 g0 l0 b0 s0 its0 tls0) [] = (if k0 = 3 then (dStr s0, 0) else (dNil, 6)) from rfl, if_pos h5]
        obtain ⟨c, rfl, hc1, hc2, hc3, hc⟩ := fin v T2 0 ((Ext.add _).trans hT2) (by rw [hE]) (by rw [hE]; exact hv2)
        have gD := (gC.ext ((Ext.add _).trans hT2)).get
        have gE := (gC.ext ((Ext.add _).trans hT2)).lt
        simp (disch:=first|assumption|omega|(simp only [lens];omega)) only [eqs,↓gvd_succ,↓gvd_zero,↓and_of,im_of,im_of trivial,vlt,hP,hst,initS,Nat.reduceBEq,Nat.reduceAdd,Nat.reduceMul,Nat.reduceSub,Nat.reduceDiv,Nat.reduceMod,Nat.reducePow,Nat.reduceLT,Nat.reduceLeDiff,Nat.reduceEqDiff,Int.reduceAdd,Int.reduceSub,Int.reduceNeg,Int.reduceMul,Int.reduceToNat,Int.reducePow,Int.reduceLE,Int.reduceLT,Int.reduceEq,Int.reduceNe,reduceIte,reduceCtorEq,ne_eq,not_true_eq_false,not_false_eq_true,imp_self,implies_true,bls,eq_self,gD,gE,hX,hc1,hc2,hc3,take7 hc2,List.append_nil,zD7]
        exact hc
    · simp (disch:=first|assumption|omega|(simp only [lens];omega)) only [eqs,↓gvd_succ,↓gvd_zero,↓and_of,im_of,im_of trivial,vlt,hP,hst,initS,Nat.reduceBEq,Nat.reduceAdd,Nat.reduceMul,Nat.reduceSub,Nat.reduceDiv,Nat.reduceMod,Nat.reducePow,Nat.reduceLT,Nat.reduceLeDiff,Nat.reduceEqDiff,Int.reduceAdd,Int.reduceSub,Int.reduceNeg,Int.reduceMul,Int.reduceToNat,Int.reducePow,Int.reduceLE,Int.reduceLT,Int.reduceEq,Int.reduceNe,reduceIte,reduceCtorEq,ne_eq,not_true_eq_false,not_false_eq_true,imp_self,implies_true,bls,eq_self,hs,q1,q2,q3,hXT,zD_map,zD7,List.append_nil,sx2]
      refine E_call (hP ▸ s_text1) ⟨_, _, 1, _, _, rfl, t0.ext (.add _), w0, s_Do3, fun h5 v T2 hT2 hv2 => ?_, fun h5 v T2 hT2 hv2 => ?_⟩
      · have h5 : ¬k0 = 1 := h5
        have hE : doM 27 [(.mk k0 g0 l0 b0 s0 its0 tls0)] = (dNil, 6) := by rw [hD, show doK 27 (.mk k0 g0 l0 b0 s0 its0 tls0) [] = (if k0 = 1 then (dStr (bstr (txtI (iv g0 (val l0)))), 0) else (dNil, 6)) from rfl, if_neg h5]
        obtain ⟨c, rfl, hc1, hc2, hc3, hc⟩ := fin v T2 6 ((Ext.add _).trans hT2) (by rw [hE]) (by rw [hE]; exact hv2)
        have gD := (gC.ext ((Ext.add _).trans hT2)).get
        have gE := (gC.ext ((Ext.add _).trans hT2)).lt
        simp (disch:=first|assumption|omega|(simp only [lens];omega)) only [eqs,↓gvd_succ,↓gvd_zero,↓and_of,im_of,im_of trivial,vlt,hP,hst,initS,Nat.reduceBEq,Nat.reduceAdd,Nat.reduceMul,Nat.reduceSub,Nat.reduceDiv,Nat.reduceMod,Nat.reducePow,Nat.reduceLT,Nat.reduceLeDiff,Nat.reduceEqDiff,Int.reduceAdd,Int.reduceSub,Int.reduceNeg,Int.reduceMul,Int.reduceToNat,Int.reducePow,Int.reduceLE,Int.reduceLT,Int.reduceEq,Int.reduceNe,reduceIte,reduceCtorEq,ne_eq,not_true_eq_false,not_false_eq_true,imp_self,implies_true,bls,eq_self,gD,gE,hX,hc1,hc2,hc3,take7 hc2,List.append_nil,zD7]
        exact hc
      · have h5 : k0 = 1 := h5
        have hE : doM 27 [(.mk k0 g0 l0 b0 s0 its0 tls0)] = (dStr (bstr (txtI (iv g0 (val l0)))), 0) := by rw [hD, show doK 27 (.mk k0 g0 l0 b0 s0 its0 tls0) [] = (if k0 = 1 then (dStr (bstr (txtI (iv g0 (val l0)))), 0) else (dNil, 6)) from rfl, if_pos h5]
        obtain ⟨c, rfl, hc1, hc2, hc3, hc⟩ := fin v T2 0 ((Ext.add _).trans hT2) (by rw [hE]) (by rw [hE]; exact hv2)
        have gD := (gC.ext ((Ext.add _).trans hT2)).get
        have gE := (gC.ext ((Ext.add _).trans hT2)).lt
        simp (disch:=first|assumption|omega|(simp only [lens];omega)) only [eqs,↓gvd_succ,↓gvd_zero,↓and_of,im_of,im_of trivial,vlt,hP,hst,initS,Nat.reduceBEq,Nat.reduceAdd,Nat.reduceMul,Nat.reduceSub,Nat.reduceDiv,Nat.reduceMod,Nat.reducePow,Nat.reduceLT,Nat.reduceLeDiff,Nat.reduceEqDiff,Int.reduceAdd,Int.reduceSub,Int.reduceNeg,Int.reduceMul,Int.reduceToNat,Int.reducePow,Int.reduceLE,Int.reduceLT,Int.reduceEq,Int.reduceNe,reduceIte,reduceCtorEq,ne_eq,not_true_eq_false,not_false_eq_true,imp_self,implies_true,bls,eq_self,gD,gE,hX,hc1,hc2,hc3,take7 hc2,List.append_nil,zD7]
        exact hc
end Go.Proofs.Pv

/- The laws' helpers: what is light; the document's examples. -/
namespace Go.Proofs.Pv
open Go Go.RowKit Go.Proofs
set_option maxRecDepth 20000

def light1 (d : Dt) : Prop := d.sz ≤ 100 ∧ d.dp ≤ 30 ∧ d.lm.length ≤ 66 ∧ d.tx.size ≤ 1100
def lightM (ds : List Dt) : Prop := ds.length ≤ 10 ∧ ∀ d ∈ ds, light1 d
def RLight (xs : List AV) (st : St) (K : AV → St → Prop) : Prop := ∃ y ds, xs = [y] ∧ DS st y ds ∧ (lightM ds → anyw st (.bool true) K) ∧ (¬lightM ds → anyw st (.bool false) K)
theorem s_light : PSpec Tryz.prog 4 RLight := by
  refine fspec_of (fn := Tryz.f4) 1 [.tmp 2] (by kernel_rfl) rfl rfl (by kernel_rfl) mixed (by rintro _ _ _ ⟨y, ds, rfl, _⟩; rfl) ?_
  rintro X _ st K hP hst ⟨y, ds, rfl, hy, hK1, hK0⟩
  have hX : X.st1.length ≤ st.length := by rw [hst]; omega
  obtain ⟨cs, hsl, _, _⟩ := hy.inv
  refine vc_V ?_
  simp (disch:=first|assumption|omega|(simp only [lens];omega)) only [eqs,↓gvd_succ,↓gvd_zero,↓and_of,im_of,im_of trivial,vlt,hP,hst,initS,Nat.reduceBEq,Nat.reduceAdd,Nat.reduceMul,Nat.reduceSub,Nat.reduceDiv,Nat.reduceMod,Nat.reducePow,Nat.reduceLT,Nat.reduceLeDiff,Nat.reduceEqDiff,Int.reduceAdd,Int.reduceSub,Int.reduceNeg,Int.reduceMul,Int.reduceToNat,Int.reducePow,Int.reduceLE,Int.reduceLT,Int.reduceEq,Int.reduceNe,reduceIte,reduceCtorEq,ne_eq,not_true_eq_false,not_false_eq_true,imp_self,implies_true,bls,eq_self,hsl]
  refine fun hlen => ?_
  refine C_dec (fun h => ?_) (fun h => ?_)
  · simp (disch:=first|assumption|omega|(simp only [lens];omega)) only [eqs,↓gvd_succ,↓gvd_zero,↓and_of,im_of,im_of trivial,vlt,hP,hst,initS,Nat.reduceBEq,Nat.reduceAdd,Nat.reduceMul,Nat.reduceSub,Nat.reduceDiv,Nat.reduceMod,Nat.reducePow,Nat.reduceLT,Nat.reduceLeDiff,Nat.reduceEqDiff,Int.reduceAdd,Int.reduceSub,Int.reduceNeg,Int.reduceMul,Int.reduceToNat,Int.reducePow,Int.reduceLE,Int.reduceLT,Int.reduceEq,Int.reduceNe,reduceIte,reduceCtorEq,ne_eq,not_true_eq_false,not_false_eq_true,imp_self,implies_true,bls,eq_self]
    exact hK0 (fun h2 => by have := h2.1; omega) _ .refl
  simp (disch:=first|assumption|omega|(simp only [lens];omega)) only [eqs,↓gvd_succ,↓gvd_zero,↓and_of,im_of,im_of trivial,vlt,hP,hst,initS,Nat.reduceBEq,Nat.reduceAdd,Nat.reduceMul,Nat.reduceSub,Nat.reduceDiv,Nat.reduceMod,Nat.reducePow,Nat.reduceLT,Nat.reduceLeDiff,Nat.reduceEqDiff,Int.reduceAdd,Int.reduceSub,Int.reduceNeg,Int.reduceMul,Int.reduceToNat,Int.reducePow,Int.reduceLE,Int.reduceLT,Int.reduceEq,Int.reduceNe,reduceIte,reduceCtorEq,ne_eq,not_true_eq_false,not_false_eq_true,imp_self,implies_true,bls,eq_self,hsl]
  refine V_loop (ι := Nat × St) (fun e => [(10, .val (.int .i64 (e.1 : Int))), (9, .val (.int .i64 (ds.length : Int))), (8, y)]) (fun e => e.2)
    (fun e => Ext st e.2 ∧ e.1 ≤ ds.length ∧ ∀ (j : Nat) d, j < e.1 → ds[j]? = some d → light1 d) (fun e => ds.length - e.1) (0, st) ⟨.refl, by simp, by simp⟩ rfl (by simp (disch:=first|assumption|omega|(simp only [lens];omega)) only [eqs,↓gvd_succ,↓gvd_zero,↓and_of,im_of,im_of trivial,vlt,hP,hst,initS,Nat.reduceBEq,Nat.reduceAdd,Nat.reduceMul,Nat.reduceSub,Nat.reduceDiv,Nat.reduceMod,Nat.reducePow,Nat.reduceLT,Nat.reduceLeDiff,Nat.reduceEqDiff,Int.reduceAdd,Int.reduceSub,Int.reduceNeg,Int.reduceMul,Int.reduceToNat,Int.reducePow,Int.reduceLE,Int.reduceLT,Int.reduceEq,Int.reduceNe,reduceIte,reduceCtorEq,ne_eq,not_true_eq_false,not_false_eq_true,imp_self,implies_true,bls,eq_self] <;> rfl) ?_
  rintro ⟨i, T⟩ ⟨hT, hi, hj⟩
  dsimp only at hT hi hj ⊢
  simp (disch:=first|assumption|omega|(simp only [lens];omega)) only [eqs,↓gvd_succ,↓gvd_zero,↓and_of,im_of,im_of trivial,vlt,hP,hst,initS,Nat.reduceBEq,Nat.reduceAdd,Nat.reduceMul,Nat.reduceSub,Nat.reduceDiv,Nat.reduceMod,Nat.reducePow,Nat.reduceLT,Nat.reduceLeDiff,Nat.reduceEqDiff,Int.reduceAdd,Int.reduceSub,Int.reduceNeg,Int.reduceMul,Int.reduceToNat,Int.reducePow,Int.reduceLE,Int.reduceLT,Int.reduceEq,Int.reduceNe,reduceIte,reduceCtorEq,ne_eq,not_true_eq_false,not_false_eq_true,imp_self,implies_true,bls,eq_self]
  refine C_dec (fun h1 => ?_) (fun h1 => ?_)
  · obtain ⟨cs, c, d, hsl, hcl, hc, hc7, hca, he, hec, hb1, hb2⟩ := (hy.ext hT).at (i := i) (by omega)
    have hdm := List.mem_of_getElem? he
    have hXl := Nat.le_trans hX hT.len
    cases hec with
    | @mk k g a l b s x z its tls ha hx hz =>
    have e1 : Ext T (T ++ [some [.val (.int .i64 k), .val (.bool g), a, .val (.bool b), .val (.string s), x, z]]) := .add _
    simp (disch:=first|assumption|omega|(simp only [lens];omega)) only [eqs,↓gvd_succ,↓gvd_zero,↓and_of,im_of,im_of trivial,vlt,hP,hst,initS,Nat.reduceBEq,Nat.reduceAdd,Nat.reduceMul,Nat.reduceSub,Nat.reduceDiv,Nat.reduceMod,Nat.reducePow,Nat.reduceLT,Nat.reduceLeDiff,Nat.reduceEqDiff,Int.reduceAdd,Int.reduceSub,Int.reduceNeg,Int.reduceMul,Int.reduceToNat,Int.reducePow,Int.reduceLE,Int.reduceLT,Int.reduceEq,Int.reduceNe,reduceIte,reduceCtorEq,ne_eq,not_true_eq_false,not_false_eq_true,imp_self,implies_true,bls,eq_self,hsl,hcl,hc,hca,zD_map,hXl,hb1,hb2]
    refine E_call (hP ▸ s_Small3) ⟨_, _, 100, 30, rfl, DA.mk' (ha.ext e1) (hx.ext e1) (hz.ext e1), by omega, by omega, fun T2 hT2 => ?_⟩
    have gA := (At.mk0.ext hT2).get
    have e2 : Ext st T2 := hT.trans (e1.trans hT2)
    have no : ¬light1 (.mk k g l b s its tls) → ¬lightM ds := fun h2 h3 => h2 (h3.2 _ hdm)
    have sa := (ha.ext (e1.trans hT2)).sl
    simp (disch:=first|assumption|omega|(simp only [lens];omega)) only [eqs,↓gvd_succ,↓gvd_zero,↓and_of,im_of,im_of trivial,vlt,hP,hst,initS,Nat.reduceBEq,Nat.reduceAdd,Nat.reduceMul,Nat.reduceSub,Nat.reduceDiv,Nat.reduceMod,Nat.reducePow,Nat.reduceLT,Nat.reduceLeDiff,Nat.reduceEqDiff,Int.reduceAdd,Int.reduceSub,Int.reduceNeg,Int.reduceMul,Int.reduceToNat,Int.reducePow,Int.reduceLE,Int.reduceLT,Int.reduceEq,Int.reduceNe,reduceIte,reduceCtorEq,ne_eq,not_true_eq_false,not_false_eq_true,imp_self,implies_true,bls,eq_self]
    refine G_ndec (fun h2 => ?_) (fun h2 => ?_)
    rotate_left
    · simp (disch:=first|assumption|omega|(simp only [lens];omega)) only [eqs,↓gvd_succ,↓gvd_zero,↓and_of,im_of,im_of trivial,vlt,hP,hst,initS,Nat.reduceBEq,Nat.reduceAdd,Nat.reduceMul,Nat.reduceSub,Nat.reduceDiv,Nat.reduceMod,Nat.reducePow,Nat.reduceLT,Nat.reduceLeDiff,Nat.reduceEqDiff,Int.reduceAdd,Int.reduceSub,Int.reduceNeg,Int.reduceMul,Int.reduceToNat,Int.reducePow,Int.reduceLE,Int.reduceLT,Int.reduceEq,Int.reduceNe,reduceIte,reduceCtorEq,ne_eq,not_true_eq_false,not_false_eq_true,imp_self,implies_true,bls,eq_self,h2]
      exact hK0 (no fun h3 => h2 ⟨h3.1, h3.2.1⟩) _ e2
    have h2 := Classical.not_not.1 h2
    simp (disch:=first|assumption|omega|(simp only [lens];omega)) only [eqs,↓gvd_succ,↓gvd_zero,↓and_of,im_of,im_of trivial,vlt,hP,hst,initS,Nat.reduceBEq,Nat.reduceAdd,Nat.reduceMul,Nat.reduceSub,Nat.reduceDiv,Nat.reduceMod,Nat.reducePow,Nat.reduceLT,Nat.reduceLeDiff,Nat.reduceEqDiff,Int.reduceAdd,Int.reduceSub,Int.reduceNeg,Int.reduceMul,Int.reduceToNat,Int.reducePow,Int.reduceLE,Int.reduceLT,Int.reduceEq,Int.reduceNe,reduceIte,reduceCtorEq,ne_eq,not_true_eq_false,not_false_eq_true,imp_self,implies_true,bls,eq_self,h2,gA,sa]
    refine fun _ => ?_
    refine G_ndec (fun h3 => ?_) (fun h3 => ?_)
    rotate_left
    · simp (disch:=first|assumption|omega|(simp only [lens];omega)) only [eqs,↓gvd_succ,↓gvd_zero,↓and_of,im_of,im_of trivial,vlt,hP,hst,initS,Nat.reduceBEq,Nat.reduceAdd,Nat.reduceMul,Nat.reduceSub,Nat.reduceDiv,Nat.reduceMod,Nat.reducePow,Nat.reduceLT,Nat.reduceLeDiff,Nat.reduceEqDiff,Int.reduceAdd,Int.reduceSub,Int.reduceNeg,Int.reduceMul,Int.reduceToNat,Int.reducePow,Int.reduceLE,Int.reduceLT,Int.reduceEq,Int.reduceNe,reduceIte,reduceCtorEq,ne_eq,not_true_eq_false,not_false_eq_true,imp_self,implies_true,bls,eq_self,h3]
      exact hK0 (no fun h4 => by have : l.length ≤ 66 := h4.2.2.1; omega) _ e2
    simp (disch:=first|assumption|omega|(simp only [lens];omega)) only [eqs,↓gvd_succ,↓gvd_zero,↓and_of,im_of,im_of trivial,vlt,hP,hst,initS,Nat.reduceBEq,Nat.reduceAdd,Nat.reduceMul,Nat.reduceSub,Nat.reduceDiv,Nat.reduceMod,Nat.reducePow,Nat.reduceLT,Nat.reduceLeDiff,Nat.reduceEqDiff,Int.reduceAdd,Int.reduceSub,Int.reduceNeg,Int.reduceMul,Int.reduceToNat,Int.reducePow,Int.reduceLE,Int.reduceLT,Int.reduceEq,Int.reduceNe,reduceIte,reduceCtorEq,ne_eq,not_true_eq_false,not_false_eq_true,imp_self,implies_true,bls,eq_self,h3,gA]
    refine C_dec (fun h4 => ?_) (fun h4 => ?_)
    · simp (disch:=first|assumption|omega|(simp only [lens];omega)) only [eqs,↓gvd_succ,↓gvd_zero,↓and_of,im_of,im_of trivial,vlt,hP,hst,initS,Nat.reduceBEq,Nat.reduceAdd,Nat.reduceMul,Nat.reduceSub,Nat.reduceDiv,Nat.reduceMod,Nat.reducePow,Nat.reduceLT,Nat.reduceLeDiff,Nat.reduceEqDiff,Int.reduceAdd,Int.reduceSub,Int.reduceNeg,Int.reduceMul,Int.reduceToNat,Int.reducePow,Int.reduceLE,Int.reduceLT,Int.reduceEq,Int.reduceNe,reduceIte,reduceCtorEq,ne_eq,not_true_eq_false,not_false_eq_true,imp_self,implies_true,bls,eq_self]
      exact hK0 (no fun h5 => by have : s.size ≤ 1100 := h5.2.2.2; rw [← sb_length] at this; omega) _ e2
    · simp (disch:=first|assumption|omega|(simp only [lens];omega)) only [eqs,↓gvd_succ,↓gvd_zero,↓and_of,im_of,im_of trivial,vlt,hP,hst,initS,Nat.reduceBEq,Nat.reduceAdd,Nat.reduceMul,Nat.reduceSub,Nat.reduceDiv,Nat.reduceMod,Nat.reducePow,Nat.reduceLT,Nat.reduceLeDiff,Nat.reduceEqDiff,Int.reduceAdd,Int.reduceSub,Int.reduceNeg,Int.reduceMul,Int.reduceToNat,Int.reducePow,Int.reduceLE,Int.reduceLT,Int.reduceEq,Int.reduceNe,reduceIte,reduceCtorEq,ne_eq,not_true_eq_false,not_false_eq_true,imp_self,implies_true,bls,eq_self]
      refine again (i + 1, T2) ⟨e2, by dsimp only; omega, fun j d' hj2 hd => ?_⟩ (by dsimp only; omega) rfl (by dsimp only; simp (disch:=first|assumption|omega|(simp only [lens];omega)) only [eqs,↓gvd_succ,↓gvd_zero,↓and_of,im_of,im_of trivial,vlt,hP,hst,initS,Nat.reduceBEq,Nat.reduceAdd,Nat.reduceMul,Nat.reduceSub,Nat.reduceDiv,Nat.reduceMod,Nat.reducePow,Nat.reduceLT,Nat.reduceLeDiff,Nat.reduceEqDiff,Int.reduceAdd,Int.reduceSub,Int.reduceNeg,Int.reduceMul,Int.reduceToNat,Int.reducePow,Int.reduceLE,Int.reduceLT,Int.reduceEq,Int.reduceNe,reduceIte,reduceCtorEq,ne_eq,not_true_eq_false,not_false_eq_true,imp_self,implies_true,bls,eq_self] <;> rfl)
      by_cases hji : j = i
      · subst hji
        rw [he] at hd; cases hd
        exact ⟨h2.1, h2.2, by show l.length ≤ 66; omega, by show s.size ≤ 1100; rw [← sb_length]; omega⟩
      · exact hj j d' (by dsimp only at hj2; omega) hd
  · simp (disch:=first|assumption|omega|(simp only [lens];omega)) only [eqs,↓gvd_succ,↓gvd_zero,↓and_of,im_of,im_of trivial,vlt,hP,hst,initS,Nat.reduceBEq,Nat.reduceAdd,Nat.reduceMul,Nat.reduceSub,Nat.reduceDiv,Nat.reduceMod,Nat.reducePow,Nat.reduceLT,Nat.reduceLeDiff,Nat.reduceEqDiff,Int.reduceAdd,Int.reduceSub,Int.reduceNeg,Int.reduceMul,Int.reduceToNat,Int.reducePow,Int.reduceLE,Int.reduceLT,Int.reduceEq,Int.reduceNe,reduceIte,reduceCtorEq,ne_eq,not_true_eq_false,not_false_eq_true,imp_self,implies_true,bls,eq_self]
    exact hK1 ⟨by omega, fun d hd => by
      obtain ⟨j, hjd⟩ := List.mem_iff_getElem?.1 hd
      exact hj j d (by have := (List.getElem?_eq_some_iff.1 hjd).1; omega) hjd⟩ _ hT
theorem fine0 {k : Int} {g : Bool} {l : List Nat} {b : Bool} {s : ByteArray} (h : l.length ≤ 400) (h2 : s.size ≤ 140737488355328) : fineD (.mk k g l b s [] []) := ⟨fit0 (by omega), few0, h, h2⟩
theorem fine_num {z : Int} (h : (limbs z.natAbs).length ≤ 400) : fineD (dNum z) := fine0 h (Nat.zero_le _)
theorem fine_str {s : ByteArray} (h : s.size ≤ 140737488355328) : fineD (dStr s) := fine0 (Nat.zero_le _) h
theorem iv_num {z : Int} : (dNum z).iv = z := iv_limbs z
theorem doM_num {p : Int} (h : 1 ≤ p ∧ p ≤ 8) {z w : Int} : doM p [dNum z, dNum w] = numM p z w := by
  unfold doM
  rw [if_neg (by simp [plainM]; omega), if_neg (by rw [arM_2 (by omega)]; simp), doL_le h.2, if_pos ⟨rfl, rfl⟩, iv_num, iv_num]
theorem told_small {z : Int} (h : (limbs z.natAbs).length ≤ 64) : toldM z = (dNum z, 0) := if_neg (by omega)
theorem lim2 {n : Nat} (h : n < 4294967296) : (limbs n).length ≤ 1 := limbs_len_le (by omega)
theorem zrD2 : zrow 2 zeroD = [.val (.int .i64 0), .val (.bool false), .val (.slice none 0 0), .val (.bool false), .val (.string ⟨#[]⟩), .val (.slice none 0 0), .val (.slice none 0 0), .val (.int .i64 0), .val (.bool false), .val (.slice none 0 0), .val (.bool false), .val (.string ⟨#[]⟩), .val (.slice none 0 0), .val (.slice none 0 0)] := rfl
theorem ex6 : numM 6 (-7) 2 = (dNum 1, 0) := by
  rw [show numM 6 (-7) 2 = toldM 1 from rfl]
  exact told_small (Nat.le_trans (lim2 (by decide)) (by omega))
theorem ex4 : numM 4 1 0 = (dNil, 3) := rfl
theorem ex1 : doM 1 [dNum 1, dStr ⟨#[97]⟩] = (dNil, 6) := by
  unfold doM
  rw [if_neg (by simp [plainM]), if_neg (by rw [arM_2 (by omega)]; simp), doL_le (by omega), if_neg (by decide)]
theorem fine2 {d e : Dt} (h : fineD d) (h2 : fineD e) : ∀ x ∈ [d, e], fineD x := by
  intro x hx
  simp only [List.mem_cons, List.not_mem_nil, or_false] at hx
  rcases hx with rfl | rfl <;> assumption
def RLives (xs : List AV) (st : St) (K : AV → St → Prop) : Prop := xs = [] ∧ anyw st (.bool true) K
set_option maxHeartbeats 2000000 in
theorem s_lives9 : ∀ w0, GP w0 → PSpecAt Tryz.prog w0 5 RLives := by
  refine gspec_of (fn := Tryz.f5) 0 [.tmp 0] (by kernel_rfl) rfl rfl (by kernel_rfl) mixed (by rintro _ _ _ ⟨rfl, _⟩; rfl) ?_
  rintro X _ st K hP hst hG ⟨rfl, hK⟩
  have hX : X.st1.length ≤ st.length := by rw [hst]; omega
  have b7 : fineD (dNum (-7)) := fine_num (Nat.le_trans (lim2 (by decide)) (by omega))
  have b2 : fineD (dNum 2) := fine_num (Nat.le_trans (lim2 (by decide)) (by omega))
  have b1 : fineD (dNum 1) := fine_num (Nat.le_trans (lim2 (by decide)) (by omega))
  have b0 : fineD (dNum 0) := fine_num (Nat.le_trans (lim2 (by decide)) (by omega))
  refine vc_V ?_
  simp (disch:=first|assumption|omega|(simp only [lens];omega)) only [eqs,↓gvd_succ,↓gvd_zero,↓and_of,im_of,im_of trivial,vlt,hP,hst,initS,Nat.reduceBEq,Nat.reduceAdd,Nat.reduceMul,Nat.reduceSub,Nat.reduceDiv,Nat.reduceMod,Nat.reducePow,Nat.reduceLT,Nat.reduceLeDiff,Nat.reduceEqDiff,Int.reduceAdd,Int.reduceSub,Int.reduceNeg,Int.reduceMul,Int.reduceToNat,Int.reducePow,Int.reduceLE,Int.reduceLT,Int.reduceEq,Int.reduceNe,reduceIte,reduceCtorEq,ne_eq,not_true_eq_false,not_false_eq_true,imp_self,implies_true,bls,eq_self]
  refine E_call (hP ▸ s_num) ⟨-7, rfl, by omega, by omega, fun v1 T1 hT1 d1 => ?_⟩
  simp (disch:=first|assumption|omega|(simp only [lens];omega)) only [eqs,↓gvd_succ,↓gvd_zero,↓and_of,im_of,im_of trivial,vlt,hP,hst,initS,Nat.reduceBEq,Nat.reduceAdd,Nat.reduceMul,Nat.reduceSub,Nat.reduceDiv,Nat.reduceMod,Nat.reducePow,Nat.reduceLT,Nat.reduceLeDiff,Nat.reduceEqDiff,Int.reduceAdd,Int.reduceSub,Int.reduceNeg,Int.reduceMul,Int.reduceToNat,Int.reducePow,Int.reduceLE,Int.reduceLT,Int.reduceEq,Int.reduceNe,reduceIte,reduceCtorEq,ne_eq,not_true_eq_false,not_false_eq_true,imp_self,implies_true,bls,eq_self]
  refine E_call (hP ▸ s_num) ⟨2, rfl, by omega, by omega, fun v2 T2 hT2 d2 => ?_⟩
  have d1 := d1.ext hT2
  obtain ⟨a1, rfl, n1, _⟩ := d1.inv
  obtain ⟨a2, rfl, n2, _⟩ := d2.inv
  have p1 := n1.leaf
  have p2 := n2.leaf
  simp (disch:=first|assumption|omega|(simp only [lens];omega)) only [eqs,↓gvd_succ,↓gvd_zero,↓and_of,im_of,im_of trivial,vlt,hP,hst,initS,Nat.reduceBEq,Nat.reduceAdd,Nat.reduceMul,Nat.reduceSub,Nat.reduceDiv,Nat.reduceMod,Nat.reducePow,Nat.reduceLT,Nat.reduceLeDiff,Nat.reduceEqDiff,Int.reduceAdd,Int.reduceSub,Int.reduceNeg,Int.reduceMul,Int.reduceToNat,Int.reducePow,Int.reduceLE,Int.reduceLT,Int.reduceEq,Int.reduceNe,reduceIte,reduceCtorEq,ne_eq,not_true_eq_false,not_false_eq_true,imp_self,implies_true,bls,eq_self,p1,p2,zrD2]
  refine E_callA (hP ▸ s_Do _ hG) ⟨6, _, [dNum (-7), dNum 2], rfl, DS.own At.mk0 (.cons (d1.ext (.add _)).dc (.cons (d2.ext (.add _)).dc .nil)), by simp, fine2 b7 b2, fun v3 T3 hT3 d3 => ?_⟩
  rw [doM_num (by omega), ex6] at d3
  rw [show (doM 6 [dNum (-7), dNum 2]).2 = 0 by rw [doM_num (by omega), ex6]]
  have x3 : Ext st T3 := ((hT1.trans hT2).trans (.add _)).trans hT3
  have hX3 := Nat.le_trans hX x3.len
  obtain ⟨a3, rfl, n3, _⟩ := d3.inv
  have p3 := n3.leaf
  simp (disch:=first|assumption|omega|(simp only [lens];omega)) only [eqs,↓gvd_succ,↓gvd_zero,↓and_of,im_of,im_of trivial,vlt,hP,hst,initS,Nat.reduceBEq,Nat.reduceAdd,Nat.reduceMul,Nat.reduceSub,Nat.reduceDiv,Nat.reduceMod,Nat.reducePow,Nat.reduceLT,Nat.reduceLeDiff,Nat.reduceEqDiff,Int.reduceAdd,Int.reduceSub,Int.reduceNeg,Int.reduceMul,Int.reduceToNat,Int.reducePow,Int.reduceLE,Int.reduceLT,Int.reduceEq,Int.reduceNe,reduceIte,reduceCtorEq,ne_eq,not_true_eq_false,not_false_eq_true,imp_self,implies_true,bls,eq_self,p3,hX3,zD_map,zD7,List.append_nil]
  obtain ⟨S3, hS3⟩ : ∃ S, T3 ++ [some [.val (.int .i64 (dNum 1).kd), .val (.bool (dNum 1).ng), a3, .val (.bool (dNum 1).tr), .val (.string (dNum 1).tx), .val (.slice none 0 0), .val (.slice none 0 0)]] = S := ⟨_, rfl⟩
  have y3 : Ext T3 S3 := ⟨_, hS3.symm⟩
  have g3 : At S3 T3.length _ := hS3 ▸ At.mk0
  rw [hS3]
  clear hS3
  refine E_call (hP ▸ s_num) ⟨1, rfl, by omega, by omega, fun v4 T4 hT4 d4 => ?_⟩
  simp (disch:=first|assumption|omega|(simp only [lens];omega)) only [eqs,↓gvd_succ,↓gvd_zero,↓and_of,im_of,im_of trivial,vlt,hP,hst,initS,Nat.reduceBEq,Nat.reduceAdd,Nat.reduceMul,Nat.reduceSub,Nat.reduceDiv,Nat.reduceMod,Nat.reducePow,Nat.reduceLT,Nat.reduceLeDiff,Nat.reduceEqDiff,Int.reduceAdd,Int.reduceSub,Int.reduceNeg,Int.reduceMul,Int.reduceToNat,Int.reducePow,Int.reduceLE,Int.reduceLT,Int.reduceEq,Int.reduceNe,reduceIte,reduceCtorEq,ne_eq,not_true_eq_false,not_false_eq_true,imp_self,implies_true,bls,eq_self]
  refine E_call (hP ▸ s_num) ⟨0, rfl, by omega, by omega, fun v5 T5 hT5 d5 => ?_⟩
  have d4 := d4.ext hT5
  obtain ⟨a4, rfl, n4, _⟩ := d4.inv
  obtain ⟨a5, rfl, n5, _⟩ := d5.inv
  have p4 := n4.leaf
  have p5 := n5.leaf
  simp (disch:=first|assumption|omega|(simp only [lens];omega)) only [eqs,↓gvd_succ,↓gvd_zero,↓and_of,im_of,im_of trivial,vlt,hP,hst,initS,Nat.reduceBEq,Nat.reduceAdd,Nat.reduceMul,Nat.reduceSub,Nat.reduceDiv,Nat.reduceMod,Nat.reducePow,Nat.reduceLT,Nat.reduceLeDiff,Nat.reduceEqDiff,Int.reduceAdd,Int.reduceSub,Int.reduceNeg,Int.reduceMul,Int.reduceToNat,Int.reducePow,Int.reduceLE,Int.reduceLT,Int.reduceEq,Int.reduceNe,reduceIte,reduceCtorEq,ne_eq,not_true_eq_false,not_false_eq_true,imp_self,implies_true,bls,eq_self,p4,p5,zrD2]
  refine E_callA (hP ▸ s_Do _ hG) ⟨4, _, [dNum 1, dNum 0], rfl, DS.own At.mk0 (.cons (d4.ext (.add _)).dc (.cons (d5.ext (.add _)).dc .nil)), by simp, fine2 b1 b0, fun v6 T6 hT6 d6 => ?_⟩
  rw [doM_num (by omega), ex4] at d6
  rw [show (doM 4 [dNum 1, dNum 0]).2 = 3 by rw [doM_num (by omega), ex4]]
  have z6 : Ext S3 T6 := (hT4.trans hT5).trans ((Ext.add _).trans hT6)
  have x6 : Ext st T6 := x3.trans (y3.trans z6)
  have hX6 := Nat.le_trans hX x6.len
  obtain ⟨a6, rfl, n6, _⟩ := d6.inv
  have p6 := n6.leaf
  simp (disch:=first|assumption|omega|(simp only [lens];omega)) only [eqs,↓gvd_succ,↓gvd_zero,↓and_of,im_of,im_of trivial,vlt,hP,hst,initS,Nat.reduceBEq,Nat.reduceAdd,Nat.reduceMul,Nat.reduceSub,Nat.reduceDiv,Nat.reduceMod,Nat.reducePow,Nat.reduceLT,Nat.reduceLeDiff,Nat.reduceEqDiff,Int.reduceAdd,Int.reduceSub,Int.reduceNeg,Int.reduceMul,Int.reduceToNat,Int.reducePow,Int.reduceLE,Int.reduceLT,Int.reduceEq,Int.reduceNe,reduceIte,reduceCtorEq,ne_eq,not_true_eq_false,not_false_eq_true,imp_self,implies_true,bls,eq_self,p6,hX6,zD_map,zD7,List.append_nil]
  obtain ⟨S6, hS6⟩ : ∃ S, T6 ++ [some [.val (.int .i64 dNil.kd), .val (.bool dNil.ng), a6, .val (.bool dNil.tr), .val (.string dNil.tx), .val (.slice none 0 0), .val (.slice none 0 0)]] = S := ⟨_, rfl⟩
  have y6 : Ext T6 S6 := ⟨_, hS6.symm⟩
  rw [hS6]
  clear hS6
  refine E_call (hP ▸ s_num) ⟨1, rfl, by omega, by omega, fun v7 T7 hT7 d7 => ?_⟩
  obtain ⟨a7, rfl, n7, _⟩ := d7.inv
  have p7 := n7.leaf
  simp (disch:=first|assumption|omega|(simp only [lens];omega)) only [eqs,↓gvd_succ,↓gvd_zero,↓and_of,im_of,im_of trivial,vlt,hP,hst,initS,Nat.reduceBEq,Nat.reduceAdd,Nat.reduceMul,Nat.reduceSub,Nat.reduceDiv,Nat.reduceMod,Nat.reducePow,Nat.reduceLT,Nat.reduceLeDiff,Nat.reduceEqDiff,Int.reduceAdd,Int.reduceSub,Int.reduceNeg,Int.reduceMul,Int.reduceToNat,Int.reducePow,Int.reduceLE,Int.reduceLT,Int.reduceEq,Int.reduceNe,reduceIte,reduceCtorEq,ne_eq,not_true_eq_false,not_false_eq_true,imp_self,implies_true,bls,eq_self,p7,zrD2,zD_map]
  refine E_callA (hP ▸ s_Do _ hG) ⟨1, _, [dNum 1, dStr ⟨#[97]⟩], rfl, DS.own At.mk0 (.cons (d7.ext (.add _)).dc (.cons (.mk Nm.nil DS.nil DS.nil) .nil)), by simp, fine2 b1 (fine_str (by decide)), fun v8 T8 hT8 d8 => ?_⟩
  rw [ex1] at d8 ⊢
  have z8 : Ext S6 T8 := hT7.trans ((Ext.add _).trans hT8)
  have x8 : Ext st T8 := x6.trans (y6.trans z8)
  have hX8 := Nat.le_trans hX x8.len
  obtain ⟨a8, rfl, n8, _⟩ := d8.inv
  have p8 := n8.leaf
  simp (disch:=first|assumption|omega|(simp only [lens];omega)) only [eqs,↓gvd_succ,↓gvd_zero,↓and_of,im_of,im_of trivial,vlt,hP,hst,initS,Nat.reduceBEq,Nat.reduceAdd,Nat.reduceMul,Nat.reduceSub,Nat.reduceDiv,Nat.reduceMod,Nat.reducePow,Nat.reduceLT,Nat.reduceLeDiff,Nat.reduceEqDiff,Int.reduceAdd,Int.reduceSub,Int.reduceNeg,Int.reduceMul,Int.reduceToNat,Int.reducePow,Int.reduceLE,Int.reduceLT,Int.reduceEq,Int.reduceNe,reduceIte,reduceCtorEq,ne_eq,not_true_eq_false,not_false_eq_true,imp_self,implies_true,bls,eq_self,p8,hX8,zD_map,zD7,List.append_nil]
  obtain ⟨S8, hS8⟩ : ∃ S, T8 ++ [some [.val (.int .i64 dNil.kd), .val (.bool dNil.ng), a8, .val (.bool dNil.tr), .val (.string dNil.tx), .val (.slice none 0 0), .val (.slice none 0 0)]] = S := ⟨_, rfl⟩
  have y8 : Ext T8 S8 := ⟨_, hS8.symm⟩
  rw [hS8]
  clear hS8
  have w3 : Ext S3 S8 := z6.trans (y6.trans (z8.trans y8))
  have g8 := (g3.ext w3).get
  refine V_draw [0, 1, 2, 3, 4, 5, 6, 7, 8, 9, 10, 11, 12, 13, 14, 15] (by kernel_rfl) (.cons rfl <| .cons rfl <| .cons rfl <| .cons rfl <| .cons rfl <| .cons rfl <| .cons rfl <| .cons rfl <| .cons rfl <| .cons rfl <| .cons rfl <| .cons rfl <| .cons rfl <| .cons rfl <| .cons rfl <| .cons rfl <| .nil) ?_
  simp (disch:=first|assumption|omega|(simp only [lens];omega)) only [eqs,↓gvd_succ,↓gvd_zero,↓and_of,im_of,im_of trivial,vlt,hP,hst,initS,Nat.reduceBEq,Nat.reduceAdd,Nat.reduceMul,Nat.reduceSub,Nat.reduceDiv,Nat.reduceMod,Nat.reducePow,Nat.reduceLT,Nat.reduceLeDiff,Nat.reduceEqDiff,Int.reduceAdd,Int.reduceSub,Int.reduceNeg,Int.reduceMul,Int.reduceToNat,Int.reducePow,Int.reduceLE,Int.reduceLT,Int.reduceEq,Int.reduceNe,reduceIte,reduceCtorEq,ne_eq,not_true_eq_false,not_false_eq_true,imp_self,implies_true,bls,eq_self,g8]
  refine E_call (hP ▸ s_num) ⟨1, rfl, by omega, by omega, fun v9 T9 hT9 d9 => ?_⟩
  simp (disch:=first|assumption|omega|(simp only [lens];omega)) only [eqs,↓gvd_succ,↓gvd_zero,↓and_of,im_of,im_of trivial,vlt,hP,hst,initS,Nat.reduceBEq,Nat.reduceAdd,Nat.reduceMul,Nat.reduceSub,Nat.reduceDiv,Nat.reduceMod,Nat.reducePow,Nat.reduceLT,Nat.reduceLeDiff,Nat.reduceEqDiff,Int.reduceAdd,Int.reduceSub,Int.reduceNeg,Int.reduceMul,Int.reduceToNat,Int.reducePow,Int.reduceLE,Int.reduceLT,Int.reduceEq,Int.reduceNe,reduceIte,reduceCtorEq,ne_eq,not_true_eq_false,not_false_eq_true,imp_self,implies_true,bls,eq_self]
  refine E_call (hP ▸ s_Same3 2) ⟨_, _, dNum 1, dNum 1, rfl, ((d3.ext y3).ext (w3.trans hT9)).da, d9.da, by decide, b1.1, b1.1, fun T10 hT10 => ?_⟩
  rw [sm_self]
  simp (disch:=first|assumption|omega|(simp only [lens];omega)) only [eqs,↓gvd_succ,↓gvd_zero,↓and_of,im_of,im_of trivial,vlt,hP,hst,initS,Nat.reduceBEq,Nat.reduceAdd,Nat.reduceMul,Nat.reduceSub,Nat.reduceDiv,Nat.reduceMod,Nat.reducePow,Nat.reduceLT,Nat.reduceLeDiff,Nat.reduceEqDiff,Int.reduceAdd,Int.reduceSub,Int.reduceNeg,Int.reduceMul,Int.reduceToNat,Int.reducePow,Int.reduceLE,Int.reduceLT,Int.reduceEq,Int.reduceNe,reduceIte,reduceCtorEq,ne_eq,not_true_eq_false,not_false_eq_true,imp_self,implies_true,bls,eq_self]
  exact hK _ (((x8.trans y8).trans hT9).trans hT10)
end Go.Proofs.Pv
