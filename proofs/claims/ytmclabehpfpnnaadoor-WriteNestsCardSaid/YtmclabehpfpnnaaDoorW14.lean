/- The whole functions' walks, first part. -/
import Derived.Test.YtmclabehpfpnnaaDoorE19
import Derived.Test.YtmclabehpfpnnaaDoorR8
import Derived.Test.YtmclabehpfpnnaaDoorS1
set_option linter.unusedSimpArgs false
set_option linter.unusedVariables false
namespace Go.Proofs.Pv
open Go Go.RowKit Go.Proofs
set_option maxRecDepth 20000

def RwOf (xs : List AV) (st : St) (K : AV → St → Prop) : Prop := ∃ b a l, xs = [.val (.bool b), a] ∧ Nm st a l ∧ l.length ≤ 35184372088832 ∧ gotI st (iv b (val l)) K
theorem s_of : PSpec Tryd.prog 71 RwOf := by
  refine fspec_of (fn := Tryd.f71) 2 [.cell 4 24] (by kernel_rfl) rfl rfl (by kernel_rfl) mixed (by rintro _ _ _ ⟨b, a, l, rfl, _⟩; rfl) ?_
  rintro X _ st K hP hst ⟨b, a, l, rfl, ha, hl, hK⟩
  refine vc_V ?_
  simp (disch:=first|assumption|omega|(simp only [lens];omega)) only [eqs,↓gvd_succ,↓gvd_zero,↓and_of,im_of,im_of trivial,vlt,hP,hst,initS,Nat.reduceBEq,Nat.reduceAdd,Nat.reduceMul,Nat.reduceSub,Nat.reduceDiv,Nat.reduceMod,Nat.reducePow,Nat.reduceLT,Nat.reduceLeDiff,Nat.reduceEqDiff,Int.reduceAdd,Int.reduceSub,Int.reduceNeg,Int.reduceMul,Int.reduceToNat,Int.reducePow,Int.reduceLE,Int.reduceLT,Int.reduceEq,Int.reduceNe,reduceIte,reduceCtorEq,ne_eq,not_true_eq_false,not_false_eq_true,imp_self,implies_true,bls,eq_self]
  refine E_call (hP ▸ s_Norm) ⟨a, l, rfl, ha.app _, hl, fresh_got fun z T hz => ?_⟩
  have hlen := limbs_len ha.lt
  have h1 := hz.nm.sl
  have h2 := hz.nm.leaf
  obtain ⟨g, rfl⟩ := hz.ex
  simp only [List.append_assoc, List.cons_append, List.nil_append] at h1
  have hpl := limbs_pos_len (v := val l)
  cases b
  · simp (disch:=first|assumption|omega|(simp only [lens];omega)) only [eqs,↓gvd_succ,↓gvd_zero,↓and_of,im_of,im_of trivial,vlt,hP,hst,initS,Nat.reduceBEq,Nat.reduceAdd,Nat.reduceMul,Nat.reduceSub,Nat.reduceDiv,Nat.reduceMod,Nat.reducePow,Nat.reduceLT,Nat.reduceLeDiff,Nat.reduceEqDiff,Int.reduceAdd,Int.reduceSub,Int.reduceNeg,Int.reduceMul,Int.reduceToNat,Int.reducePow,Int.reduceLE,Int.reduceLT,Int.reduceEq,Int.reduceNe,reduceIte,reduceCtorEq,ne_eq,not_true_eq_false,not_false_eq_true,imp_self,implies_true,bls,eq_self,h2]
    exact hK _ _ (GotI.mk (hz.fin (pre' := [_]) (by simp)) rfl (by simp))
  · simp (disch:=first|assumption|omega|(simp only [lens];omega)) only [eqs,↓gvd_succ,↓gvd_zero,↓and_of,im_of,im_of trivial,vlt,hP,hst,initS,Nat.reduceBEq,Nat.reduceAdd,Nat.reduceMul,Nat.reduceSub,Nat.reduceDiv,Nat.reduceMod,Nat.reducePow,Nat.reduceLT,Nat.reduceLeDiff,Nat.reduceEqDiff,Int.reduceAdd,Int.reduceSub,Int.reduceNeg,Int.reduceMul,Int.reduceToNat,Int.reducePow,Int.reduceLE,Int.reduceLT,Int.reduceEq,Int.reduceNe,reduceIte,reduceCtorEq,ne_eq,not_true_eq_false,not_false_eq_true,imp_self,implies_true,bls,eq_self,h1,h2]
    exact hK _ _ (GotI.mk (b := decide ((0 : Int) < ((limbs (val l)).length : Int))) (hz.fin (pre' := [_]) (by simp)) (by
      by_cases h0 : 0 < val l
      · rw [decide_eq_true (by omega)]
      · rw [decide_eq_false (by omega), show val l = 0 by omega, iv_zero, iv_zero]) (fun h => by have := of_decide_eq_true h; omega))

def RwNorm (xs : List AV) (st : St) (K : AV → St → Prop) : Prop := ∃ x neg l, xs = [x] ∧ Wh st x neg l ∧ l.length ≤ 35184372088832 ∧ gotI st (iv neg (val l)) K
theorem s_wNorm : PSpec Tryd.prog 49 RwNorm := by
  refine fspec_of (fn := Tryd.f49) 1 [.cell 2 24] (by kernel_rfl) rfl rfl (by kernel_rfl) mixed (by rintro _ _ _ ⟨x, neg, l, rfl, _⟩; rfl) ?_
  rintro X _ st K hP hst ⟨x, neg, l, rfl, hx, hl, hK⟩
  obtain ⟨a, rfl, ha, hle⟩ := hx.iv
  refine vc_V ?_
  simp (disch:=first|assumption|omega|(simp only [lens];omega)) only [eqs,↓gvd_succ,↓gvd_zero,↓and_of,im_of,im_of trivial,vlt,hP,hst,initS,Nat.reduceBEq,Nat.reduceAdd,Nat.reduceMul,Nat.reduceSub,Nat.reduceDiv,Nat.reduceMod,Nat.reducePow,Nat.reduceLT,Nat.reduceLeDiff,Nat.reduceEqDiff,Int.reduceAdd,Int.reduceSub,Int.reduceNeg,Int.reduceMul,Int.reduceToNat,Int.reducePow,Int.reduceLE,Int.reduceLT,Int.reduceEq,Int.reduceNe,reduceIte,reduceCtorEq,ne_eq,not_true_eq_false,not_false_eq_true,imp_self,implies_true,bls,eq_self,hle]
  refine E_call (hP ▸ s_of) ⟨neg, a, l, rfl, ha.app _, hl, fun z T hz => ?_⟩
  have hz0 := hz
  obtain ⟨c, rfl, hc⟩ := hz
  have hcl := hc.nm.leaf
  obtain ⟨g, rfl⟩ := hc.ex
  simp (disch:=first|assumption|omega|(simp only [lens];omega)) only [eqs,↓gvd_succ,↓gvd_zero,↓and_of,im_of,im_of trivial,vlt,hP,hst,initS,Nat.reduceBEq,Nat.reduceAdd,Nat.reduceMul,Nat.reduceSub,Nat.reduceDiv,Nat.reduceMod,Nat.reducePow,Nat.reduceLT,Nat.reduceLeDiff,Nat.reduceEqDiff,Int.reduceAdd,Int.reduceSub,Int.reduceNeg,Int.reduceMul,Int.reduceToNat,Int.reducePow,Int.reduceLE,Int.reduceLT,Int.reduceEq,Int.reduceNe,reduceIte,reduceCtorEq,ne_eq,not_true_eq_false,not_false_eq_true,imp_self,implies_true,bls,eq_self,hcl]
  exact hK _ _ (hz0.fin (pre' := [_, _]) (by simp))

def RwGood (xs : List AV) (st : St) (K : AV → St → Prop) : Prop := ∃ x neg l, xs = [x] ∧ Wh st x neg l ∧ l.length ≤ 35184372088832 ∧ ∀ st', Ext st st' → K (.val (.bool (if l.length = 0 then !neg else decide (l.getD (l.length - 1) 0 ≠ 0)))) st'
def RwNeg (xs : List AV) (st : St) (K : AV → St → Prop) : Prop := ∃ x neg l, xs = [x] ∧ Wh st x neg l ∧ l.length ≤ 35184372088832 ∧ gotI st (-iv neg (val l)) K
def RwOfInt (xs : List AV) (st : St) (K : AV → St → Prop) : Prop := ∃ n : Int, xs = [.val (.int .i64 n)] ∧ -9223372036854775808 ≤ n ∧ n ≤ 9223372036854775807 ∧ gotI st n K
/-- A row behind a variable of a struct. -/
def RwTwo (F : Int → Int → Int) (xs : List AV) (st : St) (K : AV → St → Prop) : Prop := ∃ x y s t l m, xs = [x, y] ∧ Wh st x s l ∧ Wh st y t m ∧ l.length ≤ 1000 ∧ m.length ≤ 1000 ∧ gotI st (F (iv s (val l)) (iv t (val m))) K
def RwCmp (xs : List AV) (st : St) (K : AV → St → Prop) : Prop := ∃ x y s t l m, xs = [x, y] ∧ Wh st x s l ∧ Wh st y t m ∧ l.length ≤ 35184372088832 ∧ m.length ≤ 35184372088832 ∧ anyw st (.int .i64 (cmpI (iv s (val l)) (iv t (val m)))) K
end Go.Proofs.Pv

/- The whole functions' walks, second part: divisions. -/
namespace Go.Proofs.Pv
open Go Go.RowKit Go.Proofs
set_option maxRecDepth 20000

def zeroI : AV := .agg [.val (.bool false), .val (.slice none 0 0)]
def RwQuoF (xs : List AV) (st : St) (K : AV → St → Prop) : Prop := ∃ x y S0 Z W, xs = [x, y] ∧ GotI S0 st x Z ∧ GotI S0 st y W ∧ ∀ S', GotI S0 S' x Z → GotI S0 S' y W → K (.tup [x, y]) S'
def RwFloorF (xs : List AV) (st : St) (K : AV → St → Prop) : Prop := ∃ x y p S0 Z W t b m, xs = [x, y, .ptr p 0] ∧ GotI S0 st x Z ∧ GotI S0 st y W ∧ st[p]? = some (some [.val (.bool t), b]) ∧ Nm st b m ∧ m.length ≤ 1000 ∧ (limbs Z.natAbs).length ≤ 900 ∧ (limbs W.natAbs).length ≤ 900 ∧
  ∀ u v S', GotI S0 S' u (if W = 0 ∨ decide (W < 0) = t then Z else Z - 1) → GotI S0 S' v (if W = 0 ∨ decide (W < 0) = t then W else W + iv t (val m)) → K (.tup [u, v]) S'
/-- What is done with a quotient and what is left: R; what comes: ZQ, ZR. -/
def RwDivided (P : Program) (xs : List AV) (st : St) (K : AV → St → Prop) : Prop := ∃ x y s t l m f cs R ZQ ZR, xs = [x, y, .fn (.func f) [] cs] ∧ Wh st x s l ∧ Wh st y t m ∧ l.length ≤ 800 ∧ m.length ≤ 800 ∧ PSpec P f R ∧
  (val m ≠ 0 → ∀ S0 S q r, Ext st S0 → GotI S0 S q ((iv s (val l)).tdiv (iv t (val m))) → GotI S0 S r ((iv s (val l)).tmod (iv t (val m))) → ∀ K' : AV → St → Prop, (∀ u w S', GotI S0 S' u ZQ → GotI S0 S' w ZR → K' (.tup [u, w]) S') → R ([q, r] ++ cs) S K') ∧
  (val m ≠ 0 → ∀ u w S', GotI st S' u ZQ → GotI st S' w ZR → K (.tup [u, w, .val (.int .i64 0)]) S') ∧
  (val m = 0 → ∀ S', Ext st S' → K (.tup [zeroI, zeroI, .val (.int .i64 3)]) S')
def RwQuo (FQ FR : Int → Int → Int) (xs : List AV) (st : St) (K : AV → St → Prop) : Prop := ∃ x y s t l m, xs = [x, y] ∧ Wh st x s l ∧ Wh st y t m ∧ l.length ≤ 800 ∧ m.length ≤ 800 ∧
  (val m ≠ 0 → ∀ u w S', GotI st S' u (FQ (iv s (val l)) (iv t (val m))) → GotI st S' w (FR (iv s (val l)) (iv t (val m))) → K (.tup [u, w, .val (.int .i64 0)]) S') ∧
  (val m = 0 → ∀ S', Ext st S' → K (.tup [zeroI, zeroI, .val (.int .i64 3)]) S')
end Go.Proofs.Pv

/- The whole functions' walks, third part: the root, the text. -/
namespace Go.Proofs.Pv
open Go Go.RowKit Go.Proofs
set_option maxRecDepth 20000

def RwRoot (xs : List AV) (st : St) (K : AV → St → Prop) : Prop := ∃ x s l, xs = [x] ∧ Wh st x s l ∧ l.length ≤ 100 ∧
  (iv s (val l) < 0 → ∀ S', Ext st S' → K (.tup [zeroI, zeroI, .val (.int .i64 2)]) S') ∧
  (0 ≤ iv s (val l) → ∀ u w S', GotI st S' u (isqrt (val l) : Nat) → GotI st S' w ((val l - isqrt (val l) * isqrt (val l) : Nat) : Int) → K (.tup [u, w, .val (.int .i64 0)]) S')
end Go.Proofs.Pv

/- The whole functions' walks, fourth part: texts. -/
namespace Go.Proofs.Pv
open Go Go.RowKit Go.Proofs
set_option maxRecDepth 20000

/-- A whole number's text. -/
def txtI (z : Int) : List Nat := if z < 0 then 45 :: txt 10 z.natAbs else txt 10 z.natAbs
def RwText (xs : List AV) (st : St) (K : AV → St → Prop) : Prop := ∃ x s l, xs = [x] ∧ Wh st x s l ∧ l.length ≤ 1000 ∧ anyw st (.string (bstr (txtI (iv s (val l))))) K
theorem s_wText : PSpec Tryd.prog 57 RwText := by
  refine fspec_of (fn := Tryd.f57) 1 [.tmp 2] (by kernel_rfl) rfl rfl (by kernel_rfl) mixed (by rintro _ _ _ ⟨x, s, l, rfl, _⟩; rfl) ?_
  rintro X _ st K hP hst ⟨x, s, l, rfl, hx, hl, hK⟩
  have hx1 := hx
  obtain ⟨a, rfl, ha, hal⟩ := hx.iv
  refine vc_V ?_
  have hbl := blen_len ha.lt
  have htl := txt_len (b := 10) (n := val l) (by omega)
  simp (disch:=first|assumption|omega|(simp only [lens];omega)) only [eqs,↓gvd_succ,↓gvd_zero,↓and_of,im_of,im_of trivial,vlt,hP,hst,initS,Nat.reduceBEq,Nat.reduceAdd,Nat.reduceMul,Nat.reduceSub,Nat.reduceDiv,Nat.reduceMod,Nat.reducePow,Nat.reduceLT,Nat.reduceLeDiff,Nat.reduceEqDiff,Int.reduceAdd,Int.reduceSub,Int.reduceNeg,Int.reduceMul,Int.reduceToNat,Int.reducePow,Int.reduceLE,Int.reduceLT,Int.reduceEq,Int.reduceNe,reduceIte,reduceCtorEq,ne_eq,not_true_eq_false,not_false_eq_true,imp_self,implies_true,bls,eq_self,hal]
  refine E_call (hP ▸ s_Text) ⟨a, l, 10, rfl, ha.app _, by omega, ?_⟩
  rw [if_neg (by omega), show Int.toNat 10 = 10 from rfl]
  simp (disch:=first|assumption|omega|(simp only [lens];omega)) only [eqs,↓gvd_succ,↓gvd_zero,↓and_of,im_of,im_of trivial,vlt,hP,hst,initS,Nat.reduceBEq,Nat.reduceAdd,Nat.reduceMul,Nat.reduceSub,Nat.reduceDiv,Nat.reduceMod,Nat.reducePow,Nat.reduceLT,Nat.reduceLeDiff,Nat.reduceEqDiff,Int.reduceAdd,Int.reduceSub,Int.reduceNeg,Int.reduceMul,Int.reduceToNat,Int.reducePow,Int.reduceLE,Int.reduceLT,Int.reduceEq,Int.reduceNe,reduceIte,reduceCtorEq,ne_eq,not_true_eq_false,not_false_eq_true,imp_self,implies_true,bls,eq_self]
  refine E_call (hP ▸ s_wNorm) ⟨_, s, l, rfl, hx1.ext (.add _), by omega, fun z T hz => ?_⟩
  have hT := (Ext.add _).trans hz.ex
  obtain ⟨c, rfl, hc⟩ := hz
  unfold txtI at hK
  rw [iv_natAbs] at hK
  generalize hzz : iv s (val l) = Z at *
  generalize txt 10 (val l) = t at *
  simp (disch:=first|assumption|omega|(simp only [lens];omega)) only [eqs,↓gvd_succ,↓gvd_zero,↓and_of,im_of,im_of trivial,vlt,hP,hst,initS,Nat.reduceBEq,Nat.reduceAdd,Nat.reduceMul,Nat.reduceSub,Nat.reduceDiv,Nat.reduceMod,Nat.reducePow,Nat.reduceLT,Nat.reduceLeDiff,Nat.reduceEqDiff,Int.reduceAdd,Int.reduceSub,Int.reduceNeg,Int.reduceMul,Int.reduceToNat,Int.reducePow,Int.reduceLE,Int.reduceLT,Int.reduceEq,Int.reduceNe,reduceIte,reduceCtorEq,ne_eq,not_true_eq_false,not_false_eq_true,imp_self,implies_true,bls,eq_self]
  refine C_dec (fun h => ?_) (fun h => ?_)
  · rw [if_pos h] at hK
    have e1 : ((⟨#[45]⟩ : ByteArray) ++ bstr t) = bstr (45 :: t) := by rw [show (⟨#[45]⟩ : ByteArray) = bstr [45] from rfl, bstr_append]; rfl
    have e2 : (⟨#[45]⟩ : ByteArray).size + (bstr t).size ≤ 9223372036854775807 := by rw [bstr_size, show (⟨#[45]⟩ : ByteArray).size = 1 from rfl]; omega
    simp (disch:=first|assumption|omega|(simp only [lens];omega)) only [eqs,↓gvd_succ,↓gvd_zero,↓and_of,im_of,im_of trivial,vlt,hP,hst,initS,Nat.reduceBEq,Nat.reduceAdd,Nat.reduceMul,Nat.reduceSub,Nat.reduceDiv,Nat.reduceMod,Nat.reducePow,Nat.reduceLT,Nat.reduceLeDiff,Nat.reduceEqDiff,Int.reduceAdd,Int.reduceSub,Int.reduceNeg,Int.reduceMul,Int.reduceToNat,Int.reducePow,Int.reduceLE,Int.reduceLT,Int.reduceEq,Int.reduceNe,reduceIte,reduceCtorEq,ne_eq,not_true_eq_false,not_false_eq_true,imp_self,implies_true,bls,eq_self,e1,e2]
    exact hK _ hT
  · rw [if_neg h] at hK
    simp (disch:=first|assumption|omega|(simp only [lens];omega)) only [eqs,↓gvd_succ,↓gvd_zero,↓and_of,im_of,im_of trivial,vlt,hP,hst,initS,Nat.reduceBEq,Nat.reduceAdd,Nat.reduceMul,Nat.reduceSub,Nat.reduceDiv,Nat.reduceMod,Nat.reducePow,Nat.reduceLT,Nat.reduceLeDiff,Nat.reduceEqDiff,Int.reduceAdd,Int.reduceSub,Int.reduceNeg,Int.reduceMul,Int.reduceToNat,Int.reducePow,Int.reduceLE,Int.reduceLT,Int.reduceEq,Int.reduceNe,reduceIte,reduceCtorEq,ne_eq,not_true_eq_false,not_false_eq_true,imp_self,implies_true,bls,eq_self]
    exact hK _ hT
end Go.Proofs.Pv
