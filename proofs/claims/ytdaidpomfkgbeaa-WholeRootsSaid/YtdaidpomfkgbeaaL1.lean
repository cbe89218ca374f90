/- The laws' helpers: small, same, lives. -/
import Derived.Test.YtdaidpomfkgbeaaR8
import Derived.Test.YtdaidpomfkgbeaaR9
import Derived.Test.YtdaidpomfkgbeaaR10
import Derived.Test.YtdaidpomfkgbeaaM6
set_option linter.unusedSimpArgs false
set_option linter.unusedVariables false
namespace Go.Proofs.Pv
open Go Go.RowKit Go.Proofs
set_option maxRecDepth 20000

def RlSmall (xs : List AV) (st : St) (K : AV → St → Prop) : Prop := ∃ (r : Nat) (ys : List (AV × List Nat)), xs = [.own r 0 ys.length 1] ∧ st[r]? = some (some (ys.map (·.1))) ∧ (∀ p ∈ ys, Nm st p.1 p.2) ∧ ys.length ≤ 100 ∧ K (.val (.bool (decide (∀ p ∈ ys, p.2.length ≤ 40)))) st
theorem s_lsmall : PSpec Try.prog 20 RlSmall := by
  refine fspec_of (fn := Try.f20) 1 [.tmp 2] (by kernel_rfl) rfl rfl (by kernel_rfl) mixed (by rintro _ _ _ ⟨r, ys, rfl, _⟩; rfl) ?_
  rintro X _ st K hP hst ⟨r, ys, rfl, hr, hN, hy, hK⟩
  refine vc_V ?_
  have hsl : sl 1 st (.own r 0 ys.length 1) = some (ys.length, ys.map (·.1)) := by
    have e : (ys.map (·.1)).take ys.length = ys.map (·.1) := List.take_of_length_le (by simp)
    rw [sl_own_eq, if_pos rfl, hr]
    simp only [List.drop_zero, Nat.mul_one, e, List.length_map, if_true]
  simp (disch := first | assumption | omega | (simp only [lens]; omega)) only [eqs, ↓gvd_succ, ↓gvd_zero, ↓and_of, im_of, im_of trivial, vals, lsts, tys, hP, hst, initS, Nat.reduceBEq, Nat.reduceAdd, Nat.reduceMul, Nat.reduceSub, Nat.reduceDiv, Nat.reduceMod, Nat.reducePow, Nat.reduceLT, Nat.reduceLeDiff, Nat.reduceEqDiff, Int.reduceAdd, Int.reduceSub, Int.reduceNeg, Int.reduceMul, Int.reduceToNat, Int.reducePow, Int.reduceLE, Int.reduceLT, Int.reduceEq, Int.reduceNe, reduceIte, reduceCtorEq, ne_eq, not_true_eq_false, not_false_eq_true, imp_self, implies_true, bls, eq_self, hsl]
  refine V_loop (ι := Nat) (fun i => [(7, .val (.int .i64 (i : Int))), (6, .val (.int .i64 (ys.length : Int))), (5, .own r 0 ys.length 1)]) (fun _ => st) (fun i => i ≤ ys.length ∧ ∀ j (p : AV × List Nat), j < i → ys[j]? = some p → p.2.length ≤ 40) (fun i => ys.length - i) 0 ⟨by omega, by omega⟩ rfl (by simp (disch := first | assumption | omega | (simp only [lens]; omega)) only [eqs, ↓gvd_succ, ↓gvd_zero, ↓and_of, im_of, im_of trivial, vals, lsts, tys, hP, hst, initS, Nat.reduceBEq, Nat.reduceAdd, Nat.reduceMul, Nat.reduceSub, Nat.reduceDiv, Nat.reduceMod, Nat.reducePow, Nat.reduceLT, Nat.reduceLeDiff, Nat.reduceEqDiff, Int.reduceAdd, Int.reduceSub, Int.reduceNeg, Int.reduceMul, Int.reduceToNat, Int.reducePow, Int.reduceLE, Int.reduceLT, Int.reduceEq, Int.reduceNe, reduceIte, reduceCtorEq, ne_eq, not_true_eq_false, not_false_eq_true, imp_self, implies_true, bls, eq_self] <;> rfl) ?_
  rintro i ⟨hi, hj⟩
  simp (disch := first | assumption | omega | (simp only [lens]; omega)) only [eqs, ↓gvd_succ, ↓gvd_zero, ↓and_of, im_of, im_of trivial, vals, lsts, tys, hP, hst, initS, Nat.reduceBEq, Nat.reduceAdd, Nat.reduceMul, Nat.reduceSub, Nat.reduceDiv, Nat.reduceMod, Nat.reducePow, Nat.reduceLT, Nat.reduceLeDiff, Nat.reduceEqDiff, Int.reduceAdd, Int.reduceSub, Int.reduceNeg, Int.reduceMul, Int.reduceToNat, Int.reducePow, Int.reduceLE, Int.reduceLT, Int.reduceEq, Int.reduceNe, reduceIte, reduceCtorEq, ne_eq, not_true_eq_false, not_false_eq_true, imp_self, implies_true, bls, eq_self]
  refine C_dec (fun h => ?_) (fun h => ?_)
  · obtain ⟨p, hp⟩ : ∃ p, ys[i]? = some p := ⟨_, List.getElem?_eq_getElem (by omega)⟩
    have hpN := hN p (List.mem_of_getElem? hp)
    have h1 := hpN.sl
    have hg : (ys.map (·.1))[i]? = some p.1 := by rw [List.getElem?_map, hp]; rfl
    simp (disch := first | assumption | omega | (simp only [lens]; omega)) only [eqs, ↓gvd_succ, ↓gvd_zero, ↓and_of, im_of, im_of trivial, vals, lsts, tys, hP, hst, initS, Nat.reduceBEq, Nat.reduceAdd, Nat.reduceMul, Nat.reduceSub, Nat.reduceDiv, Nat.reduceMod, Nat.reducePow, Nat.reduceLT, Nat.reduceLeDiff, Nat.reduceEqDiff, Int.reduceAdd, Int.reduceSub, Int.reduceNeg, Int.reduceMul, Int.reduceToNat, Int.reducePow, Int.reduceLE, Int.reduceLT, Int.reduceEq, Int.reduceNe, reduceIte, reduceCtorEq, ne_eq, not_true_eq_false, not_false_eq_true, imp_self, implies_true, bls, eq_self, hsl, hg, List.length_map, h1]
    intro hlen
    refine C_dec (fun h2 => ?_) (fun h2 => ?_)
    · simp (disch := first | assumption | omega | (simp only [lens]; omega)) only [eqs, ↓gvd_succ, ↓gvd_zero, ↓and_of, im_of, im_of trivial, vals, lsts, tys, hP, hst, initS, Nat.reduceBEq, Nat.reduceAdd, Nat.reduceMul, Nat.reduceSub, Nat.reduceDiv, Nat.reduceMod, Nat.reducePow, Nat.reduceLT, Nat.reduceLeDiff, Nat.reduceEqDiff, Int.reduceAdd, Int.reduceSub, Int.reduceNeg, Int.reduceMul, Int.reduceToNat, Int.reducePow, Int.reduceLE, Int.reduceLT, Int.reduceEq, Int.reduceNe, reduceIte, reduceCtorEq, ne_eq, not_true_eq_false, not_false_eq_true, imp_self, implies_true, bls, eq_self]
      rw [decide_eq_false (fun h3 => by have := h3 p (List.mem_of_getElem? hp); omega)] at hK
      exact hK
    · simp (disch := first | assumption | omega | (simp only [lens]; omega)) only [eqs, ↓gvd_succ, ↓gvd_zero, ↓and_of, im_of, im_of trivial, vals, lsts, tys, hP, hst, initS, Nat.reduceBEq, Nat.reduceAdd, Nat.reduceMul, Nat.reduceSub, Nat.reduceDiv, Nat.reduceMod, Nat.reducePow, Nat.reduceLT, Nat.reduceLeDiff, Nat.reduceEqDiff, Int.reduceAdd, Int.reduceSub, Int.reduceNeg, Int.reduceMul, Int.reduceToNat, Int.reducePow, Int.reduceLE, Int.reduceLT, Int.reduceEq, Int.reduceNe, reduceIte, reduceCtorEq, ne_eq, not_true_eq_false, not_false_eq_true, imp_self, implies_true, bls, eq_self]
      refine again (i + 1) ⟨by omega, fun j q hj2 hq => ?_⟩ (show ys.length - (i + 1) < ys.length - i by omega) rfl (by simp (disch := first | assumption | omega | (simp only [lens]; omega)) only [eqs, ↓gvd_succ, ↓gvd_zero, ↓and_of, im_of, im_of trivial, vals, lsts, tys, hP, hst, initS, Nat.reduceBEq, Nat.reduceAdd, Nat.reduceMul, Nat.reduceSub, Nat.reduceDiv, Nat.reduceMod, Nat.reducePow, Nat.reduceLT, Nat.reduceLeDiff, Nat.reduceEqDiff, Int.reduceAdd, Int.reduceSub, Int.reduceNeg, Int.reduceMul, Int.reduceToNat, Int.reducePow, Int.reduceLE, Int.reduceLT, Int.reduceEq, Int.reduceNe, reduceIte, reduceCtorEq, ne_eq, not_true_eq_false, not_false_eq_true, imp_self, implies_true, bls, eq_self] <;> rfl)
      by_cases hji : j = i
      · subst hji; rw [hp] at hq; cases hq; omega
      · exact hj j q (by omega) hq
  · simp (disch := first | assumption | omega | (simp only [lens]; omega)) only [eqs, ↓gvd_succ, ↓gvd_zero, ↓and_of, im_of, im_of trivial, vals, lsts, tys, hP, hst, initS, Nat.reduceBEq, Nat.reduceAdd, Nat.reduceMul, Nat.reduceSub, Nat.reduceDiv, Nat.reduceMod, Nat.reducePow, Nat.reduceLT, Nat.reduceLeDiff, Nat.reduceEqDiff, Int.reduceAdd, Int.reduceSub, Int.reduceNeg, Int.reduceMul, Int.reduceToNat, Int.reducePow, Int.reduceLE, Int.reduceLT, Int.reduceEq, Int.reduceNe, reduceIte, reduceCtorEq, ne_eq, not_true_eq_false, not_false_eq_true, imp_self, implies_true, bls, eq_self]
    rw [decide_eq_true (fun p hp => by obtain ⟨j, hj2⟩ := List.mem_iff_getElem?.1 hp; exact hj j p (by have := (List.getElem?_eq_some_iff.1 hj2).1; omega) hj2)] at hK
    exact hK

theorem zrow1s : zrow 1 [Value.slice none 0 0] = [.val (.slice none 0 0)] := rfl
theorem zrow2s : zrow 2 [Value.slice none 0 0] = [.val (.slice none 0 0), .val (.slice none 0 0)] := rfl
theorem zrow3s : zrow 3 [Value.slice none 0 0] = [.val (.slice none 0 0), .val (.slice none 0 0), .val (.slice none 0 0)] := rfl
def RlSmall1 (xs : List AV) (st : St) (K : AV → St → Prop) : Prop := ∃ (r : Nat) (x : AV) (l : List Nat), xs = [.own r 0 1 1] ∧ st[r]? = some (some [x]) ∧ Nm st x l ∧ K (.val (.bool (decide (l.length ≤ 40)))) st
def RlSmall2 (xs : List AV) (st : St) (K : AV → St → Prop) : Prop := ∃ (r : Nat) (x y : AV) (l m : List Nat), xs = [.own r 0 2 1] ∧ st[r]? = some (some [x, y]) ∧ Nm st x l ∧ Nm st y m ∧ K (.val (.bool (decide (l.length ≤ 40 ∧ m.length ≤ 40)))) st
def RlSmall3 (xs : List AV) (st : St) (K : AV → St → Prop) : Prop := ∃ (r : Nat) (x y z : AV) (l m n : List Nat), xs = [.own r 0 3 1] ∧ st[r]? = some (some [x, y, z]) ∧ Nm st x l ∧ Nm st y m ∧ Nm st z n ∧ K (.val (.bool (decide (l.length ≤ 40 ∧ m.length ≤ 40 ∧ n.length ≤ 40)))) st
theorem PSpec.imp {P : Program} {f : FuncId} {R R' : List AV → St → (AV → St → Prop) → Prop} (h : PSpec P f R) (hR : ∀ xs st K, R' xs st K → R xs st K) : PSpec P f R' :=
  ⟨h.1, fun w0 β st w vs xs K hI hv hr => h.2 w0 β st w vs xs K hI hv (hR _ _ _ hr)⟩
theorem s_lsmall1 : PSpec Try.prog 20 RlSmall1 := s_lsmall.imp fun xs st K ⟨r, x, l, h, hr, hx, hK⟩ => ⟨r, [(x, l)], h, hr, by simpa using hx, by simp, by simpa using hK⟩
theorem s_lsmall2 : PSpec Try.prog 20 RlSmall2 := s_lsmall.imp fun xs st K ⟨r, x, y, l, m, h, hr, hx, hy, hK⟩ => ⟨r, [(x, l), (y, m)], h, hr, by simpa using ⟨hx, hy⟩, by simp, by simpa using hK⟩
theorem s_lsmall3 : PSpec Try.prog 20 RlSmall3 := s_lsmall.imp fun xs st K ⟨r, x, y, z, l, m, n, h, hr, hx, hy, hz, hK⟩ => ⟨r, [(x, l), (y, m), (z, n)], h, hr, by simpa using ⟨hx, hy, hz⟩, by simp, by simpa using hK⟩

theorem s_lsame : PSpec Try.prog 26 RSame := by
  refine fspec_of (fn := Try.f26) 2 [.tmp 4] (by kernel_rfl) rfl rfl (by kernel_rfl) mixed (by rintro _ _ _ ⟨x, y, l, m, rfl, _⟩; rfl) ?_
  rintro X _ st K hP hst ⟨x, y, l, m, rfl, hx, hy, hl, hm, hK⟩
  refine vc_V ?_
  simp (disch := first | assumption | omega | (simp only [lens]; omega)) only [eqs, ↓gvd_succ, ↓gvd_zero, ↓and_of, im_of, im_of trivial, vals, lsts, tys, hP, hst, initS, Nat.reduceBEq, Nat.reduceAdd, Nat.reduceMul, Nat.reduceSub, Nat.reduceDiv, Nat.reduceMod, Nat.reducePow, Nat.reduceLT, Nat.reduceLeDiff, Nat.reduceEqDiff, Int.reduceAdd, Int.reduceSub, Int.reduceNeg, Int.reduceMul, Int.reduceToNat, Int.reducePow, Int.reduceLE, Int.reduceLT, Int.reduceEq, Int.reduceNe, reduceIte, reduceCtorEq, ne_eq, not_true_eq_false, not_false_eq_true, imp_self, implies_true, bls, eq_self]
  refine E_call (hP ▸ s_Same) ⟨x, y, l, m, rfl, hx, hy, hl, hm, ?_⟩
  simp (disch := first | assumption | omega | (simp only [lens]; omega)) only [eqs, ↓gvd_succ, ↓gvd_zero, ↓and_of, im_of, im_of trivial, vals, lsts, tys, hP, hst, initS, Nat.reduceBEq, Nat.reduceAdd, Nat.reduceMul, Nat.reduceSub, Nat.reduceDiv, Nat.reduceMod, Nat.reducePow, Nat.reduceLT, Nat.reduceLeDiff, Nat.reduceEqDiff, Int.reduceAdd, Int.reduceSub, Int.reduceNeg, Int.reduceMul, Int.reduceToNat, Int.reducePow, Int.reduceLE, Int.reduceLT, Int.reduceEq, Int.reduceNe, reduceIte, reduceCtorEq, ne_eq, not_true_eq_false, not_false_eq_true, imp_self, implies_true, bls, eq_self]
  exact hK
/-- Two rows of one number are the same. -/
def RSameT (xs : List AV) (st : St) (K : AV → St → Prop) : Prop := ∃ x y l, xs = [x, y] ∧ Nm st x l ∧ Nm st y l ∧ l.length ≤ 1000000 ∧ K (.val (.bool true)) st
theorem s_lsameT : PSpec Try.prog 26 RSameT := s_lsame.imp fun xs st K ⟨x, y, l, h, hx, hy, hl, hK⟩ => ⟨x, y, l, l, h, hx, hy, hl, hl, by rw [decide_eq_true rfl]; exact hK⟩

theorem limbs_small {n : Nat} {k : Nat} (h : n < 4294967296 ^ k) (hk : k ≤ 1000) : (limbs n).length ≤ 5000 := Nat.le_trans (limbs_len_le h) (by omega)

/-- True, whatever was made. -/
def RTrue (xs : List AV) (st : St) (K : AV → St → Prop) : Prop := xs = [] ∧ anyw st (.bool true) K
theorem s_llives : PSpec Try.prog 21 RTrue := by
  refine fspec_of (fn := Try.f21) 0 [.tmp 0] (by kernel_rfl) rfl rfl (by kernel_rfl) mixed (by rintro _ _ _ ⟨rfl, _⟩; rfl) ?_
  rintro X _ st K hP hst ⟨rfl, hK⟩
  refine vc_V ?_
  simp (disch := first | assumption | omega | (simp only [lens]; omega)) only [eqs, ↓gvd_succ, ↓gvd_zero, ↓and_of, im_of, im_of trivial, vals, lsts, tys, hP, hst, initS, Nat.reduceBEq, Nat.reduceAdd, Nat.reduceMul, Nat.reduceSub, Nat.reduceDiv, Nat.reduceMod, Nat.reducePow, Nat.reduceLT, Nat.reduceLeDiff, Nat.reduceEqDiff, Int.reduceAdd, Int.reduceSub, Int.reduceNeg, Int.reduceMul, Int.reduceToNat, Int.reducePow, Int.reduceLE, Int.reduceLT, Int.reduceEq, Int.reduceNe, reduceIte, reduceCtorEq, ne_eq, not_true_eq_false, not_false_eq_true, imp_self, implies_true, bls, eq_self]
  refine E_call (hP ▸ s_Parse) ⟨_, 10, rfl, gotP_pres fun x T hT hx => ?_⟩
  rw [show parse 10 (sb ⟨#[49, 48, 48, 48, 48, 48, 48, 48, 48, 48, 48, 48, 48, 48, 48, 48, 48, 48, 48, 48, 48]⟩) = some 100000000000000000000 by decide +kernel] at hx ⊢
  simp (disch := first | assumption | omega | (simp only [lens]; omega)) only [eqs, ↓gvd_succ, ↓gvd_zero, ↓and_of, im_of, im_of trivial, vals, lsts, tys, hP, hst, initS, Nat.reduceBEq, Nat.reduceAdd, Nat.reduceMul, Nat.reduceSub, Nat.reduceDiv, Nat.reduceMod, Nat.reducePow, Nat.reduceLT, Nat.reduceLeDiff, Nat.reduceEqDiff, Int.reduceAdd, Int.reduceSub, Int.reduceNeg, Int.reduceMul, Int.reduceToNat, Int.reducePow, Int.reduceLE, Int.reduceLT, Int.reduceEq, Int.reduceNe, reduceIte, reduceCtorEq, ne_eq, not_true_eq_false, not_false_eq_true, imp_self, implies_true, bls, eq_self]
  refine E_call (hP ▸ s_Div) ⟨x, _, _, [7], rfl, hx.app _, Nm.one (w := 7) rfl (by omega), limbs_small (k := 4) (by simp) (by omega), by simp, fresh2_got fun q r T2 hq hr => ?_⟩
  rw [val_limbs, show val [7] = 7 by simp [val], Option.getD_some, show 100000000000000000000 / 7 = 14285714285714285714 from rfl] at hq
  rw [val_limbs, show val [7] = 7 by simp [val], Option.getD_some, if_neg (by omega), show 100000000000000000000 % 7 = 2 from rfl] at hr
  simp (disch := first | assumption | omega | (simp only [lens]; omega)) only [eqs, ↓gvd_succ, ↓gvd_zero, ↓and_of, im_of, im_of trivial, vals, lsts, tys, hP, hst, initS, Nat.reduceBEq, Nat.reduceAdd, Nat.reduceMul, Nat.reduceSub, Nat.reduceDiv, Nat.reduceMod, Nat.reducePow, Nat.reduceLT, Nat.reduceLeDiff, Nat.reduceEqDiff, Int.reduceAdd, Int.reduceSub, Int.reduceNeg, Int.reduceMul, Int.reduceToNat, Int.reducePow, Int.reduceLE, Int.reduceLT, Int.reduceEq, Int.reduceNe, reduceIte, reduceCtorEq, ne_eq, not_true_eq_false, not_false_eq_true, imp_self, implies_true, bls, eq_self]
  refine E_call (hP ▸ s_Text) ⟨q, _, 10, rfl, hq.nm, Nat.le_trans (limbs_small (k := 4) (by simp) (by omega)) (by omega), ?_⟩
  rw [val_limbs, show (if (10 : Int) < 2 ∨ 36 < (10 : Int) then (⟨#[]⟩ : ByteArray) else bstr (txt (Int.toNat 10) 14285714285714285714)) = ⟨#[49, 52, 50, 56, 53, 55, 49, 52, 50, 56, 53, 55, 49, 52, 50, 56, 53, 55, 49, 52]⟩ by rw [if_neg (by omega)]; simp [txt, digs_pos, digs_zero, dch]; decide +kernel]
  simp (disch := first | assumption | omega | (simp only [lens]; omega)) only [eqs, ↓gvd_succ, ↓gvd_zero, ↓and_of, im_of, im_of trivial, vals, lsts, tys, hP, hst, initS, Nat.reduceBEq, Nat.reduceAdd, Nat.reduceMul, Nat.reduceSub, Nat.reduceDiv, Nat.reduceMod, Nat.reducePow, Nat.reduceLT, Nat.reduceLeDiff, Nat.reduceEqDiff, Int.reduceAdd, Int.reduceSub, Int.reduceNeg, Int.reduceMul, Int.reduceToNat, Int.reducePow, Int.reduceLE, Int.reduceLT, Int.reduceEq, Int.reduceNe, reduceIte, reduceCtorEq, ne_eq, not_true_eq_false, not_false_eq_true, imp_self, implies_true, bls, eq_self, str_eq2]
  refine E_call (hP ▸ s_Text) ⟨r, _, 10, rfl, hr.nm, Nat.le_trans (limbs_small (k := 4) (by simp) (by omega)) (by omega), ?_⟩
  rw [val_limbs, show (if (10 : Int) < 2 ∨ 36 < (10 : Int) then (⟨#[]⟩ : ByteArray) else bstr (txt (Int.toNat 10) 2)) = ⟨#[50]⟩ by rw [if_neg (by omega)]; simp [txt, digs_pos, digs_zero, dch]; decide +kernel]
  simp (disch := first | assumption | omega | (simp only [lens]; omega)) only [eqs, ↓gvd_succ, ↓gvd_zero, ↓and_of, im_of, im_of trivial, vals, lsts, tys, hP, hst, initS, Nat.reduceBEq, Nat.reduceAdd, Nat.reduceMul, Nat.reduceSub, Nat.reduceDiv, Nat.reduceMod, Nat.reducePow, Nat.reduceLT, Nat.reduceLeDiff, Nat.reduceEqDiff, Int.reduceAdd, Int.reduceSub, Int.reduceNeg, Int.reduceMul, Int.reduceToNat, Int.reducePow, Int.reduceLE, Int.reduceLT, Int.reduceEq, Int.reduceNe, reduceIte, reduceCtorEq, ne_eq, not_true_eq_false, not_false_eq_true, imp_self, implies_true, bls, eq_self, str_eq2]
  refine E_call (hP ▸ s_Text) ⟨_, [255], 16, rfl, Nm.one (w := 255) rfl (by omega), by simp, ?_⟩
  rw [show val [255] = 255 by simp [val], show (if (16 : Int) < 2 ∨ 36 < (16 : Int) then (⟨#[]⟩ : ByteArray) else bstr (txt (Int.toNat 16) 255)) = ⟨#[102, 102]⟩ by rw [if_neg (by omega)]; simp [txt, digs_pos, digs_zero, dch]; decide +kernel]
  simp (disch := first | assumption | omega | (simp only [lens]; omega)) only [eqs, ↓gvd_succ, ↓gvd_zero, ↓and_of, im_of, im_of trivial, vals, lsts, tys, hP, hst, initS, Nat.reduceBEq, Nat.reduceAdd, Nat.reduceMul, Nat.reduceSub, Nat.reduceDiv, Nat.reduceMod, Nat.reducePow, Nat.reduceLT, Nat.reduceLeDiff, Nat.reduceEqDiff, Int.reduceAdd, Int.reduceSub, Int.reduceNeg, Int.reduceMul, Int.reduceToNat, Int.reducePow, Int.reduceLE, Int.reduceLT, Int.reduceEq, Int.reduceNe, reduceIte, reduceCtorEq, ne_eq, not_true_eq_false, not_false_eq_true, imp_self, implies_true, bls, eq_self, str_eq2]
  refine hK _ ?_
  exact (hT.trans ((Ext.add _).trans hq.ex)).app _
end Go.Proofs.Pv
