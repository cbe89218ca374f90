/- Good data, and that primitives tell such. -/
import Derived.Test.YtmclabehpfpnnaaDoorP9
set_option linter.unusedSimpArgs false
set_option linter.unusedVariables false
namespace Go.Proofs.Pv
open Go Go.RowKit Go.Proofs
set_option maxRecDepth 20000

def goodL (g : Bool) (l : List Nat) : Bool := if l.length = 0 then !g else decide (l.getD (l.length - 1) 0 ≠ 0)
def kd0 (ds : List Dt) : Int := (ds.head?.map Dt.kd).getD 0
mutual
def isM : Dt → Bool
  | .mk k g l b s its tls =>
    if k = 0 then decide (its.length = 0 ∧ tls.length = 0 ∧ g = false ∧ l.length = 0 ∧ b = false ∧ s = ⟨#[]⟩) else
    if k = 1 then decide (its.length = 0 ∧ tls.length = 0 ∧ b = false ∧ s = ⟨#[]⟩ ∧ goodL g l = true ∧ l.length ≤ 64) else
    if k = 2 then decide (its.length = 0 ∧ tls.length = 0 ∧ g = false ∧ l.length = 0 ∧ s = ⟨#[]⟩) else
    if k = 3 then decide (its.length = 0 ∧ tls.length = 0 ∧ g = false ∧ l.length = 0 ∧ b = false ∧ 1 ≤ s.size ∧ s.size ≤ 64) else
    if k = 4 then decide (its.length = 0 ∧ tls.length = 0 ∧ g = false ∧ l.length = 0 ∧ b = false ∧ s.size ≤ 1024) else
    if k = 5 then decide (g = false ∧ l.length = 0 ∧ b = false ∧ s = ⟨#[]⟩ ∧ tls.length ≤ 1 ∧ (tls.length = 1 → its.length ≠ 0 ∧ kd0 tls ≠ 5)) && isMs its && isMs tls else false
def isMs : List Dt → Bool
  | [] => true
  | d :: ds => isM d && isMs ds
end
theorem isM_mk {k : Int} {g : Bool} {l : List Nat} {b : Bool} {s : ByteArray} {its tls : List Dt} : isM (.mk k g l b s its tls) =
    (if k = 0 then decide (its.length = 0 ∧ tls.length = 0 ∧ g = false ∧ l.length = 0 ∧ b = false ∧ s = ⟨#[]⟩) else
    if k = 1 then decide (its.length = 0 ∧ tls.length = 0 ∧ b = false ∧ s = ⟨#[]⟩ ∧ goodL g l = true ∧ l.length ≤ 64) else
    if k = 2 then decide (its.length = 0 ∧ tls.length = 0 ∧ g = false ∧ l.length = 0 ∧ s = ⟨#[]⟩) else
    if k = 3 then decide (its.length = 0 ∧ tls.length = 0 ∧ g = false ∧ l.length = 0 ∧ b = false ∧ 1 ≤ s.size ∧ s.size ≤ 64) else
    if k = 4 then decide (its.length = 0 ∧ tls.length = 0 ∧ g = false ∧ l.length = 0 ∧ b = false ∧ s.size ≤ 1024) else
    if k = 5 then decide (g = false ∧ l.length = 0 ∧ b = false ∧ s = ⟨#[]⟩ ∧ tls.length ≤ 1 ∧ (tls.length = 1 → its.length ≠ 0 ∧ kd0 tls ≠ 5)) && isMs its && isMs tls else false) := by simp only [isM]
theorem isMs_iff {ds : List Dt} : isMs ds = true ↔ ∀ d ∈ ds, isM d = true := by
  induction ds with
  | nil => simp [isMs]
  | cons d ds ih => simp [isMs, ih]
theorem isMs_bad {ds : List Dt} {d : Dt} (h : d ∈ ds) (h2 : isM d = false) : isMs ds = false := by
  rw [Bool.eq_false_iff]
  intro h3
  rw [isMs_iff.1 h3 d h] at h2
  cases h2

theorem limbs_last {n : Nat} (h : (limbs n).length ≠ 0) : (limbs n).getD ((limbs n).length - 1) 0 ≠ 0 := by
  intro h0
  have hn : n ≠ 0 := by rintro rfl; rw [limbs_zero] at h; exact h rfl
  have h1 := limbs_ge hn
  have h2 := val_take_succ (limbs n) ((limbs n).length - 1)
  rw [h0, Nat.mul_zero, Nat.add_zero, show (limbs n).length - 1 + 1 = (limbs n).length by omega, List.take_length, val_limbs] at h2
  have h3 := val_lt (l := (limbs n).take ((limbs n).length - 1)) (fun x hx => limbs_lt n x (List.mem_of_mem_take hx))
  rw [List.length_take, Nat.min_eq_left (by omega)] at h3
  omega

/-- What is told is good; an error tells nothing. -/
def goodR (q : Dt × Int) : Prop := (q.2 = 0 ∨ q.1 = dNil) ∧ q.2 ≠ 2 ∧ isM q.1 = true ∧ q.1.sz = 1 ∧ q.1.dp = 1 ∧ q.1.fit
theorem sz0 {k : Int} {g : Bool} {l : List Nat} {b : Bool} {s : ByteArray} : (Dt.mk k g l b s [] []).sz = 1 := by rw [sz_mk]; simp [szs]
theorem dp0 {k : Int} {g : Bool} {l : List Nat} {b : Bool} {s : ByteArray} : (Dt.mk k g l b s [] []).dp = 1 := by rw [dp_mk]; simp [dps]
theorem gdr_nil {e : Int} (h : e ≠ 2) : goodR (dNil, e) := ⟨.inr rfl, h, by simp [dNil, isM_mk], sz0, dp0, fit0 (by simp)⟩
theorem gdr_bool {b : Bool} : goodR (dBool b, 0) := ⟨.inl rfl, by simp, by simp [dBool, isM_mk], sz0, dp0, fit0 (by simp)⟩
theorem gdr_str {s : ByteArray} (h : s.size ≤ 1024) : goodR (dStr s, 0) := ⟨.inl rfl, by simp, by simp [dStr, isM_mk, h], sz0, dp0, fit0 (by simp)⟩
theorem gdr_num {z : Int} (h : (limbs z.natAbs).length ≤ 64) : goodR (dNum z, 0) := by
  refine ⟨.inl rfl, by simp, ?_, sz0, dp0, fit0 (by omega)⟩
  show isM (dNum z) = true
  unfold dNum
  rw [isM_mk, if_neg (by omega), if_pos rfl, decide_eq_true_eq]
  refine ⟨rfl, rfl, rfl, rfl, ?_, h⟩
  unfold goodL
  have hv := val_limbs z.natAbs
  split
  · rename_i h0
    have : limbs z.natAbs = [] := List.eq_nil_of_length_eq_zero h0
    rw [this] at hv
    have : z = 0 := Int.natAbs_eq_zero.1 hv.symm
    subst this; rfl
  · rename_i h0
    rw [decide_eq_true_eq]
    exact limbs_last h0
theorem gdr_told {z : Int} : goodR (toldM z) := by
  unfold toldM
  split
  · exact gdr_nil (by omega)
  · exact gdr_num (by omega)
theorem gdr_numM {p z w : Int} : goodR (numM p z w) := by
  unfold numM
  repeat' split
  all_goals first | exact gdr_told | exact gdr_nil (by omega) | exact gdr_bool
theorem digs_len10 {n k : Nat} (h : n < 10 ^ k) : (digs 10 n).length ≤ k := by
  induction k generalizing n with
  | zero => have : n = 0 := by simpa using h
            subst this; rw [digs_zero]; simp
  | succ k ih =>
    by_cases h0 : n = 0
    · subst h0; rw [digs_zero]; simp
    · rw [digs_pos (by omega) h0, List.length_cons]
      have := ih (n := n / 10) (by rw [Nat.pow_succ] at h; omega)
      omega
theorem pow10 {n k : Nat} (hn : n < 4294967296 ^ k) : n < 10 ^ (10 * k) := by
  rw [Nat.pow_mul]
  exact Nat.lt_of_lt_of_le hn (Nat.pow_le_pow_left (by omega) k)
theorem txtI_len {z : Int} {m : Nat} (h : z.natAbs < 10 ^ m) (hm : m ≤ 640) : (txtI z).length ≤ 1024 := by
  have key : (txt 10 z.natAbs).length ≤ 641 := by
    unfold txt
    split
    · simp
    · have := digs_len10 h
      simp; omega
  unfold txtI
  split
  · rw [List.length_cons]; omega
  · omega
theorem gdr_textsM {p : Int} {l : List Dt} (hl : lightM l) : goodR (textsM p l) := by
  unfold textsM
  split
  · split
    · have h1 : ∀ d ∈ l, d.tx.size ≤ 140737488355328 := fun d hd => Nat.le_trans (hl.2 d hd).2.2.2 (by omega)
      have h2 := sumT_le h1
      have h3 := hl.1
      refine gdr_num (Nat.le_trans (limbs_len_le (k := 3) ?_) (by omega))
      rw [Int.natAbs_natCast, show (4294967296 : Nat) ^ 3 = 79228162514264337593543950336 from rfl]
      omega
    · split
      · exact gdr_bool
      · split
        · exact gdr_nil (by omega)
        · rename_i h4
          refine gdr_str ?_
          rw [ByteArray.size_append]
          have h0 : (⟨#[]⟩ : ByteArray).size = 0 := rfl
          match l with
          | [] => simp [h0]
          | [d] =>
            simp [sumT, h0] at h4 ⊢
            omega
          | d :: e :: r =>
            simp [sumT] at h4 ⊢
            omega
  · exact gdr_nil (by omega)
theorem isM_num {d : Dt} (h : isM d = true) (hk : d.kd = 1) : d.lm.length ≤ 64 := by
  obtain ⟨k, g, l, b, s, its, tls⟩ := d
  have hk : k = 1 := hk
  subst hk
  rw [isM_mk, if_neg (by omega), if_pos rfl, decide_eq_true_eq] at h
  exact h.2.2.2.2.2
theorem isM_sym {d : Dt} (h : isM d = true) (hk : d.kd = 3) : d.tx.size ≤ 64 := by
  obtain ⟨k, g, l, b, s, its, tls⟩ := d
  have hk : k = 3 := hk
  subst hk
  rw [isM_mk, if_neg (by omega), if_neg (by omega), if_neg (by omega), if_pos rfl, decide_eq_true_eq] at h
  exact h.2.2.2.2.2.2
theorem gdr_doK {p : Int} {d : Dt} {r : List Dt} (hl : lightM (d :: r)) (hg : isM d = true) (hv : ∀ x ∈ d.lm, x < 4294967296) : goodR (doK p d r) := by
  unfold doK
  by_cases h : p = 14
  · rw [if_pos h]; exact gdr_bool
  rw [if_neg h]; clear h
  by_cases h : p = 15
  · rw [if_pos h]; exact gdr_bool
  rw [if_neg h]; clear h
  by_cases h : p = 16
  · rw [if_pos h]; exact gdr_bool
  rw [if_neg h]; clear h
  by_cases h : p = 17
  · rw [if_pos h]; exact gdr_bool
  rw [if_neg h]; clear h
  by_cases h : p = 18
  · rw [if_pos h]; exact gdr_bool
  rw [if_neg h]; clear h
  by_cases h : p = 19
  · rw [if_pos h]; exact gdr_bool
  rw [if_neg h]; clear h
  by_cases h : p = 21
  · rw [if_pos h]
    cases r with
    | nil => exact gdr_nil (by omega)
    | cons e r => exact gdr_bool
  rw [if_neg h]; clear h
  by_cases h : p = 22
  · rw [if_pos h]; exact gdr_bool
  rw [if_neg h]; clear h
  by_cases h : p = 26
  · rw [if_pos h]
    by_cases h3 : d.kd = 3
    · rw [if_pos h3]; exact gdr_str (Nat.le_trans (isM_sym hg h3) (by omega))
    · rw [if_neg h3]; exact gdr_nil (by omega)
  rw [if_neg h]; clear h
  by_cases h : p = 27
  · rw [if_pos h]
    by_cases h3 : d.kd = 1
    · rw [if_pos h3]
      refine gdr_str ?_
      rw [bstr_size]
      have h6 := isM_num hg h3
      refine txtI_len (m := 10 * d.lm.length) ?_ (by omega)
      rw [show d.iv = Pv.iv d.ng (val d.lm) from rfl, iv_natAbs]
      exact pow10 (val_lt hv)
    · rw [if_neg h3]; exact gdr_nil (by omega)
  rw [if_neg h]
  exact gdr_textsM hl
theorem gdr_doM {p : Int} {ds : List Dt} (hp : plainM p = true) (hl : lightM ds) (hg : ∀ d ∈ ds, isM d = true) (hv : ∀ d ∈ ds, ∀ x ∈ d.lm, x < 4294967296) : goodR (doM p ds) := by
  unfold doM
  rw [if_neg (by simp [hp])]
  split
  · exact gdr_nil (by omega)
  · match ds with
    | [] => exact gdr_nil (by omega)
    | d :: r =>
      have hd : d ∈ d :: r := by simp
      by_cases h8 : p ≤ 8
      · match r with
        | [] => rw [show doL p [d] = if p ≤ 8 then (dNil, 8) else doK p d [] from rfl, if_pos h8]; exact gdr_nil (by omega)
        | e :: r =>
          rw [show doL p (d :: e :: r) = if p ≤ 8 then (if d.kd = 1 ∧ e.kd = 1 then numM p d.iv e.iv else (dNil, 6)) else doK p d (e :: r) from rfl, if_pos h8]
          split
          · exact gdr_numM
          · exact gdr_nil (by omega)
      · rw [doL_gt h8]
        exact gdr_doK hl (hg d hd) (hv d hd)
theorem doM_not {p : Int} {ds : List Dt} (h : plainM p = false) : doM p ds = (dNil, 2) := if_pos h
theorem bad_nil : isM dNil = true ∧ dNil.sz = 1 ∧ dNil.dp = 1 ∧ dNil.fit := (gdr_nil (e := 0) (by omega)).2.2
end Go.Proofs.Pv

/- The document's good data. -/
namespace Go.Proofs.Pv
open Go Go.RowKit Go.Proofs
set_option maxRecDepth 20000

theorem isMs_app {a b : List Dt} : isMs (a ++ b) = (isMs a && isMs b) := by
  induction a with
  | nil => rfl
  | cons d a ih => simp only [List.cons_append, isMs, ih, Bool.and_assoc]
theorem isMs_take {ds : List Dt} {i : Nat} {d : Dt} (h : ds[i]? = some d) : isMs (ds.take (i + 1)) = (isMs (ds.take i) && isM d) := by
  rw [take_succ' h, isMs_app]; simp [isMs]
def RIs (N : Nat) (xs : List AV) (st : St) (K : AV → St → Prop) : Prop := ∃ x d, xs = [x] ∧ DA st x d ∧ d.sz < N ∧ d.sz ≤ 100000 ∧ d.fit ∧ anyw st (.bool (isM d)) K
set_option maxHeartbeats 40000000 in
theorem s_is3 (N : Nat) : PSpec Tryd.prog 46 (RIs N) := by
  induction N with
  | zero =>
    refine fspec_of (fn := Tryd.f46) 1 [.tmp 2] (by kernel_rfl) rfl rfl (by kernel_rfl) mixed (by rintro _ _ _ ⟨x, d, rfl, _⟩; rfl) ?_
    rintro X _ st K hP hst ⟨x, d, rfl, hx, hN, _⟩
    omega
  | succ N ih =>
  refine fspec_of (fn := Tryd.f46) 1 [.tmp 2] (by kernel_rfl) rfl rfl (by kernel_rfl) mixed (by rintro _ _ _ ⟨x, d, rfl, _⟩; rfl) ?_
  rintro X _ st K hP hst ⟨x, d, rfl, hx, hN, hc, hf, hK⟩
  have hX : X.st1.length ≤ st.length := by rw [hst]; omega
  obtain ⟨k, g, a, l, b, s, x, y, its, tls, rfl, rfl, ha, hx, hy⟩ := hx.inv
  rw [fit_mk] at hf
  rw [sz_mk] at hN hc
  have la := ha.leaf
  have lx := hx.leaf
  have ly := hy.leaf
  obtain ⟨cx, sx, _, _⟩ := hx.inv
  obtain ⟨cy, sy, _, _⟩ := hy.inv
  have sx2 := fun z => sl_grow sx z
  have sy2 := fun z => sl_grow sy z
  have ag := ha.grow
  have bx : its.length ≤ 100000 := by have := szs_len (ds := its); omega
  have by_ : tls.length ≤ 100000 := by have := szs_len (ds := tls); omega
  have bl : l.length ≤ 35184372088832 := hf.1
  have no : isM (.mk k g l b s its tls) = false → anyw st (.bool false) K := fun h => by rw [h] at hK; exact hK
  have yes : isM (.mk k g l b s its tls) = true → anyw st (.bool true) K := fun h => by rw [h] at hK; exact hK
  clear hK
  refine vc_V ?_
  by_cases n1 : (its.length : Int) = 0
  · have n1m : its.length = 0 := by omega
    by_cases n2 : (tls.length : Int) = 0
    · have n2m : tls.length = 0 := by omega
      cases g
      · by_cases l0 : (l.length : Int) = 0
        · have l0n : l = [] := List.eq_nil_of_length_eq_zero (by omega)
          have l0m : l.length = 0 := by omega
          by_cases k0 : k = 0
          · subst k0
            cases b
            · by_cases hs : s = ⟨#[]⟩
              · subst hs
                simp (disch := first | assumption | omega | (simp only [lens]; omega)) only [eqs, ↓gvd_succ, ↓gvd_zero, ↓and_of, im_of, im_of trivial, vals, lsts, tys, hP, hst, initS, Nat.reduceBEq, Nat.reduceAdd, Nat.reduceMul, Nat.reduceSub, Nat.reduceDiv, Nat.reduceMod, Nat.reducePow, Nat.reduceLT, Nat.reduceLeDiff, Nat.reduceEqDiff, Int.reduceAdd, Int.reduceSub, Int.reduceNeg, Int.reduceMul, Int.reduceToNat, Int.reducePow, Int.reduceLE, Int.reduceLT, Int.reduceEq, Int.reduceNe, reduceIte, reduceCtorEq, ne_eq, not_true_eq_false, not_false_eq_true, imp_self, implies_true, bls, eq_self, n1, n1m, n2, n2m, l0, l0m, la, lx, ly, sx2, sy2, ag, str_eq2, Bool.not_true, Bool.not_false]
                exact yes (by rw [isM_mk]; simp [n1, n1m, n2, n2m, l0, l0m]) _ (.add _)
              · simp (disch := first | assumption | omega | (simp only [lens]; omega)) only [eqs, ↓gvd_succ, ↓gvd_zero, ↓and_of, im_of, im_of trivial, vals, lsts, tys, hP, hst, initS, Nat.reduceBEq, Nat.reduceAdd, Nat.reduceMul, Nat.reduceSub, Nat.reduceDiv, Nat.reduceMod, Nat.reducePow, Nat.reduceLT, Nat.reduceLeDiff, Nat.reduceEqDiff, Int.reduceAdd, Int.reduceSub, Int.reduceNeg, Int.reduceMul, Int.reduceToNat, Int.reducePow, Int.reduceLE, Int.reduceLT, Int.reduceEq, Int.reduceNe, reduceIte, reduceCtorEq, ne_eq, not_true_eq_false, not_false_eq_true, imp_self, implies_true, bls, eq_self, n1, n1m, n2, n2m, l0, l0m, hs, la, lx, ly, sx2, sy2, ag, str_eq2, Bool.not_true, Bool.not_false]
                exact no (by rw [isM_mk]; simp [n1, n1m, n2, n2m, l0, l0m, hs]) _ (.add _)
            · simp (disch := first | assumption | omega | (simp only [lens]; omega)) only [eqs, ↓gvd_succ, ↓gvd_zero, ↓and_of, im_of, im_of trivial, vals, lsts, tys, hP, hst, initS, Nat.reduceBEq, Nat.reduceAdd, Nat.reduceMul, Nat.reduceSub, Nat.reduceDiv, Nat.reduceMod, Nat.reducePow, Nat.reduceLT, Nat.reduceLeDiff, Nat.reduceEqDiff, Int.reduceAdd, Int.reduceSub, Int.reduceNeg, Int.reduceMul, Int.reduceToNat, Int.reducePow, Int.reduceLE, Int.reduceLT, Int.reduceEq, Int.reduceNe, reduceIte, reduceCtorEq, ne_eq, not_true_eq_false, not_false_eq_true, imp_self, implies_true, bls, eq_self, n1, n1m, n2, n2m, l0, l0m, la, lx, ly, sx2, sy2, ag, str_eq2, Bool.not_true, Bool.not_false]
              exact no (by rw [isM_mk]; simp [n1, n1m, n2, n2m, l0, l0m]) _ (.add _)
          · by_cases k1 : k = 1
            · subst k1
              cases b
              · by_cases hs : s = ⟨#[]⟩
                · subst hs
                  simp (disch := first | assumption | omega | (simp only [lens]; omega)) only [eqs, ↓gvd_succ, ↓gvd_zero, ↓and_of, im_of, im_of trivial, vals, lsts, tys, hP, hst, initS, Nat.reduceBEq, Nat.reduceAdd, Nat.reduceMul, Nat.reduceSub, Nat.reduceDiv, Nat.reduceMod, Nat.reducePow, Nat.reduceLT, Nat.reduceLeDiff, Nat.reduceEqDiff, Int.reduceAdd, Int.reduceSub, Int.reduceNeg, Int.reduceMul, Int.reduceToNat, Int.reducePow, Int.reduceLE, Int.reduceLT, Int.reduceEq, Int.reduceNe, reduceIte, reduceCtorEq, ne_eq, not_true_eq_false, not_false_eq_true, imp_self, implies_true, bls, eq_self, n1, n1m, n2, n2m, l0, l0m, la, lx, ly, sx2, sy2, ag, str_eq2, Bool.not_true, Bool.not_false]
                  refine E_call (hP ▸ s_qGood) ⟨_, _, l, rfl, ⟨a, rfl, ha.ext (.add _)⟩, bl, fun T hT => ?_⟩
                  rw [show (if l.length = 0 then !false else decide (l.getD (l.length - 1) 0 ≠ 0)) = goodL false l from rfl]
                  have e0 := (Ext.add _).trans hT
                  have gA := (At.mk0.ext hT).get
                  have aT := (ha.ext e0).sl
                  cases hg : goodL false l
                  · simp (disch := first | assumption | omega | (simp only [lens]; omega)) only [eqs, ↓gvd_succ, ↓gvd_zero, ↓and_of, im_of, im_of trivial, vals, lsts, tys, hP, hst, initS, Nat.reduceBEq, Nat.reduceAdd, Nat.reduceMul, Nat.reduceSub, Nat.reduceDiv, Nat.reduceMod, Nat.reducePow, Nat.reduceLT, Nat.reduceLeDiff, Nat.reduceEqDiff, Int.reduceAdd, Int.reduceSub, Int.reduceNeg, Int.reduceMul, Int.reduceToNat, Int.reducePow, Int.reduceLE, Int.reduceLT, Int.reduceEq, Int.reduceNe, reduceIte, reduceCtorEq, ne_eq, not_true_eq_false, not_false_eq_true, imp_self, implies_true, bls, eq_self, gA]
                    exact no (by rw [isM_mk]; simp [n1, n1m, n2, n2m, l0, l0m, hg]) _ e0
                  · by_cases h64 : (l.length : Int) ≤ 64
                    · have h64n : l.length ≤ 64 := by omega
                      simp (disch := first | assumption | omega | (simp only [lens]; omega)) only [eqs, ↓gvd_succ, ↓gvd_zero, ↓and_of, im_of, im_of trivial, vals, lsts, tys, hP, hst, initS, Nat.reduceBEq, Nat.reduceAdd, Nat.reduceMul, Nat.reduceSub, Nat.reduceDiv, Nat.reduceMod, Nat.reducePow, Nat.reduceLT, Nat.reduceLeDiff, Nat.reduceEqDiff, Int.reduceAdd, Int.reduceSub, Int.reduceNeg, Int.reduceMul, Int.reduceToNat, Int.reducePow, Int.reduceLE, Int.reduceLT, Int.reduceEq, Int.reduceNe, reduceIte, reduceCtorEq, ne_eq, not_true_eq_false, not_false_eq_true, imp_self, implies_true, bls, eq_self, gA, aT, h64]
                      exact yes (by rw [isM_mk]; simp [n1, n1m, n2, n2m, l0, l0m, hg, h64n]) _ e0
                    · have h64n : ¬l.length ≤ 64 := by omega
                      simp (disch := first | assumption | omega | (simp only [lens]; omega)) only [eqs, ↓gvd_succ, ↓gvd_zero, ↓and_of, im_of, im_of trivial, vals, lsts, tys, hP, hst, initS, Nat.reduceBEq, Nat.reduceAdd, Nat.reduceMul, Nat.reduceSub, Nat.reduceDiv, Nat.reduceMod, Nat.reducePow, Nat.reduceLT, Nat.reduceLeDiff, Nat.reduceEqDiff, Int.reduceAdd, Int.reduceSub, Int.reduceNeg, Int.reduceMul, Int.reduceToNat, Int.reducePow, Int.reduceLE, Int.reduceLT, Int.reduceEq, Int.reduceNe, reduceIte, reduceCtorEq, ne_eq, not_true_eq_false, not_false_eq_true, imp_self, implies_true, bls, eq_self, gA, aT, h64]
                      exact no (by first | omega | (rw [isM_mk]; simp [n1, n1m, n2, n2m, l0, l0m, hg, h64n])) _ e0
                · simp (disch := first | assumption | omega | (simp only [lens]; omega)) only [eqs, ↓gvd_succ, ↓gvd_zero, ↓and_of, im_of, im_of trivial, vals, lsts, tys, hP, hst, initS, Nat.reduceBEq, Nat.reduceAdd, Nat.reduceMul, Nat.reduceSub, Nat.reduceDiv, Nat.reduceMod, Nat.reducePow, Nat.reduceLT, Nat.reduceLeDiff, Nat.reduceEqDiff, Int.reduceAdd, Int.reduceSub, Int.reduceNeg, Int.reduceMul, Int.reduceToNat, Int.reducePow, Int.reduceLE, Int.reduceLT, Int.reduceEq, Int.reduceNe, reduceIte, reduceCtorEq, ne_eq, not_true_eq_false, not_false_eq_true, imp_self, implies_true, bls, eq_self, n1, n1m, n2, n2m, l0, l0m, hs, la, lx, ly, sx2, sy2, ag, str_eq2, Bool.not_true, Bool.not_false]
                  exact no (by rw [isM_mk]; simp [n1, n1m, n2, n2m, l0, l0m, hs]) _ (.add _)
              · simp (disch := first | assumption | omega | (simp only [lens]; omega)) only [eqs, ↓gvd_succ, ↓gvd_zero, ↓and_of, im_of, im_of trivial, vals, lsts, tys, hP, hst, initS, Nat.reduceBEq, Nat.reduceAdd, Nat.reduceMul, Nat.reduceSub, Nat.reduceDiv, Nat.reduceMod, Nat.reducePow, Nat.reduceLT, Nat.reduceLeDiff, Nat.reduceEqDiff, Int.reduceAdd, Int.reduceSub, Int.reduceNeg, Int.reduceMul, Int.reduceToNat, Int.reducePow, Int.reduceLE, Int.reduceLT, Int.reduceEq, Int.reduceNe, reduceIte, reduceCtorEq, ne_eq, not_true_eq_false, not_false_eq_true, imp_self, implies_true, bls, eq_self, n1, n1m, n2, n2m, l0, l0m, la, lx, ly, sx2, sy2, ag, str_eq2, Bool.not_true, Bool.not_false]
                exact no (by rw [isM_mk]; simp [n1, n1m, n2, n2m, l0, l0m]) _ (.add _)
            · by_cases k2 : k = 2
              · subst k2
                by_cases hs : s = ⟨#[]⟩
                · subst hs
                  simp (disch := first | assumption | omega | (simp only [lens]; omega)) only [eqs, ↓gvd_succ, ↓gvd_zero, ↓and_of, im_of, im_of trivial, vals, lsts, tys, hP, hst, initS, Nat.reduceBEq, Nat.reduceAdd, Nat.reduceMul, Nat.reduceSub, Nat.reduceDiv, Nat.reduceMod, Nat.reducePow, Nat.reduceLT, Nat.reduceLeDiff, Nat.reduceEqDiff, Int.reduceAdd, Int.reduceSub, Int.reduceNeg, Int.reduceMul, Int.reduceToNat, Int.reducePow, Int.reduceLE, Int.reduceLT, Int.reduceEq, Int.reduceNe, reduceIte, reduceCtorEq, ne_eq, not_true_eq_false, not_false_eq_true, imp_self, implies_true, bls, eq_self, n1, n1m, n2, n2m, l0, l0m, la, lx, ly, sx2, sy2, ag, str_eq2, Bool.not_true, Bool.not_false]
                  exact yes (by rw [isM_mk]; simp [n1, n1m, n2, n2m, l0, l0m]) _ (.add _)
                · simp (disch := first | assumption | omega | (simp only [lens]; omega)) only [eqs, ↓gvd_succ, ↓gvd_zero, ↓and_of, im_of, im_of trivial, vals, lsts, tys, hP, hst, initS, Nat.reduceBEq, Nat.reduceAdd, Nat.reduceMul, Nat.reduceSub, Nat.reduceDiv, Nat.reduceMod, Nat.reducePow, Nat.reduceLT, Nat.reduceLeDiff, Nat.reduceEqDiff, Int.reduceAdd, Int.reduceSub, Int.reduceNeg, Int.reduceMul, Int.reduceToNat, Int.reducePow, Int.reduceLE, Int.reduceLT, Int.reduceEq, Int.reduceNe, reduceIte, reduceCtorEq, ne_eq, not_true_eq_false, not_false_eq_true, imp_self, implies_true, bls, eq_self, n1, n1m, n2, n2m, l0, l0m, hs, la, lx, ly, sx2, sy2, ag, str_eq2, Bool.not_true, Bool.not_false]
                  exact no (by rw [isM_mk]; simp [n1, n1m, n2, n2m, l0, l0m, hs]) _ (.add _)
              · by_cases k3 : k = 3
                · subst k3
                  cases b
                  · by_cases q1 : 1 ≤ ((sb s).length : Int)
                    · have q1n : 1 ≤ s.size := by first | exact q1 | (rw [sb_length] at q1; omega)
                      by_cases q2 : ((sb s).length : Int) ≤ 64
                      · have q2n : s.size ≤ 64 := by first | exact q2 | (rw [sb_length] at q2; omega)
                        simp (disch := first | assumption | omega | (simp only [lens]; omega)) only [eqs, ↓gvd_succ, ↓gvd_zero, ↓and_of, im_of, im_of trivial, vals, lsts, tys, hP, hst, initS, Nat.reduceBEq, Nat.reduceAdd, Nat.reduceMul, Nat.reduceSub, Nat.reduceDiv, Nat.reduceMod, Nat.reducePow, Nat.reduceLT, Nat.reduceLeDiff, Nat.reduceEqDiff, Int.reduceAdd, Int.reduceSub, Int.reduceNeg, Int.reduceMul, Int.reduceToNat, Int.reducePow, Int.reduceLE, Int.reduceLT, Int.reduceEq, Int.reduceNe, reduceIte, reduceCtorEq, ne_eq, not_true_eq_false, not_false_eq_true, imp_self, implies_true, bls, eq_self, n1, n1m, n2, n2m, l0, l0m, q1, q1n, q2, q2n, la, lx, ly, sx2, sy2, ag, str_eq2, Bool.not_true, Bool.not_false]
                        exact yes (by rw [isM_mk]; simp [n1, n1m, n2, n2m, l0, l0m, q1, q1n, q2, q2n]) _ (.add _)
                      · have q2n : ¬s.size ≤ 64 := by first | exact q2 | (rw [sb_length] at q2; omega)
                        simp (disch := first | assumption | omega | (simp only [lens]; omega)) only [eqs, ↓gvd_succ, ↓gvd_zero, ↓and_of, im_of, im_of trivial, vals, lsts, tys, hP, hst, initS, Nat.reduceBEq, Nat.reduceAdd, Nat.reduceMul, Nat.reduceSub, Nat.reduceDiv, Nat.reduceMod, Nat.reducePow, Nat.reduceLT, Nat.reduceLeDiff, Nat.reduceEqDiff, Int.reduceAdd, Int.reduceSub, Int.reduceNeg, Int.reduceMul, Int.reduceToNat, Int.reducePow, Int.reduceLE, Int.reduceLT, Int.reduceEq, Int.reduceNe, reduceIte, reduceCtorEq, ne_eq, not_true_eq_false, not_false_eq_true, imp_self, implies_true, bls, eq_self, n1, n1m, n2, n2m, l0, l0m, q1, q1n, q2, q2n, la, lx, ly, sx2, sy2, ag, str_eq2, Bool.not_true, Bool.not_false]
                        exact no (by rw [isM_mk]; simp [n1, n1m, n2, n2m, l0, l0m, q1, q1n, q2, q2n]) _ (.add _)
                    · have q1n : ¬1 ≤ s.size := by first | exact q1 | (rw [sb_length] at q1; omega)
                      simp (disch := first | assumption | omega | (simp only [lens]; omega)) only [eqs, ↓gvd_succ, ↓gvd_zero, ↓and_of, im_of, im_of trivial, vals, lsts, tys, hP, hst, initS, Nat.reduceBEq, Nat.reduceAdd, Nat.reduceMul, Nat.reduceSub, Nat.reduceDiv, Nat.reduceMod, Nat.reducePow, Nat.reduceLT, Nat.reduceLeDiff, Nat.reduceEqDiff, Int.reduceAdd, Int.reduceSub, Int.reduceNeg, Int.reduceMul, Int.reduceToNat, Int.reducePow, Int.reduceLE, Int.reduceLT, Int.reduceEq, Int.reduceNe, reduceIte, reduceCtorEq, ne_eq, not_true_eq_false, not_false_eq_true, imp_self, implies_true, bls, eq_self, n1, n1m, n2, n2m, l0, l0m, q1, q1n, la, lx, ly, sx2, sy2, ag, str_eq2, Bool.not_true, Bool.not_false]
                      exact no (by rw [isM_mk]; simp [n1, n1m, n2, n2m, l0, l0m, q1, q1n]) _ (.add _)
                  · simp (disch := first | assumption | omega | (simp only [lens]; omega)) only [eqs, ↓gvd_succ, ↓gvd_zero, ↓and_of, im_of, im_of trivial, vals, lsts, tys, hP, hst, initS, Nat.reduceBEq, Nat.reduceAdd, Nat.reduceMul, Nat.reduceSub, Nat.reduceDiv, Nat.reduceMod, Nat.reducePow, Nat.reduceLT, Nat.reduceLeDiff, Nat.reduceEqDiff, Int.reduceAdd, Int.reduceSub, Int.reduceNeg, Int.reduceMul, Int.reduceToNat, Int.reducePow, Int.reduceLE, Int.reduceLT, Int.reduceEq, Int.reduceNe, reduceIte, reduceCtorEq, ne_eq, not_true_eq_false, not_false_eq_true, imp_self, implies_true, bls, eq_self, n1, n1m, n2, n2m, l0, l0m, la, lx, ly, sx2, sy2, ag, str_eq2, Bool.not_true, Bool.not_false]
                    exact no (by rw [isM_mk]; simp [n1, n1m, n2, n2m, l0, l0m]) _ (.add _)
                · by_cases k4 : k = 4
                  · subst k4
                    cases b
                    · by_cases q2 : ((sb s).length : Int) ≤ 1024
                      · have q2n : s.size ≤ 1024 := by first | exact q2 | (rw [sb_length] at q2; omega)
                        simp (disch := first | assumption | omega | (simp only [lens]; omega)) only [eqs, ↓gvd_succ, ↓gvd_zero, ↓and_of, im_of, im_of trivial, vals, lsts, tys, hP, hst, initS, Nat.reduceBEq, Nat.reduceAdd, Nat.reduceMul, Nat.reduceSub, Nat.reduceDiv, Nat.reduceMod, Nat.reducePow, Nat.reduceLT, Nat.reduceLeDiff, Nat.reduceEqDiff, Int.reduceAdd, Int.reduceSub, Int.reduceNeg, Int.reduceMul, Int.reduceToNat, Int.reducePow, Int.reduceLE, Int.reduceLT, Int.reduceEq, Int.reduceNe, reduceIte, reduceCtorEq, ne_eq, not_true_eq_false, not_false_eq_true, imp_self, implies_true, bls, eq_self, n1, n1m, n2, n2m, l0, l0m, q2, q2n, la, lx, ly, sx2, sy2, ag, str_eq2, Bool.not_true, Bool.not_false]
                        exact yes (by rw [isM_mk]; simp [n1, n1m, n2, n2m, l0, l0m, q2, q2n]) _ (.add _)
                      · have q2n : ¬s.size ≤ 1024 := by first | exact q2 | (rw [sb_length] at q2; omega)
                        simp (disch := first | assumption | omega | (simp only [lens]; omega)) only [eqs, ↓gvd_succ, ↓gvd_zero, ↓and_of, im_of, im_of trivial, vals, lsts, tys, hP, hst, initS, Nat.reduceBEq, Nat.reduceAdd, Nat.reduceMul, Nat.reduceSub, Nat.reduceDiv, Nat.reduceMod, Nat.reducePow, Nat.reduceLT, Nat.reduceLeDiff, Nat.reduceEqDiff, Int.reduceAdd, Int.reduceSub, Int.reduceNeg, Int.reduceMul, Int.reduceToNat, Int.reducePow, Int.reduceLE, Int.reduceLT, Int.reduceEq, Int.reduceNe, reduceIte, reduceCtorEq, ne_eq, not_true_eq_false, not_false_eq_true, imp_self, implies_true, bls, eq_self, n1, n1m, n2, n2m, l0, l0m, q2, q2n, la, lx, ly, sx2, sy2, ag, str_eq2, Bool.not_true, Bool.not_false]
                        exact no (by rw [isM_mk]; simp [n1, n1m, n2, n2m, l0, l0m, q2, q2n]) _ (.add _)
                    · simp (disch := first | assumption | omega | (simp only [lens]; omega)) only [eqs, ↓gvd_succ, ↓gvd_zero, ↓and_of, im_of, im_of trivial, vals, lsts, tys, hP, hst, initS, Nat.reduceBEq, Nat.reduceAdd, Nat.reduceMul, Nat.reduceSub, Nat.reduceDiv, Nat.reduceMod, Nat.reducePow, Nat.reduceLT, Nat.reduceLeDiff, Nat.reduceEqDiff, Int.reduceAdd, Int.reduceSub, Int.reduceNeg, Int.reduceMul, Int.reduceToNat, Int.reducePow, Int.reduceLE, Int.reduceLT, Int.reduceEq, Int.reduceNe, reduceIte, reduceCtorEq, ne_eq, not_true_eq_false, not_false_eq_true, imp_self, implies_true, bls, eq_self, n1, n1m, n2, n2m, l0, l0m, la, lx, ly, sx2, sy2, ag, str_eq2, Bool.not_true, Bool.not_false]
                      exact no (by rw [isM_mk]; simp [n1, n1m, n2, n2m, l0, l0m]) _ (.add _)
                  · by_cases k5 : k = 5
                    · subst k5
                      cases b
                      · by_cases hs : s = ⟨#[]⟩
                        · subst hs
                          have t1 : ¬1 < (tls.length : Int) := by omega
                          have t2 : ¬(tls.length : Int) = 1 := by omega
                          have t1n : tls.length ≤ 1 := by omega
                          have t2n : ¬tls.length = 1 := by omega
                          have hM : isM (.mk 5 false l false ⟨#[]⟩ its tls) = (isMs its && isMs tls) := by rw [isM_mk]; simp [n1, n1m, n2, n2m, l0, l0m, t1, t2, t1n, t2n]
                          simp (disch := first | assumption | omega | (simp only [lens]; omega)) only [eqs, ↓gvd_succ, ↓gvd_zero, ↓and_of, im_of, im_of trivial, vals, lsts, tys, hP, hst, initS, Nat.reduceBEq, Nat.reduceAdd, Nat.reduceMul, Nat.reduceSub, Nat.reduceDiv, Nat.reduceMod, Nat.reducePow, Nat.reduceLT, Nat.reduceLeDiff, Nat.reduceEqDiff, Int.reduceAdd, Int.reduceSub, Int.reduceNeg, Int.reduceMul, Int.reduceToNat, Int.reducePow, Int.reduceLE, Int.reduceLT, Int.reduceEq, Int.reduceNe, reduceIte, reduceCtorEq, ne_eq, not_true_eq_false, not_false_eq_true, imp_self, implies_true, bls, eq_self, n1, n1m, n2, n2m, l0, l0m, t1, t2, t1n, t2n, la, lx, ly, sx2, sy2, ag, str_eq2, Bool.not_true, Bool.not_false]
                          refine V_loop (ι := Nat × St) (fun e => [(168, .val (.int .i64 (e.1 : Int))), (167, .agg [x, y])]) (fun e => e.2)
                            (fun e => Ext st e.2 ∧ e.1 ≤ 2 ∧ isMs (pre2 its tls e.1) = true) (fun e => 2 - e.1) (0, _) ⟨.add _, by simp, rfl⟩ rfl (by simp (disch := first | assumption | omega | (simp only [lens]; omega)) only [eqs, ↓gvd_succ, ↓gvd_zero, ↓and_of, im_of, im_of trivial, vals, lsts, tys, hP, hst, initS, Nat.reduceBEq, Nat.reduceAdd, Nat.reduceMul, Nat.reduceSub, Nat.reduceDiv, Nat.reduceMod, Nat.reducePow, Nat.reduceLT, Nat.reduceLeDiff, Nat.reduceEqDiff, Int.reduceAdd, Int.reduceSub, Int.reduceNeg, Int.reduceMul, Int.reduceToNat, Int.reducePow, Int.reduceLE, Int.reduceLT, Int.reduceEq, Int.reduceNe, reduceIte, reduceCtorEq, ne_eq, not_true_eq_false, not_false_eq_true, imp_self, implies_true, bls, eq_self] <;> rfl) ?_
                          rintro ⟨j, T⟩ ⟨hT, hj, hs1⟩
                          dsimp only at hT hj hs1 ⊢
                          simp (disch := first | assumption | omega | (simp only [lens]; omega)) only [eqs, ↓gvd_succ, ↓gvd_zero, ↓and_of, im_of, im_of trivial, vals, lsts, tys, hP, hst, initS, Nat.reduceBEq, Nat.reduceAdd, Nat.reduceMul, Nat.reduceSub, Nat.reduceDiv, Nat.reduceMod, Nat.reducePow, Nat.reduceLT, Nat.reduceLeDiff, Nat.reduceEqDiff, Int.reduceAdd, Int.reduceSub, Int.reduceNeg, Int.reduceMul, Int.reduceToNat, Int.reducePow, Int.reduceLE, Int.reduceLT, Int.reduceEq, Int.reduceNe, reduceIte, reduceCtorEq, ne_eq, not_true_eq_false, not_false_eq_true, imp_self, implies_true, bls, eq_self]
                          refine C_dec (fun h3 => ?_) (fun h3 => ?_)
                          · obtain ⟨z, ds, hz, hzd, hp⟩ := pre2_step its tls x y (j := j) (by omega)
                            have hle : szs ds ≤ szs its + szs tls := by rcases hzd with ⟨_, rfl⟩ | ⟨_, rfl⟩ <;> omega
                            have hds : DS st z ds := by rcases hzd with ⟨rfl, rfl⟩ | ⟨rfl, rfl⟩ <;> assumption
                            have hfd : fits ds := by rcases hzd with ⟨_, rfl⟩ | ⟨_, rfl⟩ <;> first | exact hf.2.1 | exact hf.2.2
                            have hbad : isMs ds = false → (isMs its && isMs tls) = false := fun h => by rcases hzd with ⟨_, rfl⟩ | ⟨_, rfl⟩ <;> simp [h]
                            have bz : ds.length ≤ 100000 := by have := szs_len (ds := ds); omega
                            simp (disch := first | assumption | omega | (simp only [lens]; omega)) only [eqs, ↓gvd_succ, ↓gvd_zero, ↓and_of, im_of, im_of trivial, vals, lsts, tys, hP, hst, initS, Nat.reduceBEq, Nat.reduceAdd, Nat.reduceMul, Nat.reduceSub, Nat.reduceDiv, Nat.reduceMod, Nat.reducePow, Nat.reduceLT, Nat.reduceLeDiff, Nat.reduceEqDiff, Int.reduceAdd, Int.reduceSub, Int.reduceNeg, Int.reduceMul, Int.reduceToNat, Int.reducePow, Int.reduceLE, Int.reduceLT, Int.reduceEq, Int.reduceNe, reduceIte, reduceCtorEq, ne_eq, not_true_eq_false, not_false_eq_true, imp_self, implies_true, bls, eq_self]
                            refine F_idx hz rfl (by omega) ?_
                            obtain ⟨cs, hsl, hdl, hcl⟩ := (hds.ext hT).inv
                            simp (disch := first | assumption | omega | (simp only [lens]; omega)) only [eqs, ↓gvd_succ, ↓gvd_zero, ↓and_of, im_of, im_of trivial, vals, lsts, tys, hP, hst, initS, Nat.reduceBEq, Nat.reduceAdd, Nat.reduceMul, Nat.reduceSub, Nat.reduceDiv, Nat.reduceMod, Nat.reducePow, Nat.reduceLT, Nat.reduceLeDiff, Nat.reduceEqDiff, Int.reduceAdd, Int.reduceSub, Int.reduceNeg, Int.reduceMul, Int.reduceToNat, Int.reducePow, Int.reduceLE, Int.reduceLT, Int.reduceEq, Int.reduceNe, reduceIte, reduceCtorEq, ne_eq, not_true_eq_false, not_false_eq_true, imp_self, implies_true, bls, eq_self, hsl]
                            refine V_loop (ι := Nat × St) (fun e => [(173, .val (.int .i64 (e.1 : Int))), (172, .val (.int .i64 (ds.length : Int))), (171, z), (168, .val (.int .i64 (j : Int))), (167, .agg [x, y])]) (fun e => e.2)
                              (fun e => Ext T e.2 ∧ e.1 ≤ ds.length ∧ isMs (ds.take e.1) = true) (fun e => ds.length - e.1) (0, T) ⟨.refl, by simp, rfl⟩ rfl (by simp (disch := first | assumption | omega | (simp only [lens]; omega)) only [eqs, ↓gvd_succ, ↓gvd_zero, ↓and_of, im_of, im_of trivial, vals, lsts, tys, hP, hst, initS, Nat.reduceBEq, Nat.reduceAdd, Nat.reduceMul, Nat.reduceSub, Nat.reduceDiv, Nat.reduceMod, Nat.reducePow, Nat.reduceLT, Nat.reduceLeDiff, Nat.reduceEqDiff, Int.reduceAdd, Int.reduceSub, Int.reduceNeg, Int.reduceMul, Int.reduceToNat, Int.reducePow, Int.reduceLE, Int.reduceLT, Int.reduceEq, Int.reduceNe, reduceIte, reduceCtorEq, ne_eq, not_true_eq_false, not_false_eq_true, imp_self, implies_true, bls, eq_self] <;> rfl) ?_
                            rintro ⟨i, U⟩ ⟨hU, hi, hs2⟩
                            dsimp only at hU hi hs2 ⊢
                            obtain ⟨cs, hsl, hdl, hcl⟩ := (hds.ext (hT.trans hU)).inv
                            simp (disch := first | assumption | omega | (simp only [lens]; omega)) only [eqs, ↓gvd_succ, ↓gvd_zero, ↓and_of, im_of, im_of trivial, vals, lsts, tys, hP, hst, initS, Nat.reduceBEq, Nat.reduceAdd, Nat.reduceMul, Nat.reduceSub, Nat.reduceDiv, Nat.reduceMod, Nat.reducePow, Nat.reduceLT, Nat.reduceLeDiff, Nat.reduceEqDiff, Int.reduceAdd, Int.reduceSub, Int.reduceNeg, Int.reduceMul, Int.reduceToNat, Int.reducePow, Int.reduceLE, Int.reduceLT, Int.reduceEq, Int.reduceNe, reduceIte, reduceCtorEq, ne_eq, not_true_eq_false, not_false_eq_true, imp_self, implies_true, bls, eq_self]
                            refine C_dec (fun h4 => ?_) (fun h4 => ?_)
                            · obtain ⟨cs, c, e, hsl, hcl, hc, hc7, hca, he, hec, hl1, hl2⟩ := (hds.ext (hT.trans hU)).at (i := i) (by omega)
                              have hXl := Nat.le_trans hX (hT.trans hU).len
                              have hes := szs_mem (List.mem_of_getElem? he)
                              have htk := isMs_take he
                              simp (disch := first | assumption | omega | (simp only [lens]; omega)) only [eqs, ↓gvd_succ, ↓gvd_zero, ↓and_of, im_of, im_of trivial, vals, lsts, tys, hP, hst, initS, Nat.reduceBEq, Nat.reduceAdd, Nat.reduceMul, Nat.reduceSub, Nat.reduceDiv, Nat.reduceMod, Nat.reducePow, Nat.reduceLT, Nat.reduceLeDiff, Nat.reduceEqDiff, Int.reduceAdd, Int.reduceSub, Int.reduceNeg, Int.reduceMul, Int.reduceToNat, Int.reducePow, Int.reduceLE, Int.reduceLT, Int.reduceEq, Int.reduceNe, reduceIte, reduceCtorEq, ne_eq, not_true_eq_false, not_false_eq_true, imp_self, implies_true, bls, eq_self, hsl, hcl, hc, hca, take7 hc7, zD_drop, zD_len, List.append_nil, hXl, hl1, hl2]
                              refine E_call (hP ▸ ih) ⟨_, e, rfl, ⟨c, rfl, hec.ext (.add _)⟩, by omega, by omega, fits_mem hfd (List.mem_of_getElem? he), fun V hV => ?_⟩
                              have eV : Ext st V := (hT.trans hU).trans ((Ext.add _).trans hV)
                              simp (disch := first | assumption | omega | (simp only [lens]; omega)) only [eqs, ↓gvd_succ, ↓gvd_zero, ↓and_of, im_of, im_of trivial, vals, lsts, tys, hP, hst, initS, Nat.reduceBEq, Nat.reduceAdd, Nat.reduceMul, Nat.reduceSub, Nat.reduceDiv, Nat.reduceMod, Nat.reducePow, Nat.reduceLT, Nat.reduceLeDiff, Nat.reduceEqDiff, Int.reduceAdd, Int.reduceSub, Int.reduceNeg, Int.reduceMul, Int.reduceToNat, Int.reducePow, Int.reduceLE, Int.reduceLT, Int.reduceEq, Int.reduceNe, reduceIte, reduceCtorEq, ne_eq, not_true_eq_false, not_false_eq_true, imp_self, implies_true, bls, eq_self]
                              refine C_bool (fun h5 => ?_) (fun h5 => ?_)
                              · have h5 : isM e = false := by simpa using h5
                                simp (disch := first | assumption | omega | (simp only [lens]; omega)) only [eqs, ↓gvd_succ, ↓gvd_zero, ↓and_of, im_of, im_of trivial, vals, lsts, tys, hP, hst, initS, Nat.reduceBEq, Nat.reduceAdd, Nat.reduceMul, Nat.reduceSub, Nat.reduceDiv, Nat.reduceMod, Nat.reducePow, Nat.reduceLT, Nat.reduceLeDiff, Nat.reduceEqDiff, Int.reduceAdd, Int.reduceSub, Int.reduceNeg, Int.reduceMul, Int.reduceToNat, Int.reducePow, Int.reduceLE, Int.reduceLT, Int.reduceEq, Int.reduceNe, reduceIte, reduceCtorEq, ne_eq, not_true_eq_false, not_false_eq_true, imp_self, implies_true, bls, eq_self]
                                exact no (hM.trans (hbad (isMs_bad (List.mem_of_getElem? he) h5))) _ eV
                              · have h5 : isM e = true := by simpa using h5
                                simp (disch := first | assumption | omega | (simp only [lens]; omega)) only [eqs, ↓gvd_succ, ↓gvd_zero, ↓and_of, im_of, im_of trivial, vals, lsts, tys, hP, hst, initS, Nat.reduceBEq, Nat.reduceAdd, Nat.reduceMul, Nat.reduceSub, Nat.reduceDiv, Nat.reduceMod, Nat.reducePow, Nat.reduceLT, Nat.reduceLeDiff, Nat.reduceEqDiff, Int.reduceAdd, Int.reduceSub, Int.reduceNeg, Int.reduceMul, Int.reduceToNat, Int.reducePow, Int.reduceLE, Int.reduceLT, Int.reduceEq, Int.reduceNe, reduceIte, reduceCtorEq, ne_eq, not_true_eq_false, not_false_eq_true, imp_self, implies_true, bls, eq_self]
                                refine again (i + 1, V) ⟨hU.trans ((Ext.add _).trans hV), by dsimp only; omega, by dsimp only; rw [htk, hs2, h5]; rfl⟩ (by dsimp only; omega) rfl (by dsimp only; simp (disch := first | assumption | omega | (simp only [lens]; omega)) only [eqs, ↓gvd_succ, ↓gvd_zero, ↓and_of, im_of, im_of trivial, vals, lsts, tys, hP, hst, initS, Nat.reduceBEq, Nat.reduceAdd, Nat.reduceMul, Nat.reduceSub, Nat.reduceDiv, Nat.reduceMod, Nat.reducePow, Nat.reduceLT, Nat.reduceLeDiff, Nat.reduceEqDiff, Int.reduceAdd, Int.reduceSub, Int.reduceNeg, Int.reduceMul, Int.reduceToNat, Int.reducePow, Int.reduceLE, Int.reduceLT, Int.reduceEq, Int.reduceNe, reduceIte, reduceCtorEq, ne_eq, not_true_eq_false, not_false_eq_true, imp_self, implies_true, bls, eq_self] <;> rfl)
                            · have hi2 : i = ds.length := by omega
                              subst hi2
                              rw [List.take_length] at hs2
                              simp (disch := first | assumption | omega | (simp only [lens]; omega)) only [eqs, ↓gvd_succ, ↓gvd_zero, ↓and_of, im_of, im_of trivial, vals, lsts, tys, hP, hst, initS, Nat.reduceBEq, Nat.reduceAdd, Nat.reduceMul, Nat.reduceSub, Nat.reduceDiv, Nat.reduceMod, Nat.reducePow, Nat.reduceLT, Nat.reduceLeDiff, Nat.reduceEqDiff, Int.reduceAdd, Int.reduceSub, Int.reduceNeg, Int.reduceMul, Int.reduceToNat, Int.reducePow, Int.reduceLE, Int.reduceLT, Int.reduceEq, Int.reduceNe, reduceIte, reduceCtorEq, ne_eq, not_true_eq_false, not_false_eq_true, imp_self, implies_true, bls, eq_self]
                              refine again (j + 1, U) ⟨hT.trans hU, by dsimp only; omega, by dsimp only; rw [hp, isMs_app, hs1, hs2]; rfl⟩ (by dsimp only; omega) rfl (by dsimp only; simp (disch := first | assumption | omega | (simp only [lens]; omega)) only [eqs, ↓gvd_succ, ↓gvd_zero, ↓and_of, im_of, im_of trivial, vals, lsts, tys, hP, hst, initS, Nat.reduceBEq, Nat.reduceAdd, Nat.reduceMul, Nat.reduceSub, Nat.reduceDiv, Nat.reduceMod, Nat.reducePow, Nat.reduceLT, Nat.reduceLeDiff, Nat.reduceEqDiff, Int.reduceAdd, Int.reduceSub, Int.reduceNeg, Int.reduceMul, Int.reduceToNat, Int.reducePow, Int.reduceLE, Int.reduceLT, Int.reduceEq, Int.reduceNe, reduceIte, reduceCtorEq, ne_eq, not_true_eq_false, not_false_eq_true, imp_self, implies_true, bls, eq_self] <;> rfl)
                          · rw [pre2_end _ _ (by omega), isMs_app] at hs1
                            simp (disch := first | assumption | omega | (simp only [lens]; omega)) only [eqs, ↓gvd_succ, ↓gvd_zero, ↓and_of, im_of, im_of trivial, vals, lsts, tys, hP, hst, initS, Nat.reduceBEq, Nat.reduceAdd, Nat.reduceMul, Nat.reduceSub, Nat.reduceDiv, Nat.reduceMod, Nat.reducePow, Nat.reduceLT, Nat.reduceLeDiff, Nat.reduceEqDiff, Int.reduceAdd, Int.reduceSub, Int.reduceNeg, Int.reduceMul, Int.reduceToNat, Int.reducePow, Int.reduceLE, Int.reduceLT, Int.reduceEq, Int.reduceNe, reduceIte, reduceCtorEq, ne_eq, not_true_eq_false, not_false_eq_true, imp_self, implies_true, bls, eq_self]
                            exact yes (hM.trans hs1) _ hT
                        · simp (disch := first | assumption | omega | (simp only [lens]; omega)) only [eqs, ↓gvd_succ, ↓gvd_zero, ↓and_of, im_of, im_of trivial, vals, lsts, tys, hP, hst, initS, Nat.reduceBEq, Nat.reduceAdd, Nat.reduceMul, Nat.reduceSub, Nat.reduceDiv, Nat.reduceMod, Nat.reducePow, Nat.reduceLT, Nat.reduceLeDiff, Nat.reduceEqDiff, Int.reduceAdd, Int.reduceSub, Int.reduceNeg, Int.reduceMul, Int.reduceToNat, Int.reducePow, Int.reduceLE, Int.reduceLT, Int.reduceEq, Int.reduceNe, reduceIte, reduceCtorEq, ne_eq, not_true_eq_false, not_false_eq_true, imp_self, implies_true, bls, eq_self, n1, n1m, n2, n2m, l0, l0m, hs, la, lx, ly, sx2, sy2, ag, str_eq2, Bool.not_true, Bool.not_false]
                          exact no (by rw [isM_mk]; simp [n1, n1m, n2, n2m, l0, l0m, hs]) _ (.add _)
                      · simp (disch := first | assumption | omega | (simp only [lens]; omega)) only [eqs, ↓gvd_succ, ↓gvd_zero, ↓and_of, im_of, im_of trivial, vals, lsts, tys, hP, hst, initS, Nat.reduceBEq, Nat.reduceAdd, Nat.reduceMul, Nat.reduceSub, Nat.reduceDiv, Nat.reduceMod, Nat.reducePow, Nat.reduceLT, Nat.reduceLeDiff, Nat.reduceEqDiff, Int.reduceAdd, Int.reduceSub, Int.reduceNeg, Int.reduceMul, Int.reduceToNat, Int.reducePow, Int.reduceLE, Int.reduceLT, Int.reduceEq, Int.reduceNe, reduceIte, reduceCtorEq, ne_eq, not_true_eq_false, not_false_eq_true, imp_self, implies_true, bls, eq_self, n1, n1m, n2, n2m, l0, l0m, la, lx, ly, sx2, sy2, ag, str_eq2, Bool.not_true, Bool.not_false]
                        exact no (by rw [isM_mk]; simp [n1, n1m, n2, n2m, l0, l0m]) _ (.add _)
                    · simp (disch := first | assumption | omega | (simp only [lens]; omega)) only [eqs, ↓gvd_succ, ↓gvd_zero, ↓and_of, im_of, im_of trivial, vals, lsts, tys, hP, hst, initS, Nat.reduceBEq, Nat.reduceAdd, Nat.reduceMul, Nat.reduceSub, Nat.reduceDiv, Nat.reduceMod, Nat.reducePow, Nat.reduceLT, Nat.reduceLeDiff, Nat.reduceEqDiff, Int.reduceAdd, Int.reduceSub, Int.reduceNeg, Int.reduceMul, Int.reduceToNat, Int.reducePow, Int.reduceLE, Int.reduceLT, Int.reduceEq, Int.reduceNe, reduceIte, reduceCtorEq, ne_eq, not_true_eq_false, not_false_eq_true, imp_self, implies_true, bls, eq_self, n1, n1m, n2, n2m, l0, l0m, k0, k1, k2, k3, k4, k5, la, lx, ly, sx2, sy2, ag, str_eq2, Bool.not_true, Bool.not_false]
                      exact no (by rw [isM_mk]; simp [n1, n1m, n2, n2m, l0, l0m, k0, k1, k2, k3, k4, k5]) _ (.add _)
        · have l0m : ¬l.length = 0 := by omega
          have l0n : ¬l = [] := fun h => l0m (by rw [h]; rfl)
          by_cases k0 : k = 0
          · subst k0
            simp (disch := first | assumption | omega | (simp only [lens]; omega)) only [eqs, ↓gvd_succ, ↓gvd_zero, ↓and_of, im_of, im_of trivial, vals, lsts, tys, hP, hst, initS, Nat.reduceBEq, Nat.reduceAdd, Nat.reduceMul, Nat.reduceSub, Nat.reduceDiv, Nat.reduceMod, Nat.reducePow, Nat.reduceLT, Nat.reduceLeDiff, Nat.reduceEqDiff, Int.reduceAdd, Int.reduceSub, Int.reduceNeg, Int.reduceMul, Int.reduceToNat, Int.reducePow, Int.reduceLE, Int.reduceLT, Int.reduceEq, Int.reduceNe, reduceIte, reduceCtorEq, ne_eq, not_true_eq_false, not_false_eq_true, imp_self, implies_true, bls, eq_self, n1, n1m, n2, n2m, l0, l0m, l0n, la, lx, ly, sx2, sy2, ag, str_eq2, Bool.not_true, Bool.not_false]
            exact no (by rw [isM_mk]; simp [n1, n1m, n2, n2m, l0, l0m, l0n]) _ (.add _)
          · by_cases k1 : k = 1
            · subst k1
              cases b
              · by_cases hs : s = ⟨#[]⟩
                · subst hs
                  simp (disch := first | assumption | omega | (simp only [lens]; omega)) only [eqs, ↓gvd_succ, ↓gvd_zero, ↓and_of, im_of, im_of trivial, vals, lsts, tys, hP, hst, initS, Nat.reduceBEq, Nat.reduceAdd, Nat.reduceMul, Nat.reduceSub, Nat.reduceDiv, Nat.reduceMod, Nat.reducePow, Nat.reduceLT, Nat.reduceLeDiff, Nat.reduceEqDiff, Int.reduceAdd, Int.reduceSub, Int.reduceNeg, Int.reduceMul, Int.reduceToNat, Int.reducePow, Int.reduceLE, Int.reduceLT, Int.reduceEq, Int.reduceNe, reduceIte, reduceCtorEq, ne_eq, not_true_eq_false, not_false_eq_true, imp_self, implies_true, bls, eq_self, n1, n1m, n2, n2m, l0, l0m, l0n, la, lx, ly, sx2, sy2, ag, str_eq2, Bool.not_true, Bool.not_false]
                  refine E_call (hP ▸ s_qGood) ⟨_, _, l, rfl, ⟨a, rfl, ha.ext (.add _)⟩, bl, fun T hT => ?_⟩
                  rw [show (if l.length = 0 then !false else decide (l.getD (l.length - 1) 0 ≠ 0)) = goodL false l from rfl]
                  have e0 := (Ext.add _).trans hT
                  have gA := (At.mk0.ext hT).get
                  have aT := (ha.ext e0).sl
                  cases hg : goodL false l
                  · simp (disch := first | assumption | omega | (simp only [lens]; omega)) only [eqs, ↓gvd_succ, ↓gvd_zero, ↓and_of, im_of, im_of trivial, vals, lsts, tys, hP, hst, initS, Nat.reduceBEq, Nat.reduceAdd, Nat.reduceMul, Nat.reduceSub, Nat.reduceDiv, Nat.reduceMod, Nat.reducePow, Nat.reduceLT, Nat.reduceLeDiff, Nat.reduceEqDiff, Int.reduceAdd, Int.reduceSub, Int.reduceNeg, Int.reduceMul, Int.reduceToNat, Int.reducePow, Int.reduceLE, Int.reduceLT, Int.reduceEq, Int.reduceNe, reduceIte, reduceCtorEq, ne_eq, not_true_eq_false, not_false_eq_true, imp_self, implies_true, bls, eq_self, gA]
                    exact no (by rw [isM_mk]; simp [n1, n1m, n2, n2m, l0, l0m, l0n, hg]) _ e0
                  · by_cases h64 : (l.length : Int) ≤ 64
                    · have h64n : l.length ≤ 64 := by omega
                      simp (disch := first | assumption | omega | (simp only [lens]; omega)) only [eqs, ↓gvd_succ, ↓gvd_zero, ↓and_of, im_of, im_of trivial, vals, lsts, tys, hP, hst, initS, Nat.reduceBEq, Nat.reduceAdd, Nat.reduceMul, Nat.reduceSub, Nat.reduceDiv, Nat.reduceMod, Nat.reducePow, Nat.reduceLT, Nat.reduceLeDiff, Nat.reduceEqDiff, Int.reduceAdd, Int.reduceSub, Int.reduceNeg, Int.reduceMul, Int.reduceToNat, Int.reducePow, Int.reduceLE, Int.reduceLT, Int.reduceEq, Int.reduceNe, reduceIte, reduceCtorEq, ne_eq, not_true_eq_false, not_false_eq_true, imp_self, implies_true, bls, eq_self, gA, aT, h64]
                      exact yes (by rw [isM_mk]; simp [n1, n1m, n2, n2m, l0, l0m, l0n, hg, h64n]) _ e0
                    · have h64n : ¬l.length ≤ 64 := by omega
                      simp (disch := first | assumption | omega | (simp only [lens]; omega)) only [eqs, ↓gvd_succ, ↓gvd_zero, ↓and_of, im_of, im_of trivial, vals, lsts, tys, hP, hst, initS, Nat.reduceBEq, Nat.reduceAdd, Nat.reduceMul, Nat.reduceSub, Nat.reduceDiv, Nat.reduceMod, Nat.reducePow, Nat.reduceLT, Nat.reduceLeDiff, Nat.reduceEqDiff, Int.reduceAdd, Int.reduceSub, Int.reduceNeg, Int.reduceMul, Int.reduceToNat, Int.reducePow, Int.reduceLE, Int.reduceLT, Int.reduceEq, Int.reduceNe, reduceIte, reduceCtorEq, ne_eq, not_true_eq_false, not_false_eq_true, imp_self, implies_true, bls, eq_self, gA, aT, h64]
                      exact no (by first | omega | (rw [isM_mk]; simp [n1, n1m, n2, n2m, l0, l0m, l0n, hg, h64n])) _ e0
                · simp (disch := first | assumption | omega | (simp only [lens]; omega)) only [eqs, ↓gvd_succ, ↓gvd_zero, ↓and_of, im_of, im_of trivial, vals, lsts, tys, hP, hst, initS, Nat.reduceBEq, Nat.reduceAdd, Nat.reduceMul, Nat.reduceSub, Nat.reduceDiv, Nat.reduceMod, Nat.reducePow, Nat.reduceLT, Nat.reduceLeDiff, Nat.reduceEqDiff, Int.reduceAdd, Int.reduceSub, Int.reduceNeg, Int.reduceMul, Int.reduceToNat, Int.reducePow, Int.reduceLE, Int.reduceLT, Int.reduceEq, Int.reduceNe, reduceIte, reduceCtorEq, ne_eq, not_true_eq_false, not_false_eq_true, imp_self, implies_true, bls, eq_self, n1, n1m, n2, n2m, l0, l0m, l0n, hs, la, lx, ly, sx2, sy2, ag, str_eq2, Bool.not_true, Bool.not_false]
                  exact no (by rw [isM_mk]; simp [n1, n1m, n2, n2m, l0, l0m, l0n, hs]) _ (.add _)
              · simp (disch := first | assumption | omega | (simp only [lens]; omega)) only [eqs, ↓gvd_succ, ↓gvd_zero, ↓and_of, im_of, im_of trivial, vals, lsts, tys, hP, hst, initS, Nat.reduceBEq, Nat.reduceAdd, Nat.reduceMul, Nat.reduceSub, Nat.reduceDiv, Nat.reduceMod, Nat.reducePow, Nat.reduceLT, Nat.reduceLeDiff, Nat.reduceEqDiff, Int.reduceAdd, Int.reduceSub, Int.reduceNeg, Int.reduceMul, Int.reduceToNat, Int.reducePow, Int.reduceLE, Int.reduceLT, Int.reduceEq, Int.reduceNe, reduceIte, reduceCtorEq, ne_eq, not_true_eq_false, not_false_eq_true, imp_self, implies_true, bls, eq_self, n1, n1m, n2, n2m, l0, l0m, l0n, la, lx, ly, sx2, sy2, ag, str_eq2, Bool.not_true, Bool.not_false]
                exact no (by rw [isM_mk]; simp [n1, n1m, n2, n2m, l0, l0m, l0n]) _ (.add _)
            · by_cases k2 : k = 2
              · subst k2
                simp (disch := first | assumption | omega | (simp only [lens]; omega)) only [eqs, ↓gvd_succ, ↓gvd_zero, ↓and_of, im_of, im_of trivial, vals, lsts, tys, hP, hst, initS, Nat.reduceBEq, Nat.reduceAdd, Nat.reduceMul, Nat.reduceSub, Nat.reduceDiv, Nat.reduceMod, Nat.reducePow, Nat.reduceLT, Nat.reduceLeDiff, Nat.reduceEqDiff, Int.reduceAdd, Int.reduceSub, Int.reduceNeg, Int.reduceMul, Int.reduceToNat, Int.reducePow, Int.reduceLE, Int.reduceLT, Int.reduceEq, Int.reduceNe, reduceIte, reduceCtorEq, ne_eq, not_true_eq_false, not_false_eq_true, imp_self, implies_true, bls, eq_self, n1, n1m, n2, n2m, l0, l0m, l0n, la, lx, ly, sx2, sy2, ag, str_eq2, Bool.not_true, Bool.not_false]
                exact no (by rw [isM_mk]; simp [n1, n1m, n2, n2m, l0, l0m, l0n]) _ (.add _)
              · by_cases k3 : k = 3
                · subst k3
                  simp (disch := first | assumption | omega | (simp only [lens]; omega)) only [eqs, ↓gvd_succ, ↓gvd_zero, ↓and_of, im_of, im_of trivial, vals, lsts, tys, hP, hst, initS, Nat.reduceBEq, Nat.reduceAdd, Nat.reduceMul, Nat.reduceSub, Nat.reduceDiv, Nat.reduceMod, Nat.reducePow, Nat.reduceLT, Nat.reduceLeDiff, Nat.reduceEqDiff, Int.reduceAdd, Int.reduceSub, Int.reduceNeg, Int.reduceMul, Int.reduceToNat, Int.reducePow, Int.reduceLE, Int.reduceLT, Int.reduceEq, Int.reduceNe, reduceIte, reduceCtorEq, ne_eq, not_true_eq_false, not_false_eq_true, imp_self, implies_true, bls, eq_self, n1, n1m, n2, n2m, l0, l0m, l0n, la, lx, ly, sx2, sy2, ag, str_eq2, Bool.not_true, Bool.not_false]
                  exact no (by rw [isM_mk]; simp [n1, n1m, n2, n2m, l0, l0m, l0n]) _ (.add _)
                · by_cases k4 : k = 4
                  · subst k4
                    simp (disch := first | assumption | omega | (simp only [lens]; omega)) only [eqs, ↓gvd_succ, ↓gvd_zero, ↓and_of, im_of, im_of trivial, vals, lsts, tys, hP, hst, initS, Nat.reduceBEq, Nat.reduceAdd, Nat.reduceMul, Nat.reduceSub, Nat.reduceDiv, Nat.reduceMod, Nat.reducePow, Nat.reduceLT, Nat.reduceLeDiff, Nat.reduceEqDiff, Int.reduceAdd, Int.reduceSub, Int.reduceNeg, Int.reduceMul, Int.reduceToNat, Int.reducePow, Int.reduceLE, Int.reduceLT, Int.reduceEq, Int.reduceNe, reduceIte, reduceCtorEq, ne_eq, not_true_eq_false, not_false_eq_true, imp_self, implies_true, bls, eq_self, n1, n1m, n2, n2m, l0, l0m, l0n, la, lx, ly, sx2, sy2, ag, str_eq2, Bool.not_true, Bool.not_false]
                    exact no (by rw [isM_mk]; simp [n1, n1m, n2, n2m, l0, l0m, l0n]) _ (.add _)
                  · by_cases k5 : k = 5
                    · subst k5
                      simp (disch := first | assumption | omega | (simp only [lens]; omega)) only [eqs, ↓gvd_succ, ↓gvd_zero, ↓and_of, im_of, im_of trivial, vals, lsts, tys, hP, hst, initS, Nat.reduceBEq, Nat.reduceAdd, Nat.reduceMul, Nat.reduceSub, Nat.reduceDiv, Nat.reduceMod, Nat.reducePow, Nat.reduceLT, Nat.reduceLeDiff, Nat.reduceEqDiff, Int.reduceAdd, Int.reduceSub, Int.reduceNeg, Int.reduceMul, Int.reduceToNat, Int.reducePow, Int.reduceLE, Int.reduceLT, Int.reduceEq, Int.reduceNe, reduceIte, reduceCtorEq, ne_eq, not_true_eq_false, not_false_eq_true, imp_self, implies_true, bls, eq_self, n1, n1m, n2, n2m, l0, l0m, l0n, la, lx, ly, sx2, sy2, ag, str_eq2, Bool.not_true, Bool.not_false]
                      exact no (by rw [isM_mk]; simp [n1, n1m, n2, n2m, l0, l0m, l0n]) _ (.add _)
                    · simp (disch := first | assumption | omega | (simp only [lens]; omega)) only [eqs, ↓gvd_succ, ↓gvd_zero, ↓and_of, im_of, im_of trivial, vals, lsts, tys, hP, hst, initS, Nat.reduceBEq, Nat.reduceAdd, Nat.reduceMul, Nat.reduceSub, Nat.reduceDiv, Nat.reduceMod, Nat.reducePow, Nat.reduceLT, Nat.reduceLeDiff, Nat.reduceEqDiff, Int.reduceAdd, Int.reduceSub, Int.reduceNeg, Int.reduceMul, Int.reduceToNat, Int.reducePow, Int.reduceLE, Int.reduceLT, Int.reduceEq, Int.reduceNe, reduceIte, reduceCtorEq, ne_eq, not_true_eq_false, not_false_eq_true, imp_self, implies_true, bls, eq_self, n1, n1m, n2, n2m, l0, l0m, l0n, k0, k1, k2, k3, k4, k5, la, lx, ly, sx2, sy2, ag, str_eq2, Bool.not_true, Bool.not_false]
                      exact no (by rw [isM_mk]; simp [n1, n1m, n2, n2m, l0, l0m, l0n, k0, k1, k2, k3, k4, k5]) _ (.add _)
      · by_cases k0 : k = 0
        · subst k0
          simp (disch := first | assumption | omega | (simp only [lens]; omega)) only [eqs, ↓gvd_succ, ↓gvd_zero, ↓and_of, im_of, im_of trivial, vals, lsts, tys, hP, hst, initS, Nat.reduceBEq, Nat.reduceAdd, Nat.reduceMul, Nat.reduceSub, Nat.reduceDiv, Nat.reduceMod, Nat.reducePow, Nat.reduceLT, Nat.reduceLeDiff, Nat.reduceEqDiff, Int.reduceAdd, Int.reduceSub, Int.reduceNeg, Int.reduceMul, Int.reduceToNat, Int.reducePow, Int.reduceLE, Int.reduceLT, Int.reduceEq, Int.reduceNe, reduceIte, reduceCtorEq, ne_eq, not_true_eq_false, not_false_eq_true, imp_self, implies_true, bls, eq_self, n1, n1m, n2, n2m, la, lx, ly, sx2, sy2, ag, str_eq2, Bool.not_true, Bool.not_false]
          exact no (by rw [isM_mk]; simp [n1, n1m, n2, n2m]) _ (.add _)
        · by_cases k1 : k = 1
          · subst k1
            cases b
            · by_cases hs : s = ⟨#[]⟩
              · subst hs
                simp (disch := first | assumption | omega | (simp only [lens]; omega)) only [eqs, ↓gvd_succ, ↓gvd_zero, ↓and_of, im_of, im_of trivial, vals, lsts, tys, hP, hst, initS, Nat.reduceBEq, Nat.reduceAdd, Nat.reduceMul, Nat.reduceSub, Nat.reduceDiv, Nat.reduceMod, Nat.reducePow, Nat.reduceLT, Nat.reduceLeDiff, Nat.reduceEqDiff, Int.reduceAdd, Int.reduceSub, Int.reduceNeg, Int.reduceMul, Int.reduceToNat, Int.reducePow, Int.reduceLE, Int.reduceLT, Int.reduceEq, Int.reduceNe, reduceIte, reduceCtorEq, ne_eq, not_true_eq_false, not_false_eq_true, imp_self, implies_true, bls, eq_self, n1, n1m, n2, n2m, la, lx, ly, sx2, sy2, ag, str_eq2, Bool.not_true, Bool.not_false]
                refine E_call (hP ▸ s_qGood) ⟨_, _, l, rfl, ⟨a, rfl, ha.ext (.add _)⟩, bl, fun T hT => ?_⟩
                rw [show (if l.length = 0 then !true else decide (l.getD (l.length - 1) 0 ≠ 0)) = goodL true l from rfl]
                have e0 := (Ext.add _).trans hT
                have gA := (At.mk0.ext hT).get
                have aT := (ha.ext e0).sl
                cases hg : goodL true l
                · simp (disch := first | assumption | omega | (simp only [lens]; omega)) only [eqs, ↓gvd_succ, ↓gvd_zero, ↓and_of, im_of, im_of trivial, vals, lsts, tys, hP, hst, initS, Nat.reduceBEq, Nat.reduceAdd, Nat.reduceMul, Nat.reduceSub, Nat.reduceDiv, Nat.reduceMod, Nat.reducePow, Nat.reduceLT, Nat.reduceLeDiff, Nat.reduceEqDiff, Int.reduceAdd, Int.reduceSub, Int.reduceNeg, Int.reduceMul, Int.reduceToNat, Int.reducePow, Int.reduceLE, Int.reduceLT, Int.reduceEq, Int.reduceNe, reduceIte, reduceCtorEq, ne_eq, not_true_eq_false, not_false_eq_true, imp_self, implies_true, bls, eq_self, gA]
                  exact no (by rw [isM_mk]; simp [n1, n1m, n2, n2m, hg]) _ e0
                · by_cases h64 : (l.length : Int) ≤ 64
                  · have h64n : l.length ≤ 64 := by omega
                    simp (disch := first | assumption | omega | (simp only [lens]; omega)) only [eqs, ↓gvd_succ, ↓gvd_zero, ↓and_of, im_of, im_of trivial, vals, lsts, tys, hP, hst, initS, Nat.reduceBEq, Nat.reduceAdd, Nat.reduceMul, Nat.reduceSub, Nat.reduceDiv, Nat.reduceMod, Nat.reducePow, Nat.reduceLT, Nat.reduceLeDiff, Nat.reduceEqDiff, Int.reduceAdd, Int.reduceSub, Int.reduceNeg, Int.reduceMul, Int.reduceToNat, Int.reducePow, Int.reduceLE, Int.reduceLT, Int.reduceEq, Int.reduceNe, reduceIte, reduceCtorEq, ne_eq, not_true_eq_false, not_false_eq_true, imp_self, implies_true, bls, eq_self, gA, aT, h64]
                    exact yes (by rw [isM_mk]; simp [n1, n1m, n2, n2m, hg, h64n]) _ e0
                  · have h64n : ¬l.length ≤ 64 := by omega
                    simp (disch := first | assumption | omega | (simp only [lens]; omega)) only [eqs, ↓gvd_succ, ↓gvd_zero, ↓and_of, im_of, im_of trivial, vals, lsts, tys, hP, hst, initS, Nat.reduceBEq, Nat.reduceAdd, Nat.reduceMul, Nat.reduceSub, Nat.reduceDiv, Nat.reduceMod, Nat.reducePow, Nat.reduceLT, Nat.reduceLeDiff, Nat.reduceEqDiff, Int.reduceAdd, Int.reduceSub, Int.reduceNeg, Int.reduceMul, Int.reduceToNat, Int.reducePow, Int.reduceLE, Int.reduceLT, Int.reduceEq, Int.reduceNe, reduceIte, reduceCtorEq, ne_eq, not_true_eq_false, not_false_eq_true, imp_self, implies_true, bls, eq_self, gA, aT, h64]
                    exact no (by first | omega | (rw [isM_mk]; simp [n1, n1m, n2, n2m, hg, h64n])) _ e0
              · simp (disch := first | assumption | omega | (simp only [lens]; omega)) only [eqs, ↓gvd_succ, ↓gvd_zero, ↓and_of, im_of, im_of trivial, vals, lsts, tys, hP, hst, initS, Nat.reduceBEq, Nat.reduceAdd, Nat.reduceMul, Nat.reduceSub, Nat.reduceDiv, Nat.reduceMod, Nat.reducePow, Nat.reduceLT, Nat.reduceLeDiff, Nat.reduceEqDiff, Int.reduceAdd, Int.reduceSub, Int.reduceNeg, Int.reduceMul, Int.reduceToNat, Int.reducePow, Int.reduceLE, Int.reduceLT, Int.reduceEq, Int.reduceNe, reduceIte, reduceCtorEq, ne_eq, not_true_eq_false, not_false_eq_true, imp_self, implies_true, bls, eq_self, n1, n1m, n2, n2m, hs, la, lx, ly, sx2, sy2, ag, str_eq2, Bool.not_true, Bool.not_false]
                exact no (by rw [isM_mk]; simp [n1, n1m, n2, n2m, hs]) _ (.add _)
            · simp (disch := first | assumption | omega | (simp only [lens]; omega)) only [eqs, ↓gvd_succ, ↓gvd_zero, ↓and_of, im_of, im_of trivial, vals, lsts, tys, hP, hst, initS, Nat.reduceBEq, Nat.reduceAdd, Nat.reduceMul, Nat.reduceSub, Nat.reduceDiv, Nat.reduceMod, Nat.reducePow, Nat.reduceLT, Nat.reduceLeDiff, Nat.reduceEqDiff, Int.reduceAdd, Int.reduceSub, Int.reduceNeg, Int.reduceMul, Int.reduceToNat, Int.reducePow, Int.reduceLE, Int.reduceLT, Int.reduceEq, Int.reduceNe, reduceIte, reduceCtorEq, ne_eq, not_true_eq_false, not_false_eq_true, imp_self, implies_true, bls, eq_self, n1, n1m, n2, n2m, la, lx, ly, sx2, sy2, ag, str_eq2, Bool.not_true, Bool.not_false]
              exact no (by rw [isM_mk]; simp [n1, n1m, n2, n2m]) _ (.add _)
          · by_cases k2 : k = 2
            · subst k2
              simp (disch := first | assumption | omega | (simp only [lens]; omega)) only [eqs, ↓gvd_succ, ↓gvd_zero, ↓and_of, im_of, im_of trivial, vals, lsts, tys, hP, hst, initS, Nat.reduceBEq, Nat.reduceAdd, Nat.reduceMul, Nat.reduceSub, Nat.reduceDiv, Nat.reduceMod, Nat.reducePow, Nat.reduceLT, Nat.reduceLeDiff, Nat.reduceEqDiff, Int.reduceAdd, Int.reduceSub, Int.reduceNeg, Int.reduceMul, Int.reduceToNat, Int.reducePow, Int.reduceLE, Int.reduceLT, Int.reduceEq, Int.reduceNe, reduceIte, reduceCtorEq, ne_eq, not_true_eq_false, not_false_eq_true, imp_self, implies_true, bls, eq_self, n1, n1m, n2, n2m, la, lx, ly, sx2, sy2, ag, str_eq2, Bool.not_true, Bool.not_false]
              exact no (by rw [isM_mk]; simp [n1, n1m, n2, n2m]) _ (.add _)
            · by_cases k3 : k = 3
              · subst k3
                simp (disch := first | assumption | omega | (simp only [lens]; omega)) only [eqs, ↓gvd_succ, ↓gvd_zero, ↓and_of, im_of, im_of trivial, vals, lsts, tys, hP, hst, initS, Nat.reduceBEq, Nat.reduceAdd, Nat.reduceMul, Nat.reduceSub, Nat.reduceDiv, Nat.reduceMod, Nat.reducePow, Nat.reduceLT, Nat.reduceLeDiff, Nat.reduceEqDiff, Int.reduceAdd, Int.reduceSub, Int.reduceNeg, Int.reduceMul, Int.reduceToNat, Int.reducePow, Int.reduceLE, Int.reduceLT, Int.reduceEq, Int.reduceNe, reduceIte, reduceCtorEq, ne_eq, not_true_eq_false, not_false_eq_true, imp_self, implies_true, bls, eq_self, n1, n1m, n2, n2m, la, lx, ly, sx2, sy2, ag, str_eq2, Bool.not_true, Bool.not_false]
                exact no (by rw [isM_mk]; simp [n1, n1m, n2, n2m]) _ (.add _)
              · by_cases k4 : k = 4
                · subst k4
                  simp (disch := first | assumption | omega | (simp only [lens]; omega)) only [eqs, ↓gvd_succ, ↓gvd_zero, ↓and_of, im_of, im_of trivial, vals, lsts, tys, hP, hst, initS, Nat.reduceBEq, Nat.reduceAdd, Nat.reduceMul, Nat.reduceSub, Nat.reduceDiv, Nat.reduceMod, Nat.reducePow, Nat.reduceLT, Nat.reduceLeDiff, Nat.reduceEqDiff, Int.reduceAdd, Int.reduceSub, Int.reduceNeg, Int.reduceMul, Int.reduceToNat, Int.reducePow, Int.reduceLE, Int.reduceLT, Int.reduceEq, Int.reduceNe, reduceIte, reduceCtorEq, ne_eq, not_true_eq_false, not_false_eq_true, imp_self, implies_true, bls, eq_self, n1, n1m, n2, n2m, la, lx, ly, sx2, sy2, ag, str_eq2, Bool.not_true, Bool.not_false]
                  exact no (by rw [isM_mk]; simp [n1, n1m, n2, n2m]) _ (.add _)
                · by_cases k5 : k = 5
                  · subst k5
                    simp (disch := first | assumption | omega | (simp only [lens]; omega)) only [eqs, ↓gvd_succ, ↓gvd_zero, ↓and_of, im_of, im_of trivial, vals, lsts, tys, hP, hst, initS, Nat.reduceBEq, Nat.reduceAdd, Nat.reduceMul, Nat.reduceSub, Nat.reduceDiv, Nat.reduceMod, Nat.reducePow, Nat.reduceLT, Nat.reduceLeDiff, Nat.reduceEqDiff, Int.reduceAdd, Int.reduceSub, Int.reduceNeg, Int.reduceMul, Int.reduceToNat, Int.reducePow, Int.reduceLE, Int.reduceLT, Int.reduceEq, Int.reduceNe, reduceIte, reduceCtorEq, ne_eq, not_true_eq_false, not_false_eq_true, imp_self, implies_true, bls, eq_self, n1, n1m, n2, n2m, la, lx, ly, sx2, sy2, ag, str_eq2, Bool.not_true, Bool.not_false]
                    exact no (by rw [isM_mk]; simp [n1, n1m, n2, n2m]) _ (.add _)
                  · simp (disch := first | assumption | omega | (simp only [lens]; omega)) only [eqs, ↓gvd_succ, ↓gvd_zero, ↓and_of, im_of, im_of trivial, vals, lsts, tys, hP, hst, initS, Nat.reduceBEq, Nat.reduceAdd, Nat.reduceMul, Nat.reduceSub, Nat.reduceDiv, Nat.reduceMod, Nat.reducePow, Nat.reduceLT, Nat.reduceLeDiff, Nat.reduceEqDiff, Int.reduceAdd, Int.reduceSub, Int.reduceNeg, Int.reduceMul, Int.reduceToNat, Int.reducePow, Int.reduceLE, Int.reduceLT, Int.reduceEq, Int.reduceNe, reduceIte, reduceCtorEq, ne_eq, not_true_eq_false, not_false_eq_true, imp_self, implies_true, bls, eq_self, n1, n1m, n2, n2m, k0, k1, k2, k3, k4, k5, la, lx, ly, sx2, sy2, ag, str_eq2, Bool.not_true, Bool.not_false]
                    exact no (by rw [isM_mk]; simp [n1, n1m, n2, n2m, k0, k1, k2, k3, k4, k5]) _ (.add _)
    · have n2m : ¬tls.length = 0 := by omega
      cases g
      · by_cases l0 : (l.length : Int) = 0
        · have l0n : l = [] := List.eq_nil_of_length_eq_zero (by omega)
          have l0m : l.length = 0 := by omega
          by_cases k0 : k = 0
          · subst k0
            simp (disch := first | assumption | omega | (simp only [lens]; omega)) only [eqs, ↓gvd_succ, ↓gvd_zero, ↓and_of, im_of, im_of trivial, vals, lsts, tys, hP, hst, initS, Nat.reduceBEq, Nat.reduceAdd, Nat.reduceMul, Nat.reduceSub, Nat.reduceDiv, Nat.reduceMod, Nat.reducePow, Nat.reduceLT, Nat.reduceLeDiff, Nat.reduceEqDiff, Int.reduceAdd, Int.reduceSub, Int.reduceNeg, Int.reduceMul, Int.reduceToNat, Int.reducePow, Int.reduceLE, Int.reduceLT, Int.reduceEq, Int.reduceNe, reduceIte, reduceCtorEq, ne_eq, not_true_eq_false, not_false_eq_true, imp_self, implies_true, bls, eq_self, n1, n1m, n2, n2m, l0, l0m, la, lx, ly, sx2, sy2, ag, str_eq2, Bool.not_true, Bool.not_false]
            exact no (by rw [isM_mk]; simp [n1, n1m, n2, n2m, l0, l0m]) _ (.add _)
          · by_cases k1 : k = 1
            · subst k1
              simp (disch := first | assumption | omega | (simp only [lens]; omega)) only [eqs, ↓gvd_succ, ↓gvd_zero, ↓and_of, im_of, im_of trivial, vals, lsts, tys, hP, hst, initS, Nat.reduceBEq, Nat.reduceAdd, Nat.reduceMul, Nat.reduceSub, Nat.reduceDiv, Nat.reduceMod, Nat.reducePow, Nat.reduceLT, Nat.reduceLeDiff, Nat.reduceEqDiff, Int.reduceAdd, Int.reduceSub, Int.reduceNeg, Int.reduceMul, Int.reduceToNat, Int.reducePow, Int.reduceLE, Int.reduceLT, Int.reduceEq, Int.reduceNe, reduceIte, reduceCtorEq, ne_eq, not_true_eq_false, not_false_eq_true, imp_self, implies_true, bls, eq_self, n1, n1m, n2, n2m, l0, l0m, la, lx, ly, sx2, sy2, ag, str_eq2, Bool.not_true, Bool.not_false]
              exact no (by rw [isM_mk]; simp [n1, n1m, n2, n2m, l0, l0m]) _ (.add _)
            · by_cases k2 : k = 2
              · subst k2
                simp (disch := first | assumption | omega | (simp only [lens]; omega)) only [eqs, ↓gvd_succ, ↓gvd_zero, ↓and_of, im_of, im_of trivial, vals, lsts, tys, hP, hst, initS, Nat.reduceBEq, Nat.reduceAdd, Nat.reduceMul, Nat.reduceSub, Nat.reduceDiv, Nat.reduceMod, Nat.reducePow, Nat.reduceLT, Nat.reduceLeDiff, Nat.reduceEqDiff, Int.reduceAdd, Int.reduceSub, Int.reduceNeg, Int.reduceMul, Int.reduceToNat, Int.reducePow, Int.reduceLE, Int.reduceLT, Int.reduceEq, Int.reduceNe, reduceIte, reduceCtorEq, ne_eq, not_true_eq_false, not_false_eq_true, imp_self, implies_true, bls, eq_self, n1, n1m, n2, n2m, l0, l0m, la, lx, ly, sx2, sy2, ag, str_eq2, Bool.not_true, Bool.not_false]
                exact no (by rw [isM_mk]; simp [n1, n1m, n2, n2m, l0, l0m]) _ (.add _)
              · by_cases k3 : k = 3
                · subst k3
                  simp (disch := first | assumption | omega | (simp only [lens]; omega)) only [eqs, ↓gvd_succ, ↓gvd_zero, ↓and_of, im_of, im_of trivial, vals, lsts, tys, hP, hst, initS, Nat.reduceBEq, Nat.reduceAdd, Nat.reduceMul, Nat.reduceSub, Nat.reduceDiv, Nat.reduceMod, Nat.reducePow, Nat.reduceLT, Nat.reduceLeDiff, Nat.reduceEqDiff, Int.reduceAdd, Int.reduceSub, Int.reduceNeg, Int.reduceMul, Int.reduceToNat, Int.reducePow, Int.reduceLE, Int.reduceLT, Int.reduceEq, Int.reduceNe, reduceIte, reduceCtorEq, ne_eq, not_true_eq_false, not_false_eq_true, imp_self, implies_true, bls, eq_self, n1, n1m, n2, n2m, l0, l0m, la, lx, ly, sx2, sy2, ag, str_eq2, Bool.not_true, Bool.not_false]
                  exact no (by rw [isM_mk]; simp [n1, n1m, n2, n2m, l0, l0m]) _ (.add _)
                · by_cases k4 : k = 4
                  · subst k4
                    simp (disch := first | assumption | omega | (simp only [lens]; omega)) only [eqs, ↓gvd_succ, ↓gvd_zero, ↓and_of, im_of, im_of trivial, vals, lsts, tys, hP, hst, initS, Nat.reduceBEq, Nat.reduceAdd, Nat.reduceMul, Nat.reduceSub, Nat.reduceDiv, Nat.reduceMod, Nat.reducePow, Nat.reduceLT, Nat.reduceLeDiff, Nat.reduceEqDiff, Int.reduceAdd, Int.reduceSub, Int.reduceNeg, Int.reduceMul, Int.reduceToNat, Int.reducePow, Int.reduceLE, Int.reduceLT, Int.reduceEq, Int.reduceNe, reduceIte, reduceCtorEq, ne_eq, not_true_eq_false, not_false_eq_true, imp_self, implies_true, bls, eq_self, n1, n1m, n2, n2m, l0, l0m, la, lx, ly, sx2, sy2, ag, str_eq2, Bool.not_true, Bool.not_false]
                    exact no (by rw [isM_mk]; simp [n1, n1m, n2, n2m, l0, l0m]) _ (.add _)
                  · by_cases k5 : k = 5
                    · subst k5
                      cases b
                      · by_cases hs : s = ⟨#[]⟩
                        · subst hs
                          by_cases t1 : 1 < (tls.length : Int)
                          · have t1n : ¬tls.length ≤ 1 := by omega
                            simp (disch := first | assumption | omega | (simp only [lens]; omega)) only [eqs, ↓gvd_succ, ↓gvd_zero, ↓and_of, im_of, im_of trivial, vals, lsts, tys, hP, hst, initS, Nat.reduceBEq, Nat.reduceAdd, Nat.reduceMul, Nat.reduceSub, Nat.reduceDiv, Nat.reduceMod, Nat.reducePow, Nat.reduceLT, Nat.reduceLeDiff, Nat.reduceEqDiff, Int.reduceAdd, Int.reduceSub, Int.reduceNeg, Int.reduceMul, Int.reduceToNat, Int.reducePow, Int.reduceLE, Int.reduceLT, Int.reduceEq, Int.reduceNe, reduceIte, reduceCtorEq, ne_eq, not_true_eq_false, not_false_eq_true, imp_self, implies_true, bls, eq_self, n1, n1m, n2, n2m, l0, l0m, t1, t1n, la, lx, ly, sx2, sy2, ag, str_eq2, Bool.not_true, Bool.not_false]
                            exact no (by rw [isM_mk]; simp [n1, n1m, n2, n2m, l0, l0m, t1, t1n]) _ (.add _)
                          · have t1n : tls.length ≤ 1 := by omega
                            by_cases t2 : (tls.length : Int) = 1
                            · have t2n : tls.length = 1 := by omega
                              simp (disch := first | assumption | omega | (simp only [lens]; omega)) only [eqs, ↓gvd_succ, ↓gvd_zero, ↓and_of, im_of, im_of trivial, vals, lsts, tys, hP, hst, initS, Nat.reduceBEq, Nat.reduceAdd, Nat.reduceMul, Nat.reduceSub, Nat.reduceDiv, Nat.reduceMod, Nat.reducePow, Nat.reduceLT, Nat.reduceLeDiff, Nat.reduceEqDiff, Int.reduceAdd, Int.reduceSub, Int.reduceNeg, Int.reduceMul, Int.reduceToNat, Int.reducePow, Int.reduceLE, Int.reduceLT, Int.reduceEq, Int.reduceNe, reduceIte, reduceCtorEq, ne_eq, not_true_eq_false, not_false_eq_true, imp_self, implies_true, bls, eq_self, n1, n1m, n2, n2m, l0, l0m, t1, t1n, t2, t2n, la, lx, ly, sx2, sy2, ag, str_eq2, Bool.not_true, Bool.not_false]
                              exact no (by rw [isM_mk]; simp [n1, n1m, n2, n2m, l0, l0m, t1, t1n, t2, t2n]) _ (.add _)
                            · have t2n : ¬tls.length = 1 := by omega
                              omega
                        · simp (disch := first | assumption | omega | (simp only [lens]; omega)) only [eqs, ↓gvd_succ, ↓gvd_zero, ↓and_of, im_of, im_of trivial, vals, lsts, tys, hP, hst, initS, Nat.reduceBEq, Nat.reduceAdd, Nat.reduceMul, Nat.reduceSub, Nat.reduceDiv, Nat.reduceMod, Nat.reducePow, Nat.reduceLT, Nat.reduceLeDiff, Nat.reduceEqDiff, Int.reduceAdd, Int.reduceSub, Int.reduceNeg, Int.reduceMul, Int.reduceToNat, Int.reducePow, Int.reduceLE, Int.reduceLT, Int.reduceEq, Int.reduceNe, reduceIte, reduceCtorEq, ne_eq, not_true_eq_false, not_false_eq_true, imp_self, implies_true, bls, eq_self, n1, n1m, n2, n2m, l0, l0m, hs, la, lx, ly, sx2, sy2, ag, str_eq2, Bool.not_true, Bool.not_false]
                          exact no (by rw [isM_mk]; simp [n1, n1m, n2, n2m, l0, l0m, hs]) _ (.add _)
                      · simp (disch := first | assumption | omega | (simp only [lens]; omega)) only [eqs, ↓gvd_succ, ↓gvd_zero, ↓and_of, im_of, im_of trivial, vals, lsts, tys, hP, hst, initS, Nat.reduceBEq, Nat.reduceAdd, Nat.reduceMul, Nat.reduceSub, Nat.reduceDiv, Nat.reduceMod, Nat.reducePow, Nat.reduceLT, Nat.reduceLeDiff, Nat.reduceEqDiff, Int.reduceAdd, Int.reduceSub, Int.reduceNeg, Int.reduceMul, Int.reduceToNat, Int.reducePow, Int.reduceLE, Int.reduceLT, Int.reduceEq, Int.reduceNe, reduceIte, reduceCtorEq, ne_eq, not_true_eq_false, not_false_eq_true, imp_self, implies_true, bls, eq_self, n1, n1m, n2, n2m, l0, l0m, la, lx, ly, sx2, sy2, ag, str_eq2, Bool.not_true, Bool.not_false]
                        exact no (by rw [isM_mk]; simp [n1, n1m, n2, n2m, l0, l0m]) _ (.add _)
                    · simp (disch := first | assumption | omega | (simp only [lens]; omega)) only [eqs, ↓gvd_succ, ↓gvd_zero, ↓and_of, im_of, im_of trivial, vals, lsts, tys, hP, hst, initS, Nat.reduceBEq, Nat.reduceAdd, Nat.reduceMul, Nat.reduceSub, Nat.reduceDiv, Nat.reduceMod, Nat.reducePow, Nat.reduceLT, Nat.reduceLeDiff, Nat.reduceEqDiff, Int.reduceAdd, Int.reduceSub, Int.reduceNeg, Int.reduceMul, Int.reduceToNat, Int.reducePow, Int.reduceLE, Int.reduceLT, Int.reduceEq, Int.reduceNe, reduceIte, reduceCtorEq, ne_eq, not_true_eq_false, not_false_eq_true, imp_self, implies_true, bls, eq_self, n1, n1m, n2, n2m, l0, l0m, k0, k1, k2, k3, k4, k5, la, lx, ly, sx2, sy2, ag, str_eq2, Bool.not_true, Bool.not_false]
                      exact no (by rw [isM_mk]; simp [n1, n1m, n2, n2m, l0, l0m, k0, k1, k2, k3, k4, k5]) _ (.add _)
        · have l0m : ¬l.length = 0 := by omega
          have l0n : ¬l = [] := fun h => l0m (by rw [h]; rfl)
          by_cases k0 : k = 0
          · subst k0
            simp (disch := first | assumption | omega | (simp only [lens]; omega)) only [eqs, ↓gvd_succ, ↓gvd_zero, ↓and_of, im_of, im_of trivial, vals, lsts, tys, hP, hst, initS, Nat.reduceBEq, Nat.reduceAdd, Nat.reduceMul, Nat.reduceSub, Nat.reduceDiv, Nat.reduceMod, Nat.reducePow, Nat.reduceLT, Nat.reduceLeDiff, Nat.reduceEqDiff, Int.reduceAdd, Int.reduceSub, Int.reduceNeg, Int.reduceMul, Int.reduceToNat, Int.reducePow, Int.reduceLE, Int.reduceLT, Int.reduceEq, Int.reduceNe, reduceIte, reduceCtorEq, ne_eq, not_true_eq_false, not_false_eq_true, imp_self, implies_true, bls, eq_self, n1, n1m, n2, n2m, l0, l0m, l0n, la, lx, ly, sx2, sy2, ag, str_eq2, Bool.not_true, Bool.not_false]
            exact no (by rw [isM_mk]; simp [n1, n1m, n2, n2m, l0, l0m, l0n]) _ (.add _)
          · by_cases k1 : k = 1
            · subst k1
              simp (disch := first | assumption | omega | (simp only [lens]; omega)) only [eqs, ↓gvd_succ, ↓gvd_zero, ↓and_of, im_of, im_of trivial, vals, lsts, tys, hP, hst, initS, Nat.reduceBEq, Nat.reduceAdd, Nat.reduceMul, Nat.reduceSub, Nat.reduceDiv, Nat.reduceMod, Nat.reducePow, Nat.reduceLT, Nat.reduceLeDiff, Nat.reduceEqDiff, Int.reduceAdd, Int.reduceSub, Int.reduceNeg, Int.reduceMul, Int.reduceToNat, Int.reducePow, Int.reduceLE, Int.reduceLT, Int.reduceEq, Int.reduceNe, reduceIte, reduceCtorEq, ne_eq, not_true_eq_false, not_false_eq_true, imp_self, implies_true, bls, eq_self, n1, n1m, n2, n2m, l0, l0m, l0n, la, lx, ly, sx2, sy2, ag, str_eq2, Bool.not_true, Bool.not_false]
              exact no (by rw [isM_mk]; simp [n1, n1m, n2, n2m, l0, l0m, l0n]) _ (.add _)
            · by_cases k2 : k = 2
              · subst k2
                simp (disch := first | assumption | omega | (simp only [lens]; omega)) only [eqs, ↓gvd_succ, ↓gvd_zero, ↓and_of, im_of, im_of trivial, vals, lsts, tys, hP, hst, initS, Nat.reduceBEq, Nat.reduceAdd, Nat.reduceMul, Nat.reduceSub, Nat.reduceDiv, Nat.reduceMod, Nat.reducePow, Nat.reduceLT, Nat.reduceLeDiff, Nat.reduceEqDiff, Int.reduceAdd, Int.reduceSub, Int.reduceNeg, Int.reduceMul, Int.reduceToNat, Int.reducePow, Int.reduceLE, Int.reduceLT, Int.reduceEq, Int.reduceNe, reduceIte, reduceCtorEq, ne_eq, not_true_eq_false, not_false_eq_true, imp_self, implies_true, bls, eq_self, n1, n1m, n2, n2m, l0, l0m, l0n, la, lx, ly, sx2, sy2, ag, str_eq2, Bool.not_true, Bool.not_false]
                exact no (by rw [isM_mk]; simp [n1, n1m, n2, n2m, l0, l0m, l0n]) _ (.add _)
              · by_cases k3 : k = 3
                · subst k3
                  simp (disch := first | assumption | omega | (simp only [lens]; omega)) only [eqs, ↓gvd_succ, ↓gvd_zero, ↓and_of, im_of, im_of trivial, vals, lsts, tys, hP, hst, initS, Nat.reduceBEq, Nat.reduceAdd, Nat.reduceMul, Nat.reduceSub, Nat.reduceDiv, Nat.reduceMod, Nat.reducePow, Nat.reduceLT, Nat.reduceLeDiff, Nat.reduceEqDiff, Int.reduceAdd, Int.reduceSub, Int.reduceNeg, Int.reduceMul, Int.reduceToNat, Int.reducePow, Int.reduceLE, Int.reduceLT, Int.reduceEq, Int.reduceNe, reduceIte, reduceCtorEq, ne_eq, not_true_eq_false, not_false_eq_true, imp_self, implies_true, bls, eq_self, n1, n1m, n2, n2m, l0, l0m, l0n, la, lx, ly, sx2, sy2, ag, str_eq2, Bool.not_true, Bool.not_false]
                  exact no (by rw [isM_mk]; simp [n1, n1m, n2, n2m, l0, l0m, l0n]) _ (.add _)
                · by_cases k4 : k = 4
                  · subst k4
                    simp (disch := first | assumption | omega | (simp only [lens]; omega)) only [eqs, ↓gvd_succ, ↓gvd_zero, ↓and_of, im_of, im_of trivial, vals, lsts, tys, hP, hst, initS, Nat.reduceBEq, Nat.reduceAdd, Nat.reduceMul, Nat.reduceSub, Nat.reduceDiv, Nat.reduceMod, Nat.reducePow, Nat.reduceLT, Nat.reduceLeDiff, Nat.reduceEqDiff, Int.reduceAdd, Int.reduceSub, Int.reduceNeg, Int.reduceMul, Int.reduceToNat, Int.reducePow, Int.reduceLE, Int.reduceLT, Int.reduceEq, Int.reduceNe, reduceIte, reduceCtorEq, ne_eq, not_true_eq_false, not_false_eq_true, imp_self, implies_true, bls, eq_self, n1, n1m, n2, n2m, l0, l0m, l0n, la, lx, ly, sx2, sy2, ag, str_eq2, Bool.not_true, Bool.not_false]
                    exact no (by rw [isM_mk]; simp [n1, n1m, n2, n2m, l0, l0m, l0n]) _ (.add _)
                  · by_cases k5 : k = 5
                    · subst k5
                      simp (disch := first | assumption | omega | (simp only [lens]; omega)) only [eqs, ↓gvd_succ, ↓gvd_zero, ↓and_of, im_of, im_of trivial, vals, lsts, tys, hP, hst, initS, Nat.reduceBEq, Nat.reduceAdd, Nat.reduceMul, Nat.reduceSub, Nat.reduceDiv, Nat.reduceMod, Nat.reducePow, Nat.reduceLT, Nat.reduceLeDiff, Nat.reduceEqDiff, Int.reduceAdd, Int.reduceSub, Int.reduceNeg, Int.reduceMul, Int.reduceToNat, Int.reducePow, Int.reduceLE, Int.reduceLT, Int.reduceEq, Int.reduceNe, reduceIte, reduceCtorEq, ne_eq, not_true_eq_false, not_false_eq_true, imp_self, implies_true, bls, eq_self, n1, n1m, n2, n2m, l0, l0m, l0n, la, lx, ly, sx2, sy2, ag, str_eq2, Bool.not_true, Bool.not_false]
                      exact no (by rw [isM_mk]; simp [n1, n1m, n2, n2m, l0, l0m, l0n]) _ (.add _)
                    · simp (disch := first | assumption | omega | (simp only [lens]; omega)) only [eqs, ↓gvd_succ, ↓gvd_zero, ↓and_of, im_of, im_of trivial, vals, lsts, tys, hP, hst, initS, Nat.reduceBEq, Nat.reduceAdd, Nat.reduceMul, Nat.reduceSub, Nat.reduceDiv, Nat.reduceMod, Nat.reducePow, Nat.reduceLT, Nat.reduceLeDiff, Nat.reduceEqDiff, Int.reduceAdd, Int.reduceSub, Int.reduceNeg, Int.reduceMul, Int.reduceToNat, Int.reducePow, Int.reduceLE, Int.reduceLT, Int.reduceEq, Int.reduceNe, reduceIte, reduceCtorEq, ne_eq, not_true_eq_false, not_false_eq_true, imp_self, implies_true, bls, eq_self, n1, n1m, n2, n2m, l0, l0m, l0n, k0, k1, k2, k3, k4, k5, la, lx, ly, sx2, sy2, ag, str_eq2, Bool.not_true, Bool.not_false]
                      exact no (by rw [isM_mk]; simp [n1, n1m, n2, n2m, l0, l0m, l0n, k0, k1, k2, k3, k4, k5]) _ (.add _)
      · by_cases k0 : k = 0
        · subst k0
          simp (disch := first | assumption | omega | (simp only [lens]; omega)) only [eqs, ↓gvd_succ, ↓gvd_zero, ↓and_of, im_of, im_of trivial, vals, lsts, tys, hP, hst, initS, Nat.reduceBEq, Nat.reduceAdd, Nat.reduceMul, Nat.reduceSub, Nat.reduceDiv, Nat.reduceMod, Nat.reducePow, Nat.reduceLT, Nat.reduceLeDiff, Nat.reduceEqDiff, Int.reduceAdd, Int.reduceSub, Int.reduceNeg, Int.reduceMul, Int.reduceToNat, Int.reducePow, Int.reduceLE, Int.reduceLT, Int.reduceEq, Int.reduceNe, reduceIte, reduceCtorEq, ne_eq, not_true_eq_false, not_false_eq_true, imp_self, implies_true, bls, eq_self, n1, n1m, n2, n2m, la, lx, ly, sx2, sy2, ag, str_eq2, Bool.not_true, Bool.not_false]
          exact no (by rw [isM_mk]; simp [n1, n1m, n2, n2m]) _ (.add _)
        · by_cases k1 : k = 1
          · subst k1
            simp (disch := first | assumption | omega | (simp only [lens]; omega)) only [eqs, ↓gvd_succ, ↓gvd_zero, ↓and_of, im_of, im_of trivial, vals, lsts, tys, hP, hst, initS, Nat.reduceBEq, Nat.reduceAdd, Nat.reduceMul, Nat.reduceSub, Nat.reduceDiv, Nat.reduceMod, Nat.reducePow, Nat.reduceLT, Nat.reduceLeDiff, Nat.reduceEqDiff, Int.reduceAdd, Int.reduceSub, Int.reduceNeg, Int.reduceMul, Int.reduceToNat, Int.reducePow, Int.reduceLE, Int.reduceLT, Int.reduceEq, Int.reduceNe, reduceIte, reduceCtorEq, ne_eq, not_true_eq_false, not_false_eq_true, imp_self, implies_true, bls, eq_self, n1, n1m, n2, n2m, la, lx, ly, sx2, sy2, ag, str_eq2, Bool.not_true, Bool.not_false]
            exact no (by rw [isM_mk]; simp [n1, n1m, n2, n2m]) _ (.add _)
          · by_cases k2 : k = 2
            · subst k2
              simp (disch := first | assumption | omega | (simp only [lens]; omega)) only [eqs, ↓gvd_succ, ↓gvd_zero, ↓and_of, im_of, im_of trivial, vals, lsts, tys, hP, hst, initS, Nat.reduceBEq, Nat.reduceAdd, Nat.reduceMul, Nat.reduceSub, Nat.reduceDiv, Nat.reduceMod, Nat.reducePow, Nat.reduceLT, Nat.reduceLeDiff, Nat.reduceEqDiff, Int.reduceAdd, Int.reduceSub, Int.reduceNeg, Int.reduceMul, Int.reduceToNat, Int.reducePow, Int.reduceLE, Int.reduceLT, Int.reduceEq, Int.reduceNe, reduceIte, reduceCtorEq, ne_eq, not_true_eq_false, not_false_eq_true, imp_self, implies_true, bls, eq_self, n1, n1m, n2, n2m, la, lx, ly, sx2, sy2, ag, str_eq2, Bool.not_true, Bool.not_false]
              exact no (by rw [isM_mk]; simp [n1, n1m, n2, n2m]) _ (.add _)
            · by_cases k3 : k = 3
              · subst k3
                simp (disch := first | assumption | omega | (simp only [lens]; omega)) only [eqs, ↓gvd_succ, ↓gvd_zero, ↓and_of, im_of, im_of trivial, vals, lsts, tys, hP, hst, initS, Nat.reduceBEq, Nat.reduceAdd, Nat.reduceMul, Nat.reduceSub, Nat.reduceDiv, Nat.reduceMod, Nat.reducePow, Nat.reduceLT, Nat.reduceLeDiff, Nat.reduceEqDiff, Int.reduceAdd, Int.reduceSub, Int.reduceNeg, Int.reduceMul, Int.reduceToNat, Int.reducePow, Int.reduceLE, Int.reduceLT, Int.reduceEq, Int.reduceNe, reduceIte, reduceCtorEq, ne_eq, not_true_eq_false, not_false_eq_true, imp_self, implies_true, bls, eq_self, n1, n1m, n2, n2m, la, lx, ly, sx2, sy2, ag, str_eq2, Bool.not_true, Bool.not_false]
                exact no (by rw [isM_mk]; simp [n1, n1m, n2, n2m]) _ (.add _)
              · by_cases k4 : k = 4
                · subst k4
                  simp (disch := first | assumption | omega | (simp only [lens]; omega)) only [eqs, ↓gvd_succ, ↓gvd_zero, ↓and_of, im_of, im_of trivial, vals, lsts, tys, hP, hst, initS, Nat.reduceBEq, Nat.reduceAdd, Nat.reduceMul, Nat.reduceSub, Nat.reduceDiv, Nat.reduceMod, Nat.reducePow, Nat.reduceLT, Nat.reduceLeDiff, Nat.reduceEqDiff, Int.reduceAdd, Int.reduceSub, Int.reduceNeg, Int.reduceMul, Int.reduceToNat, Int.reducePow, Int.reduceLE, Int.reduceLT, Int.reduceEq, Int.reduceNe, reduceIte, reduceCtorEq, ne_eq, not_true_eq_false, not_false_eq_true, imp_self, implies_true, bls, eq_self, n1, n1m, n2, n2m, la, lx, ly, sx2, sy2, ag, str_eq2, Bool.not_true, Bool.not_false]
                  exact no (by rw [isM_mk]; simp [n1, n1m, n2, n2m]) _ (.add _)
                · by_cases k5 : k = 5
                  · subst k5
                    simp (disch := first | assumption | omega | (simp only [lens]; omega)) only [eqs, ↓gvd_succ, ↓gvd_zero, ↓and_of, im_of, im_of trivial, vals, lsts, tys, hP, hst, initS, Nat.reduceBEq, Nat.reduceAdd, Nat.reduceMul, Nat.reduceSub, Nat.reduceDiv, Nat.reduceMod, Nat.reducePow, Nat.reduceLT, Nat.reduceLeDiff, Nat.reduceEqDiff, Int.reduceAdd, Int.reduceSub, Int.reduceNeg, Int.reduceMul, Int.reduceToNat, Int.reducePow, Int.reduceLE, Int.reduceLT, Int.reduceEq, Int.reduceNe, reduceIte, reduceCtorEq, ne_eq, not_true_eq_false, not_false_eq_true, imp_self, implies_true, bls, eq_self, n1, n1m, n2, n2m, la, lx, ly, sx2, sy2, ag, str_eq2, Bool.not_true, Bool.not_false]
                    exact no (by rw [isM_mk]; simp [n1, n1m, n2, n2m]) _ (.add _)
                  · simp (disch := first | assumption | omega | (simp only [lens]; omega)) only [eqs, ↓gvd_succ, ↓gvd_zero, ↓and_of, im_of, im_of trivial, vals, lsts, tys, hP, hst, initS, Nat.reduceBEq, Nat.reduceAdd, Nat.reduceMul, Nat.reduceSub, Nat.reduceDiv, Nat.reduceMod, Nat.reducePow, Nat.reduceLT, Nat.reduceLeDiff, Nat.reduceEqDiff, Int.reduceAdd, Int.reduceSub, Int.reduceNeg, Int.reduceMul, Int.reduceToNat, Int.reducePow, Int.reduceLE, Int.reduceLT, Int.reduceEq, Int.reduceNe, reduceIte, reduceCtorEq, ne_eq, not_true_eq_false, not_false_eq_true, imp_self, implies_true, bls, eq_self, n1, n1m, n2, n2m, k0, k1, k2, k3, k4, k5, la, lx, ly, sx2, sy2, ag, str_eq2, Bool.not_true, Bool.not_false]
                    exact no (by rw [isM_mk]; simp [n1, n1m, n2, n2m, k0, k1, k2, k3, k4, k5]) _ (.add _)
  · have n1m : ¬its.length = 0 := by omega
    cases g
    · by_cases l0 : (l.length : Int) = 0
      · have l0n : l = [] := List.eq_nil_of_length_eq_zero (by omega)
        have l0m : l.length = 0 := by omega
        by_cases k0 : k = 0
        · subst k0
          simp (disch := first | assumption | omega | (simp only [lens]; omega)) only [eqs, ↓gvd_succ, ↓gvd_zero, ↓and_of, im_of, im_of trivial, vals, lsts, tys, hP, hst, initS, Nat.reduceBEq, Nat.reduceAdd, Nat.reduceMul, Nat.reduceSub, Nat.reduceDiv, Nat.reduceMod, Nat.reducePow, Nat.reduceLT, Nat.reduceLeDiff, Nat.reduceEqDiff, Int.reduceAdd, Int.reduceSub, Int.reduceNeg, Int.reduceMul, Int.reduceToNat, Int.reducePow, Int.reduceLE, Int.reduceLT, Int.reduceEq, Int.reduceNe, reduceIte, reduceCtorEq, ne_eq, not_true_eq_false, not_false_eq_true, imp_self, implies_true, bls, eq_self, n1, n1m, l0, l0m, la, lx, ly, sx2, sy2, ag, str_eq2, Bool.not_true, Bool.not_false]
          exact no (by rw [isM_mk]; simp [n1, n1m, l0, l0m]) _ (.add _)
        · by_cases k1 : k = 1
          · subst k1
            simp (disch := first | assumption | omega | (simp only [lens]; omega)) only [eqs, ↓gvd_succ, ↓gvd_zero, ↓and_of, im_of, im_of trivial, vals, lsts, tys, hP, hst, initS, Nat.reduceBEq, Nat.reduceAdd, Nat.reduceMul, Nat.reduceSub, Nat.reduceDiv, Nat.reduceMod, Nat.reducePow, Nat.reduceLT, Nat.reduceLeDiff, Nat.reduceEqDiff, Int.reduceAdd, Int.reduceSub, Int.reduceNeg, Int.reduceMul, Int.reduceToNat, Int.reducePow, Int.reduceLE, Int.reduceLT, Int.reduceEq, Int.reduceNe, reduceIte, reduceCtorEq, ne_eq, not_true_eq_false, not_false_eq_true, imp_self, implies_true, bls, eq_self, n1, n1m, l0, l0m, la, lx, ly, sx2, sy2, ag, str_eq2, Bool.not_true, Bool.not_false]
            exact no (by rw [isM_mk]; simp [n1, n1m, l0, l0m]) _ (.add _)
          · by_cases k2 : k = 2
            · subst k2
              simp (disch := first | assumption | omega | (simp only [lens]; omega)) only [eqs, ↓gvd_succ, ↓gvd_zero, ↓and_of, im_of, im_of trivial, vals, lsts, tys, hP, hst, initS, Nat.reduceBEq, Nat.reduceAdd, Nat.reduceMul, Nat.reduceSub, Nat.reduceDiv, Nat.reduceMod, Nat.reducePow, Nat.reduceLT, Nat.reduceLeDiff, Nat.reduceEqDiff, Int.reduceAdd, Int.reduceSub, Int.reduceNeg, Int.reduceMul, Int.reduceToNat, Int.reducePow, Int.reduceLE, Int.reduceLT, Int.reduceEq, Int.reduceNe, reduceIte, reduceCtorEq, ne_eq, not_true_eq_false, not_false_eq_true, imp_self, implies_true, bls, eq_self, n1, n1m, l0, l0m, la, lx, ly, sx2, sy2, ag, str_eq2, Bool.not_true, Bool.not_false]
              exact no (by rw [isM_mk]; simp [n1, n1m, l0, l0m]) _ (.add _)
            · by_cases k3 : k = 3
              · subst k3
                simp (disch := first | assumption | omega | (simp only [lens]; omega)) only [eqs, ↓gvd_succ, ↓gvd_zero, ↓and_of, im_of, im_of trivial, vals, lsts, tys, hP, hst, initS, Nat.reduceBEq, Nat.reduceAdd, Nat.reduceMul, Nat.reduceSub, Nat.reduceDiv, Nat.reduceMod, Nat.reducePow, Nat.reduceLT, Nat.reduceLeDiff, Nat.reduceEqDiff, Int.reduceAdd, Int.reduceSub, Int.reduceNeg, Int.reduceMul, Int.reduceToNat, Int.reducePow, Int.reduceLE, Int.reduceLT, Int.reduceEq, Int.reduceNe, reduceIte, reduceCtorEq, ne_eq, not_true_eq_false, not_false_eq_true, imp_self, implies_true, bls, eq_self, n1, n1m, l0, l0m, la, lx, ly, sx2, sy2, ag, str_eq2, Bool.not_true, Bool.not_false]
                exact no (by rw [isM_mk]; simp [n1, n1m, l0, l0m]) _ (.add _)
              · by_cases k4 : k = 4
                · subst k4
                  simp (disch := first | assumption | omega | (simp only [lens]; omega)) only [eqs, ↓gvd_succ, ↓gvd_zero, ↓and_of, im_of, im_of trivial, vals, lsts, tys, hP, hst, initS, Nat.reduceBEq, Nat.reduceAdd, Nat.reduceMul, Nat.reduceSub, Nat.reduceDiv, Nat.reduceMod, Nat.reducePow, Nat.reduceLT, Nat.reduceLeDiff, Nat.reduceEqDiff, Int.reduceAdd, Int.reduceSub, Int.reduceNeg, Int.reduceMul, Int.reduceToNat, Int.reducePow, Int.reduceLE, Int.reduceLT, Int.reduceEq, Int.reduceNe, reduceIte, reduceCtorEq, ne_eq, not_true_eq_false, not_false_eq_true, imp_self, implies_true, bls, eq_self, n1, n1m, l0, l0m, la, lx, ly, sx2, sy2, ag, str_eq2, Bool.not_true, Bool.not_false]
                  exact no (by rw [isM_mk]; simp [n1, n1m, l0, l0m]) _ (.add _)
                · by_cases k5 : k = 5
                  · subst k5
                    cases b
                    · by_cases hs : s = ⟨#[]⟩
                      · subst hs
                        by_cases t1 : 1 < (tls.length : Int)
                        · have t1n : ¬tls.length ≤ 1 := by omega
                          simp (disch := first | assumption | omega | (simp only [lens]; omega)) only [eqs, ↓gvd_succ, ↓gvd_zero, ↓and_of, im_of, im_of trivial, vals, lsts, tys, hP, hst, initS, Nat.reduceBEq, Nat.reduceAdd, Nat.reduceMul, Nat.reduceSub, Nat.reduceDiv, Nat.reduceMod, Nat.reducePow, Nat.reduceLT, Nat.reduceLeDiff, Nat.reduceEqDiff, Int.reduceAdd, Int.reduceSub, Int.reduceNeg, Int.reduceMul, Int.reduceToNat, Int.reducePow, Int.reduceLE, Int.reduceLT, Int.reduceEq, Int.reduceNe, reduceIte, reduceCtorEq, ne_eq, not_true_eq_false, not_false_eq_true, imp_self, implies_true, bls, eq_self, n1, n1m, l0, l0m, t1, t1n, la, lx, ly, sx2, sy2, ag, str_eq2, Bool.not_true, Bool.not_false]
                          exact no (by rw [isM_mk]; simp [n1, n1m, l0, l0m, t1, t1n]) _ (.add _)
                        · have t1n : tls.length ≤ 1 := by omega
                          by_cases t2 : (tls.length : Int) = 1
                          · have t2n : tls.length = 1 := by omega
                            obtain ⟨e, rfl⟩ : ∃ e, tls = [e] := by match tls, t2n with | [e], _ => exact ⟨e, rfl⟩
                            obtain ⟨k1, g1, a1, l1, c1, s1, x1, z1, its1, tls1, rfl, hs1, m1, m2, m3⟩ := hy.one1
                            have hs2 := fun z => sl_grow hs1 z
                            clear sy2
                            have i1 : ¬1 < ((1 : Nat) : Int) := by omega
                            have i2 : ((1 : Nat) : Int) = 1 := rfl
                            by_cases q5 : k1 = 5
                            · simp (disch := first | assumption | omega | (simp only [lens]; omega)) only [eqs, ↓gvd_succ, ↓gvd_zero, ↓and_of, im_of, im_of trivial, vals, lsts, tys, hP, hst, initS, Nat.reduceBEq, Nat.reduceAdd, Nat.reduceMul, Nat.reduceSub, Nat.reduceDiv, Nat.reduceMod, Nat.reducePow, Nat.reduceLT, Nat.reduceLeDiff, Nat.reduceEqDiff, Int.reduceAdd, Int.reduceSub, Int.reduceNeg, Int.reduceMul, Int.reduceToNat, Int.reducePow, Int.reduceLE, Int.reduceLT, Int.reduceEq, Int.reduceNe, reduceIte, reduceCtorEq, ne_eq, not_true_eq_false, not_false_eq_true, imp_self, implies_true, bls, eq_self, n1, n1m, l0, l0m, q5, i1, i2, la, lx, ly, sx2, hs2, ag, str_eq2, Bool.not_true, Bool.not_false]
                              exact no (by rw [isM_mk]; simp [n1, n1m, l0, l0m, q5, kd0, Dt.kd]) _ (.add _)
                            · have hM : isM (.mk 5 false l false ⟨#[]⟩ its [.mk k1 g1 l1 c1 s1 its1 tls1]) = (isMs its && isMs [.mk k1 g1 l1 c1 s1 its1 tls1]) := by rw [isM_mk]; simp [n1, n1m, l0, l0m, q5, kd0, Dt.kd]
                              generalize htl : [Dt.mk k1 g1 l1 c1 s1 its1 tls1] = tls at hy hM hc hf hN no yes bx by_ m1 m2 m3
                              simp (disch := first | assumption | omega | (simp only [lens]; omega)) only [eqs, ↓gvd_succ, ↓gvd_zero, ↓and_of, im_of, im_of trivial, vals, lsts, tys, hP, hst, initS, Nat.reduceBEq, Nat.reduceAdd, Nat.reduceMul, Nat.reduceSub, Nat.reduceDiv, Nat.reduceMod, Nat.reducePow, Nat.reduceLT, Nat.reduceLeDiff, Nat.reduceEqDiff, Int.reduceAdd, Int.reduceSub, Int.reduceNeg, Int.reduceMul, Int.reduceToNat, Int.reducePow, Int.reduceLE, Int.reduceLT, Int.reduceEq, Int.reduceNe, reduceIte, reduceCtorEq, ne_eq, not_true_eq_false, not_false_eq_true, imp_self, implies_true, bls, eq_self, n1, n1m, l0, l0m, q5, i1, i2, la, lx, ly, sx2, hs2, ag, str_eq2, Bool.not_true, Bool.not_false]
                              refine V_loop (ι := Nat × St) (fun e => [(168, .val (.int .i64 (e.1 : Int))), (167, .agg [x, y])]) (fun e => e.2)
                                (fun e => Ext st e.2 ∧ e.1 ≤ 2 ∧ isMs (pre2 its tls e.1) = true) (fun e => 2 - e.1) (0, _) ⟨.add _, by simp, rfl⟩ rfl (by simp (disch := first | assumption | omega | (simp only [lens]; omega)) only [eqs, ↓gvd_succ, ↓gvd_zero, ↓and_of, im_of, im_of trivial, vals, lsts, tys, hP, hst, initS, Nat.reduceBEq, Nat.reduceAdd, Nat.reduceMul, Nat.reduceSub, Nat.reduceDiv, Nat.reduceMod, Nat.reducePow, Nat.reduceLT, Nat.reduceLeDiff, Nat.reduceEqDiff, Int.reduceAdd, Int.reduceSub, Int.reduceNeg, Int.reduceMul, Int.reduceToNat, Int.reducePow, Int.reduceLE, Int.reduceLT, Int.reduceEq, Int.reduceNe, reduceIte, reduceCtorEq, ne_eq, not_true_eq_false, not_false_eq_true, imp_self, implies_true, bls, eq_self] <;> rfl) ?_
                              rintro ⟨j, T⟩ ⟨hT, hj, hs1⟩
                              dsimp only at hT hj hs1 ⊢
                              simp (disch := first | assumption | omega | (simp only [lens]; omega)) only [eqs, ↓gvd_succ, ↓gvd_zero, ↓and_of, im_of, im_of trivial, vals, lsts, tys, hP, hst, initS, Nat.reduceBEq, Nat.reduceAdd, Nat.reduceMul, Nat.reduceSub, Nat.reduceDiv, Nat.reduceMod, Nat.reducePow, Nat.reduceLT, Nat.reduceLeDiff, Nat.reduceEqDiff, Int.reduceAdd, Int.reduceSub, Int.reduceNeg, Int.reduceMul, Int.reduceToNat, Int.reducePow, Int.reduceLE, Int.reduceLT, Int.reduceEq, Int.reduceNe, reduceIte, reduceCtorEq, ne_eq, not_true_eq_false, not_false_eq_true, imp_self, implies_true, bls, eq_self]
                              refine C_dec (fun h3 => ?_) (fun h3 => ?_)
                              · obtain ⟨z, ds, hz, hzd, hp⟩ := pre2_step its tls x y (j := j) (by omega)
                                have hle : szs ds ≤ szs its + szs tls := by rcases hzd with ⟨_, rfl⟩ | ⟨_, rfl⟩ <;> omega
                                have hds : DS st z ds := by rcases hzd with ⟨rfl, rfl⟩ | ⟨rfl, rfl⟩ <;> assumption
                                have hfd : fits ds := by rcases hzd with ⟨_, rfl⟩ | ⟨_, rfl⟩ <;> first | exact hf.2.1 | exact hf.2.2
                                have hbad : isMs ds = false → (isMs its && isMs tls) = false := fun h => by rcases hzd with ⟨_, rfl⟩ | ⟨_, rfl⟩ <;> simp [h]
                                have bz : ds.length ≤ 100000 := by have := szs_len (ds := ds); omega
                                simp (disch := first | assumption | omega | (simp only [lens]; omega)) only [eqs, ↓gvd_succ, ↓gvd_zero, ↓and_of, im_of, im_of trivial, vals, lsts, tys, hP, hst, initS, Nat.reduceBEq, Nat.reduceAdd, Nat.reduceMul, Nat.reduceSub, Nat.reduceDiv, Nat.reduceMod, Nat.reducePow, Nat.reduceLT, Nat.reduceLeDiff, Nat.reduceEqDiff, Int.reduceAdd, Int.reduceSub, Int.reduceNeg, Int.reduceMul, Int.reduceToNat, Int.reducePow, Int.reduceLE, Int.reduceLT, Int.reduceEq, Int.reduceNe, reduceIte, reduceCtorEq, ne_eq, not_true_eq_false, not_false_eq_true, imp_self, implies_true, bls, eq_self]
                                refine F_idx hz rfl (by omega) ?_
                                obtain ⟨cs, hsl, hdl, hcl⟩ := (hds.ext hT).inv
                                simp (disch := first | assumption | omega | (simp only [lens]; omega)) only [eqs, ↓gvd_succ, ↓gvd_zero, ↓and_of, im_of, im_of trivial, vals, lsts, tys, hP, hst, initS, Nat.reduceBEq, Nat.reduceAdd, Nat.reduceMul, Nat.reduceSub, Nat.reduceDiv, Nat.reduceMod, Nat.reducePow, Nat.reduceLT, Nat.reduceLeDiff, Nat.reduceEqDiff, Int.reduceAdd, Int.reduceSub, Int.reduceNeg, Int.reduceMul, Int.reduceToNat, Int.reducePow, Int.reduceLE, Int.reduceLT, Int.reduceEq, Int.reduceNe, reduceIte, reduceCtorEq, ne_eq, not_true_eq_false, not_false_eq_true, imp_self, implies_true, bls, eq_self, hsl]
                                refine V_loop (ι := Nat × St) (fun e => [(173, .val (.int .i64 (e.1 : Int))), (172, .val (.int .i64 (ds.length : Int))), (171, z), (168, .val (.int .i64 (j : Int))), (167, .agg [x, y])]) (fun e => e.2)
                                  (fun e => Ext T e.2 ∧ e.1 ≤ ds.length ∧ isMs (ds.take e.1) = true) (fun e => ds.length - e.1) (0, T) ⟨.refl, by simp, rfl⟩ rfl (by simp (disch := first | assumption | omega | (simp only [lens]; omega)) only [eqs, ↓gvd_succ, ↓gvd_zero, ↓and_of, im_of, im_of trivial, vals, lsts, tys, hP, hst, initS, Nat.reduceBEq, Nat.reduceAdd, Nat.reduceMul, Nat.reduceSub, Nat.reduceDiv, Nat.reduceMod, Nat.reducePow, Nat.reduceLT, Nat.reduceLeDiff, Nat.reduceEqDiff, Int.reduceAdd, Int.reduceSub, Int.reduceNeg, Int.reduceMul, Int.reduceToNat, Int.reducePow, Int.reduceLE, Int.reduceLT, Int.reduceEq, Int.reduceNe, reduceIte, reduceCtorEq, ne_eq, not_true_eq_false, not_false_eq_true, imp_self, implies_true, bls, eq_self] <;> rfl) ?_
                                rintro ⟨i, U⟩ ⟨hU, hi, hs2⟩
                                dsimp only at hU hi hs2 ⊢
                                obtain ⟨cs, hsl, hdl, hcl⟩ := (hds.ext (hT.trans hU)).inv
                                simp (disch := first | assumption | omega | (simp only [lens]; omega)) only [eqs, ↓gvd_succ, ↓gvd_zero, ↓and_of, im_of, im_of trivial, vals, lsts, tys, hP, hst, initS, Nat.reduceBEq, Nat.reduceAdd, Nat.reduceMul, Nat.reduceSub, Nat.reduceDiv, Nat.reduceMod, Nat.reducePow, Nat.reduceLT, Nat.reduceLeDiff, Nat.reduceEqDiff, Int.reduceAdd, Int.reduceSub, Int.reduceNeg, Int.reduceMul, Int.reduceToNat, Int.reducePow, Int.reduceLE, Int.reduceLT, Int.reduceEq, Int.reduceNe, reduceIte, reduceCtorEq, ne_eq, not_true_eq_false, not_false_eq_true, imp_self, implies_true, bls, eq_self]
                                refine C_dec (fun h4 => ?_) (fun h4 => ?_)
                                · obtain ⟨cs, c, e, hsl, hcl, hc, hc7, hca, he, hec, hl1, hl2⟩ := (hds.ext (hT.trans hU)).at (i := i) (by omega)
                                  have hXl := Nat.le_trans hX (hT.trans hU).len
                                  have hes := szs_mem (List.mem_of_getElem? he)
                                  have htk := isMs_take he
                                  simp (disch := first | assumption | omega | (simp only [lens]; omega)) only [eqs, ↓gvd_succ, ↓gvd_zero, ↓and_of, im_of, im_of trivial, vals, lsts, tys, hP, hst, initS, Nat.reduceBEq, Nat.reduceAdd, Nat.reduceMul, Nat.reduceSub, Nat.reduceDiv, Nat.reduceMod, Nat.reducePow, Nat.reduceLT, Nat.reduceLeDiff, Nat.reduceEqDiff, Int.reduceAdd, Int.reduceSub, Int.reduceNeg, Int.reduceMul, Int.reduceToNat, Int.reducePow, Int.reduceLE, Int.reduceLT, Int.reduceEq, Int.reduceNe, reduceIte, reduceCtorEq, ne_eq, not_true_eq_false, not_false_eq_true, imp_self, implies_true, bls, eq_self, hsl, hcl, hc, hca, take7 hc7, zD_drop, zD_len, List.append_nil, hXl, hl1, hl2]
                                  refine E_call (hP ▸ ih) ⟨_, e, rfl, ⟨c, rfl, hec.ext (.add _)⟩, by omega, by omega, fits_mem hfd (List.mem_of_getElem? he), fun V hV => ?_⟩
                                  have eV : Ext st V := (hT.trans hU).trans ((Ext.add _).trans hV)
                                  simp (disch := first | assumption | omega | (simp only [lens]; omega)) only [eqs, ↓gvd_succ, ↓gvd_zero, ↓and_of, im_of, im_of trivial, vals, lsts, tys, hP, hst, initS, Nat.reduceBEq, Nat.reduceAdd, Nat.reduceMul, Nat.reduceSub, Nat.reduceDiv, Nat.reduceMod, Nat.reducePow, Nat.reduceLT, Nat.reduceLeDiff, Nat.reduceEqDiff, Int.reduceAdd, Int.reduceSub, Int.reduceNeg, Int.reduceMul, Int.reduceToNat, Int.reducePow, Int.reduceLE, Int.reduceLT, Int.reduceEq, Int.reduceNe, reduceIte, reduceCtorEq, ne_eq, not_true_eq_false, not_false_eq_true, imp_self, implies_true, bls, eq_self]
                                  refine C_bool (fun h5 => ?_) (fun h5 => ?_)
                                  · have h5 : isM e = false := by simpa using h5
                                    simp (disch := first | assumption | omega | (simp only [lens]; omega)) only [eqs, ↓gvd_succ, ↓gvd_zero, ↓and_of, im_of, im_of trivial, vals, lsts, tys, hP, hst, initS, Nat.reduceBEq, Nat.reduceAdd, Nat.reduceMul, Nat.reduceSub, Nat.reduceDiv, Nat.reduceMod, Nat.reducePow, Nat.reduceLT, Nat.reduceLeDiff, Nat.reduceEqDiff, Int.reduceAdd, Int.reduceSub, Int.reduceNeg, Int.reduceMul, Int.reduceToNat, Int.reducePow, Int.reduceLE, Int.reduceLT, Int.reduceEq, Int.reduceNe, reduceIte, reduceCtorEq, ne_eq, not_true_eq_false, not_false_eq_true, imp_self, implies_true, bls, eq_self]
                                    exact no (hM.trans (hbad (isMs_bad (List.mem_of_getElem? he) h5))) _ eV
                                  · have h5 : isM e = true := by simpa using h5
                                    simp (disch := first | assumption | omega | (simp only [lens]; omega)) only [eqs, ↓gvd_succ, ↓gvd_zero, ↓and_of, im_of, im_of trivial, vals, lsts, tys, hP, hst, initS, Nat.reduceBEq, Nat.reduceAdd, Nat.reduceMul, Nat.reduceSub, Nat.reduceDiv, Nat.reduceMod, Nat.reducePow, Nat.reduceLT, Nat.reduceLeDiff, Nat.reduceEqDiff, Int.reduceAdd, Int.reduceSub, Int.reduceNeg, Int.reduceMul, Int.reduceToNat, Int.reducePow, Int.reduceLE, Int.reduceLT, Int.reduceEq, Int.reduceNe, reduceIte, reduceCtorEq, ne_eq, not_true_eq_false, not_false_eq_true, imp_self, implies_true, bls, eq_self]
                                    refine again (i + 1, V) ⟨hU.trans ((Ext.add _).trans hV), by dsimp only; omega, by dsimp only; rw [htk, hs2, h5]; rfl⟩ (by dsimp only; omega) rfl (by dsimp only; simp (disch := first | assumption | omega | (simp only [lens]; omega)) only [eqs, ↓gvd_succ, ↓gvd_zero, ↓and_of, im_of, im_of trivial, vals, lsts, tys, hP, hst, initS, Nat.reduceBEq, Nat.reduceAdd, Nat.reduceMul, Nat.reduceSub, Nat.reduceDiv, Nat.reduceMod, Nat.reducePow, Nat.reduceLT, Nat.reduceLeDiff, Nat.reduceEqDiff, Int.reduceAdd, Int.reduceSub, Int.reduceNeg, Int.reduceMul, Int.reduceToNat, Int.reducePow, Int.reduceLE, Int.reduceLT, Int.reduceEq, Int.reduceNe, reduceIte, reduceCtorEq, ne_eq, not_true_eq_false, not_false_eq_true, imp_self, implies_true, bls, eq_self] <;> rfl)
                                · have hi2 : i = ds.length := by omega
                                  subst hi2
                                  rw [List.take_length] at hs2
                                  simp (disch := first | assumption | omega | (simp only [lens]; omega)) only [eqs, ↓gvd_succ, ↓gvd_zero, ↓and_of, im_of, im_of trivial, vals, lsts, tys, hP, hst, initS, Nat.reduceBEq, Nat.reduceAdd, Nat.reduceMul, Nat.reduceSub, Nat.reduceDiv, Nat.reduceMod, Nat.reducePow, Nat.reduceLT, Nat.reduceLeDiff, Nat.reduceEqDiff, Int.reduceAdd, Int.reduceSub, Int.reduceNeg, Int.reduceMul, Int.reduceToNat, Int.reducePow, Int.reduceLE, Int.reduceLT, Int.reduceEq, Int.reduceNe, reduceIte, reduceCtorEq, ne_eq, not_true_eq_false, not_false_eq_true, imp_self, implies_true, bls, eq_self]
                                  refine again (j + 1, U) ⟨hT.trans hU, by dsimp only; omega, by dsimp only; rw [hp, isMs_app, hs1, hs2]; rfl⟩ (by dsimp only; omega) rfl (by dsimp only; simp (disch := first | assumption | omega | (simp only [lens]; omega)) only [eqs, ↓gvd_succ, ↓gvd_zero, ↓and_of, im_of, im_of trivial, vals, lsts, tys, hP, hst, initS, Nat.reduceBEq, Nat.reduceAdd, Nat.reduceMul, Nat.reduceSub, Nat.reduceDiv, Nat.reduceMod, Nat.reducePow, Nat.reduceLT, Nat.reduceLeDiff, Nat.reduceEqDiff, Int.reduceAdd, Int.reduceSub, Int.reduceNeg, Int.reduceMul, Int.reduceToNat, Int.reducePow, Int.reduceLE, Int.reduceLT, Int.reduceEq, Int.reduceNe, reduceIte, reduceCtorEq, ne_eq, not_true_eq_false, not_false_eq_true, imp_self, implies_true, bls, eq_self] <;> rfl)
                              · rw [pre2_end _ _ (by omega), isMs_app] at hs1
                                simp (disch := first | assumption | omega | (simp only [lens]; omega)) only [eqs, ↓gvd_succ, ↓gvd_zero, ↓and_of, im_of, im_of trivial, vals, lsts, tys, hP, hst, initS, Nat.reduceBEq, Nat.reduceAdd, Nat.reduceMul, Nat.reduceSub, Nat.reduceDiv, Nat.reduceMod, Nat.reducePow, Nat.reduceLT, Nat.reduceLeDiff, Nat.reduceEqDiff, Int.reduceAdd, Int.reduceSub, Int.reduceNeg, Int.reduceMul, Int.reduceToNat, Int.reducePow, Int.reduceLE, Int.reduceLT, Int.reduceEq, Int.reduceNe, reduceIte, reduceCtorEq, ne_eq, not_true_eq_false, not_false_eq_true, imp_self, implies_true, bls, eq_self]
                                exact yes (hM.trans hs1) _ hT
                          · have t2n : ¬tls.length = 1 := by omega
                            have hM : isM (.mk 5 false l false ⟨#[]⟩ its tls) = (isMs its && isMs tls) := by rw [isM_mk]; simp [n1, n1m, l0, l0m, t1, t1n, t2, t2n]
                            simp (disch := first | assumption | omega | (simp only [lens]; omega)) only [eqs, ↓gvd_succ, ↓gvd_zero, ↓and_of, im_of, im_of trivial, vals, lsts, tys, hP, hst, initS, Nat.reduceBEq, Nat.reduceAdd, Nat.reduceMul, Nat.reduceSub, Nat.reduceDiv, Nat.reduceMod, Nat.reducePow, Nat.reduceLT, Nat.reduceLeDiff, Nat.reduceEqDiff, Int.reduceAdd, Int.reduceSub, Int.reduceNeg, Int.reduceMul, Int.reduceToNat, Int.reducePow, Int.reduceLE, Int.reduceLT, Int.reduceEq, Int.reduceNe, reduceIte, reduceCtorEq, ne_eq, not_true_eq_false, not_false_eq_true, imp_self, implies_true, bls, eq_self, n1, n1m, l0, l0m, t1, t1n, t2, t2n, la, lx, ly, sx2, sy2, ag, str_eq2, Bool.not_true, Bool.not_false]
                            refine V_loop (ι := Nat × St) (fun e => [(168, .val (.int .i64 (e.1 : Int))), (167, .agg [x, y])]) (fun e => e.2)
                              (fun e => Ext st e.2 ∧ e.1 ≤ 2 ∧ isMs (pre2 its tls e.1) = true) (fun e => 2 - e.1) (0, _) ⟨.add _, by simp, rfl⟩ rfl (by simp (disch := first | assumption | omega | (simp only [lens]; omega)) only [eqs, ↓gvd_succ, ↓gvd_zero, ↓and_of, im_of, im_of trivial, vals, lsts, tys, hP, hst, initS, Nat.reduceBEq, Nat.reduceAdd, Nat.reduceMul, Nat.reduceSub, Nat.reduceDiv, Nat.reduceMod, Nat.reducePow, Nat.reduceLT, Nat.reduceLeDiff, Nat.reduceEqDiff, Int.reduceAdd, Int.reduceSub, Int.reduceNeg, Int.reduceMul, Int.reduceToNat, Int.reducePow, Int.reduceLE, Int.reduceLT, Int.reduceEq, Int.reduceNe, reduceIte, reduceCtorEq, ne_eq, not_true_eq_false, not_false_eq_true, imp_self, implies_true, bls, eq_self] <;> rfl) ?_
                            rintro ⟨j, T⟩ ⟨hT, hj, hs1⟩
                            dsimp only at hT hj hs1 ⊢
                            simp (disch := first | assumption | omega | (simp only [lens]; omega)) only [eqs, ↓gvd_succ, ↓gvd_zero, ↓and_of, im_of, im_of trivial, vals, lsts, tys, hP, hst, initS, Nat.reduceBEq, Nat.reduceAdd, Nat.reduceMul, Nat.reduceSub, Nat.reduceDiv, Nat.reduceMod, Nat.reducePow, Nat.reduceLT, Nat.reduceLeDiff, Nat.reduceEqDiff, Int.reduceAdd, Int.reduceSub, Int.reduceNeg, Int.reduceMul, Int.reduceToNat, Int.reducePow, Int.reduceLE, Int.reduceLT, Int.reduceEq, Int.reduceNe, reduceIte, reduceCtorEq, ne_eq, not_true_eq_false, not_false_eq_true, imp_self, implies_true, bls, eq_self]
                            refine C_dec (fun h3 => ?_) (fun h3 => ?_)
                            · obtain ⟨z, ds, hz, hzd, hp⟩ := pre2_step its tls x y (j := j) (by omega)
                              have hle : szs ds ≤ szs its + szs tls := by rcases hzd with ⟨_, rfl⟩ | ⟨_, rfl⟩ <;> omega
                              have hds : DS st z ds := by rcases hzd with ⟨rfl, rfl⟩ | ⟨rfl, rfl⟩ <;> assumption
                              have hfd : fits ds := by rcases hzd with ⟨_, rfl⟩ | ⟨_, rfl⟩ <;> first | exact hf.2.1 | exact hf.2.2
                              have hbad : isMs ds = false → (isMs its && isMs tls) = false := fun h => by rcases hzd with ⟨_, rfl⟩ | ⟨_, rfl⟩ <;> simp [h]
                              have bz : ds.length ≤ 100000 := by have := szs_len (ds := ds); omega
                              simp (disch := first | assumption | omega | (simp only [lens]; omega)) only [eqs, ↓gvd_succ, ↓gvd_zero, ↓and_of, im_of, im_of trivial, vals, lsts, tys, hP, hst, initS, Nat.reduceBEq, Nat.reduceAdd, Nat.reduceMul, Nat.reduceSub, Nat.reduceDiv, Nat.reduceMod, Nat.reducePow, Nat.reduceLT, Nat.reduceLeDiff, Nat.reduceEqDiff, Int.reduceAdd, Int.reduceSub, Int.reduceNeg, Int.reduceMul, Int.reduceToNat, Int.reducePow, Int.reduceLE, Int.reduceLT, Int.reduceEq, Int.reduceNe, reduceIte, reduceCtorEq, ne_eq, not_true_eq_false, not_false_eq_true, imp_self, implies_true, bls, eq_self]
                              refine F_idx hz rfl (by omega) ?_
                              obtain ⟨cs, hsl, hdl, hcl⟩ := (hds.ext hT).inv
                              simp (disch := first | assumption | omega | (simp only [lens]; omega)) only [eqs, ↓gvd_succ, ↓gvd_zero, ↓and_of, im_of, im_of trivial, vals, lsts, tys, hP, hst, initS, Nat.reduceBEq, Nat.reduceAdd, Nat.reduceMul, Nat.reduceSub, Nat.reduceDiv, Nat.reduceMod, Nat.reducePow, Nat.reduceLT, Nat.reduceLeDiff, Nat.reduceEqDiff, Int.reduceAdd, Int.reduceSub, Int.reduceNeg, Int.reduceMul, Int.reduceToNat, Int.reducePow, Int.reduceLE, Int.reduceLT, Int.reduceEq, Int.reduceNe, reduceIte, reduceCtorEq, ne_eq, not_true_eq_false, not_false_eq_true, imp_self, implies_true, bls, eq_self, hsl]
                              refine V_loop (ι := Nat × St) (fun e => [(173, .val (.int .i64 (e.1 : Int))), (172, .val (.int .i64 (ds.length : Int))), (171, z), (168, .val (.int .i64 (j : Int))), (167, .agg [x, y])]) (fun e => e.2)
                                (fun e => Ext T e.2 ∧ e.1 ≤ ds.length ∧ isMs (ds.take e.1) = true) (fun e => ds.length - e.1) (0, T) ⟨.refl, by simp, rfl⟩ rfl (by simp (disch := first | assumption | omega | (simp only [lens]; omega)) only [eqs, ↓gvd_succ, ↓gvd_zero, ↓and_of, im_of, im_of trivial, vals, lsts, tys, hP, hst, initS, Nat.reduceBEq, Nat.reduceAdd, Nat.reduceMul, Nat.reduceSub, Nat.reduceDiv, Nat.reduceMod, Nat.reducePow, Nat.reduceLT, Nat.reduceLeDiff, Nat.reduceEqDiff, Int.reduceAdd, Int.reduceSub, Int.reduceNeg, Int.reduceMul, Int.reduceToNat, Int.reducePow, Int.reduceLE, Int.reduceLT, Int.reduceEq, Int.reduceNe, reduceIte, reduceCtorEq, ne_eq, not_true_eq_false, not_false_eq_true, imp_self, implies_true, bls, eq_self] <;> rfl) ?_
                              rintro ⟨i, U⟩ ⟨hU, hi, hs2⟩
                              dsimp only at hU hi hs2 ⊢
                              obtain ⟨cs, hsl, hdl, hcl⟩ := (hds.ext (hT.trans hU)).inv
                              simp (disch := first | assumption | omega | (simp only [lens]; omega)) only [eqs, ↓gvd_succ, ↓gvd_zero, ↓and_of, im_of, im_of trivial, vals, lsts, tys, hP, hst, initS, Nat.reduceBEq, Nat.reduceAdd, Nat.reduceMul, Nat.reduceSub, Nat.reduceDiv, Nat.reduceMod, Nat.reducePow, Nat.reduceLT, Nat.reduceLeDiff, Nat.reduceEqDiff, Int.reduceAdd, Int.reduceSub, Int.reduceNeg, Int.reduceMul, Int.reduceToNat, Int.reducePow, Int.reduceLE, Int.reduceLT, Int.reduceEq, Int.reduceNe, reduceIte, reduceCtorEq, ne_eq, not_true_eq_false, not_false_eq_true, imp_self, implies_true, bls, eq_self]
                              refine C_dec (fun h4 => ?_) (fun h4 => ?_)
                              · obtain ⟨cs, c, e, hsl, hcl, hc, hc7, hca, he, hec, hl1, hl2⟩ := (hds.ext (hT.trans hU)).at (i := i) (by omega)
                                have hXl := Nat.le_trans hX (hT.trans hU).len
                                have hes := szs_mem (List.mem_of_getElem? he)
                                have htk := isMs_take he
                                simp (disch := first | assumption | omega | (simp only [lens]; omega)) only [eqs, ↓gvd_succ, ↓gvd_zero, ↓and_of, im_of, im_of trivial, vals, lsts, tys, hP, hst, initS, Nat.reduceBEq, Nat.reduceAdd, Nat.reduceMul, Nat.reduceSub, Nat.reduceDiv, Nat.reduceMod, Nat.reducePow, Nat.reduceLT, Nat.reduceLeDiff, Nat.reduceEqDiff, Int.reduceAdd, Int.reduceSub, Int.reduceNeg, Int.reduceMul, Int.reduceToNat, Int.reducePow, Int.reduceLE, Int.reduceLT, Int.reduceEq, Int.reduceNe, reduceIte, reduceCtorEq, ne_eq, not_true_eq_false, not_false_eq_true, imp_self, implies_true, bls, eq_self, hsl, hcl, hc, hca, take7 hc7, zD_drop, zD_len, List.append_nil, hXl, hl1, hl2]
                                refine E_call (hP ▸ ih) ⟨_, e, rfl, ⟨c, rfl, hec.ext (.add _)⟩, by omega, by omega, fits_mem hfd (List.mem_of_getElem? he), fun V hV => ?_⟩
                                have eV : Ext st V := (hT.trans hU).trans ((Ext.add _).trans hV)
                                simp (disch := first | assumption | omega | (simp only [lens]; omega)) only [eqs, ↓gvd_succ, ↓gvd_zero, ↓and_of, im_of, im_of trivial, vals, lsts, tys, hP, hst, initS, Nat.reduceBEq, Nat.reduceAdd, Nat.reduceMul, Nat.reduceSub, Nat.reduceDiv, Nat.reduceMod, Nat.reducePow, Nat.reduceLT, Nat.reduceLeDiff, Nat.reduceEqDiff, Int.reduceAdd, Int.reduceSub, Int.reduceNeg, Int.reduceMul, Int.reduceToNat, Int.reducePow, Int.reduceLE, Int.reduceLT, Int.reduceEq, Int.reduceNe, reduceIte, reduceCtorEq, ne_eq, not_true_eq_false, not_false_eq_true, imp_self, implies_true, bls, eq_self]
                                refine C_bool (fun h5 => ?_) (fun h5 => ?_)
                                · have h5 : isM e = false := by simpa using h5
                                  simp (disch := first | assumption | omega | (simp only [lens]; omega)) only [eqs, ↓gvd_succ, ↓gvd_zero, ↓and_of, im_of, im_of trivial, vals, lsts, tys, hP, hst, initS, Nat.reduceBEq, Nat.reduceAdd, Nat.reduceMul, Nat.reduceSub, Nat.reduceDiv, Nat.reduceMod, Nat.reducePow, Nat.reduceLT, Nat.reduceLeDiff, Nat.reduceEqDiff, Int.reduceAdd, Int.reduceSub, Int.reduceNeg, Int.reduceMul, Int.reduceToNat, Int.reducePow, Int.reduceLE, Int.reduceLT, Int.reduceEq, Int.reduceNe, reduceIte, reduceCtorEq, ne_eq, not_true_eq_false, not_false_eq_true, imp_self, implies_true, bls, eq_self]
                                  exact no (hM.trans (hbad (isMs_bad (List.mem_of_getElem? he) h5))) _ eV
                                · have h5 : isM e = true := by simpa using h5
                                  simp (disch := first | assumption | omega | (simp only [lens]; omega)) only [eqs, ↓gvd_succ, ↓gvd_zero, ↓and_of, im_of, im_of trivial, vals, lsts, tys, hP, hst, initS, Nat.reduceBEq, Nat.reduceAdd, Nat.reduceMul, Nat.reduceSub, Nat.reduceDiv, Nat.reduceMod, Nat.reducePow, Nat.reduceLT, Nat.reduceLeDiff, Nat.reduceEqDiff, Int.reduceAdd, Int.reduceSub, Int.reduceNeg, Int.reduceMul, Int.reduceToNat, Int.reducePow, Int.reduceLE, Int.reduceLT, Int.reduceEq, Int.reduceNe, reduceIte, reduceCtorEq, ne_eq, not_true_eq_false, not_false_eq_true, imp_self, implies_true, bls, eq_self]
                                  refine again (i + 1, V) ⟨hU.trans ((Ext.add _).trans hV), by dsimp only; omega, by dsimp only; rw [htk, hs2, h5]; rfl⟩ (by dsimp only; omega) rfl (by dsimp only; simp (disch := first | assumption | omega | (simp only [lens]; omega)) only [eqs, ↓gvd_succ, ↓gvd_zero, ↓and_of, im_of, im_of trivial, vals, lsts, tys, hP, hst, initS, Nat.reduceBEq, Nat.reduceAdd, Nat.reduceMul, Nat.reduceSub, Nat.reduceDiv, Nat.reduceMod, Nat.reducePow, Nat.reduceLT, Nat.reduceLeDiff, Nat.reduceEqDiff, Int.reduceAdd, Int.reduceSub, Int.reduceNeg, Int.reduceMul, Int.reduceToNat, Int.reducePow, Int.reduceLE, Int.reduceLT, Int.reduceEq, Int.reduceNe, reduceIte, reduceCtorEq, ne_eq, not_true_eq_false, not_false_eq_true, imp_self, implies_true, bls, eq_self] <;> rfl)
                              · have hi2 : i = ds.length := by omega
                                subst hi2
                                rw [List.take_length] at hs2
                                simp (disch := first | assumption | omega | (simp only [lens]; omega)) only [eqs, ↓gvd_succ, ↓gvd_zero, ↓and_of, im_of, im_of trivial, vals, lsts, tys, hP, hst, initS, Nat.reduceBEq, Nat.reduceAdd, Nat.reduceMul, Nat.reduceSub, Nat.reduceDiv, Nat.reduceMod, Nat.reducePow, Nat.reduceLT, Nat.reduceLeDiff, Nat.reduceEqDiff, Int.reduceAdd, Int.reduceSub, Int.reduceNeg, Int.reduceMul, Int.reduceToNat, Int.reducePow, Int.reduceLE, Int.reduceLT, Int.reduceEq, Int.reduceNe, reduceIte, reduceCtorEq, ne_eq, not_true_eq_false, not_false_eq_true, imp_self, implies_true, bls, eq_self]
                                refine again (j + 1, U) ⟨hT.trans hU, by dsimp only; omega, by dsimp only; rw [hp, isMs_app, hs1, hs2]; rfl⟩ (by dsimp only; omega) rfl (by dsimp only; simp (disch := first | assumption | omega | (simp only [lens]; omega)) only [eqs, ↓gvd_succ, ↓gvd_zero, ↓and_of, im_of, im_of trivial, vals, lsts, tys, hP, hst, initS, Nat.reduceBEq, Nat.reduceAdd, Nat.reduceMul, Nat.reduceSub, Nat.reduceDiv, Nat.reduceMod, Nat.reducePow, Nat.reduceLT, Nat.reduceLeDiff, Nat.reduceEqDiff, Int.reduceAdd, Int.reduceSub, Int.reduceNeg, Int.reduceMul, Int.reduceToNat, Int.reducePow, Int.reduceLE, Int.reduceLT, Int.reduceEq, Int.reduceNe, reduceIte, reduceCtorEq, ne_eq, not_true_eq_false, not_false_eq_true, imp_self, implies_true, bls, eq_self] <;> rfl)
                            · rw [pre2_end _ _ (by omega), isMs_app] at hs1
                              simp (disch := first | assumption | omega | (simp only [lens]; omega)) only [eqs, ↓gvd_succ, ↓gvd_zero, ↓and_of, im_of, im_of trivial, vals, lsts, tys, hP, hst, initS, Nat.reduceBEq, Nat.reduceAdd, Nat.reduceMul, Nat.reduceSub, Nat.reduceDiv, Nat.reduceMod, Nat.reducePow, Nat.reduceLT, Nat.reduceLeDiff, Nat.reduceEqDiff, Int.reduceAdd, Int.reduceSub, Int.reduceNeg, Int.reduceMul, Int.reduceToNat, Int.reducePow, Int.reduceLE, Int.reduceLT, Int.reduceEq, Int.reduceNe, reduceIte, reduceCtorEq, ne_eq, not_true_eq_false, not_false_eq_true, imp_self, implies_true, bls, eq_self]
                              exact yes (hM.trans hs1) _ hT
                      · simp (disch := first | assumption | omega | (simp only [lens]; omega)) only [eqs, ↓gvd_succ, ↓gvd_zero, ↓and_of, im_of, im_of trivial, vals, lsts, tys, hP, hst, initS, Nat.reduceBEq, Nat.reduceAdd, Nat.reduceMul, Nat.reduceSub, Nat.reduceDiv, Nat.reduceMod, Nat.reducePow, Nat.reduceLT, Nat.reduceLeDiff, Nat.reduceEqDiff, Int.reduceAdd, Int.reduceSub, Int.reduceNeg, Int.reduceMul, Int.reduceToNat, Int.reducePow, Int.reduceLE, Int.reduceLT, Int.reduceEq, Int.reduceNe, reduceIte, reduceCtorEq, ne_eq, not_true_eq_false, not_false_eq_true, imp_self, implies_true, bls, eq_self, n1, n1m, l0, l0m, hs, la, lx, ly, sx2, sy2, ag, str_eq2, Bool.not_true, Bool.not_false]
                        exact no (by rw [isM_mk]; simp [n1, n1m, l0, l0m, hs]) _ (.add _)
                    · simp (disch := first | assumption | omega | (simp only [lens]; omega)) only [eqs, ↓gvd_succ, ↓gvd_zero, ↓and_of, im_of, im_of trivial, vals, lsts, tys, hP, hst, initS, Nat.reduceBEq, Nat.reduceAdd, Nat.reduceMul, Nat.reduceSub, Nat.reduceDiv, Nat.reduceMod, Nat.reducePow, Nat.reduceLT, Nat.reduceLeDiff, Nat.reduceEqDiff, Int.reduceAdd, Int.reduceSub, Int.reduceNeg, Int.reduceMul, Int.reduceToNat, Int.reducePow, Int.reduceLE, Int.reduceLT, Int.reduceEq, Int.reduceNe, reduceIte, reduceCtorEq, ne_eq, not_true_eq_false, not_false_eq_true, imp_self, implies_true, bls, eq_self, n1, n1m, l0, l0m, la, lx, ly, sx2, sy2, ag, str_eq2, Bool.not_true, Bool.not_false]
                      exact no (by rw [isM_mk]; simp [n1, n1m, l0, l0m]) _ (.add _)
                  · simp (disch := first | assumption | omega | (simp only [lens]; omega)) only [eqs, ↓gvd_succ, ↓gvd_zero, ↓and_of, im_of, im_of trivial, vals, lsts, tys, hP, hst, initS, Nat.reduceBEq, Nat.reduceAdd, Nat.reduceMul, Nat.reduceSub, Nat.reduceDiv, Nat.reduceMod, Nat.reducePow, Nat.reduceLT, Nat.reduceLeDiff, Nat.reduceEqDiff, Int.reduceAdd, Int.reduceSub, Int.reduceNeg, Int.reduceMul, Int.reduceToNat, Int.reducePow, Int.reduceLE, Int.reduceLT, Int.reduceEq, Int.reduceNe, reduceIte, reduceCtorEq, ne_eq, not_true_eq_false, not_false_eq_true, imp_self, implies_true, bls, eq_self, n1, n1m, l0, l0m, k0, k1, k2, k3, k4, k5, la, lx, ly, sx2, sy2, ag, str_eq2, Bool.not_true, Bool.not_false]
                    exact no (by rw [isM_mk]; simp [n1, n1m, l0, l0m, k0, k1, k2, k3, k4, k5]) _ (.add _)
      · have l0m : ¬l.length = 0 := by omega
        have l0n : ¬l = [] := fun h => l0m (by rw [h]; rfl)
        by_cases k0 : k = 0
        · subst k0
          simp (disch := first | assumption | omega | (simp only [lens]; omega)) only [eqs, ↓gvd_succ, ↓gvd_zero, ↓and_of, im_of, im_of trivial, vals, lsts, tys, hP, hst, initS, Nat.reduceBEq, Nat.reduceAdd, Nat.reduceMul, Nat.reduceSub, Nat.reduceDiv, Nat.reduceMod, Nat.reducePow, Nat.reduceLT, Nat.reduceLeDiff, Nat.reduceEqDiff, Int.reduceAdd, Int.reduceSub, Int.reduceNeg, Int.reduceMul, Int.reduceToNat, Int.reducePow, Int.reduceLE, Int.reduceLT, Int.reduceEq, Int.reduceNe, reduceIte, reduceCtorEq, ne_eq, not_true_eq_false, not_false_eq_true, imp_self, implies_true, bls, eq_self, n1, n1m, l0, l0m, l0n, la, lx, ly, sx2, sy2, ag, str_eq2, Bool.not_true, Bool.not_false]
          exact no (by rw [isM_mk]; simp [n1, n1m, l0, l0m, l0n]) _ (.add _)
        · by_cases k1 : k = 1
          · subst k1
            simp (disch := first | assumption | omega | (simp only [lens]; omega)) only [eqs, ↓gvd_succ, ↓gvd_zero, ↓and_of, im_of, im_of trivial, vals, lsts, tys, hP, hst, initS, Nat.reduceBEq, Nat.reduceAdd, Nat.reduceMul, Nat.reduceSub, Nat.reduceDiv, Nat.reduceMod, Nat.reducePow, Nat.reduceLT, Nat.reduceLeDiff, Nat.reduceEqDiff, Int.reduceAdd, Int.reduceSub, Int.reduceNeg, Int.reduceMul, Int.reduceToNat, Int.reducePow, Int.reduceLE, Int.reduceLT, Int.reduceEq, Int.reduceNe, reduceIte, reduceCtorEq, ne_eq, not_true_eq_false, not_false_eq_true, imp_self, implies_true, bls, eq_self, n1, n1m, l0, l0m, l0n, la, lx, ly, sx2, sy2, ag, str_eq2, Bool.not_true, Bool.not_false]
            exact no (by rw [isM_mk]; simp [n1, n1m, l0, l0m, l0n]) _ (.add _)
          · by_cases k2 : k = 2
            · subst k2
              simp (disch := first | assumption | omega | (simp only [lens]; omega)) only [eqs, ↓gvd_succ, ↓gvd_zero, ↓and_of, im_of, im_of trivial, vals, lsts, tys, hP, hst, initS, Nat.reduceBEq, Nat.reduceAdd, Nat.reduceMul, Nat.reduceSub, Nat.reduceDiv, Nat.reduceMod, Nat.reducePow, Nat.reduceLT, Nat.reduceLeDiff, Nat.reduceEqDiff, Int.reduceAdd, Int.reduceSub, Int.reduceNeg, Int.reduceMul, Int.reduceToNat, Int.reducePow, Int.reduceLE, Int.reduceLT, Int.reduceEq, Int.reduceNe, reduceIte, reduceCtorEq, ne_eq, not_true_eq_false, not_false_eq_true, imp_self, implies_true, bls, eq_self, n1, n1m, l0, l0m, l0n, la, lx, ly, sx2, sy2, ag, str_eq2, Bool.not_true, Bool.not_false]
              exact no (by rw [isM_mk]; simp [n1, n1m, l0, l0m, l0n]) _ (.add _)
            · by_cases k3 : k = 3
              · subst k3
                simp (disch := first | assumption | omega | (simp only [lens]; omega)) only [eqs, ↓gvd_succ, ↓gvd_zero, ↓and_of, im_of, im_of trivial, vals, lsts, tys, hP, hst, initS, Nat.reduceBEq, Nat.reduceAdd, Nat.reduceMul, Nat.reduceSub, Nat.reduceDiv, Nat.reduceMod, Nat.reducePow, Nat.reduceLT, Nat.reduceLeDiff, Nat.reduceEqDiff, Int.reduceAdd, Int.reduceSub, Int.reduceNeg, Int.reduceMul, Int.reduceToNat, Int.reducePow, Int.reduceLE, Int.reduceLT, Int.reduceEq, Int.reduceNe, reduceIte, reduceCtorEq, ne_eq, not_true_eq_false, not_false_eq_true, imp_self, implies_true, bls, eq_self, n1, n1m, l0, l0m, l0n, la, lx, ly, sx2, sy2, ag, str_eq2, Bool.not_true, Bool.not_false]
                exact no (by rw [isM_mk]; simp [n1, n1m, l0, l0m, l0n]) _ (.add _)
              · by_cases k4 : k = 4
                · subst k4
                  simp (disch := first | assumption | omega | (simp only [lens]; omega)) only [eqs, ↓gvd_succ, ↓gvd_zero, ↓and_of, im_of, im_of trivial, vals, lsts, tys, hP, hst, initS, Nat.reduceBEq, Nat.reduceAdd, Nat.reduceMul, Nat.reduceSub, Nat.reduceDiv, Nat.reduceMod, Nat.reducePow, Nat.reduceLT, Nat.reduceLeDiff, Nat.reduceEqDiff, Int.reduceAdd, Int.reduceSub, Int.reduceNeg, Int.reduceMul, Int.reduceToNat, Int.reducePow, Int.reduceLE, Int.reduceLT, Int.reduceEq, Int.reduceNe, reduceIte, reduceCtorEq, ne_eq, not_true_eq_false, not_false_eq_true, imp_self, implies_true, bls, eq_self, n1, n1m, l0, l0m, l0n, la, lx, ly, sx2, sy2, ag, str_eq2, Bool.not_true, Bool.not_false]
                  exact no (by rw [isM_mk]; simp [n1, n1m, l0, l0m, l0n]) _ (.add _)
                · by_cases k5 : k = 5
                  · subst k5
                    simp (disch := first | assumption | omega | (simp only [lens]; omega)) only [eqs, ↓gvd_succ, ↓gvd_zero, ↓and_of, im_of, im_of trivial, vals, lsts, tys, hP, hst, initS, Nat.reduceBEq, Nat.reduceAdd, Nat.reduceMul, Nat.reduceSub, Nat.reduceDiv, Nat.reduceMod, Nat.reducePow, Nat.reduceLT, Nat.reduceLeDiff, Nat.reduceEqDiff, Int.reduceAdd, Int.reduceSub, Int.reduceNeg, Int.reduceMul, Int.reduceToNat, Int.reducePow, Int.reduceLE, Int.reduceLT, Int.reduceEq, Int.reduceNe, reduceIte, reduceCtorEq, ne_eq, not_true_eq_false, not_false_eq_true, imp_self, implies_true, bls, eq_self, n1, n1m, l0, l0m, l0n, la, lx, ly, sx2, sy2, ag, str_eq2, Bool.not_true, Bool.not_false]
                    exact no (by rw [isM_mk]; simp [n1, n1m, l0, l0m, l0n]) _ (.add _)
                  · simp (disch := first | assumption | omega | (simp only [lens]; omega)) only [eqs, ↓gvd_succ, ↓gvd_zero, ↓and_of, im_of, im_of trivial, vals, lsts, tys, hP, hst, initS, Nat.reduceBEq, Nat.reduceAdd, Nat.reduceMul, Nat.reduceSub, Nat.reduceDiv, Nat.reduceMod, Nat.reducePow, Nat.reduceLT, Nat.reduceLeDiff, Nat.reduceEqDiff, Int.reduceAdd, Int.reduceSub, Int.reduceNeg, Int.reduceMul, Int.reduceToNat, Int.reducePow, Int.reduceLE, Int.reduceLT, Int.reduceEq, Int.reduceNe, reduceIte, reduceCtorEq, ne_eq, not_true_eq_false, not_false_eq_true, imp_self, implies_true, bls, eq_self, n1, n1m, l0, l0m, l0n, k0, k1, k2, k3, k4, k5, la, lx, ly, sx2, sy2, ag, str_eq2, Bool.not_true, Bool.not_false]
                    exact no (by rw [isM_mk]; simp [n1, n1m, l0, l0m, l0n, k0, k1, k2, k3, k4, k5]) _ (.add _)
    · by_cases k0 : k = 0
      · subst k0
        simp (disch := first | assumption | omega | (simp only [lens]; omega)) only [eqs, ↓gvd_succ, ↓gvd_zero, ↓and_of, im_of, im_of trivial, vals, lsts, tys, hP, hst, initS, Nat.reduceBEq, Nat.reduceAdd, Nat.reduceMul, Nat.reduceSub, Nat.reduceDiv, Nat.reduceMod, Nat.reducePow, Nat.reduceLT, Nat.reduceLeDiff, Nat.reduceEqDiff, Int.reduceAdd, Int.reduceSub, Int.reduceNeg, Int.reduceMul, Int.reduceToNat, Int.reducePow, Int.reduceLE, Int.reduceLT, Int.reduceEq, Int.reduceNe, reduceIte, reduceCtorEq, ne_eq, not_true_eq_false, not_false_eq_true, imp_self, implies_true, bls, eq_self, n1, n1m, la, lx, ly, sx2, sy2, ag, str_eq2, Bool.not_true, Bool.not_false]
        exact no (by rw [isM_mk]; simp [n1, n1m]) _ (.add _)
      · by_cases k1 : k = 1
        · subst k1
          simp (disch := first | assumption | omega | (simp only [lens]; omega)) only [eqs, ↓gvd_succ, ↓gvd_zero, ↓and_of, im_of, im_of trivial, vals, lsts, tys, hP, hst, initS, Nat.reduceBEq, Nat.reduceAdd, Nat.reduceMul, Nat.reduceSub, Nat.reduceDiv, Nat.reduceMod, Nat.reducePow, Nat.reduceLT, Nat.reduceLeDiff, Nat.reduceEqDiff, Int.reduceAdd, Int.reduceSub, Int.reduceNeg, Int.reduceMul, Int.reduceToNat, Int.reducePow, Int.reduceLE, Int.reduceLT, Int.reduceEq, Int.reduceNe, reduceIte, reduceCtorEq, ne_eq, not_true_eq_false, not_false_eq_true, imp_self, implies_true, bls, eq_self, n1, n1m, la, lx, ly, sx2, sy2, ag, str_eq2, Bool.not_true, Bool.not_false]
          exact no (by rw [isM_mk]; simp [n1, n1m]) _ (.add _)
        · by_cases k2 : k = 2
          · subst k2
            simp (disch := first | assumption | omega | (simp only [lens]; omega)) only [eqs, ↓gvd_succ, ↓gvd_zero, ↓and_of, im_of, im_of trivial, vals, lsts, tys, hP, hst, initS, Nat.reduceBEq, Nat.reduceAdd, Nat.reduceMul, Nat.reduceSub, Nat.reduceDiv, Nat.reduceMod, Nat.reducePow, Nat.reduceLT, Nat.reduceLeDiff, Nat.reduceEqDiff, Int.reduceAdd, Int.reduceSub, Int.reduceNeg, Int.reduceMul, Int.reduceToNat, Int.reducePow, Int.reduceLE, Int.reduceLT, Int.reduceEq, Int.reduceNe, reduceIte, reduceCtorEq, ne_eq, not_true_eq_false, not_false_eq_true, imp_self, implies_true, bls, eq_self, n1, n1m, la, lx, ly, sx2, sy2, ag, str_eq2, Bool.not_true, Bool.not_false]
            exact no (by rw [isM_mk]; simp [n1, n1m]) _ (.add _)
          · by_cases k3 : k = 3
            · subst k3
              simp (disch := first | assumption | omega | (simp only [lens]; omega)) only [eqs, ↓gvd_succ, ↓gvd_zero, ↓and_of, im_of, im_of trivial, vals, lsts, tys, hP, hst, initS, Nat.reduceBEq, Nat.reduceAdd, Nat.reduceMul, Nat.reduceSub, Nat.reduceDiv, Nat.reduceMod, Nat.reducePow, Nat.reduceLT, Nat.reduceLeDiff, Nat.reduceEqDiff, Int.reduceAdd, Int.reduceSub, Int.reduceNeg, Int.reduceMul, Int.reduceToNat, Int.reducePow, Int.reduceLE, Int.reduceLT, Int.reduceEq, Int.reduceNe, reduceIte, reduceCtorEq, ne_eq, not_true_eq_false, not_false_eq_true, imp_self, implies_true, bls, eq_self, n1, n1m, la, lx, ly, sx2, sy2, ag, str_eq2, Bool.not_true, Bool.not_false]
              exact no (by rw [isM_mk]; simp [n1, n1m]) _ (.add _)
            · by_cases k4 : k = 4
              · subst k4
                simp (disch := first | assumption | omega | (simp only [lens]; omega)) only [eqs, ↓gvd_succ, ↓gvd_zero, ↓and_of, im_of, im_of trivial, vals, lsts, tys, hP, hst, initS, Nat.reduceBEq, Nat.reduceAdd, Nat.reduceMul, Nat.reduceSub, Nat.reduceDiv, Nat.reduceMod, Nat.reducePow, Nat.reduceLT, Nat.reduceLeDiff, Nat.reduceEqDiff, Int.reduceAdd, Int.reduceSub, Int.reduceNeg, Int.reduceMul, Int.reduceToNat, Int.reducePow, Int.reduceLE, Int.reduceLT, Int.reduceEq, Int.reduceNe, reduceIte, reduceCtorEq, ne_eq, not_true_eq_false, not_false_eq_true, imp_self, implies_true, bls, eq_self, n1, n1m, la, lx, ly, sx2, sy2, ag, str_eq2, Bool.not_true, Bool.not_false]
                exact no (by rw [isM_mk]; simp [n1, n1m]) _ (.add _)
              · by_cases k5 : k = 5
                · subst k5
                  simp (disch := first | assumption | omega | (simp only [lens]; omega)) only [eqs, ↓gvd_succ, ↓gvd_zero, ↓and_of, im_of, im_of trivial, vals, lsts, tys, hP, hst, initS, Nat.reduceBEq, Nat.reduceAdd, Nat.reduceMul, Nat.reduceSub, Nat.reduceDiv, Nat.reduceMod, Nat.reducePow, Nat.reduceLT, Nat.reduceLeDiff, Nat.reduceEqDiff, Int.reduceAdd, Int.reduceSub, Int.reduceNeg, Int.reduceMul, Int.reduceToNat, Int.reducePow, Int.reduceLE, Int.reduceLT, Int.reduceEq, Int.reduceNe, reduceIte, reduceCtorEq, ne_eq, not_true_eq_false, not_false_eq_true, imp_self, implies_true, bls, eq_self, n1, n1m, la, lx, ly, sx2, sy2, ag, str_eq2, Bool.not_true, Bool.not_false]
                  exact no (by rw [isM_mk]; simp [n1, n1m]) _ (.add _)
                · simp (disch := first | assumption | omega | (simp only [lens]; omega)) only [eqs, ↓gvd_succ, ↓gvd_zero, ↓and_of, im_of, im_of trivial, vals, lsts, tys, hP, hst, initS, Nat.reduceBEq, Nat.reduceAdd, Nat.reduceMul, Nat.reduceSub, Nat.reduceDiv, Nat.reduceMod, Nat.reducePow, Nat.reduceLT, Nat.reduceLeDiff, Nat.reduceEqDiff, Int.reduceAdd, Int.reduceSub, Int.reduceNeg, Int.reduceMul, Int.reduceToNat, Int.reducePow, Int.reduceLE, Int.reduceLT, Int.reduceEq, Int.reduceNe, reduceIte, reduceCtorEq, ne_eq, not_true_eq_false, not_false_eq_true, imp_self, implies_true, bls, eq_self, n1, n1m, k0, k1, k2, k3, k4, k5, la, lx, ly, sx2, sy2, ag, str_eq2, Bool.not_true, Bool.not_false]
                  exact no (by rw [isM_mk]; simp [n1, n1m, k0, k1, k2, k3, k4, k5]) _ (.add _)
def RGood3 (xs : List AV) (st : St) (K : AV → St → Prop) : Prop := ∃ x d, xs = [x] ∧ DA st x d ∧ d.fit ∧ anyw st (.bool (decide (d.sz ≤ 5000 ∧ d.dp ≤ 200) && isM d)) K
theorem s_Good3 : PSpec Tryd.prog 27 RGood3 := by
  refine fspec_of (fn := Tryd.f27) 1 [.tmp 2] (by kernel_rfl) rfl rfl (by kernel_rfl) mixed (by rintro _ _ _ ⟨x, d, rfl, _⟩; rfl) ?_
  rintro X _ st K hP hst ⟨x, d, rfl, hx, hf, hK⟩
  have hX : X.st1.length ≤ st.length := by rw [hst]; omega
  obtain ⟨c, rfl, hc⟩ := hx
  have hca := hc.all
  have hc7 := hc.len
  have t7 := List.take_of_length_le (Nat.le_of_eq hc7)
  refine vc_V ?_
  simp (disch := first | assumption | omega | (simp only [lens]; omega)) only [eqs, ↓gvd_succ, ↓gvd_zero, ↓and_of, im_of, im_of trivial, vals, lsts, tys, hP, hst, initS, Nat.reduceBEq, Nat.reduceAdd, Nat.reduceMul, Nat.reduceSub, Nat.reduceDiv, Nat.reduceMod, Nat.reducePow, Nat.reduceLT, Nat.reduceLeDiff, Nat.reduceEqDiff, Int.reduceAdd, Int.reduceSub, Int.reduceNeg, Int.reduceMul, Int.reduceToNat, Int.reducePow, Int.reduceLE, Int.reduceLT, Int.reduceEq, Int.reduceNe, reduceIte, reduceCtorEq, ne_eq, not_true_eq_false, not_false_eq_true, imp_self, implies_true, bls, eq_self, hca, hc7, t7]
  refine E_call (hP ▸ s_Small3) ⟨_, d, 5000, 200, rfl, ⟨c, rfl, hc.ext (.add _)⟩, by omega, by omega, fun T hT => ?_⟩
  have e0 : Ext st T := (Ext.add _).trans hT
  have gA := (At.mk0.ext hT).get
  simp (disch := first | assumption | omega | (simp only [lens]; omega)) only [eqs, ↓gvd_succ, ↓gvd_zero, ↓and_of, im_of, im_of trivial, vals, lsts, tys, hP, hst, initS, Nat.reduceBEq, Nat.reduceAdd, Nat.reduceMul, Nat.reduceSub, Nat.reduceDiv, Nat.reduceMod, Nat.reducePow, Nat.reduceLT, Nat.reduceLeDiff, Nat.reduceEqDiff, Int.reduceAdd, Int.reduceSub, Int.reduceNeg, Int.reduceMul, Int.reduceToNat, Int.reducePow, Int.reduceLE, Int.reduceLT, Int.reduceEq, Int.reduceNe, reduceIte, reduceCtorEq, ne_eq, not_true_eq_false, not_false_eq_true, imp_self, implies_true, bls, eq_self]
  refine G_dec (fun h1 => ?_) (fun h1 => ?_)
  rotate_left
  · simp (disch := first | assumption | omega | (simp only [lens]; omega)) only [eqs, ↓gvd_succ, ↓gvd_zero, ↓and_of, im_of, im_of trivial, vals, lsts, tys, hP, hst, initS, Nat.reduceBEq, Nat.reduceAdd, Nat.reduceMul, Nat.reduceSub, Nat.reduceDiv, Nat.reduceMod, Nat.reducePow, Nat.reduceLT, Nat.reduceLeDiff, Nat.reduceEqDiff, Int.reduceAdd, Int.reduceSub, Int.reduceNeg, Int.reduceMul, Int.reduceToNat, Int.reducePow, Int.reduceLE, Int.reduceLT, Int.reduceEq, Int.reduceNe, reduceIte, reduceCtorEq, ne_eq, not_true_eq_false, not_false_eq_true, imp_self, implies_true, bls, eq_self, h1]
    rw [decide_eq_false h1] at hK
    exact hK _ e0
  simp (disch := first | assumption | omega | (simp only [lens]; omega)) only [eqs, ↓gvd_succ, ↓gvd_zero, ↓and_of, im_of, im_of trivial, vals, lsts, tys, hP, hst, initS, Nat.reduceBEq, Nat.reduceAdd, Nat.reduceMul, Nat.reduceSub, Nat.reduceDiv, Nat.reduceMod, Nat.reducePow, Nat.reduceLT, Nat.reduceLeDiff, Nat.reduceEqDiff, Int.reduceAdd, Int.reduceSub, Int.reduceNeg, Int.reduceMul, Int.reduceToNat, Int.reducePow, Int.reduceLE, Int.reduceLT, Int.reduceEq, Int.reduceNe, reduceIte, reduceCtorEq, ne_eq, not_true_eq_false, not_false_eq_true, imp_self, implies_true, bls, eq_self, h1, gA, hc7, t7]
  refine E_call (hP ▸ s_is3 (d.sz + 1)) ⟨_, d, rfl, ⟨c, rfl, hc.ext e0⟩, by omega, by omega, hf, fun T2 hT2 => ?_⟩
  simp (disch := first | assumption | omega | (simp only [lens]; omega)) only [eqs, ↓gvd_succ, ↓gvd_zero, ↓and_of, im_of, im_of trivial, vals, lsts, tys, hP, hst, initS, Nat.reduceBEq, Nat.reduceAdd, Nat.reduceMul, Nat.reduceSub, Nat.reduceDiv, Nat.reduceMod, Nat.reducePow, Nat.reduceLT, Nat.reduceLeDiff, Nat.reduceEqDiff, Int.reduceAdd, Int.reduceSub, Int.reduceNeg, Int.reduceMul, Int.reduceToNat, Int.reducePow, Int.reduceLE, Int.reduceLT, Int.reduceEq, Int.reduceNe, reduceIte, reduceCtorEq, ne_eq, not_true_eq_false, not_false_eq_true, imp_self, implies_true, bls, eq_self]
  rw [decide_eq_true h1] at hK
  exact hK _ (e0.trans hT2)
end Go.Proofs.Pv
