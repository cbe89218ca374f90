/- The laws of whole numbers, fourth part. -/
import Derived.Test.YtdaidpomfkgbeaaK2
import Derived.Test.YtdaidpomfkgbeaaM7
import Derived.Test.YtdaidpomfkgbeaaW15
set_option linter.unusedSimpArgs false
set_option linter.unusedVariables false
namespace Go.Proofs.Pv
open Go Go.RowKit Go.Proofs
set_option maxRecDepth 20000

def RzGcd (xs : List AV) (st : St) (K : AV → St → Prop) : Prop := ∃ x y z w n m, xs = [x, y] ∧ IsZ st x z n ∧ IsZ st y w m ∧ n ≤ 800 ∧ m ≤ 800 ∧ ∀ v S', Ext st S' → NZ S' v (Nat.gcd z.natAbs w.natAbs : Nat) (n + m) → K v S'
theorem gcd_len {a b n m : Nat} (h1 : (limbs a).length ≤ n) (h2 : (limbs b).length ≤ m) : (limbs (Nat.gcd a b)).length ≤ n + m := by
  rcases Nat.eq_zero_or_pos a with h | h
  · subst h; rw [Nat.gcd_zero_left]; omega
  · have := limbs_len_mono (Nat.gcd_le_left b h); omega
theorem z_Gcd : PSpec Try.prog 54 RzGcd := s_wGcd.imp2 fun xs st K ⟨x, y, z, w, n, m, e, hx, hy, hn, hm, hK⟩ => by
  have h1 := gcd_len hx.len hy.len
  obtain ⟨s, l, hx, rfl, h3⟩ := hx
  obtain ⟨t, k, hy, rfl, h4⟩ := hy
  refine ⟨x, y, s, t, l, k, e, hx, hy, by omega, by omega, fun v S' hv => ?_⟩
  rw [iv_natAbs, iv_natAbs] at h1 hK
  exact hK v S' hv.ex (.mk hv h1)
def RzRoot (xs : List AV) (st : St) (K : AV → St → Prop) : Prop := ∃ x z n, xs = [x] ∧ IsZ st x z n ∧ n ≤ 100 ∧ (z < 0 → ∀ S', Ext st S' → K (.tup [zeroI, zeroI, .val (.int .i64 2)]) S') ∧
  (0 ≤ z → ∀ r q : Nat, (r : Int) * r + q = z → z < ((r : Int) + 1) * (r + 1) → ∀ u w S', Ext st S' → NZ S' u r n → NZ S' w q n → K (.tup [u, w, .val (.int .i64 0)]) S')
theorem z_Root : PSpec Try.prog 63 RzRoot := s_wRoot.imp2 fun xs st K ⟨x, z, n, e, hx, hn, hK0, hK⟩ => by
  have h1 := hx.len
  obtain ⟨s, l, hx, rfl, h3⟩ := hx
  rw [iv_natAbs] at h1
  refine ⟨x, s, l, e, hx, by omega, hK0, fun h0 u w S' hu hw => ?_⟩
  have hr := isqrt_root (val l)
  generalize isqrt (val l) = r at *
  have hv : iv s (val l) = val l := by have := iv_natAbs (s := s) (a := val l); omega
  have h5 : r ≤ r * r := by rcases Nat.eq_zero_or_pos r with h | h; · subst h; simp
                            · exact Nat.le_mul_of_pos_left r h
  have h6 : ((r * r : Nat) : Int) = (r : Int) * r := by simp
  have h7 : (((r + 1) * (r + 1) : Nat) : Int) = ((r : Int) + 1) * (r + 1) := by simp
  have h8 : (limbs r).length ≤ n := Nat.le_trans (limbs_len_mono (by have := hr.1; omega)) h1
  have h9 : (limbs (val l - r * r)).length ≤ n := Nat.le_trans (limbs_len_mono (Nat.sub_le _ _)) h1
  exact hK h0 r (val l - r * r) (by rw [← h6, hv]; have := hr.1; omega) (by rw [← h7, hv]; exact Int.ofNat_lt.2 hr.2) u w S' hu.ex (.mk hu h8) (.mk hw h9)
theorem gcd_tmod {z : Int} {g : Nat} (h : g ∣ z.natAbs) : z.tmod g = 0 := Int.tmod_eq_zero_of_dvd (Int.ofNat_dvd_left.2 h)
theorem gcd_quo {a b : Int} {g : Nat} (hg : Nat.gcd a.natAbs b.natAbs = g) (h : g ≠ 0) : Nat.gcd (a.tdiv g).natAbs (b.tdiv g).natAbs = 1 := by
  rw [Int.natAbs_tdiv, Int.natAbs_tdiv, Int.natAbs_natCast]
  show Nat.gcd (a.natAbs / g) (b.natAbs / g) = 1
  rw [Nat.gcd_div (hg ▸ Nat.gcd_dvd_left _ _) (hg ▸ Nat.gcd_dvd_right _ _), hg]
  exact Nat.div_self (by omega)
theorem nat_sgn {g : Nat} : decide ((g : Int) < 0) = false := decide_eq_false (by omega)
/-- Nought has no limbs. -/
theorem nz_nil {T : St} {b : Bool} {p : AV} {n : Nat} (h : NZ T (.agg [.val (.bool b), p]) 0 n) : sl 1 T p = some (0, []) := by
  obtain ⟨⟨a, h1, h2⟩, _⟩ := h
  simp only [AV.agg.injEq, List.cons.injEq, and_true] at h1
  obtain ⟨_, rfl⟩ := h1
  have := h2.sl
  rw [show (0 : Int).natAbs = 0 from rfl, limbs_zero] at this
  exact this
theorem zsum : IntKind.i64.wrap (((0 : Nat) : Int) + ((0 : Nat) : Int)) = 0 := by decide
def RkWholeGcds (xs : List AV) (st : St) (K : AV → St → Prop) : Prop := ∃ x y s t l m, xs = [x, y] ∧ Wh st x s l ∧ Wh st y t m ∧ anyw st (.bool true) K
set_option maxHeartbeats 4000000 in
theorem s_WholeGcds : PSpec Try.prog 16 RkWholeGcds := by
  refine fspec_of (fn := Try.f16) 2 [.tmp 4] (by kernel_rfl) rfl rfl (by kernel_rfl) mixed (by rintro _ _ _ ⟨x, y, s, t, l, m, rfl, _⟩; rfl) ?_
  rintro X _ st K hP hst ⟨x, y, s, t, l, m, rfl, hx, hy, hK⟩
  have hx1 := hx
  have hy1 := hy
  obtain ⟨a, rfl, ha, hal⟩ := hx.iv
  obtain ⟨b, rfl, hb, hbl⟩ := hy.iv
  refine vc_V ?_
  simp (disch := first | assumption | omega | (simp only [lens]; omega)) only [eqs, ↓gvd_succ, ↓gvd_zero, ↓and_of, im_of, im_of trivial, vals, lsts, tys, hP, hst, initS, Nat.reduceBEq, Nat.reduceAdd, Nat.reduceMul, Nat.reduceSub, Nat.reduceDiv, Nat.reduceMod, Nat.reducePow, Nat.reduceLT, Nat.reduceLeDiff, Nat.reduceEqDiff, Int.reduceAdd, Int.reduceSub, Int.reduceNeg, Int.reduceMul, Int.reduceToNat, Int.reducePow, Int.reduceLE, Int.reduceLT, Int.reduceEq, Int.reduceNe, reduceIte, reduceCtorEq, ne_eq, not_true_eq_false, not_false_eq_true, true_and, and_true, and_self, true_implies, imp_self, implies_true, decide_true, decide_false, Bool.not_true, Bool.not_false, Bool.and_true, Bool.and_false, Bool.true_and, Bool.false_and, Bool.and_self, decide_eq_true_eq, eq_self, hal, hbl, zrow2i]
  refine E_call (hP ▸ s_ksmall2) ⟨_, s, t, a, b, l, m, rfl, by rw [get_app]; rfl, ha.app _, hb.app _, fun T0 hT0 => ?_⟩
  have e0 : Ext st T0 := (Ext.add _).trans hT0
  have hA : At T0 (st.length) [.val (.bool s), a] := At.ext ⟨by rw [get_app0]; rfl⟩ hT0
  have hB : At T0 (st.length + 1) [.val (.bool t), b] := At.ext ⟨by rw [get_app]; rfl⟩ hT0
  have sA := (ha.ext e0).sl
  have sB := (hb.ext e0).sl
  have gA := hA.get
  have gB := hB.get
  simp (disch := first | assumption | omega | (simp only [lens]; omega)) only [eqs, ↓gvd_succ, ↓gvd_zero, ↓and_of, im_of, im_of trivial, vals, lsts, tys, hP, hst, initS, Nat.reduceBEq, Nat.reduceAdd, Nat.reduceMul, Nat.reduceSub, Nat.reduceDiv, Nat.reduceMod, Nat.reducePow, Nat.reduceLT, Nat.reduceLeDiff, Nat.reduceEqDiff, Int.reduceAdd, Int.reduceSub, Int.reduceNeg, Int.reduceMul, Int.reduceToNat, Int.reducePow, Int.reduceLE, Int.reduceLT, Int.reduceEq, Int.reduceNe, reduceIte, reduceCtorEq, ne_eq, not_true_eq_false, not_false_eq_true, true_and, and_true, and_self, true_implies, imp_self, implies_true, decide_true, decide_false, Bool.not_true, Bool.not_false, Bool.and_true, Bool.and_false, Bool.true_and, Bool.false_and, Bool.and_self, decide_eq_true_eq, eq_self]
  refine G_ndec (fun h => ?_) (fun h => ?_)
  · have h := Classical.not_not.1 h
    have hl := h.1
    have hm := h.2
    simp (disch := first | assumption | omega | (simp only [lens]; omega)) only [eqs, ↓gvd_succ, ↓gvd_zero, ↓and_of, im_of, im_of trivial, vals, lsts, tys, hP, hst, initS, Nat.reduceBEq, Nat.reduceAdd, Nat.reduceMul, Nat.reduceSub, Nat.reduceDiv, Nat.reduceMod, Nat.reducePow, Nat.reduceLT, Nat.reduceLeDiff, Nat.reduceEqDiff, Int.reduceAdd, Int.reduceSub, Int.reduceNeg, Int.reduceMul, Int.reduceToNat, Int.reducePow, Int.reduceLE, Int.reduceLT, Int.reduceEq, Int.reduceNe, reduceIte, reduceCtorEq, ne_eq, not_true_eq_false, not_false_eq_true, true_and, and_true, and_self, true_implies, imp_self, implies_true, decide_true, decide_false, Bool.not_true, Bool.not_false, Bool.and_true, Bool.and_false, Bool.true_and, Bool.false_and, Bool.and_self, decide_eq_true_eq, eq_self, gA, gB, sA, sB, h, hl, hm]
    refine G_ndec (fun h2 => ?_) (fun h2 => ?_)
    · simp (disch := first | assumption | omega | (simp only [lens]; omega)) only [eqs, ↓gvd_succ, ↓gvd_zero, ↓and_of, im_of, im_of trivial, vals, lsts, tys, hP, hst, initS, Nat.reduceBEq, Nat.reduceAdd, Nat.reduceMul, Nat.reduceSub, Nat.reduceDiv, Nat.reduceMod, Nat.reducePow, Nat.reduceLT, Nat.reduceLeDiff, Nat.reduceEqDiff, Int.reduceAdd, Int.reduceSub, Int.reduceNeg, Int.reduceMul, Int.reduceToNat, Int.reducePow, Int.reduceLE, Int.reduceLT, Int.reduceEq, Int.reduceNe, reduceIte, reduceCtorEq, ne_eq, not_true_eq_false, not_false_eq_true, true_and, and_true, and_self, true_implies, imp_self, implies_true, decide_true, decide_false, Bool.not_true, Bool.not_false, Bool.and_true, Bool.and_false, Bool.true_and, Bool.false_and, Bool.and_self, decide_eq_true_eq, eq_self, gA, gB, sA, sB, h, hl, hm, h2]
      refine C_dec (fun h3 => ?_) (fun h3 => ?_)
      · simp (disch := first | assumption | omega | (simp only [lens]; omega)) only [eqs, ↓gvd_succ, ↓gvd_zero, ↓and_of, im_of, im_of trivial, vals, lsts, tys, hP, hst, initS, Nat.reduceBEq, Nat.reduceAdd, Nat.reduceMul, Nat.reduceSub, Nat.reduceDiv, Nat.reduceMod, Nat.reducePow, Nat.reduceLT, Nat.reduceLeDiff, Nat.reduceEqDiff, Int.reduceAdd, Int.reduceSub, Int.reduceNeg, Int.reduceMul, Int.reduceToNat, Int.reducePow, Int.reduceLE, Int.reduceLT, Int.reduceEq, Int.reduceNe, reduceIte, reduceCtorEq, ne_eq, not_true_eq_false, not_false_eq_true, true_and, and_true, and_self, true_implies, imp_self, implies_true, decide_true, decide_false, Bool.not_true, Bool.not_false, Bool.and_true, Bool.and_false, Bool.true_and, Bool.false_and, Bool.and_self, decide_eq_true_eq, eq_self]
        refine E_call (hP ▸ s_klives) ⟨rfl, fun T1 hT1 => ?_⟩
        simp (disch := first | assumption | omega | (simp only [lens]; omega)) only [eqs, ↓gvd_succ, ↓gvd_zero, ↓and_of, im_of, im_of trivial, vals, lsts, tys, hP, hst, initS, Nat.reduceBEq, Nat.reduceAdd, Nat.reduceMul, Nat.reduceSub, Nat.reduceDiv, Nat.reduceMod, Nat.reducePow, Nat.reduceLT, Nat.reduceLeDiff, Nat.reduceEqDiff, Int.reduceAdd, Int.reduceSub, Int.reduceNeg, Int.reduceMul, Int.reduceToNat, Int.reducePow, Int.reduceLE, Int.reduceLT, Int.reduceEq, Int.reduceNe, reduceIte, reduceCtorEq, ne_eq, not_true_eq_false, not_false_eq_true, true_and, and_true, and_self, true_implies, imp_self, implies_true, decide_true, decide_false, Bool.not_true, Bool.not_false, Bool.and_true, Bool.and_false, Bool.true_and, Bool.false_and, Bool.and_self, decide_eq_true_eq, eq_self]
        exact hK _ (e0.trans hT1)
      · have h := h
        have hX : IsZ st _ _ 24 := .mk hx1 h.1
        obtain ⟨Zx, hZx⟩ : ∃ Z, iv s (val l) = Z := ⟨_, rfl⟩
        rw [hZx] at hX
        have hY : IsZ st _ _ 24 := .mk hy1 h.2
        obtain ⟨Zy, hZy⟩ : ∃ Z, iv t (val m) = Z := ⟨_, rfl⟩
        rw [hZy] at hY
        have gA := (hA.ext Ext.refl).get
        have gB := (hB.ext Ext.refl).get
        simp (disch := first | assumption | omega | (simp only [lens]; omega)) only [eqs, ↓gvd_succ, ↓gvd_zero, ↓and_of, im_of, im_of trivial, vals, lsts, tys, hP, hst, initS, Nat.reduceBEq, Nat.reduceAdd, Nat.reduceMul, Nat.reduceSub, Nat.reduceDiv, Nat.reduceMod, Nat.reducePow, Nat.reduceLT, Nat.reduceLeDiff, Nat.reduceEqDiff, Int.reduceAdd, Int.reduceSub, Int.reduceNeg, Int.reduceMul, Int.reduceToNat, Int.reducePow, Int.reduceLE, Int.reduceLT, Int.reduceEq, Int.reduceNe, reduceIte, reduceCtorEq, ne_eq, not_true_eq_false, not_false_eq_true, true_and, and_true, and_self, true_implies, imp_self, implies_true, decide_true, decide_false, Bool.not_true, Bool.not_false, Bool.and_true, Bool.and_false, Bool.true_and, Bool.false_and, Bool.and_self, decide_eq_true_eq, eq_self, gA, gB]
        refine E_call (hP ▸ z_Gcd) ⟨_, _, _, _, _, _, rfl, (hX.ext e0), (hY.ext e0), by omega, by omega, fun vG T1 e1 hG => ?_⟩
        obtain ⟨g, hg⟩ : ∃ g, Nat.gcd Zx.natAbs Zy.natAbs = g := ⟨_, rfl⟩
        rw [hg] at hG
        obtain ⟨pG, rfl, nG⟩ := hG.1
        have lG := nG.leaf
        rw [nat_sgn (g := g)] at hG ⊢
        have q1 := (e0.trans e1).len
        have gA := (hA.ext e1).get
        have gB := (hB.ext e1).get
        simp (disch := first | assumption | omega | (simp only [lens]; omega)) only [eqs, ↓gvd_succ, ↓gvd_zero, ↓and_of, im_of, im_of trivial, vals, lsts, tys, hP, hst, initS, Nat.reduceBEq, Nat.reduceAdd, Nat.reduceMul, Nat.reduceSub, Nat.reduceDiv, Nat.reduceMod, Nat.reducePow, Nat.reduceLT, Nat.reduceLeDiff, Nat.reduceEqDiff, Int.reduceAdd, Int.reduceSub, Int.reduceNeg, Int.reduceMul, Int.reduceToNat, Int.reducePow, Int.reduceLE, Int.reduceLT, Int.reduceEq, Int.reduceNe, reduceIte, reduceCtorEq, ne_eq, not_true_eq_false, not_false_eq_true, true_and, and_true, and_self, true_implies, imp_self, implies_true, decide_true, decide_false, Bool.not_true, Bool.not_false, Bool.and_true, Bool.and_false, Bool.true_and, Bool.false_and, Bool.and_self, decide_eq_true_eq, eq_self, gA, gB, lG, q1]
        obtain ⟨T2, hT2⟩ : ∃ S, T1 ++ [some [.val (.bool false), pG]] = S := ⟨_, rfl⟩
        have e2 : Ext T1 T2 := ⟨_, hT2.symm⟩
        have hG_ : At T2 (T1.length) [.val (.bool false), pG] := ⟨hT2 ▸ by rw [get_app0]; rfl⟩
        rw [hT2]
        clear hT2
        refine E_call (hP ▸ z_Of) ⟨1, rfl, by omega, by omega, fun vO T3 e3 hO => ?_⟩
        obtain ⟨pO, rfl, nO⟩ := hO.1
        have lO := nO.leaf
        have hO : NZ T3 (.agg [.val (.bool false), pO]) 1 _ := hO
        have q3 := (e0.trans (e1.trans (e2.trans e3))).len
        have gA := (hA.ext (e1.trans (e2.trans e3))).get
        have gB := (hB.ext (e1.trans (e2.trans e3))).get
        have gG_ := (hG_.ext e3).get
        simp (disch := first | assumption | omega | (simp only [lens]; omega)) only [eqs, ↓gvd_succ, ↓gvd_zero, ↓and_of, im_of, im_of trivial, vals, lsts, tys, hP, hst, initS, Nat.reduceBEq, Nat.reduceAdd, Nat.reduceMul, Nat.reduceSub, Nat.reduceDiv, Nat.reduceMod, Nat.reducePow, Nat.reduceLT, Nat.reduceLeDiff, Nat.reduceEqDiff, Int.reduceAdd, Int.reduceSub, Int.reduceNeg, Int.reduceMul, Int.reduceToNat, Int.reducePow, Int.reduceLE, Int.reduceLT, Int.reduceEq, Int.reduceNe, reduceIte, reduceCtorEq, ne_eq, not_true_eq_false, not_false_eq_true, true_and, and_true, and_self, true_implies, imp_self, implies_true, decide_true, decide_false, Bool.not_true, Bool.not_false, Bool.and_true, Bool.and_false, Bool.true_and, Bool.false_and, Bool.and_self, decide_eq_true_eq, eq_self, gA, gB, gG_, lO, q3]
        obtain ⟨T4, hT4⟩ : ∃ S, T3 ++ [some [.val (.bool false), pO]] = S := ⟨_, rfl⟩
        have e4 : Ext T3 T4 := ⟨_, hT4.symm⟩
        have hO_ : At T4 (T3.length) [.val (.bool false), pO] := ⟨hT4 ▸ by rw [get_app0]; rfl⟩
        rw [hT4]
        clear hT4
        refine V_draw [0, 1, 2, 3] (by kernel_rfl) (.cons rfl <| .cons rfl <| .cons rfl <| .cons rfl <| .nil) ?_
        have gA := (hA.ext (e1.trans (e2.trans (e3.trans e4)))).get
        have gB := (hB.ext (e1.trans (e2.trans (e3.trans e4)))).get
        have gG_ := (hG_.ext (e3.trans e4)).get
        have gO_ := (hO_.ext Ext.refl).get
        simp (disch := first | assumption | omega | (simp only [lens]; omega)) only [eqs, ↓gvd_succ, ↓gvd_zero, ↓and_of, im_of, im_of trivial, vals, lsts, tys, hP, hst, initS, Nat.reduceBEq, Nat.reduceAdd, Nat.reduceMul, Nat.reduceSub, Nat.reduceDiv, Nat.reduceMod, Nat.reducePow, Nat.reduceLT, Nat.reduceLeDiff, Nat.reduceEqDiff, Int.reduceAdd, Int.reduceSub, Int.reduceNeg, Int.reduceMul, Int.reduceToNat, Int.reducePow, Int.reduceLE, Int.reduceLT, Int.reduceEq, Int.reduceNe, reduceIte, reduceCtorEq, ne_eq, not_true_eq_false, not_false_eq_true, true_and, and_true, and_self, true_implies, imp_self, implies_true, decide_true, decide_false, Bool.not_true, Bool.not_false, Bool.and_true, Bool.and_false, Bool.true_and, Bool.false_and, Bool.and_self, decide_eq_true_eq, eq_self, gA, gB, gG_, gO_]
        refine E_call (hP ▸ z_Of) ⟨0, rfl, by omega, by omega, fun vN T5 e5 hN => ?_⟩
        have gA := (hA.ext (e1.trans (e2.trans (e3.trans (e4.trans e5))))).get
        have gB := (hB.ext (e1.trans (e2.trans (e3.trans (e4.trans e5))))).get
        have gG_ := (hG_.ext (e3.trans (e4.trans e5))).get
        have gO_ := (hO_.ext e5).get
        simp (disch := first | assumption | omega | (simp only [lens]; omega)) only [eqs, ↓gvd_succ, ↓gvd_zero, ↓and_of, im_of, im_of trivial, vals, lsts, tys, hP, hst, initS, Nat.reduceBEq, Nat.reduceAdd, Nat.reduceMul, Nat.reduceSub, Nat.reduceDiv, Nat.reduceMod, Nat.reducePow, Nat.reduceLT, Nat.reduceLeDiff, Nat.reduceEqDiff, Int.reduceAdd, Int.reduceSub, Int.reduceNeg, Int.reduceMul, Int.reduceToNat, Int.reducePow, Int.reduceLE, Int.reduceLT, Int.reduceEq, Int.reduceNe, reduceIte, reduceCtorEq, ne_eq, not_true_eq_false, not_false_eq_true, true_and, and_true, and_self, true_implies, imp_self, implies_true, decide_true, decide_false, Bool.not_true, Bool.not_false, Bool.and_true, Bool.and_false, Bool.true_and, Bool.false_and, Bool.and_self, decide_eq_true_eq, eq_self, gA, gB, gG_, gO_]
        refine E_call (hP ▸ z_Cmp) ⟨_, _, _, _, _, _, rfl, (hG.toZ.ext (e2.trans (e3.trans (e4.trans e5)))), hN.toZ, by omega, by omega, fun T6 e6 => ?_⟩
        have gA := (hA.ext (e1.trans (e2.trans (e3.trans (e4.trans (e5.trans e6)))))).get
        have gB := (hB.ext (e1.trans (e2.trans (e3.trans (e4.trans (e5.trans e6)))))).get
        have gG_ := (hG_.ext (e3.trans (e4.trans (e5.trans e6)))).get
        have gO_ := (hO_.ext (e5.trans e6)).get
        simp (disch := first | assumption | omega | (simp only [lens]; omega)) only [eqs, ↓gvd_succ, ↓gvd_zero, ↓and_of, im_of, im_of trivial, vals, lsts, tys, hP, hst, initS, Nat.reduceBEq, Nat.reduceAdd, Nat.reduceMul, Nat.reduceSub, Nat.reduceDiv, Nat.reduceMod, Nat.reducePow, Nat.reduceLT, Nat.reduceLeDiff, Nat.reduceEqDiff, Int.reduceAdd, Int.reduceSub, Int.reduceNeg, Int.reduceMul, Int.reduceToNat, Int.reducePow, Int.reduceLE, Int.reduceLT, Int.reduceEq, Int.reduceNe, reduceIte, reduceCtorEq, ne_eq, not_true_eq_false, not_false_eq_true, true_and, and_true, and_self, true_implies, imp_self, implies_true, decide_true, decide_false, Bool.not_true, Bool.not_false, Bool.and_true, Bool.and_false, Bool.true_and, Bool.false_and, Bool.and_self, decide_eq_true_eq, eq_self, gA, gB, gG_, gO_, cmp_zero, cmp_neg, cmp_pos, cmp_nneg, cmp_npos, cmp_self]
        refine C_dec (fun h => ?_) (fun h => ?_)
        · have hg0 : g ≠ 0 := by omega
          have hgi : (g : Int) ≠ 0 := by omega
          have d1 : Zx.tmod g = 0 := gcd_tmod (hg ▸ Nat.gcd_dvd_left _ _)
          have d2 : Zy.tmod g = 0 := gcd_tmod (hg ▸ Nat.gcd_dvd_right _ _)
          have d3 := gcd_quo hg hg0
          have d4 : ¬(g : Int) < 1 := by omega
          have gA := (hA.ext (e1.trans (e2.trans (e3.trans (e4.trans (e5.trans e6)))))).get
          have gB := (hB.ext (e1.trans (e2.trans (e3.trans (e4.trans (e5.trans e6)))))).get
          have gG_ := (hG_.ext (e3.trans (e4.trans (e5.trans e6)))).get
          have gO_ := (hO_.ext (e5.trans e6)).get
          simp (disch := first | assumption | omega | (simp only [lens]; omega)) only [eqs, ↓gvd_succ, ↓gvd_zero, ↓and_of, im_of, im_of trivial, vals, lsts, tys, hP, hst, initS, Nat.reduceBEq, Nat.reduceAdd, Nat.reduceMul, Nat.reduceSub, Nat.reduceDiv, Nat.reduceMod, Nat.reducePow, Nat.reduceLT, Nat.reduceLeDiff, Nat.reduceEqDiff, Int.reduceAdd, Int.reduceSub, Int.reduceNeg, Int.reduceMul, Int.reduceToNat, Int.reducePow, Int.reduceLE, Int.reduceLT, Int.reduceEq, Int.reduceNe, reduceIte, reduceCtorEq, ne_eq, not_true_eq_false, not_false_eq_true, true_and, and_true, and_self, true_implies, imp_self, implies_true, decide_true, decide_false, Bool.not_true, Bool.not_false, Bool.and_true, Bool.and_false, Bool.true_and, Bool.false_and, Bool.and_self, decide_eq_true_eq, eq_self, gA, gB, gG_, gO_, h]
          refine E_call (hP ▸ z_Quo) ⟨_, _, _, _, _, _, rfl, (hX.ext (e0.trans (e1.trans (e2.trans (e3.trans (e4.trans (e5.trans e6))))))), (hG.toZ.ext (e2.trans (e3.trans (e4.trans (e5.trans e6))))), by omega, by omega, fun _ vQ vR T7 e7 hQ hR => ?_, fun h => absurd h hgi⟩
          rw [d1] at hR
          obtain ⟨pQ, rfl, nQ⟩ := hQ.1
          have lQ := nQ.leaf
          obtain ⟨pR, rfl, nR⟩ := hR.1
          have lR := nR.leaf
          have hR : NZ T7 (.agg [.val (.bool false), pR]) 0 _ := hR
          have q7 := (e0.trans (e1.trans (e2.trans (e3.trans (e4.trans (e5.trans (e6.trans e7))))))).len
          have q7x : st.length ≤ T7.length + 1 := by omega
          have gA := (hA.ext (e1.trans (e2.trans (e3.trans (e4.trans (e5.trans (e6.trans e7))))))).get
          have gB := (hB.ext (e1.trans (e2.trans (e3.trans (e4.trans (e5.trans (e6.trans e7))))))).get
          have gG_ := (hG_.ext (e3.trans (e4.trans (e5.trans (e6.trans e7))))).get
          have gO_ := (hO_.ext (e5.trans (e6.trans e7))).get
          simp (disch := first | assumption | omega | (simp only [lens]; omega)) only [eqs, ↓gvd_succ, ↓gvd_zero, ↓and_of, im_of, im_of trivial, vals, lsts, tys, hP, hst, initS, Nat.reduceBEq, Nat.reduceAdd, Nat.reduceMul, Nat.reduceSub, Nat.reduceDiv, Nat.reduceMod, Nat.reducePow, Nat.reduceLT, Nat.reduceLeDiff, Nat.reduceEqDiff, Int.reduceAdd, Int.reduceSub, Int.reduceNeg, Int.reduceMul, Int.reduceToNat, Int.reducePow, Int.reduceLE, Int.reduceLT, Int.reduceEq, Int.reduceNe, reduceIte, reduceCtorEq, ne_eq, not_true_eq_false, not_false_eq_true, true_and, and_true, and_self, true_implies, imp_self, implies_true, decide_true, decide_false, Bool.not_true, Bool.not_false, Bool.and_true, Bool.and_false, Bool.true_and, Bool.false_and, Bool.and_self, decide_eq_true_eq, eq_self, gA, gB, gG_, gO_, lQ, lR, q7, q7x]
          obtain ⟨T8, hT8⟩ : ∃ S, T7 ++ [some [.val (.bool (decide (Zx.tdiv g < 0))), pQ], some [.val (.bool false), pR]] = S := ⟨_, rfl⟩
          have e8 : Ext T7 T8 := ⟨_, hT8.symm⟩
          have hQ_ : At T8 (T7.length) [.val (.bool (decide (Zx.tdiv g < 0))), pQ] := ⟨hT8 ▸ by rw [get_app0]; rfl⟩
          have hR_ : At T8 (T7.length + 1) [.val (.bool false), pR] := ⟨hT8 ▸ by rw [get_app]; rfl⟩
          rw [hT8]
          clear hT8
          have gA := (hA.ext (e1.trans (e2.trans (e3.trans (e4.trans (e5.trans (e6.trans (e7.trans e8)))))))).get
          have gB := (hB.ext (e1.trans (e2.trans (e3.trans (e4.trans (e5.trans (e6.trans (e7.trans e8)))))))).get
          have gG_ := (hG_.ext (e3.trans (e4.trans (e5.trans (e6.trans (e7.trans e8)))))).get
          have gO_ := (hO_.ext (e5.trans (e6.trans (e7.trans e8)))).get
          have gQ_ := (hQ_.ext Ext.refl).get
          have gR_ := (hR_.ext Ext.refl).get
          simp (disch := first | assumption | omega | (simp only [lens]; omega)) only [eqs, ↓gvd_succ, ↓gvd_zero, ↓and_of, im_of, im_of trivial, vals, lsts, tys, hP, hst, initS, Nat.reduceBEq, Nat.reduceAdd, Nat.reduceMul, Nat.reduceSub, Nat.reduceDiv, Nat.reduceMod, Nat.reducePow, Nat.reduceLT, Nat.reduceLeDiff, Nat.reduceEqDiff, Int.reduceAdd, Int.reduceSub, Int.reduceNeg, Int.reduceMul, Int.reduceToNat, Int.reducePow, Int.reduceLE, Int.reduceLT, Int.reduceEq, Int.reduceNe, reduceIte, reduceCtorEq, ne_eq, not_true_eq_false, not_false_eq_true, true_and, and_true, and_self, true_implies, imp_self, implies_true, decide_true, decide_false, Bool.not_true, Bool.not_false, Bool.and_true, Bool.and_false, Bool.true_and, Bool.false_and, Bool.and_self, decide_eq_true_eq, eq_self, gA, gB, gG_, gO_, gQ_, gR_]
          refine E_call (hP ▸ z_Quo) ⟨_, _, _, _, _, _, rfl, (hY.ext (e0.trans (e1.trans (e2.trans (e3.trans (e4.trans (e5.trans (e6.trans (e7.trans e8))))))))), (hG.toZ.ext (e2.trans (e3.trans (e4.trans (e5.trans (e6.trans (e7.trans e8))))))), by omega, by omega, fun _ vU vV T9 e9 hU hV => ?_, fun h => absurd h hgi⟩
          rw [d2] at hV
          obtain ⟨pU, rfl, nU⟩ := hU.1
          have lU := nU.leaf
          obtain ⟨pV, rfl, nV⟩ := hV.1
          have lV := nV.leaf
          have hV : NZ T9 (.agg [.val (.bool false), pV]) 0 _ := hV
          have q9 := (e0.trans (e1.trans (e2.trans (e3.trans (e4.trans (e5.trans (e6.trans (e7.trans (e8.trans e9))))))))).len
          have q9x : st.length ≤ T9.length + 1 := by omega
          have gA := (hA.ext (e1.trans (e2.trans (e3.trans (e4.trans (e5.trans (e6.trans (e7.trans (e8.trans e9))))))))).get
          have gB := (hB.ext (e1.trans (e2.trans (e3.trans (e4.trans (e5.trans (e6.trans (e7.trans (e8.trans e9))))))))).get
          have gG_ := (hG_.ext (e3.trans (e4.trans (e5.trans (e6.trans (e7.trans (e8.trans e9))))))).get
          have gO_ := (hO_.ext (e5.trans (e6.trans (e7.trans (e8.trans e9))))).get
          have gQ_ := (hQ_.ext e9).get
          have gR_ := (hR_.ext e9).get
          simp (disch := first | assumption | omega | (simp only [lens]; omega)) only [eqs, ↓gvd_succ, ↓gvd_zero, ↓and_of, im_of, im_of trivial, vals, lsts, tys, hP, hst, initS, Nat.reduceBEq, Nat.reduceAdd, Nat.reduceMul, Nat.reduceSub, Nat.reduceDiv, Nat.reduceMod, Nat.reducePow, Nat.reduceLT, Nat.reduceLeDiff, Nat.reduceEqDiff, Int.reduceAdd, Int.reduceSub, Int.reduceNeg, Int.reduceMul, Int.reduceToNat, Int.reducePow, Int.reduceLE, Int.reduceLT, Int.reduceEq, Int.reduceNe, reduceIte, reduceCtorEq, ne_eq, not_true_eq_false, not_false_eq_true, true_and, and_true, and_self, true_implies, imp_self, implies_true, decide_true, decide_false, Bool.not_true, Bool.not_false, Bool.and_true, Bool.and_false, Bool.true_and, Bool.false_and, Bool.and_self, decide_eq_true_eq, eq_self, gA, gB, gG_, gO_, gQ_, gR_, lU, lV, q9, q9x]
          obtain ⟨T10, hT10⟩ : ∃ S, T9 ++ [some [.val (.bool (decide (Zy.tdiv g < 0))), pU], some [.val (.bool false), pV]] = S := ⟨_, rfl⟩
          have e10 : Ext T9 T10 := ⟨_, hT10.symm⟩
          have hU_ : At T10 (T9.length) [.val (.bool (decide (Zy.tdiv g < 0))), pU] := ⟨hT10 ▸ by rw [get_app0]; rfl⟩
          have hV_ : At T10 (T9.length + 1) [.val (.bool false), pV] := ⟨hT10 ▸ by rw [get_app]; rfl⟩
          rw [hT10]
          clear hT10
          refine V_draw [0, 1, 2, 3, 4, 5, 6, 7, 8, 9, 10, 11, 12, 13, 14, 15, 16, 18, 17, 19, 20, 21] (by kernel_rfl) (.cons rfl <| .cons rfl <| .cons rfl <| .cons rfl <| .cons rfl <| .cons rfl <| .cons rfl <| .cons rfl <| .cons rfl <| .cons rfl <| .cons rfl <| .cons rfl <| .cons rfl <| .cons rfl <| .cons rfl <| .cons rfl <| .cons rfl <| .cons rfl <| .cons rfl <| .cons rfl <| .cons rfl <| .cons rfl <| .nil) ?_
          have sR := nz_nil (hR.ext (e8.trans (e9.trans e10)))
          have sV := nz_nil (hV.ext e10)
          have gA := (hA.ext (e1.trans (e2.trans (e3.trans (e4.trans (e5.trans (e6.trans (e7.trans (e8.trans (e9.trans e10)))))))))).get
          have gB := (hB.ext (e1.trans (e2.trans (e3.trans (e4.trans (e5.trans (e6.trans (e7.trans (e8.trans (e9.trans e10)))))))))).get
          have gG_ := (hG_.ext (e3.trans (e4.trans (e5.trans (e6.trans (e7.trans (e8.trans (e9.trans e10)))))))).get
          have gO_ := (hO_.ext (e5.trans (e6.trans (e7.trans (e8.trans (e9.trans e10)))))).get
          have gQ_ := (hQ_.ext (e9.trans e10)).get
          have gR_ := (hR_.ext (e9.trans e10)).get
          have gU_ := (hU_.ext Ext.refl).get
          have gV_ := (hV_.ext Ext.refl).get
          simp (disch := first | assumption | omega | (simp only [lens]; omega)) only [eqs, ↓gvd_succ, ↓gvd_zero, ↓and_of, im_of, im_of trivial, vals, lsts, tys, hP, hst, initS, Nat.reduceBEq, Nat.reduceAdd, Nat.reduceMul, Nat.reduceSub, Nat.reduceDiv, Nat.reduceMod, Nat.reducePow, Nat.reduceLT, Nat.reduceLeDiff, Nat.reduceEqDiff, Int.reduceAdd, Int.reduceSub, Int.reduceNeg, Int.reduceMul, Int.reduceToNat, Int.reducePow, Int.reduceLE, Int.reduceLT, Int.reduceEq, Int.reduceNe, reduceIte, reduceCtorEq, ne_eq, not_true_eq_false, not_false_eq_true, true_and, and_true, and_self, true_implies, imp_self, implies_true, decide_true, decide_false, Bool.not_true, Bool.not_false, Bool.and_true, Bool.and_false, Bool.true_and, Bool.false_and, Bool.and_self, decide_eq_true_eq, eq_self, gA, gB, gG_, gO_, gQ_, gR_, gU_, gV_, sR, sV, zsum]
          refine E_call (hP ▸ z_Cmp) ⟨_, _, _, _, _, _, rfl, (hG.toZ.ext (e2.trans (e3.trans (e4.trans (e5.trans (e6.trans (e7.trans (e8.trans (e9.trans e10))))))))), (hO.toZ.ext (e4.trans (e5.trans (e6.trans (e7.trans (e8.trans (e9.trans e10))))))), by omega, by omega, fun T11 e11 => ?_⟩
          have gA := (hA.ext (e1.trans (e2.trans (e3.trans (e4.trans (e5.trans (e6.trans (e7.trans (e8.trans (e9.trans (e10.trans e11))))))))))).get
          have gB := (hB.ext (e1.trans (e2.trans (e3.trans (e4.trans (e5.trans (e6.trans (e7.trans (e8.trans (e9.trans (e10.trans e11))))))))))).get
          have gG_ := (hG_.ext (e3.trans (e4.trans (e5.trans (e6.trans (e7.trans (e8.trans (e9.trans (e10.trans e11))))))))).get
          have gO_ := (hO_.ext (e5.trans (e6.trans (e7.trans (e8.trans (e9.trans (e10.trans e11))))))).get
          have gQ_ := (hQ_.ext (e9.trans (e10.trans e11))).get
          have gR_ := (hR_.ext (e9.trans (e10.trans e11))).get
          have gU_ := (hU_.ext e11).get
          have gV_ := (hV_.ext e11).get
          simp (disch := first | assumption | omega | (simp only [lens]; omega)) only [eqs, ↓gvd_succ, ↓gvd_zero, ↓and_of, im_of, im_of trivial, vals, lsts, tys, hP, hst, initS, Nat.reduceBEq, Nat.reduceAdd, Nat.reduceMul, Nat.reduceSub, Nat.reduceDiv, Nat.reduceMod, Nat.reducePow, Nat.reduceLT, Nat.reduceLeDiff, Nat.reduceEqDiff, Int.reduceAdd, Int.reduceSub, Int.reduceNeg, Int.reduceMul, Int.reduceToNat, Int.reducePow, Int.reduceLE, Int.reduceLT, Int.reduceEq, Int.reduceNe, reduceIte, reduceCtorEq, ne_eq, not_true_eq_false, not_false_eq_true, true_and, and_true, and_self, true_implies, imp_self, implies_true, decide_true, decide_false, Bool.not_true, Bool.not_false, Bool.and_true, Bool.and_false, Bool.true_and, Bool.false_and, Bool.and_self, decide_eq_true_eq, eq_self, gA, gB, gG_, gO_, gQ_, gR_, gU_, gV_, cmp_zero, cmp_neg, cmp_pos, cmp_nneg, cmp_npos, cmp_self, d4]
          refine E_call (hP ▸ z_Gcd) ⟨_, _, _, _, _, _, rfl, (hQ.toZ.ext (e8.trans (e9.trans (e10.trans e11)))), (hU.toZ.ext (e10.trans e11)), by omega, by omega, fun vW T12 e12 hW => ?_⟩
          rw [d3] at hW
          have gA := (hA.ext (e1.trans (e2.trans (e3.trans (e4.trans (e5.trans (e6.trans (e7.trans (e8.trans (e9.trans (e10.trans (e11.trans e12)))))))))))).get
          have gB := (hB.ext (e1.trans (e2.trans (e3.trans (e4.trans (e5.trans (e6.trans (e7.trans (e8.trans (e9.trans (e10.trans (e11.trans e12)))))))))))).get
          have gG_ := (hG_.ext (e3.trans (e4.trans (e5.trans (e6.trans (e7.trans (e8.trans (e9.trans (e10.trans (e11.trans e12)))))))))).get
          have gO_ := (hO_.ext (e5.trans (e6.trans (e7.trans (e8.trans (e9.trans (e10.trans (e11.trans e12)))))))).get
          have gQ_ := (hQ_.ext (e9.trans (e10.trans (e11.trans e12)))).get
          have gR_ := (hR_.ext (e9.trans (e10.trans (e11.trans e12)))).get
          have gU_ := (hU_.ext (e11.trans e12)).get
          have gV_ := (hV_.ext (e11.trans e12)).get
          simp (disch := first | assumption | omega | (simp only [lens]; omega)) only [eqs, ↓gvd_succ, ↓gvd_zero, ↓and_of, im_of, im_of trivial, vals, lsts, tys, hP, hst, initS, Nat.reduceBEq, Nat.reduceAdd, Nat.reduceMul, Nat.reduceSub, Nat.reduceDiv, Nat.reduceMod, Nat.reducePow, Nat.reduceLT, Nat.reduceLeDiff, Nat.reduceEqDiff, Int.reduceAdd, Int.reduceSub, Int.reduceNeg, Int.reduceMul, Int.reduceToNat, Int.reducePow, Int.reduceLE, Int.reduceLT, Int.reduceEq, Int.reduceNe, reduceIte, reduceCtorEq, ne_eq, not_true_eq_false, not_false_eq_true, true_and, and_true, and_self, true_implies, imp_self, implies_true, decide_true, decide_false, Bool.not_true, Bool.not_false, Bool.and_true, Bool.and_false, Bool.true_and, Bool.false_and, Bool.and_self, decide_eq_true_eq, eq_self, gA, gB, gG_, gO_, gQ_, gR_, gU_, gV_]
          refine E_call (hP ▸ z_same) ⟨_, _, _, _, _, rfl, hW, (hO.ext (e4.trans (e5.trans (e6.trans (e7.trans (e8.trans (e9.trans (e10.trans (e11.trans e12))))))))), by omega, fun T13 e13 => ?_⟩
          have gA := (hA.ext (e1.trans (e2.trans (e3.trans (e4.trans (e5.trans (e6.trans (e7.trans (e8.trans (e9.trans (e10.trans (e11.trans (e12.trans e13))))))))))))).get
          have gB := (hB.ext (e1.trans (e2.trans (e3.trans (e4.trans (e5.trans (e6.trans (e7.trans (e8.trans (e9.trans (e10.trans (e11.trans (e12.trans e13))))))))))))).get
          have gG_ := (hG_.ext (e3.trans (e4.trans (e5.trans (e6.trans (e7.trans (e8.trans (e9.trans (e10.trans (e11.trans (e12.trans e13))))))))))).get
          have gO_ := (hO_.ext (e5.trans (e6.trans (e7.trans (e8.trans (e9.trans (e10.trans (e11.trans (e12.trans e13))))))))).get
          have gQ_ := (hQ_.ext (e9.trans (e10.trans (e11.trans (e12.trans e13))))).get
          have gR_ := (hR_.ext (e9.trans (e10.trans (e11.trans (e12.trans e13))))).get
          have gU_ := (hU_.ext (e11.trans (e12.trans e13))).get
          have gV_ := (hV_.ext (e11.trans (e12.trans e13))).get
          simp (disch := first | assumption | omega | (simp only [lens]; omega)) only [eqs, ↓gvd_succ, ↓gvd_zero, ↓and_of, im_of, im_of trivial, vals, lsts, tys, hP, hst, initS, Nat.reduceBEq, Nat.reduceAdd, Nat.reduceMul, Nat.reduceSub, Nat.reduceDiv, Nat.reduceMod, Nat.reducePow, Nat.reduceLT, Nat.reduceLeDiff, Nat.reduceEqDiff, Int.reduceAdd, Int.reduceSub, Int.reduceNeg, Int.reduceMul, Int.reduceToNat, Int.reducePow, Int.reduceLE, Int.reduceLT, Int.reduceEq, Int.reduceNe, reduceIte, reduceCtorEq, ne_eq, not_true_eq_false, not_false_eq_true, true_and, and_true, and_self, true_implies, imp_self, implies_true, decide_true, decide_false, Bool.not_true, Bool.not_false, Bool.and_true, Bool.and_false, Bool.true_and, Bool.false_and, Bool.and_self, decide_eq_true_eq, eq_self, gA, gB, gG_, gO_, gQ_, gR_, gU_, gV_]
          refine E_call (hP ▸ z_Root) ⟨_, _, _, rfl, (hX.ext (e0.trans (e1.trans (e2.trans (e3.trans (e4.trans (e5.trans (e6.trans (e7.trans (e8.trans (e9.trans (e10.trans (e11.trans (e12.trans e13)))))))))))))), by omega, fun hn T14 e14 => ?_, fun hn r q hr1 hr2 va vb T14 e14 ha hb => ?_⟩
          · unfold zeroI
            have q14 := (e0.trans (e1.trans (e2.trans (e3.trans (e4.trans (e5.trans (e6.trans (e7.trans (e8.trans (e9.trans (e10.trans (e11.trans (e12.trans (e13.trans e14)))))))))))))).len
            have q14x : st.length ≤ T14.length + 1 := by omega
            have gA := (hA.ext (e1.trans (e2.trans (e3.trans (e4.trans (e5.trans (e6.trans (e7.trans (e8.trans (e9.trans (e10.trans (e11.trans (e12.trans (e13.trans e14)))))))))))))).get
            have gB := (hB.ext (e1.trans (e2.trans (e3.trans (e4.trans (e5.trans (e6.trans (e7.trans (e8.trans (e9.trans (e10.trans (e11.trans (e12.trans (e13.trans e14)))))))))))))).get
            have gG_ := (hG_.ext (e3.trans (e4.trans (e5.trans (e6.trans (e7.trans (e8.trans (e9.trans (e10.trans (e11.trans (e12.trans (e13.trans e14)))))))))))).get
            have gO_ := (hO_.ext (e5.trans (e6.trans (e7.trans (e8.trans (e9.trans (e10.trans (e11.trans (e12.trans (e13.trans e14)))))))))).get
            have gQ_ := (hQ_.ext (e9.trans (e10.trans (e11.trans (e12.trans (e13.trans e14)))))).get
            have gR_ := (hR_.ext (e9.trans (e10.trans (e11.trans (e12.trans (e13.trans e14)))))).get
            have gU_ := (hU_.ext (e11.trans (e12.trans (e13.trans e14)))).get
            have gV_ := (hV_.ext (e11.trans (e12.trans (e13.trans e14)))).get
            simp (disch := first | assumption | omega | (simp only [lens]; omega)) only [eqs, ↓gvd_succ, ↓gvd_zero, ↓and_of, im_of, im_of trivial, vals, lsts, tys, hP, hst, initS, Nat.reduceBEq, Nat.reduceAdd, Nat.reduceMul, Nat.reduceSub, Nat.reduceDiv, Nat.reduceMod, Nat.reducePow, Nat.reduceLT, Nat.reduceLeDiff, Nat.reduceEqDiff, Int.reduceAdd, Int.reduceSub, Int.reduceNeg, Int.reduceMul, Int.reduceToNat, Int.reducePow, Int.reduceLE, Int.reduceLT, Int.reduceEq, Int.reduceNe, reduceIte, reduceCtorEq, ne_eq, not_true_eq_false, not_false_eq_true, true_and, and_true, and_self, true_implies, imp_self, implies_true, decide_true, decide_false, Bool.not_true, Bool.not_false, Bool.and_true, Bool.and_false, Bool.true_and, Bool.false_and, Bool.and_self, decide_eq_true_eq, eq_self, gA, gB, gG_, gO_, gQ_, gR_, gU_, gV_, q14, q14x]
            obtain ⟨T15, hT15⟩ : ∃ S, T14 ++ [some [.val (.bool false), .val (.slice none 0 0)], some [.val (.bool false), .val (.slice none 0 0)]] = S := ⟨_, rfl⟩
            have e15 : Ext T14 T15 := ⟨_, hT15.symm⟩
            have hM_ : At T15 (T14.length) [.val (.bool false), .val (.slice none 0 0)] := ⟨hT15 ▸ by rw [get_app0]; rfl⟩
            have hN_ : At T15 (T14.length + 1) [.val (.bool false), .val (.slice none 0 0)] := ⟨hT15 ▸ by rw [get_app]; rfl⟩
            rw [hT15]
            clear hT15
            refine V_draw [0, 1, 2, 3, 4, 5, 6, 7] (by kernel_rfl) (.cons rfl <| .cons rfl <| .cons rfl <| .cons rfl <| .cons rfl <| .cons rfl <| .cons rfl <| .cons rfl <| .nil) ?_
            have gA := (hA.ext (e1.trans (e2.trans (e3.trans (e4.trans (e5.trans (e6.trans (e7.trans (e8.trans (e9.trans (e10.trans (e11.trans (e12.trans (e13.trans (e14.trans e15))))))))))))))).get
            have gB := (hB.ext (e1.trans (e2.trans (e3.trans (e4.trans (e5.trans (e6.trans (e7.trans (e8.trans (e9.trans (e10.trans (e11.trans (e12.trans (e13.trans (e14.trans e15))))))))))))))).get
            have gG_ := (hG_.ext (e3.trans (e4.trans (e5.trans (e6.trans (e7.trans (e8.trans (e9.trans (e10.trans (e11.trans (e12.trans (e13.trans (e14.trans e15))))))))))))).get
            have gO_ := (hO_.ext (e5.trans (e6.trans (e7.trans (e8.trans (e9.trans (e10.trans (e11.trans (e12.trans (e13.trans (e14.trans e15))))))))))).get
            have gQ_ := (hQ_.ext (e9.trans (e10.trans (e11.trans (e12.trans (e13.trans (e14.trans e15))))))).get
            have gR_ := (hR_.ext (e9.trans (e10.trans (e11.trans (e12.trans (e13.trans (e14.trans e15))))))).get
            have gU_ := (hU_.ext (e11.trans (e12.trans (e13.trans (e14.trans e15))))).get
            have gV_ := (hV_.ext (e11.trans (e12.trans (e13.trans (e14.trans e15))))).get
            have gM_ := (hM_.ext Ext.refl).get
            have gN_ := (hN_.ext Ext.refl).get
            simp (disch := first | assumption | omega | (simp only [lens]; omega)) only [eqs, ↓gvd_succ, ↓gvd_zero, ↓and_of, im_of, im_of trivial, vals, lsts, tys, hP, hst, initS, Nat.reduceBEq, Nat.reduceAdd, Nat.reduceMul, Nat.reduceSub, Nat.reduceDiv, Nat.reduceMod, Nat.reducePow, Nat.reduceLT, Nat.reduceLeDiff, Nat.reduceEqDiff, Int.reduceAdd, Int.reduceSub, Int.reduceNeg, Int.reduceMul, Int.reduceToNat, Int.reducePow, Int.reduceLE, Int.reduceLT, Int.reduceEq, Int.reduceNe, reduceIte, reduceCtorEq, ne_eq, not_true_eq_false, not_false_eq_true, true_and, and_true, and_self, true_implies, imp_self, implies_true, decide_true, decide_false, Bool.not_true, Bool.not_false, Bool.and_true, Bool.and_false, Bool.true_and, Bool.false_and, Bool.and_self, decide_eq_true_eq, eq_self, gA, gB, gG_, gO_, gQ_, gR_, gU_, gV_, gM_, gN_]
            refine E_call (hP ▸ z_Of) ⟨0, rfl, by omega, by omega, fun v5 T16 e16 h5 => ?_⟩
            have gA := (hA.ext (e1.trans (e2.trans (e3.trans (e4.trans (e5.trans (e6.trans (e7.trans (e8.trans (e9.trans (e10.trans (e11.trans (e12.trans (e13.trans (e14.trans (e15.trans e16)))))))))))))))).get
            have gB := (hB.ext (e1.trans (e2.trans (e3.trans (e4.trans (e5.trans (e6.trans (e7.trans (e8.trans (e9.trans (e10.trans (e11.trans (e12.trans (e13.trans (e14.trans (e15.trans e16)))))))))))))))).get
            have gG_ := (hG_.ext (e3.trans (e4.trans (e5.trans (e6.trans (e7.trans (e8.trans (e9.trans (e10.trans (e11.trans (e12.trans (e13.trans (e14.trans (e15.trans e16)))))))))))))).get
            have gO_ := (hO_.ext (e5.trans (e6.trans (e7.trans (e8.trans (e9.trans (e10.trans (e11.trans (e12.trans (e13.trans (e14.trans (e15.trans e16)))))))))))).get
            have gQ_ := (hQ_.ext (e9.trans (e10.trans (e11.trans (e12.trans (e13.trans (e14.trans (e15.trans e16)))))))).get
            have gR_ := (hR_.ext (e9.trans (e10.trans (e11.trans (e12.trans (e13.trans (e14.trans (e15.trans e16)))))))).get
            have gU_ := (hU_.ext (e11.trans (e12.trans (e13.trans (e14.trans (e15.trans e16)))))).get
            have gV_ := (hV_.ext (e11.trans (e12.trans (e13.trans (e14.trans (e15.trans e16)))))).get
            have gM_ := (hM_.ext e16).get
            have gN_ := (hN_.ext e16).get
            simp (disch := first | assumption | omega | (simp only [lens]; omega)) only [eqs, ↓gvd_succ, ↓gvd_zero, ↓and_of, im_of, im_of trivial, vals, lsts, tys, hP, hst, initS, Nat.reduceBEq, Nat.reduceAdd, Nat.reduceMul, Nat.reduceSub, Nat.reduceDiv, Nat.reduceMod, Nat.reducePow, Nat.reduceLT, Nat.reduceLeDiff, Nat.reduceEqDiff, Int.reduceAdd, Int.reduceSub, Int.reduceNeg, Int.reduceMul, Int.reduceToNat, Int.reducePow, Int.reduceLE, Int.reduceLT, Int.reduceEq, Int.reduceNe, reduceIte, reduceCtorEq, ne_eq, not_true_eq_false, not_false_eq_true, true_and, and_true, and_self, true_implies, imp_self, implies_true, decide_true, decide_false, Bool.not_true, Bool.not_false, Bool.and_true, Bool.and_false, Bool.true_and, Bool.false_and, Bool.and_self, decide_eq_true_eq, eq_self, gA, gB, gG_, gO_, gQ_, gR_, gU_, gV_, gM_, gN_]
            refine E_call (hP ▸ z_Cmp) ⟨_, _, _, _, _, _, rfl, (hX.ext (e0.trans (e1.trans (e2.trans (e3.trans (e4.trans (e5.trans (e6.trans (e7.trans (e8.trans (e9.trans (e10.trans (e11.trans (e12.trans (e13.trans (e14.trans (e15.trans e16))))))))))))))))), h5.toZ, by omega, by omega, fun T17 e17 => ?_⟩
            have gA := (hA.ext (e1.trans (e2.trans (e3.trans (e4.trans (e5.trans (e6.trans (e7.trans (e8.trans (e9.trans (e10.trans (e11.trans (e12.trans (e13.trans (e14.trans (e15.trans (e16.trans e17))))))))))))))))).get
            have gB := (hB.ext (e1.trans (e2.trans (e3.trans (e4.trans (e5.trans (e6.trans (e7.trans (e8.trans (e9.trans (e10.trans (e11.trans (e12.trans (e13.trans (e14.trans (e15.trans (e16.trans e17))))))))))))))))).get
            have gG_ := (hG_.ext (e3.trans (e4.trans (e5.trans (e6.trans (e7.trans (e8.trans (e9.trans (e10.trans (e11.trans (e12.trans (e13.trans (e14.trans (e15.trans (e16.trans e17))))))))))))))).get
            have gO_ := (hO_.ext (e5.trans (e6.trans (e7.trans (e8.trans (e9.trans (e10.trans (e11.trans (e12.trans (e13.trans (e14.trans (e15.trans (e16.trans e17))))))))))))).get
            have gQ_ := (hQ_.ext (e9.trans (e10.trans (e11.trans (e12.trans (e13.trans (e14.trans (e15.trans (e16.trans e17))))))))).get
            have gR_ := (hR_.ext (e9.trans (e10.trans (e11.trans (e12.trans (e13.trans (e14.trans (e15.trans (e16.trans e17))))))))).get
            have gU_ := (hU_.ext (e11.trans (e12.trans (e13.trans (e14.trans (e15.trans (e16.trans e17))))))).get
            have gV_ := (hV_.ext (e11.trans (e12.trans (e13.trans (e14.trans (e15.trans (e16.trans e17))))))).get
            have gM_ := (hM_.ext (e16.trans e17)).get
            have gN_ := (hN_.ext (e16.trans e17)).get
            simp (disch := first | assumption | omega | (simp only [lens]; omega)) only [eqs, ↓gvd_succ, ↓gvd_zero, ↓and_of, im_of, im_of trivial, vals, lsts, tys, hP, hst, initS, Nat.reduceBEq, Nat.reduceAdd, Nat.reduceMul, Nat.reduceSub, Nat.reduceDiv, Nat.reduceMod, Nat.reducePow, Nat.reduceLT, Nat.reduceLeDiff, Nat.reduceEqDiff, Int.reduceAdd, Int.reduceSub, Int.reduceNeg, Int.reduceMul, Int.reduceToNat, Int.reducePow, Int.reduceLE, Int.reduceLT, Int.reduceEq, Int.reduceNe, reduceIte, reduceCtorEq, ne_eq, not_true_eq_false, not_false_eq_true, true_and, and_true, and_self, true_implies, imp_self, implies_true, decide_true, decide_false, Bool.not_true, Bool.not_false, Bool.and_true, Bool.and_false, Bool.true_and, Bool.false_and, Bool.and_self, decide_eq_true_eq, eq_self, gA, gB, gG_, gO_, gQ_, gR_, gU_, gV_, gM_, gN_, cmp_zero, cmp_neg, cmp_pos, cmp_nneg, cmp_npos, cmp_self, hn]
            refine E_call (hP ▸ s_klives) ⟨rfl, fun T18 e18 => ?_⟩
            simp (disch := first | assumption | omega | (simp only [lens]; omega)) only [eqs, ↓gvd_succ, ↓gvd_zero, ↓and_of, im_of, im_of trivial, vals, lsts, tys, hP, hst, initS, Nat.reduceBEq, Nat.reduceAdd, Nat.reduceMul, Nat.reduceSub, Nat.reduceDiv, Nat.reduceMod, Nat.reducePow, Nat.reduceLT, Nat.reduceLeDiff, Nat.reduceEqDiff, Int.reduceAdd, Int.reduceSub, Int.reduceNeg, Int.reduceMul, Int.reduceToNat, Int.reducePow, Int.reduceLE, Int.reduceLT, Int.reduceEq, Int.reduceNe, reduceIte, reduceCtorEq, ne_eq, not_true_eq_false, not_false_eq_true, true_and, and_true, and_self, true_implies, imp_self, implies_true, decide_true, decide_false, Bool.not_true, Bool.not_false, Bool.and_true, Bool.and_false, Bool.true_and, Bool.false_and, Bool.and_self, decide_eq_true_eq, eq_self]
            exact hK _ (e0.trans (e1.trans (e2.trans (e3.trans (e4.trans (e5.trans (e6.trans (e7.trans (e8.trans (e9.trans (e10.trans (e11.trans (e12.trans (e13.trans (e14.trans (e15.trans (e16.trans (e17.trans e18))))))))))))))))))
          · obtain ⟨pa, rfl, na⟩ := ha.1
            have la := na.leaf
            rw [nat_sgn (g := r)] at ha ⊢
            obtain ⟨pb, rfl, nb⟩ := hb.1
            have lb := nb.leaf
            rw [nat_sgn (g := q)] at hb ⊢
            have q14 := (e0.trans (e1.trans (e2.trans (e3.trans (e4.trans (e5.trans (e6.trans (e7.trans (e8.trans (e9.trans (e10.trans (e11.trans (e12.trans (e13.trans e14)))))))))))))).len
            have q14x : st.length ≤ T14.length + 1 := by omega
            have gA := (hA.ext (e1.trans (e2.trans (e3.trans (e4.trans (e5.trans (e6.trans (e7.trans (e8.trans (e9.trans (e10.trans (e11.trans (e12.trans (e13.trans e14)))))))))))))).get
            have gB := (hB.ext (e1.trans (e2.trans (e3.trans (e4.trans (e5.trans (e6.trans (e7.trans (e8.trans (e9.trans (e10.trans (e11.trans (e12.trans (e13.trans e14)))))))))))))).get
            have gG_ := (hG_.ext (e3.trans (e4.trans (e5.trans (e6.trans (e7.trans (e8.trans (e9.trans (e10.trans (e11.trans (e12.trans (e13.trans e14)))))))))))).get
            have gO_ := (hO_.ext (e5.trans (e6.trans (e7.trans (e8.trans (e9.trans (e10.trans (e11.trans (e12.trans (e13.trans e14)))))))))).get
            have gQ_ := (hQ_.ext (e9.trans (e10.trans (e11.trans (e12.trans (e13.trans e14)))))).get
            have gR_ := (hR_.ext (e9.trans (e10.trans (e11.trans (e12.trans (e13.trans e14)))))).get
            have gU_ := (hU_.ext (e11.trans (e12.trans (e13.trans e14)))).get
            have gV_ := (hV_.ext (e11.trans (e12.trans (e13.trans e14)))).get
            simp (disch := first | assumption | omega | (simp only [lens]; omega)) only [eqs, ↓gvd_succ, ↓gvd_zero, ↓and_of, im_of, im_of trivial, vals, lsts, tys, hP, hst, initS, Nat.reduceBEq, Nat.reduceAdd, Nat.reduceMul, Nat.reduceSub, Nat.reduceDiv, Nat.reduceMod, Nat.reducePow, Nat.reduceLT, Nat.reduceLeDiff, Nat.reduceEqDiff, Int.reduceAdd, Int.reduceSub, Int.reduceNeg, Int.reduceMul, Int.reduceToNat, Int.reducePow, Int.reduceLE, Int.reduceLT, Int.reduceEq, Int.reduceNe, reduceIte, reduceCtorEq, ne_eq, not_true_eq_false, not_false_eq_true, true_and, and_true, and_self, true_implies, imp_self, implies_true, decide_true, decide_false, Bool.not_true, Bool.not_false, Bool.and_true, Bool.and_false, Bool.true_and, Bool.false_and, Bool.and_self, decide_eq_true_eq, eq_self, gA, gB, gG_, gO_, gQ_, gR_, gU_, gV_, la, lb, q14, q14x]
            obtain ⟨T15, hT15⟩ : ∃ S, T14 ++ [some [.val (.bool false), pa], some [.val (.bool false), pb]] = S := ⟨_, rfl⟩
            have e15 : Ext T14 T15 := ⟨_, hT15.symm⟩
            have hM_ : At T15 (T14.length) [.val (.bool false), pa] := ⟨hT15 ▸ by rw [get_app0]; rfl⟩
            have hN_ : At T15 (T14.length + 1) [.val (.bool false), pb] := ⟨hT15 ▸ by rw [get_app]; rfl⟩
            rw [hT15]
            clear hT15
            have r1 : ¬(r : Int) + 1 < 0 := by omega
            have r2 : (-1 : Int) < q := by omega
            have gA := (hA.ext (e1.trans (e2.trans (e3.trans (e4.trans (e5.trans (e6.trans (e7.trans (e8.trans (e9.trans (e10.trans (e11.trans (e12.trans (e13.trans (e14.trans e15))))))))))))))).get
            have gB := (hB.ext (e1.trans (e2.trans (e3.trans (e4.trans (e5.trans (e6.trans (e7.trans (e8.trans (e9.trans (e10.trans (e11.trans (e12.trans (e13.trans (e14.trans e15))))))))))))))).get
            have gG_ := (hG_.ext (e3.trans (e4.trans (e5.trans (e6.trans (e7.trans (e8.trans (e9.trans (e10.trans (e11.trans (e12.trans (e13.trans (e14.trans e15))))))))))))).get
            have gO_ := (hO_.ext (e5.trans (e6.trans (e7.trans (e8.trans (e9.trans (e10.trans (e11.trans (e12.trans (e13.trans (e14.trans e15))))))))))).get
            have gQ_ := (hQ_.ext (e9.trans (e10.trans (e11.trans (e12.trans (e13.trans (e14.trans e15))))))).get
            have gR_ := (hR_.ext (e9.trans (e10.trans (e11.trans (e12.trans (e13.trans (e14.trans e15))))))).get
            have gU_ := (hU_.ext (e11.trans (e12.trans (e13.trans (e14.trans e15))))).get
            have gV_ := (hV_.ext (e11.trans (e12.trans (e13.trans (e14.trans e15))))).get
            have gM_ := (hM_.ext Ext.refl).get
            have gN_ := (hN_.ext Ext.refl).get
            simp (disch := first | assumption | omega | (simp only [lens]; omega)) only [eqs, ↓gvd_succ, ↓gvd_zero, ↓and_of, im_of, im_of trivial, vals, lsts, tys, hP, hst, initS, Nat.reduceBEq, Nat.reduceAdd, Nat.reduceMul, Nat.reduceSub, Nat.reduceDiv, Nat.reduceMod, Nat.reducePow, Nat.reduceLT, Nat.reduceLeDiff, Nat.reduceEqDiff, Int.reduceAdd, Int.reduceSub, Int.reduceNeg, Int.reduceMul, Int.reduceToNat, Int.reducePow, Int.reduceLE, Int.reduceLT, Int.reduceEq, Int.reduceNe, reduceIte, reduceCtorEq, ne_eq, not_true_eq_false, not_false_eq_true, true_and, and_true, and_self, true_implies, imp_self, implies_true, decide_true, decide_false, Bool.not_true, Bool.not_false, Bool.and_true, Bool.and_false, Bool.true_and, Bool.false_and, Bool.and_self, decide_eq_true_eq, eq_self, gA, gB, gG_, gO_, gQ_, gR_, gU_, gV_, gM_, gN_]
            refine E_call (hP ▸ z_Add) ⟨_, _, _, _, _, _, rfl, (ha.toZ.ext e15), (hO.toZ.ext (e4.trans (e5.trans (e6.trans (e7.trans (e8.trans (e9.trans (e10.trans (e11.trans (e12.trans (e13.trans (e14.trans e15)))))))))))), by omega, by omega, fun vc T16 e16 hc => ?_⟩
            dsimp only at hc
            obtain ⟨pc, rfl, nc⟩ := hc.1
            have lc := nc.leaf
            rw [decide_eq_false r1] at hc
            have r3 : decide ((r : Int) + 1 < 0) = false := decide_eq_false r1
            have q16 := (e0.trans (e1.trans (e2.trans (e3.trans (e4.trans (e5.trans (e6.trans (e7.trans (e8.trans (e9.trans (e10.trans (e11.trans (e12.trans (e13.trans (e14.trans (e15.trans e16)))))))))))))))).len
            have gA := (hA.ext (e1.trans (e2.trans (e3.trans (e4.trans (e5.trans (e6.trans (e7.trans (e8.trans (e9.trans (e10.trans (e11.trans (e12.trans (e13.trans (e14.trans (e15.trans e16)))))))))))))))).get
            have gB := (hB.ext (e1.trans (e2.trans (e3.trans (e4.trans (e5.trans (e6.trans (e7.trans (e8.trans (e9.trans (e10.trans (e11.trans (e12.trans (e13.trans (e14.trans (e15.trans e16)))))))))))))))).get
            have gG_ := (hG_.ext (e3.trans (e4.trans (e5.trans (e6.trans (e7.trans (e8.trans (e9.trans (e10.trans (e11.trans (e12.trans (e13.trans (e14.trans (e15.trans e16)))))))))))))).get
            have gO_ := (hO_.ext (e5.trans (e6.trans (e7.trans (e8.trans (e9.trans (e10.trans (e11.trans (e12.trans (e13.trans (e14.trans (e15.trans e16)))))))))))).get
            have gQ_ := (hQ_.ext (e9.trans (e10.trans (e11.trans (e12.trans (e13.trans (e14.trans (e15.trans e16)))))))).get
            have gR_ := (hR_.ext (e9.trans (e10.trans (e11.trans (e12.trans (e13.trans (e14.trans (e15.trans e16)))))))).get
            have gU_ := (hU_.ext (e11.trans (e12.trans (e13.trans (e14.trans (e15.trans e16)))))).get
            have gV_ := (hV_.ext (e11.trans (e12.trans (e13.trans (e14.trans (e15.trans e16)))))).get
            have gM_ := (hM_.ext e16).get
            have gN_ := (hN_.ext e16).get
            simp (disch := first | assumption | omega | (simp only [lens]; omega)) only [eqs, ↓gvd_succ, ↓gvd_zero, ↓and_of, im_of, im_of trivial, vals, lsts, tys, hP, hst, initS, Nat.reduceBEq, Nat.reduceAdd, Nat.reduceMul, Nat.reduceSub, Nat.reduceDiv, Nat.reduceMod, Nat.reducePow, Nat.reduceLT, Nat.reduceLeDiff, Nat.reduceEqDiff, Int.reduceAdd, Int.reduceSub, Int.reduceNeg, Int.reduceMul, Int.reduceToNat, Int.reducePow, Int.reduceLE, Int.reduceLT, Int.reduceEq, Int.reduceNe, reduceIte, reduceCtorEq, ne_eq, not_true_eq_false, not_false_eq_true, true_and, and_true, and_self, true_implies, imp_self, implies_true, decide_true, decide_false, Bool.not_true, Bool.not_false, Bool.and_true, Bool.and_false, Bool.true_and, Bool.false_and, Bool.and_self, decide_eq_true_eq, eq_self, gA, gB, gG_, gO_, gQ_, gR_, gU_, gV_, gM_, gN_, lc, r3, q16]
            obtain ⟨T17, hT17⟩ : ∃ S, T16 ++ [some [.val (.bool false), pc]] = S := ⟨_, rfl⟩
            have e17 : Ext T16 T17 := ⟨_, hT17.symm⟩
            have hP_ : At T17 (T16.length) [.val (.bool false), pc] := ⟨hT17 ▸ by rw [get_app0]; rfl⟩
            rw [hT17]
            clear hT17
            refine V_draw [0, 1, 3, 5, 2, 4, 6, 7, 8, 9, 10, 12, 11, 13, 14, 15, 16, 17, 18, 19, 20, 21, 22, 23, 24, 25] (by kernel_rfl) (.cons rfl <| .cons rfl <| .cons rfl <| .cons rfl <| .cons rfl <| .cons rfl <| .cons rfl <| .cons rfl <| .cons rfl <| .cons rfl <| .cons rfl <| .cons rfl <| .cons rfl <| .cons rfl <| .cons rfl <| .cons rfl <| .cons rfl <| .cons rfl <| .cons rfl <| .cons rfl <| .cons rfl <| .cons rfl <| .cons rfl <| .cons rfl <| .cons rfl <| .cons rfl <| .nil) ?_
            have gA := (hA.ext (e1.trans (e2.trans (e3.trans (e4.trans (e5.trans (e6.trans (e7.trans (e8.trans (e9.trans (e10.trans (e11.trans (e12.trans (e13.trans (e14.trans (e15.trans (e16.trans e17))))))))))))))))).get
            have gB := (hB.ext (e1.trans (e2.trans (e3.trans (e4.trans (e5.trans (e6.trans (e7.trans (e8.trans (e9.trans (e10.trans (e11.trans (e12.trans (e13.trans (e14.trans (e15.trans (e16.trans e17))))))))))))))))).get
            have gG_ := (hG_.ext (e3.trans (e4.trans (e5.trans (e6.trans (e7.trans (e8.trans (e9.trans (e10.trans (e11.trans (e12.trans (e13.trans (e14.trans (e15.trans (e16.trans e17))))))))))))))).get
            have gO_ := (hO_.ext (e5.trans (e6.trans (e7.trans (e8.trans (e9.trans (e10.trans (e11.trans (e12.trans (e13.trans (e14.trans (e15.trans (e16.trans e17))))))))))))).get
            have gQ_ := (hQ_.ext (e9.trans (e10.trans (e11.trans (e12.trans (e13.trans (e14.trans (e15.trans (e16.trans e17))))))))).get
            have gR_ := (hR_.ext (e9.trans (e10.trans (e11.trans (e12.trans (e13.trans (e14.trans (e15.trans (e16.trans e17))))))))).get
            have gU_ := (hU_.ext (e11.trans (e12.trans (e13.trans (e14.trans (e15.trans (e16.trans e17))))))).get
            have gV_ := (hV_.ext (e11.trans (e12.trans (e13.trans (e14.trans (e15.trans (e16.trans e17))))))).get
            have gM_ := (hM_.ext (e16.trans e17)).get
            have gN_ := (hN_.ext (e16.trans e17)).get
            have gP_ := (hP_.ext Ext.refl).get
            simp (disch := first | assumption | omega | (simp only [lens]; omega)) only [eqs, ↓gvd_succ, ↓gvd_zero, ↓and_of, im_of, im_of trivial, vals, lsts, tys, hP, hst, initS, Nat.reduceBEq, Nat.reduceAdd, Nat.reduceMul, Nat.reduceSub, Nat.reduceDiv, Nat.reduceMod, Nat.reducePow, Nat.reduceLT, Nat.reduceLeDiff, Nat.reduceEqDiff, Int.reduceAdd, Int.reduceSub, Int.reduceNeg, Int.reduceMul, Int.reduceToNat, Int.reducePow, Int.reduceLE, Int.reduceLT, Int.reduceEq, Int.reduceNe, reduceIte, reduceCtorEq, ne_eq, not_true_eq_false, not_false_eq_true, true_and, and_true, and_self, true_implies, imp_self, implies_true, decide_true, decide_false, Bool.not_true, Bool.not_false, Bool.and_true, Bool.and_false, Bool.true_and, Bool.false_and, Bool.and_self, decide_eq_true_eq, eq_self, gA, gB, gG_, gO_, gQ_, gR_, gU_, gV_, gM_, gN_, gP_]
            refine E_call (hP ▸ z_Mul) ⟨_, _, _, _, _, _, rfl, (ha.toZ.ext (e15.trans (e16.trans e17))), (ha.toZ.ext (e15.trans (e16.trans e17))), by omega, by omega, fun vd T18 e18 hd => ?_⟩
            dsimp only at hd
            have gA := (hA.ext (e1.trans (e2.trans (e3.trans (e4.trans (e5.trans (e6.trans (e7.trans (e8.trans (e9.trans (e10.trans (e11.trans (e12.trans (e13.trans (e14.trans (e15.trans (e16.trans (e17.trans e18)))))))))))))))))).get
            have gB := (hB.ext (e1.trans (e2.trans (e3.trans (e4.trans (e5.trans (e6.trans (e7.trans (e8.trans (e9.trans (e10.trans (e11.trans (e12.trans (e13.trans (e14.trans (e15.trans (e16.trans (e17.trans e18)))))))))))))))))).get
            have gG_ := (hG_.ext (e3.trans (e4.trans (e5.trans (e6.trans (e7.trans (e8.trans (e9.trans (e10.trans (e11.trans (e12.trans (e13.trans (e14.trans (e15.trans (e16.trans (e17.trans e18)))))))))))))))).get
            have gO_ := (hO_.ext (e5.trans (e6.trans (e7.trans (e8.trans (e9.trans (e10.trans (e11.trans (e12.trans (e13.trans (e14.trans (e15.trans (e16.trans (e17.trans e18)))))))))))))).get
            have gQ_ := (hQ_.ext (e9.trans (e10.trans (e11.trans (e12.trans (e13.trans (e14.trans (e15.trans (e16.trans (e17.trans e18)))))))))).get
            have gR_ := (hR_.ext (e9.trans (e10.trans (e11.trans (e12.trans (e13.trans (e14.trans (e15.trans (e16.trans (e17.trans e18)))))))))).get
            have gU_ := (hU_.ext (e11.trans (e12.trans (e13.trans (e14.trans (e15.trans (e16.trans (e17.trans e18)))))))).get
            have gV_ := (hV_.ext (e11.trans (e12.trans (e13.trans (e14.trans (e15.trans (e16.trans (e17.trans e18)))))))).get
            have gM_ := (hM_.ext (e16.trans (e17.trans e18))).get
            have gN_ := (hN_.ext (e16.trans (e17.trans e18))).get
            have gP_ := (hP_.ext e18).get
            simp (disch := first | assumption | omega | (simp only [lens]; omega)) only [eqs, ↓gvd_succ, ↓gvd_zero, ↓and_of, im_of, im_of trivial, vals, lsts, tys, hP, hst, initS, Nat.reduceBEq, Nat.reduceAdd, Nat.reduceMul, Nat.reduceSub, Nat.reduceDiv, Nat.reduceMod, Nat.reducePow, Nat.reduceLT, Nat.reduceLeDiff, Nat.reduceEqDiff, Int.reduceAdd, Int.reduceSub, Int.reduceNeg, Int.reduceMul, Int.reduceToNat, Int.reducePow, Int.reduceLE, Int.reduceLT, Int.reduceEq, Int.reduceNe, reduceIte, reduceCtorEq, ne_eq, not_true_eq_false, not_false_eq_true, true_and, and_true, and_self, true_implies, imp_self, implies_true, decide_true, decide_false, Bool.not_true, Bool.not_false, Bool.and_true, Bool.and_false, Bool.true_and, Bool.false_and, Bool.and_self, decide_eq_true_eq, eq_self, gA, gB, gG_, gO_, gQ_, gR_, gU_, gV_, gM_, gN_, gP_]
            refine E_call (hP ▸ z_Add) ⟨_, _, _, _, _, _, rfl, hd.toZ, (hb.toZ.ext (e15.trans (e16.trans (e17.trans e18)))), by omega, by omega, fun ve T19 e19 he => ?_⟩
            dsimp only at he
            rw [hr1] at he
            have gA := (hA.ext (e1.trans (e2.trans (e3.trans (e4.trans (e5.trans (e6.trans (e7.trans (e8.trans (e9.trans (e10.trans (e11.trans (e12.trans (e13.trans (e14.trans (e15.trans (e16.trans (e17.trans (e18.trans e19))))))))))))))))))).get
            have gB := (hB.ext (e1.trans (e2.trans (e3.trans (e4.trans (e5.trans (e6.trans (e7.trans (e8.trans (e9.trans (e10.trans (e11.trans (e12.trans (e13.trans (e14.trans (e15.trans (e16.trans (e17.trans (e18.trans e19))))))))))))))))))).get
            have gG_ := (hG_.ext (e3.trans (e4.trans (e5.trans (e6.trans (e7.trans (e8.trans (e9.trans (e10.trans (e11.trans (e12.trans (e13.trans (e14.trans (e15.trans (e16.trans (e17.trans (e18.trans e19))))))))))))))))).get
            have gO_ := (hO_.ext (e5.trans (e6.trans (e7.trans (e8.trans (e9.trans (e10.trans (e11.trans (e12.trans (e13.trans (e14.trans (e15.trans (e16.trans (e17.trans (e18.trans e19))))))))))))))).get
            have gQ_ := (hQ_.ext (e9.trans (e10.trans (e11.trans (e12.trans (e13.trans (e14.trans (e15.trans (e16.trans (e17.trans (e18.trans e19))))))))))).get
            have gR_ := (hR_.ext (e9.trans (e10.trans (e11.trans (e12.trans (e13.trans (e14.trans (e15.trans (e16.trans (e17.trans (e18.trans e19))))))))))).get
            have gU_ := (hU_.ext (e11.trans (e12.trans (e13.trans (e14.trans (e15.trans (e16.trans (e17.trans (e18.trans e19))))))))).get
            have gV_ := (hV_.ext (e11.trans (e12.trans (e13.trans (e14.trans (e15.trans (e16.trans (e17.trans (e18.trans e19))))))))).get
            have gM_ := (hM_.ext (e16.trans (e17.trans (e18.trans e19)))).get
            have gN_ := (hN_.ext (e16.trans (e17.trans (e18.trans e19)))).get
            have gP_ := (hP_.ext (e18.trans e19)).get
            simp (disch := first | assumption | omega | (simp only [lens]; omega)) only [eqs, ↓gvd_succ, ↓gvd_zero, ↓and_of, im_of, im_of trivial, vals, lsts, tys, hP, hst, initS, Nat.reduceBEq, Nat.reduceAdd, Nat.reduceMul, Nat.reduceSub, Nat.reduceDiv, Nat.reduceMod, Nat.reducePow, Nat.reduceLT, Nat.reduceLeDiff, Nat.reduceEqDiff, Int.reduceAdd, Int.reduceSub, Int.reduceNeg, Int.reduceMul, Int.reduceToNat, Int.reducePow, Int.reduceLE, Int.reduceLT, Int.reduceEq, Int.reduceNe, reduceIte, reduceCtorEq, ne_eq, not_true_eq_false, not_false_eq_true, true_and, and_true, and_self, true_implies, imp_self, implies_true, decide_true, decide_false, Bool.not_true, Bool.not_false, Bool.and_true, Bool.and_false, Bool.true_and, Bool.false_and, Bool.and_self, decide_eq_true_eq, eq_self, gA, gB, gG_, gO_, gQ_, gR_, gU_, gV_, gM_, gN_, gP_]
            refine E_call (hP ▸ z_Cmp) ⟨_, _, _, _, _, _, rfl, he.toZ, (hX.ext (e0.trans (e1.trans (e2.trans (e3.trans (e4.trans (e5.trans (e6.trans (e7.trans (e8.trans (e9.trans (e10.trans (e11.trans (e12.trans (e13.trans (e14.trans (e15.trans (e16.trans (e17.trans (e18.trans e19)))))))))))))))))))), by omega, by omega, fun T20 e20 => ?_⟩
            have gA := (hA.ext (e1.trans (e2.trans (e3.trans (e4.trans (e5.trans (e6.trans (e7.trans (e8.trans (e9.trans (e10.trans (e11.trans (e12.trans (e13.trans (e14.trans (e15.trans (e16.trans (e17.trans (e18.trans (e19.trans e20)))))))))))))))))))).get
            have gB := (hB.ext (e1.trans (e2.trans (e3.trans (e4.trans (e5.trans (e6.trans (e7.trans (e8.trans (e9.trans (e10.trans (e11.trans (e12.trans (e13.trans (e14.trans (e15.trans (e16.trans (e17.trans (e18.trans (e19.trans e20)))))))))))))))))))).get
            have gG_ := (hG_.ext (e3.trans (e4.trans (e5.trans (e6.trans (e7.trans (e8.trans (e9.trans (e10.trans (e11.trans (e12.trans (e13.trans (e14.trans (e15.trans (e16.trans (e17.trans (e18.trans (e19.trans e20)))))))))))))))))).get
            have gO_ := (hO_.ext (e5.trans (e6.trans (e7.trans (e8.trans (e9.trans (e10.trans (e11.trans (e12.trans (e13.trans (e14.trans (e15.trans (e16.trans (e17.trans (e18.trans (e19.trans e20)))))))))))))))).get
            have gQ_ := (hQ_.ext (e9.trans (e10.trans (e11.trans (e12.trans (e13.trans (e14.trans (e15.trans (e16.trans (e17.trans (e18.trans (e19.trans e20)))))))))))).get
            have gR_ := (hR_.ext (e9.trans (e10.trans (e11.trans (e12.trans (e13.trans (e14.trans (e15.trans (e16.trans (e17.trans (e18.trans (e19.trans e20)))))))))))).get
            have gU_ := (hU_.ext (e11.trans (e12.trans (e13.trans (e14.trans (e15.trans (e16.trans (e17.trans (e18.trans (e19.trans e20)))))))))).get
            have gV_ := (hV_.ext (e11.trans (e12.trans (e13.trans (e14.trans (e15.trans (e16.trans (e17.trans (e18.trans (e19.trans e20)))))))))).get
            have gM_ := (hM_.ext (e16.trans (e17.trans (e18.trans (e19.trans e20))))).get
            have gN_ := (hN_.ext (e16.trans (e17.trans (e18.trans (e19.trans e20))))).get
            have gP_ := (hP_.ext (e18.trans (e19.trans e20))).get
            simp (disch := first | assumption | omega | (simp only [lens]; omega)) only [eqs, ↓gvd_succ, ↓gvd_zero, ↓and_of, im_of, im_of trivial, vals, lsts, tys, hP, hst, initS, Nat.reduceBEq, Nat.reduceAdd, Nat.reduceMul, Nat.reduceSub, Nat.reduceDiv, Nat.reduceMod, Nat.reducePow, Nat.reduceLT, Nat.reduceLeDiff, Nat.reduceEqDiff, Int.reduceAdd, Int.reduceSub, Int.reduceNeg, Int.reduceMul, Int.reduceToNat, Int.reducePow, Int.reduceLE, Int.reduceLT, Int.reduceEq, Int.reduceNe, reduceIte, reduceCtorEq, ne_eq, not_true_eq_false, not_false_eq_true, true_and, and_true, and_self, true_implies, imp_self, implies_true, decide_true, decide_false, Bool.not_true, Bool.not_false, Bool.and_true, Bool.and_false, Bool.true_and, Bool.false_and, Bool.and_self, decide_eq_true_eq, eq_self, gA, gB, gG_, gO_, gQ_, gR_, gU_, gV_, gM_, gN_, gP_, cmp_zero, cmp_neg, cmp_pos, cmp_nneg, cmp_npos, cmp_self]
            refine E_call (hP ▸ z_Mul) ⟨_, _, _, _, _, _, rfl, (hc.toZ.ext (e17.trans (e18.trans (e19.trans e20)))), (hc.toZ.ext (e17.trans (e18.trans (e19.trans e20)))), by omega, by omega, fun vf T21 e21 hf => ?_⟩
            dsimp only at hf
            have gA := (hA.ext (e1.trans (e2.trans (e3.trans (e4.trans (e5.trans (e6.trans (e7.trans (e8.trans (e9.trans (e10.trans (e11.trans (e12.trans (e13.trans (e14.trans (e15.trans (e16.trans (e17.trans (e18.trans (e19.trans (e20.trans e21))))))))))))))))))))).get
            have gB := (hB.ext (e1.trans (e2.trans (e3.trans (e4.trans (e5.trans (e6.trans (e7.trans (e8.trans (e9.trans (e10.trans (e11.trans (e12.trans (e13.trans (e14.trans (e15.trans (e16.trans (e17.trans (e18.trans (e19.trans (e20.trans e21))))))))))))))))))))).get
            have gG_ := (hG_.ext (e3.trans (e4.trans (e5.trans (e6.trans (e7.trans (e8.trans (e9.trans (e10.trans (e11.trans (e12.trans (e13.trans (e14.trans (e15.trans (e16.trans (e17.trans (e18.trans (e19.trans (e20.trans e21))))))))))))))))))).get
            have gO_ := (hO_.ext (e5.trans (e6.trans (e7.trans (e8.trans (e9.trans (e10.trans (e11.trans (e12.trans (e13.trans (e14.trans (e15.trans (e16.trans (e17.trans (e18.trans (e19.trans (e20.trans e21))))))))))))))))).get
            have gQ_ := (hQ_.ext (e9.trans (e10.trans (e11.trans (e12.trans (e13.trans (e14.trans (e15.trans (e16.trans (e17.trans (e18.trans (e19.trans (e20.trans e21))))))))))))).get
            have gR_ := (hR_.ext (e9.trans (e10.trans (e11.trans (e12.trans (e13.trans (e14.trans (e15.trans (e16.trans (e17.trans (e18.trans (e19.trans (e20.trans e21))))))))))))).get
            have gU_ := (hU_.ext (e11.trans (e12.trans (e13.trans (e14.trans (e15.trans (e16.trans (e17.trans (e18.trans (e19.trans (e20.trans e21))))))))))).get
            have gV_ := (hV_.ext (e11.trans (e12.trans (e13.trans (e14.trans (e15.trans (e16.trans (e17.trans (e18.trans (e19.trans (e20.trans e21))))))))))).get
            have gM_ := (hM_.ext (e16.trans (e17.trans (e18.trans (e19.trans (e20.trans e21)))))).get
            have gN_ := (hN_.ext (e16.trans (e17.trans (e18.trans (e19.trans (e20.trans e21)))))).get
            have gP_ := (hP_.ext (e18.trans (e19.trans (e20.trans e21)))).get
            simp (disch := first | assumption | omega | (simp only [lens]; omega)) only [eqs, ↓gvd_succ, ↓gvd_zero, ↓and_of, im_of, im_of trivial, vals, lsts, tys, hP, hst, initS, Nat.reduceBEq, Nat.reduceAdd, Nat.reduceMul, Nat.reduceSub, Nat.reduceDiv, Nat.reduceMod, Nat.reducePow, Nat.reduceLT, Nat.reduceLeDiff, Nat.reduceEqDiff, Int.reduceAdd, Int.reduceSub, Int.reduceNeg, Int.reduceMul, Int.reduceToNat, Int.reducePow, Int.reduceLE, Int.reduceLT, Int.reduceEq, Int.reduceNe, reduceIte, reduceCtorEq, ne_eq, not_true_eq_false, not_false_eq_true, true_and, and_true, and_self, true_implies, imp_self, implies_true, decide_true, decide_false, Bool.not_true, Bool.not_false, Bool.and_true, Bool.and_false, Bool.true_and, Bool.false_and, Bool.and_self, decide_eq_true_eq, eq_self, gA, gB, gG_, gO_, gQ_, gR_, gU_, gV_, gM_, gN_, gP_]
            refine E_call (hP ▸ z_Cmp) ⟨_, _, _, _, _, _, rfl, hf.toZ, (hX.ext (e0.trans (e1.trans (e2.trans (e3.trans (e4.trans (e5.trans (e6.trans (e7.trans (e8.trans (e9.trans (e10.trans (e11.trans (e12.trans (e13.trans (e14.trans (e15.trans (e16.trans (e17.trans (e18.trans (e19.trans (e20.trans e21)))))))))))))))))))))), by omega, by omega, fun T22 e22 => ?_⟩
            have gA := (hA.ext (e1.trans (e2.trans (e3.trans (e4.trans (e5.trans (e6.trans (e7.trans (e8.trans (e9.trans (e10.trans (e11.trans (e12.trans (e13.trans (e14.trans (e15.trans (e16.trans (e17.trans (e18.trans (e19.trans (e20.trans (e21.trans e22)))))))))))))))))))))).get
            have gB := (hB.ext (e1.trans (e2.trans (e3.trans (e4.trans (e5.trans (e6.trans (e7.trans (e8.trans (e9.trans (e10.trans (e11.trans (e12.trans (e13.trans (e14.trans (e15.trans (e16.trans (e17.trans (e18.trans (e19.trans (e20.trans (e21.trans e22)))))))))))))))))))))).get
            have gG_ := (hG_.ext (e3.trans (e4.trans (e5.trans (e6.trans (e7.trans (e8.trans (e9.trans (e10.trans (e11.trans (e12.trans (e13.trans (e14.trans (e15.trans (e16.trans (e17.trans (e18.trans (e19.trans (e20.trans (e21.trans e22)))))))))))))))))))).get
            have gO_ := (hO_.ext (e5.trans (e6.trans (e7.trans (e8.trans (e9.trans (e10.trans (e11.trans (e12.trans (e13.trans (e14.trans (e15.trans (e16.trans (e17.trans (e18.trans (e19.trans (e20.trans (e21.trans e22)))))))))))))))))).get
            have gQ_ := (hQ_.ext (e9.trans (e10.trans (e11.trans (e12.trans (e13.trans (e14.trans (e15.trans (e16.trans (e17.trans (e18.trans (e19.trans (e20.trans (e21.trans e22)))))))))))))).get
            have gR_ := (hR_.ext (e9.trans (e10.trans (e11.trans (e12.trans (e13.trans (e14.trans (e15.trans (e16.trans (e17.trans (e18.trans (e19.trans (e20.trans (e21.trans e22)))))))))))))).get
            have gU_ := (hU_.ext (e11.trans (e12.trans (e13.trans (e14.trans (e15.trans (e16.trans (e17.trans (e18.trans (e19.trans (e20.trans (e21.trans e22)))))))))))).get
            have gV_ := (hV_.ext (e11.trans (e12.trans (e13.trans (e14.trans (e15.trans (e16.trans (e17.trans (e18.trans (e19.trans (e20.trans (e21.trans e22)))))))))))).get
            have gM_ := (hM_.ext (e16.trans (e17.trans (e18.trans (e19.trans (e20.trans (e21.trans e22))))))).get
            have gN_ := (hN_.ext (e16.trans (e17.trans (e18.trans (e19.trans (e20.trans (e21.trans e22))))))).get
            have gP_ := (hP_.ext (e18.trans (e19.trans (e20.trans (e21.trans e22))))).get
            simp (disch := first | assumption | omega | (simp only [lens]; omega)) only [eqs, ↓gvd_succ, ↓gvd_zero, ↓and_of, im_of, im_of trivial, vals, lsts, tys, hP, hst, initS, Nat.reduceBEq, Nat.reduceAdd, Nat.reduceMul, Nat.reduceSub, Nat.reduceDiv, Nat.reduceMod, Nat.reducePow, Nat.reduceLT, Nat.reduceLeDiff, Nat.reduceEqDiff, Int.reduceAdd, Int.reduceSub, Int.reduceNeg, Int.reduceMul, Int.reduceToNat, Int.reducePow, Int.reduceLE, Int.reduceLT, Int.reduceEq, Int.reduceNe, reduceIte, reduceCtorEq, ne_eq, not_true_eq_false, not_false_eq_true, true_and, and_true, and_self, true_implies, imp_self, implies_true, decide_true, decide_false, Bool.not_true, Bool.not_false, Bool.and_true, Bool.and_false, Bool.true_and, Bool.false_and, Bool.and_self, decide_eq_true_eq, eq_self, gA, gB, gG_, gO_, gQ_, gR_, gU_, gV_, gM_, gN_, gP_, cmp_zero, cmp_neg, cmp_pos, cmp_nneg, cmp_npos, cmp_self, hr2]
            refine E_call (hP ▸ z_Of) ⟨-1, rfl, by omega, by omega, fun vi T23 e23 hi => ?_⟩
            have gA := (hA.ext (e1.trans (e2.trans (e3.trans (e4.trans (e5.trans (e6.trans (e7.trans (e8.trans (e9.trans (e10.trans (e11.trans (e12.trans (e13.trans (e14.trans (e15.trans (e16.trans (e17.trans (e18.trans (e19.trans (e20.trans (e21.trans (e22.trans e23))))))))))))))))))))))).get
            have gB := (hB.ext (e1.trans (e2.trans (e3.trans (e4.trans (e5.trans (e6.trans (e7.trans (e8.trans (e9.trans (e10.trans (e11.trans (e12.trans (e13.trans (e14.trans (e15.trans (e16.trans (e17.trans (e18.trans (e19.trans (e20.trans (e21.trans (e22.trans e23))))))))))))))))))))))).get
            have gG_ := (hG_.ext (e3.trans (e4.trans (e5.trans (e6.trans (e7.trans (e8.trans (e9.trans (e10.trans (e11.trans (e12.trans (e13.trans (e14.trans (e15.trans (e16.trans (e17.trans (e18.trans (e19.trans (e20.trans (e21.trans (e22.trans e23))))))))))))))))))))).get
            have gO_ := (hO_.ext (e5.trans (e6.trans (e7.trans (e8.trans (e9.trans (e10.trans (e11.trans (e12.trans (e13.trans (e14.trans (e15.trans (e16.trans (e17.trans (e18.trans (e19.trans (e20.trans (e21.trans (e22.trans e23))))))))))))))))))).get
            have gQ_ := (hQ_.ext (e9.trans (e10.trans (e11.trans (e12.trans (e13.trans (e14.trans (e15.trans (e16.trans (e17.trans (e18.trans (e19.trans (e20.trans (e21.trans (e22.trans e23))))))))))))))).get
            have gR_ := (hR_.ext (e9.trans (e10.trans (e11.trans (e12.trans (e13.trans (e14.trans (e15.trans (e16.trans (e17.trans (e18.trans (e19.trans (e20.trans (e21.trans (e22.trans e23))))))))))))))).get
            have gU_ := (hU_.ext (e11.trans (e12.trans (e13.trans (e14.trans (e15.trans (e16.trans (e17.trans (e18.trans (e19.trans (e20.trans (e21.trans (e22.trans e23))))))))))))).get
            have gV_ := (hV_.ext (e11.trans (e12.trans (e13.trans (e14.trans (e15.trans (e16.trans (e17.trans (e18.trans (e19.trans (e20.trans (e21.trans (e22.trans e23))))))))))))).get
            have gM_ := (hM_.ext (e16.trans (e17.trans (e18.trans (e19.trans (e20.trans (e21.trans (e22.trans e23)))))))).get
            have gN_ := (hN_.ext (e16.trans (e17.trans (e18.trans (e19.trans (e20.trans (e21.trans (e22.trans e23)))))))).get
            have gP_ := (hP_.ext (e18.trans (e19.trans (e20.trans (e21.trans (e22.trans e23)))))).get
            simp (disch := first | assumption | omega | (simp only [lens]; omega)) only [eqs, ↓gvd_succ, ↓gvd_zero, ↓and_of, im_of, im_of trivial, vals, lsts, tys, hP, hst, initS, Nat.reduceBEq, Nat.reduceAdd, Nat.reduceMul, Nat.reduceSub, Nat.reduceDiv, Nat.reduceMod, Nat.reducePow, Nat.reduceLT, Nat.reduceLeDiff, Nat.reduceEqDiff, Int.reduceAdd, Int.reduceSub, Int.reduceNeg, Int.reduceMul, Int.reduceToNat, Int.reducePow, Int.reduceLE, Int.reduceLT, Int.reduceEq, Int.reduceNe, reduceIte, reduceCtorEq, ne_eq, not_true_eq_false, not_false_eq_true, true_and, and_true, and_self, true_implies, imp_self, implies_true, decide_true, decide_false, Bool.not_true, Bool.not_false, Bool.and_true, Bool.and_false, Bool.true_and, Bool.false_and, Bool.and_self, decide_eq_true_eq, eq_self, gA, gB, gG_, gO_, gQ_, gR_, gU_, gV_, gM_, gN_, gP_]
            refine E_call (hP ▸ z_Cmp) ⟨_, _, _, _, _, _, rfl, (hb.toZ.ext (e15.trans (e16.trans (e17.trans (e18.trans (e19.trans (e20.trans (e21.trans (e22.trans e23))))))))), hi.toZ, by omega, by omega, fun T24 e24 => ?_⟩
            have gA := (hA.ext (e1.trans (e2.trans (e3.trans (e4.trans (e5.trans (e6.trans (e7.trans (e8.trans (e9.trans (e10.trans (e11.trans (e12.trans (e13.trans (e14.trans (e15.trans (e16.trans (e17.trans (e18.trans (e19.trans (e20.trans (e21.trans (e22.trans (e23.trans e24)))))))))))))))))))))))).get
            have gB := (hB.ext (e1.trans (e2.trans (e3.trans (e4.trans (e5.trans (e6.trans (e7.trans (e8.trans (e9.trans (e10.trans (e11.trans (e12.trans (e13.trans (e14.trans (e15.trans (e16.trans (e17.trans (e18.trans (e19.trans (e20.trans (e21.trans (e22.trans (e23.trans e24)))))))))))))))))))))))).get
            have gG_ := (hG_.ext (e3.trans (e4.trans (e5.trans (e6.trans (e7.trans (e8.trans (e9.trans (e10.trans (e11.trans (e12.trans (e13.trans (e14.trans (e15.trans (e16.trans (e17.trans (e18.trans (e19.trans (e20.trans (e21.trans (e22.trans (e23.trans e24)))))))))))))))))))))).get
            have gO_ := (hO_.ext (e5.trans (e6.trans (e7.trans (e8.trans (e9.trans (e10.trans (e11.trans (e12.trans (e13.trans (e14.trans (e15.trans (e16.trans (e17.trans (e18.trans (e19.trans (e20.trans (e21.trans (e22.trans (e23.trans e24)))))))))))))))))))).get
            have gQ_ := (hQ_.ext (e9.trans (e10.trans (e11.trans (e12.trans (e13.trans (e14.trans (e15.trans (e16.trans (e17.trans (e18.trans (e19.trans (e20.trans (e21.trans (e22.trans (e23.trans e24)))))))))))))))).get
            have gR_ := (hR_.ext (e9.trans (e10.trans (e11.trans (e12.trans (e13.trans (e14.trans (e15.trans (e16.trans (e17.trans (e18.trans (e19.trans (e20.trans (e21.trans (e22.trans (e23.trans e24)))))))))))))))).get
            have gU_ := (hU_.ext (e11.trans (e12.trans (e13.trans (e14.trans (e15.trans (e16.trans (e17.trans (e18.trans (e19.trans (e20.trans (e21.trans (e22.trans (e23.trans e24)))))))))))))).get
            have gV_ := (hV_.ext (e11.trans (e12.trans (e13.trans (e14.trans (e15.trans (e16.trans (e17.trans (e18.trans (e19.trans (e20.trans (e21.trans (e22.trans (e23.trans e24)))))))))))))).get
            have gM_ := (hM_.ext (e16.trans (e17.trans (e18.trans (e19.trans (e20.trans (e21.trans (e22.trans (e23.trans e24))))))))).get
            have gN_ := (hN_.ext (e16.trans (e17.trans (e18.trans (e19.trans (e20.trans (e21.trans (e22.trans (e23.trans e24))))))))).get
            have gP_ := (hP_.ext (e18.trans (e19.trans (e20.trans (e21.trans (e22.trans (e23.trans e24))))))).get
            simp (disch := first | assumption | omega | (simp only [lens]; omega)) only [eqs, ↓gvd_succ, ↓gvd_zero, ↓and_of, im_of, im_of trivial, vals, lsts, tys, hP, hst, initS, Nat.reduceBEq, Nat.reduceAdd, Nat.reduceMul, Nat.reduceSub, Nat.reduceDiv, Nat.reduceMod, Nat.reducePow, Nat.reduceLT, Nat.reduceLeDiff, Nat.reduceEqDiff, Int.reduceAdd, Int.reduceSub, Int.reduceNeg, Int.reduceMul, Int.reduceToNat, Int.reducePow, Int.reduceLE, Int.reduceLT, Int.reduceEq, Int.reduceNe, reduceIte, reduceCtorEq, ne_eq, not_true_eq_false, not_false_eq_true, true_and, and_true, and_self, true_implies, imp_self, implies_true, decide_true, decide_false, Bool.not_true, Bool.not_false, Bool.and_true, Bool.and_false, Bool.true_and, Bool.false_and, Bool.and_self, decide_eq_true_eq, eq_self, gA, gB, gG_, gO_, gQ_, gR_, gU_, gV_, gM_, gN_, gP_, cmp_zero, cmp_neg, cmp_pos, cmp_nneg, cmp_npos, cmp_self, r2]
            refine E_call (hP ▸ s_klives) ⟨rfl, fun T25 e25 => ?_⟩
            simp (disch := first | assumption | omega | (simp only [lens]; omega)) only [eqs, ↓gvd_succ, ↓gvd_zero, ↓and_of, im_of, im_of trivial, vals, lsts, tys, hP, hst, initS, Nat.reduceBEq, Nat.reduceAdd, Nat.reduceMul, Nat.reduceSub, Nat.reduceDiv, Nat.reduceMod, Nat.reducePow, Nat.reduceLT, Nat.reduceLeDiff, Nat.reduceEqDiff, Int.reduceAdd, Int.reduceSub, Int.reduceNeg, Int.reduceMul, Int.reduceToNat, Int.reducePow, Int.reduceLE, Int.reduceLT, Int.reduceEq, Int.reduceNe, reduceIte, reduceCtorEq, ne_eq, not_true_eq_false, not_false_eq_true, true_and, and_true, and_self, true_implies, imp_self, implies_true, decide_true, decide_false, Bool.not_true, Bool.not_false, Bool.and_true, Bool.and_false, Bool.true_and, Bool.false_and, Bool.and_self, decide_eq_true_eq, eq_self]
            exact hK _ (e0.trans (e1.trans (e2.trans (e3.trans (e4.trans (e5.trans (e6.trans (e7.trans (e8.trans (e9.trans (e10.trans (e11.trans (e12.trans (e13.trans (e14.trans (e15.trans (e16.trans (e17.trans (e18.trans (e19.trans (e20.trans (e21.trans (e22.trans (e23.trans (e24.trans e25)))))))))))))))))))))))))
        · have hg0 : g = 0 := by omega
          have hz := Nat.gcd_eq_zero_iff.1 (hg.trans hg0)
          have zx : Zx = 0 := by omega
          have zy : Zy = 0 := by omega
          have gA := (hA.ext (e1.trans (e2.trans (e3.trans (e4.trans (e5.trans e6)))))).get
          have gB := (hB.ext (e1.trans (e2.trans (e3.trans (e4.trans (e5.trans e6)))))).get
          have gG_ := (hG_.ext (e3.trans (e4.trans (e5.trans e6)))).get
          have gO_ := (hO_.ext (e5.trans e6)).get
          simp (disch := first | assumption | omega | (simp only [lens]; omega)) only [eqs, ↓gvd_succ, ↓gvd_zero, ↓and_of, im_of, im_of trivial, vals, lsts, tys, hP, hst, initS, Nat.reduceBEq, Nat.reduceAdd, Nat.reduceMul, Nat.reduceSub, Nat.reduceDiv, Nat.reduceMod, Nat.reducePow, Nat.reduceLT, Nat.reduceLeDiff, Nat.reduceEqDiff, Int.reduceAdd, Int.reduceSub, Int.reduceNeg, Int.reduceMul, Int.reduceToNat, Int.reducePow, Int.reduceLE, Int.reduceLT, Int.reduceEq, Int.reduceNe, reduceIte, reduceCtorEq, ne_eq, not_true_eq_false, not_false_eq_true, true_and, and_true, and_self, true_implies, imp_self, implies_true, decide_true, decide_false, Bool.not_true, Bool.not_false, Bool.and_true, Bool.and_false, Bool.true_and, Bool.false_and, Bool.and_self, decide_eq_true_eq, eq_self, gA, gB, gG_, gO_, h]
          refine V_draw [0, 4, 1, 2, 3, 5, 6, 7, 8, 9] (by kernel_rfl) (.cons rfl <| .cons rfl <| .cons rfl <| .cons rfl <| .cons rfl <| .cons rfl <| .cons rfl <| .cons rfl <| .cons rfl <| .cons rfl <| .nil) ?_
          have gA := (hA.ext (e1.trans (e2.trans (e3.trans (e4.trans (e5.trans e6)))))).get
          have gB := (hB.ext (e1.trans (e2.trans (e3.trans (e4.trans (e5.trans e6)))))).get
          have gG_ := (hG_.ext (e3.trans (e4.trans (e5.trans e6)))).get
          have gO_ := (hO_.ext (e5.trans e6)).get
          simp (disch := first | assumption | omega | (simp only [lens]; omega)) only [eqs, ↓gvd_succ, ↓gvd_zero, ↓and_of, im_of, im_of trivial, vals, lsts, tys, hP, hst, initS, Nat.reduceBEq, Nat.reduceAdd, Nat.reduceMul, Nat.reduceSub, Nat.reduceDiv, Nat.reduceMod, Nat.reducePow, Nat.reduceLT, Nat.reduceLeDiff, Nat.reduceEqDiff, Int.reduceAdd, Int.reduceSub, Int.reduceNeg, Int.reduceMul, Int.reduceToNat, Int.reducePow, Int.reduceLE, Int.reduceLT, Int.reduceEq, Int.reduceNe, reduceIte, reduceCtorEq, ne_eq, not_true_eq_false, not_false_eq_true, true_and, and_true, and_self, true_implies, imp_self, implies_true, decide_true, decide_false, Bool.not_true, Bool.not_false, Bool.and_true, Bool.and_false, Bool.true_and, Bool.false_and, Bool.and_self, decide_eq_true_eq, eq_self, gA, gB, gG_, gO_]
          refine E_call (hP ▸ z_Norm) ⟨_, _, _, rfl, (hX.ext (e0.trans (e1.trans (e2.trans (e3.trans (e4.trans (e5.trans e6))))))), by omega, fun v1 T7 e7 h1 => ?_⟩
          dsimp only [id] at h1
          rw [zx] at h1
          obtain ⟨p1, rfl, n1⟩ := h1.1
          have l1 := n1.leaf
          have h1 : NZ T7 (.agg [.val (.bool false), p1]) 0 _ := h1
          have s1 := nz_nil h1
          have gA := (hA.ext (e1.trans (e2.trans (e3.trans (e4.trans (e5.trans (e6.trans e7))))))).get
          have gB := (hB.ext (e1.trans (e2.trans (e3.trans (e4.trans (e5.trans (e6.trans e7))))))).get
          have gG_ := (hG_.ext (e3.trans (e4.trans (e5.trans (e6.trans e7))))).get
          have gO_ := (hO_.ext (e5.trans (e6.trans e7))).get
          simp (disch := first | assumption | omega | (simp only [lens]; omega)) only [eqs, ↓gvd_succ, ↓gvd_zero, ↓and_of, im_of, im_of trivial, vals, lsts, tys, hP, hst, initS, Nat.reduceBEq, Nat.reduceAdd, Nat.reduceMul, Nat.reduceSub, Nat.reduceDiv, Nat.reduceMod, Nat.reducePow, Nat.reduceLT, Nat.reduceLeDiff, Nat.reduceEqDiff, Int.reduceAdd, Int.reduceSub, Int.reduceNeg, Int.reduceMul, Int.reduceToNat, Int.reducePow, Int.reduceLE, Int.reduceLT, Int.reduceEq, Int.reduceNe, reduceIte, reduceCtorEq, ne_eq, not_true_eq_false, not_false_eq_true, true_and, and_true, and_self, true_implies, imp_self, implies_true, decide_true, decide_false, Bool.not_true, Bool.not_false, Bool.and_true, Bool.and_false, Bool.true_and, Bool.false_and, Bool.and_self, decide_eq_true_eq, eq_self, gA, gB, gG_, gO_, s1, zsum]
          refine E_call (hP ▸ z_Norm) ⟨_, _, _, rfl, (hY.ext (e0.trans (e1.trans (e2.trans (e3.trans (e4.trans (e5.trans (e6.trans e7)))))))), by omega, fun v2 T8 e8 h2 => ?_⟩
          dsimp only [id] at h2
          rw [zy] at h2
          obtain ⟨p2, rfl, n2⟩ := h2.1
          have l2 := n2.leaf
          have h2 : NZ T8 (.agg [.val (.bool false), p2]) 0 _ := h2
          have s2 := nz_nil h2
          have gA := (hA.ext (e1.trans (e2.trans (e3.trans (e4.trans (e5.trans (e6.trans (e7.trans e8)))))))).get
          have gB := (hB.ext (e1.trans (e2.trans (e3.trans (e4.trans (e5.trans (e6.trans (e7.trans e8)))))))).get
          have gG_ := (hG_.ext (e3.trans (e4.trans (e5.trans (e6.trans (e7.trans e8)))))).get
          have gO_ := (hO_.ext (e5.trans (e6.trans (e7.trans e8)))).get
          simp (disch := first | assumption | omega | (simp only [lens]; omega)) only [eqs, ↓gvd_succ, ↓gvd_zero, ↓and_of, im_of, im_of trivial, vals, lsts, tys, hP, hst, initS, Nat.reduceBEq, Nat.reduceAdd, Nat.reduceMul, Nat.reduceSub, Nat.reduceDiv, Nat.reduceMod, Nat.reducePow, Nat.reduceLT, Nat.reduceLeDiff, Nat.reduceEqDiff, Int.reduceAdd, Int.reduceSub, Int.reduceNeg, Int.reduceMul, Int.reduceToNat, Int.reducePow, Int.reduceLE, Int.reduceLT, Int.reduceEq, Int.reduceNe, reduceIte, reduceCtorEq, ne_eq, not_true_eq_false, not_false_eq_true, true_and, and_true, and_self, true_implies, imp_self, implies_true, decide_true, decide_false, Bool.not_true, Bool.not_false, Bool.and_true, Bool.and_false, Bool.true_and, Bool.false_and, Bool.and_self, decide_eq_true_eq, eq_self, gA, gB, gG_, gO_, s1, s2, zsum]
          refine E_call (hP ▸ z_Root) ⟨_, _, _, rfl, (hX.ext (e0.trans (e1.trans (e2.trans (e3.trans (e4.trans (e5.trans (e6.trans (e7.trans e8))))))))), by omega, fun hn T9 e9 => ?_, fun hn r q hr1 hr2 va vb T9 e9 ha hb => ?_⟩
          · exact absurd hn (by omega)
          · obtain ⟨pa, rfl, na⟩ := ha.1
            have la := na.leaf
            rw [nat_sgn (g := r)] at ha ⊢
            obtain ⟨pb, rfl, nb⟩ := hb.1
            have lb := nb.leaf
            rw [nat_sgn (g := q)] at hb ⊢
            have q9 := (e0.trans (e1.trans (e2.trans (e3.trans (e4.trans (e5.trans (e6.trans (e7.trans (e8.trans e9))))))))).len
            have q9x : st.length ≤ T9.length + 1 := by omega
            have gA := (hA.ext (e1.trans (e2.trans (e3.trans (e4.trans (e5.trans (e6.trans (e7.trans (e8.trans e9))))))))).get
            have gB := (hB.ext (e1.trans (e2.trans (e3.trans (e4.trans (e5.trans (e6.trans (e7.trans (e8.trans e9))))))))).get
            have gG_ := (hG_.ext (e3.trans (e4.trans (e5.trans (e6.trans (e7.trans (e8.trans e9))))))).get
            have gO_ := (hO_.ext (e5.trans (e6.trans (e7.trans (e8.trans e9))))).get
            simp (disch := first | assumption | omega | (simp only [lens]; omega)) only [eqs, ↓gvd_succ, ↓gvd_zero, ↓and_of, im_of, im_of trivial, vals, lsts, tys, hP, hst, initS, Nat.reduceBEq, Nat.reduceAdd, Nat.reduceMul, Nat.reduceSub, Nat.reduceDiv, Nat.reduceMod, Nat.reducePow, Nat.reduceLT, Nat.reduceLeDiff, Nat.reduceEqDiff, Int.reduceAdd, Int.reduceSub, Int.reduceNeg, Int.reduceMul, Int.reduceToNat, Int.reducePow, Int.reduceLE, Int.reduceLT, Int.reduceEq, Int.reduceNe, reduceIte, reduceCtorEq, ne_eq, not_true_eq_false, not_false_eq_true, true_and, and_true, and_self, true_implies, imp_self, implies_true, decide_true, decide_false, Bool.not_true, Bool.not_false, Bool.and_true, Bool.and_false, Bool.true_and, Bool.false_and, Bool.and_self, decide_eq_true_eq, eq_self, gA, gB, gG_, gO_, la, lb, q9, q9x]
            obtain ⟨T10, hT10⟩ : ∃ S, T9 ++ [some [.val (.bool false), pa], some [.val (.bool false), pb]] = S := ⟨_, rfl⟩
            have e10 : Ext T9 T10 := ⟨_, hT10.symm⟩
            have hM_ : At T10 (T9.length) [.val (.bool false), pa] := ⟨hT10 ▸ by rw [get_app0]; rfl⟩
            have hN_ : At T10 (T9.length + 1) [.val (.bool false), pb] := ⟨hT10 ▸ by rw [get_app]; rfl⟩
            rw [hT10]
            clear hT10
            have r1 : ¬(r : Int) + 1 < 0 := by omega
            have r2 : (-1 : Int) < q := by omega
            have gA := (hA.ext (e1.trans (e2.trans (e3.trans (e4.trans (e5.trans (e6.trans (e7.trans (e8.trans (e9.trans e10)))))))))).get
            have gB := (hB.ext (e1.trans (e2.trans (e3.trans (e4.trans (e5.trans (e6.trans (e7.trans (e8.trans (e9.trans e10)))))))))).get
            have gG_ := (hG_.ext (e3.trans (e4.trans (e5.trans (e6.trans (e7.trans (e8.trans (e9.trans e10)))))))).get
            have gO_ := (hO_.ext (e5.trans (e6.trans (e7.trans (e8.trans (e9.trans e10)))))).get
            have gM_ := (hM_.ext Ext.refl).get
            have gN_ := (hN_.ext Ext.refl).get
            simp (disch := first | assumption | omega | (simp only [lens]; omega)) only [eqs, ↓gvd_succ, ↓gvd_zero, ↓and_of, im_of, im_of trivial, vals, lsts, tys, hP, hst, initS, Nat.reduceBEq, Nat.reduceAdd, Nat.reduceMul, Nat.reduceSub, Nat.reduceDiv, Nat.reduceMod, Nat.reducePow, Nat.reduceLT, Nat.reduceLeDiff, Nat.reduceEqDiff, Int.reduceAdd, Int.reduceSub, Int.reduceNeg, Int.reduceMul, Int.reduceToNat, Int.reducePow, Int.reduceLE, Int.reduceLT, Int.reduceEq, Int.reduceNe, reduceIte, reduceCtorEq, ne_eq, not_true_eq_false, not_false_eq_true, true_and, and_true, and_self, true_implies, imp_self, implies_true, decide_true, decide_false, Bool.not_true, Bool.not_false, Bool.and_true, Bool.and_false, Bool.true_and, Bool.false_and, Bool.and_self, decide_eq_true_eq, eq_self, gA, gB, gG_, gO_, gM_, gN_]
            refine E_call (hP ▸ z_Add) ⟨_, _, _, _, _, _, rfl, (ha.toZ.ext e10), (hO.toZ.ext (e4.trans (e5.trans (e6.trans (e7.trans (e8.trans (e9.trans e10))))))), by omega, by omega, fun vc T11 e11 hc => ?_⟩
            dsimp only at hc
            obtain ⟨pc, rfl, nc⟩ := hc.1
            have lc := nc.leaf
            rw [decide_eq_false r1] at hc
            have r3 : decide ((r : Int) + 1 < 0) = false := decide_eq_false r1
            have q11 := (e0.trans (e1.trans (e2.trans (e3.trans (e4.trans (e5.trans (e6.trans (e7.trans (e8.trans (e9.trans (e10.trans e11))))))))))).len
            have gA := (hA.ext (e1.trans (e2.trans (e3.trans (e4.trans (e5.trans (e6.trans (e7.trans (e8.trans (e9.trans (e10.trans e11))))))))))).get
            have gB := (hB.ext (e1.trans (e2.trans (e3.trans (e4.trans (e5.trans (e6.trans (e7.trans (e8.trans (e9.trans (e10.trans e11))))))))))).get
            have gG_ := (hG_.ext (e3.trans (e4.trans (e5.trans (e6.trans (e7.trans (e8.trans (e9.trans (e10.trans e11))))))))).get
            have gO_ := (hO_.ext (e5.trans (e6.trans (e7.trans (e8.trans (e9.trans (e10.trans e11))))))).get
            have gM_ := (hM_.ext e11).get
            have gN_ := (hN_.ext e11).get
            simp (disch := first | assumption | omega | (simp only [lens]; omega)) only [eqs, ↓gvd_succ, ↓gvd_zero, ↓and_of, im_of, im_of trivial, vals, lsts, tys, hP, hst, initS, Nat.reduceBEq, Nat.reduceAdd, Nat.reduceMul, Nat.reduceSub, Nat.reduceDiv, Nat.reduceMod, Nat.reducePow, Nat.reduceLT, Nat.reduceLeDiff, Nat.reduceEqDiff, Int.reduceAdd, Int.reduceSub, Int.reduceNeg, Int.reduceMul, Int.reduceToNat, Int.reducePow, Int.reduceLE, Int.reduceLT, Int.reduceEq, Int.reduceNe, reduceIte, reduceCtorEq, ne_eq, not_true_eq_false, not_false_eq_true, true_and, and_true, and_self, true_implies, imp_self, implies_true, decide_true, decide_false, Bool.not_true, Bool.not_false, Bool.and_true, Bool.and_false, Bool.true_and, Bool.false_and, Bool.and_self, decide_eq_true_eq, eq_self, gA, gB, gG_, gO_, gM_, gN_, lc, r3, q11]
            obtain ⟨T12, hT12⟩ : ∃ S, T11 ++ [some [.val (.bool false), pc]] = S := ⟨_, rfl⟩
            have e12 : Ext T11 T12 := ⟨_, hT12.symm⟩
            have hP_ : At T12 (T11.length) [.val (.bool false), pc] := ⟨hT12 ▸ by rw [get_app0]; rfl⟩
            rw [hT12]
            clear hT12
            refine V_draw [0, 1, 3, 5, 2, 4, 6, 7, 8, 9, 10, 12, 11, 13, 14, 15, 16, 17, 18, 19, 20, 21, 22, 23, 24, 25] (by kernel_rfl) (.cons rfl <| .cons rfl <| .cons rfl <| .cons rfl <| .cons rfl <| .cons rfl <| .cons rfl <| .cons rfl <| .cons rfl <| .cons rfl <| .cons rfl <| .cons rfl <| .cons rfl <| .cons rfl <| .cons rfl <| .cons rfl <| .cons rfl <| .cons rfl <| .cons rfl <| .cons rfl <| .cons rfl <| .cons rfl <| .cons rfl <| .cons rfl <| .cons rfl <| .cons rfl <| .nil) ?_
            have gA := (hA.ext (e1.trans (e2.trans (e3.trans (e4.trans (e5.trans (e6.trans (e7.trans (e8.trans (e9.trans (e10.trans (e11.trans e12)))))))))))).get
            have gB := (hB.ext (e1.trans (e2.trans (e3.trans (e4.trans (e5.trans (e6.trans (e7.trans (e8.trans (e9.trans (e10.trans (e11.trans e12)))))))))))).get
            have gG_ := (hG_.ext (e3.trans (e4.trans (e5.trans (e6.trans (e7.trans (e8.trans (e9.trans (e10.trans (e11.trans e12)))))))))).get
            have gO_ := (hO_.ext (e5.trans (e6.trans (e7.trans (e8.trans (e9.trans (e10.trans (e11.trans e12)))))))).get
            have gM_ := (hM_.ext (e11.trans e12)).get
            have gN_ := (hN_.ext (e11.trans e12)).get
            have gP_ := (hP_.ext Ext.refl).get
            simp (disch := first | assumption | omega | (simp only [lens]; omega)) only [eqs, ↓gvd_succ, ↓gvd_zero, ↓and_of, im_of, im_of trivial, vals, lsts, tys, hP, hst, initS, Nat.reduceBEq, Nat.reduceAdd, Nat.reduceMul, Nat.reduceSub, Nat.reduceDiv, Nat.reduceMod, Nat.reducePow, Nat.reduceLT, Nat.reduceLeDiff, Nat.reduceEqDiff, Int.reduceAdd, Int.reduceSub, Int.reduceNeg, Int.reduceMul, Int.reduceToNat, Int.reducePow, Int.reduceLE, Int.reduceLT, Int.reduceEq, Int.reduceNe, reduceIte, reduceCtorEq, ne_eq, not_true_eq_false, not_false_eq_true, true_and, and_true, and_self, true_implies, imp_self, implies_true, decide_true, decide_false, Bool.not_true, Bool.not_false, Bool.and_true, Bool.and_false, Bool.true_and, Bool.false_and, Bool.and_self, decide_eq_true_eq, eq_self, gA, gB, gG_, gO_, gM_, gN_, gP_]
            refine E_call (hP ▸ z_Mul) ⟨_, _, _, _, _, _, rfl, (ha.toZ.ext (e10.trans (e11.trans e12))), (ha.toZ.ext (e10.trans (e11.trans e12))), by omega, by omega, fun vd T13 e13 hd => ?_⟩
            dsimp only at hd
            have gA := (hA.ext (e1.trans (e2.trans (e3.trans (e4.trans (e5.trans (e6.trans (e7.trans (e8.trans (e9.trans (e10.trans (e11.trans (e12.trans e13))))))))))))).get
            have gB := (hB.ext (e1.trans (e2.trans (e3.trans (e4.trans (e5.trans (e6.trans (e7.trans (e8.trans (e9.trans (e10.trans (e11.trans (e12.trans e13))))))))))))).get
            have gG_ := (hG_.ext (e3.trans (e4.trans (e5.trans (e6.trans (e7.trans (e8.trans (e9.trans (e10.trans (e11.trans (e12.trans e13))))))))))).get
            have gO_ := (hO_.ext (e5.trans (e6.trans (e7.trans (e8.trans (e9.trans (e10.trans (e11.trans (e12.trans e13))))))))).get
            have gM_ := (hM_.ext (e11.trans (e12.trans e13))).get
            have gN_ := (hN_.ext (e11.trans (e12.trans e13))).get
            have gP_ := (hP_.ext e13).get
            simp (disch := first | assumption | omega | (simp only [lens]; omega)) only [eqs, ↓gvd_succ, ↓gvd_zero, ↓and_of, im_of, im_of trivial, vals, lsts, tys, hP, hst, initS, Nat.reduceBEq, Nat.reduceAdd, Nat.reduceMul, Nat.reduceSub, Nat.reduceDiv, Nat.reduceMod, Nat.reducePow, Nat.reduceLT, Nat.reduceLeDiff, Nat.reduceEqDiff, Int.reduceAdd, Int.reduceSub, Int.reduceNeg, Int.reduceMul, Int.reduceToNat, Int.reducePow, Int.reduceLE, Int.reduceLT, Int.reduceEq, Int.reduceNe, reduceIte, reduceCtorEq, ne_eq, not_true_eq_false, not_false_eq_true, true_and, and_true, and_self, true_implies, imp_self, implies_true, decide_true, decide_false, Bool.not_true, Bool.not_false, Bool.and_true, Bool.and_false, Bool.true_and, Bool.false_and, Bool.and_self, decide_eq_true_eq, eq_self, gA, gB, gG_, gO_, gM_, gN_, gP_]
            refine E_call (hP ▸ z_Add) ⟨_, _, _, _, _, _, rfl, hd.toZ, (hb.toZ.ext (e10.trans (e11.trans (e12.trans e13)))), by omega, by omega, fun ve T14 e14 he => ?_⟩
            dsimp only at he
            rw [hr1] at he
            have gA := (hA.ext (e1.trans (e2.trans (e3.trans (e4.trans (e5.trans (e6.trans (e7.trans (e8.trans (e9.trans (e10.trans (e11.trans (e12.trans (e13.trans e14)))))))))))))).get
            have gB := (hB.ext (e1.trans (e2.trans (e3.trans (e4.trans (e5.trans (e6.trans (e7.trans (e8.trans (e9.trans (e10.trans (e11.trans (e12.trans (e13.trans e14)))))))))))))).get
            have gG_ := (hG_.ext (e3.trans (e4.trans (e5.trans (e6.trans (e7.trans (e8.trans (e9.trans (e10.trans (e11.trans (e12.trans (e13.trans e14)))))))))))).get
            have gO_ := (hO_.ext (e5.trans (e6.trans (e7.trans (e8.trans (e9.trans (e10.trans (e11.trans (e12.trans (e13.trans e14)))))))))).get
            have gM_ := (hM_.ext (e11.trans (e12.trans (e13.trans e14)))).get
            have gN_ := (hN_.ext (e11.trans (e12.trans (e13.trans e14)))).get
            have gP_ := (hP_.ext (e13.trans e14)).get
            simp (disch := first | assumption | omega | (simp only [lens]; omega)) only [eqs, ↓gvd_succ, ↓gvd_zero, ↓and_of, im_of, im_of trivial, vals, lsts, tys, hP, hst, initS, Nat.reduceBEq, Nat.reduceAdd, Nat.reduceMul, Nat.reduceSub, Nat.reduceDiv, Nat.reduceMod, Nat.reducePow, Nat.reduceLT, Nat.reduceLeDiff, Nat.reduceEqDiff, Int.reduceAdd, Int.reduceSub, Int.reduceNeg, Int.reduceMul, Int.reduceToNat, Int.reducePow, Int.reduceLE, Int.reduceLT, Int.reduceEq, Int.reduceNe, reduceIte, reduceCtorEq, ne_eq, not_true_eq_false, not_false_eq_true, true_and, and_true, and_self, true_implies, imp_self, implies_true, decide_true, decide_false, Bool.not_true, Bool.not_false, Bool.and_true, Bool.and_false, Bool.true_and, Bool.false_and, Bool.and_self, decide_eq_true_eq, eq_self, gA, gB, gG_, gO_, gM_, gN_, gP_]
            refine E_call (hP ▸ z_Cmp) ⟨_, _, _, _, _, _, rfl, he.toZ, (hX.ext (e0.trans (e1.trans (e2.trans (e3.trans (e4.trans (e5.trans (e6.trans (e7.trans (e8.trans (e9.trans (e10.trans (e11.trans (e12.trans (e13.trans e14))))))))))))))), by omega, by omega, fun T15 e15 => ?_⟩
            have gA := (hA.ext (e1.trans (e2.trans (e3.trans (e4.trans (e5.trans (e6.trans (e7.trans (e8.trans (e9.trans (e10.trans (e11.trans (e12.trans (e13.trans (e14.trans e15))))))))))))))).get
            have gB := (hB.ext (e1.trans (e2.trans (e3.trans (e4.trans (e5.trans (e6.trans (e7.trans (e8.trans (e9.trans (e10.trans (e11.trans (e12.trans (e13.trans (e14.trans e15))))))))))))))).get
            have gG_ := (hG_.ext (e3.trans (e4.trans (e5.trans (e6.trans (e7.trans (e8.trans (e9.trans (e10.trans (e11.trans (e12.trans (e13.trans (e14.trans e15))))))))))))).get
            have gO_ := (hO_.ext (e5.trans (e6.trans (e7.trans (e8.trans (e9.trans (e10.trans (e11.trans (e12.trans (e13.trans (e14.trans e15))))))))))).get
            have gM_ := (hM_.ext (e11.trans (e12.trans (e13.trans (e14.trans e15))))).get
            have gN_ := (hN_.ext (e11.trans (e12.trans (e13.trans (e14.trans e15))))).get
            have gP_ := (hP_.ext (e13.trans (e14.trans e15))).get
            simp (disch := first | assumption | omega | (simp only [lens]; omega)) only [eqs, ↓gvd_succ, ↓gvd_zero, ↓and_of, im_of, im_of trivial, vals, lsts, tys, hP, hst, initS, Nat.reduceBEq, Nat.reduceAdd, Nat.reduceMul, Nat.reduceSub, Nat.reduceDiv, Nat.reduceMod, Nat.reducePow, Nat.reduceLT, Nat.reduceLeDiff, Nat.reduceEqDiff, Int.reduceAdd, Int.reduceSub, Int.reduceNeg, Int.reduceMul, Int.reduceToNat, Int.reducePow, Int.reduceLE, Int.reduceLT, Int.reduceEq, Int.reduceNe, reduceIte, reduceCtorEq, ne_eq, not_true_eq_false, not_false_eq_true, true_and, and_true, and_self, true_implies, imp_self, implies_true, decide_true, decide_false, Bool.not_true, Bool.not_false, Bool.and_true, Bool.and_false, Bool.true_and, Bool.false_and, Bool.and_self, decide_eq_true_eq, eq_self, gA, gB, gG_, gO_, gM_, gN_, gP_, cmp_zero, cmp_neg, cmp_pos, cmp_nneg, cmp_npos, cmp_self]
            refine E_call (hP ▸ z_Mul) ⟨_, _, _, _, _, _, rfl, (hc.toZ.ext (e12.trans (e13.trans (e14.trans e15)))), (hc.toZ.ext (e12.trans (e13.trans (e14.trans e15)))), by omega, by omega, fun vf T16 e16 hf => ?_⟩
            dsimp only at hf
            have gA := (hA.ext (e1.trans (e2.trans (e3.trans (e4.trans (e5.trans (e6.trans (e7.trans (e8.trans (e9.trans (e10.trans (e11.trans (e12.trans (e13.trans (e14.trans (e15.trans e16)))))))))))))))).get
            have gB := (hB.ext (e1.trans (e2.trans (e3.trans (e4.trans (e5.trans (e6.trans (e7.trans (e8.trans (e9.trans (e10.trans (e11.trans (e12.trans (e13.trans (e14.trans (e15.trans e16)))))))))))))))).get
            have gG_ := (hG_.ext (e3.trans (e4.trans (e5.trans (e6.trans (e7.trans (e8.trans (e9.trans (e10.trans (e11.trans (e12.trans (e13.trans (e14.trans (e15.trans e16)))))))))))))).get
            have gO_ := (hO_.ext (e5.trans (e6.trans (e7.trans (e8.trans (e9.trans (e10.trans (e11.trans (e12.trans (e13.trans (e14.trans (e15.trans e16)))))))))))).get
            have gM_ := (hM_.ext (e11.trans (e12.trans (e13.trans (e14.trans (e15.trans e16)))))).get
            have gN_ := (hN_.ext (e11.trans (e12.trans (e13.trans (e14.trans (e15.trans e16)))))).get
            have gP_ := (hP_.ext (e13.trans (e14.trans (e15.trans e16)))).get
            simp (disch := first | assumption | omega | (simp only [lens]; omega)) only [eqs, ↓gvd_succ, ↓gvd_zero, ↓and_of, im_of, im_of trivial, vals, lsts, tys, hP, hst, initS, Nat.reduceBEq, Nat.reduceAdd, Nat.reduceMul, Nat.reduceSub, Nat.reduceDiv, Nat.reduceMod, Nat.reducePow, Nat.reduceLT, Nat.reduceLeDiff, Nat.reduceEqDiff, Int.reduceAdd, Int.reduceSub, Int.reduceNeg, Int.reduceMul, Int.reduceToNat, Int.reducePow, Int.reduceLE, Int.reduceLT, Int.reduceEq, Int.reduceNe, reduceIte, reduceCtorEq, ne_eq, not_true_eq_false, not_false_eq_true, true_and, and_true, and_self, true_implies, imp_self, implies_true, decide_true, decide_false, Bool.not_true, Bool.not_false, Bool.and_true, Bool.and_false, Bool.true_and, Bool.false_and, Bool.and_self, decide_eq_true_eq, eq_self, gA, gB, gG_, gO_, gM_, gN_, gP_]
            refine E_call (hP ▸ z_Cmp) ⟨_, _, _, _, _, _, rfl, hf.toZ, (hX.ext (e0.trans (e1.trans (e2.trans (e3.trans (e4.trans (e5.trans (e6.trans (e7.trans (e8.trans (e9.trans (e10.trans (e11.trans (e12.trans (e13.trans (e14.trans (e15.trans e16))))))))))))))))), by omega, by omega, fun T17 e17 => ?_⟩
            have gA := (hA.ext (e1.trans (e2.trans (e3.trans (e4.trans (e5.trans (e6.trans (e7.trans (e8.trans (e9.trans (e10.trans (e11.trans (e12.trans (e13.trans (e14.trans (e15.trans (e16.trans e17))))))))))))))))).get
            have gB := (hB.ext (e1.trans (e2.trans (e3.trans (e4.trans (e5.trans (e6.trans (e7.trans (e8.trans (e9.trans (e10.trans (e11.trans (e12.trans (e13.trans (e14.trans (e15.trans (e16.trans e17))))))))))))))))).get
            have gG_ := (hG_.ext (e3.trans (e4.trans (e5.trans (e6.trans (e7.trans (e8.trans (e9.trans (e10.trans (e11.trans (e12.trans (e13.trans (e14.trans (e15.trans (e16.trans e17))))))))))))))).get
            have gO_ := (hO_.ext (e5.trans (e6.trans (e7.trans (e8.trans (e9.trans (e10.trans (e11.trans (e12.trans (e13.trans (e14.trans (e15.trans (e16.trans e17))))))))))))).get
            have gM_ := (hM_.ext (e11.trans (e12.trans (e13.trans (e14.trans (e15.trans (e16.trans e17))))))).get
            have gN_ := (hN_.ext (e11.trans (e12.trans (e13.trans (e14.trans (e15.trans (e16.trans e17))))))).get
            have gP_ := (hP_.ext (e13.trans (e14.trans (e15.trans (e16.trans e17))))).get
            simp (disch := first | assumption | omega | (simp only [lens]; omega)) only [eqs, ↓gvd_succ, ↓gvd_zero, ↓and_of, im_of, im_of trivial, vals, lsts, tys, hP, hst, initS, Nat.reduceBEq, Nat.reduceAdd, Nat.reduceMul, Nat.reduceSub, Nat.reduceDiv, Nat.reduceMod, Nat.reducePow, Nat.reduceLT, Nat.reduceLeDiff, Nat.reduceEqDiff, Int.reduceAdd, Int.reduceSub, Int.reduceNeg, Int.reduceMul, Int.reduceToNat, Int.reducePow, Int.reduceLE, Int.reduceLT, Int.reduceEq, Int.reduceNe, reduceIte, reduceCtorEq, ne_eq, not_true_eq_false, not_false_eq_true, true_and, and_true, and_self, true_implies, imp_self, implies_true, decide_true, decide_false, Bool.not_true, Bool.not_false, Bool.and_true, Bool.and_false, Bool.true_and, Bool.false_and, Bool.and_self, decide_eq_true_eq, eq_self, gA, gB, gG_, gO_, gM_, gN_, gP_, cmp_zero, cmp_neg, cmp_pos, cmp_nneg, cmp_npos, cmp_self, hr2]
            refine E_call (hP ▸ z_Of) ⟨-1, rfl, by omega, by omega, fun vi T18 e18 hi => ?_⟩
            have gA := (hA.ext (e1.trans (e2.trans (e3.trans (e4.trans (e5.trans (e6.trans (e7.trans (e8.trans (e9.trans (e10.trans (e11.trans (e12.trans (e13.trans (e14.trans (e15.trans (e16.trans (e17.trans e18)))))))))))))))))).get
            have gB := (hB.ext (e1.trans (e2.trans (e3.trans (e4.trans (e5.trans (e6.trans (e7.trans (e8.trans (e9.trans (e10.trans (e11.trans (e12.trans (e13.trans (e14.trans (e15.trans (e16.trans (e17.trans e18)))))))))))))))))).get
            have gG_ := (hG_.ext (e3.trans (e4.trans (e5.trans (e6.trans (e7.trans (e8.trans (e9.trans (e10.trans (e11.trans (e12.trans (e13.trans (e14.trans (e15.trans (e16.trans (e17.trans e18)))))))))))))))).get
            have gO_ := (hO_.ext (e5.trans (e6.trans (e7.trans (e8.trans (e9.trans (e10.trans (e11.trans (e12.trans (e13.trans (e14.trans (e15.trans (e16.trans (e17.trans e18)))))))))))))).get
            have gM_ := (hM_.ext (e11.trans (e12.trans (e13.trans (e14.trans (e15.trans (e16.trans (e17.trans e18)))))))).get
            have gN_ := (hN_.ext (e11.trans (e12.trans (e13.trans (e14.trans (e15.trans (e16.trans (e17.trans e18)))))))).get
            have gP_ := (hP_.ext (e13.trans (e14.trans (e15.trans (e16.trans (e17.trans e18)))))).get
            simp (disch := first | assumption | omega | (simp only [lens]; omega)) only [eqs, ↓gvd_succ, ↓gvd_zero, ↓and_of, im_of, im_of trivial, vals, lsts, tys, hP, hst, initS, Nat.reduceBEq, Nat.reduceAdd, Nat.reduceMul, Nat.reduceSub, Nat.reduceDiv, Nat.reduceMod, Nat.reducePow, Nat.reduceLT, Nat.reduceLeDiff, Nat.reduceEqDiff, Int.reduceAdd, Int.reduceSub, Int.reduceNeg, Int.reduceMul, Int.reduceToNat, Int.reducePow, Int.reduceLE, Int.reduceLT, Int.reduceEq, Int.reduceNe, reduceIte, reduceCtorEq, ne_eq, not_true_eq_false, not_false_eq_true, true_and, and_true, and_self, true_implies, imp_self, implies_true, decide_true, decide_false, Bool.not_true, Bool.not_false, Bool.and_true, Bool.and_false, Bool.true_and, Bool.false_and, Bool.and_self, decide_eq_true_eq, eq_self, gA, gB, gG_, gO_, gM_, gN_, gP_]
            refine E_call (hP ▸ z_Cmp) ⟨_, _, _, _, _, _, rfl, (hb.toZ.ext (e10.trans (e11.trans (e12.trans (e13.trans (e14.trans (e15.trans (e16.trans (e17.trans e18))))))))), hi.toZ, by omega, by omega, fun T19 e19 => ?_⟩
            have gA := (hA.ext (e1.trans (e2.trans (e3.trans (e4.trans (e5.trans (e6.trans (e7.trans (e8.trans (e9.trans (e10.trans (e11.trans (e12.trans (e13.trans (e14.trans (e15.trans (e16.trans (e17.trans (e18.trans e19))))))))))))))))))).get
            have gB := (hB.ext (e1.trans (e2.trans (e3.trans (e4.trans (e5.trans (e6.trans (e7.trans (e8.trans (e9.trans (e10.trans (e11.trans (e12.trans (e13.trans (e14.trans (e15.trans (e16.trans (e17.trans (e18.trans e19))))))))))))))))))).get
            have gG_ := (hG_.ext (e3.trans (e4.trans (e5.trans (e6.trans (e7.trans (e8.trans (e9.trans (e10.trans (e11.trans (e12.trans (e13.trans (e14.trans (e15.trans (e16.trans (e17.trans (e18.trans e19))))))))))))))))).get
            have gO_ := (hO_.ext (e5.trans (e6.trans (e7.trans (e8.trans (e9.trans (e10.trans (e11.trans (e12.trans (e13.trans (e14.trans (e15.trans (e16.trans (e17.trans (e18.trans e19))))))))))))))).get
            have gM_ := (hM_.ext (e11.trans (e12.trans (e13.trans (e14.trans (e15.trans (e16.trans (e17.trans (e18.trans e19))))))))).get
            have gN_ := (hN_.ext (e11.trans (e12.trans (e13.trans (e14.trans (e15.trans (e16.trans (e17.trans (e18.trans e19))))))))).get
            have gP_ := (hP_.ext (e13.trans (e14.trans (e15.trans (e16.trans (e17.trans (e18.trans e19))))))).get
            simp (disch := first | assumption | omega | (simp only [lens]; omega)) only [eqs, ↓gvd_succ, ↓gvd_zero, ↓and_of, im_of, im_of trivial, vals, lsts, tys, hP, hst, initS, Nat.reduceBEq, Nat.reduceAdd, Nat.reduceMul, Nat.reduceSub, Nat.reduceDiv, Nat.reduceMod, Nat.reducePow, Nat.reduceLT, Nat.reduceLeDiff, Nat.reduceEqDiff, Int.reduceAdd, Int.reduceSub, Int.reduceNeg, Int.reduceMul, Int.reduceToNat, Int.reducePow, Int.reduceLE, Int.reduceLT, Int.reduceEq, Int.reduceNe, reduceIte, reduceCtorEq, ne_eq, not_true_eq_false, not_false_eq_true, true_and, and_true, and_self, true_implies, imp_self, implies_true, decide_true, decide_false, Bool.not_true, Bool.not_false, Bool.and_true, Bool.and_false, Bool.true_and, Bool.false_and, Bool.and_self, decide_eq_true_eq, eq_self, gA, gB, gG_, gO_, gM_, gN_, gP_, cmp_zero, cmp_neg, cmp_pos, cmp_nneg, cmp_npos, cmp_self, r2]
            refine E_call (hP ▸ s_klives) ⟨rfl, fun T20 e20 => ?_⟩
            simp (disch := first | assumption | omega | (simp only [lens]; omega)) only [eqs, ↓gvd_succ, ↓gvd_zero, ↓and_of, im_of, im_of trivial, vals, lsts, tys, hP, hst, initS, Nat.reduceBEq, Nat.reduceAdd, Nat.reduceMul, Nat.reduceSub, Nat.reduceDiv, Nat.reduceMod, Nat.reducePow, Nat.reduceLT, Nat.reduceLeDiff, Nat.reduceEqDiff, Int.reduceAdd, Int.reduceSub, Int.reduceNeg, Int.reduceMul, Int.reduceToNat, Int.reducePow, Int.reduceLE, Int.reduceLT, Int.reduceEq, Int.reduceNe, reduceIte, reduceCtorEq, ne_eq, not_true_eq_false, not_false_eq_true, true_and, and_true, and_self, true_implies, imp_self, implies_true, decide_true, decide_false, Bool.not_true, Bool.not_false, Bool.and_true, Bool.and_false, Bool.true_and, Bool.false_and, Bool.and_self, decide_eq_true_eq, eq_self]
            exact hK _ (e0.trans (e1.trans (e2.trans (e3.trans (e4.trans (e5.trans (e6.trans (e7.trans (e8.trans (e9.trans (e10.trans (e11.trans (e12.trans (e13.trans (e14.trans (e15.trans (e16.trans (e17.trans (e18.trans (e19.trans e20))))))))))))))))))))
    · simp (disch := first | assumption | omega | (simp only [lens]; omega)) only [eqs, ↓gvd_succ, ↓gvd_zero, ↓and_of, im_of, im_of trivial, vals, lsts, tys, hP, hst, initS, Nat.reduceBEq, Nat.reduceAdd, Nat.reduceMul, Nat.reduceSub, Nat.reduceDiv, Nat.reduceMod, Nat.reducePow, Nat.reduceLT, Nat.reduceLeDiff, Nat.reduceEqDiff, Int.reduceAdd, Int.reduceSub, Int.reduceNeg, Int.reduceMul, Int.reduceToNat, Int.reducePow, Int.reduceLE, Int.reduceLT, Int.reduceEq, Int.reduceNe, reduceIte, reduceCtorEq, ne_eq, not_true_eq_false, not_false_eq_true, true_and, and_true, and_self, true_implies, imp_self, implies_true, decide_true, decide_false, Bool.not_true, Bool.not_false, Bool.and_true, Bool.and_false, Bool.true_and, Bool.false_and, Bool.and_self, decide_eq_true_eq, eq_self, h, hl, hm, h2]
      refine E_call (hP ▸ s_klives) ⟨rfl, fun T1 hT1 => ?_⟩
      simp (disch := first | assumption | omega | (simp only [lens]; omega)) only [eqs, ↓gvd_succ, ↓gvd_zero, ↓and_of, im_of, im_of trivial, vals, lsts, tys, hP, hst, initS, Nat.reduceBEq, Nat.reduceAdd, Nat.reduceMul, Nat.reduceSub, Nat.reduceDiv, Nat.reduceMod, Nat.reducePow, Nat.reduceLT, Nat.reduceLeDiff, Nat.reduceEqDiff, Int.reduceAdd, Int.reduceSub, Int.reduceNeg, Int.reduceMul, Int.reduceToNat, Int.reducePow, Int.reduceLE, Int.reduceLT, Int.reduceEq, Int.reduceNe, reduceIte, reduceCtorEq, ne_eq, not_true_eq_false, not_false_eq_true, true_and, and_true, and_self, true_implies, imp_self, implies_true, decide_true, decide_false, Bool.not_true, Bool.not_false, Bool.and_true, Bool.and_false, Bool.true_and, Bool.false_and, Bool.and_self, decide_eq_true_eq, eq_self]
      exact hK _ (e0.trans hT1)
  · simp (disch := first | assumption | omega | (simp only [lens]; omega)) only [eqs, ↓gvd_succ, ↓gvd_zero, ↓and_of, im_of, im_of trivial, vals, lsts, tys, hP, hst, initS, Nat.reduceBEq, Nat.reduceAdd, Nat.reduceMul, Nat.reduceSub, Nat.reduceDiv, Nat.reduceMod, Nat.reducePow, Nat.reduceLT, Nat.reduceLeDiff, Nat.reduceEqDiff, Int.reduceAdd, Int.reduceSub, Int.reduceNeg, Int.reduceMul, Int.reduceToNat, Int.reducePow, Int.reduceLE, Int.reduceLT, Int.reduceEq, Int.reduceNe, reduceIte, reduceCtorEq, ne_eq, not_true_eq_false, not_false_eq_true, true_and, and_true, and_self, true_implies, imp_self, implies_true, decide_true, decide_false, Bool.not_true, Bool.not_false, Bool.and_true, Bool.and_false, Bool.true_and, Bool.false_and, Bool.and_self, decide_eq_true_eq, eq_self, h]
    refine E_call (hP ▸ s_klives) ⟨rfl, fun T1 hT1 => ?_⟩
    simp (disch := first | assumption | omega | (simp only [lens]; omega)) only [eqs, ↓gvd_succ, ↓gvd_zero, ↓and_of, im_of, im_of trivial, vals, lsts, tys, hP, hst, initS, Nat.reduceBEq, Nat.reduceAdd, Nat.reduceMul, Nat.reduceSub, Nat.reduceDiv, Nat.reduceMod, Nat.reducePow, Nat.reduceLT, Nat.reduceLeDiff, Nat.reduceEqDiff, Int.reduceAdd, Int.reduceSub, Int.reduceNeg, Int.reduceMul, Int.reduceToNat, Int.reducePow, Int.reduceLE, Int.reduceLT, Int.reduceEq, Int.reduceNe, reduceIte, reduceCtorEq, ne_eq, not_true_eq_false, not_false_eq_true, true_and, and_true, and_self, true_implies, imp_self, implies_true, decide_true, decide_false, Bool.not_true, Bool.not_false, Bool.and_true, Bool.and_false, Bool.true_and, Bool.false_and, Bool.and_self, decide_eq_true_eq, eq_self]
    exact hK _ (e0.trans hT1)
end Go.Proofs.Pv
