/- The document's whole numbers, fourth part: what divides both. -/
import Derived.Test.YtdaidpomfkgbeaaQ3
set_option linter.unusedSimpArgs false
set_option linter.unusedVariables false
namespace Go.Proofs.Pv
open Go Go.RowKit Go.Proofs
set_option maxRecDepth 20000

/-- A row that is kept whatever is written to two variables. -/
structure Keeps (st : St) (P : Nat) (T : St) (x : AV) (v : Nat) : Prop where
  all : ∀ (e : St) (b c : Option (List AV)), Ext T e → Got st ((e.set P b).set (P + 1) c) x v
section
variable {st S0 T T' T2 : St} {P v : Nat} {x : AV} {b c : Option (List AV)}
theorem Keeps.ext (h : Keeps st P T x v) (e : Ext T T') : Keeps st P T' x v := ⟨fun e' b c h2 => h.all e' b c (e.trans h2)⟩
theorem set_same (h : T[P]? = some b) : T.set P b = T := by
  apply List.ext_getElem?
  intro i
  by_cases hi : P = i
  · subst hi
    rw [List.getElem?_set_self (List.getElem?_eq_some_iff.1 h).1, h]
  · rw [List.getElem?_set_ne hi]
theorem Keeps.set (h : Keeps st P T x v) (h1 : P + 1 < T.length) (b c : Option (List AV)) : Keeps st P ((T.set P b).set (P + 1) c) x v := by
  refine ⟨?_⟩
  rintro e b' c' ⟨y, rfl⟩
  have e1 : (((T.set P b).set (P + 1) c ++ y).set P b').set (P + 1) c' = ((T ++ y).set P b').set (P + 1) c' := by
    apply List.ext_getElem?
    intro i
    by_cases hi : P + 1 = i
    · subst hi
      rw [List.getElem?_set_self (by simp; omega), List.getElem?_set_self (by simp; omega)]
    · rw [List.getElem?_set_ne hi, List.getElem?_set_ne hi]
      by_cases hj : P = i
      · subst hj
        rw [List.getElem?_set_self (by simp; omega), List.getElem?_set_self (by simp; omega)]
      · rw [List.getElem?_set_ne hj, List.getElem?_set_ne hj]
        by_cases hk : i < T.length
        · rw [List.getElem?_append_left (by simpa using hk), List.getElem?_append_left hk, List.getElem?_set_ne hi, List.getElem?_set_ne hj]
        · rw [List.getElem?_append_right (by simp; omega), List.getElem?_append_right (by omega)]; simp
  rw [e1]
  exact h.all _ _ _ (.add _)
theorem Keeps.got (h : Keeps st P T x v) (hP : T[P]? = some b) (hQ : T[P + 1]? = some c) : Got st T x v := by
  have := h.all T b c .refl
  rwa [set_same hP, set_same hQ] at this
theorem Keeps.old (h : Got st T2 x v) (e : Ext T2 T) (hP : T2.length ≤ P) : Keeps st P T x v := ⟨fun e' b c h2 => h.ext (((e.trans h2).set hP b).set (by omega) c)⟩
theorem Keeps.new (h : Got T T' x v) (e0 : Ext st T) (hP : st.length ≤ P) (h2 : P + 1 < T.length) : Keeps st P T' x v := ⟨fun e b c h3 => Got.pre ((e0.set hP b).set (by omega) c) (((h.ext h3).put (by omega) b).put (by simp; omega) c)⟩
end
theorem nat_sgn' {g : Nat} : decide ((g : Int) < 0) = false := decide_eq_false (by omega)

set_option maxHeartbeats 4000000 in
theorem s_qGcd : PSpec Try.prog 55 RwGcd := by
  refine fspec_of (fn := Try.f55) 2 [.cell 4 52] (by kernel_rfl) rfl rfl (by kernel_rfl) mixed (by rintro _ _ _ ⟨x, y, s, t, l, m, rfl, _⟩; rfl) ?_
  rintro X _ st K hP hst ⟨x, y, s, t, l, m, rfl, hx, hy, hl, hm, hK⟩
  have hx1 := hx
  have hy1 := hy
  obtain ⟨a, rfl, ha, hal⟩ := hx.iv
  obtain ⟨b, rfl, hb, hbl⟩ := hy.iv
  refine vc_V ?_
  have b1 := limbs_len ha.lt
  have b2 := limbs_len hb.lt
  simp (disch := first | assumption | omega | (simp only [lens]; omega)) only [eqs, ↓gvd_succ, ↓gvd_zero, ↓and_of, im_of, im_of trivial, vals, lsts, tys, hP, hst, initS, Nat.reduceBEq, Nat.reduceAdd, Nat.reduceMul, Nat.reduceSub, Nat.reduceDiv, Nat.reduceMod, Nat.reducePow, Nat.reduceLT, Nat.reduceLeDiff, Nat.reduceEqDiff, Int.reduceAdd, Int.reduceSub, Int.reduceNeg, Int.reduceMul, Int.reduceToNat, Int.reducePow, Int.reduceLE, Int.reduceLT, Int.reduceEq, Int.reduceNe, reduceIte, reduceCtorEq, ne_eq, not_true_eq_false, not_false_eq_true, true_and, and_true, and_self, true_implies, imp_self, implies_true, decide_true, decide_false, Bool.not_true, Bool.not_false, Bool.and_true, Bool.and_false, Bool.true_and, Bool.false_and, Bool.and_self, decide_eq_true_eq, eq_self, hal, hbl]
  refine V_late (s' := (5, AV.junk) :: (6, AV.junk) :: _) [4, 5] [0, 2, 1, 3] [6, 7] hP (by kernel_rfl) (by kernel_rfl) (.cons rfl <| .cons rfl <| .cons rfl <| .cons rfl <| .cons rfl <| .cons rfl <| .cons rfl <| .cons rfl <| .nil) rfl ?_; rw [mask_nil]
  simp (disch := first | assumption | omega | (simp only [lens]; omega)) only [eqs, ↓gvd_succ, ↓gvd_zero, ↓and_of, im_of, im_of trivial, vals, lsts, tys, hP, hst, initS, Nat.reduceBEq, Nat.reduceAdd, Nat.reduceMul, Nat.reduceSub, Nat.reduceDiv, Nat.reduceMod, Nat.reducePow, Nat.reduceLT, Nat.reduceLeDiff, Nat.reduceEqDiff, Int.reduceAdd, Int.reduceSub, Int.reduceNeg, Int.reduceMul, Int.reduceToNat, Int.reducePow, Int.reduceLE, Int.reduceLT, Int.reduceEq, Int.reduceNe, reduceIte, reduceCtorEq, ne_eq, not_true_eq_false, not_false_eq_true, true_and, and_true, and_self, true_implies, imp_self, implies_true, decide_true, decide_false, Bool.not_true, Bool.not_false, Bool.and_true, Bool.and_false, Bool.true_and, Bool.false_and, Bool.and_self, decide_eq_true_eq, eq_self]
  refine E_call (hP ▸ s_qNorm) ⟨_, s, l, rfl, hx1.ext (.add _), by omega, fun z T hz => ?_⟩
  simp (disch := first | assumption | omega | (simp only [lens]; omega)) only [eqs, ↓gvd_succ, ↓gvd_zero, ↓and_of, im_of, im_of trivial, vals, lsts, tys, hP, hst, initS, Nat.reduceBEq, Nat.reduceAdd, Nat.reduceMul, Nat.reduceSub, Nat.reduceDiv, Nat.reduceMod, Nat.reducePow, Nat.reduceLT, Nat.reduceLeDiff, Nat.reduceEqDiff, Int.reduceAdd, Int.reduceSub, Int.reduceNeg, Int.reduceMul, Int.reduceToNat, Int.reducePow, Int.reduceLE, Int.reduceLT, Int.reduceEq, Int.reduceNe, reduceIte, reduceCtorEq, ne_eq, not_true_eq_false, not_false_eq_true, true_and, and_true, and_self, true_implies, imp_self, implies_true, decide_true, decide_false, Bool.not_true, Bool.not_false, Bool.and_true, Bool.and_false, Bool.true_and, Bool.false_and, Bool.and_self, decide_eq_true_eq, eq_self]
  refine E_call (hP ▸ s_qNorm) ⟨_, t, m, rfl, hy1.ext ((Ext.add _).trans hz.ex), by omega, fun w T2 hw => ?_⟩
  have hz2 := hz.ext hw.ex
  have hw2 := GotI.pre hz.ex hw
  have e0 : Ext st T2 := (Ext.add _).trans hz2.ex
  have hC : At T2 (st.length + 2) [.val (.bool false), .val (.slice none 0 0)] := At.ext ⟨by rw [get_app]; rfl⟩ hz2.ex
  obtain ⟨a', rfl, ha'⟩ := hz2
  obtain ⟨b', rfl, hb'⟩ := hw2
  rw [iv_natAbs] at ha' hb'
  have hal' := ha'.nm.leaf
  have hbl' := hb'.nm.leaf
  have hX0 := e0.len
  have hX1 : st.length ≤ T2.length + 1 := by omega
  have hlt := hC.lt
  obtain ⟨S0, hS0, hl0, ha2, hb2⟩ : ∃ S0, Ext st S0 ∧ st.length + 2 < S0.length ∧ Got S0 T2 a' (val l) ∧ Got S0 T2 b' (val m) := ⟨_, .add _, by simp, ha', hb'⟩
  have hS0l := ha2.ex.len
  obtain ⟨s', hs'⟩ : ∃ s', decide (iv s (val l) < 0) = s' := ⟨_, rfl⟩
  obtain ⟨t', ht'⟩ : ∃ t', decide (iv t (val m) < 0) = t' := ⟨_, rfl⟩
  rw [hs', ht']
  simp (disch := first | assumption | omega | (simp only [lens]; omega)) only [eqs, ↓gvd_succ, ↓gvd_zero, ↓and_of, im_of, im_of trivial, vals, lsts, tys, hP, hst, initS, Nat.reduceBEq, Nat.reduceAdd, Nat.reduceMul, Nat.reduceSub, Nat.reduceDiv, Nat.reduceMod, Nat.reducePow, Nat.reduceLT, Nat.reduceLeDiff, Nat.reduceEqDiff, Int.reduceAdd, Int.reduceSub, Int.reduceNeg, Int.reduceMul, Int.reduceToNat, Int.reducePow, Int.reduceLE, Int.reduceLT, Int.reduceEq, Int.reduceNe, reduceIte, reduceCtorEq, ne_eq, not_true_eq_false, not_false_eq_true, true_and, and_true, and_self, true_implies, imp_self, implies_true, decide_true, decide_false, Bool.not_true, Bool.not_false, Bool.and_true, Bool.and_false, Bool.true_and, Bool.false_and, Bool.and_self, decide_eq_true_eq, eq_self, hal', hbl', hX0, hX1]
  obtain ⟨S, hS⟩ : ∃ S, T2 ++ [some [.val (.bool false), a'], some [.val (.bool false), b']] = S := ⟨_, rfl⟩
  have hTS : Ext T2 S := ⟨_, hS.symm⟩
  have hSA : At S T2.length [.val (.bool false), a'] := ⟨hS ▸ by rw [get_app0]; rfl⟩
  have hSB : At S (T2.length + 1) [.val (.bool false), b'] := ⟨hS ▸ by rw [get_app]; rfl⟩
  rw [hS]
  clear hS
  obtain ⟨P, hPe⟩ : ∃ P, T2.length = P := ⟨_, rfl⟩
  have hP0 : S0.length ≤ P := by omega
  have kA : Keeps S0 P S a' (val l) := .old ha2 hTS (by omega)
  have kB : Keeps S0 P S b' (val m) := .old hb2 hTS (by omega)
  have hlP : st.length + 2 < P := by omega
  rw [hPe] at hSA hSB hX0 hX1 ⊢
  have hS0S : Ext S0 S := ha2.ex.trans hTS
  have hCS := hC.ext hTS
  refine V_loop (ι := AV × AV × Nat × Nat × St) (fun e => [(6, .ptr (P + 1) 0), (5, .ptr P 0), (4, .ptr (st.length + 2) 0), (3, .ptr (st.length + 1) 0), (2, .ptr st.length 0)]) (fun e => e.2.2.2.2)
    (fun e => Ext S0 e.2.2.2.2 ∧ At e.2.2.2.2 (st.length + 2) [.val (.bool false), .val (.slice none 0 0)] ∧ At e.2.2.2.2 P [.val (.bool false), e.1] ∧ At e.2.2.2.2 (P + 1) [.val (.bool false), e.2.1] ∧ Keeps S0 P e.2.2.2.2 e.1 e.2.2.1 ∧ Keeps S0 P e.2.2.2.2 e.2.1 e.2.2.2.1 ∧ Nat.gcd e.2.2.1 e.2.2.2.1 = Nat.gcd (val l) (val m) ∧ (limbs e.2.2.1).length ≤ 800 ∧ (limbs e.2.2.2.1).length ≤ 800) (fun e => e.2.2.2.1) (a', b', val l, val m, S) ⟨hS0S, hCS, hSA, hSB, kA, kB, rfl, by dsimp only; omega, by dsimp only; omega⟩ rfl (by simp (disch := first | assumption | omega | (simp only [lens]; omega)) only [eqs, ↓gvd_succ, ↓gvd_zero, ↓and_of, im_of, im_of trivial, vals, lsts, tys, hP, hst, initS, Nat.reduceBEq, Nat.reduceAdd, Nat.reduceMul, Nat.reduceSub, Nat.reduceDiv, Nat.reduceMod, Nat.reducePow, Nat.reduceLT, Nat.reduceLeDiff, Nat.reduceEqDiff, Int.reduceAdd, Int.reduceSub, Int.reduceNeg, Int.reduceMul, Int.reduceToNat, Int.reducePow, Int.reduceLE, Int.reduceLT, Int.reduceEq, Int.reduceNe, reduceIte, reduceCtorEq, ne_eq, not_true_eq_false, not_false_eq_true, true_and, and_true, and_self, true_implies, imp_self, implies_true, decide_true, decide_false, Bool.not_true, Bool.not_false, Bool.and_true, Bool.and_false, Bool.true_and, Bool.false_and, Bool.and_self, decide_eq_true_eq, eq_self] <;> rfl) ?_
  rintro ⟨u, v, n, k, U⟩ ⟨hU, hUC, hUA, hUB, kU, kV, hg, hln, hlk⟩
  dsimp only at hU hUC hUA hUB kU kV hg hln hlk ⊢
  have gA := hUA.get
  have gB := hUB.get
  have gu := kU.got gA gB
  have gv := kV.got gA gB
  have h1 := gv.nm.sl
  have hul := gu.nm.leaf
  have hvl := gv.nm.leaf
  simp (disch := first | assumption | omega | (simp only [lens]; omega)) only [eqs, ↓gvd_succ, ↓gvd_zero, ↓and_of, im_of, im_of trivial, vals, lsts, tys, hP, hst, initS, Nat.reduceBEq, Nat.reduceAdd, Nat.reduceMul, Nat.reduceSub, Nat.reduceDiv, Nat.reduceMod, Nat.reducePow, Nat.reduceLT, Nat.reduceLeDiff, Nat.reduceEqDiff, Int.reduceAdd, Int.reduceSub, Int.reduceNeg, Int.reduceMul, Int.reduceToNat, Int.reducePow, Int.reduceLE, Int.reduceLT, Int.reduceEq, Int.reduceNe, reduceIte, reduceCtorEq, ne_eq, not_true_eq_false, not_false_eq_true, true_and, and_true, and_self, true_implies, imp_self, implies_true, decide_true, decide_false, Bool.not_true, Bool.not_false, Bool.and_true, Bool.and_false, Bool.true_and, Bool.false_and, Bool.and_self, decide_eq_true_eq, eq_self, gA, gB, h1]
  refine C_dec (fun h => ?_) (fun h => ?_)
  · have hk : 0 < k := limbs_pos_len.1 (by omega)
    have d3 := limbs_len_mono (Nat.le_of_lt (Nat.mod_lt n hk))
    simp (disch := first | assumption | omega | (simp only [lens]; omega)) only [eqs, ↓gvd_succ, ↓gvd_zero, ↓and_of, im_of, im_of trivial, vals, lsts, tys, hP, hst, initS, Nat.reduceBEq, Nat.reduceAdd, Nat.reduceMul, Nat.reduceSub, Nat.reduceDiv, Nat.reduceMod, Nat.reducePow, Nat.reduceLT, Nat.reduceLeDiff, Nat.reduceEqDiff, Int.reduceAdd, Int.reduceSub, Int.reduceNeg, Int.reduceMul, Int.reduceToNat, Int.reducePow, Int.reduceLE, Int.reduceLT, Int.reduceEq, Int.reduceNe, reduceIte, reduceCtorEq, ne_eq, not_true_eq_false, not_false_eq_true, true_and, and_true, and_self, true_implies, imp_self, implies_true, decide_true, decide_false, Bool.not_true, Bool.not_false, Bool.and_true, Bool.and_false, Bool.true_and, Bool.false_and, Bool.and_self, decide_eq_true_eq, eq_self, gA, gB]
    refine E_call (hP ▸ s_qQuo) ⟨_, _, false, false, _, _, rfl, ⟨u, rfl, gu.nm⟩, ⟨v, rfl, gv.nm⟩, by omega, by omega, fun _ q r T3 hq hr => ?_, fun h0 => absurd h0 (by rw [val_limbs]; omega)⟩
    rw [iv_tmod, val_limbs, val_limbs, show iv false (n % k) = ((n % k : Nat) : Int) from rfl] at hr
    obtain ⟨q', rfl, hq'⟩ := hq
    obtain ⟨r', rfl, hr'⟩ := hr
    rw [nat_sgn'] 
    rw [Int.natAbs_natCast] at hr'
    have hql := hq'.nm.leaf
    have hrl := hr'.nm.leaf
    have hUl := (hU.trans hr'.ex).len
    have hS0s := hS0.len
    have hY0 : st.length ≤ T3.length := by omega
    have hY1 : st.length ≤ T3.length + 1 := by omega
    generalize hQ : decide ((iv false (val (limbs n))).tdiv (iv false (val (limbs k))) < 0) = sq
    simp (disch := first | assumption | omega | (simp only [lens]; omega)) only [eqs, ↓gvd_succ, ↓gvd_zero, ↓and_of, im_of, im_of trivial, vals, lsts, tys, hP, hst, initS, Nat.reduceBEq, Nat.reduceAdd, Nat.reduceMul, Nat.reduceSub, Nat.reduceDiv, Nat.reduceMod, Nat.reducePow, Nat.reduceLT, Nat.reduceLeDiff, Nat.reduceEqDiff, Int.reduceAdd, Int.reduceSub, Int.reduceNeg, Int.reduceMul, Int.reduceToNat, Int.reducePow, Int.reduceLE, Int.reduceLT, Int.reduceEq, Int.reduceNe, reduceIte, reduceCtorEq, ne_eq, not_true_eq_false, not_false_eq_true, true_and, and_true, and_self, true_implies, imp_self, implies_true, decide_true, decide_false, Bool.not_true, Bool.not_false, Bool.and_true, Bool.and_false, Bool.true_and, Bool.false_and, Bool.and_self, decide_eq_true_eq, eq_self, hql, hrl, hY0, hY1]
    obtain ⟨T4, hT4⟩ : ∃ T4, T3 ++ [some [.val (.bool sq), q'], some [.val (.bool false), r']] = T4 := ⟨_, rfl⟩
    have e4 : Ext T3 T4 := ⟨_, hT4.symm⟩
    have f8 : T4[T3.length + 1]? = some (some [.val (.bool false), r']) := hT4 ▸ by rw [get_app]; rfl
    rw [hT4]
    clear hT4
    have eU : Ext U T4 := hr'.ex.trans e4
    have fA := (hUA.ext eU).get
    have fB := (hUB.ext eU).get
    have fA2 := (hUA.ext eU).lt
    have fB2 := (hUB.ext eU).lt
    have fC := (hUC.ext eU).get
    have sU := hUB.lt
    have hY2 : X.st1.length ≤ P := by rw [hst]; omega
    have hY3 : X.st1.length ≤ P + 1 := by omega
    have nE : P ≠ P + 1 := by omega
    have w1 := fun (x : Option (List AV)) => List.getElem?_set_ne (l := T4) (a := x) nE
    have w2 := fun (x : Option (List AV)) => List.getElem?_set_ne (l := T4) (a := x) (show P ≠ T3.length + 1 by have := hr'.ex.len; omega)
    refine V_tree (.take 0 (.two 1 (.take 2 (.take 3 .fin)) 2 (.take 1 (.take 3 .fin)))) (by kernel_rfl) ?_
    simp (disch := first | assumption | omega | (simp only [lens]; omega)) only [eqs, ↓gvd_succ, ↓gvd_zero, ↓and_of, im_of, im_of trivial, vals, lsts, tys, hP, hst, initS, Nat.reduceBEq, Nat.reduceAdd, Nat.reduceMul, Nat.reduceSub, Nat.reduceDiv, Nat.reduceMod, Nat.reducePow, Nat.reduceLT, Nat.reduceLeDiff, Nat.reduceEqDiff, Int.reduceAdd, Int.reduceSub, Int.reduceNeg, Int.reduceMul, Int.reduceToNat, Int.reducePow, Int.reduceLE, Int.reduceLT, Int.reduceEq, Int.reduceNe, reduceIte, reduceCtorEq, ne_eq, not_true_eq_false, not_false_eq_true, true_and, and_true, and_self, true_implies, imp_self, implies_true, decide_true, decide_false, Bool.not_true, Bool.not_false, Bool.and_true, Bool.and_false, Bool.true_and, Bool.false_and, Bool.and_self, decide_eq_true_eq, eq_self, hul, hvl, hql, hrl, fA, fB, f8, w1, w2, runT_take, runT_two, runT_fin]
    obtain ⟨V2, hV2⟩ : ∃ V2, (T4.set P (some [.val (.bool false), v])).set (P + 1) (some [.val (.bool false), r']) = V2 := ⟨_, rfl⟩
    have kV2 : Keeps S0 P V2 v k := hV2 ▸ (kV.ext eU).set fB2 _ _
    have kR2 : Keeps S0 P V2 r' (n % k) := hV2 ▸ ((Keeps.new hr' hU hP0 sU).ext e4).set fB2 _ _
    have hA2 : At V2 P [.val (.bool false), v] := ⟨hV2 ▸ get_set2 fA2 nE⟩
    have hB2 : At V2 (P + 1) [.val (.bool false), r'] := ⟨hV2 ▸ get_set3 fB2⟩
    have hC2 : At V2 (st.length + 2) [.val (.bool false), .val (.slice none 0 0)] := ⟨hV2 ▸ by rw [List.getElem?_set_ne (by omega), List.getElem?_set_ne (by omega)]; exact fC⟩
    have eV2 : Ext S0 V2 := hV2 ▸ ((hU.trans eU).set hP0 _).set (by omega) _
    rw [hV2]
    exact again (v, r', k, n % k, V2) ⟨eV2, hC2, hA2, hB2, kV2, kR2, by dsimp only; rw [← hg, Nat.gcd_comm n k, Nat.gcd_rec k n, Nat.gcd_comm], hlk, by dsimp only; omega⟩ (Nat.mod_lt _ hk) rfl (by simp (disch := first | assumption | omega | (simp only [lens]; omega)) only [eqs, ↓gvd_succ, ↓gvd_zero, ↓and_of, im_of, im_of trivial, vals, lsts, tys, hP, hst, initS, Nat.reduceBEq, Nat.reduceAdd, Nat.reduceMul, Nat.reduceSub, Nat.reduceDiv, Nat.reduceMod, Nat.reducePow, Nat.reduceLT, Nat.reduceLeDiff, Nat.reduceEqDiff, Int.reduceAdd, Int.reduceSub, Int.reduceNeg, Int.reduceMul, Int.reduceToNat, Int.reducePow, Int.reduceLE, Int.reduceLT, Int.reduceEq, Int.reduceNe, reduceIte, reduceCtorEq, ne_eq, not_true_eq_false, not_false_eq_true, true_and, and_true, and_self, true_implies, imp_self, implies_true, decide_true, decide_false, Bool.not_true, Bool.not_false, Bool.and_true, Bool.and_false, Bool.true_and, Bool.false_and, Bool.and_self, decide_eq_true_eq, eq_self] <;> rfl)
  · have hk : k = 0 := by
      rcases Nat.eq_zero_or_pos k with h0 | h0
      · exact h0
      · have := limbs_pos_len.2 h0; omega
    subst hk
    rw [Nat.gcd_zero_right] at hg
    subst hg
    have gC := hUC.get
    have gC2 := hUC.lt
    have hY2 : X.st1.length ≤ st.length + 2 := by rw [hst]; omega
    simp (disch := first | assumption | omega | (simp only [lens]; omega)) only [eqs, ↓gvd_succ, ↓gvd_zero, ↓and_of, im_of, im_of trivial, vals, lsts, tys, hP, hst, initS, Nat.reduceBEq, Nat.reduceAdd, Nat.reduceMul, Nat.reduceSub, Nat.reduceDiv, Nat.reduceMod, Nat.reducePow, Nat.reduceLT, Nat.reduceLeDiff, Nat.reduceEqDiff, Int.reduceAdd, Int.reduceSub, Int.reduceNeg, Int.reduceMul, Int.reduceToNat, Int.reducePow, Int.reduceLE, Int.reduceLT, Int.reduceEq, Int.reduceNe, reduceIte, reduceCtorEq, ne_eq, not_true_eq_false, not_false_eq_true, true_and, and_true, and_self, true_implies, imp_self, implies_true, decide_true, decide_false, Bool.not_true, Bool.not_false, Bool.and_true, Bool.and_false, Bool.true_and, Bool.false_and, Bool.and_self, decide_eq_true_eq, eq_self, gA, gC, hul]
    exact hK _ _ (GotI.end1 (S := S0) ⟨u, by rw [nat_sgn'], gu⟩ hS0 (by omega) hl0)
end Go.Proofs.Pv
