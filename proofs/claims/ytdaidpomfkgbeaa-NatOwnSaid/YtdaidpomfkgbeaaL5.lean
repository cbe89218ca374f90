/- The laws of numbers from nought on, fourth part: what is told is new memory. -/
import Derived.Test.YtdaidpomfkgbeaaL3
set_option linter.unusedSimpArgs false
set_option linter.unusedVariables false
namespace Go.Proofs.Pv
open Go Go.RowKit Go.Proofs
set_option maxRecDepth 20000

theorem tmod100 {m : Nat} : (m : Int).tmod 100 = ((m % 100 : Nat) : Int) := rfl
theorem zrow8s : zrow 8 [Value.slice none 0 0] = [.val (.slice none 0 0), .val (.slice none 0 0), .val (.slice none 0 0), .val (.slice none 0 0), .val (.slice none 0 0), .val (.slice none 0 0), .val (.slice none 0 0), .val (.slice none 0 0)] := rfl

/-- The rows that were told: where each lies, its number, what is behind it. -/
def rowA (p : Nat × Nat × List AV) : AV := .own p.1 0 (limbs p.2.1).length 1
/-- What holds of the store while the first i rows are written to. -/
structure OwnI (st : St) (a b c : Nat) (l m : List Nat) (ρ : List (Nat × Nat × List AV)) (i : Nat) (T : St) : Prop where
  ex : Ext st T
  x : T[a]? = some (some (u32s l))
  y : T[b]? = some (some (u32s m))
  rows : T[c]? = some (some (ρ.map rowA))
  at' : ∀ (k : Nat) p, i ≤ k → ρ[k]? = some p → T[p.1]? = some (some (u32s (limbs p.2.1) ++ p.2.2))
theorem OwnI.set {st : St} {a b c : Nat} {l m : List Nat} {ρ : List (Nat × Nat × List AV)} {i : Nat} {T : St} (h : OwnI st a b c l m ρ i T) {p : Nat × Nat × List AV} (hp : ρ[i]? = some p) (hn : (ρ.map (·.1)).Nodup)
    (ha : p.1 ≠ a) (hb : p.1 ≠ b) (hc : p.1 ≠ c) (hs : st.length ≤ p.1) (v : Option (List AV)) : OwnI st a b c l m ρ (i + 1) (T.set p.1 v) := by
  refine ⟨?_, ?_, ?_, ?_, ?_⟩
  · obtain ⟨y, hy⟩ := h.ex
    rw [hy, List.set_append_right _ _ hs]
    exact ⟨_, rfl⟩
  · rw [List.getElem?_set_ne ha]; exact h.x
  · rw [List.getElem?_set_ne hb]; exact h.y
  · rw [List.getElem?_set_ne hc]; exact h.rows
  · intro k q hk hq
    have hne : p.1 ≠ q.1 := by
      intro e
      have h1 : (ρ.map (·.1))[i]? = some p.1 := by rw [List.getElem?_map, hp]; rfl
      have h2 : (ρ.map (·.1))[k]? = some q.1 := by rw [List.getElem?_map, hq]; rfl
      obtain ⟨l1, e1⟩ := List.getElem?_eq_some_iff.1 h1
      obtain ⟨l2, e2⟩ := List.getElem?_eq_some_iff.1 h2
      have := (List.getElem_inj hn).1 (e1.trans (e.trans e2.symm))
      omega
    rw [List.getElem?_set_ne hne]
    exact h.at' k q (by omega) hq

theorem put_row {w : List Nat} {rest : List AV} {j : Nat} {v : Nat} (h : j < w.length) : (u32s w ++ rest).set j (.val (.int .u32 (v : Int))) = u32s (w.set j v) ++ rest := by
  rw [List.set_append_left _ _ (by rw [u32s_length]; exact h)]
  congr 1
  unfold u32s
  rw [List.map_set]

def RlOwn (xs : List AV) (st : St) (K : AV → St → Prop) : Prop := ∃ x y l m n, xs = [x, y, .val (.int .u64 ((n : Nat) : Int))] ∧ Nm st x l ∧ Nm st y m ∧ n < 18446744073709551616 ∧ anyw st (.bool true) K
theorem s_NatOwn : PSpec Try.prog 10 RlOwn := by
  refine fspec_of (fn := Try.f10) 3 [.tmp 6] (by kernel_rfl) rfl rfl (by kernel_rfl) mixed (by rintro _ _ _ ⟨x, y, l, m, n, rfl, _⟩; rfl) ?_
  rintro X _ st K hP hst ⟨x, y, l, m, n, rfl, hx, hy, hn, hK⟩
  refine vc_V ?_
  have hxl := hx.leaf
  have hyl := hy.leaf
  simp (disch := first | assumption | omega | (simp only [lens]; omega)) only [eqs, ↓gvd_succ, ↓gvd_zero, ↓and_of, im_of, im_of trivial, vals, lsts, tys, hP, hst, initS, Nat.reduceBEq, Nat.reduceAdd, Nat.reduceMul, Nat.reduceSub, Nat.reduceDiv, Nat.reduceMod, Nat.reducePow, Nat.reduceLT, Nat.reduceLeDiff, Nat.reduceEqDiff, Int.reduceAdd, Int.reduceSub, Int.reduceNeg, Int.reduceMul, Int.reduceToNat, Int.reducePow, Int.reduceLE, Int.reduceLT, Int.reduceEq, Int.reduceNe, reduceIte, reduceCtorEq, ne_eq, not_true_eq_false, not_false_eq_true, true_and, and_true, and_self, true_implies, imp_self, implies_true, decide_true, decide_false, Bool.not_true, Bool.not_false, Bool.and_true, Bool.and_false, Bool.true_and, Bool.false_and, Bool.and_self, decide_eq_true_eq, eq_self, zrow2s]
  refine E_call (hP ▸ s_lsmall2) ⟨_, x, y, l, m, rfl, by rw [get_app0]; rfl, hx.app _, hy.app _, ?_⟩
  obtain ⟨T, hTe⟩ : ∃ T, st ++ [some [x, y]] = T := ⟨_, rfl⟩
  have hT : Ext st T := ⟨_, hTe.symm⟩
  rw [hTe]
  clear hTe
  simp (disch := first | assumption | omega | (simp only [lens]; omega)) only [eqs, ↓gvd_succ, ↓gvd_zero, ↓and_of, im_of, im_of trivial, vals, lsts, tys, hP, hst, initS, Nat.reduceBEq, Nat.reduceAdd, Nat.reduceMul, Nat.reduceSub, Nat.reduceDiv, Nat.reduceMod, Nat.reducePow, Nat.reduceLT, Nat.reduceLeDiff, Nat.reduceEqDiff, Int.reduceAdd, Int.reduceSub, Int.reduceNeg, Int.reduceMul, Int.reduceToNat, Int.reducePow, Int.reduceLE, Int.reduceLT, Int.reduceEq, Int.reduceNe, reduceIte, reduceCtorEq, ne_eq, not_true_eq_false, not_false_eq_true, true_and, and_true, and_self, true_implies, imp_self, implies_true, decide_true, decide_false, Bool.not_true, Bool.not_false, Bool.and_true, Bool.and_false, Bool.true_and, Bool.false_and, Bool.and_self, decide_eq_true_eq, eq_self]
  refine C_dec (fun h => ?_) (fun h => ?_)
  · simp (disch := first | assumption | omega | (simp only [lens]; omega)) only [eqs, ↓gvd_succ, ↓gvd_zero, ↓and_of, im_of, im_of trivial, vals, lsts, tys, hP, hst, initS, Nat.reduceBEq, Nat.reduceAdd, Nat.reduceMul, Nat.reduceSub, Nat.reduceDiv, Nat.reduceMod, Nat.reducePow, Nat.reduceLT, Nat.reduceLeDiff, Nat.reduceEqDiff, Int.reduceAdd, Int.reduceSub, Int.reduceNeg, Int.reduceMul, Int.reduceToNat, Int.reducePow, Int.reduceLE, Int.reduceLT, Int.reduceEq, Int.reduceNe, reduceIte, reduceCtorEq, ne_eq, not_true_eq_false, not_false_eq_true, true_and, and_true, and_self, true_implies, imp_self, implies_true, decide_true, decide_false, Bool.not_true, Bool.not_false, Bool.and_true, Bool.and_false, Bool.true_and, Bool.false_and, Bool.and_self, decide_eq_true_eq, eq_self]
    refine E_call (hP ▸ s_llives) ⟨rfl, fun TT hTT => ?_⟩
    simp (disch := first | assumption | omega | (simp only [lens]; omega)) only [eqs, ↓gvd_succ, ↓gvd_zero, ↓and_of, im_of, im_of trivial, vals, lsts, tys, hP, hst, initS, Nat.reduceBEq, Nat.reduceAdd, Nat.reduceMul, Nat.reduceSub, Nat.reduceDiv, Nat.reduceMod, Nat.reducePow, Nat.reduceLT, Nat.reduceLeDiff, Nat.reduceEqDiff, Int.reduceAdd, Int.reduceSub, Int.reduceNeg, Int.reduceMul, Int.reduceToNat, Int.reducePow, Int.reduceLE, Int.reduceLT, Int.reduceEq, Int.reduceNe, reduceIte, reduceCtorEq, ne_eq, not_true_eq_false, not_false_eq_true, true_and, and_true, and_self, true_implies, imp_self, implies_true, decide_true, decide_false, Bool.not_true, Bool.not_false, Bool.and_true, Bool.and_false, Bool.true_and, Bool.false_and, Bool.and_self, decide_eq_true_eq, eq_self]
    exact hK _ (hT.trans hTT)
  · have h := Classical.not_not.1 h
    have hl := h.1
    have hm := h.2
    have hXT : X.st1.length ≤ T.length := by rw [hst]; exact hT.len
    have hx1 := (hx.ext hT).slcg
    have hy1 := (hy.ext hT).slcg
    have b0 := limbs_len hx.lt
    have b1 := limbs_len hy.lt
    simp (disch := first | assumption | omega | (simp only [lens]; omega)) only [eqs, ↓gvd_succ, ↓gvd_zero, ↓and_of, im_of, im_of trivial, vals, lsts, tys, hP, hst, initS, Nat.reduceBEq, Nat.reduceAdd, Nat.reduceMul, Nat.reduceSub, Nat.reduceDiv, Nat.reduceMod, Nat.reducePow, Nat.reduceLT, Nat.reduceLeDiff, Nat.reduceEqDiff, Int.reduceAdd, Int.reduceSub, Int.reduceNeg, Int.reduceMul, Int.reduceToNat, Int.reducePow, Int.reduceLE, Int.reduceLT, Int.reduceEq, Int.reduceNe, reduceIte, reduceCtorEq, ne_eq, not_true_eq_false, not_false_eq_true, true_and, and_true, and_self, true_implies, imp_self, implies_true, decide_true, decide_false, Bool.not_true, Bool.not_false, Bool.and_true, Bool.and_false, Bool.true_and, Bool.false_and, Bool.and_self, decide_eq_true_eq, eq_self, hx1, hy1]
    have hNx : ∀ z, Nm (T ++ (none :: some (u32s l) :: none :: some (u32s m) :: z)) (.own (T.length + 1) 0 l.length 1) l := fun z => Nm.own (rest := []) (by rw [get_app]; simp) hx.lt
    have hNy : ∀ z, Nm (T ++ (none :: some (u32s l) :: none :: some (u32s m) :: z)) (.own (T.length + 3) 0 m.length 1) m := fun z => Nm.own (rest := []) (by rw [get_app]; simp) hy.lt
    refine E_call (hP ▸ s_Div) ⟨_, _, l, m, rfl, hNx [], hNy [], by omega, by omega, fun ra rb _ _ => ?_⟩
    simp (disch := first | assumption | omega | (simp only [lens]; omega)) only [eqs, ↓gvd_succ, ↓gvd_zero, ↓and_of, im_of, im_of trivial, vals, lsts, tys, hP, hst, initS, Nat.reduceBEq, Nat.reduceAdd, Nat.reduceMul, Nat.reduceSub, Nat.reduceDiv, Nat.reduceMod, Nat.reducePow, Nat.reduceLT, Nat.reduceLeDiff, Nat.reduceEqDiff, Int.reduceAdd, Int.reduceSub, Int.reduceNeg, Int.reduceMul, Int.reduceToNat, Int.reducePow, Int.reduceLE, Int.reduceLT, Int.reduceEq, Int.reduceNe, reduceIte, reduceCtorEq, ne_eq, not_true_eq_false, not_false_eq_true, true_and, and_true, and_self, true_implies, imp_self, implies_true, decide_true, decide_false, Bool.not_true, Bool.not_false, Bool.and_true, Bool.and_false, Bool.true_and, Bool.false_and, Bool.and_self, decide_eq_true_eq, eq_self]
    refine E_call (hP ▸ s_Norm) ⟨_, l, rfl, hNx _, by omega, fun rc _ => ?_⟩
    simp (disch := first | assumption | omega | (simp only [lens]; omega)) only [eqs, ↓gvd_succ, ↓gvd_zero, ↓and_of, im_of, im_of trivial, vals, lsts, tys, hP, hst, initS, Nat.reduceBEq, Nat.reduceAdd, Nat.reduceMul, Nat.reduceSub, Nat.reduceDiv, Nat.reduceMod, Nat.reducePow, Nat.reduceLT, Nat.reduceLeDiff, Nat.reduceEqDiff, Int.reduceAdd, Int.reduceSub, Int.reduceNeg, Int.reduceMul, Int.reduceToNat, Int.reducePow, Int.reduceLE, Int.reduceLT, Int.reduceEq, Int.reduceNe, reduceIte, reduceCtorEq, ne_eq, not_true_eq_false, not_false_eq_true, true_and, and_true, and_self, true_implies, imp_self, implies_true, decide_true, decide_false, Bool.not_true, Bool.not_false, Bool.and_true, Bool.and_false, Bool.true_and, Bool.false_and, Bool.and_self, decide_eq_true_eq, eq_self]
    refine E_call (hP ▸ s_Add) ⟨_, _, l, m, rfl, hNx _, hNy _, by omega, by omega, fun rd _ => ?_⟩
    simp (disch := first | assumption | omega | (simp only [lens]; omega)) only [eqs, ↓gvd_succ, ↓gvd_zero, ↓and_of, im_of, im_of trivial, vals, lsts, tys, hP, hst, initS, Nat.reduceBEq, Nat.reduceAdd, Nat.reduceMul, Nat.reduceSub, Nat.reduceDiv, Nat.reduceMod, Nat.reducePow, Nat.reduceLT, Nat.reduceLeDiff, Nat.reduceEqDiff, Int.reduceAdd, Int.reduceSub, Int.reduceNeg, Int.reduceMul, Int.reduceToNat, Int.reducePow, Int.reduceLE, Int.reduceLT, Int.reduceEq, Int.reduceNe, reduceIte, reduceCtorEq, ne_eq, not_true_eq_false, not_false_eq_true, true_and, and_true, and_self, true_implies, imp_self, implies_true, decide_true, decide_false, Bool.not_true, Bool.not_false, Bool.and_true, Bool.and_false, Bool.true_and, Bool.false_and, Bool.and_self, decide_eq_true_eq, eq_self]
    refine E_call (hP ▸ s_Sub) ⟨_, _, l, m, rfl, hNx _, hNy _, by omega, by omega, fun re _ => ?_⟩
    simp (disch := first | assumption | omega | (simp only [lens]; omega)) only [eqs, ↓gvd_succ, ↓gvd_zero, ↓and_of, im_of, im_of trivial, vals, lsts, tys, hP, hst, initS, Nat.reduceBEq, Nat.reduceAdd, Nat.reduceMul, Nat.reduceSub, Nat.reduceDiv, Nat.reduceMod, Nat.reducePow, Nat.reduceLT, Nat.reduceLeDiff, Nat.reduceEqDiff, Int.reduceAdd, Int.reduceSub, Int.reduceNeg, Int.reduceMul, Int.reduceToNat, Int.reducePow, Int.reduceLE, Int.reduceLT, Int.reduceEq, Int.reduceNe, reduceIte, reduceCtorEq, ne_eq, not_true_eq_false, not_false_eq_true, true_and, and_true, and_self, true_implies, imp_self, implies_true, decide_true, decide_false, Bool.not_true, Bool.not_false, Bool.and_true, Bool.and_false, Bool.true_and, Bool.false_and, Bool.and_self, decide_eq_true_eq, eq_self]
    refine E_call (hP ▸ s_Mul) ⟨_, _, l, m, rfl, hNx _, hNy _, by omega, by omega, fun rf _ => ?_⟩
    simp (disch := first | assumption | omega | (simp only [lens]; omega)) only [eqs, ↓gvd_succ, ↓gvd_zero, ↓and_of, im_of, im_of trivial, vals, lsts, tys, hP, hst, initS, Nat.reduceBEq, Nat.reduceAdd, Nat.reduceMul, Nat.reduceSub, Nat.reduceDiv, Nat.reduceMod, Nat.reducePow, Nat.reduceLT, Nat.reduceLeDiff, Nat.reduceEqDiff, Int.reduceAdd, Int.reduceSub, Int.reduceNeg, Int.reduceMul, Int.reduceToNat, Int.reducePow, Int.reduceLE, Int.reduceLT, Int.reduceEq, Int.reduceNe, reduceIte, reduceCtorEq, ne_eq, not_true_eq_false, not_false_eq_true, true_and, and_true, and_self, true_implies, imp_self, implies_true, decide_true, decide_false, Bool.not_true, Bool.not_false, Bool.and_true, Bool.and_false, Bool.true_and, Bool.false_and, Bool.and_self, decide_eq_true_eq, eq_self, tmod100]
    refine E_call (hP ▸ s_Shift) ⟨_, l, _, rfl, hNx _, by omega, by omega, by omega, fun rg _ => ?_⟩
    simp (disch := first | assumption | omega | (simp only [lens]; omega)) only [eqs, ↓gvd_succ, ↓gvd_zero, ↓and_of, im_of, im_of trivial, vals, lsts, tys, hP, hst, initS, Nat.reduceBEq, Nat.reduceAdd, Nat.reduceMul, Nat.reduceSub, Nat.reduceDiv, Nat.reduceMod, Nat.reducePow, Nat.reduceLT, Nat.reduceLeDiff, Nat.reduceEqDiff, Int.reduceAdd, Int.reduceSub, Int.reduceNeg, Int.reduceMul, Int.reduceToNat, Int.reducePow, Int.reduceLE, Int.reduceLT, Int.reduceEq, Int.reduceNe, reduceIte, reduceCtorEq, ne_eq, not_true_eq_false, not_false_eq_true, true_and, and_true, and_self, true_implies, imp_self, implies_true, decide_true, decide_false, Bool.not_true, Bool.not_false, Bool.and_true, Bool.and_false, Bool.true_and, Bool.false_and, Bool.and_self, decide_eq_true_eq, eq_self, tmod100]
    refine E_call (hP ▸ s_Shift) ⟨_, l, _, rfl, hNx _, by omega, by omega, by omega, fun rh _ => ?_⟩
    simp (disch := first | assumption | omega | (simp only [lens]; omega)) only [eqs, ↓gvd_succ, ↓gvd_zero, ↓and_of, im_of, im_of trivial, vals, lsts, tys, hP, hst, initS, Nat.reduceBEq, Nat.reduceAdd, Nat.reduceMul, Nat.reduceSub, Nat.reduceDiv, Nat.reduceMod, Nat.reducePow, Nat.reduceLT, Nat.reduceLeDiff, Nat.reduceEqDiff, Int.reduceAdd, Int.reduceSub, Int.reduceNeg, Int.reduceMul, Int.reduceToNat, Int.reducePow, Int.reduceLE, Int.reduceLT, Int.reduceEq, Int.reduceNe, reduceIte, reduceCtorEq, ne_eq, not_true_eq_false, not_false_eq_true, true_and, and_true, and_self, true_implies, imp_self, implies_true, decide_true, decide_false, Bool.not_true, Bool.not_false, Bool.and_true, Bool.and_false, Bool.true_and, Bool.false_and, Bool.and_self, decide_eq_true_eq, eq_self, zrow8s]
    have e0 : T.length + 4 + 1 = T.length + 5 := rfl
    rw [e0]
    obtain ⟨ρ, hρ⟩ : ∃ ρ : List (Nat × Nat × List AV), ρ = [(T.length + 6, val l, rc), (T.length + 7, val l + val m, rd), (T.length + 8, val l - val m, re), (T.length + 9, val l * val m, rf), (T.length + 4, val l / val m, ra), (T.length + 5, if val m = 0 then 0 else val l % val m, rb), (T.length + 10, shiftV (val l) ((n % 100 : Nat) : Int), rg), (T.length + 11, shiftV (val l) (0 - ((n % 100 : Nat) : Int)), rh)] := ⟨_, rfl⟩
    have hlen : ρ.length = 8 := by rw [hρ]; rfl
    have hnd : (ρ.map (·.1)).Nodup := by rw [hρ]; simp
    have hsep : ∀ p ∈ ρ, p.1 ≠ T.length + 1 ∧ p.1 ≠ T.length + 3 ∧ p.1 ≠ T.length + 12 ∧ T.length ≤ p.1 ∧ (limbs p.2.1).length ≤ 1000 := by
      have c1 := len_add (val l) (val m)
      have c2 := len_sub (val l) (val m)
      have c3 := len_mul (val l) (val m)
      have c4 := len_div (val l) (val m)
      have c5 := len_rem (val l) (val m)
      have c6 := len_shift (val l) ((n % 100 : Nat) : Int)
      have c7 := len_shift (val l) (0 - ((n % 100 : Nat) : Int))
      rw [hρ]
      intro p hp
      simp only [List.mem_cons, List.not_mem_nil, or_false] at hp
      rcases hp with rfl | rfl | rfl | rfl | rfl | rfl | rfl | rfl <;> refine ⟨?_, ?_, ?_, ?_, ?_⟩ <;> dsimp only <;> omega
    obtain ⟨S0, hS0⟩ : ∃ S0 : St, S0 = T ++ [none, some (u32s l), none, some (u32s m), some (u32s (limbs (val l / val m)) ++ ra), some (u32s (limbs (if val m = 0 then 0 else val l % val m)) ++ rb), some (u32s (limbs (val l)) ++ rc), some (u32s (limbs (val l + val m)) ++ rd), some (u32s (limbs (val l - val m)) ++ re), some (u32s (limbs (val l * val m)) ++ rf), some (u32s (limbs (shiftV (val l) ((n % 100 : Nat) : Int))) ++ rg), some (u32s (limbs (shiftV (val l) (0 - ((n % 100 : Nat) : Int)))) ++ rh), some (ρ.map rowA)] := ⟨_, rfl⟩
    have hI : OwnI st (T.length + 1) (T.length + 3) (T.length + 12) l m ρ 0 S0 := by
      refine ⟨by rw [hS0]; exact hT.app _, by rw [hS0, get_app]; rfl, by rw [hS0, get_app]; rfl, by rw [hS0, get_app]; rfl, fun k p _ hp => ?_⟩
      have hmem := List.mem_of_getElem? hp
      rw [hρ] at hmem
      rw [hS0]
      simp only [List.mem_cons, List.not_mem_nil, or_false] at hmem
      rcases hmem with rfl | rfl | rfl | rfl | rfl | rfl | rfl | rfl <;> dsimp only <;> rw [get_app] <;> rfl
    have hS1 : S0 = T ++ [none, some (u32s l), none, some (u32s m), some (u32s (limbs (val l / val m)) ++ ra), some (u32s (limbs (if val m = 0 then 0 else val l % val m)) ++ rb), some (u32s (limbs (val l)) ++ rc), some (u32s (limbs (val l + val m)) ++ rd), some (u32s (limbs (val l - val m)) ++ re), some (u32s (limbs (val l * val m)) ++ rf), some (u32s (limbs (shiftV (val l) ((n % 100 : Nat) : Int))) ++ rg), some (u32s (limbs (shiftV (val l) (0 - ((n % 100 : Nat) : Int)))) ++ rh), some
          [AV.own (T.length + 6) 0 (limbs (val l)).length 1, AV.own (T.length + 7) 0 (limbs (val l + val m)).length 1, AV.own (T.length + 8) 0 (limbs (val l - val m)).length 1, AV.own (T.length + 9) 0 (limbs (val l * val m)).length 1, AV.own (T.length + 4) 0 (limbs (val l / val m)).length 1, AV.own (T.length + 5) 0 (limbs (if val m = 0 then 0 else val l % val m)).length 1, AV.own (T.length + 10) 0 (limbs (shiftV (val l) ((n % 100 : Nat) : Int))).length 1, AV.own (T.length + 11) 0 (limbs (shiftV (val l) (0 - ((n % 100 : Nat) : Int)))).length 1]] := by
      rw [hS0, hρ]; rfl
    rw [← hS1]
    clear hS0 hS1 hρ
    refine V_loop (ι := Nat × St) (fun e => [(58, .val (.int .i64 (e.1 : Int))), (57, .val (.int .i64 8)), (56, .own (T.length + 12) 0 8 1), (8, .own (T.length + 3) 0 m.length 1), (7, .own (T.length + 1) 0 l.length 1), (0, x), (1, y)]) (fun e => e.2) (fun e => e.1 ≤ 8 ∧ OwnI st (T.length + 1) (T.length + 3) (T.length + 12) l m ρ e.1 e.2) (fun e => 8 - e.1) (0, S0) ⟨by simp, hI⟩ rfl (by simp (disch := first | assumption | omega | (simp only [lens]; omega)) only [eqs, ↓gvd_succ, ↓gvd_zero, ↓and_of, im_of, im_of trivial, vals, lsts, tys, hP, hst, initS, Nat.reduceBEq, Nat.reduceAdd, Nat.reduceMul, Nat.reduceSub, Nat.reduceDiv, Nat.reduceMod, Nat.reducePow, Nat.reduceLT, Nat.reduceLeDiff, Nat.reduceEqDiff, Int.reduceAdd, Int.reduceSub, Int.reduceNeg, Int.reduceMul, Int.reduceToNat, Int.reducePow, Int.reduceLE, Int.reduceLT, Int.reduceEq, Int.reduceNe, reduceIte, reduceCtorEq, ne_eq, not_true_eq_false, not_false_eq_true, true_and, and_true, and_self, true_implies, imp_self, implies_true, decide_true, decide_false, Bool.not_true, Bool.not_false, Bool.and_true, Bool.and_false, Bool.true_and, Bool.false_and, Bool.and_self, decide_eq_true_eq, eq_self] <;> rfl) ?_
    rintro ⟨i, S⟩ ⟨hi, hS⟩
    dsimp only at hi hS ⊢
    have hrows : sl 1 S (.own (T.length + 12) 0 8 1) = some (8, ρ.map rowA) := by
      have e : (ρ.map rowA).take 8 = ρ.map rowA := List.take_of_length_le (by simp [hlen])
      rw [sl_own_eq, if_pos rfl, hS.rows]
      simp only [List.drop_zero, Nat.mul_one, e, List.length_map, hlen, if_true]
    simp (disch := first | assumption | omega | (simp only [lens]; omega)) only [eqs, ↓gvd_succ, ↓gvd_zero, ↓and_of, im_of, im_of trivial, vals, lsts, tys, hP, hst, initS, Nat.reduceBEq, Nat.reduceAdd, Nat.reduceMul, Nat.reduceSub, Nat.reduceDiv, Nat.reduceMod, Nat.reducePow, Nat.reduceLT, Nat.reduceLeDiff, Nat.reduceEqDiff, Int.reduceAdd, Int.reduceSub, Int.reduceNeg, Int.reduceMul, Int.reduceToNat, Int.reducePow, Int.reduceLE, Int.reduceLT, Int.reduceEq, Int.reduceNe, reduceIte, reduceCtorEq, ne_eq, not_true_eq_false, not_false_eq_true, true_and, and_true, and_self, true_implies, imp_self, implies_true, decide_true, decide_false, Bool.not_true, Bool.not_false, Bool.and_true, Bool.and_false, Bool.true_and, Bool.false_and, Bool.and_self, decide_eq_true_eq, eq_self]
    refine C_dec (fun h2 => ?_) (fun h2 => ?_)
    · obtain ⟨p, hp⟩ : ∃ p, ρ[i]? = some p := ⟨_, List.getElem?_eq_getElem (by omega)⟩
      obtain ⟨q1, q2, q3, q4, q5⟩ := hsep p (List.mem_of_getElem? hp)
      have hg : (ρ.map rowA)[i]? = some (.own p.1 0 (limbs p.2.1).length 1) := by rw [List.getElem?_map, hp]; rfl
      have hat := hS.at' i p (Nat.le_refl _) hp
      have hN : sl 1 S (.own p.1 0 (limbs p.2.1).length 1) = some ((limbs p.2.1).length, u32s (limbs p.2.1)) := (Nm.own hat (limbs_lt _)).sl
      have hset := fun v => hS.set hp hnd q1 q2 q3 (Nat.le_trans hT.len q4) v
      obtain ⟨r, v, rest⟩ := p
      dsimp only at q1 q2 q3 q4 q5 hg hat hN hset
      have htop : v ≠ 0 → (limbs v).getD ((limbs v).length - 1) 0 ≠ 0 := limbs_top
      have hv0 : v = 0 ↔ (limbs v).length = 0 := by
        constructor
        · rintro rfl; rw [limbs_zero]; rfl
        · intro h3
          by_cases h4 : v = 0
          · exact h4
          · rw [limbs_pos h4] at h3; simp at h3
      have hll := limbs_lt v
      generalize limbs v = L at *
      have hrS : r < S.length := (List.getElem?_eq_some_iff.1 hat).1
      have hrX : X.st1.length ≤ r := Nat.le_trans hXT q4
      simp (disch := first | assumption | omega | (simp only [lens]; omega)) only [eqs, ↓gvd_succ, ↓gvd_zero, ↓and_of, im_of, im_of trivial, vals, lsts, tys, hP, hst, initS, Nat.reduceBEq, Nat.reduceAdd, Nat.reduceMul, Nat.reduceSub, Nat.reduceDiv, Nat.reduceMod, Nat.reducePow, Nat.reduceLT, Nat.reduceLeDiff, Nat.reduceEqDiff, Int.reduceAdd, Int.reduceSub, Int.reduceNeg, Int.reduceMul, Int.reduceToNat, Int.reducePow, Int.reduceLE, Int.reduceLT, Int.reduceEq, Int.reduceNe, reduceIte, reduceCtorEq, ne_eq, not_true_eq_false, not_false_eq_true, true_and, and_true, and_self, true_implies, imp_self, implies_true, decide_true, decide_false, Bool.not_true, Bool.not_false, Bool.and_true, Bool.and_false, Bool.true_and, Bool.false_and, Bool.and_self, decide_eq_true_eq, eq_self, hrows, hg, List.length_map, hlen, hN]
      refine G_dec (fun h3 => ?c1) (fun h3 => ?c2)
      case' c1 =>
        have h4 := htop (by omega)
        have h5 : ¬((L.getD (L.length - 1) 0 : Nat) : Int) = 0 := by omega
        simp (disch := first | assumption | omega | (simp only [lens]; omega)) only [eqs, ↓gvd_succ, ↓gvd_zero, ↓and_of, im_of, im_of trivial, vals, lsts, tys, hP, hst, initS, Nat.reduceBEq, Nat.reduceAdd, Nat.reduceMul, Nat.reduceSub, Nat.reduceDiv, Nat.reduceMod, Nat.reducePow, Nat.reduceLT, Nat.reduceLeDiff, Nat.reduceEqDiff, Int.reduceAdd, Int.reduceSub, Int.reduceNeg, Int.reduceMul, Int.reduceToNat, Int.reducePow, Int.reduceLE, Int.reduceLT, Int.reduceEq, Int.reduceNe, reduceIte, reduceCtorEq, ne_eq, not_true_eq_false, not_false_eq_true, true_and, and_true, and_self, true_implies, imp_self, implies_true, decide_true, decide_false, Bool.not_true, Bool.not_false, Bool.and_true, Bool.and_false, Bool.true_and, Bool.false_and, Bool.and_self, decide_eq_true_eq, eq_self, h3, hN, h5]
      case' c2 => simp (disch := first | assumption | omega | (simp only [lens]; omega)) only [eqs, ↓gvd_succ, ↓gvd_zero, ↓and_of, im_of, im_of trivial, vals, lsts, tys, hP, hst, initS, Nat.reduceBEq, Nat.reduceAdd, Nat.reduceMul, Nat.reduceSub, Nat.reduceDiv, Nat.reduceMod, Nat.reducePow, Nat.reduceLT, Nat.reduceLeDiff, Nat.reduceEqDiff, Int.reduceAdd, Int.reduceSub, Int.reduceNeg, Int.reduceMul, Int.reduceToNat, Int.reducePow, Int.reduceLE, Int.reduceLT, Int.reduceEq, Int.reduceNe, reduceIte, reduceCtorEq, ne_eq, not_true_eq_false, not_false_eq_true, true_and, and_true, and_self, true_implies, imp_self, implies_true, decide_true, decide_false, Bool.not_true, Bool.not_false, Bool.and_true, Bool.and_false, Bool.true_and, Bool.false_and, Bool.and_self, decide_eq_true_eq, eq_self, h3, hN]
      all_goals
        refine V_loop (ι := Nat × List Nat) (fun e => [(76, .val (.int .i64 (e.1 : Int))), (75, .val (.int .i64 (L.length : Int))), (12, .own r 0 L.length 1), (58, .val (.int .i64 (i : Int))), (57, .val (.int .i64 8)), (56, .own (T.length + 12) 0 8 1), (8, .own (T.length + 3) 0 m.length 1), (7, .own (T.length + 1) 0 l.length 1), (0, x), (1, y)])
          (fun e => S.set r (some (u32s e.2 ++ rest))) (fun e => e.1 ≤ L.length ∧ e.2.length = L.length ∧ ∀ z ∈ e.2, z < 4294967296) (fun e => L.length - e.1) (0, L) ⟨by simp, rfl, hll⟩ (set_self hat) (by simp (disch := first | assumption | omega | (simp only [lens]; omega)) only [eqs, ↓gvd_succ, ↓gvd_zero, ↓and_of, im_of, im_of trivial, vals, lsts, tys, hP, hst, initS, Nat.reduceBEq, Nat.reduceAdd, Nat.reduceMul, Nat.reduceSub, Nat.reduceDiv, Nat.reduceMod, Nat.reducePow, Nat.reduceLT, Nat.reduceLeDiff, Nat.reduceEqDiff, Int.reduceAdd, Int.reduceSub, Int.reduceNeg, Int.reduceMul, Int.reduceToNat, Int.reducePow, Int.reduceLE, Int.reduceLT, Int.reduceEq, Int.reduceNe, reduceIte, reduceCtorEq, ne_eq, not_true_eq_false, not_false_eq_true, true_and, and_true, and_self, true_implies, imp_self, implies_true, decide_true, decide_false, Bool.not_true, Bool.not_false, Bool.and_true, Bool.and_false, Bool.true_and, Bool.false_and, Bool.and_self, decide_eq_true_eq, eq_self] <;> rfl) ?_
        rintro ⟨j, w⟩ ⟨hj, hw, hwl⟩
        dsimp only at hj hw hwl ⊢
        have hat2 : (S.set r (some (u32s w ++ rest)))[r]? = some (some (u32s w ++ rest)) := by simp [hrS]
        have hN2 : sl 1 (S.set r (some (u32s w ++ rest))) (.own r 0 L.length 1) = some (L.length, u32s w) := by
          have := (Nm.own hat2 hwl).sl
          rw [hw] at this
          exact this
        simp (disch := first | assumption | omega | (simp only [lens]; omega)) only [eqs, ↓gvd_succ, ↓gvd_zero, ↓and_of, im_of, im_of trivial, vals, lsts, tys, hP, hst, initS, Nat.reduceBEq, Nat.reduceAdd, Nat.reduceMul, Nat.reduceSub, Nat.reduceDiv, Nat.reduceMod, Nat.reducePow, Nat.reduceLT, Nat.reduceLeDiff, Nat.reduceEqDiff, Int.reduceAdd, Int.reduceSub, Int.reduceNeg, Int.reduceMul, Int.reduceToNat, Int.reducePow, Int.reduceLE, Int.reduceLT, Int.reduceEq, Int.reduceNe, reduceIte, reduceCtorEq, ne_eq, not_true_eq_false, not_false_eq_true, true_and, and_true, and_self, true_implies, imp_self, implies_true, decide_true, decide_false, Bool.not_true, Bool.not_false, Bool.and_true, Bool.and_false, Bool.true_and, Bool.false_and, Bool.and_self, decide_eq_true_eq, eq_self]
        refine C_dec (fun h6 => ?_) (fun h6 => ?_)
        · have b2 := getD_lt hwl j
          have e4 : IntKind.u32.wrap ((w.getD j 0 : Nat) + 1 : Int) = (((w.getD j 0 + 1) % 4294967296 : Nat) : Int) := by rw [IntKind.wrap_u32]; omega
          have hput := put_row (rest := rest) (j := j) (v := (w.getD j 0 + 1) % 4294967296) (show j < w.length by omega)
          simp (disch := first | assumption | omega | (simp only [lens]; omega)) only [eqs, ↓gvd_succ, ↓gvd_zero, ↓and_of, im_of, im_of trivial, vals, lsts, tys, hP, hst, initS, Nat.reduceBEq, Nat.reduceAdd, Nat.reduceMul, Nat.reduceSub, Nat.reduceDiv, Nat.reduceMod, Nat.reducePow, Nat.reduceLT, Nat.reduceLeDiff, Nat.reduceEqDiff, Int.reduceAdd, Int.reduceSub, Int.reduceNeg, Int.reduceMul, Int.reduceToNat, Int.reducePow, Int.reduceLE, Int.reduceLT, Int.reduceEq, Int.reduceNe, reduceIte, reduceCtorEq, ne_eq, not_true_eq_false, not_false_eq_true, true_and, and_true, and_self, true_implies, imp_self, implies_true, decide_true, decide_false, Bool.not_true, Bool.not_false, Bool.and_true, Bool.and_false, Bool.true_and, Bool.false_and, Bool.and_self, decide_eq_true_eq, eq_self, hN2, e4, hput, hat2]
          refine again (j + 1, w.set j ((w.getD j 0 + 1) % 4294967296)) ⟨by dsimp only; omega, by simp [hw], set_lt hwl (Nat.mod_lt _ (by omega))⟩ (by dsimp only; omega) (by first | rfl | (dsimp only; rw [← hput]; rfl)) (by dsimp only; simp (disch := first | assumption | omega | (simp only [lens]; omega)) only [eqs, ↓gvd_succ, ↓gvd_zero, ↓and_of, im_of, im_of trivial, vals, lsts, tys, hP, hst, initS, Nat.reduceBEq, Nat.reduceAdd, Nat.reduceMul, Nat.reduceSub, Nat.reduceDiv, Nat.reduceMod, Nat.reducePow, Nat.reduceLT, Nat.reduceLeDiff, Nat.reduceEqDiff, Int.reduceAdd, Int.reduceSub, Int.reduceNeg, Int.reduceMul, Int.reduceToNat, Int.reducePow, Int.reduceLE, Int.reduceLT, Int.reduceEq, Int.reduceNe, reduceIte, reduceCtorEq, ne_eq, not_true_eq_false, not_false_eq_true, true_and, and_true, and_self, true_implies, imp_self, implies_true, decide_true, decide_false, Bool.not_true, Bool.not_false, Bool.and_true, Bool.and_false, Bool.true_and, Bool.false_and, Bool.and_self, decide_eq_true_eq, eq_self] <;> rfl)
        · simp (disch := first | assumption | omega | (simp only [lens]; omega)) only [eqs, ↓gvd_succ, ↓gvd_zero, ↓and_of, im_of, im_of trivial, vals, lsts, tys, hP, hst, initS, Nat.reduceBEq, Nat.reduceAdd, Nat.reduceMul, Nat.reduceSub, Nat.reduceDiv, Nat.reduceMod, Nat.reducePow, Nat.reduceLT, Nat.reduceLeDiff, Nat.reduceEqDiff, Int.reduceAdd, Int.reduceSub, Int.reduceNeg, Int.reduceMul, Int.reduceToNat, Int.reducePow, Int.reduceLE, Int.reduceLT, Int.reduceEq, Int.reduceNe, reduceIte, reduceCtorEq, ne_eq, not_true_eq_false, not_false_eq_true, true_and, and_true, and_self, true_implies, imp_self, implies_true, decide_true, decide_false, Bool.not_true, Bool.not_false, Bool.and_true, Bool.and_false, Bool.true_and, Bool.false_and, Bool.and_self, decide_eq_true_eq, eq_self]
          refine again (i + 1, S.set r (some (u32s w ++ rest))) ⟨by dsimp only; omega, hset _⟩ (by dsimp only; omega) rfl (by dsimp only; simp (disch := first | assumption | omega | (simp only [lens]; omega)) only [eqs, ↓gvd_succ, ↓gvd_zero, ↓and_of, im_of, im_of trivial, vals, lsts, tys, hP, hst, initS, Nat.reduceBEq, Nat.reduceAdd, Nat.reduceMul, Nat.reduceSub, Nat.reduceDiv, Nat.reduceMod, Nat.reducePow, Nat.reduceLT, Nat.reduceLeDiff, Nat.reduceEqDiff, Int.reduceAdd, Int.reduceSub, Int.reduceNeg, Int.reduceMul, Int.reduceToNat, Int.reducePow, Int.reduceLE, Int.reduceLT, Int.reduceEq, Int.reduceNe, reduceIte, reduceCtorEq, ne_eq, not_true_eq_false, not_false_eq_true, true_and, and_true, and_self, true_implies, imp_self, implies_true, decide_true, decide_false, Bool.not_true, Bool.not_false, Bool.and_true, Bool.and_false, Bool.true_and, Bool.false_and, Bool.and_self, decide_eq_true_eq, eq_self] <;> rfl)
    · have hi8 : i = 8 := by omega
      subst hi8
      have hN1 : Nm S (.own (T.length + 1) 0 l.length 1) l := Nm.own (rest := []) (by rw [hS.x, List.append_nil]) hx.lt
      have hN2 : Nm S (.own (T.length + 3) 0 m.length 1) m := Nm.own (rest := []) (by rw [hS.y, List.append_nil]) hy.lt
      simp (disch := first | assumption | omega | (simp only [lens]; omega)) only [eqs, ↓gvd_succ, ↓gvd_zero, ↓and_of, im_of, im_of trivial, vals, lsts, tys, hP, hst, initS, Nat.reduceBEq, Nat.reduceAdd, Nat.reduceMul, Nat.reduceSub, Nat.reduceDiv, Nat.reduceMod, Nat.reducePow, Nat.reduceLT, Nat.reduceLeDiff, Nat.reduceEqDiff, Int.reduceAdd, Int.reduceSub, Int.reduceNeg, Int.reduceMul, Int.reduceToNat, Int.reducePow, Int.reduceLE, Int.reduceLT, Int.reduceEq, Int.reduceNe, reduceIte, reduceCtorEq, ne_eq, not_true_eq_false, not_false_eq_true, true_and, and_true, and_self, true_implies, imp_self, implies_true, decide_true, decide_false, Bool.not_true, Bool.not_false, Bool.and_true, Bool.and_false, Bool.true_and, Bool.false_and, Bool.and_self, decide_eq_true_eq, eq_self]
      refine E_call (hP ▸ s_lsameT) ⟨_, x, l, rfl, hN1, hx.ext hS.ex, by omega, ?_⟩
      simp (disch := first | assumption | omega | (simp only [lens]; omega)) only [eqs, ↓gvd_succ, ↓gvd_zero, ↓and_of, im_of, im_of trivial, vals, lsts, tys, hP, hst, initS, Nat.reduceBEq, Nat.reduceAdd, Nat.reduceMul, Nat.reduceSub, Nat.reduceDiv, Nat.reduceMod, Nat.reducePow, Nat.reduceLT, Nat.reduceLeDiff, Nat.reduceEqDiff, Int.reduceAdd, Int.reduceSub, Int.reduceNeg, Int.reduceMul, Int.reduceToNat, Int.reducePow, Int.reduceLE, Int.reduceLT, Int.reduceEq, Int.reduceNe, reduceIte, reduceCtorEq, ne_eq, not_true_eq_false, not_false_eq_true, true_and, and_true, and_self, true_implies, imp_self, implies_true, decide_true, decide_false, Bool.not_true, Bool.not_false, Bool.and_true, Bool.and_false, Bool.true_and, Bool.false_and, Bool.and_self, decide_eq_true_eq, eq_self]
      refine E_call (hP ▸ s_lsameT) ⟨_, y, m, rfl, hN2, hy.ext hS.ex, by omega, ?_⟩
      simp (disch := first | assumption | omega | (simp only [lens]; omega)) only [eqs, ↓gvd_succ, ↓gvd_zero, ↓and_of, im_of, im_of trivial, vals, lsts, tys, hP, hst, initS, Nat.reduceBEq, Nat.reduceAdd, Nat.reduceMul, Nat.reduceSub, Nat.reduceDiv, Nat.reduceMod, Nat.reducePow, Nat.reduceLT, Nat.reduceLeDiff, Nat.reduceEqDiff, Int.reduceAdd, Int.reduceSub, Int.reduceNeg, Int.reduceMul, Int.reduceToNat, Int.reducePow, Int.reduceLE, Int.reduceLT, Int.reduceEq, Int.reduceNe, reduceIte, reduceCtorEq, ne_eq, not_true_eq_false, not_false_eq_true, true_and, and_true, and_self, true_implies, imp_self, implies_true, decide_true, decide_false, Bool.not_true, Bool.not_false, Bool.and_true, Bool.and_false, Bool.true_and, Bool.false_and, Bool.and_self, decide_eq_true_eq, eq_self]
      refine E_call (hP ▸ s_llives) ⟨rfl, fun TT hTT => ?_⟩
      simp (disch := first | assumption | omega | (simp only [lens]; omega)) only [eqs, ↓gvd_succ, ↓gvd_zero, ↓and_of, im_of, im_of trivial, vals, lsts, tys, hP, hst, initS, Nat.reduceBEq, Nat.reduceAdd, Nat.reduceMul, Nat.reduceSub, Nat.reduceDiv, Nat.reduceMod, Nat.reducePow, Nat.reduceLT, Nat.reduceLeDiff, Nat.reduceEqDiff, Int.reduceAdd, Int.reduceSub, Int.reduceNeg, Int.reduceMul, Int.reduceToNat, Int.reducePow, Int.reduceLE, Int.reduceLT, Int.reduceEq, Int.reduceNe, reduceIte, reduceCtorEq, ne_eq, not_true_eq_false, not_false_eq_true, true_and, and_true, and_self, true_implies, imp_self, implies_true, decide_true, decide_false, Bool.not_true, Bool.not_false, Bool.and_true, Bool.and_false, Bool.true_and, Bool.false_and, Bool.and_self, decide_eq_true_eq, eq_self]
      exact hK _ (hS.ex.trans hTT)
end Go.Proofs.Pv
