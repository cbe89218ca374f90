/- The engine's eighth part: each operation anew, sound; the operations that may be drawn in any order. -/
import Derived.Test.YtdaidpomfkgbeaaE7
set_option linter.unusedSimpArgs false
set_option linter.unusedVariables false
namespace Go.Proofs.Pv
open Go Go.RowKit

/-- As vcE2; d: calls only of functions that change nothing that was there. -/
def vcE3 (d : Bool) (X : Cx) (o : AOp) (st : St) (K : AV → St → Prop) : Prop :=
  match o with
  | .call f xs => match f with
    | .fn (.func g) fs cs => ∃ R, (if d = true then PSpec X.P g R else FSpec X g R) ∧ R (fs ++ xs ++ cs) st K
    | _ => False
  | o => vcE2 X o st K

/-- Operations that leave what was there as it was (a call: of such a function). -/
def softO : Op → Bool
  | .store _ _ _ => false
  | .call ⟨.builtin .append, _, _⟩ => false
  | .call ⟨.builtin .copy, _, _⟩ => false
  | _ => true

def pureO : Op → Bool
  | .move _ | .assign _ | .pick _ _ _ | .build _ _ | .load _ _ | .nilCheck _ | .binOp _ _ _ _ _ | .unOp _ _ _ | .makeFunc _ _ _ | .slice _ _ _ _ _ | .fieldAddr _ _ _ | .field _ _ _ | .indexAddr _ _ _ | .index _ _ _ | .extract _ _ => true
  | .convert _ _ _ => true
  | .call ⟨.builtin .len, _, _⟩ | .call ⟨.builtin .max, _, _⟩ | .call ⟨.builtin .min, _, _⟩ => true
  | _ => false

section
variable {X : Cx} {N : Nat} {β : Bk} {st : St} {w : World} {s : Sl} {a : Act} {o : Oper} {K : AV → St → Prop} {d : Bool}

theorem pure2_sound (hI : Inv X β st w) (hS : SRel X N β s a) (hp : pureA (aop s o.op) = true) (h : vcE2 X (aop s o.op) st K) : Yld X β w a o st K := by
  have go : vcE X (aop s o.op) st K → Yld X β w a o st K := fun h => pure_sound hI hS hp h
  cases hop : o.op with
  | load t y => rw [hop] at h; exact y2_load hop hI hS h
  | fieldAddr t y i => rw [hop] at h; exact y2_fAddr hop hS h
  | nilCheck y => rw [hop] at h; exact y2_nilCk hop hS h
  | indexAddr t y i => rw [hop] at h; exact y2_iAddr hop hS h
  | slice t y lo hi mx => rw [hop] at h; exact y2_slice hop hS h
  | call c =>
    obtain ⟨cal, xs, ts⟩ := c
    rw [hop] at h hp go
    cases cal with
    | builtin b => cases b <;> first | exact y2_len hop hS h | exact go h
    | value f => cases hp
    | invoke r m => cases hp
  | _ => rw [hop] at h hp go; first | exact go h | cases hp

theorem op2_sound (hI : Inv X β st w) (hS : SRel X N β s a) (h : vcE2 X (aop s o.op) st K) {next : Act → World → Prop} {Q : Exit → Act → World → Prop}
    (hn : ∀ v x ex st' w', Inv X (β ++ ex) st' w' → VRel X.w0 (β ++ ex) v x → K x st' → next (a.put o.dst v) w') : o.wp X.P a w next Q := by
  by_cases hp : pureA (aop s o.op) = true
  · obtain ⟨v, x, h1, h2, h3⟩ := pure2_sound hI hS hp h
    unfold Oper.wp
    rw [h1 w (Below.refl _ _), Oper.upon_value]
    exact hn v x [] st w (by rw [List.append_nil]; exact hI) (by rw [List.append_nil]; exact h2) h3
  · have go : vcE X (aop s o.op) st K → o.wp X.P a w next Q := fun h => op_sound hI hS h hn
    cases hop : o.op with
    | store t x y =>
      rw [hop] at h
      cases hx : ev s x with
      | el z sz i =>
        simp only [aop, hx] at h
        cases z with
        | own r off n s' =>
          obtain ⟨k, rfl⟩ := el_tmp hx
          have h2 : vcE X (.store t (.ptr r (off + i)) (ev s y)) st K := h
          have hS' := hS.unel hx
          refine op_sound (s := (k, elemP (.own r off n s') i) :: s) hI hS' ?_ hn
          rw [hop]
          have e1 : ev ((k, elemP (.own r off n s') i) :: s) (.tmp k) = .ptr r (off + i) := by simp [ev_tmp, get_cons, elemP]
          cases y with
          | tmp j =>
            by_cases hj : j = k
            · subst hj
              rw [hx] at h2
              obtain ⟨_, h3⟩ := h2
              cases hst : st[r]? with
              | none => simp [hst] at h3
              | some c =>
                cases c with
                | none => simp [hst] at h3
                | some cs => simp [hst, okCells, leaf] at h3
            · have e2 : ev ((k, elemP (.own r off n s') i) :: s) (.tmp j) = ev s (.tmp j) := by
                have hb : (j == k) = false := by simpa using hj
                rw [ev_tmp, get_cons, hb]; rfl
              simp only [aop, e1, e2]
              exact h2
          | _ => simp only [aop, e1]; exact h2
        | _ => exact (show False from h).elim
      | _ => rw [hop] at go; refine go ?_; simp only [aop, hx] at h ⊢; exact h
    | call c =>
      obtain ⟨cal, xs, ts⟩ := c
      rw [hop] at h hp go
      cases cal with
      | builtin b => cases b <;> first | exact absurd rfl hp | exact go h
      | value f => exact go h
      | invoke r m => exact go h
    | _ => rw [hop] at h hp go; first | exact go h | exact absurd rfl hp

theorem op3_sound (hI : Inv X β st w) (hS : SRel X N β s a) (h : vcE3 d X (aop s o.op) st K) {next : Act → World → Prop} {Q : Exit → Act → World → Prop}
    (hn : ∀ v x ex st' w', Inv X (β ++ ex) st' w' → VRel X.w0 (β ++ ex) v x → K x st' → next (a.put o.dst v) w') : o.wp X.P a w next Q := by
  refine op2_sound hI hS ?_ hn
  cases ho : aop s o.op with
  | call f xs =>
    rw [ho] at h
    cases f with
    | fn g fs cs =>
      cases g with
      | func g =>
        obtain ⟨R, hR, h⟩ := h
        refine ⟨R, ?_, h⟩
        cases d
        · exact hR
        · exact PSpec.to_f hR
      | _ => exact h
    | _ => exact h
  | _ => rw [ho] at h; exact h

/-- The context at a world in the middle. -/
def Cx.here (X : Cx) (w : World) (st : St) (β : Bk) : Cx := ⟨X.P, X.w0, w, st, β⟩

theorem blt_here {b : Builtin} (hb : b = .len ∨ b = .max ∨ b = .min) {ts : List TypeId} {xs : List AV} (h : vcE2 X (.blt b ts xs) st K) : vcE2 (X.here w st β) (.blt b ts xs) st K := by
  rcases hb with rfl | rfl | rfl
  · match ts, xs with
    | [t], [x] => exact h
    | [], _ => exact h
    | _ :: _ :: _, _ => exact h
    | [_], [] => exact h
    | [_], _ :: _ :: _ => exact h
  · simp only [vcE2, vcE] at h ⊢
    split at h
    all_goals first | exact h.elim | (rename_i heq; cases heq) | skip
    all_goals first | exact h | exact h.elim | (rename_i heq _ _; cases heq)
  · simp only [vcE2, vcE] at h ⊢
    split at h
    all_goals first | exact h.elim | (rename_i heq; cases heq) | skip
    all_goals first | exact h | exact h.elim | (rename_i heq _ _; cases heq)

/-- Operations that leave what was there as it was: behind them the world has grown alone. -/
theorem soft_sound (hI : Inv X β st w) (hS : SRel X N β s a) (hs : softO o.op = true) (h : vcE3 true X (aop s o.op) st K) {next : Act → World → Prop} {Q : Exit → Act → World → Prop}
    (hn : ∀ v x ex st' w', Below w.heap.size w w' → Inv X (β ++ ex) st' w' → VRel X.w0 (β ++ ex) v x → K x st' → next (a.put o.dst v) w') : o.wp X.P a w next Q := by
  refine op3_sound (X := X.here w st β) (N := N) (d := true) hI.here ⟨hS.size, hS.defers, hS.slot⟩ (K := K) ?_ fun v x ex st' w' h1 h2 h3 => hn v x ex st' w' h1.b1 (hI.back h1) h2 h3
  cases hop : o.op with
  | store t x y => rw [hop] at hs; cases hs
  | call c =>
    obtain ⟨cal, xs, ts⟩ := c
    rw [hop] at h hs
    cases cal with
    | builtin b => cases b <;> first | exact h | exact blt_here (.inl rfl) h | exact blt_here (.inr (.inl rfl)) h | exact blt_here (.inr (.inr rfl)) h | exact absurd hs (by simp [softO])
    | value f => exact h
    | invoke r m => exact h
  | _ => rw [hop] at h; exact h

theorem pureO_aop {op : Op} (h : pureO op = true) : pureA (aop s op) = true := by
  cases op with
  | call c =>
    obtain ⟨cal, xs, ts⟩ := c
    cases cal with
    | builtin b => cases b <;> first | rfl | cases h
    | _ => cases h
  | _ => first | rfl | cases h

theorem pure3_of {op : Op} (hp : pureO op = true) (h : vcE3 d X (aop s op) st K) : vcE2 X (aop s op) st K := by
  cases op with
  | call c =>
    obtain ⟨cal, xs, ts⟩ := c
    cases cal with
    | builtin b => exact h
    | _ => cases hp
  | _ => exact h
end
end Go.Proofs.Pv
