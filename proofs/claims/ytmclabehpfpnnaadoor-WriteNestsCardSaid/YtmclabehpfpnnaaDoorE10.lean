/- The engine's seventh part: slices read whichever they are, and each operation anew. -/
import Derived.Test.YtmclabehpfpnnaaDoorE6
import Derived.Scope
import Derived.RangeFuncLeaves
import Derived.RangeFuncRecord
set_option linter.unusedSimpArgs false
set_option linter.unusedVariables false
namespace Go.Proofs.Pv
open Go Go.RowKit

/-- A slice's elements' number and cells, if its elements have sz cells. -/
def sl (sz : Nat) (st : St) : AV → Option (Nat × List AV)
  | .im n cs => if cs.length = n * sz then some (n, cs) else none
  | .own r off n s => if s = sz then match st[r]? with
    | some (some cs) => if ((cs.drop off).take (n * sz)).length = n * sz then some (n, (cs.drop off).take (n * sz)) else none
    | _ => none
    else none
  | .val (.slice none 0 0) => some (0, [])
  | _ => none

/-- A part of a slice. -/
def cutA (x : AV) (l m sz : Nat) : AV :=
  match x with
  | .im _ cs => .im m ((cs.drop (l * sz)).take (m * sz))
  | .own r off _ s => .own r (off + l * sz) m s
  | x => x

section
variable {sz : Nat} {st : St} {x : AV} {n : Nat} {cs : List AV}

theorem sl_cases (h : sl sz st x = some (n, cs)) :
    (x = .im n cs ∧ cs.length = n * sz) ∨ (∃ r off c, x = .own r off n sz ∧ st[r]? = some (some c) ∧ (c.drop off).take (n * sz) = cs ∧ cs.length = n * sz) ∨ (x = .val (.slice none 0 0) ∧ n = 0 ∧ cs = []) := by
  unfold sl at h
  split at h
  · split at h
    · rename_i hl; cases h; exact .inl ⟨rfl, hl⟩
    · cases h
  · split at h
    · rename_i hs
      subst hs
      split at h
      · rename_i c hc
        split at h
        · rename_i hl; cases h; exact .inr (.inl ⟨_, _, _, rfl, hc, rfl, hl⟩)
        · cases h
      · cases h
    · cases h
  · cases h; exact .inr (.inr ⟨rfl, rfl, rfl⟩)
  · cases h

theorem sl_slc (h : sl sz st x = some (n, cs)) : slc st x = some (n, cs) ∧ cs.length = n * sz := by
  rcases sl_cases h with ⟨rfl, hl⟩ | ⟨r, off, c, rfl, hc, hd, hl⟩ | ⟨rfl, rfl, rfl⟩
  · exact ⟨rfl, hl⟩
  · exact ⟨by simp [slc, hc, hd], hl⟩
  · exact ⟨rfl, by simp⟩

theorem sl_leaf (h : sl sz st x = some (n, cs)) : leaf x = true := by
  rcases sl_cases h with ⟨rfl, hl⟩ | ⟨r, off, c, rfl, hc, hd, hl⟩ | ⟨rfl, rfl, rfl⟩ <;> rfl

theorem sl_grow {p : Nat × List AV} (h : sl sz st x = some p) (y : St) : sl sz (st ++ y) x = some p := by
  obtain ⟨n, cs⟩ := p
  rcases sl_cases h with ⟨rfl, hl⟩ | ⟨r, off, c, rfl, hc, hd, hl⟩ | ⟨rfl, rfl, rfl⟩
  · exact h
  · have : (st ++ y)[r]? = some (some c) := by rw [List.getElem?_append_left (List.getElem?_eq_some_iff.1 hc).1]; exact hc
    unfold sl at h ⊢
    simp only [hc, this] at h ⊢
    exact h
  · rfl

theorem sl_cut (h : sl sz st x = some (n, cs)) {l m : Nat} (hm : l + m ≤ n) : sl sz st (cutA x l m sz) = some (m, (cs.drop (l * sz)).take (m * sz)) := by
  have hb : l * sz + m * sz ≤ n * sz := by rw [← Nat.add_mul]; exact Nat.mul_le_mul_right _ hm
  rcases sl_cases h with ⟨rfl, hl⟩ | ⟨r, off, c, rfl, hc, hd, hl⟩ | ⟨rfl, rfl, rfl⟩
  · have : ((cs.drop (l * sz)).take (m * sz)).length = m * sz := by simp; omega
    rw [cutA, sl, if_pos this]
  · have e : (c.drop (off + l * sz)).take (m * sz) = (cs.drop (l * sz)).take (m * sz) := by
      subst hd
      rw [List.drop_take, List.take_take, List.drop_drop]
      congr 1
      omega
    have : ((cs.drop (l * sz)).take (m * sz)).length = m * sz := by simp; omega
    simp only [cutA, sl, if_true, hc]
    rw [e, if_pos this]
  · have : l = 0 ∧ m = 0 := by omega
    obtain ⟨rfl, rfl⟩ := this
    simp [cutA, sl]
end

/-- What an operation asks and hands on, slices read whichever they are. -/
def vcE2 (X : Cx) (o : AOp) (st : St) (K : AV → St → Prop) : Prop :=
  match o with
  | .load t x => match x with
    | .el y sz o => match sl sz st y with
      | some (_, cs) => o < cs.length ∧ loadA X.P t cs o fun v => K v st
      | none => False
    | x => vcE X (.load t x) st K
  | .store t x v => match x with
    | .el (.own r off _ _) _ o => vcE X (.store t (.ptr r (off + o)) v) st K
    | x => vcE X (.store t x v) st K
  | .fAddr t x i => match x with
    | .el y sz o => match sl sz st y with
      | some (_, cs) => o < cs.length ∧ match ti X.P t with
        | .struct fs _ _ => match fs[i]? with
          | some (p, s, _) => 0 < s ∧ K (.el y sz (o + p)) st
          | none => False
        | _ => False
      | none => False
    | x => vcE X (.fAddr t x i) st K
  | .nilCk x => match x with
    | .el y sz o => match sl sz st y with
      | some (_, cs) => o < cs.length ∧ K (.el y sz o) st
      | none => False
    | x => vcE X (.nilCk x) st K
  | .iAddr t x i => match ti X.P t with
    | .slice _ sz _ _ _ => match i with
      | .val (.int _ j) => match sl sz st x with
        | some (n, _) => 0 ≤ j ∧ j < n ∧ K (.el x sz (j.toNat * sz)) st
        | none => False
      | _ => False
    | _ => vcE X (.iAddr t x i) st K
  | .slice t x lo hi mx => match ti X.P t with
    | .slice _ sz _ _ _ => match mx with
      | none => match sl sz st x with
        | some (n, _) => sliceB lo hi n fun l h => K (cutA x l (h - l) sz) st
        | none => False
      | some _ => False
    | _ => vcE X (.slice t x lo hi mx) st K
  | .blt b ts xs => match b, ts, xs with
    | .len, [t], [x] => match ti X.P t with
      | .slice _ sz _ _ _ => match sl sz st x with
        | some (n, _) => n ≤ 9223372036854775807 → K (.val (.int .i64 (n : Int))) st
        | none => False
      | _ => vcE X (.blt .len [t] [x]) st K
    | b, ts, xs => vcE X (.blt b ts xs) st K
  | o => vcE X o st K

section
variable {X : Cx} {N : Nat} {β : Bk} {st : St} {w : World} {s : Sl} {a : Act} {o : Oper} {K : AV → St → Prop}

theorem el_tmp {y : Operand} {x : AV} {sz i : Nat} (h : ev s y = .el x sz i) : ∃ k, y = .tmp k := by
  cases y with
  | tmp t => exact ⟨_, rfl⟩
  | const v =>
    have h : cstA v = .el x sz i := h
    cases v <;> cases h
  | _ => cases h

/-- A slot that holds a place in a slice holds that place. -/
theorem SRel.unel (hS : SRel X N β s a) {k : Nat} {x : AV} {sz i : Nat} (h : Sl.get s k = .el x sz i) : SRel X N β ((k, elemP x i) :: s) a := by
  refine ⟨hS.size, hS.defers, fun j => ?_⟩
  rw [get_cons]
  by_cases hj : j = k
  · subst hj
    have := hS.slot j
    rw [h] at this
    simp only [BEq.rfl, cond_true]
    generalize a.tmps.getD j undef = v at this ⊢
    cases this with
    | el h' => exact h'
  · have hb : (j == k) = false := by simpa using hj
    rw [hb]; exact hS.slot j

theorem sl_elem {sz : Nat} {y : AV} {n : Nat} {cs : List AV} {i : Nat} (h : sl sz st y = some (n, cs)) (hi : i < cs.length) :
    elemP y i = .imp (cs.drop i) ∨ ∃ r off c, elemP y i = .ptr r (off + i) ∧ st[r]? = some (some c) ∧ cs = (c.drop off).take (n * sz) := by
  rcases sl_cases h with ⟨rfl, hl⟩ | ⟨r, off, c, rfl, hc, hd, hl⟩ | ⟨rfl, rfl, rfl⟩
  · exact .inl rfl
  · exact .inr ⟨r, off, c, rfl, hc, hd.symm⟩
  · simp at hi

theorem partA_take {c : List AV} {off m i sz : Nat} {ag : Bool} {F : AV → Prop} (hi : i < ((c.drop off).take m).length) (h : partA ((c.drop off).take m) i sz ag F) : partA c (off + i) sz ag F := by
  unfold partA at *
  split
  · rename_i hg
    rw [if_pos hg] at h
    obtain ⟨h1, h2⟩ := h
    simp at h1 hi
    refine ⟨by omega, ?_⟩
    rw [List.drop_take, List.take_take, List.drop_drop, Nat.min_eq_left (by omega)] at h2
    exact h2
  · rename_i hg
    rw [if_neg hg] at h
    by_cases hi : i < m
    · rw [List.getElem?_take_of_lt hi, List.getElem?_drop] at h
      exact h
    · rw [List.getElem?_take_eq_none (by omega)] at h
      exact h.elim

/-- A load through a place in a slice, as one through that place. -/
theorem load_el {t : TypeId} {y : AV} {sz i : Nat} (h : vcE2 X (.load t (.el y sz i)) st K) : vcE X (.load t (elemP y i)) st K := by
  unfold vcE2 at h
  simp only at h
  cases hs : sl sz st y with
  | none => rw [hs] at h; exact h.elim
  | some p =>
    obtain ⟨n, cs⟩ := p
    rw [hs] at h
    obtain ⟨hi, hg, h⟩ := h
    rcases sl_elem hs hi with e | ⟨r, off, c, e, hc, hcs⟩
    · rw [e]; exact ⟨hg, partA_drop h⟩
    · rw [e]
      simp only [vcE, hc]
      subst hcs
      exact ⟨hg, partA_take hi h⟩

theorem y2_load {t : TypeId} {y : Operand} (hop : o.op = .load t y) (hI : Inv X β st w) (hS : SRel X N β s a) (h : vcE2 X (.load t (ev s y)) st K) : Yld X β w a o st K := by
  cases hx : ev s y with
  | el x sz i =>
    rw [hx] at h
    obtain ⟨k, rfl⟩ := el_tmp hx
    have h2 := load_el h
    refine y_load (s := (k, elemP x i) :: s) hop hI (hS.unel hx) ?_
    rw [ev_tmp, get_cons]
    simpa using h2
  | _ => rw [hx] at h; exact y_load hop hI hS (by rw [hx]; exact h)

theorem y2_fAddr {t : TypeId} {y : Operand} {i : Nat} (hop : o.op = .fieldAddr t y i) (hS : SRel X N β s a) (h : vcE2 X (.fAddr t (ev s y) i) st K) : Yld X β w a o st K := by
  cases hx : ev s y with
  | el x sz j =>
    rw [hx] at h
    obtain ⟨k, rfl⟩ := el_tmp hx
    unfold vcE2 at h
    simp only at h
    cases hs : sl sz st x with
    | none => rw [hs] at h; exact h.elim
    | some p =>
      obtain ⟨n, cs⟩ := p
      rw [hs] at h
      obtain ⟨hj, h⟩ := h
      cases ht : ti X.P t with
      | struct fs z1 z2 =>
        simp only [ht] at h
        cases hf : fs[i]? with
        | none => simp [hf] at h
        | some q =>
          obtain ⟨p, s', g⟩ := q
          simp only [hf] at h
          have key : vcE X (.fAddr t (elemP x j) i) st fun v st' => v = elemP x (j + p) ∧ st' = st := by
            rcases sl_elem hs hj with e | ⟨r, off, c, e, hc, hcs⟩
            · rw [e]
              simp only [vcE, ht, hf]
              refine ⟨h.1, ?_, trivial⟩
              rcases sl_cases hs with ⟨rfl, hl⟩ | ⟨r, off, c, rfl, hc, hd, hl⟩ | ⟨rfl, rfl, rfl⟩
              · simp [elemP]
              · simp [elemP] at e
              · simp at hj
            · rw [e]
              simp only [vcE, ht, hf]
              refine ⟨h.1, ?_, trivial⟩
              rcases sl_cases hs with ⟨rfl, hl⟩ | ⟨r', off', c', rfl, hc', hd, hl⟩ | ⟨rfl, rfl, rfl⟩
              · simp [elemP] at e
              · simp [elemP] at e ⊢; omega
              · simp at hj
          have := y_fAddr (w := w) (s := (k, elemP x j) :: s) (K := fun v st' => v = elemP x (j + p) ∧ st' = st) hop (hS.unel hx) (by rw [ev_tmp, get_cons]; simpa using key)
          obtain ⟨v, x', h1, h2, h3, _⟩ := this
          subst h3
          exact ⟨v, _, h1, .el h2, h.2⟩
      | _ => simp [ht] at h
  | _ => rw [hx] at h; exact y_fAddr hop hS (by rw [hx]; exact h)

theorem y2_nilCk {y : Operand} (hop : o.op = .nilCheck y) (hS : SRel X N β s a) (h : vcE2 X (.nilCk (ev s y)) st K) : Yld X β w a o st K := by
  cases hx : ev s y with
  | el x sz j =>
    rw [hx] at h
    obtain ⟨k, rfl⟩ := el_tmp hx
    unfold vcE2 at h
    simp only at h
    cases hs : sl sz st x with
    | none => rw [hs] at h; exact h.elim
    | some p =>
      obtain ⟨n, cs⟩ := p
      rw [hs] at h
      obtain ⟨hj, h⟩ := h
      have := y_nilCk (w := w) (st := st) (s := (k, elemP x j) :: s) (K := fun v st' => v = elemP x j ∧ st' = st) hop (hS.unel hx) (by
        rw [ev_tmp, get_cons]
        rcases sl_elem hs hj with e | ⟨r, off, c, e, hc, hcs⟩ <;> simp [vcE, e])
      obtain ⟨v, x', h1, h2, h3, _⟩ := this
      subst h3
      exact ⟨v, _, h1, .el h2, h⟩
  | _ => rw [hx] at h; exact y_nilCk hop hS (by rw [hx]; exact h)

theorem y2_iAddr {t : TypeId} {y i : Operand} (hop : o.op = .indexAddr t y i) (hS : SRel X N β s a) (h : vcE2 X (.iAddr t (ev s y) (ev s i)) st K) : Yld X β w a o st K := by
  cases ht : ti X.P t with
  | slice e sz b z1 z2 =>
    unfold vcE2 at h
    simp only [ht] at h
    cases hi : ev s i with
    | val v =>
      rw [hi] at h
      cases v with
      | int k j =>
        simp only at h
        cases hs : sl sz st (ev s y) with
        | none => rw [hs] at h; exact h.elim
        | some p =>
          obtain ⟨n, cs⟩ := p
          rw [hs] at h
          obtain ⟨h1, h2, h3⟩ := h
          obtain ⟨e', _⟩ := ti_slice ht
          have hsz : 0 < sz := by obtain ⟨_, j, y, _, _, _, _, _, _, h⟩ := ti_slice ht; exact h
          have := y_iAddr (w := w) (st := st) (K := fun v st' => v = elemP (ev s y) (j.toNat * sz) ∧ st' = st) hop hS (by
            rw [hi]
            rcases sl_cases hs with ⟨hx, hl⟩ | ⟨r, off, c, hx, hc, hd, hl⟩ | ⟨hx, rfl, rfl⟩
            · rw [hx]
              simp only [vcE, ht]
              refine ⟨h1, h2, ?_, by simp [elemP], trivial⟩
              rw [hl]
              exact Nat.mul_lt_mul_of_pos_right (by omega) hsz
            · rw [hx]
              simp only [vcE, ht]
              exact ⟨trivial, h1, h2, by simp [elemP], trivial⟩
            · omega)
          obtain ⟨v, x', q1, q2, q3, _⟩ := this
          subst q3
          exact ⟨v, _, q1, .el q2, h3⟩
      | _ => exact h.elim
    | _ => rw [hi] at h; exact h.elim
  | _ => unfold vcE2 at h; simp only [ht] at h; exact y_iAddr hop hS h

theorem y2_slice {t : TypeId} {y : Operand} {lo hi mx : Option Operand} (hop : o.op = .slice t y lo hi mx) (hS : SRel X N β s a)
    (h : vcE2 X (.slice t (ev s y) (lo.map (ev s)) (hi.map (ev s)) (mx.map (ev s))) st K) : Yld X β w a o st K := by
  refine y_slice hop hS ?_
  cases ht : ti X.P t with
  | slice e sz b z1 z2 =>
    unfold vcE2 at h
    simp only [ht] at h
    cases mx with
    | some q => exact h.elim
    | none =>
      simp only [Option.map_none] at h ⊢
      cases hs : sl sz st (ev s y) with
      | none => rw [hs] at h; exact h.elim
      | some p =>
        obtain ⟨n, cs⟩ := p
        rw [hs] at h
        simp only at h
        rcases sl_cases hs with ⟨hx, hl⟩ | ⟨r, off, c, hx, hc, hd, hl⟩ | ⟨hx, rfl, rfl⟩
        · rw [hx] at h ⊢
          simp only [vcE, ht]
          exact h
        · rw [hx] at h ⊢
          simp only [vcE, ht]
          exact ⟨trivial, h⟩
        · rw [hx] at h ⊢
          simp only [vcE, ht]
          exact h
  | _ => unfold vcE2 at h; simp only [ht] at h; exact h

theorem y2_len {xs : Array Operand} {ts : Array TypeId} (hop : o.op = .call ⟨.builtin .len, xs, ts⟩) (hS : SRel X N β s a)
    (h : vcE2 X (.blt .len ts.toList (xs.toList.map (ev s))) st K) : Yld X β w a o st K := by
  refine y_blt hop (.inl rfl) hS ?_
  generalize ts.toList = l at h ⊢
  generalize xs.toList.map (ev s) = m at h ⊢
  match l, m with
  | [t], [x] =>
    unfold vcE2 at h
    cases ht : ti X.P t with
    | slice e sz b z1 z2 =>
      simp only [ht] at h
      cases hs : sl sz st x with
      | none => rw [hs] at h; exact h.elim
      | some p =>
        obtain ⟨n, cs⟩ := p
        rw [hs] at h
        simp only at h
        rcases sl_cases hs with ⟨rfl, hl⟩ | ⟨r, off, c, rfl, hc, hd, hl⟩ | ⟨rfl, rfl, rfl⟩
        · simp only [vcE, ht]; exact h
        · simp only [vcE, ht]; exact h
        · simp only [vcE, ht]; exact h (by omega)
    | _ => simp only [ht] at h; exact h
  | [], _ => exact h
  | _ :: _ :: _, _ => exact h
  | [_], [] => exact h
  | [_], _ :: _ :: _ => exact h

end
end Go.Proofs.Pv

/- The engine's eighth part: each operation anew, sound; the operations that may be drawn in any order. -/
namespace Go.Proofs.Pv
open Go Go.RowKit

/-- As vcE2; d: calls only of functions that change nothing that was there. -/
def vcE3 (d : Bool) (X : Cx) (o : AOp) (st : St) (K : AV → St → Prop) : Prop :=
  match o with
  | .call f xs => match f with
    | .fn (.func g) fs cs => ∃ R, (if d = true then PSpecAt X.P X.w0 g R else FSpec X g R) ∧ R (fs ++ xs ++ cs) st K
    | _ => False
  | o => vcE2 X o st K

/-- Operations that leave what was there as it was (a call: of such a function). -/
def softO : Op → Bool
  | .store _ _ _ => false
  | .call ⟨.builtin .append, _, _⟩ => false
  | .call ⟨.builtin .copy, _, _⟩ => false
  | _ => true

def pureO : Op → Bool
  | .move _ | .assign _ | .pick _ _ _ | .build _ _ | .load _ _ | .nilCheck _ | .binOp _ _ _ _ _ | .unOp _ _ _ | .makeFunc _ _ _ | .slice _ _ _ _ _ | .fieldAddr _ _ _ | .field _ _ _ | .indexAddr _ _ _ | .index _ _ _ | .extract _ _ => true
  | .convert _ _ _ => true
  | .call ⟨.builtin .len, _, _⟩ | .call ⟨.builtin .max, _, _⟩ | .call ⟨.builtin .min, _, _⟩ => true
  | _ => false

section
variable {X : Cx} {N : Nat} {β : Bk} {st : St} {w : World} {s : Sl} {a : Act} {o : Oper} {K : AV → St → Prop} {d : Bool}

theorem pure2_sound (hI : Inv X β st w) (hS : SRel X N β s a) (hp : pureA (aop s o.op) = true) (h : vcE2 X (aop s o.op) st K) : Yld X β w a o st K := by
  have go : vcE X (aop s o.op) st K → Yld X β w a o st K := fun h => pure_sound hI hS hp h
  cases hop : o.op with
  | load t y => rw [hop] at h; exact y2_load hop hI hS h
  | fieldAddr t y i => rw [hop] at h; exact y2_fAddr hop hS h
  | nilCheck y => rw [hop] at h; exact y2_nilCk hop hS h
  | indexAddr t y i => rw [hop] at h; exact y2_iAddr hop hS h
  | slice t y lo hi mx => rw [hop] at h; exact y2_slice hop hS h
  | call c =>
    obtain ⟨cal, xs, ts⟩ := c
    rw [hop] at h hp go
    cases cal with
    | builtin b => cases b <;> first | exact y2_len hop hS h | exact go h
    | value f => cases hp
    | invoke r m => cases hp
  | _ => rw [hop] at h hp go; first | exact go h | cases hp

theorem op2_sound (hI : Inv X β st w) (hS : SRel X N β s a) (h : vcE2 X (aop s o.op) st K) {next : Act → World → Prop} {Q : Exit → Act → World → Prop}
    (hn : ∀ v x ex st' w', Inv X (β ++ ex) st' w' → VRel X.w0 (β ++ ex) v x → K x st' → next (a.put o.dst v) w') : o.wp X.P a w next Q := by
  by_cases hp : pureA (aop s o.op) = true
  · obtain ⟨v, x, h1, h2, h3⟩ := pure2_sound hI hS hp h
    unfold Oper.wp
    rw [h1 w (Below.refl _ _), Oper.upon_value]
    exact hn v x [] st w (by rw [List.append_nil]; exact hI) (by rw [List.append_nil]; exact h2) h3
  · have go : vcE X (aop s o.op) st K → o.wp X.P a w next Q := fun h => op_sound hI hS h hn
    cases hop : o.op with
    | store t x y =>
      rw [hop] at h
      cases hx : ev s x with
      | el z sz i =>
        simp only [aop, hx] at h
        cases z with
        | own r off n s' =>
          obtain ⟨k, rfl⟩ := el_tmp hx
          have h2 : vcE X (.store t (.ptr r (off + i)) (ev s y)) st K := h
          have hS' := hS.unel hx
          refine op_sound (s := (k, elemP (.own r off n s') i) :: s) hI hS' ?_ hn
          rw [hop]
          have e1 : ev ((k, elemP (.own r off n s') i) :: s) (.tmp k) = .ptr r (off + i) := by simp [ev_tmp, get_cons, elemP]
          cases y with
          | tmp j =>
            by_cases hj : j = k
            · subst hj
              rw [hx] at h2
              obtain ⟨_, h3⟩ := h2
              cases hst : st[r]? with
              | none => simp [hst] at h3
              | some c =>
                cases c with
                | none => simp [hst] at h3
                | some cs => simp [hst, okCells, leaf] at h3
            · have e2 : ev ((k, elemP (.own r off n s') i) :: s) (.tmp j) = ev s (.tmp j) := by
                have hb : (j == k) = false := by simpa using hj
                rw [ev_tmp, get_cons, hb]; rfl
              simp only [aop, e1, e2]
              exact h2
          | _ => simp only [aop, e1]; exact h2
        | _ => exact (show False from h).elim
      | _ => rw [hop] at go; refine go ?_; simp only [aop, hx] at h ⊢; exact h
    | call c =>
      obtain ⟨cal, xs, ts⟩ := c
      rw [hop] at h hp go
      cases cal with
      | builtin b => cases b <;> first | exact absurd rfl hp | exact go h
      | value f => exact go h
      | invoke r m => exact go h
    | _ => rw [hop] at h hp go; first | exact go h | exact absurd rfl hp

theorem op3_sound (hI : Inv X β st w) (hS : SRel X N β s a) (h : vcE3 d X (aop s o.op) st K) {next : Act → World → Prop} {Q : Exit → Act → World → Prop}
    (hn : ∀ v x ex st' w', Inv X (β ++ ex) st' w' → VRel X.w0 (β ++ ex) v x → K x st' → next (a.put o.dst v) w') : o.wp X.P a w next Q := by
  refine op2_sound hI hS ?_ hn
  cases ho : aop s o.op with
  | call f xs =>
    rw [ho] at h
    cases f with
    | fn g fs cs =>
      cases g with
      | func g =>
        obtain ⟨R, hR, h⟩ := h
        refine ⟨R, ?_, h⟩
        cases d
        · exact hR
        · exact PSpecAt.to_f hR
      | _ => exact h
    | _ => exact h
  | _ => rw [ho] at h; exact h

/-- The context at a world in the middle. -/
def Cx.here (X : Cx) (w : World) (st : St) (β : Bk) : Cx := ⟨X.P, X.w0, w, st, β, X.ms, X.ds⟩

theorem blt_here {b : Builtin} (hb : b = .len ∨ b = .max ∨ b = .min) {ts : List TypeId} {xs : List AV} (h : vcE2 X (.blt b ts xs) st K) : vcE2 (X.here w st β) (.blt b ts xs) st K := by
  rcases hb with rfl | rfl | rfl
  · match ts, xs with
    | [t], [x] => exact h
    | [], _ => exact h
    | _ :: _ :: _, _ => exact h
    | [_], [] => exact h
    | [_], _ :: _ :: _ => exact h
  · simp only [vcE2, vcE] at h ⊢
    split at h
    all_goals first | exact h.elim | (rename_i heq; cases heq) | skip
    all_goals first | exact h | exact h.elim | (rename_i heq _ _; cases heq)
  · simp only [vcE2, vcE] at h ⊢
    split at h
    all_goals first | exact h.elim | (rename_i heq; cases heq) | skip
    all_goals first | exact h | exact h.elim | (rename_i heq _ _; cases heq)

/-- Operations that leave what was there as it was: behind them the world has grown alone. -/
theorem soft_sound' (hI : Inv X β st w) (hS : SRel X N β s a) (hs : softO o.op = true) (h : vcE3 true X (aop s o.op) st K) {next : Act → World → Prop} {Q : Exit → Act → World → Prop}
    (hn : ∀ v x ex st' w', Inv (X.here w st β) (β ++ ex) st' w' → Inv X (β ++ ex) st' w' → VRel X.w0 (β ++ ex) v x → K x st' → next (a.put o.dst v) w') : o.wp X.P a w next Q := by
  refine op3_sound (X := X.here w st β) (N := N) (d := true) hI.here ⟨hS.size, hS.defers, hS.slot⟩ (K := K) ?_ fun v x ex st' w' h1 h2 h3 => hn v x ex st' w' h1 (hI.back h1) h2 h3
  cases hop : o.op with
  | store t x y => rw [hop] at hs; cases hs
  | call c =>
    obtain ⟨cal, xs, ts⟩ := c
    rw [hop] at h hs
    cases cal with
    | builtin b => cases b <;> first | exact h | exact blt_here (.inl rfl) h | exact blt_here (.inr (.inl rfl)) h | exact blt_here (.inr (.inr rfl)) h | exact absurd hs (by simp [softO])
    | value f => exact h
    | invoke r m => exact h
  | _ => rw [hop] at h; exact h

theorem soft_sound (hI : Inv X β st w) (hS : SRel X N β s a) (hs : softO o.op = true) (h : vcE3 true X (aop s o.op) st K) {next : Act → World → Prop} {Q : Exit → Act → World → Prop}
    (hn : ∀ v x ex st' w', Below w.heap.size w w' → Inv X (β ++ ex) st' w' → VRel X.w0 (β ++ ex) v x → K x st' → next (a.put o.dst v) w') : o.wp X.P a w next Q :=
  soft_sound' hI hS hs h fun v x ex st' w' h1 h2 h3 h4 => hn v x ex st' w' h1.b1 h2 h3 h4

theorem pureO_aop {op : Op} (h : pureO op = true) : pureA (aop s op) = true := by
  cases op with
  | call c =>
    obtain ⟨cal, xs, ts⟩ := c
    cases cal with
    | builtin b => cases b <;> first | rfl | cases h
    | _ => cases h
  | _ => first | rfl | cases h

theorem pure3_of {op : Op} (hp : pureO op = true) (h : vcE3 d X (aop s op) st K) : vcE2 X (aop s op) st K := by
  cases op with
  | call c =>
    obtain ⟨cal, xs, ts⟩ := c
    cases cal with
    | builtin b => exact h
    | _ => cases hp
  | _ => exact h
end
end Go.Proofs.Pv

/- The engine's ninth part: regions, in the text's order and drawn. -/
namespace Go.Proofs.Pv
open Go Go.RowKit

def putS (dst : Option Nat) (x : AV) (s : Sl) : Sl := match dst with
  | some d => (d, x) :: s
  | none => s
def gvd (full : List Oper) (s : Sl) (g : Nat) : AV := match full[g]? with
  | some o => match o.dst with
    | some d => Sl.get s d
    | none => undefA
  | none => undefA

/-- One operation, if it is wanted. -/
def vc1 (d : Bool) (X : Cx) (full : List Oper) (o : Oper) (s : Sl) (st : St) (K : Sl → St → Prop) : Prop :=
  match o.guard with
  | none => vcE3 d X (aop s o.op) st fun v st' => K (putS o.dst v s) st'
  | some (g, want) => match gvd full s g with
    | .val (.bool b) => if b = want then vcE3 d X (aop s o.op) st fun v st' => K (putS o.dst v s) st' else K (putS o.dst undefA s) st
    | .val _ => K (putS o.dst undefA s) st
    | _ => False

def vcO (d : Bool) (X : Cx) (full : List Oper) : List Oper → Sl → St → (Sl → St → Prop) → Prop
  | [], s, st, K => K s st
  | o :: l, s, st, K => vc1 d X full o s st fun s st => vcO d X full l s st K

/-- Who must be behind whom, step over step, as bits. -/
def soundM (ops : Array Oper) (M : Array Nat) : Bool :=
  (List.range ops.size).all fun j => (List.range ops.size).all fun i => !Nat.testBit (M.getD j 0) i || match ops[j]? with
    | some o => o.after.any fun e => Region.binds .any e && (e.on == i || Nat.testBit (M.getD e.on 0) i)
    | none => false
def ancs (ops : Array Oper) : Array Nat :=
  ops.foldl (fun M o => M.push (o.after.foldl (fun m e => if Region.binds .any e then m ||| (1 <<< e.on) ||| M.getD e.on 0 else m) 0)) #[]
/-- Operations whose value hangs on no world. -/
def calmO : Op → Bool
  | .move _ | .assign _ | .extract _ _ | .build _ _ => true
  | _ => false
def takeB (ops : Array Oper) (M : Array Nat) (listed : Array Bool) (i : Nat) : Bool :=
  match ops[i]? with
  | none => false
  | some oi => pureO oi.op && (Region.ready .any ops listed).contains i && (List.range ops.size).all fun j => j == i || listed.getD j true || Nat.testBit (M.getD j 0) i || match ops[j]? with
    | some oj => (softO oj.op || calmO oi.op) && oi.apart ops oj
    | none => true
def okS (ops : Array Oper) (M : Array Nat) : List Nat → Array Bool → Bool
  | [], listed => (Region.ready .any ops listed).isEmpty
  | i :: l, listed => (takeB ops M listed i || Region.ready .any ops listed == [i]) && okS ops M l (listed.setIfInBounds i true)
def start (ops : Array Oper) : Array Bool := Array.replicate ops.size false

/-- Whatever comes up: all that may come up, or one that may be taken first. -/
def vcD (X : Cx) (ops : Array Oper) (M : Array Nat) : Nat → Array Bool → Sl → St → (Sl → St → Prop) → Prop
  | 0, listed, s, st, K => Region.ready .any ops listed = [] ∧ K s st
  | n + 1, listed, s, st, K =>
    (Region.ready .any ops listed = [] ∧ K s st) ∨
    (Region.ready .any ops listed ≠ [] ∧ ∀ i ∈ Region.ready .any ops listed, ∀ o, ops[i]? = some o → vc1 true X ops.toList o s st fun s' st' => vcD X ops M n (listed.setIfInBounds i true) s' st' K) ∨
    (∃ i o, ops[i]? = some o ∧ takeB ops M listed i = true ∧ vc1 true X ops.toList o s st fun s' st' => vcD X ops M n (listed.setIfInBounds i true) s' st' K)

/-- A drawn region: by a list of numbers that serves for every order, or by whatever comes up. -/
def softAt (ops : Array Oper) (i : Nat) : Bool := match ops[i]? with
  | some o => softO o.op
  | none => true

/-- An operation that makes a variable. -/
def alo (ops : Array Oper) (a : Nat) : Option (Nat × TypeId) := match ops[a]? with
  | some o => match o.dst, o.op, o.guard with
    | some d, .alloc t, none => some (d, t)
    | _, _, _ => none
  | none => none
def setAll (A : List Nat) (listed : Array Bool) : Array Bool := A.foldl (fun l a => l.setIfInBounds a true) listed
/-- Those of A may come up at any time; the others in the list's order. -/
def okP (ops : Array Oper) (M : Array Nat) (A l2 : List Nat) : List Nat → Array Bool → Bool
  | [], listed => A.all (fun a => (Region.ready .any ops listed).contains a) &&
      ((List.range ops.size).all fun j => listed.getD j true || A.contains j || A.all fun a => Nat.testBit (M.getD j 0) a) && okS ops M l2 (setAll A listed)
  | i :: l, listed => !A.contains i && (match ops[i]? with
      | some oi => A.all fun a => match alo ops a with
        | some (d, _) => oi.dst != some d
        | none => false
      | none => false) &&
    (takeB ops M listed i || (softAt ops i && (Region.ready .any ops listed).contains i && (Region.ready .any ops (setAll A listed)).all (· == i))) && okP ops M A l2 l (listed.setIfInBounds i true)
def okA (P : Program) (ops : Array Oper) (A : List Nat) : Bool := decide A.Nodup && decide (A.map fun a => (alo ops a).map (·.1)).Nodup && A.all fun a => match alo ops a with
  | some (_, t) => (ti P t).good && !bz (ti P t).zero
  | none => false
/-- The places that A's will write: nothing is known of them. -/
def maskS (ops : Array Oper) : List Nat → Sl → Sl
  | [], s => s
  | a :: A, s => match alo ops a with
    | some (d, _) => (d, .junk) :: maskS ops A s
    | none => maskS ops A s

/-- A drawn region's orders: one that may be taken first, or the only one; or either of two. -/
inductive Tr where
  | fin
  | take (i : Nat) (t : Tr)
  | two (i : Nat) (t : Tr) (j : Nat) (u : Tr)
def Tr.deep : Tr → Nat
  | .fin => 0
  | .take _ t => t.deep + 1
  | .two _ t _ u => max t.deep u.deep + 1
def okT (ops : Array Oper) (M : Array Nat) : Tr → Array Bool → Bool
  | .fin, listed => (Region.ready .any ops listed).isEmpty
  | .take i t, listed => (takeB ops M listed i || Region.ready .any ops listed == [i]) && okT ops M t (listed.setIfInBounds i true)
  | .two i t j u, listed => Region.ready .any ops listed == [i, j] && okT ops M t (listed.setIfInBounds i true) && okT ops M u (listed.setIfInBounds j true)
def runD (X : Cx) (ops : Array Oper) (K : Sl → St → Prop) : Tr → Sl → St → Prop
  | .fin, s, st => K s st
  | .take i t, s, st => match ops[i]? with
    | some o => vc1 true X ops.toList o s st (runD X ops K t)
    | none => False
  | .two i t j u, s, st => (match ops[i]? with
    | some o => vc1 true X ops.toList o s st (runD X ops K t)
    | none => False) ∧ match ops[j]? with
    | some o => vc1 true X ops.toList o s st (runD X ops K u)
    | none => False

/-- All orders, or one that may be taken first. -/
inductive Tn where
  | fin
  | take (i : Nat) (t : Tn)
  | alt (i : Nat) (t : Tn) (u : Tn)
def Tn.keys : Tn → List Nat
  | .alt i _ u => i :: u.keys
  | _ => []
def Tn.deep : Tn → Nat
  | .fin => 0
  | .take _ t => t.deep + 1
  | .alt _ t u => max (t.deep + 1) u.deep
/-- With b: further ones of the same place. -/
def okN (ops : Array Oper) (M : Array Nat) : Bool → Tn → Array Bool → Bool
  | b, .fin, listed => b || (Region.ready .any ops listed).isEmpty
  | b, .take i t, listed => !b && takeB ops M listed i && okN ops M false t (listed.setIfInBounds i true)
  | b, .alt i t u, listed => (b || Region.ready .any ops listed == i :: u.keys) && okN ops M false t (listed.setIfInBounds i true) && okN ops M true u listed
def runN (X : Cx) (ops : Array Oper) (K : Sl → St → Prop) : Bool → Tn → Sl → St → Prop
  | b, .fin, s, st => if b then True else K s st
  | b, .take i t, s, st => if b then False else match ops[i]? with
    | some o => vc1 true X ops.toList o s st (runN X ops K false t)
    | none => False
  | _, .alt i t u, s, st => (match ops[i]? with
    | some o => vc1 true X ops.toList o s st (runN X ops K false t)
    | none => False) ∧ runN X ops K true u s st

def vcR (X : Cx) (ops : Array Oper) (s : Sl) (st : St) (K : Sl → St → Prop) : Prop :=
  ∃ M, soundM ops M = true ∧ Region.noSelect ops = true ∧
    ((∃ l, okS ops M l (start ops) = true ∧ vcO true X ops.toList (l.filterMap fun i => ops[i]?) s st K) ∨ vcD X ops M ops.size (start ops) s st K ∨
      (∃ A l1 l2, l1.length + A.length + l2.length ≤ ops.size ∧ okA X.P ops A = true ∧ okP ops M A l2 l1 (start ops) = true ∧ vcO true X ops.toList ((l1 ++ (A ++ l2)).filterMap fun i => ops[i]?) (maskS ops A s) st K) ∨
      (∃ t : Tr, t.deep ≤ ops.size ∧ okT ops M t (start ops) = true ∧ runD X ops K t s st) ∨
      (∃ t : Tn, t.deep ≤ ops.size ∧ okN ops M false t (start ops) = true ∧ runN X ops K false t s st) ∨
      ∀ (N : Nat) (ds : List Nat) (β : Bk) (a : Act) (w : World), (∀ o ∈ ops.toList, ∀ t, o.dst = some t → t < N) → Inv ⟨X.P, X.w0, X.w1, X.st1, X.β1, X.ms, ds⟩ β st w → SRel ⟨X.P, X.w0, X.w1, X.st1, X.β1, X.ms, ds⟩ N β s a →
        wpAny X.P .any ops (fun e a w => e = .normal ∧ ∃ β s st, Inv ⟨X.P, X.w0, X.w1, X.st1, X.β1, X.ms, ds⟩ β st w ∧ SRel ⟨X.P, X.w0, X.w1, X.st1, X.β1, X.ms, ds⟩ N β s a ∧ K s st) ops.size (start ops) a w)

section
variable {X : Cx} {N : Nat} {β : Bk} {st : St} {w : World} {s : Sl} {a : Act} {o : Oper} {d : Bool} {ops : Array Oper} {K : Sl → St → Prop}

theorem SRel.putS (hS : SRel X N β s a) {dst : Option Nat} (hd : ∀ t, dst = some t → t < N) {v : Value} {x : AV} (hv : VRel X.w0 β v x) : SRel X N β (putS dst x s) (a.put dst v) := by
  cases dst with
  | none => exact hS
  | some t => exact hS.put (hd t rfl) hv

theorem gvd_val (hS : SRel X N β s a) {g : Nat} {v : Value} (h : gvd ops.toList s g = .val v) : yielded ops a.tmps g = (match v with | .bool b => some b | _ => none) := by
  unfold gvd at h
  unfold yielded
  rw [Array.getElem?_toList] at h
  cases ho : ops[g]? with
  | none => rw [ho] at h; cases h; rfl
  | some o =>
    rw [ho] at h
    simp only [Option.bind_some] at h ⊢
    cases hd : o.dst with
    | none => rw [hd] at h; cases h; rfl
    | some t =>
      rw [hd] at h
      simp only [Option.bind_some] at h ⊢
      have hs := hS.slot t
      rw [h] at hs
      have he := inv_val hs
      rw [Array.getD_eq_getD_getElem?] at he
      cases ht : a.tmps[t]? with
      | none => rw [ht] at he; simp only [Option.getD_none] at he; subst he; rfl
      | some u => rw [ht] at he; simp only [Option.getD_some] at he; subst he; cases u <;> rfl

/-- What an operation with its guard comes to. -/
theorem vc1_cases (hS : SRel X N β s a) (h : vc1 d X ops.toList o s st K) :
    (Region.wanted o (yielded ops a.tmps) = true ∧ vcE3 d X (aop s o.op) st fun v st' => K (Pv.putS o.dst v s) st') ∨ (Region.wanted o (yielded ops a.tmps) = false ∧ K (Pv.putS o.dst undefA s) st) := by
  unfold vc1 at h
  unfold Region.wanted
  cases hg : o.guard with
  | none => rw [hg] at h; exact .inl ⟨rfl, h⟩
  | some p =>
    obtain ⟨g, want⟩ := p
    rw [hg] at h
    simp only at h ⊢
    cases hv : gvd ops.toList s g with
    | val v =>
      rw [hv] at h
      rw [gvd_val hS hv]
      cases v with
      | bool b =>
        simp only at h ⊢
        split at h
        · rename_i hb; subst hb; exact .inl ⟨by simp, h⟩
        · rename_i hb; exact .inr ⟨by simp [hb], h⟩
      | _ => exact .inr ⟨by simp, h⟩
    | _ => rw [hv] at h; exact h.elim

variable {i : Nat} {next : Act → World → Prop} {Q : Exit → Act → World → Prop}

theorem v1_sound (hi : ops[i]? = some o) (hd : ∀ t, o.dst = some t → t < N) (hI : Inv X β st w) (hS : SRel X N β s a) (h : vc1 d X ops.toList o s st K)
    (hn : ∀ β' s' st' a' w', (d = true → softO o.op = true → Below w.heap.size w w') → Inv X β' st' w' → SRel X N β' s' a' → K s' st' → next a' w') : wpOp X.P ops Q i next a w := by
  unfold wpOp
  simp only [hi]
  rcases vc1_cases hS h with ⟨hw, h⟩ | ⟨hw, h⟩
  · rw [if_pos hw]
    refine .inl ?_
    by_cases hs : d = true ∧ softO o.op = true
    · obtain ⟨rfl, hs⟩ := hs
      exact soft_sound hI hS hs h fun v x ex st' w' hb h1 h2 h3 => hn _ _ _ _ _ (fun _ _ => hb) h1 ((hS.ext ex).putS hd h2) h3
    · exact op3_sound hI hS h fun v x ex st' w' h1 h2 h3 => hn _ _ _ _ _ (fun h1 h2 => absurd ⟨h1, h2⟩ hs) h1 ((hS.ext ex).putS hd h2) h3
  · rw [if_neg (by rw [hw]; simp)]
    exact hn _ _ _ _ _ (fun _ _ => Below.refl _ _) hI (hS.putS hd (.val _)) h

theorem v1_yields (hp : pureO o.op = true) (hI : Inv X β st w) (hS : SRel X N β s a) (h : vc1 d X ops.toList o s st K) :
    ∃ v x, YieldsIf X.P ops (fun w' => calmO o.op = true ∨ Below w.heap.size w w') o v a ∧ VRel X.w0 β v x ∧ K (Pv.putS o.dst x s) st := by
  rcases vc1_cases hS h with ⟨hw, h⟩ | ⟨hw, h⟩
  · by_cases hc : calmO o.op = true
    · by_cases hx : ∃ y i, o.op = .extract y i
      · obtain ⟨y, i, hop⟩ := hx
        rw [hop] at h
        obtain ⟨v, x, h1, h2, h3⟩ := y_extract' (K := fun v st' => K (Pv.putS o.dst v s) st') hop hS h
        exact ⟨v, x, .inl ⟨hw, fun w' _ => h1 w'⟩, h2, h3⟩
      by_cases hb : ∃ t ps, o.op = .build t ps
      · obtain ⟨t, ps, hop⟩ := hb
        rw [hop] at h
        obtain ⟨v, x, h1, h2, h3⟩ := y_build' (K := fun v st' => K (Pv.putS o.dst v s) st') hop hS h
        exact ⟨v, x, .inl ⟨hw, fun w' _ => h1 w'⟩, h2, h3⟩
      obtain ⟨y, hop⟩ : ∃ y, o.op = .move y ∨ o.op = .assign y := by
        cases ho : o.op <;> rw [ho] at hc hx hb <;> first | exact ⟨_, .inl rfl⟩ | exact ⟨_, .inr rfl⟩ | (exfalso; exact hx ⟨_, _, rfl⟩) | (exfalso; exact hb ⟨_, _, rfl⟩) | cases hc
      refine ⟨a.eval y, ev s y, .inl ⟨hw, fun w' _ => ?_⟩, hS.eval y, ?_⟩
      · rcases hop with hop | hop <;> simp [execOp, hop]
      · rcases hop with hop | hop <;> rw [hop] at h <;> exact h
    · obtain ⟨v, x, h1, h2, h3⟩ := pure2_sound (K := fun v st' => K (Pv.putS o.dst v s) st') hI hS (pureO_aop hp) (pure3_of hp h)
      exact ⟨v, x, .inl ⟨hw, fun w' hw' => h1 w' (hw'.resolve_left hc)⟩, h2, h3⟩
  · exact ⟨undef, undefA, .inr ⟨hw, rfl⟩, .val _, h⟩

/-- Numbers' operations. -/
theorem vcO_sound (hd : ∀ o ∈ ops.toList, ∀ t, o.dst = some t → t < N) (hQ : ∀ β s st a w, Inv X β st w → SRel X N β s a → K s st → Q .normal a w) :
    ∀ (l : List Nat) (β : Bk) (s : Sl) (st : St) (a : Act) (w : World), Inv X β st w → SRel X N β s a → vcO d X ops.toList (l.filterMap fun i => ops[i]?) s st K → wpOps X.P ops Q l a w := by
  intro l
  induction l with
  | nil => intro β s st a w hI hS h; exact hQ _ _ _ _ _ hI hS h
  | cons i l ih =>
    intro β s st a w hI hS h
    rw [wpOps_cons]
    cases ho : ops[i]? with
    | none =>
      simp only [List.filterMap_cons, ho] at h
      unfold wpOp
      simp only [ho]
      exact ih _ _ _ _ _ hI hS h
    | some o =>
      simp only [List.filterMap_cons, ho] at h
      refine v1_sound ho (hd o (by simpa using Array.mem_of_getElem? ho)) hI hS h fun β' s' st' a' w' _ h1 h2 h3 => ih _ _ _ _ _ h1 h2 h3

theorem range_all : ∀ l : List Oper, (List.range l.length).filterMap (fun i => l[i]?) = l
  | [] => rfl
  | o :: l => by
    rw [List.length_cons, List.range_succ_eq_map, List.filterMap_cons, List.filterMap_map]
    simp only [List.getElem?_cons_zero, Function.comp_def, List.getElem?_cons_succ]
    rw [range_all l]

end

/-! ### Drawn regions -/
section
variable {P : Program} {ops : Array Oper} {Q : Exit → Act → World → Prop} {M : Array Nat}

/-- Whatever order is picked from here on; behind a soft operation the world has grown alone. -/
def wpAnyF (P : Program) (ops : Array Oper) (Q : Exit → Act → World → Prop) : Nat → Array Bool → Act → World → Prop
  | 0, listed, a, w => Region.ready .any ops listed = [] ∧ Q .normal a w
  | fuel + 1, listed, a, w =>
    (Region.ready .any ops listed = [] → Q .normal a w) ∧
    ∀ i ∈ Region.ready .any ops listed, wpOp P ops Q i (fun a' w' => (softAt ops i = true → Below w.heap.size w w') ∧ wpAnyF P ops Q fuel (listed.setIfInBounds i true) a' w') a w

theorem wpAny_of_F : ∀ (fuel : Nat) (listed : Array Bool) (a : Act) (w : World), wpAnyF P ops Q fuel listed a w → wpAny P .any ops Q fuel listed a w
  | 0, _, _, _, h => h
  | fuel + 1, _, _, _, h => ⟨h.1, fun i hi => wpOp_mono (fun a' w' h' => wpAny_of_F fuel _ a' w' h'.2) (h.2 i hi)⟩

/-- With each listed one, all that it waits for are listed. -/
def Closed (ops : Array Oper) (M : Array Nat) (listed : Array Bool) : Prop :=
  ∀ j i, i < ops.size → listed.getD j false = true → Nat.testBit (M.getD j 0) i = true → listed.getD i false = true

theorem soundM_spec (hM : soundM ops M = true) {j i : Nat} (hi : i < ops.size) {oj : Oper} (hj : ops[j]? = some oj) (h : Nat.testBit (M.getD j 0) i = true) :
    ∃ e ∈ oj.after, Region.binds .any e = true ∧ (e.on = i ∨ Nat.testBit (M.getD e.on 0) i = true) := by
  simp only [soundM, List.all_eq_true, List.mem_range] at hM
  have := hM j (Array.getElem?_eq_some_iff.1 hj).1 i hi
  rw [h, hj] at this
  simp only [Bool.not_true, Bool.false_or] at this
  obtain ⟨e, he, hb⟩ := Array.any_eq_true'.1 this
  simp only [Bool.and_eq_true, Bool.or_eq_true, beq_iff_eq] at hb
  exact ⟨e, he, hb.1, hb.2⟩

/-- Of one that is ready, all that it waits for are listed. -/
theorem ready_anc (hM : soundM ops M = true) {listed : Array Bool} (hC : Closed ops M listed) {j i : Nat} (hi : i < ops.size) (hj : j ∈ Region.ready .any ops listed) (h : Nat.testBit (M.getD j 0) i = true) :
    listed.getD i false = true := by
  obtain ⟨_, o, ho, hall⟩ := mem_ready.1 hj
  obtain ⟨e, he, hb, h | h⟩ := soundM_spec hM hi ho h
  · rw [← h]; exact hall e he hb
  · exact hC e.on i hi (hall e he hb) h

theorem Closed.set (hM : soundM ops M = true) {listed : Array Bool} (hC : Closed ops M listed) {j : Nat} (hj : j ∈ Region.ready .any ops listed) : Closed ops M (listed.setIfInBounds j true) := by
  intro k i hi hk hb
  by_cases hkj : k = j
  · subst hkj; exact getD_set_true (ready_anc hM hC hi hj hb)
  · rw [getD_set_ne false (Ne.symm hkj)] at hk
    exact getD_set_true (hC k i hi hk hb)

theorem start_closed : Closed ops M (start ops) := by
  intro j i _ h _
  exfalso
  simp only [start, Array.getD_eq_getD_getElem?] at h
  rcases Nat.lt_or_ge j ops.size with hj | hj
  · simp [hj] at h
  · simp [Nat.not_lt.2 hj] at h

theorem not_listed {listed : Array Bool} {i : Nat} (h : i ∈ Region.ready .any ops listed) (h' : listed.getD i false = true) : False := by
  have h0 := (mem_ready.1 h).1
  simp only [Array.getD_eq_getD_getElem?] at h0 h'
  cases hl : listed[i]? with
  | none => simp [hl] at h'
  | some b => simp [hl] at h0 h'; simp [h0] at h'

/-- One that may come up now may be taken first, if it yields its value in every world that has grown alone, and each other that has not come up waits for it, or is soft and apart. -/
theorem wpAnyF_first (hM : soundM ops M = true) {i : Nat} {oi : Oper} {v : Value} (hi : ops[i]? = some oi) (hsel : ∀ (j : Nat) (o : Oper) cs b, ops[j]? = some o → o.op ≠ .select cs b)
    (hQ : ∀ c a w, Q (.panic c) (a.put oi.dst v) w → Q (.panic c) a w) :
    ∀ (fuel : Nat) (listed : Array Bool) (a : Act) (w : World), Closed ops M listed →
      (∀ j oj, ops[j]? = some oj → j ≠ i → listed.getD j true = false → Nat.testBit (M.getD j 0) i = true ∨ ((softO oj.op = true ∨ calmO oi.op = true) ∧ oi.apart ops oj = true)) →
      i ∈ Region.ready .any ops listed → YieldsIf P ops (fun w' => calmO oi.op = true ∨ Below w.heap.size w w') oi v a →
      wpAnyF P ops Q fuel (listed.setIfInBounds i true) (a.put oi.dst v) w → wpAnyF P ops Q (fuel + 1) listed a w := by
  intro fuel
  have hil : i < ops.size := (Array.getElem?_eq_some_iff.1 hi).1
  induction fuel with
  | zero =>
    intro listed a w _ _ hr hy H
    refine ⟨fun h => (by rw [h] at hr; cases hr), fun j hj => ?_⟩
    by_cases hji : j = i
    · subst hji; exact hy.wpOp hi (.inr (Below.refl _ _)) ⟨fun _ => Below.refl _ _, H⟩
    · have := ready_mono hj hji
      rw [H.1] at this
      cases this
  | succ fuel ih =>
    intro listed a w hC hfree hr hy H
    refine ⟨fun h => (by rw [h] at hr; cases hr), fun j hj => ?_⟩
    by_cases hji : j = i
    · subst hji; exact hy.wpOp hi (.inr (Below.refl _ _)) ⟨fun _ => Below.refl _ _, H⟩
    · have h1 := H.2 j (ready_mono hj hji)
      obtain ⟨hjun, oj, hoj, hall⟩ := mem_ready.1 hj
      obtain ⟨hsoft, hap⟩ : (softO oj.op = true ∨ calmO oi.op = true) ∧ oi.apart ops oj = true := by
        rcases hfree j oj hoj hji hjun with h | h
        · exact (not_listed hr (ready_anc hM hC hil hj h)).elim
        · exact h
      have h2 := wpOp_putIf hoj hap (fun cs b => hsel i oi cs b hi) (fun cs b => hsel j oj cs b hoj) hQ hy h1
      refine wpOp_mono (fun a' w' h3 => ⟨h3.2.1, ih (listed.setIfInBounds j true) a' w' (hC.set hM hj) (fun k ok hk hki hun => hfree k ok hk hki ?_) (ready_mono hr (Ne.symm hji)) ?_ ?_⟩) h2
      · by_cases hjk : j = k
        · subst hjk; exact hjun
        · rw [getD_set_ne true hjk] at hun; exact hun
      · refine h3.1.imp (fun ⟨q1, q2⟩ => ⟨q1, fun w'' hb' => q2 w'' ?_⟩) id
        rcases hsoft with hs | hs
        · have hb := h3.2.1 (by simp only [softAt, hoj]; exact hs)
          exact hb'.imp id fun hb' => hb.trans (hb'.mono hb.size)
        · exact .inl hs
      · rw [Array.setIfInBounds_comm _ _ hji]
        exact h3.2.2

theorem takeB_spec {listed : Array Bool} {i : Nat} {oi : Oper} (hi : ops[i]? = some oi) (h : takeB ops M listed i = true) :
    pureO oi.op = true ∧ i ∈ Region.ready .any ops listed ∧ ∀ j oj, ops[j]? = some oj → j ≠ i → listed.getD j true = false → Nat.testBit (M.getD j 0) i = true ∨ ((softO oj.op = true ∨ calmO oi.op = true) ∧ oi.apart ops oj = true) := by
  simp only [takeB, hi, Bool.and_eq_true, List.all_eq_true, List.mem_range] at h
  obtain ⟨⟨h1, h2⟩, h3⟩ := h
  refine ⟨h1, by simpa using h2, fun j oj hj hji hun => ?_⟩
  have := h3 j (Array.getElem?_eq_some_iff.1 hj).1
  simp only [hun, hj, Bool.or_false, Bool.or_eq_true, beq_iff_eq, hji, false_or, Bool.and_eq_true] at this
  exact this
end

section
variable {X : Cx} {N : Nat} {ops : Array Oper} {M : Array Nat} {K : Sl → St → Prop} {Q : Exit → Act → World → Prop}

/-- One taken first. -/
theorem take_sound (hM : soundM ops M = true) (hns : Region.noSelect ops = true) (hQp : ∀ c a w, ¬ Q (.panic c) a w) {i : Nat} {o : Oper} (hi : ops[i]? = some o) (hd : ∀ t, o.dst = some t → t < N)
    {listed : Array Bool} (ht : takeB ops M listed i = true) (hC : Closed ops M listed) {β : Bk} {s : Sl} {st : St} {a : Act} {w : World} (hI : Inv X β st w) (hS : SRel X N β s a) {n : Nat}
    {K' : Sl → St → Prop} (h : vc1 true X ops.toList o s st K') (hn : ∀ v x, SRel X N β (Pv.putS o.dst x s) (a.put o.dst v) → K' (Pv.putS o.dst x s) st → wpAnyF X.P ops Q n (listed.setIfInBounds i true) (a.put o.dst v) w) :
    wpAnyF X.P ops Q (n + 1) listed a w := by
  obtain ⟨hp, hr, hfree⟩ := takeB_spec hi ht
  obtain ⟨v, x, hy, hv, hk⟩ := v1_yields hp hI hS h
  exact wpAnyF_first hM hi (Region.noSelect_spec hns) (fun c a w h => absurd h (hQp _ _ _)) n listed a w hC hfree hr hy (hn v x (hS.putS hd hv) hk)

theorem okS_sound (hM : soundM ops M = true) (hns : Region.noSelect ops = true) (hd : ∀ o ∈ ops.toList, ∀ t, o.dst = some t → t < N) (hQ : ∀ β s st a w, Inv X β st w → SRel X N β s a → K s st → Q .normal a w)
    (hQp : ∀ c a w, ¬ Q (.panic c) a w) : ∀ (l : List Nat) (n : Nat) (listed : Array Bool) (β : Bk) (s : Sl) (st : St) (a : Act) (w : World), okS ops M l listed = true → Closed ops M listed → Inv X β st w → SRel X N β s a →
      vcO true X ops.toList (l.filterMap fun i => ops[i]?) s st K → l.length ≤ n → wpAnyF X.P ops Q n listed a w := by
  intro l
  induction l with
  | nil =>
    intro n listed β s st a w hl hC hI hS h hn
    have hr : Region.ready .any ops listed = [] := by simpa [okS] using hl
    cases n with
    | zero => exact ⟨hr, hQ _ _ _ _ _ hI hS h⟩
    | succ n => exact ⟨fun _ => hQ _ _ _ _ _ hI hS h, by rw [hr]; simp⟩
  | cons i l ih =>
    intro n listed β s st a w hl hC hI hS h hn
    simp only [okS, Bool.and_eq_true, Bool.or_eq_true, beq_iff_eq] at hl
    obtain ⟨hl1, hl2⟩ := hl
    have hr : i ∈ Region.ready .any ops listed := by
      rcases hl1 with h1 | h1
      · cases ho : ops[i]? with
        | none => simp [takeB, ho] at h1
        | some o => exact (takeB_spec ho h1).2.1
      · rw [h1]; simp
    obtain ⟨_, o, ho, _⟩ := mem_ready.1 hr
    simp only [List.filterMap_cons, ho] at h
    cases n with
    | zero => simp at hn
    | succ n =>
      have hn' : l.length ≤ n := by simpa using hn
      have hd' := hd o (by simpa using Array.mem_of_getElem? ho)
      rcases hl1 with h1 | h1
      · exact take_sound hM hns hQp ho hd' h1 hC hI hS h fun v x h2 h3 => ih n _ _ _ _ _ _ hl2 (hC.set hM hr) hI h2 h3 hn'
      · refine ⟨fun h2 => (by rw [h2] at h1; cases h1), fun j hj => ?_⟩
        rw [h1] at hj
        obtain rfl : j = i := by simpa using hj
        exact v1_sound ho hd' hI hS h fun β' s' st' a' w' hb h1 h2 h3 => ⟨fun hs => hb rfl (by simpa [softAt, ho] using hs), ih n _ _ _ _ _ _ hl2 (hC.set hM hr) h1 h2 h3 hn'⟩

theorem vcD_sound (hM : soundM ops M = true) (hns : Region.noSelect ops = true) (hd : ∀ o ∈ ops.toList, ∀ t, o.dst = some t → t < N) (hQ : ∀ β s st a w, Inv X β st w → SRel X N β s a → K s st → Q .normal a w)
    (hQp : ∀ c a w, ¬ Q (.panic c) a w) : ∀ (n : Nat) (listed : Array Bool) (β : Bk) (s : Sl) (st : St) (a : Act) (w : World), Closed ops M listed → Inv X β st w → SRel X N β s a →
      vcD X ops M n listed s st K → wpAnyF X.P ops Q n listed a w := by
  intro n
  induction n with
  | zero => intro listed β s st a w hC hI hS h; exact ⟨h.1, hQ _ _ _ _ _ hI hS h.2⟩
  | succ n ih =>
    intro listed β s st a w hC hI hS h
    rcases h with ⟨hr, h⟩ | ⟨hr, h⟩ | ⟨i, o, ho, ht, h⟩
    · exact ⟨fun _ => hQ _ _ _ _ _ hI hS h, by rw [hr]; simp⟩
    · refine ⟨fun h2 => absurd h2 hr, fun i hi => ?_⟩
      obtain ⟨_, o, ho, _⟩ := mem_ready.1 hi
      exact v1_sound ho (hd o (by simpa using Array.mem_of_getElem? ho)) hI hS (h i hi o ho) fun β' s' st' a' w' hb h1 h2 h3 => ⟨fun hs => hb rfl (by simpa [softAt, ho] using hs), ih _ _ _ _ _ _ (hC.set hM hi) h1 h2 h3⟩
    · exact take_sound hM hns hQp ho (hd o (by simpa using Array.mem_of_getElem? ho)) ht hC hI hS h fun v x h2 h3 => ih _ _ _ _ _ _ (hC.set hM (takeB_spec ho ht).2.1) hI h2 h3

/-! Variables that are made at any time. -/
theorem alo_spec {a d : Nat} {t : TypeId} (h : alo ops a = some (d, t)) : ∃ o, ops[a]? = some o ∧ o.dst = some d ∧ o.op = .alloc t ∧ o.guard = none := by
  unfold alo at h
  cases ho : ops[a]? with
  | none => rw [ho] at h; cases h
  | some o =>
    rw [ho] at h
    simp only at h
    split at h
    · rename_i h1 h2 h3
      cases h
      exact ⟨o, rfl, h1, h2, h3⟩
    · cases h

/-- An object whose block is there already. -/
theorem Inv.adopt {β : Bk} {st : St} {w : World} (hI : Inv X β st w) {b : Nat} {c : Array Value} {e : TypeId} (hc : w.heap[b]? = some (.cells c e (0, 0))) (hb1 : X.w1.heap.size ≤ b) (hf : ∀ (r : Nat) b' m, β[r]? = some (some (b', m)) → b' ≠ b)
    (cs : List AV) (hl : cs.length ≤ c.size) (hv : ∀ (j : Nat) x, cs[j]? = some x → ∃ u, c[j]? = some u ∧ VRel X.w0 β u x) : Inv X (β ++ [some (b, c.size)]) (st ++ [some cs]) w := by
  have hbw : b < w.heap.size := (Array.getElem?_eq_some_iff.1 hc).1
  have hlast : ∀ {r : Nat} {y : Option (Nat × Nat)}, (β ++ [some (b, c.size)])[r]? = some y → (r < β.length ∧ β[r]? = some y) ∨ (r = β.length ∧ y = some (b, c.size)) := by
    intro r y h
    rcases Nat.lt_or_ge r β.length with h' | h'
    · rw [List.getElem?_append_left h'] at h; exact .inl ⟨h', h⟩
    · rw [List.getElem?_append_right h'] at h
      rcases Nat.eq_zero_or_pos (r - β.length) with h0 | h0
      · rw [h0] at h; exact .inr ⟨by omega, by simpa using h.symm⟩
      · rw [List.getElem?_eq_none (by simp; omega)] at h; cases h
  have hlast' : ∀ {r : Nat} {ds : List AV}, (st ++ [some cs])[r]? = some (some ds) → (r < st.length ∧ st[r]? = some (some ds)) ∨ (r = st.length ∧ ds = cs) := by
    intro r y h
    rcases Nat.lt_or_ge r st.length with h' | h'
    · rw [List.getElem?_append_left h'] at h; exact .inl ⟨h', h⟩
    · rw [List.getElem?_append_right h'] at h
      rcases Nat.eq_zero_or_pos (r - st.length) with h0 | h0
      · rw [h0] at h; exact .inr ⟨by omega, by simpa using h.symm⟩
      · rw [List.getElem?_eq_none (by simp; omega)] at h; cases h
  have ghOld : ∀ {r : Nat} {S : List Nat} {G : World → Prop}, (st ++ [some cs])[r]? = some (some [.gh S G]) → st[r]? = some (some [.gh S G]) := by
    intro r S G h
    rcases hlast' h with ⟨_, h⟩ | ⟨_, h⟩
    · exact h
    · obtain ⟨u, _, hu⟩ := hv 0 (.gh S G) (by rw [← h]; rfl)
      exact (no_gh hu).elim
  refine ⟨hI.b0, hI.b1, by simp [hI.len], ?_, ?_, ?_, ?_, ?_, ?_, fun r S G hr => ?_, fun r r' S S' G G' h1 h2 => hI.gi r r' S S' G G' (ghOld h1) (ghOld h2), fun r S G hr => hI.gm r S G (ghOld hr), hI.mks, hI.nd⟩
  rotate_left 6
  · obtain ⟨h1, h2, h3, h4, h5, h6⟩ := hI.gh r S G (ghOld hr)
    refine ⟨h1, h2, h3, h4, fun k hk => ?_, fun r' ds b' m hs' hb' => ?_⟩
    · obtain ⟨r', m, h7⟩ := h5 k hk
      exact ⟨r', m, by rw [List.getElem?_append_left (List.getElem?_eq_some_iff.1 h7).1]; exact h7⟩
    rcases hlast hb' with ⟨h7, h⟩ | ⟨_, h⟩
    · rcases hlast' hs' with ⟨_, h8⟩ | ⟨h8, _⟩
      · exact h6 r' ds b' m h8 h
      · have := hI.len; omega
    · cases h
      intro hk
      obtain ⟨r', m', h7⟩ := h5 _ hk
      exact hf r' _ m' h7 rfl
  · obtain ⟨y, hy⟩ := hI.stp; exact ⟨y ++ [some cs], by rw [hy]; simp⟩
  · obtain ⟨y, hy⟩ := hI.bep; exact ⟨y ++ [some (b, c.size)], by rw [← List.append_assoc, ← hy]⟩
  · intro r b' m hr hb'
    rcases hlast hb' with ⟨_, h⟩ | ⟨_, h⟩
    · exact hI.nw r b' m hr h
    · cases h; exact hb1
  · intro r b' m hb'
    rcases hlast hb' with ⟨_, h⟩ | ⟨_, h⟩
    · exact hI.ow r b' m h
    · cases h; exact ⟨Nat.le_trans hI.b0.size hb1, hbw⟩
  · intro r ds hr
    rcases hlast' hr with ⟨h1, h⟩ | ⟨h1, rfl⟩
    · obtain ⟨bk, h2, h3⟩ := hI.obj r ds h
      refine ⟨bk, by rw [List.getElem?_append_left (by rw [hI.len]; exact h1)]; exact h2, ?_⟩
      cases bk with
      | none => exact h3
      | some p =>
        obtain ⟨b', m⟩ := p
        obtain ⟨c', e', h4, h5, h6, h7⟩ := h3
        exact ⟨c', e', h4, h5, h6, fun j x hx => by obtain ⟨u, h8, h9⟩ := h7 j x hx; exact ⟨u, h8, h9.ext _⟩⟩
    · refine ⟨some (b, c.size), by rw [h1, ← hI.len]; simp, c, e, hc, rfl, hl, fun j x hx => ?_⟩
      obtain ⟨u, h8, h9⟩ := hv j x hx
      exact ⟨u, h8, h9.ext _⟩
  · intro r r' ds ds' b' m m' h1 h2 h3 h4
    rcases hlast h3 with ⟨g1, g2⟩ | ⟨g1, g2⟩ <;> rcases hlast h4 with ⟨g3, g4⟩ | ⟨g3, g4⟩
    · rcases hlast' h1 with ⟨k1, k2⟩ | ⟨k1, k2⟩
      · rcases hlast' h2 with ⟨k3, k4⟩ | ⟨k3, k4⟩
        · exact hI.inj r r' ds ds' b' m m' k2 k4 g2 g4
        · have := hI.len; omega
      · have := hI.len; omega
    · cases g4; exact absurd rfl (hf r _ _ g2)
    · cases g2; exact absurd rfl (hf r' _ _ g4)
    · omega

/-- Variables that were made early: where they lie. -/
structure Pend (X : Cx) (ops : Array Oper) (β : Bk) (w : World) (a : Act) (L : List (Nat × Nat)) : Prop where
  at' : ∀ p ∈ L, ∃ d t i z, alo ops p.1 = some (d, t) ∧ (ti X.P t).zero = z.cells.toList ∧ X.P.info? t = some i ∧ i.zero = some z ∧ a.tmps.getD d undef = .pointer (some ⟨p.2, 0, none⟩) ∧ w.heap[p.2]? = some (.cells z.cells t (0, 0)) ∧ X.w1.heap.size ≤ p.2 ∧
    ∀ (r : Nat) b m, β[r]? = some (some (b, m)) → b ≠ p.2
  nd : (L.map (·.2)).Nodup

theorem Pend.step {β ex : Bk} {w w' : World} {a : Act} {L : List (Nat × Nat)} (h : Pend X ops β w a L) (hb : Below w.heap.size w w') (hex : ∀ (r : Nat) b m, β.length ≤ r → (β ++ ex)[r]? = some (some (b, m)) → w.heap.size ≤ b) {dst : Option Nat} {v : Value}
    (hd : ∀ p ∈ L, ∀ d t, alo ops p.1 = some (d, t) → dst ≠ some d) : Pend X ops (β ++ ex) w' (a.put dst v) L := by
  refine ⟨fun p hp => ?_, h.nd⟩
  obtain ⟨d, t, i, z, h1, h2, h3, h4, h5, h6, h7, h8⟩ := h.at' p hp
  have hlt : p.2 < w.heap.size := (Array.getElem?_eq_some_iff.1 h6).1
  refine ⟨d, t, i, z, h1, h2, h3, h4, ?_, by rw [hb.block p.2 hlt]; exact h6, h7, fun r b m hr => ?_⟩
  · cases dst with
    | none => exact h5
    | some k =>
      have hk : k ≠ d := fun e => hd p hp d t h1 (by rw [e])
      rw [← h5]
      simp [Act.put, Array.getD_eq_getD_getElem?, hk]
  · rcases Nat.lt_or_ge r β.length with h' | h'
    · rw [List.getElem?_append_left h'] at hr; exact h8 r b m hr
    · have := hex r b m h' hr; omega

theorem SRel.put_junk {N : Nat} {β : Bk} {s : Sl} {a : Act} (h : SRel X N β s a) {d : Nat} (hj : Sl.get s d = .junk) (v : Value) : SRel X N β s (a.put (some d) v) := by
  refine ⟨by simp [Act.put, h.size], h.defers, fun k => ?_⟩
  by_cases hk : k = d
  · subst hk; rw [hj]; exact .junk _
  · have : (a.put (some d) v).tmps.getD k undef = a.tmps.getD k undef := by simp [Act.put, Array.getD_eq_getD_getElem?, Ne.symm hk]
    rw [this]; exact h.slot k

/-- Listed: those of the list, and some of A. -/
structure Lis (listed listed' : Array Bool) (ex : List Nat) : Prop where
  size : listed'.size = listed.size
  get : ∀ j, j < listed.size → (listed'.getD j false = true ↔ listed.getD j false = true ∨ j ∈ ex)

theorem getD_tf {l : Array Bool} {j : Nat} : l.getD j true = false ↔ j < l.size ∧ l.getD j false = false := by
  simp only [Array.getD_eq_getD_getElem?]
  rcases Nat.lt_or_ge j l.size with h | h
  · simp [h]
  · simp [Nat.not_lt.2 h]
theorem getD_lt_size {l : Array Bool} {j : Nat} (h : l.getD j false = true) : j < l.size := by
  rcases Nat.lt_or_ge j l.size with h1 | h1
  · exact h1
  · simp [Array.getD_eq_getD_getElem?, Nat.not_lt.2 h1] at h
theorem getD_set_self' {l : Array Bool} {j : Nat} (h : j < l.size) (d : Bool) : (l.setIfInBounds j true).getD j d = true := by
  simp [Array.getD_eq_getD_getElem?, h]

section
variable {listed listed' : Array Bool} {ex : List Nat}
theorem Lis.up (h : Lis listed listed' ex) {j : Nat} (hj : listed.getD j false = true) : listed'.getD j false = true := (h.get j (getD_lt_size hj)).2 (.inl hj)
theorem Lis.ready (h : Lis listed listed' ex) {i : Nat} (hi : i ∈ Region.ready .any ops listed) (he : i ∉ ex) : i ∈ Region.ready .any ops listed' := by
  rw [mem_ready] at *
  obtain ⟨h0, o, ho, hall⟩ := hi
  refine ⟨?_, o, ho, fun e h1 h2 => h.up (hall e h1 h2)⟩
  rw [getD_tf] at *
  refine ⟨by rw [h.size]; exact h0.1, ?_⟩
  cases hc : listed'.getD i false with
  | false => rfl
  | true => rcases (h.get i h0.1).1 hc with h1 | h1
            · rw [h0.2] at h1; cases h1
            · exact absurd h1 he
theorem setAll_get : ∀ (A : List Nat) (listed : Array Bool), Lis listed (setAll A listed) A
  | [], listed => ⟨rfl, fun j _ => by simp [setAll]⟩
  | a :: A, listed => by
    have h := setAll_get A (listed.setIfInBounds a true)
    have e : setAll (a :: A) listed = setAll A (listed.setIfInBounds a true) := rfl
    rw [e]
    refine ⟨by rw [h.size]; simp, fun j hj => ?_⟩
    rw [h.get j (by simpa using hj)]
    by_cases hja : a = j
    · subst hja
      rw [getD_set_self' hj]
      simp
    · rw [getD_set_ne false hja]
      simp only [List.mem_cons]
      constructor
      · rintro (h1 | h1)
        · exact .inl h1
        · exact .inr (.inr h1)
      · rintro (h1 | h1 | h1)
        · exact .inl h1
        · exact absurd h1.symm hja
        · exact .inr h1
/-- What may come up now, with all of A listed too. -/
theorem Lis.ready_all (h : Lis listed listed' ex) {A : List Nat} (hA : ∀ j ∈ ex, j ∈ A) {i : Nat} (hi : i ∈ Region.ready .any ops listed') (hiA : i ∉ A) : i ∈ Region.ready .any ops (setAll A listed) := by
  have hs := setAll_get A listed
  rw [mem_ready] at *
  obtain ⟨h0, o, ho, hall⟩ := hi
  rw [getD_tf] at h0
  have hlt : i < listed.size := by rw [← h.size]; exact h0.1
  refine ⟨?_, o, ho, fun e h1 h2 => ?_⟩
  · rw [getD_tf]
    refine ⟨by rw [hs.size]; exact hlt, ?_⟩
    cases hc : (setAll A listed).getD i false with
    | false => rfl
    | true => rcases (hs.get i hlt).1 hc with h1 | h1
              · rw [h.up h1] at h0; cases h0.2
              · exact absurd h1 hiA
  · have h3 := hall e h1 h2
    have hlt2 : e.on < listed.size := by rw [← h.size]; exact getD_lt_size h3
    rw [hs.get e.on hlt2]
    rcases (h.get e.on hlt2).1 h3 with h4 | h4
    · exact .inl h4
    · exact .inr (hA _ h4)
theorem Lis.set (h : Lis listed listed' ex) (i : Nat) : Lis (listed.setIfInBounds i true) (listed'.setIfInBounds i true) ex := by
  refine ⟨by simp [h.size], fun j hj => ?_⟩
  have hj' : j < listed.size := by simpa using hj
  by_cases hij : i = j
  · subst hij
    rw [getD_set_self' hj', getD_set_self' (by rw [h.size]; exact hj')]
    simp
  · rw [getD_set_ne false hij, getD_set_ne false hij]; exact h.get j hj'
theorem Lis.exec (h : Lis listed listed' ex) (i : Nat) : Lis listed (listed'.setIfInBounds i true) (i :: ex) := by
  refine ⟨by simp [h.size], fun j hj => ?_⟩
  by_cases hij : i = j
  · subst hij
    rw [getD_set_self' (by rw [h.size]; exact hj)]
    simp
  · rw [getD_set_ne false hij, h.get j hj]
    simp only [List.mem_cons]
    constructor
    · rintro (h1 | h1)
      · exact .inl h1
      · exact .inr (.inr h1)
    · rintro (h1 | h1 | h1)
      · exact .inl h1
      · exact absurd h1.symm hij
      · exact .inr h1
theorem Lis.take (h : Lis listed listed' ex) {i : Nat} (ht : takeB ops M listed i = true) (he : i ∉ ex) : takeB ops M listed' i = true := by
  unfold takeB at ht ⊢
  cases hi : ops[i]? with
  | none => rw [hi] at ht; cases ht
  | some oi =>
    rw [hi] at ht
    simp only [Bool.and_eq_true, List.all_eq_true, List.contains_iff_mem] at ht ⊢
    obtain ⟨⟨h1, h2⟩, h3⟩ := ht
    refine ⟨⟨h1, h.ready h2 he⟩, fun j hj => ?_⟩
    have h4 := h3 j hj
    cases hl : listed.getD j true with
    | false => rw [hl] at h4; simp only [Bool.or_false] at h4; simp only [Bool.or_eq_true] at h4 ⊢
               rcases h4 with (h4 | h4) | h4
               · exact .inl (.inl (.inl h4))
               · exact .inl (.inr h4)
               · exact .inr h4
    | true =>
      have : listed'.getD j true = true := by
        cases hc : listed'.getD j true with
        | true => rfl
        | false =>
          obtain ⟨h5, h6⟩ := getD_tf.1 hc
          rw [h.size] at h5
          cases hl2 : listed.getD j false with
          | true => rw [h.up hl2] at h6; cases h6
          | false => rw [getD_tf.2 ⟨h5, hl2⟩] at hl; cases hl
      simp [this]
end

section
variable {β : Bk} {st : St} {w : World} {s : Sl} {a : Act} {L : List (Nat × Nat)}

theorem v1_soft {i : Nat} {o : Oper} {K' : Sl → St → Prop} (hi : ops[i]? = some o) (hs : softO o.op = true) (hd : ∀ t, o.dst = some t → t < N) (hI : Inv X β st w) (hS : SRel X N β s a) (h : vc1 true X ops.toList o s st K') {next : Act → World → Prop}
    (hn : ∀ v x ex st' w', Below w.heap.size w w' → (∀ (r : Nat) b m, β.length ≤ r → (β ++ ex)[r]? = some (some (b, m)) → w.heap.size ≤ b) → Inv X (β ++ ex) st' w' → SRel X N (β ++ ex) (Pv.putS o.dst x s) (a.put o.dst v) → K' (Pv.putS o.dst x s) st' → next (a.put o.dst v) w') : wpOp X.P ops Q i next a w := by
  unfold wpOp
  simp only [hi]
  rcases vc1_cases hS h with ⟨hw, h⟩ | ⟨hw, h⟩
  · rw [if_pos hw]
    refine .inl ?_
    refine soft_sound' hI hS hs h fun v x ex st' w' h0 h1 h2 h3 => hn v x ex st' w' h0.b1 (fun r b m hr hb => h0.nw r b m (by have := hI.len; simp only [Cx.here]; omega) hb) h1 ((hS.ext ex).putS hd h2) h3
  · rw [if_neg (by rw [hw]; simp)]
    have e : β ++ [] = β := List.append_nil β
    refine hn undef undefA [] st w (Below.refl _ _) (fun r b m hr hb => ?_) (by rw [e]; exact hI) (by rw [e]; exact hS.putS hd (.val _)) h
    rw [e] at hb
    have := (List.getElem?_eq_some_iff.1 hb).1
    omega

theorem Pend.put (h : Pend X ops β w a L) {dst : Option Nat} {v : Value} (hd : ∀ p ∈ L, ∀ d t, alo ops p.1 = some (d, t) → dst ≠ some d) : Pend X ops β w (a.put dst v) L := by
  have := h.step (ex := []) (Below.refl _ _) (dst := dst) (v := v) (fun r b m hr hb => by rw [List.append_nil] at hb; have := (List.getElem?_eq_some_iff.1 hb).1; omega) hd
  rwa [List.append_nil] at this

/-- One that makes a variable comes up. -/
theorem alloc_early {A : List Nat} (hA : okA X.P ops A = true) {i d : Nat} {t : TypeId} (hiA : i ∈ A) (hal : alo ops i = some (d, t)) (hdN : d < N) (hI : Inv X β st w) (hS : SRel X N β s a) (hj : Sl.get s d = .junk) (hL : ∀ p ∈ L, p.1 ∈ A ∧ p.1 ≠ i) (hp : Pend X ops β w a L) {next : Act → World → Prop}
    (hn : ∀ v w' b, Below w.heap.size w w' → Inv X β st w' → SRel X N β s (a.put (some d) v) → Pend X ops β w' (a.put (some d) v) ((i, b) :: L) → next (a.put (some d) v) w') : wpOp X.P ops Q i next a w := by
  obtain ⟨o, ho, h1, h2, h3⟩ := alo_spec hal
  simp only [okA, Bool.and_eq_true, decide_eq_true_eq, List.all_eq_true] at hA
  obtain ⟨⟨hA1, hA2⟩, hA3⟩ := hA
  have hg := hA3 i hiA
  rw [hal] at hg
  simp only [Bool.and_eq_true] at hg
  have hg := hg.1
  obtain ⟨dd, inf, z, hdd, hinf, hz, hzs, hsz, hzz, hag⟩ := ti_good hg
  have hrun : (execOp a.eval o).run X.P w = .ok (.value (.pointer (some ⟨w.heap.size, 0, none⟩))) { w with heap := w.heap.push (.cells z.cells t) } := by
    simp [execOp, h2, Instr.alloc, zeroValue, typeInfo, hinf, hz, newVar, newRow]
  have hb : Below w.heap.size w { w with heap := w.heap.push (.cells z.cells t) } := ⟨rfl, rfl, rfl, by simp, fun k hk => by simp [Array.getElem?_push, Nat.ne_of_lt hk]⟩
  have hdist : ∀ p ∈ L, ∀ d' t', alo ops p.1 = some (d', t') → (some d : Option Nat) ≠ some d' := by
    intro p hpL d' t' hp' e
    cases e
    obtain ⟨hpA, hne⟩ := hL p hpL
    obtain ⟨k1, hk1⟩ := List.mem_iff_getElem?.1 hpA
    obtain ⟨k2, hk2⟩ := List.mem_iff_getElem?.1 hiA
    have e1 : (A.map fun a => (alo ops a).map (·.1))[k1]? = some (some d) := by rw [List.getElem?_map, hk1]; simp [hp']
    have e2 : (A.map fun a => (alo ops a).map (·.1))[k2]? = some (some d) := by rw [List.getElem?_map, hk2]; simp [hal]
    obtain ⟨l1, f1⟩ := List.getElem?_eq_some_iff.1 e1
    obtain ⟨l2, f2⟩ := List.getElem?_eq_some_iff.1 e2
    have := (List.getElem_inj hA2).1 (f1.trans f2.symm)
    subst this
    rw [hk1] at hk2
    cases hk2
    exact hne rfl
  unfold wpOp
  simp only [ho]
  rw [if_pos (by unfold Region.wanted; rw [h3])]
  refine .inl ?_
  unfold Oper.wp
  rw [hrun, Oper.upon_value, h1]
  have hst := hp.step (ex := []) hb (dst := some d) (v := .pointer (some ⟨w.heap.size, 0, none⟩)) (fun r b m hr hb => by rw [List.append_nil] at hb; have := (List.getElem?_eq_some_iff.1 hb).1; omega) hdist
  rw [List.append_nil] at hst
  have hsz2 : X.w1.heap.size ≤ w.heap.size := hI.b1.size
  refine hn _ _ w.heap.size hb (hI.grow_below hb) (hS.put_junk hj _) ⟨fun p hp2 => ?_, ?_⟩
  · rcases List.mem_cons.1 hp2 with rfl | hp3
    · refine ⟨d, t, inf, z, hal, hzz, hinf, hz, ?_, by simp, hsz2, fun r b m hr e => ?_⟩
      · have hdN' : d < a.tmps.size := by rw [hS.size]; exact hdN
        simp [Act.put, Array.getD_eq_getD_getElem?, hdN']
      · have := (hI.ow r b m hr).2; omega
    · exact hst.at' p hp3
  · rw [List.map_cons, List.nodup_cons]
    refine ⟨fun hm => ?_, hst.nd⟩
    obtain ⟨p, hpL, hp2⟩ := List.mem_map.1 hm
    obtain ⟨_, _, _, _, _, _, _, _, _, h6, _⟩ := hp.at' p hpL
    have := (Array.getElem?_eq_some_iff.1 h6).1
    omega
end

theorem nodup_map_inj {α γ : Type} {f : α → γ} {l : List α} (h : (l.map f).Nodup) {x y : α} (hx : x ∈ l) (hy : y ∈ l) (e : f x = f y) : x = y := by
  obtain ⟨k1, hk1⟩ := List.mem_iff_getElem?.1 hx
  obtain ⟨k2, hk2⟩ := List.mem_iff_getElem?.1 hy
  have e1 : (l.map f)[k1]? = some (f x) := by rw [List.getElem?_map, hk1]; rfl
  have e2 : (l.map f)[k2]? = some (f x) := by rw [List.getElem?_map, hk2, e]; rfl
  obtain ⟨l1, f1⟩ := List.getElem?_eq_some_iff.1 e1
  obtain ⟨l2, f2⟩ := List.getElem?_eq_some_iff.1 e2
  have := (List.getElem_inj h).1 (f1.trans f2.symm)
  subst this
  rw [hk1] at hk2
  exact Option.some.inj hk2

section
variable {w : World} {a : Act} {L : List (Nat × Nat)}
/-- Those that were made early become objects. -/
theorem conv {l2 : List Oper} (hnd : (L.map (·.2)).Nodup) : ∀ (A : List Nat) (β : Bk) (s : Sl) (st : St), A.Nodup → (∀ x ∈ A, ∀ d t, alo ops x = some (d, t) → bz (ti X.P t).zero = false) → (∀ x ∈ A, ∃ b, (x, b) ∈ L) →
    (∀ p ∈ L, p.1 ∈ A → ∃ d t i z, alo ops p.1 = some (d, t) ∧ (ti X.P t).zero = z.cells.toList ∧ X.P.info? t = some i ∧ i.zero = some z ∧ a.tmps.getD d undef = .pointer (some ⟨p.2, 0, none⟩) ∧ w.heap[p.2]? = some (.cells z.cells t (0, 0)) ∧ X.w1.heap.size ≤ p.2 ∧
      ∀ (r : Nat) b m, β[r]? = some (some (b, m)) → b ≠ p.2) →
    Inv X β st w → SRel X N β s a → vcO true X ops.toList ((A.filterMap fun i => ops[i]?) ++ l2) s st K → ∃ β' s' st', Inv X β' st' w ∧ SRel X N β' s' a ∧ vcO true X ops.toList l2 s' st' K := by
  intro A
  induction A with
  | nil => intro β s st _ _ _ _ hI hS h; exact ⟨β, s, st, hI, hS, h⟩
  | cons x A ih =>
    intro β s st hAn hbz hL hp hI hS h
    obtain ⟨b, hb⟩ := hL x (by simp)
    obtain ⟨d, t, i, z, h1, h2, h3, h4, h5, h6, h7, h8⟩ := hp (x, b) hb (by simp)
    obtain ⟨o, ho, g1, g2, g3⟩ := alo_spec h1
    simp only [List.filterMap_cons, ho, List.cons_append] at h
    have h' : vc1 true X ops.toList o s st (fun s st => vcO true X ops.toList ((A.filterMap fun i => ops[i]?) ++ l2) s st K) := h
    unfold vc1 at h'
    rw [g3] at h'
    simp only [g2, g1] at h'
    have hb0 := hbz x (by simp) d t h1
    have h3' : vcE X (.alloc t) st (fun v st' => vcO true X ops.toList ((A.filterMap fun i => ops[i]?) ++ l2) (Pv.putS (some d) v s) st' K) := h'
    unfold vcE at h3'
    obtain ⟨hg, h'⟩ := h3'
    rw [hb0, cond_false] at h'
    have h' : vcO true X ops.toList ((A.filterMap fun i => ops[i]?) ++ l2) ((d, .ptr st.length 0) :: s) (st ++ [some ((ti X.P t).zero.map AV.val)]) K := h'
    have hinv := hI.adopt h6 h7 h8 ((ti X.P t).zero.map AV.val) (by rw [h2]; simp) (fun j y hy => by
      rw [h2, List.getElem?_map] at hy
      cases hj : z.cells.toList[j]? with
      | none => simp [hj] at hy
      | some u =>
        simp only [hj, Option.map_some, Option.some.injEq] at hy
        subst hy
        exact ⟨u, by simpa using hj, .val u⟩)
    rw [List.nodup_cons] at hAn
    refine ih _ _ _ hAn.2 (fun y hy => hbz y (by simp [hy])) (fun y hy => hL y (by simp [hy])) (fun p hpL hpA => ?_) hinv ?_ h'
    · obtain ⟨d', t', i', z', k1, k2, k3, k4, k5, k6, k7, k8⟩ := hp p hpL (by simp [hpA])
      refine ⟨d', t', i', z', k1, k2, k3, k4, k5, k6, k7, fun r b' m hr e => ?_⟩
      rcases Nat.lt_or_ge r β.length with h' | h'
      · rw [List.getElem?_append_left h'] at hr; exact k8 r b' m hr e
      · rw [List.getElem?_append_right h'] at hr
        rcases Nat.eq_zero_or_pos (r - β.length) with h0 | h0
        · rw [h0] at hr
          simp only [List.getElem?_cons_zero, Option.some.injEq, Prod.mk.injEq] at hr
          have := nodup_map_inj hnd hb hpL (show b = p.2 by rw [hr.1, e])
          rw [← this] at hpA
          exact hAn.1 hpA
        · rw [List.getElem?_eq_none (by simp; omega)] at hr; cases hr
    · refine ⟨hS.size, hS.defers, fun k => ?_⟩
      rw [get_cons]
      by_cases hk : k = d
      · subst hk
        simp only [BEq.rfl, cond_true]
        rw [h5, ← hI.len]
        exact .ptr (m := z.cells.size) (by simp)
      · have hbk : (k == d) = false := by simpa using hk
        rw [hbk, cond_false]
        exact (hS.slot k).ext _
end

theorem late_sound (hM : soundM ops M = true) (hns : Region.noSelect ops = true) (hd : ∀ o ∈ ops.toList, ∀ t, o.dst = some t → t < N) (hQ : ∀ β s st a w, Inv X β st w → SRel X N β s a → K s st → Q .normal a w)
    (hQp : ∀ c a w, ¬ Q (.panic c) a w) {A l2 : List Nat} (hA : okA X.P ops A = true) : ∀ (n : Nat) (l1 : List Nat) (listed listed' : Array Bool) (β : Bk) (s : Sl) (st : St) (a : Act) (w : World) (L : List (Nat × Nat)),
      okP ops M A l2 l1 listed = true → listed.size = ops.size → Closed ops M listed' → Lis listed listed' (L.map (·.1)) → (∀ p ∈ L, p.1 ∈ A) → (∀ x ∈ A, ∀ d t, alo ops x = some (d, t) → Sl.get s d = .junk) → Pend X ops β w a L → Inv X β st w → SRel X N β s a →
      vcO true X ops.toList ((l1 ++ (A ++ l2)).filterMap fun i => ops[i]?) s st K → l1.length + (A.filter fun x => !(L.map (·.1)).contains x).length + l2.length ≤ n → wpAnyF X.P ops Q n listed' a w := by
  have hA' := hA
  simp only [okA, Bool.and_eq_true, decide_eq_true_eq, List.all_eq_true] at hA'
  obtain ⟨⟨hA1, hA2⟩, hA3⟩ := hA'
  have halo : ∀ x ∈ A, ∃ d t, alo ops x = some (d, t) ∧ d < N := by
    intro x hx
    have := hA3 x hx
    cases h : alo ops x with
    | none => rw [h] at this; cases this
    | some p =>
      obtain ⟨d, t⟩ := p
      obtain ⟨o, ho, h1, _, _⟩ := alo_spec h
      exact ⟨d, t, rfl, hd o (by simpa using Array.mem_of_getElem? ho) d h1⟩
  -- one of A comes up
  have early : ∀ (n : Nat) (listed listed' : Array Bool) (β : Bk) (s : Sl) (st : St) (a : Act) (w : World) (L : List (Nat × Nat)) (j : Nat), j ∈ A → j ∈ Region.ready .any ops listed' → listed.size = ops.size → Lis listed listed' (L.map (·.1)) → (∀ p ∈ L, p.1 ∈ A) → (∀ x ∈ A, ∀ d t, alo ops x = some (d, t) → Sl.get s d = .junk) → Pend X ops β w a L → Inv X β st w → SRel X N β s a →
      (∀ a' w' b, Inv X β st w' → SRel X N β s a' → Pend X ops β w' a' ((j, b) :: L) → (A.filter fun x => !(((j, b) :: L).map (·.1)).contains x).length < (A.filter fun x => !(L.map (·.1)).contains x).length → wpAnyF X.P ops Q n (listed'.setIfInBounds j true) a' w') →
      wpOp X.P ops Q j (fun a' w' => (softAt ops j = true → Below w.heap.size w w') ∧ wpAnyF X.P ops Q n (listed'.setIfInBounds j true) a' w') a w := by
    intro n listed listed' β s st a w L j hjA hjr hsz hLis hLA hjk hp hI hS hn
    obtain ⟨d, t, hal, hdN⟩ := halo j hjA
    have hjL : j ∉ L.map (·.1) := by
      intro h
      have h0 := (mem_ready.1 hjr).1
      rw [getD_tf] at h0
      have := (hLis.get j (by rw [← hLis.size]; exact h0.1)).2 (.inr h)
      rw [this] at h0; cases h0.2
    refine alloc_early hA hjA hal hdN hI hS (hjk j hjA d t hal) (fun p hpL => ⟨hLA p hpL, fun e => hjL (List.mem_map.2 ⟨p, hpL, e⟩)⟩) hp fun v w' b hb h1 h2 h3 => ⟨fun _ => hb, hn _ _ b h1 h2 h3 ?_⟩
    have e : (A.filter fun x => !(((j, b) :: L).map (·.1)).contains x) = (A.filter fun x => !(L.map (·.1)).contains x).filter fun x => !(x == j) := by
      rw [List.filter_filter]
      refine List.filter_congr fun x _ => ?_
      simp only [List.map_cons, List.contains_cons]
      cases (x == j) <;> simp
    rw [e, List.length_filter_lt_length_iff_exists]
    exact ⟨j, List.mem_filter.2 ⟨hjA, by simpa using hjL⟩, by simp⟩
  -- all of A have come up
  have full : ∀ (n : Nat) (listed listed' : Array Bool) (β : Bk) (s : Sl) (st : St) (a : Act) (w : World) (L : List (Nat × Nat)), okP ops M A l2 [] listed = true → Closed ops M listed' → Lis listed listed' (L.map (·.1)) → (∀ p ∈ L, p.1 ∈ A) → Pend X ops β w a L → Inv X β st w → SRel X N β s a →
      vcO true X ops.toList ((A ++ l2).filterMap fun i => ops[i]?) s st K → (A.filter fun x => !(L.map (·.1)).contains x) = [] → l2.length ≤ n → wpAnyF X.P ops Q n listed' a w := by
    intro n listed listed' β s st a w L hok hC hLis hLA hp hI hS h h0 hn
    simp only [okP, Bool.and_eq_true] at hok
    have hall : ∀ x ∈ A, x ∈ L.map (·.1) := fun x hx => by
      have := List.filter_eq_nil_iff.1 h0 x hx
      simpa using this
    rw [List.filterMap_append] at h
    obtain ⟨β', s', st', h1, h2, h3⟩ := conv hp.nd A β s st hA1 (fun x hx d t hal => by
      have h5 := hA3 x hx
      rw [hal] at h5
      simp only [Bool.and_eq_true, Bool.not_eq_true'] at h5
      exact h5.2) (fun x hx => by
      obtain ⟨p, hp1, hp2⟩ := List.mem_map.1 (hall x hx)
      exact ⟨p.2, hp2 ▸ hp1⟩) (fun p hpL _ => hp.at' p hpL) hI hS h
    have he : listed' = setAll A listed := by
      have hs := setAll_get A listed
      refine Array.ext (by rw [hLis.size, hs.size]) fun j hj1 hj2 => ?_
      have hj : j < listed.size := by rw [← hLis.size]; exact hj1
      have e1 : listed'.getD j false = listed'[j] := by simp [Array.getD_eq_getD_getElem?, hj1]
      have e2 : (setAll A listed).getD j false = (setAll A listed)[j] := by simp [Array.getD_eq_getD_getElem?, hj2]
      rw [← e1, ← e2, Bool.eq_iff_iff, hLis.get j hj, hs.get j hj]
      constructor
      · rintro (h4 | h4)
        · exact .inl h4
        · obtain ⟨p, hp1, hp2⟩ := List.mem_map.1 h4
          exact .inr (hp2 ▸ hLA p hp1)
      · rintro (h4 | h4)
        · exact .inl h4
        · exact .inr (hall j h4)
    rw [he] at hC ⊢
    exact okS_sound hM hns hd hQ hQp l2 n _ β' s' st' a w hok.2 hC h1 h2 h3 hn
  intro n
  induction n with
  | zero =>
    intro l1 listed listed' β s st a w L hok hsz hC hLis hLA hjk hp hI hS h hn
    have hl1 : l1 = [] := List.eq_nil_of_length_eq_zero (by omega)
    have hA0 : (A.filter fun x => !(L.map (·.1)).contains x) = [] := List.eq_nil_of_length_eq_zero (by omega)
    subst hl1
    exact full 0 listed listed' β s st a w L hok hC hLis hLA hp hI hS h hA0 (by omega)
  | succ n ih =>
    intro l1 listed listed' β s st a w L hok hsz hC hLis hLA hjk hp hI hS h hn
    cases l1 with
    | nil =>
      by_cases h0 : (A.filter fun x => !(L.map (·.1)).contains x) = []
      · exact full (n + 1) listed listed' β s st a w L hok hC hLis hLA hp hI hS h h0 (by omega)
      · obtain ⟨x, hx⟩ := List.exists_mem_of_ne_nil _ h0
        obtain ⟨hxA, hxL⟩ := List.mem_filter.1 hx
        have hxL : x ∉ L.map (·.1) := by simpa using hxL
        have hok' := hok
        simp only [okP, Bool.and_eq_true, List.all_eq_true, List.contains_iff_mem, List.mem_range, Bool.or_eq_true] at hok'
        obtain ⟨⟨hrA, hwait⟩, _⟩ := hok'
        have hxr := hLis.ready (hrA x hxA) hxL
        refine ⟨fun h2 => (by rw [h2] at hxr; cases hxr), fun j hj => ?_⟩
        have hjA : j ∈ A := by
          obtain ⟨hj0, o, ho, _⟩ := mem_ready.1 hj
          rw [getD_tf] at hj0
          have hjs : j < listed.size := by rw [← hLis.size]; exact hj0.1
          rcases hwait j (by rw [← hsz]; exact hjs) with (h1 | h1) | h1
          · exfalso
            have h2 : listed.getD j false = true := by
              cases hc : listed.getD j false with
              | true => rfl
              | false => rw [getD_tf.2 ⟨hjs, hc⟩] at h1; cases h1
            rw [hLis.up h2] at hj0; cases hj0.2
          · exact h1
          · exfalso
            obtain ⟨d, t, hal, _⟩ := halo x hxA
            obtain ⟨o', ho', _⟩ := alo_spec hal
            have h3 := ready_anc hM hC (Array.getElem?_eq_some_iff.1 ho').1 hj (h1 x hxA)
            have hxs := getD_lt_size h3
            rw [hLis.size] at hxs
            rcases (hLis.get x hxs).1 h3 with h4 | h4
            · have h5 := (mem_ready.1 (hrA x hxA)).1
              rw [getD_tf] at h5
              rw [h4] at h5; cases h5.2
            · exact hxL h4
        refine early n listed listed' β s st a w L j hjA hj hsz hLis hLA hjk hp hI hS fun a' w' b h1 h2 h3 h4 => ?_
        refine ih [] listed _ β s st a' w' ((j, b) :: L) hok hsz (hC.set hM hj) (hLis.exec j) (fun p hp2 => ?_) hjk h3 h1 h2 h (by omega)
        rcases List.mem_cons.1 hp2 with rfl | hp2
        · exact hjA
        · exact hLA p hp2
    | cons i l1 =>
      simp only [okP, Bool.and_eq_true, Bool.not_eq_true', Bool.or_eq_true] at hok
      obtain ⟨⟨⟨hiA, hmt⟩, hcase⟩, hok⟩ := hok
      have hiA : i ∉ A := by simpa using hiA
      cases ho : ops[i]? with
      | none => rw [ho] at hmt; cases hmt
      | some o =>
        rw [ho] at hmt
        simp only [List.all_eq_true] at hmt
        have hdst : ∀ x ∈ A, ∀ d t, alo ops x = some (d, t) → o.dst ≠ some d := by
          intro x hx d t hal
          have := hmt x hx
          rw [hal] at this
          simpa using this
        have hd' := hd o (by simpa using Array.mem_of_getElem? ho)
        simp only [List.cons_append, List.filterMap_cons, ho] at h
        have hiL : i ∉ L.map (·.1) := fun hm => by
          obtain ⟨p, hp1, hp2⟩ := List.mem_map.1 hm
          exact hiA (hp2 ▸ hLA p hp1)
        have hjk' : ∀ (x : AV), ∀ y ∈ A, ∀ d t, alo ops y = some (d, t) → Sl.get (Pv.putS o.dst x s) d = .junk := by
          intro x y hy d t hal
          have h1 := hdst y hy d t hal
          cases hdd : o.dst with
          | none => exact hjk y hy d t hal
          | some k =>
            have hk : (d == k) = false := by
              rw [hdd] at h1
              simpa using fun e => h1 (by rw [e])
            simp only [Pv.putS, get_cons, hk, cond_false]
            exact hjk y hy d t hal
        have hpd : ∀ p ∈ L, ∀ d t, alo ops p.1 = some (d, t) → o.dst ≠ some d := fun p hpL => hdst p.1 (hLA p hpL)
        have hlen : l1.length + (A.filter fun x => !(L.map (·.1)).contains x).length + l2.length ≤ n := by simp only [List.length_cons] at hn; omega
        rcases hcase with htake | honly
        · have ht := hLis.take htake hiL
          have hir := (takeB_spec ho ht).2.1
          exact take_sound hM hns hQp ho hd' ht hC hI hS h fun v x h2 h3 => ih l1 (listed.setIfInBounds i true) _ β _ st _ w L hok (by simpa using hsz) (hC.set hM hir) (hLis.set i) hLA (hjk' x) (hp.put hpd) hI h2 h3 hlen
        · simp only [List.contains_iff_mem, List.all_eq_true, beq_iff_eq] at honly
          obtain ⟨⟨hsoft, hrd⟩, hall⟩ := honly
          have hir := hLis.ready hrd hiL
          refine ⟨fun h2 => (by rw [h2] at hir; cases hir), fun j hj => ?_⟩
          by_cases hjA : j ∈ A
          · refine early n listed listed' β s st a w L j hjA hj hsz hLis hLA hjk hp hI hS fun a' w' b h1 h2 h3 h4 => ?_
            refine ih (i :: l1) listed _ β s st a' w' ((j, b) :: L) (by simp only [okP, Bool.and_eq_true, Bool.not_eq_true', Bool.or_eq_true]; exact ⟨⟨⟨by simpa using hiA, by rw [ho]; simp only [List.all_eq_true]; exact hmt⟩, .inr (by simp only [List.contains_iff_mem, List.all_eq_true, beq_iff_eq]; exact ⟨⟨hsoft, hrd⟩, hall⟩)⟩, hok⟩) hsz (hC.set hM hj) (hLis.exec j) (fun p hp2 => ?_) hjk h3 h1 h2 (by simp only [List.cons_append, List.filterMap_cons, ho]; exact h) (by simp only [List.length_cons] at hn ⊢; omega)
            rcases List.mem_cons.1 hp2 with rfl | hp2
            · exact hjA
            · exact hLA p hp2
          · have hji : j = i := hall j (hLis.ready_all (A := A) (fun x hx => by obtain ⟨p, hp1, hp2⟩ := List.mem_map.1 hx; exact hp2 ▸ hLA p hp1) hj hjA)
            subst hji
            have hsoft' : softO o.op = true := by simpa [softAt, ho] using hsoft
            exact v1_soft ho hsoft' hd' hI hS h fun v x ex st' w' hb hex h1 h2 h3 => ⟨fun _ => hb, ih l1 (listed.setIfInBounds j true) _ (β ++ ex) _ st' _ w' L hok (by simpa using hsz) (hC.set hM hj) (hLis.set j) hLA (hjk' x) (hp.step hb hex hpd) h1 h2 h3 hlen⟩

theorem tree_sound (hM : soundM ops M = true) (hns : Region.noSelect ops = true) (hd : ∀ o ∈ ops.toList, ∀ t, o.dst = some t → t < N) (hQ : ∀ β s st a w, Inv X β st w → SRel X N β s a → K s st → Q .normal a w)
    (hQp : ∀ c a w, ¬ Q (.panic c) a w) : ∀ (t : Tr) (n : Nat) (listed : Array Bool) (β : Bk) (s : Sl) (st : St) (a : Act) (w : World), okT ops M t listed = true → t.deep ≤ n → Closed ops M listed → Inv X β st w → SRel X N β s a →
      runD X ops K t s st → wpAnyF X.P ops Q n listed a w := by
  intro t
  induction t with
  | fin =>
    intro n listed β s st a w hok hn hC hI hS h
    have hr : Region.ready .any ops listed = [] := by simpa [okT] using hok
    cases n with
    | zero => exact ⟨hr, hQ _ _ _ _ _ hI hS h⟩
    | succ n => exact ⟨fun _ => hQ _ _ _ _ _ hI hS h, by rw [hr]; simp⟩
  | take i t ih =>
    intro n listed β s st a w hok hn hC hI hS h
    simp only [okT, Bool.and_eq_true, Bool.or_eq_true, beq_iff_eq] at hok
    cases n with
    | zero => simp [Tr.deep] at hn
    | succ n =>
      have hn' : t.deep ≤ n := by simpa [Tr.deep] using hn
      simp only [runD] at h
      cases ho : ops[i]? with
      | none => rw [ho] at h; exact h.elim
      | some o =>
        rw [ho] at h
        have hd' := hd o (by simpa using Array.mem_of_getElem? ho)
        rcases hok.1 with h1 | h1
        · exact take_sound hM hns hQp ho hd' h1 hC hI hS h fun v x h2 h3 => ih n _ _ _ _ _ _ hok.2 hn' (hC.set hM (takeB_spec ho h1).2.1) hI h2 h3
        · refine ⟨fun h2 => (by rw [h2] at h1; cases h1), fun j hj => ?_⟩
          have hji : j = i := by rw [h1] at hj; simpa using hj
          subst hji
          exact v1_sound ho hd' hI hS h fun β' s' st' a' w' hb h1 h2 h3 => ⟨fun hs => hb rfl (by simpa [softAt, ho] using hs), ih n _ _ _ _ _ _ hok.2 hn' (hC.set hM hj) h1 h2 h3⟩
  | two i t j u iht ihu =>
    intro n listed β s st a w hok hn hC hI hS h
    simp only [okT, Bool.and_eq_true, beq_iff_eq] at hok
    cases n with
    | zero => simp [Tr.deep] at hn
    | succ n =>
      have hn' : t.deep ≤ n ∧ u.deep ≤ n := by simp only [Tr.deep] at hn; omega
      simp only [runD] at h
      obtain ⟨ha, hb⟩ := h
      refine ⟨fun h2 => (by rw [hok.1.1] at h2; cases h2), fun q hq => ?_⟩
      have hq' := hq
      rw [hok.1.1] at hq'
      rcases List.mem_cons.1 hq' with rfl | hq'
      · cases ho : ops[q]? with
        | none => rw [ho] at ha; exact ha.elim
        | some o =>
          rw [ho] at ha
          have hd' := hd o (by simpa using Array.mem_of_getElem? ho)
          exact v1_sound ho hd' hI hS ha fun β' s' st' a' w' hb h1 h2 h3 => ⟨fun hs => hb rfl (by simpa [softAt, ho] using hs), iht n _ _ _ _ _ _ hok.1.2 hn'.1 (hC.set hM hq) h1 h2 h3⟩
      · have hqj : q = j := by simpa using hq'
        subst hqj
        cases ho : ops[q]? with
        | none => rw [ho] at hb; exact hb.elim
        | some o =>
          rw [ho] at hb
          have hd' := hd o (by simpa using Array.mem_of_getElem? ho)
          exact v1_sound ho hd' hI hS hb fun β' s' st' a' w' hb h1 h2 h3 => ⟨fun hs => hb rfl (by simpa [softAt, ho] using hs), ihu n _ _ _ _ _ _ hok.2 hn'.2 (hC.set hM hq) h1 h2 h3⟩

theorem orders_sound (hM : soundM ops M = true) (hns : Region.noSelect ops = true) (hd : ∀ o ∈ ops.toList, ∀ t, o.dst = some t → t < N) (hQ : ∀ β s st a w, Inv X β st w → SRel X N β s a → K s st → Q .normal a w)
    (hQp : ∀ c a w, ¬ Q (.panic c) a w) : ∀ (t : Tn) (n : Nat) (listed : Array Bool) (β : Bk) (s : Sl) (st : St) (a : Act) (w : World), Closed ops M listed → Inv X β st w → SRel X N β s a →
      (okN ops M false t listed = true → t.deep ≤ n → runN X ops K false t s st → wpAnyF X.P ops Q n listed a w) ∧
      (okN ops M true t listed = true → t.deep ≤ n + 1 → runN X ops K true t s st → ∀ i ∈ t.keys, i ∈ Region.ready .any ops listed → wpOp X.P ops Q i (fun a' w' => (softAt ops i = true → Below w.heap.size w w') ∧ wpAnyF X.P ops Q n (listed.setIfInBounds i true) a' w') a w) := by
  intro t
  induction t with
  | fin =>
    intro n listed β s st a w hC hI hS
    refine ⟨fun hok hn h => ?_, fun _ _ _ i hi => by cases hi⟩
    have hr : Region.ready .any ops listed = [] := by simpa [okN] using hok
    cases n with
    | zero => exact ⟨hr, hQ _ _ _ _ _ hI hS h⟩
    | succ n => exact ⟨fun _ => hQ _ _ _ _ _ hI hS h, by rw [hr]; simp⟩
  | take i t ih =>
    intro n listed β s st a w hC hI hS
    refine ⟨fun hok hn h => ?_, fun _ _ _ i hi => by cases hi⟩
    simp only [okN, Bool.and_eq_true, Bool.not_false, true_and] at hok
    cases n with
    | zero => simp [Tn.deep] at hn
    | succ n =>
      have hn' : t.deep ≤ n := by simpa [Tn.deep] using hn
      simp only [runN, Bool.false_eq_true, if_false] at h
      cases ho : ops[i]? with
      | none => rw [ho] at h; exact h.elim
      | some o =>
        rw [ho] at h
        have hd' := hd o (by simpa using Array.mem_of_getElem? ho)
        exact take_sound hM hns hQp ho hd' hok.1 hC hI hS h fun v x h2 h3 => (ih n _ _ _ _ _ _ (hC.set hM (takeB_spec ho hok.1).2.1) hI h2).1 hok.2 hn' h3
  | alt i t u iht ihu =>
    intro n listed β s st a w hC hI hS
    have key : ∀ n, okN ops M false t (listed.setIfInBounds i true) = true → okN ops M true u listed = true → t.deep ≤ n → u.deep ≤ n + 1 → runN X ops K true (.alt i t u) s st → ∀ j ∈ (Tn.alt i t u).keys, j ∈ Region.ready .any ops listed →
        wpOp X.P ops Q j (fun a' w' => (softAt ops j = true → Below w.heap.size w w') ∧ wpAnyF X.P ops Q n (listed.setIfInBounds j true) a' w') a w := by
      intro n h1 h2 h3 h4 h j hj hr
      obtain ⟨h5, h6⟩ := h
      rcases List.mem_cons.1 hj with rfl | hj
      · cases ho : ops[j]? with
        | none => rw [ho] at h5; exact h5.elim
        | some o =>
          rw [ho] at h5
          have hd' := hd o (by simpa using Array.mem_of_getElem? ho)
          exact v1_sound ho hd' hI hS h5 fun β' s' st' a' w' hb g1 g2 g3 => ⟨fun hs => hb rfl (by simpa [softAt, ho] using hs), (iht n _ _ _ _ _ _ (hC.set hM hr) g1 g2).1 h1 h3 g3⟩
      · exact (ihu n listed β s st a w hC hI hS).2 h2 h4 h6 j hj hr
    refine ⟨fun hok hn h => ?_, fun hok hn h => ?_⟩
    · simp only [okN, Bool.and_eq_true, Bool.false_or, beq_iff_eq] at hok
      obtain ⟨⟨hr, h1⟩, h2⟩ := hok
      cases n with
      | zero => simp [Tn.deep] at hn
      | succ n =>
        simp only [Tn.deep] at hn
        refine ⟨fun h3 => (by rw [hr] at h3; cases h3), fun j hj => ?_⟩
        exact key n h1 h2 (by omega) (by omega) h j (by rw [hr] at hj; exact hj) hj
    · simp only [okN, Bool.and_eq_true, Bool.true_or, true_and] at hok
      simp only [Tn.deep] at hn
      exact key n hok.1 hok.2 (by omega) (by omega) h

theorem okS_length : ∀ (l : List Nat) (listed : Array Bool), okS ops M l listed = true → l.length ≤ (listed.toList.count false) := by
  intro l
  induction l with
  | nil => intro _ _; simp
  | cons i l ih =>
    intro listed h
    simp only [okS, Bool.and_eq_true, Bool.or_eq_true, beq_iff_eq] at h
    obtain ⟨h1, h2⟩ := h
    have hr : i ∈ Region.ready .any ops listed := by
      rcases h1 with h1 | h1
      · cases ho : ops[i]? with
        | none => simp [takeB, ho] at h1
        | some o => exact (takeB_spec ho h1).2.1
      · rw [h1]; simp
    have h0 := (mem_ready.1 hr).1
    have h3 := ih _ h2
    have hlt : i < listed.size := by
      rcases Nat.lt_or_ge i listed.size with h | h
      · exact h
      · simp [Array.getD_eq_getD_getElem?, Array.getElem?_eq_none h] at h0
    have hf : listed.toList[i]'(by simpa using hlt) = false := by simpa [Array.getD_eq_getD_getElem?, hlt] using h0
    rw [Array.toList_setIfInBounds, List.count_set (by simpa using hlt)] at h3
    have hpos : 0 < listed.toList.count false := List.count_pos_iff.2 (hf ▸ List.getElem_mem _)
    simp only [hf, BEq.rfl, if_true] at h3
    simp only [List.length_cons]
    rw [if_neg (by decide)] at h3
    omega

theorem mask_get (ops : Array Oper) : ∀ (A : List Nat) (s : Sl), ∀ x ∈ A, ∀ d t, alo ops x = some (d, t) → Sl.get (maskS ops A s) d = .junk := by
  intro A
  induction A with
  | nil => intro s x hx; cases hx
  | cons a A ih =>
    intro s x hx d t hal
    rcases List.mem_cons.1 hx with rfl | hx
    · unfold maskS
      rw [hal]
      simp [get_cons]
    · unfold maskS
      cases alo ops a with
      | none => exact ih s x hx d t hal
      | some p =>
        obtain ⟨k, t'⟩ := p
        simp only [get_cons]
        cases (d == k)
        · exact ih s x hx d t hal
        · rfl
theorem SRel.mask {β : Bk} {s : Sl} {a : Act} (h : SRel X N β s a) : ∀ A, SRel X N β (maskS ops A s) a
  | [] => h
  | x :: A => by
    unfold maskS
    have ih := SRel.mask h A
    cases alo ops x with
    | none => exact ih
    | some p =>
      obtain ⟨k, t⟩ := p
      refine ⟨ih.size, ih.defers, fun j => ?_⟩
      simp only [get_cons]
      cases (j == k)
      · exact ih.slot j
      · exact .junk _

theorem or_assoc5 {a b c d e f : Prop} (h : a ∨ b ∨ c ∨ d ∨ e ∨ f) : (a ∨ b ∨ c ∨ d ∨ e) ∨ f := by
  rcases h with h | h | h | h | h | h
  · exact .inl (.inl h)
  · exact .inl (.inr (.inl h))
  · exact .inl (.inr (.inr (.inl h)))
  · exact .inl (.inr (.inr (.inr (.inl h))))
  · exact .inl (.inr (.inr (.inr (.inr h))))
  · exact .inr h
theorem vcR_sound (hm : X.P.follows .mixedOrders = true) (hd : ∀ o ∈ ops.toList, ∀ t, o.dst = some t → t < N) {id : Nat} {β : Bk} {s : Sl} {st : St} {a : Act} {w : World} (hI : Inv X β st w) (hS : SRel X N β s a)
    (h : vcR X ops s st K) : (Code.region id ops true).wp X.P (fun e a w => e = .normal ∧ ∃ β s st, Inv X β st w ∧ SRel X N β s a ∧ K s st) a w := by
  obtain ⟨M, hM, hns, h⟩ := h
  refine wp_region_any hm ?_
  have hI' : Inv X β st { w with drawn := w.drawn + 1 } := hI.grow_below ⟨rfl, rfl, rfl, Nat.le_refl _, fun _ _ => rfl⟩
  rcases or_assoc5 h with h | h
  rotate_left
  · exact h N X.ds β a _ hd hI' hS
  refine wpAny_of_F _ _ _ _ ?_
  rcases h with ⟨l, hl, h⟩ | h | ⟨A, l1, l2, hle, hA, hl, h⟩ | ⟨t, hn, hok, h⟩ | ⟨t, hn, hok, h⟩
  · refine okS_sound hM hns hd (fun β s st a w h1 h2 h3 => ⟨rfl, β, s, st, h1, h2, h3⟩) (fun c a w h => by cases h.1) l _ _ _ _ _ _ _ hl start_closed hI' hS h ?_
    have := okS_length l _ hl
    refine Nat.le_trans this ?_
    refine Nat.le_trans (List.count_le_length ..) ?_
    simp [start]
  · exact vcD_sound hM hns hd (fun β s st a w h1 h2 h3 => ⟨rfl, β, s, st, h1, h2, h3⟩) (fun c a w h => by cases h.1) _ _ _ _ _ _ _ start_closed hI' hS h
  · have h0 : A.filter (fun x => !(([] : List (Nat × Nat)).map (·.1)).contains x) = A := List.filter_eq_self.2 fun x _ => by simp
    exact late_sound hM hns hd (fun β s st a w h1 h2 h3 => ⟨rfl, β, s, st, h1, h2, h3⟩) (fun c a w h => by cases h.1) hA ops.size l1 (start ops) (start ops) β _ st a _ [] hl (by simp [start]) start_closed ⟨rfl, fun j _ => by simp⟩ (by simp) (mask_get ops A s) ⟨by simp, by simp⟩ hI' (hS.mask A) h (by rw [h0]; exact hle)
  · exact tree_sound hM hns hd (fun β s st a w h1 h2 h3 => ⟨rfl, β, s, st, h1, h2, h3⟩) (fun c a w h => by cases h.1) t ops.size _ _ _ _ _ _ hok hn start_closed hI' hS h
  · exact (orders_sound hM hns hd (fun β s st a w h1 h2 h3 => ⟨rfl, β, s, st, h1, h2, h3⟩) (fun c a w h => by cases h.1) t ops.size _ _ _ _ _ _ start_closed hI' hS).1 hok hn h
end
end Go.Proofs.Pv

/- The engine's tenth part: code, functions, contracts. -/
namespace Go.Proofs.Pv
open Go Go.RowKit

abbrev Post := Exit → Sl → St → Prop

def thenP (F : Sl → St → Prop) (K : Post) : Post := fun e s st => match e with
  | .normal => F s st
  | e => K e s st
def blkP (id : Nat) (K : Post) : Post := fun e s st => match e with
  | .exit i => bif i == id then K .normal s st else K (.exit i) s st
  | e => K e s st
def scpP (K : Post) : Post := fun e s st => match e with
  | .goto _ => False
  | e => K e s st

/-- Some slots forgotten. -/
def Fit (s s' : Sl) : Prop := ∀ k, Sl.get s' k = .junk ∨ Sl.get s' k = Sl.get s k

def okD (N : Nat) (o : Oper) : Bool := match o.dst with
  | some d => decide (d < N)
  | none => true
def okC (N : Nat) : Code → Bool
  | .region _ ops _ => ops.all (okD N)
  | .seq a b => okC N a && okC N b
  | .cond _ a b => okC N a && okC N b
  | .block _ c => okC N c
  | .loop c => okC N c
  | .scope c => okC N c
  | .rangeFunc _ _ a b => okC N a && okC N b
  | _ => true

/-- The context with this call's marks. -/
def Cx.own (X : Cx) (ds : List Nat) : Cx := ⟨X.P, X.w0, X.w1, X.st1, X.β1, X.ms, ds⟩
def conc (X : Cx) (N : Nat) (K : Post) : Exit → Act → World → Prop := fun e a w => ∃ ds β s st, (∀ D ∈ ds, X.w1.heap.size ≤ D) ∧ Inv (X.own ds) β st w ∧ SRel (X.own ds) N β s a ∧ K e s st

def vc (X : Cx) : Code → Post → Sl → St → Prop
  | .skip, K, s, st => K .normal s st
  | .region _ ops draw, K, s, st => if draw = true then vcR X ops s st (K .normal) else vcO false X ops.toList ops.toList s st (K .normal)
  | .seq a b, K, s, st => vc X a (thenP (vc X b K) K) s st
  | .cond c a b, K, s, st => match ev s c with
    | .val (.bool t) => if t = true then vc X a K s st else vc X b K s st
    | _ => False
  | .block id c, K, s, st => vc X c (blkP id K) s st
  | .loop c, K, s, st => ∃ I : Nat → Sl → St → Prop, (∃ n s', Fit s s' ∧ I n s' st) ∧ ∀ n s' st', I n s' st' → ∃ J : Sl → St → Prop, (∀ s2 st2, J s2 st2 → ∃ m s3, m < n ∧ Fit s2 s3 ∧ I m s3 st2) ∧ vc X c (thenP J K) s' st'
  | .exit i, K, s, st => K (.exit i) s st
  | .ret, K, s, st => K .ret s st
  | .label _, K, s, st => K .normal s st
  | .scope c, K, s, st => vc X c (scpP K) s st
  | .rangeFunc f ps x y, K, s, st => ∀ (N : Nat) (ds : List Nat) (β : Bk) (a : Act) (w : World), okC N x = true → okC N y = true → X.P.follows .mixedOrders = true → (∀ D ∈ ds, X.w1.heap.size ≤ D) → Inv (X.own ds) β st w → SRel (X.own ds) N β s a → (Code.rangeFunc f ps x y).wp X.P (conc X N K) a w
  | _, _, _, _ => False

theorem okD_spec {N : Nat} {ops : Array Oper} (h : ops.all (okD N) = true) : ∀ o ∈ ops.toList, ∀ t, o.dst = some t → t < N := by
  intro o ho t ht
  have := Array.all_eq_true_iff_forall_mem.1 h o (by simpa using ho)
  simpa [okD, ht] using this

section
variable {X : Cx} {N : Nat}

theorem vcE3_own {d : Bool} {ds : List Nat} : vcE3 d (X.own ds) = vcE3 d X := by
  funext o st K
  cases o <;> rfl
theorem vc1_own {d : Bool} {ds : List Nat} {full : List Oper} : vc1 d (X.own ds) full = vc1 d X full := by
  funext o s st K
  unfold vc1
  rw [vcE3_own]
theorem vcO_own {d : Bool} {ds : List Nat} {full : List Oper} : ∀ l, vcO d (X.own ds) full l = vcO d X full l
  | [] => rfl
  | o :: l => by
    funext s st K
    simp only [vcO]
    rw [vc1_own, vcO_own l]
theorem vcD_own {ds : List Nat} {ops : Array Oper} {M : Array Nat} : ∀ n, vcD (X.own ds) ops M n = vcD X ops M n
  | 0 => rfl
  | n + 1 => by
    funext listed s st K
    simp only [vcD]
    rw [vc1_own, vcD_own n]
theorem runD_own {ds : List Nat} {ops : Array Oper} {K : Sl → St → Prop} : ∀ t, runD (X.own ds) ops K t = runD X ops K t
  | .fin => rfl
  | .take i t => by
    funext s st
    simp only [runD]
    rw [vc1_own, runD_own t]
  | .two i t j u => by
    funext s st
    simp only [runD]
    rw [vc1_own, runD_own t, runD_own u]
theorem runN_own {ds : List Nat} {ops : Array Oper} {K : Sl → St → Prop} : ∀ t b, runN (X.own ds) ops K b t = runN X ops K b t
  | .fin, b => rfl
  | .take i t, b => by
    funext s st
    simp only [runN]
    rw [vc1_own, runN_own t]
  | .alt i t u, b => by
    funext s st
    simp only [runN]
    rw [vc1_own, runN_own t, runN_own u]
theorem vcR_own {ds : List Nat} {ops : Array Oper} : vcR (X.own ds) ops = vcR X ops := by
  funext s st K
  unfold vcR
  simp only [vcO_own, vcD_own, runD_own, runN_own]
  rfl

theorem SRel.fit {β : Bk} {s s' : Sl} {a : Act} (h : SRel X N β s a) (hf : Fit s s') : SRel X N β s' a :=
  ⟨h.size, h.defers, fun k => by
    rcases hf k with e | e
    · rw [e]; exact .junk _
    · rw [e]; exact h.slot k⟩

theorem wp_loop_n {P : Program} {c : Code} {Q : Exit → Act → World → Prop} {a : Act} {w : World} (I : Nat → Act → World → Prop) {n : Nat} (h₀ : I n a w)
    (round : ∀ n a w, I n a w → c.wp P (Exit.then (fun a' w' => ∃ m, m < n ∧ I m a' w') Q) a w) : (Code.loop c).wp P Q a w := by
  intro b k cs
  have key : ∀ n a w, I n a w → ∃ e a' w', Q e a' w' ∧ Arrives P (lone (b.at a (.code c :: .inLoop c :: k)) cs w) b k cs e a' w' := by
    intro n
    induction n using Nat.strongRecOn with
    | _ n ih =>
      intro a w hI
      obtain ⟨e, a₁, w₁, hq, harr⟩ := round n a w hI b (.inLoop c :: k) cs
      cases e with
      | normal =>
        obtain ⟨m, hlt, hI₁⟩ := hq
        obtain ⟨e₂, a₂, w₂, hq₂, harr₂⟩ := ih m hlt a₁ w₁ hI₁
        exact ⟨e₂, a₂, w₂, hq₂, .of_steps (Steps.trans harr (.one step_inLoop)) harr₂⟩
      | _ => exact ⟨_, a₁, w₁, hq, .pass (x := .inLoop c) rfl (fun _ _ => .inl (by simp)) harr⟩
  obtain ⟨e, a', w', q, r⟩ := key n a w h₀
  exact ⟨e, a', w', q, .of_steps (.one step_loop) r⟩

theorem vc_sound (hm : X.P.follows .mixedOrders = true) : ∀ (c : Code), okC N c = true → ∀ (K : Post) (s : Sl) (st : St) (ds : List Nat) (β : Bk) (a : Act) (w : World), (∀ D ∈ ds, X.w1.heap.size ≤ D) → Inv (X.own ds) β st w → SRel (X.own ds) N β s a → vc X c K s st → c.wp X.P (conc X N K) a w := by
  intro c
  induction c with
  | skip => intro _ K s st ds β a w hD hI hS h; exact wp_skip ⟨ds, β, s, st, hD, hI, hS, h⟩
  | label l => intro _ K s st ds β a w hD hI hS h; exact wp_label ⟨ds, β, s, st, hD, hI, hS, h⟩
  | exit i => intro _ K s st ds β a w hD hI hS h; exact wp_exit ⟨ds, β, s, st, hD, hI, hS, h⟩
  | ret => intro _ K s st ds β a w hD hI hS h; exact wp_ret ⟨ds, β, s, st, hD, hI, hS, h⟩
  | region id ops draw =>
    intro hc K s st ds β a w hD hI hS h
    have hd := okD_spec (show ops.all (okD N) = true from hc)
    cases draw with
    | false =>
      refine wp_region ?_
      have h' : vcO false X ops.toList ((List.range ops.size).filterMap fun i => ops[i]?) s st (K .normal) := by
        have := range_all ops.toList
        simp only [Array.length_toList, Array.getElem?_toList] at this
        rw [this]; exact h
      exact vcO_sound (X := X.own ds) hd (fun β s st a w h1 h2 h3 => ⟨ds, β, s, st, hD, h1, h2, h3⟩) _ _ _ _ _ _ hI hS (by rw [vcO_own]; exact h')
    | true =>
      refine wp_mono (vcR_sound (X := X.own ds) (K := K .normal) hm hd hI hS (by rw [vcR_own]; exact h)) fun e a w => ?_
      rintro ⟨rfl, β, s, st, h1, h2, h3⟩
      exact ⟨ds, β, s, st, hD, h1, h2, h3⟩
  | seq x y ihx ihy =>
    intro hc K s st ds β a w hD hI hS h
    simp only [okC, Bool.and_eq_true] at hc
    refine wp_seq (wp_mono (ihx hc.1 _ _ _ _ _ _ _ hD hI hS h) fun e a w => ?_)
    rintro ⟨ds, β, s, st, hD, h1, h2, h3⟩
    cases e with
    | normal => exact ihy hc.2 _ _ _ _ _ _ _ hD h1 h2 h3
    | _ => exact ⟨ds, β, s, st, hD, h1, h2, h3⟩
  | cond x y z ihy ihz =>
    intro hc K s st ds β a w hD hI hS h
    simp only [okC, Bool.and_eq_true] at hc
    simp only [vc] at h
    have hx := hS.eval x
    cases hv : ev s x with
    | val v =>
      rw [hv] at h hx
      cases v with
      | bool t =>
        have := inv_val hx
        simp only at h
        cases t with
        | true => exact wp_cond_true this (ihy hc.1 _ _ _ _ _ _ _ hD hI hS (by simpa using h))
        | false => exact wp_cond_false this (ihz hc.2 _ _ _ _ _ _ _ hD hI hS (by simpa using h))
      | _ => exact h.elim
    | _ => rw [hv] at h; exact h.elim
  | block id x ih =>
    intro hc K s st ds β a w hD hI hS h
    refine wp_block (wp_mono (ih hc _ _ _ _ _ _ _ hD hI hS h) fun e a w => ?_)
    rintro ⟨ds, β, s, st, hD, h1, h2, h3⟩
    cases e with
    | exit i =>
      simp only [blkP] at h3
      simp only [Exit.inBlock]
      by_cases hi : i = id
      · subst hi; simp only [BEq.rfl, cond_true] at h3; rw [if_pos rfl]; exact ⟨ds, β, s, st, hD, h1, h2, h3⟩
      · have hb : (i == id) = false := by simpa using hi
        rw [hb, cond_false] at h3; rw [if_neg hi]; exact ⟨ds, β, s, st, hD, h1, h2, h3⟩
    | _ => exact ⟨ds, β, s, st, hD, h1, h2, h3⟩
  | loop x ih =>
    intro hc K s st ds β a w hD hI hS h
    obtain ⟨I, ⟨n, s', hf, h0⟩, hr⟩ := h
    refine wp_loop_n (fun n a w => ∃ ds β s st, (∀ D ∈ ds, X.w1.heap.size ≤ D) ∧ Inv (X.own ds) β st w ∧ SRel (X.own ds) N β s a ∧ I n s st) (n := n) ⟨ds, β, s', st, hD, hI, hS.fit hf, h0⟩ fun n a w => ?_
    rintro ⟨ds, β, s, st, hD, h1, h2, h3⟩
    obtain ⟨J, hJ, h3⟩ := hr n s st h3
    refine wp_mono (ih hc _ _ _ _ _ _ _ hD h1 h2 h3) fun e a w => ?_
    rintro ⟨ds, β, s, st, hD, h1, h2, h3⟩
    cases e with
    | normal =>
      obtain ⟨m, s3, hm, hf, h3⟩ := hJ s st h3
      exact ⟨m, hm, ds, β, s3, st, hD, h1, h2.fit hf, h3⟩
    | _ => exact ⟨ds, β, s, st, hD, h1, h2, h3⟩
  | scope x ih =>
    intro hc K s st ds β a w hD hI hS h
    refine wp_scope_straight (wp_mono (ih hc _ _ _ _ _ _ _ hD hI hS h) fun e a w => ?_)
    rintro ⟨ds, β, s, st, hD, h1, h2, h3⟩
    cases e with
    | goto l => exact h3.elim
    | _ => exact ⟨ds, β, s, st, hD, h1, h2, h3⟩
  | rangeFunc f ps x y _ _ =>
    intro hc K s st ds β a w hD hI hS h
    simp only [okC, Bool.and_eq_true] at hc
    exact h N ds β a w hc.1 hc.2 hm hD hI hS
  | _ => intro _ K s st ds β a w hD hI hS h; exact h.elim

/-! ### Functions -/

def resA (X : Cx) (st : St) (s : Sl) : List ResultVar → (List AV → Prop) → Prop
  | [], K => K []
  | .tmp t :: l, K => resA X st s l fun xs => K (Sl.get s t :: xs)
  | .cell c t :: l, K => match Sl.get s c with
    | .ptr r off => match st[r]? with
      | some (some cs) => loadA X.P t cs off fun y => resA X st s l fun xs => K (y :: xs)
      | _ => False
    | _ => False
def retA (xs : List AV) : AV := match xs with
  | [x] => x
  | xs => .tup xs
def bodyK (X : Cx) (rs : List ResultVar) (K : AV → St → Prop) : Post := fun e s st => match e with
  | .normal => resA X st s rs fun xs => K (retA xs) st
  | .ret => resA X st s rs fun xs => K (retA xs) st
  | _ => False
def initS : Nat → List AV → Sl
  | _, [] => []
  | n, x :: l => (n, x) :: initS (n + 1) l

def resM (a : Act) (r : ResultVar) : Sem Value := match r with
  | .tmp t => pure (a.tmps.getD t undef)
  | .cell c t => do loadVar t (← asAddr (a.tmps.getD c undef))

theorem resA_own {ds : List Nat} {st : St} {s : Sl} : ∀ (rs : List ResultVar) (K : List AV → Prop), resA (X.own ds) st s rs K = resA X st s rs K
  | [], _ => rfl
  | .tmp t :: rs, K => by
    simp only [resA]
    rw [resA_own rs]
  | .cell c t :: rs, K => by
    simp only [resA, resA_own rs]
    rfl
theorem resA_run {β : Bk} {st : St} {w : World} {s : Sl} {a : Act} (hI : Inv X β st w) (hS : ∀ k, VRel X.w0 β (a.tmps.getD k undef) (Sl.get s k)) : ∀ (rs : List ResultVar) (K : List AV → Prop), resA X st s rs K →
    ∃ vs xs, (rs.mapM (resM a)).run X.P w = .ok vs w ∧ VRels X.w0 β vs.toArray xs ∧ K xs := by
  intro rs
  induction rs with
  | nil => intro K h; exact ⟨[], [], by simp, ⟨rfl, fun j v x hv => by simp at hv⟩, h⟩
  | cons r rs ih =>
    intro K h
    have fin : ∀ v x, VRel X.w0 β v x → (resM a r).run X.P w = .ok v w → resA X st s rs (fun xs => K (x :: xs)) →
        ∃ vs xs, ((r :: rs).mapM (resM a)).run X.P w = .ok vs w ∧ VRels X.w0 β vs.toArray xs ∧ K xs := by
      intro v x hv hrun h
      obtain ⟨vs, xs, h1, h2, h3⟩ := ih _ h
      refine ⟨v :: vs, x :: xs, ?_, ?_, h3⟩
      · rw [List.mapM_cons]
        simp [hrun, h1]
      · have := VRels.append (as := #[v]) (xs := [x]) ⟨rfl, fun j u y hu hy => by
          cases j with
          | zero => simp at hu hy; subst hu hy; exact hv
          | succ j => simp at hu⟩ h2
        simpa using this
    cases r with
    | tmp t => exact fin _ _ (hS t) (by simp [resM]) h
    | cell c t =>
      simp only [resA] at h
      have hc := hS c
      cases hx : Sl.get s c with
      | ptr r off =>
        rw [hx] at h hc
        simp only at h
        obtain ⟨b, m, hb, hv⟩ := inv_ptr hc
        cases hst : st[r]? with
        | none => simp [hst] at h
        | some q =>
          cases q with
          | none => simp [hst] at h
          | some cs =>
            simp only [hst] at h
            obtain ⟨hg, hp⟩ := h
            have hR := (readable_obj hI hst hb).drop off
            obtain ⟨v, x, h1, h2, h3⟩ := run_load_readable hg hR (partA_drop hp)
            refine fin v x h2 ?_ h3
            have := h1 w (Below.refl _ _)
            rw [add_none, Nat.zero_add] at this
            simp [resM, hv, asAddr, this]
      | _ => rw [hx] at h; exact h.elim

theorem init_slot {w0 : World} {β : Bk} {vs : Array Value} {xs : List AV} (h : VRels w0 β vs xs) (m : Nat) (k : Nat) :
    VRel w0 β ((vs ++ Array.replicate m undef).getD k undef) (Sl.get (initS 0 xs) k) := by
  have gen : ∀ (xs : List AV) (n k : Nat), Sl.get (initS n xs) k = if n ≤ k then (xs[k - n]?).getD .junk else .junk := by
    intro xs
    induction xs with
    | nil => intro n k; simp [initS, get_nil]
    | cons x xs ih =>
      intro n k
      rw [initS, get_cons, ih]
      by_cases h1 : k = n
      · subst h1; simp
      · have hb : (k == n) = false := by simpa using h1
        rw [hb, cond_false]
        by_cases h2 : n ≤ k
        · have : k - n = (k - (n + 1)) + 1 := by omega
          rw [if_pos h2, if_pos (by omega), this, List.getElem?_cons_succ]
        · rw [if_neg h2, if_neg (by omega)]
  rw [gen, if_pos (Nat.zero_le _), Nat.sub_zero]
  cases hx : xs[k]? with
  | none => exact .junk _
  | some x =>
    have hk : k < xs.length := (List.getElem?_eq_some_iff.1 hx).1
    have hk' : k < vs.size := by rw [h.1]; exact hk
    have : (vs ++ Array.replicate m undef).getD k undef = vs[k] := by
      rw [Array.getD_eq_getD_getElem?, Array.getElem?_append_left hk']; simp [hk']
    rw [this]
    exact h.2 k _ x (by simp [hk']) hx

/-- What a function's text must pass. -/
def fnOK (P : Program) (f : FuncId) (n : Nat) : Bool := match P.funcs[f]? with
  | some fn => !(fn.name == "runtime.NumGoroutine") && decide (n ≤ fn.ntmps) && match fn.body with
    | some c => okC fn.ntmps c
    | none => false
  | none => false

/-- The marks shut. -/
def shut : List Nat → World → World
  | [], w => w
  | D :: ds, w => shut ds (w.putObj D (.deferred none))
theorem leaves_marks {P : Program} {fn : Func} {tmps : Array Value} {R : Ending → World → Prop} : ∀ (ds : List Nat) (w : World), ds.Nodup → (∀ D ∈ ds, w.heap[D]? = some (.deferred (some []))) → LeavesIn Fence.wide 0 P fn tmps R [] .returning (shut ds w) →
    LeavesInM Fence.wide 0 P fn tmps R (ds.map markD) .returning w
  | [], w, _, _, h => h
  | D :: ds, w, hn, hh, h => by
    have hn := List.nodup_cons.1 hn
    refine ⟨by simp, .inl ⟨D, _, rfl, run_takeDeferred (hh D (by simp)), leaves_marks ds _ hn.2 (fun E hE => ?_) h⟩⟩
    rw [World.putObj_heap_other (fun e => hn.1 (by rw [← e]; exact hE))]
    exact hh E (by simp [hE])
theorem Inv.shut1 {ds : List Nat} {D : Nat} {β : Bk} {st : St} {w : World} (h : Inv (X.own (D :: ds)) β st w) (hD : X.w1.heap.size ≤ D) : Inv (X.own ds) β st (w.putObj D (.deferred none)) := by
  have hm := h.mks D (by simp [Cx.own])
  have hoth : ∀ k, k ≠ D → (w.putObj D (.deferred none)).heap[k]? = w.heap[k]? := fun k hk => World.putObj_heap_other hk
  have hsz : (w.putObj D (.deferred none)).heap.size = w.heap.size := by simp [World.putObj]
  have hnd := h.nd
  simp only [Cx.own, List.cons_append, List.nodup_cons] at hnd
  refine ⟨h.b0, h.b1.trans ⟨rfl, rfl, rfl, by rw [hsz]; exact Nat.le_refl _, fun k hk => hoth k (by simp only [Cx.own] at hk; omega)⟩, h.len, h.stp, h.bep, h.nw, fun r b m hb => by rw [hsz]; exact h.ow r b m hb, fun r cs hr => ?_, h.inj, fun r S G hr => ?_, h.gi, fun r S G hr E hE => h.gm r S G hr E (by simp only [Cx.own] at hE ⊢; simp [hE]), fun E hE => ?_, hnd.2⟩
  · obtain ⟨bk, h1, h2⟩ := h.obj r cs hr
    refine ⟨bk, h1, ?_⟩
    cases bk with
    | none => exact h2
    | some p =>
      obtain ⟨b, m⟩ := p
      obtain ⟨c, e, h3, h4⟩ := h2
      exact ⟨c, e, by rw [hoth b (fun e => by rw [e, hm] at h3; cases h3)]; exact h3, h4⟩
  · obtain ⟨h1, h2, h3, h4, h5⟩ := h.gh r S G hr
    have h6 := h.gm r S G hr D (by simp [Cx.own])
    exact ⟨h1, h1 w _ (fun k hk => hoth k fun e => h6 (e ▸ hk)) h2, fun k hk => by rw [hsz]; exact h3 k hk, h4, h5⟩
  · simp only [Cx.own] at hE
    rw [hoth E (fun e => hnd.1 (by rw [← e]; exact hE))]
    exact h.mks E (by simp only [Cx.own, List.cons_append, List.mem_cons]; exact .inr hE)
theorem Inv.shut {β : Bk} {st : St} : ∀ (ds : List Nat) (w : World), Inv (X.own ds) β st w → (∀ D ∈ ds, X.w1.heap.size ≤ D) → Inv (X.own []) β st (Pv.shut ds w)
  | [], _, h, _ => h
  | D :: ds, w, h, hD => Inv.shut ds _ (h.shut1 (hD D (by simp))) fun E hE => hD E (by simp [hE])

/-- A contract out of a walk. -/
theorem calls_of_vc {P : Program} {f : FuncId} {fn : Func} {c : Code} {n : Nat} (hf : P.funcs[f]? = some fn) (hb : fn.body = some c) (hok : fnOK P f n = true) (hP : X.P = P) (hm : P.follows .mixedOrders = true)
    {β : Bk} {st : St} {w : World} {vs : Array Value} {xs : List AV} {K : AV → St → Prop} (hI : Inv (X.own []) β st w) (hv : VRels X.w0 β vs xs) (hn : xs.length = n) (hb0 : X.β1 = β)
    (h : vc X c (bodyK X fn.results.toList K) (initS 0 xs) st) :
    Calls P f vs w (fun e w' => ∃ v x ex st', e = .returned v ∧ Inv (X.own []) (β ++ ex) st' w' ∧ VRel X.w0 (β ++ ex) v x ∧ K x st') := by
  subst hP
  simp only [fnOK, hf, hb, Bool.and_eq_true, decide_eq_true_eq] at hok
  refine (callsIn_wide (n := 0)).1 (callsIn_of_wp_marks hf hb trivial (wpIn_wide.2 ?_))
  have hsz : vs.size = n := by rw [hv.1, hn]
  have hS : SRel (X.own []) fn.ntmps β (initS 0 xs) { tmps := vs ++ Array.replicate (fn.ntmps - vs.size) undef, defers := [] } := by
    refine ⟨?_, rfl, fun k => init_slot hv _ k⟩
    have := hok.1.2
    simp; omega
  refine wp_mono (vc_sound hm c hok.2 _ _ _ [] _ _ _ (by simp) hI hS h) fun e a w' => ?_
  rintro ⟨ds, β', s, st', hD, h1, h2, h3⟩
  have fin : resA X st' s fn.results.toList (fun xs => K (retA xs) st') → LeavesInM Fence.wide 0 X.P fn a.tmps (fun e w' => ∃ v x ex st', e = .returned v ∧ Inv (X.own []) (β ++ ex) st' w' ∧ VRel X.w0 (β ++ ex) v x ∧ K x st') a.defers .returning w' := by
    intro h3
    have h1' := h1.shut ds w' hD
    have hdf : a.defers = ds.map markD := h2.defers
    rw [hdf]
    refine leaves_marks ds w' (List.nodup_append.1 h1.nd).1 (fun D hD => h1.mks D (by simp only [Cx.own, List.mem_append]; exact .inl hD)) ?_
    obtain ⟨us, ys, q1, q2, q3⟩ := resA_run (X := X.own []) (a := a) h1' h2.slot fn.results.toList (fun xs => K (retA xs) st') (by rw [resA_own]; exact h3)
    obtain ⟨ex, hex⟩ := h1.bep
    rw [show (X.own ds).β1 = X.β1 from rfl, hb0] at hex
    refine ⟨if h : us.toArray.size = 1 then us.toArray[0] else .tuple us.toArray, ?_, _, retA ys, ex, st', rfl, hex ▸ h1', ?_, q3⟩
    · have e1 : results fn a.tmps = (do let us ← fn.results.mapM (resM a); pure (if h : us.size = 1 then us[0] else .tuple us)) := rfl
      rw [e1, Array.mapM_eq_mapM_toList, Sem.run_bind, Sem.run_map]
      rw [show (X.own []).P = X.P from rfl] at q1
      rw [q1]
      rfl
    · rw [← hex]
      by_cases h : us.toArray.size = 1
      · rw [dif_pos h]
        have hl : ys.length = 1 := by rw [← q2.1]; exact h
        match ys, hl with
        | [y], _ => exact q2.2 0 _ _ (by simp [h]) rfl
      · rw [dif_neg h]
        have hl : ys.length ≠ 1 := by rw [← q2.1]; exact h
        have : retA ys = .tup ys := by
          match ys, hl with
          | [], _ => rfl
          | _ :: _ :: _, _ => rfl
        rw [this]
        exact .tup q2.1 q2.2
  cases e with
  | normal => exact fin h3
  | ret => exact fin h3
  | _ => exact h3.elim

theorem fspec_of {P : Program} {f : FuncId} {fn : Func} {c : Code} (n : Nat) (rs : List ResultVar) {R : List AV → St → (AV → St → Prop) → Prop} (hf : P.funcs[f]? = some fn) (hb : fn.body = some c) (hrs : fn.results.toList = rs) (hok : fnOK P f n = true) (hm : P.follows .mixedOrders = true)
    (hn : ∀ xs st K, R xs st K → xs.length = n)
    (h : ∀ (X : Cx) xs st K, X.P = P → X.st1 = st → R xs st K → vc X c (bodyK X rs K) (initS 0 xs) st) : PSpec P f R := by
  subst hrs
  constructor
  · unfold fnOK at hok
    unfold enterOK
    simp only [hf, hb, Bool.and_eq_true] at hok ⊢
    exact ⟨rfl, hok.1.1⟩
  · intro w0 β st w vs xs K hI hv hR
    exact calls_of_vc (X := ⟨P, w0, w, st, β, [], []⟩) hf hb hok rfl hm hI hv (hn _ _ _ hR) rfl (h _ _ _ _ rfl rfl hR)

/-- The same, where the world in which all began is known. -/
theorem gspec_of {P : Program} {f : FuncId} {fn : Func} {c : Code} {G : World → Prop} (n : Nat) (rs : List ResultVar) {R : List AV → St → (AV → St → Prop) → Prop} (hf : P.funcs[f]? = some fn) (hb : fn.body = some c) (hrs : fn.results.toList = rs) (hok : fnOK P f n = true) (hm : P.follows .mixedOrders = true)
    (hn : ∀ xs st K, R xs st K → xs.length = n)
    (h : ∀ (X : Cx) xs st K, X.P = P → X.st1 = st → G X.w0 → R xs st K → vc X c (bodyK X rs K) (initS 0 xs) st) : ∀ w0, G w0 → PSpecAt P w0 f R := by
  subst hrs
  intro w0 hG
  constructor
  · unfold fnOK at hok
    unfold enterOK
    simp only [hf, hb, Bool.and_eq_true] at hok ⊢
    exact ⟨rfl, hok.1.1⟩
  · intro β st w vs xs K hI hv hR
    exact calls_of_vc (X := ⟨P, w0, w, st, β, [], []⟩) hf hb hok rfl hm hI hv (hn _ _ _ hR) rfl (h _ _ _ _ rfl rfl hG hR)

/-- A contract out of a walk, of a function that may write to what its caller may write to. -/
theorem wspec_of {P : Program} {f : FuncId} {fn : Func} {c : Code} (n : Nat) (rs : List ResultVar) {R : List AV → St → (AV → St → Prop) → Prop} (hf : P.funcs[f]? = some fn) (hb : fn.body = some c) (hrs : fn.results.toList = rs) (hok : fnOK P f n = true) (hm : P.follows .mixedOrders = true)
    (hn : ∀ xs st K, R xs st K → xs.length = n) {X : Cx} (hX : X.P = P)
    (h : ∀ (Y : Cx) xs st K, Y.P = P → Y.st1 = X.st1 → R xs st K → vc Y c (bodyK Y rs K) (initS 0 xs) st) : FSpec X f R := by
  subst hrs
  constructor
  · unfold fnOK at hok
    unfold enterOK
    simp only [hX, hf, hb, Bool.and_eq_true] at hok ⊢
    exact ⟨rfl, hok.1.1⟩
  · intro mk β st w vs xs K hI hv hR
    rw [hX]
    have hI' : Inv ⟨P, X.w0, X.w1, X.st1, β, mk, []⟩ β st w := ⟨hI.b0, hI.b1, hI.len, hI.stp, ⟨[], by simp⟩, hI.nw, hI.ow, hI.obj, hI.inj, hI.gh, hI.gi, hI.gm, hI.mks, hI.nd⟩
    refine (calls_of_vc (X := ⟨P, X.w0, X.w1, X.st1, β, mk, []⟩) hf hb hok rfl hm hI' hv (hn _ _ _ hR) rfl (h _ _ _ _ rfl rfl hR)).mono ?_
    rintro e w' ⟨v, x, ex, st', he, h1, h2, h3⟩
    refine ⟨v, x, ex, st', he, ⟨h1.b0, h1.b1, h1.len, h1.stp, ?_, h1.nw, h1.ow, h1.obj, h1.inj, h1.gh, h1.gi, h1.gm, h1.mks, h1.nd⟩, h2, h3⟩
    obtain ⟨y, hy⟩ := hI.bep
    exact ⟨y ++ ex, by rw [hy, List.append_assoc]⟩
end
end Go.Proofs.Pv
