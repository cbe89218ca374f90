/- The engine's seventh part: slices read whichever they are, and each operation anew. -/
import Derived.Test.YtmclabehpfpnnaaGreatDoorE6
set_option linter.unusedSimpArgs false
set_option linter.unusedVariables false
namespace Go.Proofs.Pv
open Go Go.RowKit

/-- A slice's elements' number and cells, if its elements have sz cells. -/
def sl (sz : Nat) (st : St) : AV → Option (Nat × List AV)
  | .im n cs => if cs.length = n * sz then some (n, cs) else none
  | .own r off n s => if s = sz then match st[r]? with
    | some (some cs) => if ((cs.drop off).take (n * sz)).length = n * sz then some (n, (cs.drop off).take (n * sz)) else none
    | _ => none
    else none
  | .val (.slice none 0 0) => some (0, [])
  | _ => none

/-- A part of a slice. -/
def cutA (x : AV) (l m sz : Nat) : AV :=
  match x with
  | .im _ cs => .im m ((cs.drop (l * sz)).take (m * sz))
  | .own r off _ s => .own r (off + l * sz) m s
  | x => x

section
variable {sz : Nat} {st : St} {x : AV} {n : Nat} {cs : List AV}

theorem sl_cases (h : sl sz st x = some (n, cs)) :
    (x = .im n cs ∧ cs.length = n * sz) ∨ (∃ r off c, x = .own r off n sz ∧ st[r]? = some (some c) ∧ (c.drop off).take (n * sz) = cs ∧ cs.length = n * sz) ∨ (x = .val (.slice none 0 0) ∧ n = 0 ∧ cs = []) := by
  unfold sl at h
  split at h
  · split at h
    · rename_i hl; cases h; exact .inl ⟨rfl, hl⟩
    · cases h
  · split at h
    · rename_i hs
      subst hs
      split at h
      · rename_i c hc
        split at h
        · rename_i hl; cases h; exact .inr (.inl ⟨_, _, _, rfl, hc, rfl, hl⟩)
        · cases h
      · cases h
    · cases h
  · cases h; exact .inr (.inr ⟨rfl, rfl, rfl⟩)
  · cases h

theorem sl_slc (h : sl sz st x = some (n, cs)) : slc st x = some (n, cs) ∧ cs.length = n * sz := by
  rcases sl_cases h with ⟨rfl, hl⟩ | ⟨r, off, c, rfl, hc, hd, hl⟩ | ⟨rfl, rfl, rfl⟩
  · exact ⟨rfl, hl⟩
  · exact ⟨by simp [slc, hc, hd], hl⟩
  · exact ⟨rfl, by simp⟩

theorem sl_leaf (h : sl sz st x = some (n, cs)) : leaf x = true := by
  rcases sl_cases h with ⟨rfl, hl⟩ | ⟨r, off, c, rfl, hc, hd, hl⟩ | ⟨rfl, rfl, rfl⟩ <;> rfl

theorem sl_grow {p : Nat × List AV} (h : sl sz st x = some p) (y : St) : sl sz (st ++ y) x = some p := by
  obtain ⟨n, cs⟩ := p
  rcases sl_cases h with ⟨rfl, hl⟩ | ⟨r, off, c, rfl, hc, hd, hl⟩ | ⟨rfl, rfl, rfl⟩
  · exact h
  · have : (st ++ y)[r]? = some (some c) := by rw [List.getElem?_append_left (List.getElem?_eq_some_iff.1 hc).1]; exact hc
    unfold sl at h ⊢
    simp only [hc, this] at h ⊢
    exact h
  · rfl

theorem sl_cut (h : sl sz st x = some (n, cs)) {l m : Nat} (hm : l + m ≤ n) : sl sz st (cutA x l m sz) = some (m, (cs.drop (l * sz)).take (m * sz)) := by
  have hb : l * sz + m * sz ≤ n * sz := by rw [← Nat.add_mul]; exact Nat.mul_le_mul_right _ hm
  rcases sl_cases h with ⟨rfl, hl⟩ | ⟨r, off, c, rfl, hc, hd, hl⟩ | ⟨rfl, rfl, rfl⟩
  · have : ((cs.drop (l * sz)).take (m * sz)).length = m * sz := by simp; omega
    rw [cutA, sl, if_pos this]
  · have e : (c.drop (off + l * sz)).take (m * sz) = (cs.drop (l * sz)).take (m * sz) := by
      subst hd
      rw [List.drop_take, List.take_take, List.drop_drop]
      congr 1
      omega
    have : ((cs.drop (l * sz)).take (m * sz)).length = m * sz := by simp; omega
    simp only [cutA, sl, if_true, hc]
    rw [e, if_pos this]
  · have : l = 0 ∧ m = 0 := by omega
    obtain ⟨rfl, rfl⟩ := this
    simp [cutA, sl]
end

/-- What an operation asks and hands on, slices read whichever they are. -/
def vcE2 (X : Cx) (o : AOp) (st : St) (K : AV → St → Prop) : Prop :=
  match o with
  | .load t x => match x with
    | .el y sz o => match sl sz st y with
      | some (_, cs) => o < cs.length ∧ loadA X.P t cs o fun v => K v st
      | none => False
    | x => vcE X (.load t x) st K
  | .store t x v => match x with
    | .el (.own r off _ _) _ o => vcE X (.store t (.ptr r (off + o)) v) st K
    | x => vcE X (.store t x v) st K
  | .fAddr t x i => match x with
    | .el y sz o => match sl sz st y with
      | some (_, cs) => o < cs.length ∧ match ti X.P t with
        | .struct fs _ _ => match fs[i]? with
          | some (p, s, _) => 0 < s ∧ K (.el y sz (o + p)) st
          | none => False
        | _ => False
      | none => False
    | x => vcE X (.fAddr t x i) st K
  | .nilCk x => match x with
    | .el y sz o => match sl sz st y with
      | some (_, cs) => o < cs.length ∧ K (.el y sz o) st
      | none => False
    | x => vcE X (.nilCk x) st K
  | .iAddr t x i => match ti X.P t with
    | .slice _ sz _ _ _ => match i with
      | .val (.int _ j) => match sl sz st x with
        | some (n, _) => 0 ≤ j ∧ j < n ∧ K (.el x sz (j.toNat * sz)) st
        | none => False
      | _ => False
    | _ => vcE X (.iAddr t x i) st K
  | .slice t x lo hi mx => match ti X.P t with
    | .slice _ sz _ _ _ => match mx with
      | none => match sl sz st x with
        | some (n, _) => sliceB lo hi n fun l h => K (cutA x l (h - l) sz) st
        | none => False
      | some _ => False
    | _ => vcE X (.slice t x lo hi mx) st K
  | .blt b ts xs => match b, ts, xs with
    | .len, [t], [x] => match ti X.P t with
      | .slice _ sz _ _ _ => match sl sz st x with
        | some (n, _) => n ≤ 9223372036854775807 → K (.val (.int .i64 (n : Int))) st
        | none => False
      | _ => vcE X (.blt .len [t] [x]) st K
    | b, ts, xs => vcE X (.blt b ts xs) st K
  | o => vcE X o st K

section
variable {X : Cx} {N : Nat} {β : Bk} {st : St} {w : World} {s : Sl} {a : Act} {o : Oper} {K : AV → St → Prop}

theorem el_tmp {y : Operand} {x : AV} {sz i : Nat} (h : ev s y = .el x sz i) : ∃ k, y = .tmp k := by
  cases y <;> first | exact ⟨_, rfl⟩ | cases h

/-- A slot that holds a place in a slice holds that place. -/
theorem SRel.unel (hS : SRel X N β s a) {k : Nat} {x : AV} {sz i : Nat} (h : Sl.get s k = .el x sz i) : SRel X N β ((k, elemP x i) :: s) a := by
  refine ⟨hS.size, hS.defers, fun j => ?_⟩
  rw [get_cons]
  by_cases hj : j = k
  · subst hj
    have := hS.slot j
    rw [h] at this
    simp only [BEq.rfl, cond_true]
    generalize a.tmps.getD j undef = v at this ⊢
    cases this with
    | el h' => exact h'
  · have hb : (j == k) = false := by simpa using hj
    rw [hb]; exact hS.slot j

theorem sl_elem {sz : Nat} {y : AV} {n : Nat} {cs : List AV} {i : Nat} (h : sl sz st y = some (n, cs)) (hi : i < cs.length) :
    elemP y i = .imp (cs.drop i) ∨ ∃ r off c, elemP y i = .ptr r (off + i) ∧ st[r]? = some (some c) ∧ cs = (c.drop off).take (n * sz) := by
  rcases sl_cases h with ⟨rfl, hl⟩ | ⟨r, off, c, rfl, hc, hd, hl⟩ | ⟨rfl, rfl, rfl⟩
  · exact .inl rfl
  · exact .inr ⟨r, off, c, rfl, hc, hd.symm⟩
  · simp at hi

theorem partA_take {c : List AV} {off m i sz : Nat} {ag : Bool} {F : AV → Prop} (hi : i < ((c.drop off).take m).length) (h : partA ((c.drop off).take m) i sz ag F) : partA c (off + i) sz ag F := by
  unfold partA at *
  split
  · rename_i hg
    rw [if_pos hg] at h
    obtain ⟨h1, h2⟩ := h
    simp at h1 hi
    refine ⟨by omega, ?_⟩
    rw [List.drop_take, List.take_take, List.drop_drop, Nat.min_eq_left (by omega)] at h2
    exact h2
  · rename_i hg
    rw [if_neg hg] at h
    by_cases hi : i < m
    · rw [List.getElem?_take_of_lt hi, List.getElem?_drop] at h
      exact h
    · rw [List.getElem?_take_eq_none (by omega)] at h
      exact h.elim

/-- A load through a place in a slice, as one through that place. -/
theorem load_el {t : TypeId} {y : AV} {sz i : Nat} (h : vcE2 X (.load t (.el y sz i)) st K) : vcE X (.load t (elemP y i)) st K := by
  unfold vcE2 at h
  simp only at h
  cases hs : sl sz st y with
  | none => rw [hs] at h; exact h.elim
  | some p =>
    obtain ⟨n, cs⟩ := p
    rw [hs] at h
    obtain ⟨hi, hg, h⟩ := h
    rcases sl_elem hs hi with e | ⟨r, off, c, e, hc, hcs⟩
    · rw [e]; exact ⟨hg, partA_drop h⟩
    · rw [e]
      simp only [vcE, hc]
      subst hcs
      exact ⟨hg, partA_take hi h⟩

theorem y2_load {t : TypeId} {y : Operand} (hop : o.op = .load t y) (hI : Inv X β st w) (hS : SRel X N β s a) (h : vcE2 X (.load t (ev s y)) st K) : Yld X β w a o st K := by
  cases hx : ev s y with
  | el x sz i =>
    rw [hx] at h
    obtain ⟨k, rfl⟩ := el_tmp hx
    have h2 := load_el h
    refine y_load (s := (k, elemP x i) :: s) hop hI (hS.unel hx) ?_
    rw [ev_tmp, get_cons]
    simpa using h2
  | _ => rw [hx] at h; exact y_load hop hI hS (by rw [hx]; exact h)

theorem y2_fAddr {t : TypeId} {y : Operand} {i : Nat} (hop : o.op = .fieldAddr t y i) (hS : SRel X N β s a) (h : vcE2 X (.fAddr t (ev s y) i) st K) : Yld X β w a o st K := by
  cases hx : ev s y with
  | el x sz j =>
    rw [hx] at h
    obtain ⟨k, rfl⟩ := el_tmp hx
    unfold vcE2 at h
    simp only at h
    cases hs : sl sz st x with
    | none => rw [hs] at h; exact h.elim
    | some p =>
      obtain ⟨n, cs⟩ := p
      rw [hs] at h
      obtain ⟨hj, h⟩ := h
      cases ht : ti X.P t with
      | struct fs z1 z2 =>
        simp only [ht] at h
        cases hf : fs[i]? with
        | none => simp [hf] at h
        | some q =>
          obtain ⟨p, s', g⟩ := q
          simp only [hf] at h
          have key : vcE X (.fAddr t (elemP x j) i) st fun v st' => v = elemP x (j + p) ∧ st' = st := by
            rcases sl_elem hs hj with e | ⟨r, off, c, e, hc, hcs⟩
            · rw [e]
              simp only [vcE, ht, hf]
              refine ⟨h.1, ?_, trivial⟩
              rcases sl_cases hs with ⟨rfl, hl⟩ | ⟨r, off, c, rfl, hc, hd, hl⟩ | ⟨rfl, rfl, rfl⟩
              · simp [elemP]
              · simp [elemP] at e
              · simp at hj
            · rw [e]
              simp only [vcE, ht, hf]
              refine ⟨h.1, ?_, trivial⟩
              rcases sl_cases hs with ⟨rfl, hl⟩ | ⟨r', off', c', rfl, hc', hd, hl⟩ | ⟨rfl, rfl, rfl⟩
              · simp [elemP] at e
              · simp [elemP] at e ⊢; omega
              · simp at hj
          have := y_fAddr (w := w) (s := (k, elemP x j) :: s) (K := fun v st' => v = elemP x (j + p) ∧ st' = st) hop (hS.unel hx) (by rw [ev_tmp, get_cons]; simpa using key)
          obtain ⟨v, x', h1, h2, h3, _⟩ := this
          subst h3
          exact ⟨v, _, h1, .el h2, h.2⟩
      | _ => simp [ht] at h
  | _ => rw [hx] at h; exact y_fAddr hop hS (by rw [hx]; exact h)

theorem y2_nilCk {y : Operand} (hop : o.op = .nilCheck y) (hS : SRel X N β s a) (h : vcE2 X (.nilCk (ev s y)) st K) : Yld X β w a o st K := by
  cases hx : ev s y with
  | el x sz j =>
    rw [hx] at h
    obtain ⟨k, rfl⟩ := el_tmp hx
    unfold vcE2 at h
    simp only at h
    cases hs : sl sz st x with
    | none => rw [hs] at h; exact h.elim
    | some p =>
      obtain ⟨n, cs⟩ := p
      rw [hs] at h
      obtain ⟨hj, h⟩ := h
      have := y_nilCk (w := w) (st := st) (s := (k, elemP x j) :: s) (K := fun v st' => v = elemP x j ∧ st' = st) hop (hS.unel hx) (by
        rw [ev_tmp, get_cons]
        rcases sl_elem hs hj with e | ⟨r, off, c, e, hc, hcs⟩ <;> simp [vcE, e])
      obtain ⟨v, x', h1, h2, h3, _⟩ := this
      subst h3
      exact ⟨v, _, h1, .el h2, h⟩
  | _ => rw [hx] at h; exact y_nilCk hop hS (by rw [hx]; exact h)

theorem y2_iAddr {t : TypeId} {y i : Operand} (hop : o.op = .indexAddr t y i) (hS : SRel X N β s a) (h : vcE2 X (.iAddr t (ev s y) (ev s i)) st K) : Yld X β w a o st K := by
  cases ht : ti X.P t with
  | slice e sz b z1 z2 =>
    unfold vcE2 at h
    simp only [ht] at h
    cases hi : ev s i with
    | val v =>
      rw [hi] at h
      cases v with
      | int k j =>
        simp only at h
        cases hs : sl sz st (ev s y) with
        | none => rw [hs] at h; exact h.elim
        | some p =>
          obtain ⟨n, cs⟩ := p
          rw [hs] at h
          obtain ⟨h1, h2, h3⟩ := h
          obtain ⟨e', _⟩ := ti_slice ht
          have hsz : 0 < sz := by obtain ⟨_, j, y, _, _, _, _, _, _, h⟩ := ti_slice ht; exact h
          have := y_iAddr (w := w) (st := st) (K := fun v st' => v = elemP (ev s y) (j.toNat * sz) ∧ st' = st) hop hS (by
            rw [hi]
            rcases sl_cases hs with ⟨hx, hl⟩ | ⟨r, off, c, hx, hc, hd, hl⟩ | ⟨hx, rfl, rfl⟩
            · rw [hx]
              simp only [vcE, ht]
              refine ⟨h1, h2, ?_, by simp [elemP], trivial⟩
              rw [hl]
              exact Nat.mul_lt_mul_of_pos_right (by omega) hsz
            · rw [hx]
              simp only [vcE, ht]
              exact ⟨trivial, h1, h2, by simp [elemP], trivial⟩
            · omega)
          obtain ⟨v, x', q1, q2, q3, _⟩ := this
          subst q3
          exact ⟨v, _, q1, .el q2, h3⟩
      | _ => exact h.elim
    | _ => rw [hi] at h; exact h.elim
  | _ => unfold vcE2 at h; simp only [ht] at h; exact y_iAddr hop hS h

theorem y2_slice {t : TypeId} {y : Operand} {lo hi mx : Option Operand} (hop : o.op = .slice t y lo hi mx) (hS : SRel X N β s a)
    (h : vcE2 X (.slice t (ev s y) (lo.map (ev s)) (hi.map (ev s)) (mx.map (ev s))) st K) : Yld X β w a o st K := by
  refine y_slice hop hS ?_
  cases ht : ti X.P t with
  | slice e sz b z1 z2 =>
    unfold vcE2 at h
    simp only [ht] at h
    cases mx with
    | some q => exact h.elim
    | none =>
      simp only [Option.map_none] at h ⊢
      cases hs : sl sz st (ev s y) with
      | none => rw [hs] at h; exact h.elim
      | some p =>
        obtain ⟨n, cs⟩ := p
        rw [hs] at h
        simp only at h
        rcases sl_cases hs with ⟨hx, hl⟩ | ⟨r, off, c, hx, hc, hd, hl⟩ | ⟨hx, rfl, rfl⟩
        · rw [hx] at h ⊢
          simp only [vcE, ht]
          exact h
        · rw [hx] at h ⊢
          simp only [vcE, ht]
          exact ⟨trivial, h⟩
        · rw [hx] at h ⊢
          simp only [vcE, ht]
          exact h
  | _ => unfold vcE2 at h; simp only [ht] at h; exact h

theorem y2_len {xs : Array Operand} {ts : Array TypeId} (hop : o.op = .call ⟨.builtin .len, xs, ts⟩) (hS : SRel X N β s a)
    (h : vcE2 X (.blt .len ts.toList (xs.toList.map (ev s))) st K) : Yld X β w a o st K := by
  refine y_blt hop (.inl rfl) hS ?_
  generalize ts.toList = l at h ⊢
  generalize xs.toList.map (ev s) = m at h ⊢
  match l, m with
  | [t], [x] =>
    unfold vcE2 at h
    cases ht : ti X.P t with
    | slice e sz b z1 z2 =>
      simp only [ht] at h
      cases hs : sl sz st x with
      | none => rw [hs] at h; exact h.elim
      | some p =>
        obtain ⟨n, cs⟩ := p
        rw [hs] at h
        simp only at h
        rcases sl_cases hs with ⟨rfl, hl⟩ | ⟨r, off, c, rfl, hc, hd, hl⟩ | ⟨rfl, rfl, rfl⟩
        · simp only [vcE, ht]; exact h
        · simp only [vcE, ht]; exact h
        · simp only [vcE, ht]; exact h (by omega)
    | _ => simp only [ht] at h; exact h
  | [], _ => exact h
  | _ :: _ :: _, _ => exact h
  | [_], [] => exact h
  | [_], _ :: _ :: _ => exact h

end
end Go.Proofs.Pv

/- The engine's eighth part: each operation anew, sound; the operations that may be drawn in any order. -/
namespace Go.Proofs.Pv
open Go Go.RowKit

/-- As vcE2; d: calls only of functions that change nothing that was there. -/
def vcE3 (d : Bool) (X : Cx) (o : AOp) (st : St) (K : AV → St → Prop) : Prop :=
  match o with
  | .call f xs => match f with
    | .fn (.func g) fs cs => ∃ R, (if d = true then PSpecAt X.P X.w0 g R else FSpec X g R) ∧ R (fs ++ xs ++ cs) st K
    | _ => False
  | o => vcE2 X o st K

/-- Operations that leave what was there as it was (a call: of such a function). -/
def softO : Op → Bool
  | .store _ _ _ => false
  | .call ⟨.builtin .append, _, _⟩ => false
  | .call ⟨.builtin .copy, _, _⟩ => false
  | _ => true

def pureO : Op → Bool
  | .move _ | .assign _ | .pick _ _ _ | .build _ _ | .load _ _ | .nilCheck _ | .binOp _ _ _ _ _ | .unOp _ _ _ | .makeFunc _ _ _ | .slice _ _ _ _ _ | .fieldAddr _ _ _ | .field _ _ _ | .indexAddr _ _ _ | .index _ _ _ | .extract _ _ => true
  | .convert _ _ _ => true
  | .call ⟨.builtin .len, _, _⟩ | .call ⟨.builtin .max, _, _⟩ | .call ⟨.builtin .min, _, _⟩ => true
  | _ => false

section
variable {X : Cx} {N : Nat} {β : Bk} {st : St} {w : World} {s : Sl} {a : Act} {o : Oper} {K : AV → St → Prop} {d : Bool}

theorem pure2_sound (hI : Inv X β st w) (hS : SRel X N β s a) (hp : pureA (aop s o.op) = true) (h : vcE2 X (aop s o.op) st K) : Yld X β w a o st K := by
  have go : vcE X (aop s o.op) st K → Yld X β w a o st K := fun h => pure_sound hI hS hp h
  cases hop : o.op with
  | load t y => rw [hop] at h; exact y2_load hop hI hS h
  | fieldAddr t y i => rw [hop] at h; exact y2_fAddr hop hS h
  | nilCheck y => rw [hop] at h; exact y2_nilCk hop hS h
  | indexAddr t y i => rw [hop] at h; exact y2_iAddr hop hS h
  | slice t y lo hi mx => rw [hop] at h; exact y2_slice hop hS h
  | call c =>
    obtain ⟨cal, xs, ts⟩ := c
    rw [hop] at h hp go
    cases cal with
    | builtin b => cases b <;> first | exact y2_len hop hS h | exact go h
    | value f => cases hp
    | invoke r m => cases hp
  | _ => rw [hop] at h hp go; first | exact go h | cases hp

theorem op2_sound (hI : Inv X β st w) (hS : SRel X N β s a) (h : vcE2 X (aop s o.op) st K) {next : Act → World → Prop} {Q : Exit → Act → World → Prop}
    (hn : ∀ v x ex st' w', Inv X (β ++ ex) st' w' → VRel X.w0 (β ++ ex) v x → K x st' → next (a.put o.dst v) w') : o.wp X.P a w next Q := by
  by_cases hp : pureA (aop s o.op) = true
  · obtain ⟨v, x, h1, h2, h3⟩ := pure2_sound hI hS hp h
    unfold Oper.wp
    rw [h1 w (Below.refl _ _), Oper.upon_value]
    exact hn v x [] st w (by rw [List.append_nil]; exact hI) (by rw [List.append_nil]; exact h2) h3
  · have go : vcE X (aop s o.op) st K → o.wp X.P a w next Q := fun h => op_sound hI hS h hn
    cases hop : o.op with
    | store t x y =>
      rw [hop] at h
      cases hx : ev s x with
      | el z sz i =>
        simp only [aop, hx] at h
        cases z with
        | own r off n s' =>
          obtain ⟨k, rfl⟩ := el_tmp hx
          have h2 : vcE X (.store t (.ptr r (off + i)) (ev s y)) st K := h
          have hS' := hS.unel hx
          refine op_sound (s := (k, elemP (.own r off n s') i) :: s) hI hS' ?_ hn
          rw [hop]
          have e1 : ev ((k, elemP (.own r off n s') i) :: s) (.tmp k) = .ptr r (off + i) := by simp [ev_tmp, get_cons, elemP]
          cases y with
          | tmp j =>
            by_cases hj : j = k
            · subst hj
              rw [hx] at h2
              obtain ⟨_, h3⟩ := h2
              cases hst : st[r]? with
              | none => simp [hst] at h3
              | some c =>
                cases c with
                | none => simp [hst] at h3
                | some cs => simp [hst, okCells, leaf] at h3
            · have e2 : ev ((k, elemP (.own r off n s') i) :: s) (.tmp j) = ev s (.tmp j) := by
                have hb : (j == k) = false := by simpa using hj
                rw [ev_tmp, get_cons, hb]; rfl
              simp only [aop, e1, e2]
              exact h2
          | _ => simp only [aop, e1]; exact h2
        | _ => exact (show False from h).elim
      | _ => rw [hop] at go; refine go ?_; simp only [aop, hx] at h ⊢; exact h
    | call c =>
      obtain ⟨cal, xs, ts⟩ := c
      rw [hop] at h hp go
      cases cal with
      | builtin b => cases b <;> first | exact absurd rfl hp | exact go h
      | value f => exact go h
      | invoke r m => exact go h
    | _ => rw [hop] at h hp go; first | exact go h | exact absurd rfl hp

theorem op3_sound (hI : Inv X β st w) (hS : SRel X N β s a) (h : vcE3 d X (aop s o.op) st K) {next : Act → World → Prop} {Q : Exit → Act → World → Prop}
    (hn : ∀ v x ex st' w', Inv X (β ++ ex) st' w' → VRel X.w0 (β ++ ex) v x → K x st' → next (a.put o.dst v) w') : o.wp X.P a w next Q := by
  refine op2_sound hI hS ?_ hn
  cases ho : aop s o.op with
  | call f xs =>
    rw [ho] at h
    cases f with
    | fn g fs cs =>
      cases g with
      | func g =>
        obtain ⟨R, hR, h⟩ := h
        refine ⟨R, ?_, h⟩
        cases d
        · exact hR
        · exact PSpecAt.to_f hR
      | _ => exact h
    | _ => exact h
  | _ => rw [ho] at h; exact h

/-- The context at a world in the middle. -/
def Cx.here (X : Cx) (w : World) (st : St) (β : Bk) : Cx := ⟨X.P, X.w0, w, st, β⟩

theorem blt_here {b : Builtin} (hb : b = .len ∨ b = .max ∨ b = .min) {ts : List TypeId} {xs : List AV} (h : vcE2 X (.blt b ts xs) st K) : vcE2 (X.here w st β) (.blt b ts xs) st K := by
  rcases hb with rfl | rfl | rfl
  · match ts, xs with
    | [t], [x] => exact h
    | [], _ => exact h
    | _ :: _ :: _, _ => exact h
    | [_], [] => exact h
    | [_], _ :: _ :: _ => exact h
  · simp only [vcE2, vcE] at h ⊢
    split at h
    all_goals first | exact h.elim | (rename_i heq; cases heq) | skip
    all_goals first | exact h | exact h.elim | (rename_i heq _ _; cases heq)
  · simp only [vcE2, vcE] at h ⊢
    split at h
    all_goals first | exact h.elim | (rename_i heq; cases heq) | skip
    all_goals first | exact h | exact h.elim | (rename_i heq _ _; cases heq)

/-- Operations that leave what was there as it was: behind them the world has grown alone. -/
theorem soft_sound' (hI : Inv X β st w) (hS : SRel X N β s a) (hs : softO o.op = true) (h : vcE3 true X (aop s o.op) st K) {next : Act → World → Prop} {Q : Exit → Act → World → Prop}
    (hn : ∀ v x ex st' w', Inv (X.here w st β) (β ++ ex) st' w' → Inv X (β ++ ex) st' w' → VRel X.w0 (β ++ ex) v x → K x st' → next (a.put o.dst v) w') : o.wp X.P a w next Q := by
  refine op3_sound (X := X.here w st β) (N := N) (d := true) hI.here ⟨hS.size, hS.defers, hS.slot⟩ (K := K) ?_ fun v x ex st' w' h1 h2 h3 => hn v x ex st' w' h1 (hI.back h1) h2 h3
  cases hop : o.op with
  | store t x y => rw [hop] at hs; cases hs
  | call c =>
    obtain ⟨cal, xs, ts⟩ := c
    rw [hop] at h hs
    cases cal with
    | builtin b => cases b <;> first | exact h | exact blt_here (.inl rfl) h | exact blt_here (.inr (.inl rfl)) h | exact blt_here (.inr (.inr rfl)) h | exact absurd hs (by simp [softO])
    | value f => exact h
    | invoke r m => exact h
  | _ => rw [hop] at h; exact h

theorem soft_sound (hI : Inv X β st w) (hS : SRel X N β s a) (hs : softO o.op = true) (h : vcE3 true X (aop s o.op) st K) {next : Act → World → Prop} {Q : Exit → Act → World → Prop}
    (hn : ∀ v x ex st' w', Below w.heap.size w w' → Inv X (β ++ ex) st' w' → VRel X.w0 (β ++ ex) v x → K x st' → next (a.put o.dst v) w') : o.wp X.P a w next Q :=
  soft_sound' hI hS hs h fun v x ex st' w' h1 h2 h3 h4 => hn v x ex st' w' h1.b1 h2 h3 h4

theorem pureO_aop {op : Op} (h : pureO op = true) : pureA (aop s op) = true := by
  cases op with
  | call c =>
    obtain ⟨cal, xs, ts⟩ := c
    cases cal with
    | builtin b => cases b <;> first | rfl | cases h
    | _ => cases h
  | _ => first | rfl | cases h

theorem pure3_of {op : Op} (hp : pureO op = true) (h : vcE3 d X (aop s op) st K) : vcE2 X (aop s op) st K := by
  cases op with
  | call c =>
    obtain ⟨cal, xs, ts⟩ := c
    cases cal with
    | builtin b => exact h
    | _ => cases hp
  | _ => exact h
end
end Go.Proofs.Pv
