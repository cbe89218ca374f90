/- The engine's first part: abstract values and stores, what they say of a machine's values and world. -/
import Derived.Below
import Derived.OrdersHeld
import Derived.Laws.CopyRow
import Derived.Laws.Cells
import Derived.Laws.AppendOwn
import Derived.Laws.MakeOwn
set_option linter.unusedSimpArgs false
set_option linter.unusedVariables false
namespace Go.Proofs.Pv
open Go Go.RowKit

/-- Abstract values: a plain one; a slice that came in (its cells); a place in what came in; a slice of the run's own object r; a place in it; structs; tuples; functions; the o-th cell of a slice (whichever); anything. -/
inductive AV where
  | val (v : Value)
  | im (n : Nat) (cs : List AV)
  | imp (cs : List AV)
  | own (r off n sz : Nat)
  | ptr (r off : Nat)
  | agg (cs : List AV)
  | tup (vs : List AV)
  | fn (f : Fn) (first captured : List AV)
  | el (x : AV) (sz o : Nat)
  | junk

/-- The run's own objects: their cells; none: gone. -/
abbrev St := List (Option (List AV))
/-- Where they lie: block and its cells' number; none: nowhere yet (an empty slice). -/
abbrev Bk := List (Option (Nat × Nat))
/-- The slots: the newest first. -/
abbrev Sl := List (Nat × AV)

def undefA : AV := .val undef

def Sl.get : Sl → Nat → AV
  | [], _ => .junk
  | (k, x) :: l, n => bif n == k then x else Sl.get l n
theorem get_cons (k n : Nat) (x : AV) (l : Sl) : Sl.get ((k, x) :: l) n = bif n == k then x else Sl.get l n := rfl
theorem get_nil (n : Nat) : Sl.get [] n = .junk := rfl

/-- What an operand is. -/
def ev (s : Sl) : Operand → AV
  | .tmp t => Sl.get s t
  | .const v => .val v
  | .global g => .val (.pointer (some ⟨g, 0, none⟩))
  | .func f => .fn (.func f) [] []
theorem ev_tmp (s : Sl) (t : Nat) : ev s (.tmp t) = Sl.get s t := rfl
theorem ev_const (s : Sl) (v : Value) : ev s (.const v) = .val v := rfl
theorem ev_func (s : Sl) (f : FuncId) : ev s (.func f) = .fn (.func f) [] [] := rfl
theorem ev_global (s : Sl) (g : Nat) : ev s (.global g) = .val (.pointer (some ⟨g, 0, none⟩)) := rfl

/-- The place of a slice's o-th cell. -/
def elemP : AV → Nat → AV
  | .im _ cs, o => .imp (cs.drop o)
  | .own r off _ _, o => .ptr r (off + o)
  | _, _ => .junk

/-- A machine's value is one that the abstract value speaks of. -/
inductive VRel (w0 : World) (β : Bk) : Value → AV → Prop
  | val (v : Value) : VRel w0 β v (.val v)
  | junk (v : Value) : VRel w0 β v .junk
  | im {A : Option Addr} {n c : Nat} {cs : List AV} (u : Nat → Value) (hn : n ≤ 9223372036854775807) (hc : n ≤ c)
      (hr : ∀ j, j < cs.length → ∃ ad, A = some ad ∧ w0.cell? (ad.add j) = some (u j)) (hv : ∀ j x, cs[j]? = some x → VRel w0 β (u j) x) : VRel w0 β (.slice A n c) (.im n cs)
  | imp {ad : Addr} {cs : List AV} (u : Nat → Value) (hr : ∀ j, j < cs.length → w0.cell? (ad.add j) = some (u j)) (hv : ∀ j x, cs[j]? = some x → VRel w0 β (u j) x) : VRel w0 β (.pointer (some ad)) (.imp cs)
  | own {r off n sz b m o c : Nat} (hb : β[r]? = some (some (b, m))) (hn : n ≤ 9223372036854775807) (hc : n ≤ c) (ho : 0 < c → o = off ∧ off + c * sz ≤ m) : VRel w0 β (.slice (some ⟨b, o, none⟩) n c) (.own r off n sz)
  | nil {r sz : Nat} (hb : β[r]? = some none) : VRel w0 β (.slice none 0 0) (.own r 0 0 sz)
  | ptr {r off b m : Nat} (hb : β[r]? = some (some (b, m))) : VRel w0 β (.pointer (some ⟨b, off, none⟩)) (.ptr r off)
  | agg {vs : Array Value} {cs : List AV} (hs : vs.size = cs.length) (hv : ∀ (j : Nat) v x, vs[j]? = some v → cs[j]? = some x → VRel w0 β v x) : VRel w0 β (.agg vs) (.agg cs)
  | tup {vs : Array Value} {cs : List AV} (hs : vs.size = cs.length) (hv : ∀ (j : Nat) v x, vs[j]? = some v → cs[j]? = some x → VRel w0 β v x) : VRel w0 β (.tuple vs) (.tup cs)
  | fn {f : Fn} {as bs : Array Value} {xs ys : List AV} (ha : as.size = xs.length) (hav : ∀ (j : Nat) v x, as[j]? = some v → xs[j]? = some x → VRel w0 β v x)
      (hb : bs.size = ys.length) (hbv : ∀ (j : Nat) v x, bs[j]? = some v → ys[j]? = some x → VRel w0 β v x) : VRel w0 β (.func f as bs) (.fn f xs ys)
  | el {v : Value} {x : AV} {sz o : Nat} (h : VRel w0 β v (elemP x o)) : VRel w0 β v (.el x sz o)


/-- More objects: what was said still holds. -/
theorem VRel.ext {w0 : World} {β : Bk} {v : Value} {x : AV} (h : VRel w0 β v x) (ex : Bk) : VRel w0 (β ++ ex) v x := by
  have hb' : ∀ {r : Nat} {y : Option (Nat × Nat)}, β[r]? = some y → (β ++ ex)[r]? = some y := fun {r y} h => by
    rw [List.getElem?_append_left (List.getElem?_eq_some_iff.1 h).1]; exact h
  induction h with
  | val v => exact .val v
  | junk v => exact .junk v
  | im u hn hc hr hv ih => exact .im u hn hc hr ih
  | imp u hr hv ih => exact .imp u hr ih
  | own hb hn hc ho => exact .own (hb' hb) hn hc ho
  | nil hb => exact .nil (hb' hb)
  | ptr hb => exact .ptr (hb' hb)
  | agg hs hv ih => exact .agg hs ih
  | tup hs hv ih => exact .tup hs ih
  | fn ha hav hb hbv ih1 ih2 => exact .fn ha ih1 hb ih2
  | el h ih => exact .el ih

/-- What a run is about: the program, the world in which it began, the world, the store and the blocks in which this call began. -/
structure Cx where
  P : Program
  w0 : World
  w1 : World
  st1 : St
  β1 : Bk

/-- An object's block holds its cells. -/
def ObjRel (w0 : World) (β : Bk) (w : World) (bk : Option (Nat × Nat)) (cs : List AV) : Prop :=
  match bk with
  | none => cs = []
  | some (b, m) => ∃ (c : Array Value) (e : TypeId), w.heap[b]? = some (.cells c e (0, 0)) ∧ c.size = m ∧ cs.length ≤ m ∧ ∀ (j : Nat) x, cs[j]? = some x → ∃ u, c[j]? = some u ∧ VRel w0 β u x

structure Inv (X : Cx) (β : Bk) (st : St) (w : World) : Prop where
  b0 : Below X.w0.heap.size X.w0 X.w1
  b1 : Below X.w1.heap.size X.w1 w
  len : β.length = st.length
  stp : ∃ y, st = X.st1 ++ y
  bep : ∃ y, β = X.β1 ++ y
  nw : ∀ (r : Nat) b m, X.st1.length ≤ r → β[r]? = some (some (b, m)) → X.w1.heap.size ≤ b
  ow : ∀ (r : Nat) b m, β[r]? = some (some (b, m)) → X.w0.heap.size ≤ b ∧ b < w.heap.size
  obj : ∀ (r : Nat) cs, st[r]? = some (some cs) → ∃ bk, β[r]? = some bk ∧ ObjRel X.w0 β w bk cs
  inj : ∀ (r r' : Nat) cs cs' b m m', st[r]? = some (some cs) → st[r']? = some (some cs') → β[r]? = some (some (b, m)) → β[r']? = some (some (b, m')) → r = r'

/-- The slots of a frame. -/
structure SRel (X : Cx) (N : Nat) (β : Bk) (s : Sl) (a : Act) : Prop where
  size : a.tmps.size = N
  defers : a.defers = []
  slot : ∀ k, VRel X.w0 β (a.tmps.getD k undef) (Sl.get s k)

theorem SRel.ext {X : Cx} {N : Nat} {β : Bk} {s : Sl} {a : Act} (h : SRel X N β s a) (ex : Bk) : SRel X N (β ++ ex) s a := ⟨h.size, h.defers, fun k => (h.slot k).ext ex⟩

theorem SRel.eval {X : Cx} {N : Nat} {β : Bk} {s : Sl} {a : Act} (h : SRel X N β s a) (y : Operand) : VRel X.w0 β (a.eval y) (ev s y) := by
  cases y with
  | tmp t => exact h.slot t
  | const v => exact .val v
  | global g => exact .val _
  | func f => exact .fn rfl (fun j v x hv => by simp at hv) rfl (fun j v x hv => by simp at hv)

theorem SRel.put {X : Cx} {N : Nat} {β : Bk} {s : Sl} {a : Act} (h : SRel X N β s a) {d : Nat} (hd : d < N) {v : Value} {x : AV} (hv : VRel X.w0 β v x) : SRel X N β ((d, x) :: s) (a.put (some d) v) := by
  refine ⟨by simp [Act.put, h.size], h.defers, fun k => ?_⟩
  have hsz : d < a.tmps.size := by rw [h.size]; exact hd
  by_cases hk : k = d
  · subst hk
    have : (a.put (some k) v).tmps.getD k undef = v := by simp [Act.put, Array.getD_eq_getD_getElem?, hsz]
    rw [this]; simpa [get_cons] using hv
  · have : (a.put (some d) v).tmps.getD k undef = a.tmps.getD k undef := by simp [Act.put, Array.getD_eq_getD_getElem?, Ne.symm hk]
    rw [this]
    have hb : (k == d) = false := by simpa using hk
    rw [get_cons, hb]
    exact h.slot k

theorem SRel.put_none {X : Cx} {N : Nat} {β : Bk} {s : Sl} {a : Act} (h : SRel X N β s a) (v : Value) : SRel X N β s (a.put none v) := h

/-- Some slots kept, all others forgotten. -/
def keep (L : List Nat) (vs : List AV) : Sl := L.zip vs
theorem SRel.keep {X : Cx} {N : Nat} {β : Bk} {s : Sl} {a : Act} (h : SRel X N β s a) (L : List Nat) : SRel X N β (Pv.keep L (L.map (Sl.get s))) a := by
  refine ⟨h.size, h.defers, fun k => ?_⟩
  induction L with
  | nil => exact .junk _
  | cons l L ih =>
    simp only [Pv.keep, List.map_cons, List.zip_cons_cons, get_cons]
    by_cases hk : k = l
    · subst hk; simpa using h.slot k
    · have hb : (k == l) = false := by simpa using hk
      rw [hb]; exact ih

theorem Inv.grow_below {X : Cx} {β : Bk} {st : St} {w w' : World} (h : Inv X β st w) (hb : Below w.heap.size w w') : Inv X β st w' where
  b0 := h.b0
  b1 := h.b1.trans (hb.mono h.b1.size)
  len := h.len
  stp := h.stp
  bep := h.bep
  nw := h.nw
  ow := fun r b m hr => ⟨(h.ow r b m hr).1, Nat.lt_of_lt_of_le (h.ow r b m hr).2 hb.size⟩
  obj := fun r cs hr => by
    obtain ⟨bk, h1, h2⟩ := h.obj r cs hr
    refine ⟨bk, h1, ?_⟩
    cases bk with
    | none => exact h2
    | some p =>
      obtain ⟨b, m⟩ := p
      obtain ⟨c, e, h3, h4⟩ := h2
      exact ⟨c, e, by rw [hb.block b (h.ow r b m h1).2]; exact h3, h4⟩
  inj := h.inj

theorem cell_of_heap {w : World} {b o : Nat} {c : Array Value} {e : TypeId} (h : w.heap[b]? = some (.cells c e (0, 0))) : w.cell? ⟨b, o, none⟩ = c[o]? := by
  simp [World.cell?, h]

theorem add_none (b o j : Nat) : (⟨b, o, none⟩ : Addr).add j = ⟨b, o + j, none⟩ := by unfold Addr.add; split <;> simp_all
theorem add_add (a : Addr) (x y : Nat) : (a.add x).add y = a.add (x + y) := by
  unfold Addr.add
  by_cases hx : x = 0 <;> by_cases hy : y = 0 <;> simp [hx, hy, Nat.add_assoc]

end Go.Proofs.Pv
