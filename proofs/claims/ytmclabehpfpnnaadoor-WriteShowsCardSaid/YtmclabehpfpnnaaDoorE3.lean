/- The engine's first part: abstract values and stores, what they say of a machine's values and world. -/
import Derived.Below
import Derived.OrdersHeld
import Derived.Laws.CopyRow
import Derived.Laws.Cells
import Derived.Laws.AppendOwn
import Derived.Laws.MakeOwn
set_option linter.unusedSimpArgs false
set_option linter.unusedVariables false
namespace Go.Proofs.Pv
open Go Go.RowKit

/-- Abstract values: a plain one; a slice that came in (its cells); a place in what came in; a slice of the run's own object r; a place in it; structs; tuples; functions; the o-th cell of a slice (whichever); anything; what is so of some blocks that no object lies in. -/
inductive AV where
  | val (v : Value)
  | im (n : Nat) (cs : List AV)
  | imp (cs : List AV)
  | own (r off n sz : Nat)
  | ptr (r off : Nat)
  | agg (cs : List AV)
  | tup (vs : List AV)
  | fn (f : Fn) (first captured : List AV)
  | el (x : AV) (sz o : Nat)
  | junk
  | gh (S : List Nat) (G : World → Prop)

/-- The run's own objects: their cells; none: gone. -/
abbrev St := List (Option (List AV))
/-- Where they lie: block and its cells' number; none: nowhere yet (an empty slice). -/
abbrev Bk := List (Option (Nat × Nat))
/-- The slots: the newest first. -/
abbrev Sl := List (Nat × AV)

def undefA : AV := .val undef

def Sl.get : Sl → Nat → AV
  | [], _ => .junk
  | (k, x) :: l, n => bif n == k then x else Sl.get l n
theorem get_cons (k n : Nat) (x : AV) (l : Sl) : Sl.get ((k, x) :: l) n = bif n == k then x else Sl.get l n := rfl
theorem get_nil (n : Nat) : Sl.get [] n = .junk := rfl

/-- A constant. -/
def cstA : Value → AV
  | .agg vs => .agg (vs.toList.map .val)
  | v => .val v
/-- What an operand is. -/
def ev (s : Sl) : Operand → AV
  | .tmp t => Sl.get s t
  | .const v => cstA v
  | .global g => .val (.pointer (some ⟨g, 0, none⟩))
  | .func f => .fn (.func f) [] []
theorem ev_tmp (s : Sl) (t : Nat) : ev s (.tmp t) = Sl.get s t := rfl
theorem ev_cint (s : Sl) (k : IntKind) (n : Int) : ev s (.const (.int k n)) = .val (.int k n) := rfl
theorem ev_cbool (s : Sl) (b : Bool) : ev s (.const (.bool b)) = .val (.bool b) := rfl
theorem ev_cstr (s : Sl) (b : ByteArray) : ev s (.const (.string b)) = .val (.string b) := rfl
theorem ev_cslice (s : Sl) (a : Option Addr) (n c : Nat) : ev s (.const (.slice a n c)) = .val (.slice a n c) := rfl
theorem ev_cptr (s : Sl) (a : Option Addr) : ev s (.const (.pointer a)) = .val (.pointer a) := rfl
theorem ev_cnilf (s : Sl) : ev s (.const .nilFunc) = .val .nilFunc := rfl
theorem ev_cnili (s : Sl) : ev s (.const .nilIface) = .val .nilIface := rfl
theorem ev_cagg (s : Sl) (vs : Array Value) : ev s (.const (.agg vs)) = .agg (vs.toList.map .val) := rfl
theorem ev_func (s : Sl) (f : FuncId) : ev s (.func f) = .fn (.func f) [] [] := rfl
theorem ev_global (s : Sl) (g : Nat) : ev s (.global g) = .val (.pointer (some ⟨g, 0, none⟩)) := rfl

/-- The place of a slice's o-th cell. -/
def elemP : AV → Nat → AV
  | .im _ cs, o => .imp (cs.drop o)
  | .own r off _ _, o => .ptr r (off + o)
  | _, _ => .junk

/-- A machine's value is one that the abstract value speaks of. -/
inductive VRel (w0 : World) (β : Bk) : Value → AV → Prop
  | val (v : Value) : VRel w0 β v (.val v)
  | junk (v : Value) : VRel w0 β v .junk
  | im {A : Option Addr} {n c : Nat} {cs : List AV} (u : Nat → Value) (hn : n ≤ 9223372036854775807) (hc : n ≤ c)
      (hr : ∀ j, j < cs.length → ∃ ad, A = some ad ∧ w0.cell? (ad.add j) = some (u j)) (hv : ∀ j x, cs[j]? = some x → VRel w0 β (u j) x) : VRel w0 β (.slice A n c) (.im n cs)
  | imp {ad : Addr} {cs : List AV} (u : Nat → Value) (hr : ∀ j, j < cs.length → w0.cell? (ad.add j) = some (u j)) (hv : ∀ j x, cs[j]? = some x → VRel w0 β (u j) x) : VRel w0 β (.pointer (some ad)) (.imp cs)
  | own {r off n sz b m o c : Nat} (hb : β[r]? = some (some (b, m))) (hn : n ≤ 9223372036854775807) (hc : n ≤ c) (ho : 0 < c → o = off ∧ off + c * sz ≤ m) : VRel w0 β (.slice (some ⟨b, o, none⟩) n c) (.own r off n sz)
  | nil {r sz : Nat} (hb : β[r]? = some none) : VRel w0 β (.slice none 0 0) (.own r 0 0 sz)
  | ptr {r off b m : Nat} (hb : β[r]? = some (some (b, m))) : VRel w0 β (.pointer (some ⟨b, off, none⟩)) (.ptr r off)
  | agg {vs : Array Value} {cs : List AV} (hs : vs.size = cs.length) (hv : ∀ (j : Nat) v x, vs[j]? = some v → cs[j]? = some x → VRel w0 β v x) : VRel w0 β (.agg vs) (.agg cs)
  | tup {vs : Array Value} {cs : List AV} (hs : vs.size = cs.length) (hv : ∀ (j : Nat) v x, vs[j]? = some v → cs[j]? = some x → VRel w0 β v x) : VRel w0 β (.tuple vs) (.tup cs)
  | fn {f : Fn} {as bs : Array Value} {xs ys : List AV} (ha : as.size = xs.length) (hav : ∀ (j : Nat) v x, as[j]? = some v → xs[j]? = some x → VRel w0 β v x)
      (hb : bs.size = ys.length) (hbv : ∀ (j : Nat) v x, bs[j]? = some v → ys[j]? = some x → VRel w0 β v x) : VRel w0 β (.func f as bs) (.fn f xs ys)
  | el {v : Value} {x : AV} {sz o : Nat} (h : VRel w0 β v (elemP x o)) : VRel w0 β v (.el x sz o)


/-- More objects: what was said still holds. -/
theorem VRel.ext {w0 : World} {β : Bk} {v : Value} {x : AV} (h : VRel w0 β v x) (ex : Bk) : VRel w0 (β ++ ex) v x := by
  have hb' : ∀ {r : Nat} {y : Option (Nat × Nat)}, β[r]? = some y → (β ++ ex)[r]? = some y := fun {r y} h => by
    rw [List.getElem?_append_left (List.getElem?_eq_some_iff.1 h).1]; exact h
  induction h with
  | val v => exact .val v
  | junk v => exact .junk v
  | im u hn hc hr hv ih => exact .im u hn hc hr ih
  | imp u hr hv ih => exact .imp u hr ih
  | own hb hn hc ho => exact .own (hb' hb) hn hc ho
  | nil hb => exact .nil (hb' hb)
  | ptr hb => exact .ptr (hb' hb)
  | agg hs hv ih => exact .agg hs ih
  | tup hs hv ih => exact .tup hs ih
  | fn ha hav hb hbv ih1 ih2 => exact .fn ha ih1 hb ih2
  | el h ih => exact .el ih

/-- What a run is about: the program, the world in which it began, the world, the store and the blocks in which this call began; loops' marks of callers, and of this call. -/
structure Cx where
  P : Program
  w0 : World
  w1 : World
  st1 : St
  β1 : Bk
  ms : List Nat
  ds : List Nat

/-- An object's block holds its cells. -/
def ObjRel (w0 : World) (β : Bk) (w : World) (bk : Option (Nat × Nat)) (cs : List AV) : Prop :=
  match bk with
  | none => cs = [] ∨ ∃ S G, cs = [.gh S G]
  | some (b, m) => ∃ (c : Array Value) (e : TypeId), w.heap[b]? = some (.cells c e (0, 0)) ∧ c.size = m ∧ cs.length ≤ m ∧ ∀ (j : Nat) x, cs[j]? = some x → ∃ u, c[j]? = some u ∧ VRel w0 β u x

/-- What is so of some blocks stays so while these stay. -/
def Stable (S : List Nat) (G : World → Prop) : Prop := ∀ w w' : World, (∀ k ∈ S, w'.heap[k]? = w.heap[k]?) → G w → G w'
theorem no_gh {w0 : World} {β : Bk} {v : Value} {S : List Nat} {G : World → Prop} (h : VRel w0 β v (.gh S G)) : False := by cases h
theorem objRel_gh {w0 : World} {β : Bk} {w : World} {p : Nat × Nat} {S : List Nat} {G : World → Prop} (h : ObjRel w0 β w (some p) [.gh S G]) : False := by
  obtain ⟨b, m⟩ := p
  obtain ⟨c, e, _, _, _, hv⟩ := h
  obtain ⟨u, _, hu⟩ := hv 0 _ rfl
  exact no_gh hu

structure Inv (X : Cx) (β : Bk) (st : St) (w : World) : Prop where
  b0 : Below X.w0.heap.size X.w0 X.w1
  b1 : Below X.w1.heap.size X.w1 w
  len : β.length = st.length
  stp : ∃ y, st = X.st1 ++ y
  bep : ∃ y, β = X.β1 ++ y
  nw : ∀ (r : Nat) b m, X.st1.length ≤ r → β[r]? = some (some (b, m)) → X.w1.heap.size ≤ b
  ow : ∀ (r : Nat) b m, β[r]? = some (some (b, m)) → X.w0.heap.size ≤ b ∧ b < w.heap.size
  obj : ∀ (r : Nat) cs, st[r]? = some (some cs) → ∃ bk, β[r]? = some bk ∧ ObjRel X.w0 β w bk cs
  inj : ∀ (r r' : Nat) cs cs' b m m', st[r]? = some (some cs) → st[r']? = some (some cs') → β[r]? = some (some (b, m)) → β[r']? = some (some (b, m')) → r = r'
  gh : ∀ (r : Nat) S G, st[r]? = some (some [.gh S G]) → Stable S G ∧ G w ∧ (∀ k ∈ S, X.w0.heap.size ≤ k ∧ k < w.heap.size) ∧ (X.st1.length ≤ r → ∀ k ∈ S, X.w1.heap.size ≤ k) ∧ (∀ k ∈ S, ∃ (r' : Nat) (m : Nat), β[r']? = some (some (k, m))) ∧ ∀ (r' : Nat) cs b m, st[r']? = some (some cs) → β[r']? = some (some (b, m)) → b ∉ S
  gi : ∀ (r r' : Nat) S S' G G', st[r]? = some (some [.gh S G]) → st[r']? = some (some [.gh S' G']) → r ≠ r' → ∀ k ∈ S, k ∉ S'
  gm : ∀ (r : Nat) S G, st[r]? = some (some [.gh S G]) → ∀ D ∈ X.ds ++ X.ms, D ∉ S
  mks : ∀ D ∈ X.ds ++ X.ms, w.heap[D]? = some (.deferred (some []))
  nd : (X.ds ++ X.ms).Nodup

def markD (D : Nat) : Deferred := { target := .collected D, args := #[] }
/-- The slots of a frame. -/
structure SRel (X : Cx) (N : Nat) (β : Bk) (s : Sl) (a : Act) : Prop where
  size : a.tmps.size = N
  defers : a.defers = X.ds.map markD
  slot : ∀ k, VRel X.w0 β (a.tmps.getD k undef) (Sl.get s k)

theorem SRel.ext {X : Cx} {N : Nat} {β : Bk} {s : Sl} {a : Act} (h : SRel X N β s a) (ex : Bk) : SRel X N (β ++ ex) s a := ⟨h.size, h.defers, fun k => (h.slot k).ext ex⟩

theorem SRel.eval {X : Cx} {N : Nat} {β : Bk} {s : Sl} {a : Act} (h : SRel X N β s a) (y : Operand) : VRel X.w0 β (a.eval y) (ev s y) := by
  cases y with
  | tmp t => exact h.slot t
  | const v =>
    show VRel X.w0 β v (cstA v)
    cases v with
    | agg vs =>
      refine .agg (by simp) fun j v x hv hx => ?_
      simp only [List.getElem?_map, Array.getElem?_toList, hv, Option.map_some, Option.some.injEq] at hx
      subst hx
      exact .val v
    | _ => exact .val _
  | global g => exact .val _
  | func f => exact .fn rfl (fun j v x hv => by simp at hv) rfl (fun j v x hv => by simp at hv)

theorem SRel.put {X : Cx} {N : Nat} {β : Bk} {s : Sl} {a : Act} (h : SRel X N β s a) {d : Nat} (hd : d < N) {v : Value} {x : AV} (hv : VRel X.w0 β v x) : SRel X N β ((d, x) :: s) (a.put (some d) v) := by
  refine ⟨by simp [Act.put, h.size], h.defers, fun k => ?_⟩
  have hsz : d < a.tmps.size := by rw [h.size]; exact hd
  by_cases hk : k = d
  · subst hk
    have : (a.put (some k) v).tmps.getD k undef = v := by simp [Act.put, Array.getD_eq_getD_getElem?, hsz]
    rw [this]; simpa [get_cons] using hv
  · have : (a.put (some d) v).tmps.getD k undef = a.tmps.getD k undef := by simp [Act.put, Array.getD_eq_getD_getElem?, Ne.symm hk]
    rw [this]
    have hb : (k == d) = false := by simpa using hk
    rw [get_cons, hb]
    exact h.slot k

/-- Some slots kept, all others forgotten. -/
def keep (L : List Nat) (vs : List AV) : Sl := L.zip vs
theorem SRel.keep {X : Cx} {N : Nat} {β : Bk} {s : Sl} {a : Act} (h : SRel X N β s a) (L : List Nat) : SRel X N β (Pv.keep L (L.map (Sl.get s))) a := by
  refine ⟨h.size, h.defers, fun k => ?_⟩
  induction L with
  | nil => exact .junk _
  | cons l L ih =>
    simp only [Pv.keep, List.map_cons, List.zip_cons_cons, get_cons]
    by_cases hk : k = l
    · subst hk; simpa using h.slot k
    · have hb : (k == l) = false := by simpa using hk
      rw [hb]; exact ih

theorem Inv.grow_below {X : Cx} {β : Bk} {st : St} {w w' : World} (h : Inv X β st w) (hb : Below w.heap.size w w') : Inv X β st w' where
  b0 := h.b0
  b1 := h.b1.trans (hb.mono h.b1.size)
  len := h.len
  stp := h.stp
  bep := h.bep
  nw := h.nw
  ow := fun r b m hr => ⟨(h.ow r b m hr).1, Nat.lt_of_lt_of_le (h.ow r b m hr).2 hb.size⟩
  obj := fun r cs hr => by
    obtain ⟨bk, h1, h2⟩ := h.obj r cs hr
    refine ⟨bk, h1, ?_⟩
    cases bk with
    | none => exact h2
    | some p =>
      obtain ⟨b, m⟩ := p
      obtain ⟨c, e, h3, h4⟩ := h2
      exact ⟨c, e, by rw [hb.block b (h.ow r b m h1).2]; exact h3, h4⟩
  inj := h.inj
  gh := fun r S G hr => by
    obtain ⟨h1, h2, h3, h4, h5⟩ := h.gh r S G hr
    exact ⟨h1, h1 w w' (fun k hk => hb.block k (h3 k hk).2) h2, fun k hk => ⟨(h3 k hk).1, Nat.lt_of_lt_of_le (h3 k hk).2 hb.size⟩, h4, h5⟩
  gi := h.gi
  gm := h.gm
  mks := fun D hD => by
    have h1 := h.mks D hD
    have h2 : D < w.heap.size := by
      rcases Nat.lt_or_ge D w.heap.size with h3 | h3
      · exact h3
      · rw [Array.getElem?_eq_none h3] at h1; cases h1
    rw [hb.block D h2]; exact h1
  nd := h.nd

theorem cell_of_heap {w : World} {b o : Nat} {c : Array Value} {e : TypeId} (h : w.heap[b]? = some (.cells c e (0, 0))) : w.cell? ⟨b, o, none⟩ = c[o]? := by
  simp [World.cell?, h]

theorem add_none (b o j : Nat) : (⟨b, o, none⟩ : Addr).add j = ⟨b, o + j, none⟩ := by unfold Addr.add; split <;> simp_all
theorem add_add (a : Addr) (x y : Nat) : (a.add x).add y = a.add (x + y) := by
  unfold Addr.add
  by_cases hx : x = 0 <;> by_cases hy : y = 0 <;> simp [hx, hy, Nat.add_assoc]

end Go.Proofs.Pv

/- The engine's second part: what is known of types, the abstract operations, and what each asks and hands on. -/
namespace Go.Proofs.Pv
open Go Go.RowKit

/-- What is known of a type: its kind, its zero value's cells. -/
inductive TI where
  | int (k : IntKind) (z : List Value)
  | bool (z : List Value)
  | str (z : List Value)
  | slice (e sz bytes : Nat) (ez : List Value) (z : List Value)
  | struct (fs : List (Nat × Nat × Bool)) (sz : Nat) (z : List Value)
  | arr (n esz sz : Nat) (eagg : Bool) (z : List Value)
  | oth (z : List Value)
  | bad

def szOf (P : Program) (t : TypeId) : Nat := match P.info? t with | some i => i.size | none => 0
def aggT (P : Program) (t : TypeId) : Bool := match P.underlying t with | some (.struct _) => true | some (.array _ _) => true | _ => false

def ti (P : Program) (t : TypeId) : TI :=
  match P.underlying t, P.info? t with
  | some d, some i =>
    match i.zero with
    | some z =>
      if z.cells.size = i.size then
        match d with
        | .slice e => match P.info? e with
          | some j => match j.zero with
            | some y => if i.size = 1 ∧ y.cells.size = j.size ∧ 0 < j.size then .slice e j.size j.bytes y.cells.toList z.cells.toList else .bad
            | none => .bad
          | none => .bad
        | .struct fs => if fs.toList.all (fun f => (P.underlying f.type).isSome && (P.info? f.type).isSome) then .struct (fs.toList.map fun f => (f.offset, szOf P f.type, aggT P f.type)) i.size z.cells.toList else .bad
        | .array n e => match P.info? e with
          | some j => if (P.underlying e).isSome then .arr n j.size i.size (aggT P e) z.cells.toList else .bad
          | none => .bad
        | .int k => if i.size = 1 then .int k z.cells.toList else .bad
        | .bool => if i.size = 1 then .bool z.cells.toList else .bad
        | .string => if i.size = 1 then .str z.cells.toList else .bad
        | _ => if i.size = 1 then .oth z.cells.toList else .bad
      else .bad
    | none => .bad
  | _, _ => .bad

def TI.zero : TI → List Value
  | .int _ z => z | .bool z => z | .str z => z | .slice _ _ _ _ z => z | .struct _ _ z => z | .arr _ _ _ _ z => z | .oth z => z | .bad => []
def TI.size : TI → Nat
  | .struct _ s _ => s | .arr _ _ s _ _ => s | .bad => 0 | _ => 1
def TI.isAgg : TI → Bool
  | .struct _ _ _ => true | .arr _ _ _ _ _ => true | _ => false
def TI.good : TI → Bool
  | .bad => false | _ => true
def TI.isB : TI → Bool
  | .bool _ => true | _ => false

section
variable {P : Program} {t : TypeId}
theorem ti_good (h : (ti P t).good = true) : ∃ d i z, P.underlying t = some d ∧ P.info? t = some i ∧ i.zero = some z ∧ z.cells.size = i.size ∧ (ti P t).size = i.size ∧ (ti P t).zero = z.cells.toList ∧ (ti P t).isAgg = aggT P t := by
  unfold ti at *
  cases hd : P.underlying t with
  | none => simp [hd, TI.good] at h
  | some d =>
    cases hi : P.info? t with
    | none => simp [hd, hi, TI.good] at h
    | some i =>
      cases hz : i.zero with
      | none => simp [hd, hi, hz, TI.good] at h
      | some z =>
        simp only [hd, hi, hz] at h ⊢
        by_cases hs : z.cells.size = i.size
        · refine ⟨d, i, z, rfl, rfl, hz, hs, ?_⟩
          simp only [hs, if_true] at h ⊢
          cases d with
          | slice e =>
            simp only at h ⊢
            cases hj : P.info? e with
            | none => simp [hj, TI.good] at h
            | some j =>
              cases hy : j.zero with
              | none => simp [hj, hy, TI.good] at h
              | some y =>
                simp only [hj, hy] at h ⊢
                by_cases hc : i.size = 1 ∧ y.cells.size = j.size ∧ 0 < j.size
                · rw [if_pos hc]; exact ⟨hc.1.symm, rfl, by simp [TI.isAgg, aggT, hd]⟩
                · rw [if_neg hc] at h; simp [TI.good] at h
          | struct fs =>
            simp only at h ⊢
            by_cases hc : fs.toList.all (fun f => (P.underlying f.type).isSome && (P.info? f.type).isSome) = true
            · rw [if_pos hc]; exact ⟨rfl, rfl, by simp [TI.isAgg, aggT, hd]⟩
            · rw [if_neg hc] at h; simp [TI.good] at h
          | array n e =>
            simp only at h ⊢
            cases hj : P.info? e with
            | none => simp [hj, TI.good] at h
            | some j =>
              simp only [hj] at h ⊢
              by_cases hc : (P.underlying e).isSome = true
              · rw [if_pos hc]; exact ⟨rfl, rfl, by simp [TI.isAgg, aggT, hd]⟩
              · rw [if_neg hc] at h; simp [TI.good] at h
          | _ =>
            simp only at h ⊢
            by_cases hc : i.size = 1
            · rw [if_pos hc]; exact ⟨hc.symm, rfl, by simp [TI.isAgg, aggT, hd]⟩
            · rw [if_neg hc] at h; simp [TI.good] at h
        · rw [if_neg hs] at h; simp [TI.good] at h

theorem ti_int {k : IntKind} {z : List Value} (h : ti P t = .int k z) : P.underlying t = some (.int k) := by
  unfold ti at h; (repeat' split at h) <;> simp_all
theorem ti_bool {z : List Value} (h : ti P t = .bool z) : P.underlying t = some .bool := by
  unfold ti at h; (repeat' split at h) <;> simp_all
theorem ti_isB (h : (ti P t).isB = true) : P.underlying t = some .bool := by
  cases hb : ti P t <;> rw [hb] at h <;> simp [TI.isB] at h
  exact ti_bool hb
theorem ti_str {z : List Value} (h : ti P t = .str z) : P.underlying t = some .string := by
  unfold ti at h; (repeat' split at h) <;> simp_all
theorem ti_slice {e sz by_ : Nat} {ez z : List Value} (h : ti P t = .slice e sz by_ ez z) :
    P.underlying t = some (.slice e) ∧ ∃ j y, P.info? e = some j ∧ j.size = sz ∧ j.bytes = by_ ∧ j.zero = some y ∧ y.cells.toList = ez ∧ ez.length = sz ∧ 0 < sz := by
  unfold ti at h
  (repeat' split at h) <;> simp_all
  obtain ⟨_, _, _, h4, _⟩ := h
  have h5 := congrArg List.length h4
  simp only [Array.length_toList] at h5
  omega
theorem ti_struct {fs : List (Nat × Nat × Bool)} {sz : Nat} {z : List Value} (h : ti P t = .struct fs sz z) :
    ∃ f, P.underlying t = some (.struct f) ∧ f.toList.map (fun f => (f.offset, szOf P f.type, aggT P f.type)) = fs ∧ ∀ x ∈ f.toList, (P.underlying x.type).isSome = true ∧ (P.info? x.type).isSome = true := by
  unfold ti at h
  cases hd : P.underlying t with
  | none => simp [hd] at h
  | some d =>
    cases hi : P.info? t with
    | none => simp [hd, hi] at h
    | some i =>
      cases hz : i.zero with
      | none => simp [hd, hi, hz] at h
      | some y =>
        simp only [hd, hi, hz] at h
        split at h
        · cases d with
          | struct f =>
            simp only at h
            split at h
            · rename_i hc
              cases h
              exact ⟨f, rfl, rfl, fun x hx => by simpa using List.all_eq_true.1 hc x hx⟩
            · cases h
          | _ => simp only at h; (repeat' split at h) <;> cases h
        · cases h
theorem ti_arr {n esz sz : Nat} {ea : Bool} {z : List Value} (h : ti P t = .arr n esz sz ea z) :
    ∃ e j, P.underlying t = some (.array n e) ∧ P.info? e = some j ∧ j.size = esz ∧ aggT P e = ea ∧ (P.underlying e).isSome = true := by
  unfold ti at h
  (repeat' split at h) <;> simp_all
end

/-- An operation with its operands' values. -/
inductive AOp where
  | mv (x : AV)
  | pick (c a b : AV)
  | alloc (t : TypeId)
  | box (t : TypeId) (x : AV)
  | build (t : TypeId) (ps : List (Nat × AV))
  | buildSl (t : TypeId) (n : Nat) (ps : List (Nat × AV))
  | load (t : TypeId) (x : AV)
  | store (t : TypeId) (x y : AV)
  | nilCk (x : AV)
  | bin (b : BinOp) (t : TypeId) (x y : AV)
  | un (u : UnOp) (x : AV)
  | conv (a b : TypeId) (x : AV)
  | mkFn (f : Fn) (xs ys : List AV)
  | mkSl (t : TypeId) (x y : AV)
  | slice (t : TypeId) (x : AV) (lo hi mx : Option AV)
  | fAddr (t : TypeId) (x : AV) (i : Nat)
  | field (t : TypeId) (x : AV) (i : Nat)
  | iAddr (t : TypeId) (x i : AV)
  | index (t : TypeId) (x i : AV)
  | extract (x : AV) (i : Nat)
  | blt (b : Builtin) (ts : List TypeId) (xs : List AV)
  | call (f : AV) (xs : List AV)
  | bad

def aop (s : Sl) : Op → AOp
  | .move x => .mv (ev s x)
  | .assign x => .mv (ev s x)
  | .pick c a b => .pick (ev s c) (ev s a) (ev s b)
  | .alloc t => .alloc t
  | .box t x => .box t (ev s x)
  | .build t ps => .build t (ps.toList.map fun p => (p.1, ev s p.2))
  | .buildSlice t n ps => .buildSl t n (ps.toList.map fun p => (p.1, ev s p.2))
  | .load t x => .load t (ev s x)
  | .store t x y => .store t (ev s x) (ev s y)
  | .nilCheck x => .nilCk (ev s x)
  | .binOp b t x y _ => .bin b t (ev s x) (ev s y)
  | .unOp u _ x => .un u (ev s x)
  | .convert a b x => .conv a b (ev s x)
  | .makeFunc f xs ys => .mkFn f (xs.toList.map (ev s)) (ys.toList.map (ev s))
  | .makeSlice t x y => .mkSl t (ev s x) (ev s y)
  | .slice t x lo hi mx => .slice t (ev s x) (lo.map (ev s)) (hi.map (ev s)) (mx.map (ev s))
  | .fieldAddr t x i => .fAddr t (ev s x) i
  | .field t x i => .field t (ev s x) i
  | .indexAddr t x i => .iAddr t (ev s x) (ev s i)
  | .index t x i => .index t (ev s x) (ev s i)
  | .extract x i => .extract (ev s x) i
  | .call ⟨.builtin b, xs, ts⟩ => .blt b ts.toList (xs.toList.map (ev s))
  | .call ⟨.value f, xs, _⟩ => .call (ev s f) (xs.toList.map (ev s))
  | _ => .bad

def cellsA : AV → List AV
  | .agg cs => cs
  | x => [x]
def leaf : AV → Bool
  | .val v => v.oneCell'
  | .im _ _ => true
  | .imp _ => true
  | .own _ _ _ _ => true
  | .ptr _ _ => true
  | .fn _ _ _ => true
  | _ => false
def okCells : AV → Bool
  | .agg cs => cs.all leaf
  | x => leaf x

/-- What bits do. -/
def bitV (op : BinOp) (k : IntKind) (x y : Int) : Int :=
  match op with
  | .and => k.wrap ((BitVec.ofInt k.bits x &&& BitVec.ofInt k.bits y).toNat : Int)
  | .or => k.wrap ((BitVec.ofInt k.bits x ||| BitVec.ofInt k.bits y).toNat : Int)
  | .xor => k.wrap ((BitVec.ofInt k.bits x ^^^ BitVec.ofInt k.bits y).toNat : Int)
  | _ => k.wrap ((BitVec.ofInt k.bits x &&& ~~~(BitVec.ofInt k.bits y)).toNat : Int)

/-- Two whole numbers: what must hold, what comes. -/
def binI (op : BinOp) (k : IntKind) (a b : Int) (K : Value → Prop) : Prop :=
  match op with
  | .add => K (.int k (k.wrap (a + b)))
  | .sub => K (.int k (k.wrap (a - b)))
  | .mul => K (.int k (k.wrap (a * b)))
  | .quo => b ≠ 0 ∧ K (.int k (k.wrap (a.tdiv b)))
  | .rem => b ≠ 0 ∧ K (.int k (a.tmod b))
  | .and => K (.int k (bitV .and k a b))
  | .or => K (.int k (bitV .or k a b))
  | .xor => K (.int k (bitV .xor k a b))
  | .andNot => K (.int k (bitV .andNot k a b))
  | .eql => K (.bool (a == b))
  | .neq => K (.bool (a != b))
  | .lss => K (.bool (decide (a < b)))
  | .leq => K (.bool (decide (a ≤ b)))
  | .gtr => K (.bool (decide (a > b)))
  | .geq => K (.bool (decide (a ≥ b)))
  | .shl => 0 ≤ b ∧ K (.int k (k.wrap (a * 2 ^ (min b.toNat k.bits))))
  | .shr => 0 ≤ b ∧ K (.int k (a / 2 ^ (min b.toNat k.bits)))

def binV (bt : Bool) (op : BinOp) (u v : Value) (K : Value → Prop) : Prop :=
  match u, v with
  | .int k a, .int k' b =>
    match op with
    | .shl => binI .shl k a b K
    | .shr => binI .shr k a b K
    | op => k = k' ∧ binI op k a b K
  | .bool a, .bool b =>
    match op with
    | .eql => bt = true ∧ K (.bool (a == b))
    | .neq => bt = true ∧ K (.bool (a != b))
    | _ => False
  | .string a, .string b =>
    match op with
    | .add => a.size + b.size ≤ 9223372036854775807 ∧ K (.string (a ++ b))
    | .eql => K (.bool (a.toList == b.toList))
    | .neq => K (.bool !(a.toList == b.toList))
    | _ => False
  | _, _ => False

/-- A slice's elements' number and cells. -/
def slc (st : St) : AV → Option (Nat × List AV)
  | .im n cs => some (n, cs)
  | .own r off n sz => match st[r]? with
    | some (some cs) => some (n, (cs.drop off).take (n * sz))
    | _ => none
  | .val (.slice none 0 0) => some (0, [])
  | _ => none

def put1 (cs : List AV) (off : Nat) : AV → List AV
  | .agg ys => cs.take off ++ ys ++ cs.drop (off + ys.length)
  | y => cs.set off y

/-- One part of a struct or an array. -/
def partA (cs : List AV) (off sz : Nat) (ag : Bool) (K : AV → Prop) : Prop :=
  if ag then off + sz ≤ cs.length ∧ K (.agg ((cs.drop off).take sz)) else match cs[off]? with | some x => K x | none => False

def fillA (place : Nat → Option (Nat × Nat)) (cells : List AV) : List (Nat × AV) → Option (List AV)
  | [] => some cells
  | (i, x) :: rest =>
    match place i with
    | none => none
    | some (off, size) => if okCells x = true ∧ (cellsA x).length = size ∧ off + size ≤ cells.length then fillA place (cells.take off ++ cellsA x ++ cells.drop (off + size)) rest else none

end Go.Proofs.Pv

/- The engine's third part: what an operation asks of the abstract state, and what it hands on. -/
namespace Go.Proofs.Pv
open Go Go.RowKit

def VRels (w0 : World) (β : Bk) (vs : Array Value) (xs : List AV) : Prop := vs.size = xs.length ∧ ∀ (j : Nat) v x, vs[j]? = some v → xs[j]? = some x → VRel w0 β v x

def enterOK (P : Program) (f : FuncId) : Bool := match P.funcs[f]? with
  | some fn => fn.body.isSome && !(fn.name == "runtime.NumGoroutine")
  | none => false

/-- A contract, within a call. -/
def FSpec (X : Cx) (f : FuncId) (R : List AV → St → (AV → St → Prop) → Prop) : Prop :=
  enterOK X.P f = true ∧ ∀ (mk : List Nat) (β : Bk) (st : St) (w : World) (vs : Array Value) (xs : List AV) (K : AV → St → Prop), Inv ⟨X.P, X.w0, X.w1, X.st1, X.β1, mk, []⟩ β st w → VRels X.w0 β vs xs → R xs st K →
    Calls X.P f vs w (fun e w' => ∃ v x ex st', e = .returned v ∧ Inv ⟨X.P, X.w0, X.w1, X.st1, X.β1, mk, []⟩ (β ++ ex) st' w' ∧ VRel X.w0 (β ++ ex) v x ∧ K x st')

/-- A contract of a function that changes nothing that was there. -/
def PSpec (P : Program) (f : FuncId) (R : List AV → St → (AV → St → Prop) → Prop) : Prop :=
  enterOK P f = true ∧ ∀ (w0 : World) (β : Bk) (st : St) (w : World) (vs : Array Value) (xs : List AV) (K : AV → St → Prop), Inv ⟨P, w0, w, st, β, [], []⟩ β st w → VRels w0 β vs xs → R xs st K →
    Calls P f vs w (fun e w' => ∃ v x ex st', e = .returned v ∧ Inv ⟨P, w0, w, st, β, [], []⟩ (β ++ ex) st' w' ∧ VRel w0 (β ++ ex) v x ∧ K x st')

/-- The same, of runs that began in one world. -/
def PSpecAt (P : Program) (w0 : World) (f : FuncId) (R : List AV → St → (AV → St → Prop) → Prop) : Prop :=
  enterOK P f = true ∧ ∀ (β : Bk) (st : St) (w : World) (vs : Array Value) (xs : List AV) (K : AV → St → Prop), Inv ⟨P, w0, w, st, β, [], []⟩ β st w → VRels w0 β vs xs → R xs st K →
    Calls P f vs w (fun e w' => ∃ v x ex st', e = .returned v ∧ Inv ⟨P, w0, w, st, β, [], []⟩ (β ++ ex) st' w' ∧ VRel w0 (β ++ ex) v x ∧ K x st')
theorem PSpec.at {P : Program} {f : FuncId} {R : List AV → St → (AV → St → Prop) → Prop} (h : PSpec P f R) (w0 : World) : PSpecAt P w0 f R := ⟨h.1, h.2 w0⟩

/-- A world's store of before a call is one at the call's begin. -/
theorem Inv.here {X : Cx} {β : Bk} {st : St} {w : World} (h : Inv X β st w) : Inv ⟨X.P, X.w0, w, st, β, X.ms, X.ds⟩ β st w where
  b0 := h.b0.trans (h.b1.mono h.b0.size)
  b1 := Below.refl _ _
  len := h.len
  stp := ⟨[], by simp⟩
  bep := ⟨[], by simp⟩
  nw := fun r b m hr hb => by
    have := (List.getElem?_eq_some_iff.1 hb).1
    have := h.len
    simp only at hr
    omega
  ow := h.ow
  obj := h.obj
  inj := h.inj
  gh := fun r S G hr => by
    obtain ⟨h1, h2, h3, h4, h5⟩ := h.gh r S G hr
    exact ⟨h1, h2, h3, fun hl => by have := (List.getElem?_eq_some_iff.1 hr).1; simp only at hl; omega, h5⟩
  gi := h.gi
  gm := h.gm
  mks := h.mks
  nd := h.nd

/-- Without the marks. -/
theorem Inv.unmk {X : Cx} {β : Bk} {st : St} {w : World} (h : Inv X β st w) : Inv ⟨X.P, X.w0, X.w1, X.st1, X.β1, [], []⟩ β st w :=
  ⟨h.b0, h.b1, h.len, h.stp, h.bep, h.nw, h.ow, h.obj, h.inj, h.gh, h.gi, fun r S G _ D hD => by simp at hD, fun D hD => by simp at hD, by simp⟩
/-- All marks as a caller's. -/
theorem Inv.shift {X : Cx} {β : Bk} {st : St} {w : World} (h : Inv X β st w) : Inv ⟨X.P, X.w0, X.w1, X.st1, X.β1, X.ds ++ X.ms, []⟩ β st w :=
  ⟨h.b0, h.b1, h.len, h.stp, h.bep, h.nw, h.ow, h.obj, h.inj, h.gh, h.gi, h.gm, h.mks, h.nd⟩
theorem Inv.unshift {X : Cx} {β : Bk} {st : St} {w : World} (h : Inv ⟨X.P, X.w0, X.w1, X.st1, X.β1, X.ds ++ X.ms, []⟩ β st w) : Inv X β st w :=
  ⟨h.b0, h.b1, h.len, h.stp, h.bep, h.nw, h.ow, h.obj, h.inj, h.gh, h.gi, h.gm, h.mks, h.nd⟩

theorem Inv.back {X : Cx} {β ex : Bk} {st st' : St} {w w' : World} {mk ds : List Nat} (h : Inv X β st w) (h' : Inv ⟨X.P, X.w0, w, st, β, mk, ds⟩ (β ++ ex) st' w') : Inv X (β ++ ex) st' w' where
  b0 := h.b0
  b1 := h.b1.trans (h'.b1.mono h.b1.size)
  len := h'.len
  stp := by
    obtain ⟨y, hy⟩ := h.stp
    obtain ⟨z, hz⟩ := h'.stp
    exact ⟨y ++ z, by rw [hz, ← List.append_assoc, ← hy]⟩
  bep := by
    obtain ⟨y, hy⟩ := h.bep
    exact ⟨y ++ ex, by rw [← List.append_assoc, ← hy]⟩
  nw := fun r b m hr hb => by
    by_cases hlt : r < β.length
    · rw [List.getElem?_append_left hlt] at hb
      exact h.nw r b m hr hb
    · exact Nat.le_trans h.b1.size (h'.nw r b m (by have := h.len; simp only; omega) hb)
  ow := h'.ow
  obj := h'.obj
  inj := h'.inj
  gh := fun r S G hr => by
    obtain ⟨h1, h2, h3, h4, h5⟩ := h'.gh r S G hr
    refine ⟨h1, h2, h3, fun hl k hk => ?_, h5⟩
    by_cases hlt : r < st.length
    · obtain ⟨y, hy⟩ := h'.stp
      simp only at hy
      rw [hy, List.getElem?_append_left hlt] at hr
      exact (h.gh r S G hr).2.2.2.1 hl k hk
    · exact Nat.le_trans h.b1.size (h4 (by simp only; omega) k hk)
  gi := h'.gi
  gm := fun r S G hr D hD => by
    by_cases hlt : r < st.length
    · obtain ⟨y, hy⟩ := h'.stp
      simp only at hy
      rw [hy, List.getElem?_append_left hlt] at hr
      exact h.gm r S G hr D hD
    · intro hk
      have h1 := (h'.gh r S G hr).2.2.2.1 (by simp only; omega) D hk
      have h2 := h.mks D hD
      simp only at h1
      rw [Array.getElem?_eq_none h1] at h2; cases h2
  mks := fun D hD => by
    have h1 := h.mks D hD
    have h2 : D < w.heap.size := by
      rcases Nat.lt_or_ge D w.heap.size with h3 | h3
      · exact h3
      · rw [Array.getElem?_eq_none h3] at h1; cases h1
    rw [h'.b1.block D h2]; exact h1
  nd := h.nd

theorem PSpecAt.to_f {X : Cx} {f : FuncId} {R : List AV → St → (AV → St → Prop) → Prop} (h : PSpecAt X.P X.w0 f R) : FSpec X f R :=
  ⟨h.1, fun mk β st w vs xs K hI hv hR => (h.2 β st w vs xs K hI.here.unmk hv hR).mono fun _ _ ⟨v, x, ex, st', he, hI', hx, hK⟩ => ⟨v, x, ex, st', he, hI.back hI', hx, hK⟩⟩

theorem PSpec.to_f {X : Cx} {f : FuncId} {R : List AV → St → (AV → St → Prop) → Prop} (h : PSpec X.P f R) : FSpec X f R := (h.at X.w0).to_f

def sliceB (lo hi : Option AV) (n : Nat) (F : Nat → Nat → Prop) : Prop :=
  match lo, hi with
  | none, none => F 0 n
  | some (.val (.int _ l)), none => 0 ≤ l ∧ l ≤ n ∧ F l.toNat n
  | none, some (.val (.int _ h)) => 0 ≤ h ∧ h ≤ n ∧ F 0 h.toNat
  | some (.val (.int _ l)), some (.val (.int _ h)) => 0 ≤ l ∧ l ≤ h ∧ h ≤ n ∧ F l.toNat h.toNat
  | _, _ => False

def zrow (n : Nat) (z : List Value) : List AV := (List.replicate n (z.map AV.val)).flatten

/-- Loads. -/
def loadA (P : Program) (t : TypeId) (cs : List AV) (off : Nat) (K : AV → Prop) : Prop := (ti P t).good = true ∧ partA cs off (ti P t).size (ti P t).isAgg K

def appA (X : Cx) (sz by_ : Nat) (x y : AV) (st : St) (K : AV → St → Prop) : Prop :=
  ∃ m ys, slc st y = some (m, ys) ∧ ys.length = m * sz ∧ ys.all leaf = true ∧
    match x with
    | .own r 0 n s => s = sz ∧ X.st1.length ≤ r ∧ ∃ cs, st[r]? = some (some cs) ∧ n * sz ≤ cs.length ∧ (n + m) * by_ ≤ 140737488355328 ∧ n + m ≤ 9223372036854775807 ∧
        K (.own st.length 0 (n + m) sz) (st.set r none ++ [some (cs.take (n * sz) ++ ys)])
    | .val (.slice none 0 0) => m * by_ ≤ 140737488355328 ∧ m ≤ 9223372036854775807 ∧ K (.own st.length 0 m sz) (st ++ [some ys])
    | _ => False

/-- A builder of texts, as it lies: b's block, and what has been written. -/
def BldG (S : List Nat) (T U : TypeId) (b : Nat) (bs : List Nat) (w : World) : Prop :=
  b ∈ S ∧ ∃ p v, w.heap[b]? = some (.cells #[p, v] T (0, 0)) ∧ (p = .pointer none ∨ p = .pointer (some ⟨b, 0, none⟩)) ∧ w.ownsRow b U 1 v bs.length (bs.map fun (n : Nat) => Value.int .u8 (n : Int)) ∧ v.ownBlock ≠ some b ∧ ∀ g, v.ownBlock = some g → g ∈ S
/-- Is it a builder's zero value? -/
def bz : List Value → Bool
  | [.pointer none, .slice none 0 0] => true
  | _ => false
def vcE (X : Cx) (o : AOp) (st : St) (K : AV → St → Prop) : Prop :=
  match o with
  | .mv x => K x st
  | .pick c a b => match c with
    | .val (.bool t) => if t = true then K a st else K b st
    | _ => False
  | .alloc t => (ti X.P t).good = true ∧ bif bz (ti X.P t).zero then ∃ U, ∀ b, K (.val (.pointer (some ⟨b, 0, none⟩))) (st ++ [none, some [.gh [b] (BldG [b] t U b [])]]) else K (.ptr st.length 0) (st ++ [some ((ti X.P t).zero.map AV.val)])
  | .box _ x => okCells x = true ∧ K (.ptr st.length 0) (st ++ [some (cellsA x)])
  | .build t ps => match ti X.P t with
    | .struct fs _ z => match fillA (fun i => (fs[i]?).map fun f => (f.1, f.2.1)) (z.map AV.val) ps with
      | some cs => K (.agg cs) st
      | none => False
    | .arr _ esz _ _ z => match fillA (fun i => some (i * esz, esz)) (z.map AV.val) ps with
      | some cs => K (.agg cs) st
      | none => False
    | _ => False
  | .buildSl t n ps => match ti X.P t with
    | .slice _ sz _ ez _ => n * sz ≤ 16777216 ∧ n ≤ 9223372036854775807 ∧ match fillA (fun i => some (i * sz, sz)) (zrow n ez) ps with
      | some cs => K (.own st.length 0 n sz) (st ++ [some cs])
      | none => False
    | _ => False
  | .load t x => match x with
    | .ptr r off => match st[r]? with
      | some (some cs) => loadA X.P t cs off fun y => K y st
      | _ => False
    | .imp cs => loadA X.P t cs 0 fun y => K y st
    | .val v => ∃ cs, VRel X.w0 [] v (.imp cs) ∧ loadA X.P t cs 0 fun y => K y st
    | _ => False
  | .store t x y => match x with
    | .ptr r off => X.st1.length ≤ r ∧ match st[r]? with
      | some (some cs) => (ti X.P t).good = true ∧ okCells y = true ∧ (cellsA y).length = (ti X.P t).size ∧ off + (cellsA y).length ≤ cs.length ∧ K undefA (st.set r (some (put1 cs off y)))
      | _ => False
    | _ => False
  | .nilCk x => match x with
    | .ptr _ _ => K x st
    | .imp _ => K x st
    | .fn (.func _) _ _ => K x st
    | .val (.pointer (some _)) => K x st
    | _ => False
  | .bin b t x y => match x, y with
    | .val u, .val v => binV (ti X.P t).isB b u v fun r => K (.val r) st
    | _, _ => False
  | .un u x => match u, x with
    | .neg, .val (.int k n) => K (.val (.int k (k.wrap (0 - n)))) st
    | .not, .val (.bool b) => K (.val (.bool !b)) st
    | .xor, .val (.int k n) => K (.val (.int k (bitV .xor k (if k.signed then -1 else k.max) n))) st
    | _, _ => False
  | .conv a b x => match ti X.P a, ti X.P b, x with
    | .int _ _, .int k _, .val (.int _ n) => K (.val (.int k (k.wrap n))) st
    | .slice e _ _ _ _, .str _, x => ∃ z, ti X.P e = .int .u8 z ∧ ∃ bs : List UInt8, slc st x = some (bs.length, bs.map fun b => AV.val (.int .u8 (b.toNat : Int))) ∧ K (.val (.string ⟨bs.toArray⟩)) st
    | _, _, _ => False
  | .mkFn f xs ys => K (.fn f xs ys) st
  | .mkSl t x y => match ti X.P t, x, y with
    | .slice _ sz by_ ez _, .val (.int .i64 n), .val (.int .i64 m) => m = n ∧ 0 ≤ n ∧ n ≤ 9223372036854775807 ∧ by_ * n ≤ 281474976710656 ∧ K (.own st.length 0 n.toNat sz) (st ++ [some (zrow n.toNat ez)])
    | _, _, _ => False
  | .slice t x lo hi mx => match mx with
    | some _ => False
    | none => match ti X.P t, x with
      | .str _, .val (.string s) => sliceB lo hi s.size fun l h => K (.val (.string (s.extract l h))) st
      | .slice _ sz _ _ _, .im n cs => sliceB lo hi n fun l h => K (.im (h - l) ((cs.drop (l * sz)).take ((h - l) * sz))) st
      | .slice _ sz _ _ _, .own r off n s => s = sz ∧ sliceB lo hi n fun l h => K (.own r (off + l * sz) (h - l) sz) st
      | .slice _ _ _ _ _, .val (.slice none 0 0) => sliceB lo hi 0 fun _ _ => K x st
      | _, _ => False
  | .fAddr t x i => match ti X.P t with
    | .struct fs _ _ => match fs[i]? with
      | some (o, s, _) => 0 < s ∧ match x with
        | .ptr r off => K (.ptr r (off + o)) st
        | .imp cs => K (.imp (cs.drop o)) st
        | _ => False
      | none => False
    | _ => False
  | .field t x i => match ti X.P t, x with
    | .struct fs _ _, .agg cs => match fs[i]? with
      | some (o, s, g) => partA cs o s g fun y => K y st
      | none => False
    | _, _ => False
  | .iAddr t x i => match i with
    | .val (.int _ j) => match ti X.P t with
      | .slice _ sz _ _ _ => match x with
        | .im n cs => 0 ≤ j ∧ j < n ∧ j.toNat * sz < cs.length ∧ K (.imp (cs.drop (j.toNat * sz))) st
        | .own r off n s => s = sz ∧ 0 ≤ j ∧ j < n ∧ K (.ptr r (off + j.toNat * sz)) st
        | _ => False
      | .arr n esz _ _ _ => 0 ≤ j ∧ j < n ∧ match x with
        | .ptr r off => K (.ptr r (off + j.toNat * esz)) st
        | .imp cs => K (.imp (cs.drop (j.toNat * esz))) st
        | .val v => ∃ cs, VRel X.w0 [] v (.imp cs) ∧ K (.imp (cs.drop (j.toNat * esz))) st
        | _ => False
      | _ => False
    | _ => False
  | .index t x i => match i with
    | .val (.int _ j) => match ti X.P t, x with
      | .str _, .val (.string s) => 0 ≤ j ∧ match s.data[j.toNat]? with
        | some b => K (.val (.int .u8 (b.toNat : Int))) st
        | none => False
      | .arr n esz _ ea _, .agg cs => 0 ≤ j ∧ j < n ∧ partA cs (j.toNat * esz) esz ea fun y => K y st
      | _, _ => False
    | _ => False
  | .extract x i => match x with
    | .tup vs => match vs[i]? with
      | some y => K y st
      | none => False
    | _ => False
  | .blt b ts xs => match b, ts, xs with
    | .len, [t], [x] => match ti X.P t, x with
      | .str _, .val (.string s) => K (.val (.int .i64 (s.size : Int))) st
      | .slice _ _ _ _ _, .im n _ => n ≤ 9223372036854775807 → K (.val (.int .i64 (n : Int))) st
      | .slice _ _ _ _ _, .own _ _ n _ => n ≤ 9223372036854775807 → K (.val (.int .i64 (n : Int))) st
      | .slice _ _ _ _ _, .val (.slice none 0 0) => K (.val (.int .i64 0)) st
      | _, _ => False
    | .max, _, [.val (.int k a), .val (.int _ b)] => K (.val (.int k (if b > a then b else a))) st
    | .min, _, [.val (.int k a), .val (.int _ b)] => K (.val (.int k (if b < a then b else a))) st
    | .append, [t, t'], [x, y] => match ti X.P t, ti X.P t' with
      | .slice _ sz by_ _ _, .slice _ _ _ _ _ => appA X sz by_ x y st K
      | _, _ => False
    | .copy, [t, _], [x, y] => match ti X.P t, x with
      | .slice _ sz _ _ _, .own r off n s => s = sz ∧ X.st1.length ≤ r ∧ ∃ cs m ys, st[r]? = some (some cs) ∧ slc st y = some (m, ys) ∧ ys.length = m * sz ∧ ys.all leaf = true ∧ off + n * sz ≤ cs.length ∧
          K (.val (.int .i64 (min m n : Nat))) (st.set r (some (cs.take off ++ ys.take (min m n * sz) ++ cs.drop (off + min m n * sz))))
      | _, _ => False
    | _, _, _ => False
  | .call f xs => match f with
    | .fn (.func g) fs cs => ∃ R, FSpec X g R ∧ R (fs ++ xs ++ cs) st K
    | _ => False
  | .bad => False

/-- Operations that leave the world alone, and hand on the same in every world that has grown alone. -/
def pureA : AOp → Bool
  | .mv _ | .pick _ _ _ | .build _ _ | .load _ _ | .nilCk _ | .bin _ _ _ _ | .un _ _ | .mkFn _ _ _ | .slice _ _ _ _ _ | .fAddr _ _ _ | .field _ _ _ | .iAddr _ _ _ | .index _ _ _ | .extract _ _ => true
  | .conv _ _ _ => true
  | .blt .len _ _ | .blt .max _ _ | .blt .min _ _ => true
  | _ => false

end Go.Proofs.Pv
