/- The engine's second part: what is known of types, the abstract operations, and what each asks and hands on. -/
import Derived.Test.YtdaidpomfkgbeaaE1
set_option linter.unusedSimpArgs false
set_option linter.unusedVariables false
namespace Go.Proofs.Pv
open Go Go.RowKit

/-- What is known of a type: its kind, its zero value's cells. -/
inductive TI where
  | int (k : IntKind) (z : List Value)
  | bool (z : List Value)
  | str (z : List Value)
  | slice (e sz bytes : Nat) (ez : List Value) (z : List Value)
  | struct (fs : List (Nat × Nat × Bool)) (sz : Nat) (z : List Value)
  | arr (n esz sz : Nat) (eagg : Bool) (z : List Value)
  | oth (z : List Value)
  | bad

def szOf (P : Program) (t : TypeId) : Nat := match P.info? t with | some i => i.size | none => 0
def aggT (P : Program) (t : TypeId) : Bool := match P.underlying t with | some (.struct _) => true | some (.array _ _) => true | _ => false

def ti (P : Program) (t : TypeId) : TI :=
  match P.underlying t, P.info? t with
  | some d, some i =>
    match i.zero with
    | some z =>
      if z.cells.size = i.size then
        match d with
        | .slice e => match P.info? e with
          | some j => match j.zero with
            | some y => if i.size = 1 ∧ y.cells.size = j.size ∧ 0 < j.size then .slice e j.size j.bytes y.cells.toList z.cells.toList else .bad
            | none => .bad
          | none => .bad
        | .struct fs => if fs.toList.all (fun f => (P.underlying f.type).isSome && (P.info? f.type).isSome) then .struct (fs.toList.map fun f => (f.offset, szOf P f.type, aggT P f.type)) i.size z.cells.toList else .bad
        | .array n e => match P.info? e with
          | some j => if (P.underlying e).isSome then .arr n j.size i.size (aggT P e) z.cells.toList else .bad
          | none => .bad
        | .int k => if i.size = 1 then .int k z.cells.toList else .bad
        | .bool => if i.size = 1 then .bool z.cells.toList else .bad
        | .string => if i.size = 1 then .str z.cells.toList else .bad
        | _ => if i.size = 1 then .oth z.cells.toList else .bad
      else .bad
    | none => .bad
  | _, _ => .bad

def TI.zero : TI → List Value
  | .int _ z => z | .bool z => z | .str z => z | .slice _ _ _ _ z => z | .struct _ _ z => z | .arr _ _ _ _ z => z | .oth z => z | .bad => []
def TI.size : TI → Nat
  | .struct _ s _ => s | .arr _ _ s _ _ => s | .bad => 0 | _ => 1
def TI.isAgg : TI → Bool
  | .struct _ _ _ => true | .arr _ _ _ _ _ => true | _ => false
def TI.good : TI → Bool
  | .bad => false | _ => true
def TI.isB : TI → Bool
  | .bool _ => true | _ => false

section
variable {P : Program} {t : TypeId}
theorem ti_good (h : (ti P t).good = true) : ∃ d i z, P.underlying t = some d ∧ P.info? t = some i ∧ i.zero = some z ∧ z.cells.size = i.size ∧ (ti P t).size = i.size ∧ (ti P t).zero = z.cells.toList ∧ (ti P t).isAgg = aggT P t := by
  unfold ti at *
  cases hd : P.underlying t with
  | none => simp [hd, TI.good] at h
  | some d =>
    cases hi : P.info? t with
    | none => simp [hd, hi, TI.good] at h
    | some i =>
      cases hz : i.zero with
      | none => simp [hd, hi, hz, TI.good] at h
      | some z =>
        simp only [hd, hi, hz] at h ⊢
        by_cases hs : z.cells.size = i.size
        · refine ⟨d, i, z, rfl, rfl, hz, hs, ?_⟩
          simp only [hs, if_true] at h ⊢
          cases d with
          | slice e =>
            simp only at h ⊢
            cases hj : P.info? e with
            | none => simp [hj, TI.good] at h
            | some j =>
              cases hy : j.zero with
              | none => simp [hj, hy, TI.good] at h
              | some y =>
                simp only [hj, hy] at h ⊢
                by_cases hc : i.size = 1 ∧ y.cells.size = j.size ∧ 0 < j.size
                · rw [if_pos hc]; exact ⟨hc.1.symm, rfl, by simp [TI.isAgg, aggT, hd]⟩
                · rw [if_neg hc] at h; simp [TI.good] at h
          | struct fs =>
            simp only at h ⊢
            by_cases hc : fs.toList.all (fun f => (P.underlying f.type).isSome && (P.info? f.type).isSome) = true
            · rw [if_pos hc]; exact ⟨rfl, rfl, by simp [TI.isAgg, aggT, hd]⟩
            · rw [if_neg hc] at h; simp [TI.good] at h
          | array n e =>
            simp only at h ⊢
            cases hj : P.info? e with
            | none => simp [hj, TI.good] at h
            | some j =>
              simp only [hj] at h ⊢
              by_cases hc : (P.underlying e).isSome = true
              · rw [if_pos hc]; exact ⟨rfl, rfl, by simp [TI.isAgg, aggT, hd]⟩
              · rw [if_neg hc] at h; simp [TI.good] at h
          | _ =>
            simp only at h ⊢
            by_cases hc : i.size = 1
            · rw [if_pos hc]; exact ⟨hc.symm, rfl, by simp [TI.isAgg, aggT, hd]⟩
            · rw [if_neg hc] at h; simp [TI.good] at h
        · rw [if_neg hs] at h; simp [TI.good] at h

theorem ti_int {k : IntKind} {z : List Value} (h : ti P t = .int k z) : P.underlying t = some (.int k) := by
  unfold ti at h; (repeat' split at h) <;> simp_all
theorem ti_bool {z : List Value} (h : ti P t = .bool z) : P.underlying t = some .bool := by
  unfold ti at h; (repeat' split at h) <;> simp_all
theorem ti_isB (h : (ti P t).isB = true) : P.underlying t = some .bool := by
  cases hb : ti P t <;> rw [hb] at h <;> simp [TI.isB] at h
  exact ti_bool hb
theorem ti_str {z : List Value} (h : ti P t = .str z) : P.underlying t = some .string := by
  unfold ti at h; (repeat' split at h) <;> simp_all
theorem ti_slice {e sz by_ : Nat} {ez z : List Value} (h : ti P t = .slice e sz by_ ez z) :
    P.underlying t = some (.slice e) ∧ ∃ j y, P.info? e = some j ∧ j.size = sz ∧ j.bytes = by_ ∧ j.zero = some y ∧ y.cells.toList = ez ∧ ez.length = sz ∧ 0 < sz := by
  unfold ti at h
  (repeat' split at h) <;> simp_all
  obtain ⟨_, _, _, h4, _⟩ := h
  have h5 := congrArg List.length h4
  simp only [Array.length_toList] at h5
  omega
theorem ti_struct {fs : List (Nat × Nat × Bool)} {sz : Nat} {z : List Value} (h : ti P t = .struct fs sz z) :
    ∃ f, P.underlying t = some (.struct f) ∧ f.toList.map (fun f => (f.offset, szOf P f.type, aggT P f.type)) = fs ∧ ∀ x ∈ f.toList, (P.underlying x.type).isSome = true ∧ (P.info? x.type).isSome = true := by
  unfold ti at h
  cases hd : P.underlying t with
  | none => simp [hd] at h
  | some d =>
    cases hi : P.info? t with
    | none => simp [hd, hi] at h
    | some i =>
      cases hz : i.zero with
      | none => simp [hd, hi, hz] at h
      | some y =>
        simp only [hd, hi, hz] at h
        split at h
        · cases d with
          | struct f =>
            simp only at h
            split at h
            · rename_i hc
              cases h
              exact ⟨f, rfl, rfl, fun x hx => by simpa using List.all_eq_true.1 hc x hx⟩
            · cases h
          | _ => simp only at h; (repeat' split at h) <;> cases h
        · cases h
theorem ti_arr {n esz sz : Nat} {ea : Bool} {z : List Value} (h : ti P t = .arr n esz sz ea z) :
    ∃ e j, P.underlying t = some (.array n e) ∧ P.info? e = some j ∧ j.size = esz ∧ aggT P e = ea ∧ (P.underlying e).isSome = true := by
  unfold ti at h
  (repeat' split at h) <;> simp_all
end

/-- An operation with its operands' values. -/
inductive AOp where
  | mv (x : AV)
  | pick (c a b : AV)
  | alloc (t : TypeId)
  | box (t : TypeId) (x : AV)
  | build (t : TypeId) (ps : List (Nat × AV))
  | buildSl (t : TypeId) (n : Nat) (ps : List (Nat × AV))
  | load (t : TypeId) (x : AV)
  | store (t : TypeId) (x y : AV)
  | nilCk (x : AV)
  | bin (b : BinOp) (t : TypeId) (x y : AV)
  | un (u : UnOp) (x : AV)
  | conv (a b : TypeId) (x : AV)
  | mkFn (f : Fn) (xs ys : List AV)
  | mkSl (t : TypeId) (x y : AV)
  | slice (t : TypeId) (x : AV) (lo hi mx : Option AV)
  | fAddr (t : TypeId) (x : AV) (i : Nat)
  | field (t : TypeId) (x : AV) (i : Nat)
  | iAddr (t : TypeId) (x i : AV)
  | index (t : TypeId) (x i : AV)
  | extract (x : AV) (i : Nat)
  | blt (b : Builtin) (ts : List TypeId) (xs : List AV)
  | call (f : AV) (xs : List AV)
  | bad

def aop (s : Sl) : Op → AOp
  | .move x => .mv (ev s x)
  | .assign x => .mv (ev s x)
  | .pick c a b => .pick (ev s c) (ev s a) (ev s b)
  | .alloc t => .alloc t
  | .box t x => .box t (ev s x)
  | .build t ps => .build t (ps.toList.map fun p => (p.1, ev s p.2))
  | .buildSlice t n ps => .buildSl t n (ps.toList.map fun p => (p.1, ev s p.2))
  | .load t x => .load t (ev s x)
  | .store t x y => .store t (ev s x) (ev s y)
  | .nilCheck x => .nilCk (ev s x)
  | .binOp b t x y _ => .bin b t (ev s x) (ev s y)
  | .unOp u _ x => .un u (ev s x)
  | .convert a b x => .conv a b (ev s x)
  | .makeFunc f xs ys => .mkFn f (xs.toList.map (ev s)) (ys.toList.map (ev s))
  | .makeSlice t x y => .mkSl t (ev s x) (ev s y)
  | .slice t x lo hi mx => .slice t (ev s x) (lo.map (ev s)) (hi.map (ev s)) (mx.map (ev s))
  | .fieldAddr t x i => .fAddr t (ev s x) i
  | .field t x i => .field t (ev s x) i
  | .indexAddr t x i => .iAddr t (ev s x) (ev s i)
  | .index t x i => .index t (ev s x) (ev s i)
  | .extract x i => .extract (ev s x) i
  | .call ⟨.builtin b, xs, ts⟩ => .blt b ts.toList (xs.toList.map (ev s))
  | .call ⟨.value f, xs, _⟩ => .call (ev s f) (xs.toList.map (ev s))
  | _ => .bad

def cellsA : AV → List AV
  | .agg cs => cs
  | x => [x]
def leaf : AV → Bool
  | .val v => v.oneCell'
  | .im _ _ => true
  | .imp _ => true
  | .own _ _ _ _ => true
  | .ptr _ _ => true
  | .fn _ _ _ => true
  | _ => false
def okCells : AV → Bool
  | .agg cs => cs.all leaf
  | x => leaf x

/-- What bits do. -/
def bitV (op : BinOp) (k : IntKind) (x y : Int) : Int :=
  match op with
  | .and => k.wrap ((BitVec.ofInt k.bits x &&& BitVec.ofInt k.bits y).toNat : Int)
  | .or => k.wrap ((BitVec.ofInt k.bits x ||| BitVec.ofInt k.bits y).toNat : Int)
  | .xor => k.wrap ((BitVec.ofInt k.bits x ^^^ BitVec.ofInt k.bits y).toNat : Int)
  | _ => k.wrap ((BitVec.ofInt k.bits x &&& ~~~(BitVec.ofInt k.bits y)).toNat : Int)

/-- Two whole numbers: what must hold, what comes. -/
def binI (op : BinOp) (k : IntKind) (a b : Int) (K : Value → Prop) : Prop :=
  match op with
  | .add => K (.int k (k.wrap (a + b)))
  | .sub => K (.int k (k.wrap (a - b)))
  | .mul => K (.int k (k.wrap (a * b)))
  | .quo => b ≠ 0 ∧ K (.int k (k.wrap (a.tdiv b)))
  | .rem => b ≠ 0 ∧ K (.int k (a.tmod b))
  | .and => K (.int k (bitV .and k a b))
  | .or => K (.int k (bitV .or k a b))
  | .xor => K (.int k (bitV .xor k a b))
  | .andNot => K (.int k (bitV .andNot k a b))
  | .eql => K (.bool (a == b))
  | .neq => K (.bool (a != b))
  | .lss => K (.bool (decide (a < b)))
  | .leq => K (.bool (decide (a ≤ b)))
  | .gtr => K (.bool (decide (a > b)))
  | .geq => K (.bool (decide (a ≥ b)))
  | .shl => 0 ≤ b ∧ K (.int k (k.wrap (a * 2 ^ (min b.toNat k.bits))))
  | .shr => 0 ≤ b ∧ K (.int k (a / 2 ^ (min b.toNat k.bits)))

def binV (bt : Bool) (op : BinOp) (u v : Value) (K : Value → Prop) : Prop :=
  match u, v with
  | .int k a, .int k' b =>
    match op with
    | .shl => binI .shl k a b K
    | .shr => binI .shr k a b K
    | op => k = k' ∧ binI op k a b K
  | .bool a, .bool b =>
    match op with
    | .eql => bt = true ∧ K (.bool (a == b))
    | .neq => bt = true ∧ K (.bool (a != b))
    | _ => False
  | .string a, .string b =>
    match op with
    | .add => a.size + b.size ≤ 9223372036854775807 ∧ K (.string (a ++ b))
    | .eql => K (.bool (a.toList == b.toList))
    | .neq => K (.bool !(a.toList == b.toList))
    | _ => False
  | _, _ => False

/-- A slice's elements' number and cells. -/
def slc (st : St) : AV → Option (Nat × List AV)
  | .im n cs => some (n, cs)
  | .own r off n sz => match st[r]? with
    | some (some cs) => some (n, (cs.drop off).take (n * sz))
    | _ => none
  | .val (.slice none 0 0) => some (0, [])
  | _ => none

def put1 (cs : List AV) (off : Nat) : AV → List AV
  | .agg ys => cs.take off ++ ys ++ cs.drop (off + ys.length)
  | y => cs.set off y

/-- One part of a struct or an array. -/
def partA (cs : List AV) (off sz : Nat) (ag : Bool) (K : AV → Prop) : Prop :=
  if ag then off + sz ≤ cs.length ∧ K (.agg ((cs.drop off).take sz)) else match cs[off]? with | some x => K x | none => False

def fillA (place : Nat → Option (Nat × Nat)) (cells : List AV) : List (Nat × AV) → Option (List AV)
  | [] => some cells
  | (i, x) :: rest =>
    match place i with
    | none => none
    | some (off, size) => if okCells x = true ∧ (cellsA x).length = size ∧ off + size ≤ cells.length then fillA place (cells.take off ++ cellsA x ++ cells.drop (off + size)) rest else none

end Go.Proofs.Pv
