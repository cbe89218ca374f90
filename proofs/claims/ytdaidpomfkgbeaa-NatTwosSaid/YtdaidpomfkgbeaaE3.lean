/- The engine's third part: what an operation asks of the abstract state, and what it hands on. -/
import Derived.Test.YtdaidpomfkgbeaaE2
set_option linter.unusedSimpArgs false
set_option linter.unusedVariables false
namespace Go.Proofs.Pv
open Go Go.RowKit

def VRels (w0 : World) (β : Bk) (vs : Array Value) (xs : List AV) : Prop := vs.size = xs.length ∧ ∀ (j : Nat) v x, vs[j]? = some v → xs[j]? = some x → VRel w0 β v x

def enterOK (P : Program) (f : FuncId) : Bool := match P.funcs[f]? with
  | some fn => fn.body.isSome && !(fn.name == "runtime.NumGoroutine")
  | none => false

/-- A contract, within a call. -/
def FSpec (X : Cx) (f : FuncId) (R : List AV → St → (AV → St → Prop) → Prop) : Prop :=
  enterOK X.P f = true ∧ ∀ (β : Bk) (st : St) (w : World) (vs : Array Value) (xs : List AV) (K : AV → St → Prop), Inv X β st w → VRels X.w0 β vs xs → R xs st K →
    Calls X.P f vs w (fun e w' => ∃ v x ex st', e = .returned v ∧ Inv X (β ++ ex) st' w' ∧ VRel X.w0 (β ++ ex) v x ∧ K x st')

/-- A contract of a function that changes nothing that was there. -/
def PSpec (P : Program) (f : FuncId) (R : List AV → St → (AV → St → Prop) → Prop) : Prop :=
  enterOK P f = true ∧ ∀ (w0 : World) (β : Bk) (st : St) (w : World) (vs : Array Value) (xs : List AV) (K : AV → St → Prop), Inv ⟨P, w0, w, st, β⟩ β st w → VRels w0 β vs xs → R xs st K →
    Calls P f vs w (fun e w' => ∃ v x ex st', e = .returned v ∧ Inv ⟨P, w0, w, st, β⟩ (β ++ ex) st' w' ∧ VRel w0 (β ++ ex) v x ∧ K x st')

/-- A world's store of before a call is one at the call's begin. -/
theorem Inv.here {X : Cx} {β : Bk} {st : St} {w : World} (h : Inv X β st w) : Inv ⟨X.P, X.w0, w, st, β⟩ β st w where
  b0 := h.b0.trans (h.b1.mono h.b0.size)
  b1 := Below.refl _ _
  len := h.len
  stp := ⟨[], by simp⟩
  bep := ⟨[], by simp⟩
  nw := fun r b m hr hb => by
    have := (List.getElem?_eq_some_iff.1 hb).1
    have := h.len
    simp only at hr
    omega
  ow := h.ow
  obj := h.obj
  inj := h.inj

theorem Inv.back {X : Cx} {β ex : Bk} {st st' : St} {w w' : World} (h : Inv X β st w) (h' : Inv ⟨X.P, X.w0, w, st, β⟩ (β ++ ex) st' w') : Inv X (β ++ ex) st' w' where
  b0 := h.b0
  b1 := h.b1.trans (h'.b1.mono h.b1.size)
  len := h'.len
  stp := by
    obtain ⟨y, hy⟩ := h.stp
    obtain ⟨z, hz⟩ := h'.stp
    exact ⟨y ++ z, by rw [hz, ← List.append_assoc, ← hy]⟩
  bep := by
    obtain ⟨y, hy⟩ := h.bep
    exact ⟨y ++ ex, by rw [← List.append_assoc, ← hy]⟩
  nw := fun r b m hr hb => by
    by_cases hlt : r < β.length
    · rw [List.getElem?_append_left hlt] at hb
      exact h.nw r b m hr hb
    · exact Nat.le_trans h.b1.size (h'.nw r b m (by have := h.len; simp only; omega) hb)
  ow := h'.ow
  obj := h'.obj
  inj := h'.inj

theorem PSpec.to_f {X : Cx} {f : FuncId} {R : List AV → St → (AV → St → Prop) → Prop} (h : PSpec X.P f R) : FSpec X f R :=
  ⟨h.1, fun β st w vs xs K hI hv hR => (h.2 X.w0 β st w vs xs K hI.here hv hR).mono fun _ _ ⟨v, x, ex, st', he, hI', hx, hK⟩ => ⟨v, x, ex, st', he, hI.back hI', hx, hK⟩⟩

def sliceB (lo hi : Option AV) (n : Nat) (F : Nat → Nat → Prop) : Prop :=
  match lo, hi with
  | none, none => F 0 n
  | some (.val (.int _ l)), none => 0 ≤ l ∧ l ≤ n ∧ F l.toNat n
  | none, some (.val (.int _ h)) => 0 ≤ h ∧ h ≤ n ∧ F 0 h.toNat
  | some (.val (.int _ l)), some (.val (.int _ h)) => 0 ≤ l ∧ l ≤ h ∧ h ≤ n ∧ F l.toNat h.toNat
  | _, _ => False

def zrow (n : Nat) (z : List Value) : List AV := (List.replicate n (z.map AV.val)).flatten

/-- Loads. -/
def loadA (P : Program) (t : TypeId) (cs : List AV) (off : Nat) (K : AV → Prop) : Prop := (ti P t).good = true ∧ partA cs off (ti P t).size (ti P t).isAgg K

def appA (X : Cx) (sz by_ : Nat) (x y : AV) (st : St) (K : AV → St → Prop) : Prop :=
  ∃ m ys, slc st y = some (m, ys) ∧ ys.length = m * sz ∧ ys.all leaf = true ∧
    match x with
    | .own r 0 n s => s = sz ∧ X.st1.length ≤ r ∧ ∃ cs, st[r]? = some (some cs) ∧ n * sz ≤ cs.length ∧ (n + m) * by_ ≤ 140737488355328 ∧ n + m ≤ 9223372036854775807 ∧
        K (.own st.length 0 (n + m) sz) (st.set r none ++ [some (cs.take (n * sz) ++ ys)])
    | .val (.slice none 0 0) => m * by_ ≤ 140737488355328 ∧ m ≤ 9223372036854775807 ∧ K (.own st.length 0 m sz) (st ++ [some ys])
    | _ => False

def vcE (X : Cx) (o : AOp) (st : St) (K : AV → St → Prop) : Prop :=
  match o with
  | .mv x => K x st
  | .pick c a b => match c with
    | .val (.bool t) => if t = true then K a st else K b st
    | _ => False
  | .alloc t => (ti X.P t).good = true ∧ K (.ptr st.length 0) (st ++ [some ((ti X.P t).zero.map AV.val)])
  | .box _ x => okCells x = true ∧ K (.ptr st.length 0) (st ++ [some (cellsA x)])
  | .build t ps => match ti X.P t with
    | .struct fs _ z => match fillA (fun i => (fs[i]?).map fun f => (f.1, f.2.1)) (z.map AV.val) ps with
      | some cs => K (.agg cs) st
      | none => False
    | _ => False
  | .buildSl t n ps => match ti X.P t with
    | .slice _ sz _ ez _ => n * sz ≤ 16777216 ∧ n ≤ 9223372036854775807 ∧ match fillA (fun i => some (i * sz, sz)) (zrow n ez) ps with
      | some cs => K (.own st.length 0 n sz) (st ++ [some cs])
      | none => False
    | _ => False
  | .load t x => match x with
    | .ptr r off => match st[r]? with
      | some (some cs) => loadA X.P t cs off fun y => K y st
      | _ => False
    | .imp cs => loadA X.P t cs 0 fun y => K y st
    | .val v => ∃ cs, VRel X.w0 [] v (.imp cs) ∧ loadA X.P t cs 0 fun y => K y st
    | _ => False
  | .store t x y => match x with
    | .ptr r off => X.st1.length ≤ r ∧ match st[r]? with
      | some (some cs) => (ti X.P t).good = true ∧ okCells y = true ∧ (cellsA y).length = (ti X.P t).size ∧ off + (cellsA y).length ≤ cs.length ∧ K undefA (st.set r (some (put1 cs off y)))
      | _ => False
    | _ => False
  | .nilCk x => match x with
    | .ptr _ _ => K x st
    | .imp _ => K x st
    | .fn (.func _) _ _ => K x st
    | .val (.pointer (some _)) => K x st
    | _ => False
  | .bin b t x y => match x, y with
    | .val u, .val v => binV (ti X.P t).isB b u v fun r => K (.val r) st
    | _, _ => False
  | .un u x => match u, x with
    | .neg, .val (.int k n) => K (.val (.int k (k.wrap (0 - n)))) st
    | .not, .val (.bool b) => K (.val (.bool !b)) st
    | .xor, .val (.int k n) => K (.val (.int k (bitV .xor k (if k.signed then -1 else k.max) n))) st
    | _, _ => False
  | .conv a b x => match ti X.P a, ti X.P b, x with
    | .int _ _, .int k _, .val (.int _ n) => K (.val (.int k (k.wrap n))) st
    | .slice e _ _ _ _, .str _, x => ∃ z, ti X.P e = .int .u8 z ∧ ∃ bs : List UInt8, slc st x = some (bs.length, bs.map fun b => AV.val (.int .u8 (b.toNat : Int))) ∧ K (.val (.string ⟨bs.toArray⟩)) st
    | _, _, _ => False
  | .mkFn f xs ys => K (.fn f xs ys) st
  | .mkSl t x y => match ti X.P t, x, y with
    | .slice _ sz by_ ez _, .val (.int .i64 n), .val (.int .i64 m) => m = n ∧ 0 ≤ n ∧ n ≤ 9223372036854775807 ∧ by_ * n ≤ 281474976710656 ∧ K (.own st.length 0 n.toNat sz) (st ++ [some (zrow n.toNat ez)])
    | _, _, _ => False
  | .slice t x lo hi mx => match mx with
    | some _ => False
    | none => match ti X.P t, x with
      | .str _, .val (.string s) => sliceB lo hi s.size fun l h => K (.val (.string (s.extract l h))) st
      | .slice _ sz _ _ _, .im n cs => sliceB lo hi n fun l h => K (.im (h - l) ((cs.drop (l * sz)).take ((h - l) * sz))) st
      | .slice _ sz _ _ _, .own r off n s => s = sz ∧ sliceB lo hi n fun l h => K (.own r (off + l * sz) (h - l) sz) st
      | .slice _ _ _ _ _, .val (.slice none 0 0) => sliceB lo hi 0 fun _ _ => K x st
      | _, _ => False
  | .fAddr t x i => match ti X.P t with
    | .struct fs _ _ => match fs[i]? with
      | some (o, s, _) => 0 < s ∧ match x with
        | .ptr r off => K (.ptr r (off + o)) st
        | .imp cs => K (.imp (cs.drop o)) st
        | _ => False
      | none => False
    | _ => False
  | .field t x i => match ti X.P t, x with
    | .struct fs _ _, .agg cs => match fs[i]? with
      | some (o, s, g) => partA cs o s g fun y => K y st
      | none => False
    | _, _ => False
  | .iAddr t x i => match i with
    | .val (.int _ j) => match ti X.P t with
      | .slice _ sz _ _ _ => match x with
        | .im n cs => 0 ≤ j ∧ j < n ∧ j.toNat * sz < cs.length ∧ K (.imp (cs.drop (j.toNat * sz))) st
        | .own r off n s => s = sz ∧ 0 ≤ j ∧ j < n ∧ K (.ptr r (off + j.toNat * sz)) st
        | _ => False
      | .arr n esz _ _ _ => 0 ≤ j ∧ j < n ∧ match x with
        | .ptr r off => K (.ptr r (off + j.toNat * esz)) st
        | .imp cs => K (.imp (cs.drop (j.toNat * esz))) st
        | .val v => ∃ cs, VRel X.w0 [] v (.imp cs) ∧ K (.imp (cs.drop (j.toNat * esz))) st
        | _ => False
      | _ => False
    | _ => False
  | .index t x i => match i with
    | .val (.int _ j) => match ti X.P t, x with
      | .str _, .val (.string s) => 0 ≤ j ∧ match s.data[j.toNat]? with
        | some b => K (.val (.int .u8 (b.toNat : Int))) st
        | none => False
      | .arr n esz _ ea _, .agg cs => 0 ≤ j ∧ j < n ∧ partA cs (j.toNat * esz) esz ea fun y => K y st
      | _, _ => False
    | _ => False
  | .extract x i => match x with
    | .tup vs => match vs[i]? with
      | some y => K y st
      | none => False
    | _ => False
  | .blt b ts xs => match b, ts, xs with
    | .len, [t], [x] => match ti X.P t, x with
      | .str _, .val (.string s) => K (.val (.int .i64 (s.size : Int))) st
      | .slice _ _ _ _ _, .im n _ => n ≤ 9223372036854775807 → K (.val (.int .i64 (n : Int))) st
      | .slice _ _ _ _ _, .own _ _ n _ => n ≤ 9223372036854775807 → K (.val (.int .i64 (n : Int))) st
      | .slice _ _ _ _ _, .val (.slice none 0 0) => K (.val (.int .i64 0)) st
      | _, _ => False
    | .max, _, [.val (.int k a), .val (.int _ b)] => K (.val (.int k (if b > a then b else a))) st
    | .min, _, [.val (.int k a), .val (.int _ b)] => K (.val (.int k (if b < a then b else a))) st
    | .append, [t, t'], [x, y] => match ti X.P t, ti X.P t' with
      | .slice _ sz by_ _ _, .slice _ _ _ _ _ => appA X sz by_ x y st K
      | _, _ => False
    | .copy, [t, _], [x, y] => match ti X.P t, x with
      | .slice _ sz _ _ _, .own r off n s => s = sz ∧ X.st1.length ≤ r ∧ ∃ cs m ys, st[r]? = some (some cs) ∧ slc st y = some (m, ys) ∧ ys.length = m * sz ∧ ys.all leaf = true ∧ off + n * sz ≤ cs.length ∧
          K (.val (.int .i64 (min m n : Nat))) (st.set r (some (cs.take off ++ ys.take (min m n * sz) ++ cs.drop (off + min m n * sz))))
      | _, _ => False
    | _, _, _ => False
  | .call f xs => match f with
    | .fn (.func g) fs cs => ∃ R, FSpec X g R ∧ R (fs ++ xs ++ cs) st K
    | _ => False
  | .bad => False

/-- Operations that leave the world alone, and hand on the same in every world that has grown alone. -/
def pureA : AOp → Bool
  | .mv _ | .pick _ _ _ | .build _ _ | .load _ _ | .nilCk _ | .bin _ _ _ _ | .un _ _ | .mkFn _ _ _ | .slice _ _ _ _ _ | .fAddr _ _ _ | .field _ _ _ | .iAddr _ _ _ | .index _ _ _ | .extract _ _ => true
  | .conv _ _ _ => true
  | .blt .len _ _ | .blt .max _ _ | .blt .min _ _ => true
  | _ => false

end Go.Proofs.Pv
