/- The engine's eleventh part: the walk as equations. -/
import Derived.Test.YtmclabehpfpnnaaGreatDoorE10
import Derived.IntWalk
set_option linter.unusedSimpArgs false
set_option linter.unusedVariables false
namespace Go.Proofs.Pv
open Go Go.RowKit

/-- What is to come behind a code. -/
inductive Fr where
  | seq (c : Code)
  | blk (id : Nat)
  | scp
  | lp (F : Sl → St → Prop)

def unw (X : Cx) : List Fr → Post → Post
  | [], Q => Q
  | .seq c :: k, Q => thenP (vc X c (unw X k Q)) (unw X k Q)
  | .blk i :: k, Q => blkP i (unw X k Q)
  | .scp :: k, Q => scpP (unw X k Q)
  | .lp F :: k, Q => thenP F (unw X k Q)

/-- A statement closed up: reduction stops here. -/
structure Box (p : Prop) : Prop where
  out : p
theorem box_eq {p : Prop} : Box p = p := propext ⟨Box.out, Box.mk⟩

/-- Holds a term's other arguments still under rewriting. -/
abbrev Tg {α : Type} (_ : α) : Type := Unit

def V (X : Cx) (c : Code) (k : List Fr) (Q : Post) (_ : Tg (X, c, k, Q)) (s : Sl) (st : St) : Prop := vc X c (unw X k Q) s st
def R (X : Cx) (k : List Fr) (Q : Post) (_ : Tg (X, k, Q)) (s : Sl) (st : St) (e : Exit) : Prop := unw X k Q e s st
def C (X : Cx) (a b : Code) (k : List Fr) (Q : Post) (_ : Tg (X, a, b, k, Q)) (s : Sl) (st : St) (x : AV) : Prop := Box <| match x with
  | .val (.bool t) => if t = true then vc X a (unw X k Q) s st else vc X b (unw X k Q) s st
  | _ => False
def O (d : Bool) (X : Cx) (full ops : List Oper) (k : List Fr) (Q : Post) (_ : Tg (X, full, ops, k, Q)) (s : Sl) (st : St) : Prop := vcO d X full ops s st (unw X k Q .normal)
def E (d : Bool) (X : Cx) (dst : Option Nat) (full rest : List Oper) (k : List Fr) (Q : Post) (_ : Tg (X, full, rest, k, Q)) (s : Sl) (st : St) (o : AOp) : Prop :=
  vcE3 d X o st fun v st' => vcO d X full rest (putS dst v s) st' (unw X k Q .normal)
def G (d : Bool) (X : Cx) (dst : Option Nat) (op : Op) (want : Bool) (full rest : List Oper) (k : List Fr) (Q : Post) (_ : Tg (X, op, full, rest, k, Q)) (s : Sl) (st : St) (x : AV) : Prop :=
  Box <| match x with
  | .val (.bool b) => if b = want then vcE3 d X (aop s op) st fun v st' => vcO d X full rest (putS dst v s) st' (unw X k Q .normal) else vcO d X full rest (putS dst undefA s) st (unw X k Q .normal)
  | .val _ => vcO d X full rest (putS dst undefA s) st (unw X k Q .normal)
  | _ => False

section
variable {X : Cx} {k : List Fr} {Q : Post} {s : Sl} {st : St} {d : Bool} {full rest : List Oper} {dst : Option Nat}

theorem V_seq {a b : Code} {u} : V X (.seq a b) k Q u s st = V X a (.seq b :: k) Q () s st := rfl
theorem V_skip {u} : V X .skip k Q u s st = R X k Q () s st .normal := rfl
theorem V_ret {u} : V X .ret k Q u s st = R X k Q () s st .ret := rfl
theorem V_exit {i : Nat} {u} : V X (.exit i) k Q u s st = R X k Q () s st (.exit i) := rfl
theorem V_label {i : Nat} {u} : V X (.label i) k Q u s st = R X k Q () s st .normal := rfl
theorem V_block {i : Nat} {c : Code} {u} : V X (.block i c) k Q u s st = V X c (.blk i :: k) Q () s st := rfl
theorem V_scope {c : Code} {u} : V X (.scope c) k Q u s st = V X c (.scp :: k) Q () s st := rfl
theorem V_region {i : Nat} {l : List Oper} {u} : V X (.region i (List.toArray l) false) k Q u s st = O false X l l k Q () s st := rfl
theorem V_cond {c : Operand} {a b : Code} {u} : V X (.cond c a b) k Q u s st = C X a b k Q () s st (ev s c) := box_eq.symm
theorem C_true {a b : Code} {u} : C X a b k Q u s st (.val (.bool true)) = V X a k Q () s st := box_eq
theorem C_false {a b : Code} {u} : C X a b k Q u s st (.val (.bool false)) = V X b k Q () s st := box_eq
theorem C_dec {a b : Code} {u} {p : Prop} [Decidable p] (h1 : p → V X a k Q () s st) (h2 : ¬p → V X b k Q () s st) : C X a b k Q u s st (.val (.bool (decide p))) := by
  by_cases h : p
  · rw [decide_eq_true h]; exact ⟨h1 h⟩
  · rw [decide_eq_false h]; exact ⟨h2 h⟩
theorem C_bool {a b : Code} {u} {t : Bool} (h1 : t = true → V X a k Q () s st) (h2 : t = false → V X b k Q () s st) : C X a b k Q u s st (.val (.bool t)) := by
  cases t
  · exact ⟨h2 rfl⟩
  · exact ⟨h1 rfl⟩

theorem R_nil {e : Exit} {u} : R X [] Q u s st e = Q e s st := rfl
theorem R_seqN {c : Code} {u} : R X (.seq c :: k) Q u s st .normal = V X c k Q () s st := rfl
theorem R_seqE {c : Code} {i : Nat} {u} : R X (.seq c :: k) Q u s st (.exit i) = R X k Q () s st (.exit i) := rfl
theorem R_seqR {c : Code} {u} : R X (.seq c :: k) Q u s st .ret = R X k Q () s st .ret := rfl
theorem R_blkN {i : Nat} {u} : R X (.blk i :: k) Q u s st .normal = R X k Q () s st .normal := rfl
theorem R_blkE {i j : Nat} {u} : R X (.blk j :: k) Q u s st (.exit i) = bif i == j then R X k Q () s st .normal else R X k Q () s st (.exit i) := rfl
theorem R_blkR {i : Nat} {u} : R X (.blk i :: k) Q u s st .ret = R X k Q () s st .ret := rfl
theorem R_scpN {u} : R X (.scp :: k) Q u s st .normal = R X k Q () s st .normal := rfl
theorem R_scpE {i : Nat} {u} : R X (.scp :: k) Q u s st (.exit i) = R X k Q () s st (.exit i) := rfl
theorem R_scpR {u} : R X (.scp :: k) Q u s st .ret = R X k Q () s st .ret := rfl
theorem R_lpN {F : Sl → St → Prop} {u} : R X (.lp F :: k) Q u s st .normal = F s st := rfl
theorem R_lpE {F : Sl → St → Prop} {i : Nat} {u} : R X (.lp F :: k) Q u s st (.exit i) = R X k Q () s st (.exit i) := rfl
theorem R_lpR {F : Sl → St → Prop} {u} : R X (.lp F :: k) Q u s st .ret = R X k Q () s st .ret := rfl

theorem O_nil {u} : O d X full [] k Q u s st = R X k Q () s st .normal := rfl
theorem O_cons {op : Op} {t : TypeId} {p : String} {af : Array Edge} {u} : O d X full (⟨dst, op, t, p, af, none⟩ :: rest) k Q u s st = E d X dst full rest k Q () s st (aop s op) := rfl
theorem O_guard {op : Op} {t : TypeId} {p : String} {af : Array Edge} {g : Nat} {w : Bool} {u} : O d X full (⟨dst, op, t, p, af, some (g, w)⟩ :: rest) k Q u s st = G d X dst op w full rest k Q () s st (gvd full s g) := box_eq.symm
theorem gvd_zero {op : Op} {t : TypeId} {p : String} {af : Array Edge} {g : Option (Nat × Bool)} {n : Nat} {l : List Oper} : gvd (⟨some n, op, t, p, af, g⟩ :: l) s 0 = Sl.get s n := rfl
theorem gvd_succ {o : Oper} {n : Nat} {l : List Oper} : gvd (o :: l) s (n + 1) = gvd l s n := rfl
theorem G_tt {op : Op} {u} : G d X dst op true full rest k Q u s st (.val (.bool true)) = E d X dst full rest k Q () s st (aop s op) := box_eq
theorem G_ff {op : Op} {u} : G d X dst op false full rest k Q u s st (.val (.bool false)) = E d X dst full rest k Q () s st (aop s op) := box_eq
theorem G_tf {op : Op} {u} : G d X dst op true full rest k Q u s st (.val (.bool false)) = O d X full rest k Q () (putS dst undefA s) st := box_eq
theorem G_ft {op : Op} {u} : G d X dst op false full rest k Q u s st (.val (.bool true)) = O d X full rest k Q () (putS dst undefA s) st := box_eq
theorem G_un {op : Op} {w : Bool} {u} : G d X dst op w full rest k Q u s st undefA = O d X full rest k Q () (putS dst undefA s) st := box_eq

theorem G_dec {op : Op} {p : Prop} [Decidable p] {u} (h1 : p → E d X dst full rest k Q () s st (aop s op)) (h2 : ¬p → O d X full rest k Q () (putS dst undefA s) st) : G d X dst op true full rest k Q u s st (.val (.bool (decide p))) := by
  by_cases h : p
  · rw [decide_eq_true h]; exact ⟨h1 h⟩
  · rw [decide_eq_false h]; exact ⟨h2 h⟩
theorem G_ndec {op : Op} {p : Prop} [Decidable p] {u} (h1 : ¬p → E d X dst full rest k Q () s st (aop s op)) (h2 : p → O d X full rest k Q () (putS dst undefA s) st) : G d X dst op false full rest k Q u s st (.val (.bool (decide p))) := by
  by_cases h : p
  · rw [decide_eq_true h]; exact ⟨h2 h⟩
  · rw [decide_eq_false h]; exact ⟨h1 h⟩
theorem G_bool {op : Op} {w b : Bool} {u} (h1 : b = w → E d X dst full rest k Q () s st (aop s op)) (h2 : b ≠ w → O d X full rest k Q () (putS dst undefA s) st) : G d X dst op w full rest k Q u s st (.val (.bool b)) := by
  by_cases h : b = w
  · unfold G; simp only [if_pos h]; exact ⟨h1 h⟩
  · unfold G; simp only [if_neg h]; exact ⟨h2 h⟩

/-- Slots of one are the other's. -/
def Fits : Sl → Sl → Prop
  | [], _ => True
  | (k, x) :: l, s => x = Sl.get s k ∧ Fits l s
theorem fits_nil : Fits [] s = True := rfl
theorem fits_cons {k : Nat} {x : AV} {l : Sl} : Fits ((k, x) :: l) s = (x = Sl.get s k ∧ Fits l s) := rfl

/-- A loop's head again, with less to come. -/
def Again {ι : Type} (S : ι → Sl) (T : ι → St) (p : ι → Prop) (μ : ι → Nat) (i : ι) (_ : Tg (S, T, p, μ, i)) (s' : Sl) (st' : St) : Prop := ∃ j, p j ∧ μ j < μ i ∧ T j = st' ∧ Fits (S j) s'
theorem again {ι : Type} {S : ι → Sl} {T : ι → St} {p : ι → Prop} {μ : ι → Nat} {i : ι} {u} {s' : Sl} {st' : St} (j : ι) (hp : p j) (hm : μ j < μ i) (ht : T j = st') (hs : Fits (S j) s') : Again S T p μ i u s' st' := ⟨j, hp, hm, ht, hs⟩

/-- The state at a loop's head, by data i: the slots and the objects. -/
theorem V_loop {c : Code} {u} {ι : Type} (S : ι → Sl) (T : ι → St) (p : ι → Prop) (μ : ι → Nat) (i0 : ι) (hp : p i0) (ht : T i0 = st) (hs : Fits (S i0) s)
    (hr : ∀ i, p i → V X c (.lp (Again S T p μ i ()) :: k) Q () (S i) (T i)) : V X (.loop c) k Q u s st := by
  have fit : ∀ (l s : Sl), Fits l s → Fit s l := by
    intro l s h n
    induction l with
    | nil => exact .inl rfl
    | cons q l ih =>
      obtain ⟨m, x⟩ := q
      rw [get_cons]
      by_cases hn : n = m
      · subst hn; simp only [BEq.rfl, cond_true]; exact .inr h.1
      · have hb : (n == m) = false := by simpa using hn
        rw [hb, cond_false]; exact ih h.2
  refine ⟨fun n s' st' => ∃ i, p i ∧ μ i = n ∧ S i = s' ∧ T i = st', ⟨μ i0, S i0, fit _ _ hs, i0, hp, rfl, rfl, ht⟩, ?_⟩
  rintro n s' st' ⟨i, hp, rfl, rfl, rfl⟩
  refine ⟨Again S T p μ i (), ?_, hr i hp⟩
  rintro s2 st2 ⟨j, h1, h2, h3, h4⟩
  exact ⟨μ j, S j, h2, fit _ _ h4, j, h1, rfl, rfl, h3⟩
end
end Go.Proofs.Pv

/- The engine's twelfth part: the operations as equations. -/
namespace Go.Proofs.Pv
open Go Go.RowKit

/-- A text's bytes. -/
def sb (s : ByteArray) : List Nat := s.data.toList.map UInt8.toNat
theorem sb_length (s : ByteArray) : (sb s).length = s.size := by simp [sb]
theorem sb_in (s : ByteArray) (i : Nat) (b : UInt8) (h : s.data[i]? = some b) : i < (sb s).length ∧ (sb s).getD i 0 = b.toNat := by
  obtain ⟨h1, h2⟩ := Array.getElem?_eq_some_iff.1 h
  refine ⟨by simpa [sb] using h1, ?_⟩
  unfold sb
  rw [List.getD_eq_getElem?_getD, List.getElem?_map, Array.getElem?_toList, h]
  rfl
theorem sb_out (s : ByteArray) (i : Nat) (h : s.data[i]? = none) : ¬i < (sb s).length := by
  intro h2
  have h3 : i < s.data.size := by simpa [sb] using h2
  rw [Array.getElem?_eq_getElem h3] at h; cases h
def Im (p q : Prop) : Prop := p → q
theorem im_of {p q : Prop} (h : p) : Im p q = q := propext ⟨fun f => f h, fun a _ => a⟩
theorem and_of {p q : Prop} (h : p) : (p ∧ q) = q := propext ⟨fun f => f.2, fun a => ⟨h, a⟩⟩

/-- Operations whose types are read. -/
inductive BOp where
  | alloc (T : TI)
  | build (T : TI) (ps : List (Nat × AV))
  | buildSl (T : TI) (n : Nat) (ps : List (Nat × AV))
  | load (T : TI) (x : AV)
  | store (T : TI) (x y : AV)
  | bin (T : TI) (b : BinOp) (x y : AV)
  | conv (A B : TI) (x : AV)
  | mkSl (T : TI) (x y : AV)
  | slice (T : TI) (x : AV) (lo hi : Option AV)
  | fAddr (T : TI) (x : AV) (i : Nat)
  | field (T : TI) (x : AV) (i : Nat)
  | iAddr (T : TI) (x i : AV)
  | index (T : TI) (x i : AV)
  | len (T : TI) (x : AV)
  | append (T U : TI) (x y : AV)
  | copy (T : TI) (x y : AV)

def vcF (X : Cx) (o : BOp) (st : St) (K : AV → St → Prop) : Prop :=
  match o with
  | .alloc T => T.good = true ∧ K (.ptr st.length 0) (st ++ [some (T.zero.map AV.val)])
  | .build T ps => match T with
    | .struct fs _ z => match fillA (fun i => (fs[i]?).map fun f => (f.1, f.2.1)) (z.map AV.val) ps with
      | some cs => K (.agg cs) st
      | none => False
    | .arr _ esz _ _ z => match fillA (fun i => some (i * esz, esz)) (z.map AV.val) ps with
      | some cs => K (.agg cs) st
      | none => False
    | _ => False
  | .buildSl T n ps => match T with
    | .slice _ sz _ ez _ => n * sz ≤ 16777216 ∧ n ≤ 9223372036854775807 ∧ match fillA (fun i => some (i * sz, sz)) (zrow n ez) ps with
      | some cs => K (.own st.length 0 n sz) (st ++ [some cs])
      | none => False
    | _ => False
  | .load T x => match x with
    | .el y sz o => match sl sz st y with
      | some (_, cs) => o < cs.length ∧ T.good = true ∧ partA cs o T.size T.isAgg fun v => K v st
      | none => False
    | .ptr r off => match st[r]? with
      | some (some cs) => T.good = true ∧ partA cs off T.size T.isAgg fun y => K y st
      | _ => False
    | .imp cs => T.good = true ∧ partA cs 0 T.size T.isAgg fun y => K y st
    | .val v => ∃ cs, VRel X.w0 [] v (.imp cs) ∧ T.good = true ∧ partA cs 0 T.size T.isAgg fun y => K y st
    | _ => False
  | .store T x y => match x with
    | .el (.own r off _ _) _ o => X.st1.length ≤ r ∧ match st[r]? with
      | some (some cs) => T.good = true ∧ okCells y = true ∧ (cellsA y).length = T.size ∧ off + o + (cellsA y).length ≤ cs.length ∧ K undefA (st.set r (some (put1 cs (off + o) y)))
      | _ => False
    | .ptr r off => X.st1.length ≤ r ∧ match st[r]? with
      | some (some cs) => T.good = true ∧ okCells y = true ∧ (cellsA y).length = T.size ∧ off + (cellsA y).length ≤ cs.length ∧ K undefA (st.set r (some (put1 cs off y)))
      | _ => False
    | _ => False
  | .bin T b x y => match x, y with
    | .val u, .val v => binV T.isB b u v fun r => K (.val r) st
    | _, _ => False
  | .conv A B x => match A, B, x with
    | .int _ _, .int k _, .val (.int _ n) => K (.val (.int k (k.wrap n))) st
    | .slice e _ _ _ _, .str _, x => ∃ z, ti X.P e = .int .u8 z ∧ ∃ bs : List UInt8, slc st x = some (bs.length, bs.map fun b => AV.val (.int .u8 (b.toNat : Int))) ∧ K (.val (.string ⟨bs.toArray⟩)) st
    | _, _, _ => False
  | .mkSl T x y => match T, x, y with
    | .slice _ sz by_ ez _, .val (.int .i64 n), .val (.int .i64 m) => m = n ∧ 0 ≤ n ∧ n ≤ 9223372036854775807 ∧ by_ * n ≤ 281474976710656 ∧ K (.own st.length 0 n.toNat sz) (st ++ [some (zrow n.toNat ez)])
    | _, _, _ => False
  | .slice T x lo hi => match T with
    | .str _ => match x with
      | .val (.string v) => sliceB lo hi v.size fun l h => K (.val (.string (v.extract l h))) st
      | _ => False
    | .slice _ sz _ _ _ => match sl sz st x with
      | some (n, _) => sliceB lo hi n fun l h => K (cutA x l (h - l) sz) st
      | none => False
    | _ => False
  | .fAddr T x i => match T with
    | .struct fs _ _ => match fs[i]? with
      | some (o, s, _) => 0 < s ∧ match x with
        | .ptr r off => K (.ptr r (off + o)) st
        | .imp cs => K (.imp (cs.drop o)) st
        | .el y sz p => match sl sz st y with
          | some (_, cs) => p < cs.length ∧ K (.el y sz (p + o)) st
          | none => False
        | _ => False
      | none => False
    | _ => False
  | .field T x i => match T, x with
    | .struct fs _ _, .agg cs => match fs[i]? with
      | some (o, s, g) => partA cs o s g fun y => K y st
      | none => False
    | _, _ => False
  | .iAddr T x i => match T with
    | .slice _ sz _ _ _ => match i with
      | .val (.int _ j) => match sl sz st x with
        | some (n, _) => 0 ≤ j ∧ j < n ∧ K (.el x sz (j.toNat * sz)) st
        | none => False
      | _ => False
    | .arr n esz _ _ _ => match i with
      | .val (.int _ j) => 0 ≤ j ∧ j < n ∧ match x with
        | .ptr r off => K (.ptr r (off + j.toNat * esz)) st
        | .imp cs => K (.imp (cs.drop (j.toNat * esz))) st
        | .val v => ∃ cs, VRel X.w0 [] v (.imp cs) ∧ K (.imp (cs.drop (j.toNat * esz))) st
        | _ => False
      | _ => False
    | _ => False
  | .index T x i => match i with
    | .val (.int _ j) => match T with
      | .str _ => match x with
        | .val (.string s) => 0 ≤ j ∧ match s.data[j.toNat]? with
          | some b => K (.val (.int .u8 (b.toNat : Int))) st
          | none => False
        | _ => False
      | .arr n esz _ ea _ => match x with
        | .agg cs => 0 ≤ j ∧ j < n ∧ partA cs (j.toNat * esz) esz ea fun y => K y st
        | _ => False
      | _ => False
    | _ => False
  | .len T x => match T with
    | .str _ => match x with
      | .val (.string s) => K (.val (.int .i64 (s.size : Int))) st
      | _ => False
    | .slice _ sz _ _ _ => match sl sz st x with
      | some (n, _) => n ≤ 9223372036854775807 → K (.val (.int .i64 (n : Int))) st
      | none => False
    | _ => False
  | .append T U x y => match T, U with
    | .slice _ sz by_ _ _, .slice _ _ _ _ _ => match slc st y with
      | some (m, ys) => ys.length = m * sz ∧ ys.all leaf = true ∧ match x with
        | .own r 0 n s => s = sz ∧ X.st1.length ≤ r ∧ match st[r]? with
          | some (some cs) => n * sz ≤ cs.length ∧ (n + m) * by_ ≤ 140737488355328 ∧ n + m ≤ 9223372036854775807 ∧ K (.own st.length 0 (n + m) sz) (st.set r none ++ [some (cs.take (n * sz) ++ ys)])
          | _ => False
        | .val (.slice none 0 0) => m * by_ ≤ 140737488355328 ∧ m ≤ 9223372036854775807 ∧ K (.own st.length 0 m sz) (st ++ [some ys])
        | _ => False
      | none => False
    | _, _ => False
  | .copy T x y => match T, x with
    | .slice _ sz _ _ _, .own r off n s => s = sz ∧ X.st1.length ≤ r ∧ match st[r]?, slc st y with
      | some (some cs), some (m, ys) => ys.length = m * sz ∧ ys.all leaf = true ∧ off + n * sz ≤ cs.length ∧
          K (.val (.int .i64 (min m n : Nat))) (st.set r (some (cs.take off ++ ys.take (min m n * sz) ++ cs.drop (off + min m n * sz))))
      | _, _ => False
    | _, _ => False

def F (d : Bool) (X : Cx) (dst : Option Nat) (full rest : List Oper) (k : List Fr) (Q : Post) (_ : Tg (X, full, rest, k, Q)) (s : Sl) (st : St) (o : BOp) : Prop :=
  vcF X o st fun v st' => vcO d X full rest (putS dst v s) st' (unw X k Q .normal)

section
variable {X : Cx} {k : List Fr} {Q : Post} {s : Sl} {st : St} {d : Bool} {full rest : List Oper} {dst : Option Nat}

theorem a_move (x : Operand) : aop s (.move x) = .mv (ev s x) := rfl
theorem a_assign (x : Operand) : aop s (.assign x) = .mv (ev s x) := rfl
theorem a_pick (c a b : Operand) : aop s (.pick c a b) = .pick (ev s c) (ev s a) (ev s b) := rfl
theorem a_alloc (t : TypeId) : aop s (.alloc t) = .alloc t := rfl
theorem a_box (t : TypeId) (x : Operand) : aop s (.box t x) = .box t (ev s x) := rfl
theorem a_build (t : TypeId) (l : List (Nat × Operand)) : aop s (.build t (List.toArray l)) = .build t (l.map fun p => (p.1, ev s p.2)) := rfl
theorem a_buildSl (t : TypeId) (n : Nat) (l : List (Nat × Operand)) : aop s (.buildSlice t n (List.toArray l)) = .buildSl t n (l.map fun p => (p.1, ev s p.2)) := rfl
theorem a_load (t : TypeId) (x : Operand) : aop s (.load t x) = .load t (ev s x) := rfl
theorem a_store (t : TypeId) (x y : Operand) : aop s (.store t x y) = .store t (ev s x) (ev s y) := rfl
theorem a_nilCk (x : Operand) : aop s (.nilCheck x) = .nilCk (ev s x) := rfl
theorem a_bin (b : BinOp) (t t2 : TypeId) (x y : Operand) : aop s (.binOp b t x y t2) = .bin b t (ev s x) (ev s y) := rfl
theorem a_un (o : UnOp) (t : TypeId) (x : Operand) : aop s (.unOp o t x) = .un o (ev s x) := rfl
theorem a_conv (a b : TypeId) (x : Operand) : aop s (.convert a b x) = .conv a b (ev s x) := rfl
theorem a_mkFn (f : Fn) (l m : List Operand) : aop s (.makeFunc f (List.toArray l) (List.toArray m)) = .mkFn f (l.map (ev s)) (m.map (ev s)) := rfl
theorem a_mkSl (t : TypeId) (x y : Operand) : aop s (.makeSlice t x y) = .mkSl t (ev s x) (ev s y) := rfl
theorem a_slice (t : TypeId) (x : Operand) (lo hi mx : Option Operand) : aop s (.slice t x lo hi mx) = .slice t (ev s x) (lo.map (ev s)) (hi.map (ev s)) (mx.map (ev s)) := rfl
theorem a_fAddr (t : TypeId) (x : Operand) (i : Nat) : aop s (.fieldAddr t x i) = .fAddr t (ev s x) i := rfl
theorem a_field (t : TypeId) (x : Operand) (i : Nat) : aop s (.field t x i) = .field t (ev s x) i := rfl
theorem a_iAddr (t : TypeId) (x i : Operand) : aop s (.indexAddr t x i) = .iAddr t (ev s x) (ev s i) := rfl
theorem a_index (t : TypeId) (x i : Operand) : aop s (.index t x i) = .index t (ev s x) (ev s i) := rfl
theorem a_extract (x : Operand) (i : Nat) : aop s (.extract x i) = .extract (ev s x) i := rfl
theorem a_blt (b : Builtin) (l : List Operand) (m : List TypeId) : aop s (.call ⟨.builtin b, List.toArray l, List.toArray m⟩) = .blt b m (l.map (ev s)) := rfl
theorem a_call (f : Operand) (l : List Operand) (m : Array TypeId) : aop s (.call ⟨.value f, List.toArray l, m⟩) = .call (ev s f) (l.map (ev s)) := rfl
theorem u_mv {u} {x : AV} : E d X dst full rest k Q u s st (.mv x) = O d X full rest k Q () (putS dst (x) s) (st) := rfl
theorem u_pick_t {u} {x y : AV} : E d X dst full rest k Q u s st (.pick (.val (.bool true)) x y) = O d X full rest k Q () (putS dst (x) s) (st) := rfl
theorem u_pick_f {u} {x y : AV} : E d X dst full rest k Q u s st (.pick (.val (.bool false)) x y) = O d X full rest k Q () (putS dst (y) s) (st) := rfl
theorem u_box {u} {t : TypeId} {x : AV} : E d X dst full rest k Q u s st (.box t x) = (okCells x = true ∧ O d X full rest k Q () (putS dst (.ptr st.length 0) s) (st ++ [some (cellsA x)])) := rfl
theorem u_nil_ptr {u} {r off : Nat} : E d X dst full rest k Q u s st (.nilCk (.ptr r off)) = O d X full rest k Q () (putS dst (.ptr r off) s) (st) := rfl
theorem u_nil_imp {u} {cs : List AV} : E d X dst full rest k Q u s st (.nilCk (.imp cs)) = O d X full rest k Q () (putS dst (.imp cs) s) (st) := rfl
theorem u_nil_fn {u} {f : FuncId} {xs ys : List AV} : E d X dst full rest k Q u s st (.nilCk (.fn (.func f) xs ys)) = O d X full rest k Q () (putS dst (.fn (.func f) xs ys) s) (st) := rfl
theorem u_neg {u} {kk : IntKind} {n : Int} : E d X dst full rest k Q u s st (.un .neg (.val (.int kk n))) = O d X full rest k Q () (putS dst (.val (.int kk (kk.wrap (0 - n)))) s) (st) := rfl
theorem u_not {u} {b : Bool} : E d X dst full rest k Q u s st (.un .not (.val (.bool b))) = O d X full rest k Q () (putS dst (.val (.bool (!b))) s) (st) := rfl
theorem u_compl {u} {kk : IntKind} {n : Int} : E d X dst full rest k Q u s st (.un .xor (.val (.int kk n))) = O d X full rest k Q () (putS dst (.val (.int kk (bitV .xor kk (if kk.signed then -1 else kk.max) n))) s) (st) := rfl
theorem u_mkFn {u} {f : Fn} {xs ys : List AV} : E d X dst full rest k Q u s st (.mkFn f xs ys) = O d X full rest k Q () (putS dst (.fn f xs ys) s) (st) := rfl
theorem u_extract {u} {vs : List AV} {i : Nat} : E d X dst full rest k Q u s st (.extract (.tup vs) i) = (match vs[i]? with | some y => O d X full rest k Q () (putS dst (y) s) (st) | none => False) := rfl
theorem u_max {u} {ts : List TypeId} {kk k2 : IntKind} {a b : Int} : E d X dst full rest k Q u s st (.blt .max ts [.val (.int kk a), .val (.int k2 b)]) = O d X full rest k Q () (putS dst (.val (.int kk (if b > a then b else a))) s) (st) := rfl
theorem u_min {u} {ts : List TypeId} {kk k2 : IntKind} {a b : Int} : E d X dst full rest k Q u s st (.blt .min ts [.val (.int kk a), .val (.int k2 b)]) = O d X full rest k Q () (putS dst (.val (.int kk (if b < a then b else a))) s) (st) := rfl
theorem t_alloc {u} {t : TypeId} : E d X dst full rest k Q u s st (.alloc t) = F d X dst full rest k Q () s st (.alloc (ti X.P t)) := rfl
theorem t_build {u} {t : TypeId} {ps : List (Nat × AV)} : E d X dst full rest k Q u s st (.build t ps) = F d X dst full rest k Q () s st (.build (ti X.P t) ps) := rfl
theorem t_buildSl {u} {t : TypeId} {n : Nat} {ps : List (Nat × AV)} : E d X dst full rest k Q u s st (.buildSl t n ps) = F d X dst full rest k Q () s st (.buildSl (ti X.P t) n ps) := rfl
theorem t_load {u} {t : TypeId} {x : AV} : E d X dst full rest k Q u s st (.load t x) = F d X dst full rest k Q () s st (.load (ti X.P t) x) := by cases x <;> rfl
theorem t_store {u} {t : TypeId} {x y : AV} : E d X dst full rest k Q u s st (.store t x y) = F d X dst full rest k Q () s st (.store (ti X.P t) x y) := by cases x <;> first | rfl | (rename_i z _ _; cases z <;> rfl)
theorem t_bin {u} {b : BinOp} {t : TypeId} {x y : AV} : E d X dst full rest k Q u s st (.bin b t x y) = F d X dst full rest k Q () s st (.bin (ti X.P t) b x y) := rfl
theorem t_conv {u} {a b : TypeId} {x : AV} : E d X dst full rest k Q u s st (.conv a b x) = F d X dst full rest k Q () s st (.conv (ti X.P a) (ti X.P b) x) := rfl
theorem t_mkSl {u} {t : TypeId} {x y : AV} : E d X dst full rest k Q u s st (.mkSl t x y) = F d X dst full rest k Q () s st (.mkSl (ti X.P t) x y) := rfl
theorem t_slice {u} {t : TypeId} {x : AV} {lo hi : Option AV} : E d X dst full rest k Q u s st (.slice t x lo hi none) = F d X dst full rest k Q () s st (.slice (ti X.P t) x lo hi) := by simp only [E, F, vcE3, vcE2, vcF, vcE]; cases ti X.P t <;> first | rfl | (cases x <;> first | rfl | (rename_i v; cases v <;> rfl))
theorem t_fAddr_aux {u} {t : TypeId} {x : AV} {i : Nat} : E d X dst full rest k Q u s st (.fAddr t x i) = F d X dst full rest k Q () s st (.fAddr (ti X.P t) x i) := by
  simp only [E, F, vcE3, vcF]
  cases x with
  | el y sz p =>
    simp only [vcE2]
    refine propext ⟨fun h => ?_, fun h => ?_⟩
    · cases hs : sl sz st y with
      | none => rw [hs] at h; exact h.elim
      | some q =>
        obtain ⟨n, cs⟩ := q
        rw [hs] at h
        obtain ⟨h1, h⟩ := h
        cases ht : ti X.P t with
        | struct fs z1 z2 =>
          simp only [ht] at h ⊢
          cases hf : fs[i]? with
          | none => simp [hf] at h
          | some q => obtain ⟨o, s', g⟩ := q; simp only [hf] at h ⊢; exact ⟨h.1, h1, h.2⟩
        | _ => simp [ht] at h
    · cases ht : ti X.P t with
      | struct fs z1 z2 =>
        simp only [ht] at h ⊢
        cases hf : fs[i]? with
        | none => simp [hf] at h
        | some q =>
          obtain ⟨o, s', g⟩ := q
          simp only [hf] at h ⊢
          cases hs : sl sz st y with
          | none => simp [hs] at h
          | some q => obtain ⟨n, cs⟩ := q; simp only [hs] at h ⊢; exact ⟨h.2.1, h.1, h.2.2⟩
      | _ => simp [ht] at h
  | _ => rfl
theorem t_fAddr {u} {t : TypeId} {x : AV} {i : Nat} : E d X dst full rest k Q u s st (.fAddr t x i) = F d X dst full rest k Q () s st (.fAddr (ti X.P t) x i) := t_fAddr_aux
theorem t_field {u} {t : TypeId} {x : AV} {i : Nat} : E d X dst full rest k Q u s st (.field t x i) = F d X dst full rest k Q () s st (.field (ti X.P t) x i) := rfl
theorem t_iAddr {u} {t : TypeId} {x i : AV} : E d X dst full rest k Q u s st (.iAddr t x i) = F d X dst full rest k Q () s st (.iAddr (ti X.P t) x i) := by simp only [E, F, vcE3, vcE2, vcF, vcE]; cases ti X.P t <;> first | rfl | (cases i <;> first | rfl | (rename_i v; cases v <;> rfl))
theorem t_index {u} {t : TypeId} {x i : AV} : E d X dst full rest k Q u s st (.index t x i) = F d X dst full rest k Q () s st (.index (ti X.P t) x i) := by simp only [E, F, vcE3, vcE2, vcF, vcE]; cases i <;> first | rfl | (rename_i v; cases v <;> first | rfl | (cases ti X.P t <;> first | rfl | (cases x <;> first | rfl | (rename_i v; cases v <;> rfl))))
theorem t_len {u} {t : TypeId} {x : AV} : E d X dst full rest k Q u s st (.blt .len [t] [x]) = F d X dst full rest k Q () s st (.len (ti X.P t) x) := by simp only [E, F, vcE3, vcE2, vcF, vcE]; cases ti X.P t <;> first | rfl | (cases x <;> first | rfl | (rename_i v; cases v <;> rfl))
theorem t_append_aux {u} {t t2 : TypeId} {x y : AV} : E d X dst full rest k Q u s st (.blt .append [t, t2] [x, y]) = F d X dst full rest k Q () s st (.append (ti X.P t) (ti X.P t2) x y) := by
  simp only [E, F, vcE3, vcE2, vcE, vcF]
  cases ti X.P t <;> cases ti X.P t2 <;> try rfl
  simp only [appA]
  refine propext ⟨fun h => ?_, fun h => ?_⟩
  · obtain ⟨m, ys, h1, h2, h3, h4⟩ := h
    rw [h1]
    refine ⟨h2, h3, ?_⟩
    cases x with
    | own r off n s' =>
      cases off with
      | zero =>
        obtain ⟨q1, q2, cs, q3, q4⟩ := h4
        refine ⟨q1, q2, ?_⟩
        rw [q3]; exact q4
      | succ o => exact h4
    | val v => cases v <;> first | exact h4 | (rename_i p n c; cases p <;> first | exact h4 | (cases n <;> first | exact h4 | (cases c <;> exact h4)))
    | _ => exact h4
  · cases hy : slc st y with
    | none => rw [hy] at h; exact h.elim
    | some p =>
      obtain ⟨m, ys⟩ := p
      rw [hy] at h
      obtain ⟨h2, h3, h4⟩ := h
      refine ⟨m, ys, rfl, h2, h3, ?_⟩
      cases x with
      | own r off n s' =>
        cases off with
        | zero =>
          obtain ⟨q1, q2, q3⟩ := h4
          refine ⟨q1, q2, ?_⟩
          cases hr : st[r]? with
          | none => rw [hr] at q3; exact q3.elim
          | some c =>
            cases c with
            | none => rw [hr] at q3; exact q3.elim
            | some cs => rw [hr] at q3; exact ⟨cs, rfl, q3⟩
        | succ o => exact h4
      | val v => cases v <;> first | exact h4 | (rename_i p n c; cases p <;> first | exact h4 | (cases n <;> first | exact h4 | (cases c <;> exact h4)))
      | _ => exact h4
theorem t_append {u} {t t2 : TypeId} {x y : AV} : E d X dst full rest k Q u s st (.blt .append [t, t2] [x, y]) = F d X dst full rest k Q () s st (.append (ti X.P t) (ti X.P t2) x y) := t_append_aux
theorem t_copy_aux {u} {t t2 : TypeId} {x y : AV} : E d X dst full rest k Q u s st (.blt .copy [t, t2] [x, y]) = F d X dst full rest k Q () s st (.copy (ti X.P t) x y) := by
  simp only [E, F, vcE3, vcE2, vcE, vcF]
  cases ti X.P t <;> try rfl
  cases x <;> try rfl
  refine propext ⟨fun h => ?_, fun h => ?_⟩
  · obtain ⟨h1, h2, cs, m, ys, h3, h4, h5⟩ := h
    refine ⟨h1, h2, ?_⟩
    rw [h3, h4]; exact h5
  · obtain ⟨h1, h2, h3⟩ := h
    refine ⟨h1, h2, ?_⟩
    rename_i r _ _ _
    cases hr : st[r]? with
    | none => rw [hr] at h3; exact h3.elim
    | some c =>
      cases c with
      | none => rw [hr] at h3; exact h3.elim
      | some cs =>
        cases hy : slc st y with
        | none => rw [hr, hy] at h3; exact h3.elim
        | some p => obtain ⟨m, ys⟩ := p; rw [hr, hy] at h3; exact ⟨cs, m, ys, rfl, rfl, h3⟩
theorem t_copy {u} {t t2 : TypeId} {x y : AV} : E d X dst full rest k Q u s st (.blt .copy [t, t2] [x, y]) = F d X dst full rest k Q () s st (.copy (ti X.P t) x y) := t_copy_aux
theorem f_alloc {u} {T : TI} : F d X dst full rest k Q u s st (.alloc T) = (T.good = true ∧ O d X full rest k Q () (putS dst (.ptr st.length 0) s) (st ++ [some (T.zero.map AV.val)])) := rfl
theorem f_build {u} {fs : List (Nat × Nat × Bool)} {z1 : Nat} {z : List Value} {ps : List (Nat × AV)} : F d X dst full rest k Q u s st (.build (.struct fs z1 z) ps) = (match fillA (fun i => (fs[i]?).map fun f => (f.1, f.2.1)) (z.map AV.val) ps with | some cs => O d X full rest k Q () (putS dst (.agg cs) s) (st) | none => False) := rfl
theorem f_buildA {u} {n esz z1 : Nat} {ea : Bool} {z : List Value} {ps : List (Nat × AV)} : F d X dst full rest k Q u s st (.build (.arr n esz z1 ea z) ps) = (match fillA (fun i => some (i * esz, esz)) (z.map AV.val) ps with | some cs => O d X full rest k Q () (putS dst (.agg cs) s) (st) | none => False) := rfl
theorem f_buildSl {u} {e sz by_ n : Nat} {ez z : List Value} {ps : List (Nat × AV)} : F d X dst full rest k Q u s st (.buildSl (.slice e sz by_ ez z) n ps) = (n * sz ≤ 16777216 ∧ n ≤ 9223372036854775807 ∧ match fillA (fun i => some (i * sz, sz)) (zrow n ez) ps with | some cs => O d X full rest k Q () (putS dst (.own st.length 0 n sz) s) (st ++ [some cs]) | none => False) := rfl
theorem f_load_el {u} {T : TI} {y : AV} {sz o : Nat} : F d X dst full rest k Q u s st (.load T (.el y sz o)) = (match sl sz st y with | some (_, cs) => o < cs.length ∧ T.good = true ∧ partA cs o T.size T.isAgg fun v => O d X full rest k Q () (putS dst (v) s) (st) | none => False) := rfl
theorem f_load_ptr {u} {T : TI} {r off : Nat} : F d X dst full rest k Q u s st (.load T (.ptr r off)) = (match st[r]? with | some (some cs) => T.good = true ∧ partA cs off T.size T.isAgg fun v => O d X full rest k Q () (putS dst (v) s) (st) | _ => False) := rfl
theorem f_load_imp {u} {T : TI} {cs : List AV} : F d X dst full rest k Q u s st (.load T (.imp cs)) = (T.good = true ∧ partA cs 0 T.size T.isAgg fun v => O d X full rest k Q () (putS dst (v) s) (st)) := rfl
theorem f_store_el {u} {T : TI} {y : AV} {r off n s1 sz o : Nat} : F d X dst full rest k Q u s st (.store T (.el (.own r off n s1) sz o) y) = (X.st1.length ≤ r ∧ match st[r]? with | some (some cs) => T.good = true ∧ okCells y = true ∧ (cellsA y).length = T.size ∧ off + o + (cellsA y).length ≤ cs.length ∧ O d X full rest k Q () (putS dst (undefA) s) (st.set r (some (put1 cs (off + o) y))) | _ => False) := rfl
theorem f_store_ptr {u} {T : TI} {y : AV} {r off : Nat} : F d X dst full rest k Q u s st (.store T (.ptr r off) y) = (X.st1.length ≤ r ∧ match st[r]? with | some (some cs) => T.good = true ∧ okCells y = true ∧ (cellsA y).length = T.size ∧ off + (cellsA y).length ≤ cs.length ∧ O d X full rest k Q () (putS dst (undefA) s) (st.set r (some (put1 cs off y))) | _ => False) := rfl
theorem f_add {u} {T : TI} {kk : IntKind} {a b : Int} : F d X dst full rest k Q u s st (.bin T .add (.val (.int kk a)) (.val (.int kk b))) = O d X full rest k Q () (putS dst (.val (.int kk (kk.wrap (a + b)))) s) (st) := by simp [F, vcF, binV, binI, O]
theorem f_sub {u} {T : TI} {kk : IntKind} {a b : Int} : F d X dst full rest k Q u s st (.bin T .sub (.val (.int kk a)) (.val (.int kk b))) = O d X full rest k Q () (putS dst (.val (.int kk (kk.wrap (a - b)))) s) (st) := by simp [F, vcF, binV, binI, O]
theorem f_mul {u} {T : TI} {kk : IntKind} {a b : Int} : F d X dst full rest k Q u s st (.bin T .mul (.val (.int kk a)) (.val (.int kk b))) = O d X full rest k Q () (putS dst (.val (.int kk (kk.wrap (a * b)))) s) (st) := by simp [F, vcF, binV, binI, O]
theorem f_quo {u} {T : TI} {kk : IntKind} {a b : Int} : F d X dst full rest k Q u s st (.bin T .quo (.val (.int kk a)) (.val (.int kk b))) = (b ≠ 0 ∧ O d X full rest k Q () (putS dst (.val (.int kk (kk.wrap (a.tdiv b)))) s) (st)) := by simp [F, vcF, binV, binI, O]
theorem f_rem {u} {T : TI} {kk : IntKind} {a b : Int} : F d X dst full rest k Q u s st (.bin T .rem (.val (.int kk a)) (.val (.int kk b))) = (b ≠ 0 ∧ O d X full rest k Q () (putS dst (.val (.int kk (a.tmod b))) s) (st)) := by simp [F, vcF, binV, binI, O]
theorem f_and {u} {T : TI} {kk : IntKind} {a b : Int} : F d X dst full rest k Q u s st (.bin T .and (.val (.int kk a)) (.val (.int kk b))) = O d X full rest k Q () (putS dst (.val (.int kk (bitV .and kk a b))) s) (st) := by simp [F, vcF, binV, binI, O]
theorem f_or {u} {T : TI} {kk : IntKind} {a b : Int} : F d X dst full rest k Q u s st (.bin T .or (.val (.int kk a)) (.val (.int kk b))) = O d X full rest k Q () (putS dst (.val (.int kk (bitV .or kk a b))) s) (st) := by simp [F, vcF, binV, binI, O]
theorem f_xor {u} {T : TI} {kk : IntKind} {a b : Int} : F d X dst full rest k Q u s st (.bin T .xor (.val (.int kk a)) (.val (.int kk b))) = O d X full rest k Q () (putS dst (.val (.int kk (bitV .xor kk a b))) s) (st) := by simp [F, vcF, binV, binI, O]
theorem f_andNot {u} {T : TI} {kk : IntKind} {a b : Int} : F d X dst full rest k Q u s st (.bin T .andNot (.val (.int kk a)) (.val (.int kk b))) = O d X full rest k Q () (putS dst (.val (.int kk (bitV .andNot kk a b))) s) (st) := by simp [F, vcF, binV, binI, O]
theorem f_eql_aux {u} {T : TI} {kk : IntKind} {a b : Int} : F d X dst full rest k Q u s st (.bin T .eql (.val (.int kk a)) (.val (.int kk b))) = O d X full rest k Q () (putS dst (.val (.bool (decide (a = b)))) s) st := by
  have : (a == b) = decide (a = b) := by by_cases h : a = b <;> simp [h]
  simp [F, vcF, binV, binI, O, this]
theorem f_neq_aux {u} {T : TI} {kk : IntKind} {a b : Int} : F d X dst full rest k Q u s st (.bin T .neq (.val (.int kk a)) (.val (.int kk b))) = O d X full rest k Q () (putS dst (.val (.bool (decide (a ≠ b)))) s) st := by
  have : (a != b) = decide (a ≠ b) := by by_cases h : a = b <;> simp [h]
  simp [F, vcF, binV, binI, O, this]
theorem f_eql {u} {T : TI} {kk : IntKind} {a b : Int} : F d X dst full rest k Q u s st (.bin T .eql (.val (.int kk a)) (.val (.int kk b))) = O d X full rest k Q () (putS dst (.val (.bool (decide (a = b)))) s) (st) := f_eql_aux
theorem f_neq {u} {T : TI} {kk : IntKind} {a b : Int} : F d X dst full rest k Q u s st (.bin T .neq (.val (.int kk a)) (.val (.int kk b))) = O d X full rest k Q () (putS dst (.val (.bool (decide (a ≠ b)))) s) (st) := f_neq_aux
theorem f_lss {u} {T : TI} {kk : IntKind} {a b : Int} : F d X dst full rest k Q u s st (.bin T .lss (.val (.int kk a)) (.val (.int kk b))) = O d X full rest k Q () (putS dst (.val (.bool (decide (a < b)))) s) (st) := by simp [F, vcF, binV, binI, O]
theorem f_leq {u} {T : TI} {kk : IntKind} {a b : Int} : F d X dst full rest k Q u s st (.bin T .leq (.val (.int kk a)) (.val (.int kk b))) = O d X full rest k Q () (putS dst (.val (.bool (decide (a ≤ b)))) s) (st) := by simp [F, vcF, binV, binI, O]
theorem f_gtr {u} {T : TI} {kk : IntKind} {a b : Int} : F d X dst full rest k Q u s st (.bin T .gtr (.val (.int kk a)) (.val (.int kk b))) = O d X full rest k Q () (putS dst (.val (.bool (decide (b < a)))) s) (st) := by simp [F, vcF, binV, binI, O]
theorem f_geq {u} {T : TI} {kk : IntKind} {a b : Int} : F d X dst full rest k Q u s st (.bin T .geq (.val (.int kk a)) (.val (.int kk b))) = O d X full rest k Q () (putS dst (.val (.bool (decide (b ≤ a)))) s) (st) := by simp [F, vcF, binV, binI, O]
theorem f_shl {u} {T : TI} {kk k2 : IntKind} {a b : Int} : F d X dst full rest k Q u s st (.bin T .shl (.val (.int kk a)) (.val (.int k2 b))) = (0 ≤ b ∧ O d X full rest k Q () (putS dst (.val (.int kk (kk.wrap (a * 2 ^ (min b.toNat kk.bits))))) s) (st)) := by simp [F, vcF, binV, binI, O]
theorem f_shr {u} {T : TI} {kk k2 : IntKind} {a b : Int} : F d X dst full rest k Q u s st (.bin T .shr (.val (.int kk a)) (.val (.int k2 b))) = (0 ≤ b ∧ O d X full rest k Q () (putS dst (.val (.int kk (a / 2 ^ (min b.toNat kk.bits)))) s) (st)) := by simp [F, vcF, binV, binI, O]
theorem f_eqB {u} {z : List Value} {a b : Bool} : F d X dst full rest k Q u s st (.bin (.bool z) .eql (.val (.bool a)) (.val (.bool b))) = O d X full rest k Q () (putS dst (.val (.bool (a == b))) s) (st) := by simp [F, vcF, binV, O, TI.isB]
theorem f_neB {u} {z : List Value} {a b : Bool} : F d X dst full rest k Q u s st (.bin (.bool z) .neq (.val (.bool a)) (.val (.bool b))) = O d X full rest k Q () (putS dst (.val (.bool (a != b))) s) (st) := by simp [F, vcF, binV, O, TI.isB]
theorem f_eqS {u} {T : TI} {a b : ByteArray} : F d X dst full rest k Q u s st (.bin T .eql (.val (.string a)) (.val (.string b))) = O d X full rest k Q () (putS dst (.val (.bool (a.toList == b.toList))) s) (st) := rfl
theorem f_neS {u} {T : TI} {a b : ByteArray} : F d X dst full rest k Q u s st (.bin T .neq (.val (.string a)) (.val (.string b))) = O d X full rest k Q () (putS dst (.val (.bool !(a.toList == b.toList))) s) (st) := rfl
theorem f_addS {u} {T : TI} {a b : ByteArray} : F d X dst full rest k Q u s st (.bin T .add (.val (.string a)) (.val (.string b))) = (a.size + b.size ≤ 9223372036854775807 ∧ O d X full rest k Q () (putS dst (.val (.string (a ++ b))) s) (st)) := rfl
theorem f_convI {u} {k1 k2 k3 : IntKind} {z1 z2 : List Value} {n : Int} : F d X dst full rest k Q u s st (.conv (.int k1 z1) (.int k2 z2) (.val (.int k3 n))) = O d X full rest k Q () (putS dst (.val (.int k2 (k2.wrap n))) s) (st) := rfl
theorem f_mkSl {u} {e sz by_ : Nat} {ez z : List Value} {n m : Int} : F d X dst full rest k Q u s st (.mkSl (.slice e sz by_ ez z) (.val (.int .i64 n)) (.val (.int .i64 m))) = (m = n ∧ 0 ≤ n ∧ n ≤ 9223372036854775807 ∧ by_ * n ≤ 281474976710656 ∧ O d X full rest k Q () (putS dst (.own st.length 0 n.toNat sz) s) (st ++ [some (zrow n.toNat ez)])) := rfl
theorem f_slice {u} {e sz by_ : Nat} {ez z : List Value} {x : AV} {lo hi : Option AV} : F d X dst full rest k Q u s st (.slice (.slice e sz by_ ez z) x lo hi) = (match sl sz st x with | some (n, _) => sliceB lo hi n fun l h => O d X full rest k Q () (putS dst (cutA x l (h - l) sz) s) (st) | none => False) := rfl
theorem f_sliceS {u} {z : List Value} {v : ByteArray} {lo hi : Option AV} : F d X dst full rest k Q u s st (.slice (.str z) (.val (.string v)) lo hi) = (sliceB lo hi v.size fun l h => O d X full rest k Q () (putS dst (.val (.string (v.extract l h))) s) (st)) := rfl
theorem f_fAddr_ptr {u} {fs : List (Nat × Nat × Bool)} {z1 i : Nat} {z : List Value} {r off : Nat} : F d X dst full rest k Q u s st (.fAddr (.struct fs z1 z) (.ptr r off) i) = (match fs[i]? with | some (o, s1, _) => 0 < s1 ∧ O d X full rest k Q () (putS dst (.ptr r (off + o)) s) (st) | none => False) := rfl
theorem f_fAddr_imp {u} {fs : List (Nat × Nat × Bool)} {z1 i : Nat} {z : List Value} {cs : List AV} : F d X dst full rest k Q u s st (.fAddr (.struct fs z1 z) (.imp cs) i) = (match fs[i]? with | some (o, s1, _) => 0 < s1 ∧ O d X full rest k Q () (putS dst (.imp (cs.drop o)) s) (st) | none => False) := rfl
theorem f_fAddr_el {u} {fs : List (Nat × Nat × Bool)} {z1 i : Nat} {z : List Value} {y : AV} {sz p : Nat} : F d X dst full rest k Q u s st (.fAddr (.struct fs z1 z) (.el y sz p) i) = (match fs[i]? with | some (o, s1, _) => 0 < s1 ∧ (match sl sz st y with | some (_, cs) => p < cs.length ∧ O d X full rest k Q () (putS dst (.el y sz (p + o)) s) (st) | none => False) | none => False) := rfl
theorem f_field {u} {fs : List (Nat × Nat × Bool)} {z1 i : Nat} {z : List Value} {cs : List AV} : F d X dst full rest k Q u s st (.field (.struct fs z1 z) (.agg cs) i) = (match fs[i]? with | some (o, s1, g) => partA cs o s1 g fun y => O d X full rest k Q () (putS dst (y) s) (st) | none => False) := rfl
theorem f_iAddr {u} {e sz by_ : Nat} {ez z : List Value} {x : AV} {kk : IntKind} {j : Int} : F d X dst full rest k Q u s st (.iAddr (.slice e sz by_ ez z) x (.val (.int kk j))) = (match sl sz st x with | some (n, _) => 0 ≤ j ∧ j < n ∧ O d X full rest k Q () (putS dst (.el x sz (j.toNat * sz)) s) (st) | none => False) := rfl
theorem f_iAddr_ptr {u} {n esz z1 : Nat} {ea : Bool} {z : List Value} {r off : Nat} {kk : IntKind} {j : Int} : F d X dst full rest k Q u s st (.iAddr (.arr n esz z1 ea z) (.ptr r off) (.val (.int kk j))) = (0 ≤ j ∧ j < n ∧ O d X full rest k Q () (putS dst (.ptr r (off + j.toNat * esz)) s) (st)) := rfl
theorem f_iAddr_imp {u} {n esz z1 : Nat} {ea : Bool} {z : List Value} {cs : List AV} {kk : IntKind} {j : Int} : F d X dst full rest k Q u s st (.iAddr (.arr n esz z1 ea z) (.imp cs) (.val (.int kk j))) = (0 ≤ j ∧ j < n ∧ O d X full rest k Q () (putS dst (.imp (cs.drop (j.toNat * esz))) s) (st)) := rfl
theorem f_indexS_aux {u} {z : List Value} {v : ByteArray} {kk : IntKind} {j : Int} : F d X dst full rest k Q u s st (.index (.str z) (.val (.string v)) (.val (.int kk j))) = (0 ≤ j ∧ j.toNat < (sb v).length ∧ O d X full rest k Q () (putS dst (.val (.int .u8 (((sb v).getD j.toNat 0 : Nat) : Int))) s) st) := by
  simp only [F, vcF, O]
  cases h : v.data[j.toNat]? with
  | some b => obtain ⟨h1, h2⟩ := sb_in v _ b h; rw [h2]; simp only [h1, true_and]
  | none => simp [sb_out v _ h]
theorem f_indexS {u} {z : List Value} {v : ByteArray} {kk : IntKind} {j : Int} : F d X dst full rest k Q u s st (.index (.str z) (.val (.string v)) (.val (.int kk j))) = (0 ≤ j ∧ j.toNat < (sb v).length ∧ O d X full rest k Q () (putS dst (.val (.int .u8 (((sb v).getD j.toNat 0 : Nat) : Int))) s) (st)) := f_indexS_aux
theorem f_lenS {u} {z : List Value} {v : ByteArray} : F d X dst full rest k Q u s st (.len (.str z) (.val (.string v))) = O d X full rest k Q () (putS dst (.val (.int .i64 ((sb v).length : Int))) s) (st) := by simp only [F, vcF, sb_length]; rfl
theorem f_len {u} {e sz by_ : Nat} {ez z : List Value} {x : AV} : F d X dst full rest k Q u s st (.len (.slice e sz by_ ez z) x) = (match sl sz st x with | some (n, _) => Im (n ≤ 9223372036854775807) (O d X full rest k Q () (putS dst (.val (.int .i64 (n : Int))) s) (st)) | none => False) := rfl
theorem f_app_own {u} {e sz by_ e2 sz2 by2 : Nat} {ez z ez2 z2 : List Value} {r n s1 : Nat} {y : AV} : F d X dst full rest k Q u s st (.append (.slice e sz by_ ez z) (.slice e2 sz2 by2 ez2 z2) (.own r 0 n s1) y) = (match slc st y with | some (m, ys) => ys.length = m * sz ∧ ys.all leaf = true ∧ s1 = sz ∧ X.st1.length ≤ r ∧ (match st[r]? with | some (some cs) => n * sz ≤ cs.length ∧ (n + m) * by_ ≤ 140737488355328 ∧ n + m ≤ 9223372036854775807 ∧ O d X full rest k Q () (putS dst (.own st.length 0 (n + m) sz) s) (st.set r none ++ [some (cs.take (n * sz) ++ ys)]) | _ => False) | none => False) := rfl
theorem f_app_nil {u} {e sz by_ e2 sz2 by2 : Nat} {ez z ez2 z2 : List Value} {y : AV} : F d X dst full rest k Q u s st (.append (.slice e sz by_ ez z) (.slice e2 sz2 by2 ez2 z2) (.val (.slice none 0 0)) y) = (match slc st y with | some (m, ys) => ys.length = m * sz ∧ ys.all leaf = true ∧ m * by_ ≤ 140737488355328 ∧ m ≤ 9223372036854775807 ∧ O d X full rest k Q () (putS dst (.own st.length 0 m sz) s) (st ++ [some ys]) | none => False) := rfl
theorem f_copy {u} {e sz by_ r off n s1 : Nat} {ez z : List Value} {y : AV} : F d X dst full rest k Q u s st (.copy (.slice e sz by_ ez z) (.own r off n s1) y) = (s1 = sz ∧ X.st1.length ≤ r ∧ match st[r]?, slc st y with | some (some cs), some (m, ys) => ys.length = m * sz ∧ ys.all leaf = true ∧ off + n * sz ≤ cs.length ∧ O d X full rest k Q () (putS dst (.val (.int .i64 (min m n : Nat))) s) (st.set r (some (cs.take off ++ ys.take (min m n * sz) ++ cs.drop (off + min m n * sz)))) | _, _ => False) := rfl

/-- A text of numbers below 256. -/
def bstr (l : List Nat) : ByteArray := ⟨(l.map UInt8.ofNat).toArray⟩
theorem bstr_sb (s : ByteArray) : bstr (sb s) = s := by
  cases s with
  | mk d => simp [sb, bstr, Function.comp_def]

/-- Bytes become a text. -/
theorem F_convS {u} {e by_ : Nat} {z z2 z3 ez : List Value} {x : AV} {l : List Nat} (ht : ti X.P e = .int .u8 z3) (hx : slc st x = some (l.length, l.map fun (n : Nat) => AV.val (.int .u8 (n : Int)))) (hl : ∀ n ∈ l, n < 256)
    (h : O d X full rest k Q () (putS dst (.val (.string (bstr l))) s) st) : F d X dst full rest k Q u s st (.conv (.slice e 1 by_ ez z) (.str z2) x) := by
  refine ⟨z3, ht, l.map UInt8.ofNat, ?_, h⟩
  rw [hx, List.length_map, List.map_map]
  congr 2
  refine List.map_congr_left fun n hn => ?_
  have := hl n hn
  simp; omega

/-- A call of a function with a contract. -/
theorem E_call {u} {g : FuncId} {fs xs cs : List AV} {R : List AV → St → (AV → St → Prop) → Prop} (h : PSpec X.P g R) (hR : R (fs ++ xs ++ cs) st fun v st' => O d X full rest k Q () (putS dst v s) st') : E d X dst full rest k Q u s st (.call (.fn (.func g) fs cs) xs) := by
  refine ⟨R, ?_, hR⟩
  cases d
  · exact PSpec.to_f h
  · exact h.at X.w0
/-- The same, of runs that began in this world. -/
theorem E_callA {u} {g : FuncId} {fs xs cs : List AV} {R : List AV → St → (AV → St → Prop) → Prop} (h : PSpecAt X.P X.w0 g R) (hR : R (fs ++ xs ++ cs) st fun v st' => O d X full rest k Q () (putS dst v s) st') : E d X dst full rest k Q u s st (.call (.fn (.func g) fs cs) xs) := by
  refine ⟨R, ?_, hR⟩
  cases d
  · exact PSpecAt.to_f h
  · exact h
end

theorem putS_some {n : Nat} {x : AV} {s : Sl} : putS (some n) x s = (n, x) :: s := rfl
theorem putS_none {x : AV} {s : Sl} : putS none x s = s := rfl

/-- All equations. -/
theorem eqs : type_of% (And.intro @V_seq <| And.intro @V_skip <| And.intro @V_ret <| And.intro @V_exit <| And.intro @V_label <| And.intro @V_block <| And.intro @V_scope <| And.intro @V_region <| And.intro @V_cond <| And.intro @C_true <| And.intro @C_false <| And.intro @R_nil <| And.intro @R_seqN <| And.intro @R_seqE <| And.intro @R_seqR <| And.intro @R_blkN <| And.intro @R_blkE <| And.intro @R_blkR <| And.intro @R_scpN <| And.intro @R_scpE <| And.intro @R_scpR <| And.intro @R_lpN <| And.intro @R_lpE <| And.intro @R_lpR <| And.intro @O_nil <| And.intro @O_cons <| And.intro @O_guard <| And.intro @G_tt <| And.intro @G_ff <| And.intro @G_tf <| And.intro @G_ft <| And.intro @G_un <| And.intro @a_move <| And.intro @a_assign <| And.intro @a_pick <| And.intro @a_alloc <| And.intro @a_box <| And.intro @a_build <| And.intro @a_buildSl <| And.intro @a_load <| And.intro @a_store <| And.intro @a_nilCk <| And.intro @a_bin <| And.intro @a_un <| And.intro @a_conv <| And.intro @a_mkFn <| And.intro @a_mkSl <| And.intro @a_slice <| And.intro @a_fAddr <| And.intro @a_field <| And.intro @a_iAddr <| And.intro @a_index <| And.intro @a_extract <| And.intro @a_blt <| And.intro @a_call <| And.intro @u_mv <| And.intro @u_pick_t <| And.intro @u_pick_f <| And.intro @u_box <| And.intro @u_nil_ptr <| And.intro @u_nil_imp <| And.intro @u_nil_fn <| And.intro @u_neg <| And.intro @u_not <| And.intro @u_compl <| And.intro @u_mkFn <| And.intro @u_extract <| And.intro @u_max <| And.intro @u_min <| And.intro @t_alloc <| And.intro @t_build <| And.intro @t_buildSl <| And.intro @t_load <| And.intro @t_store <| And.intro @t_bin <| And.intro @t_conv <| And.intro @t_mkSl <| And.intro @t_slice <| And.intro @t_fAddr <| And.intro @t_field <| And.intro @t_iAddr <| And.intro @t_index <| And.intro @t_len <| And.intro @t_append <| And.intro @t_copy <| And.intro @f_alloc <| And.intro @f_build <| And.intro @f_buildA <| And.intro @f_buildSl <| And.intro @f_load_el <| And.intro @f_load_ptr <| And.intro @f_load_imp <| And.intro @f_store_el <| And.intro @f_store_ptr <| And.intro @f_add <| And.intro @f_sub <| And.intro @f_mul <| And.intro @f_quo <| And.intro @f_rem <| And.intro @f_and <| And.intro @f_or <| And.intro @f_xor <| And.intro @f_andNot <| And.intro @f_eql <| And.intro @f_neq <| And.intro @f_lss <| And.intro @f_leq <| And.intro @f_gtr <| And.intro @f_geq <| And.intro @f_shl <| And.intro @f_shr <| And.intro @f_eqB <| And.intro @f_neB <| And.intro @f_eqS <| And.intro @f_neS <| And.intro @f_addS <| And.intro @f_convI <| And.intro @f_mkSl <| And.intro @f_slice <| And.intro @f_sliceS <| And.intro @f_fAddr_ptr <| And.intro @f_fAddr_imp <| And.intro @f_fAddr_el <| And.intro @f_field <| And.intro @f_iAddr <| And.intro @f_iAddr_ptr <| And.intro @f_iAddr_imp <| And.intro @f_indexS <| And.intro @f_lenS <| And.intro @f_len <| And.intro @f_app_own <| And.intro @f_app_nil <| And.intro @f_copy <| And.intro @fits_nil <| And.intro @fits_cons <| And.intro @putS_some <| And.intro @putS_none <| And.intro @ev_tmp <| And.intro @ev_const <| And.intro @ev_func <| @get_cons) := And.intro @V_seq <| And.intro @V_skip <| And.intro @V_ret <| And.intro @V_exit <| And.intro @V_label <| And.intro @V_block <| And.intro @V_scope <| And.intro @V_region <| And.intro @V_cond <| And.intro @C_true <| And.intro @C_false <| And.intro @R_nil <| And.intro @R_seqN <| And.intro @R_seqE <| And.intro @R_seqR <| And.intro @R_blkN <| And.intro @R_blkE <| And.intro @R_blkR <| And.intro @R_scpN <| And.intro @R_scpE <| And.intro @R_scpR <| And.intro @R_lpN <| And.intro @R_lpE <| And.intro @R_lpR <| And.intro @O_nil <| And.intro @O_cons <| And.intro @O_guard <| And.intro @G_tt <| And.intro @G_ff <| And.intro @G_tf <| And.intro @G_ft <| And.intro @G_un <| And.intro @a_move <| And.intro @a_assign <| And.intro @a_pick <| And.intro @a_alloc <| And.intro @a_box <| And.intro @a_build <| And.intro @a_buildSl <| And.intro @a_load <| And.intro @a_store <| And.intro @a_nilCk <| And.intro @a_bin <| And.intro @a_un <| And.intro @a_conv <| And.intro @a_mkFn <| And.intro @a_mkSl <| And.intro @a_slice <| And.intro @a_fAddr <| And.intro @a_field <| And.intro @a_iAddr <| And.intro @a_index <| And.intro @a_extract <| And.intro @a_blt <| And.intro @a_call <| And.intro @u_mv <| And.intro @u_pick_t <| And.intro @u_pick_f <| And.intro @u_box <| And.intro @u_nil_ptr <| And.intro @u_nil_imp <| And.intro @u_nil_fn <| And.intro @u_neg <| And.intro @u_not <| And.intro @u_compl <| And.intro @u_mkFn <| And.intro @u_extract <| And.intro @u_max <| And.intro @u_min <| And.intro @t_alloc <| And.intro @t_build <| And.intro @t_buildSl <| And.intro @t_load <| And.intro @t_store <| And.intro @t_bin <| And.intro @t_conv <| And.intro @t_mkSl <| And.intro @t_slice <| And.intro @t_fAddr <| And.intro @t_field <| And.intro @t_iAddr <| And.intro @t_index <| And.intro @t_len <| And.intro @t_append <| And.intro @t_copy <| And.intro @f_alloc <| And.intro @f_build <| And.intro @f_buildA <| And.intro @f_buildSl <| And.intro @f_load_el <| And.intro @f_load_ptr <| And.intro @f_load_imp <| And.intro @f_store_el <| And.intro @f_store_ptr <| And.intro @f_add <| And.intro @f_sub <| And.intro @f_mul <| And.intro @f_quo <| And.intro @f_rem <| And.intro @f_and <| And.intro @f_or <| And.intro @f_xor <| And.intro @f_andNot <| And.intro @f_eql <| And.intro @f_neq <| And.intro @f_lss <| And.intro @f_leq <| And.intro @f_gtr <| And.intro @f_geq <| And.intro @f_shl <| And.intro @f_shr <| And.intro @f_eqB <| And.intro @f_neB <| And.intro @f_eqS <| And.intro @f_neS <| And.intro @f_addS <| And.intro @f_convI <| And.intro @f_mkSl <| And.intro @f_slice <| And.intro @f_sliceS <| And.intro @f_fAddr_ptr <| And.intro @f_fAddr_imp <| And.intro @f_fAddr_el <| And.intro @f_field <| And.intro @f_iAddr <| And.intro @f_iAddr_ptr <| And.intro @f_iAddr_imp <| And.intro @f_indexS <| And.intro @f_lenS <| And.intro @f_len <| And.intro @f_app_own <| And.intro @f_app_nil <| And.intro @f_copy <| And.intro @fits_nil <| And.intro @fits_cons <| And.intro @putS_some <| And.intro @putS_none <| And.intro @ev_tmp <| And.intro @ev_const <| And.intro @ev_func <| @get_cons
end Go.Proofs.Pv
