/- The engine's eleventh part: the walk as equations. -/
import Derived.Test.YtmclabehpfpnnaaDoorE10
import Derived.IntWalk
set_option linter.unusedSimpArgs false
set_option linter.unusedVariables false
namespace Go.Proofs.Pv
open Go Go.RowKit

/-- What is to come behind a code. -/
inductive Fr where
  | seq (c : Code)
  | blk (id : Nat)
  | scp
  | lp (F : Sl → St → Prop)

def unw (X : Cx) : List Fr → Post → Post
  | [], Q => Q
  | .seq c :: k, Q => thenP (vc X c (unw X k Q)) (unw X k Q)
  | .blk i :: k, Q => blkP i (unw X k Q)
  | .scp :: k, Q => scpP (unw X k Q)
  | .lp F :: k, Q => thenP F (unw X k Q)

/-- A statement closed up: reduction stops here. -/
structure Box (p : Prop) : Prop where
  out : p
theorem box_eq {p : Prop} : Box p = p := propext ⟨Box.out, Box.mk⟩

/-- Holds a term's other arguments still under rewriting. -/
abbrev Tg {α : Type} (_ : α) : Type := Unit

def V (X : Cx) (c : Code) (k : List Fr) (Q : Post) (_ : Tg (X, c, k, Q)) (s : Sl) (st : St) : Prop := vc X c (unw X k Q) s st
def R (X : Cx) (k : List Fr) (Q : Post) (_ : Tg (X, k, Q)) (s : Sl) (st : St) (e : Exit) : Prop := unw X k Q e s st
def C (X : Cx) (a b : Code) (k : List Fr) (Q : Post) (_ : Tg (X, a, b, k, Q)) (s : Sl) (st : St) (x : AV) : Prop := Box <| match x with
  | .val (.bool t) => if t = true then vc X a (unw X k Q) s st else vc X b (unw X k Q) s st
  | _ => False
def O (d : Bool) (X : Cx) (full ops : List Oper) (k : List Fr) (Q : Post) (_ : Tg (X, full, ops, k, Q)) (s : Sl) (st : St) : Prop := vcO d X full ops s st (unw X k Q .normal)
def E (d : Bool) (X : Cx) (dst : Option Nat) (full rest : List Oper) (k : List Fr) (Q : Post) (_ : Tg (X, full, rest, k, Q)) (s : Sl) (st : St) (o : AOp) : Prop :=
  vcE3 d X o st fun v st' => vcO d X full rest (putS dst v s) st' (unw X k Q .normal)
def G (d : Bool) (X : Cx) (dst : Option Nat) (op : Op) (want : Bool) (full rest : List Oper) (k : List Fr) (Q : Post) (_ : Tg (X, op, full, rest, k, Q)) (s : Sl) (st : St) (x : AV) : Prop :=
  Box <| match x with
  | .val (.bool b) => if b = want then vcE3 d X (aop s op) st fun v st' => vcO d X full rest (putS dst v s) st' (unw X k Q .normal) else vcO d X full rest (putS dst undefA s) st (unw X k Q .normal)
  | .val _ => vcO d X full rest (putS dst undefA s) st (unw X k Q .normal)
  | _ => False

section
variable {X : Cx} {k : List Fr} {Q : Post} {s : Sl} {st : St} {d : Bool} {full rest : List Oper} {dst : Option Nat}

theorem V_seq {a b : Code} {u} : V X (.seq a b) k Q u s st = V X a (.seq b :: k) Q () s st := rfl
theorem V_skip {u} : V X .skip k Q u s st = R X k Q () s st .normal := rfl
theorem V_ret {u} : V X .ret k Q u s st = R X k Q () s st .ret := rfl
theorem V_exit {i : Nat} {u} : V X (.exit i) k Q u s st = R X k Q () s st (.exit i) := rfl
theorem V_label {i : Nat} {u} : V X (.label i) k Q u s st = R X k Q () s st .normal := rfl
theorem V_block {i : Nat} {c : Code} {u} : V X (.block i c) k Q u s st = V X c (.blk i :: k) Q () s st := rfl
theorem V_scope {c : Code} {u} : V X (.scope c) k Q u s st = V X c (.scp :: k) Q () s st := rfl
theorem V_region {i : Nat} {l : List Oper} {u} : V X (.region i (List.toArray l) false) k Q u s st = O false X l l k Q () s st := rfl
theorem V_cond {c : Operand} {a b : Code} {u} : V X (.cond c a b) k Q u s st = C X a b k Q () s st (ev s c) := box_eq.symm
theorem C_true {a b : Code} {u} : C X a b k Q u s st (.val (.bool true)) = V X a k Q () s st := box_eq
theorem C_false {a b : Code} {u} : C X a b k Q u s st (.val (.bool false)) = V X b k Q () s st := box_eq
theorem C_dec {a b : Code} {u} {p : Prop} [Decidable p] (h1 : p → V X a k Q () s st) (h2 : ¬p → V X b k Q () s st) : C X a b k Q u s st (.val (.bool (decide p))) := by
  by_cases h : p
  · rw [decide_eq_true h]; exact ⟨h1 h⟩
  · rw [decide_eq_false h]; exact ⟨h2 h⟩
theorem C_bool {a b : Code} {u} {t : Bool} (h1 : t = true → V X a k Q () s st) (h2 : t = false → V X b k Q () s st) : C X a b k Q u s st (.val (.bool t)) := by
  cases t
  · exact ⟨h2 rfl⟩
  · exact ⟨h1 rfl⟩

theorem R_nil {e : Exit} {u} : R X [] Q u s st e = Q e s st := rfl
theorem R_seqN {c : Code} {u} : R X (.seq c :: k) Q u s st .normal = V X c k Q () s st := rfl
theorem R_seqE {c : Code} {i : Nat} {u} : R X (.seq c :: k) Q u s st (.exit i) = R X k Q () s st (.exit i) := rfl
theorem R_seqR {c : Code} {u} : R X (.seq c :: k) Q u s st .ret = R X k Q () s st .ret := rfl
theorem R_blkN {i : Nat} {u} : R X (.blk i :: k) Q u s st .normal = R X k Q () s st .normal := rfl
theorem R_blkE {i j : Nat} {u} : R X (.blk j :: k) Q u s st (.exit i) = bif i == j then R X k Q () s st .normal else R X k Q () s st (.exit i) := rfl
theorem R_blkR {i : Nat} {u} : R X (.blk i :: k) Q u s st .ret = R X k Q () s st .ret := rfl
theorem R_scpN {u} : R X (.scp :: k) Q u s st .normal = R X k Q () s st .normal := rfl
theorem R_scpE {i : Nat} {u} : R X (.scp :: k) Q u s st (.exit i) = R X k Q () s st (.exit i) := rfl
theorem R_scpR {u} : R X (.scp :: k) Q u s st .ret = R X k Q () s st .ret := rfl
theorem R_lpN {F : Sl → St → Prop} {u} : R X (.lp F :: k) Q u s st .normal = F s st := rfl
theorem R_lpE {F : Sl → St → Prop} {i : Nat} {u} : R X (.lp F :: k) Q u s st (.exit i) = R X k Q () s st (.exit i) := rfl
theorem R_lpR {F : Sl → St → Prop} {u} : R X (.lp F :: k) Q u s st .ret = R X k Q () s st .ret := rfl

theorem O_nil {u} : O d X full [] k Q u s st = R X k Q () s st .normal := rfl
theorem O_cons {op : Op} {t : TypeId} {p : String} {af : Array Edge} {u} : O d X full (⟨dst, op, t, p, af, none⟩ :: rest) k Q u s st = E d X dst full rest k Q () s st (aop s op) := rfl
theorem O_guard {op : Op} {t : TypeId} {p : String} {af : Array Edge} {g : Nat} {w : Bool} {u} : O d X full (⟨dst, op, t, p, af, some (g, w)⟩ :: rest) k Q u s st = G d X dst op w full rest k Q () s st (gvd full s g) := box_eq.symm
theorem gvd_zero {op : Op} {t : TypeId} {p : String} {af : Array Edge} {g : Option (Nat × Bool)} {n : Nat} {l : List Oper} : gvd (⟨some n, op, t, p, af, g⟩ :: l) s 0 = Sl.get s n := rfl
theorem gvd_succ {o : Oper} {n : Nat} {l : List Oper} : gvd (o :: l) s (n + 1) = gvd l s n := rfl
theorem G_tt {op : Op} {u} : G d X dst op true full rest k Q u s st (.val (.bool true)) = E d X dst full rest k Q () s st (aop s op) := box_eq
theorem G_ff {op : Op} {u} : G d X dst op false full rest k Q u s st (.val (.bool false)) = E d X dst full rest k Q () s st (aop s op) := box_eq
theorem G_tf {op : Op} {u} : G d X dst op true full rest k Q u s st (.val (.bool false)) = O d X full rest k Q () (putS dst undefA s) st := box_eq
theorem G_ft {op : Op} {u} : G d X dst op false full rest k Q u s st (.val (.bool true)) = O d X full rest k Q () (putS dst undefA s) st := box_eq
theorem G_un {op : Op} {w : Bool} {u} : G d X dst op w full rest k Q u s st undefA = O d X full rest k Q () (putS dst undefA s) st := box_eq

theorem G_dec {op : Op} {p : Prop} [Decidable p] {u} (h1 : p → E d X dst full rest k Q () s st (aop s op)) (h2 : ¬p → O d X full rest k Q () (putS dst undefA s) st) : G d X dst op true full rest k Q u s st (.val (.bool (decide p))) := by
  by_cases h : p
  · rw [decide_eq_true h]; exact ⟨h1 h⟩
  · rw [decide_eq_false h]; exact ⟨h2 h⟩
theorem G_ndec {op : Op} {p : Prop} [Decidable p] {u} (h1 : ¬p → E d X dst full rest k Q () s st (aop s op)) (h2 : p → O d X full rest k Q () (putS dst undefA s) st) : G d X dst op false full rest k Q u s st (.val (.bool (decide p))) := by
  by_cases h : p
  · rw [decide_eq_true h]; exact ⟨h2 h⟩
  · rw [decide_eq_false h]; exact ⟨h1 h⟩
theorem G_bool {op : Op} {w b : Bool} {u} (h1 : b = w → E d X dst full rest k Q () s st (aop s op)) (h2 : b ≠ w → O d X full rest k Q () (putS dst undefA s) st) : G d X dst op w full rest k Q u s st (.val (.bool b)) := by
  by_cases h : b = w
  · unfold G; simp only [if_pos h]; exact ⟨h1 h⟩
  · unfold G; simp only [if_neg h]; exact ⟨h2 h⟩

/-- Slots of one are the other's. -/
def Fits : Sl → Sl → Prop
  | [], _ => True
  | (k, x) :: l, s => x = Sl.get s k ∧ Fits l s
theorem fits_nil : Fits [] s = True := rfl
theorem fits_cons {k : Nat} {x : AV} {l : Sl} : Fits ((k, x) :: l) s = (x = Sl.get s k ∧ Fits l s) := rfl

/-- A loop's head again, with less to come. -/
def Again {ι : Type} (S : ι → Sl) (T : ι → St) (p : ι → Prop) (μ : ι → Nat) (i : ι) (_ : Tg (S, T, p, μ, i)) (s' : Sl) (st' : St) : Prop := ∃ j, p j ∧ μ j < μ i ∧ T j = st' ∧ Fits (S j) s'
theorem again {ι : Type} {S : ι → Sl} {T : ι → St} {p : ι → Prop} {μ : ι → Nat} {i : ι} {u} {s' : Sl} {st' : St} (j : ι) (hp : p j) (hm : μ j < μ i) (ht : T j = st') (hs : Fits (S j) s') : Again S T p μ i u s' st' := ⟨j, hp, hm, ht, hs⟩

/-- The state at a loop's head, by data i: the slots and the objects. -/
theorem V_loop {c : Code} {u} {ι : Type} (S : ι → Sl) (T : ι → St) (p : ι → Prop) (μ : ι → Nat) (i0 : ι) (hp : p i0) (ht : T i0 = st) (hs : Fits (S i0) s)
    (hr : ∀ i, p i → V X c (.lp (Again S T p μ i ()) :: k) Q () (S i) (T i)) : V X (.loop c) k Q u s st := by
  have fit : ∀ (l s : Sl), Fits l s → Fit s l := by
    intro l s h n
    induction l with
    | nil => exact .inl rfl
    | cons q l ih =>
      obtain ⟨m, x⟩ := q
      rw [get_cons]
      by_cases hn : n = m
      · subst hn; simp only [BEq.rfl, cond_true]; exact .inr h.1
      · have hb : (n == m) = false := by simpa using hn
        rw [hb, cond_false]; exact ih h.2
  refine ⟨fun n s' st' => ∃ i, p i ∧ μ i = n ∧ S i = s' ∧ T i = st', ⟨μ i0, S i0, fit _ _ hs, i0, hp, rfl, rfl, ht⟩, ?_⟩
  rintro n s' st' ⟨i, hp, rfl, rfl, rfl⟩
  refine ⟨Again S T p μ i (), ?_, hr i hp⟩
  rintro s2 st2 ⟨j, h1, h2, h3, h4⟩
  exact ⟨μ j, S j, h2, fit _ _ h4, j, h1, rfl, rfl, h3⟩
end
end Go.Proofs.Pv

/- The engine's twelfth part: the operations as equations. -/
namespace Go.Proofs.Pv
open Go Go.RowKit

/-- A text's bytes. -/
def sb (s : ByteArray) : List Nat := s.data.toList.map UInt8.toNat
theorem sb_length (s : ByteArray) : (sb s).length = s.size := by simp [sb]
theorem sb_in (s : ByteArray) (i : Nat) (b : UInt8) (h : s.data[i]? = some b) : i < (sb s).length ∧ (sb s).getD i 0 = b.toNat := by
  obtain ⟨h1, h2⟩ := Array.getElem?_eq_some_iff.1 h
  refine ⟨by simpa [sb] using h1, ?_⟩
  unfold sb
  rw [List.getD_eq_getElem?_getD, List.getElem?_map, Array.getElem?_toList, h]
  rfl
theorem sb_out (s : ByteArray) (i : Nat) (h : s.data[i]? = none) : ¬i < (sb s).length := by
  intro h2
  have h3 : i < s.data.size := by simpa [sb] using h2
  rw [Array.getElem?_eq_getElem h3] at h; cases h
theorem sb_lt (s : ByteArray) (i : Nat) : (sb s).getD i 0 < 256 := by
  cases h : s.data[i]? with
  | some b => rw [(sb_in s i b h).2]; exact UInt8.toNat_lt _
  | none => rw [List.getD_eq_getElem?_getD, List.getElem?_eq_none (Nat.not_lt.1 (sb_out s i h))]; exact (by decide : (0 : Nat) < 256)

def Im (p q : Prop) : Prop := p → q
theorem im_of {p q : Prop} (h : p) : Im p q = q := propext ⟨fun f => f h, fun a _ => a⟩
theorem and_of {p q : Prop} (h : p) : (p ∧ q) = q := propext ⟨fun f => f.2, fun a => ⟨h, a⟩⟩

/-- Operations whose types are read. -/
inductive BOp where
  | alloc (T : TI) (t : TypeId)
  | build (T : TI) (ps : List (Nat × AV))
  | buildSl (T : TI) (n : Nat) (ps : List (Nat × AV))
  | load (T : TI) (x : AV)
  | store (T : TI) (x y : AV)
  | bin (T : TI) (b : BinOp) (x y : AV)
  | conv (A B : TI) (x : AV)
  | mkSl (T : TI) (x y : AV)
  | slice (T : TI) (x : AV) (lo hi : Option AV)
  | fAddr (T : TI) (x : AV) (i : Nat)
  | field (T : TI) (x : AV) (i : Nat)
  | iAddr (T : TI) (x i : AV)
  | index (T : TI) (x i : AV)
  | len (T : TI) (x : AV)
  | append (T U : TI) (x y : AV)
  | copy (T : TI) (x y : AV)

def vcF (X : Cx) (o : BOp) (st : St) (K : AV → St → Prop) : Prop :=
  match o with
  | .alloc T t => T.good = true ∧ bif bz T.zero then ∃ U, ∀ b, K (.val (.pointer (some ⟨b, 0, none⟩))) (st ++ [none, some [.gh [b] (BldG [b] t U b [])]]) else K (.ptr st.length 0) (st ++ [some (T.zero.map AV.val)])
  | .build T ps => match T with
    | .struct fs _ z => match fillA (fun i => (fs[i]?).map fun f => (f.1, f.2.1)) (z.map AV.val) ps with
      | some cs => K (.agg cs) st
      | none => False
    | .arr _ esz _ _ z => match fillA (fun i => some (i * esz, esz)) (z.map AV.val) ps with
      | some cs => K (.agg cs) st
      | none => False
    | _ => False
  | .buildSl T n ps => match T with
    | .slice _ sz _ ez _ => n * sz ≤ 16777216 ∧ n ≤ 9223372036854775807 ∧ match fillA (fun i => some (i * sz, sz)) (zrow n ez) ps with
      | some cs => K (.own st.length 0 n sz) (st ++ [some cs])
      | none => False
    | _ => False
  | .load T x => match x with
    | .el y sz o => match sl sz st y with
      | some (_, cs) => o < cs.length ∧ T.good = true ∧ partA cs o T.size T.isAgg fun v => K v st
      | none => False
    | .ptr r off => match st[r]? with
      | some (some cs) => T.good = true ∧ partA cs off T.size T.isAgg fun y => K y st
      | _ => False
    | .imp cs => T.good = true ∧ partA cs 0 T.size T.isAgg fun y => K y st
    | .val v => ∃ cs, VRel X.w0 [] v (.imp cs) ∧ T.good = true ∧ partA cs 0 T.size T.isAgg fun y => K y st
    | _ => False
  | .store T x y => match x with
    | .el (.own r off _ _) _ o => X.st1.length ≤ r ∧ match st[r]? with
      | some (some cs) => T.good = true ∧ okCells y = true ∧ (cellsA y).length = T.size ∧ off + o + (cellsA y).length ≤ cs.length ∧ K undefA (st.set r (some (put1 cs (off + o) y)))
      | _ => False
    | .ptr r off => X.st1.length ≤ r ∧ match st[r]? with
      | some (some cs) => T.good = true ∧ okCells y = true ∧ (cellsA y).length = T.size ∧ off + (cellsA y).length ≤ cs.length ∧ K undefA (st.set r (some (put1 cs off y)))
      | _ => False
    | _ => False
  | .bin T b x y => match x, y with
    | .val u, .val v => binV T.isB b u v fun r => K (.val r) st
    | _, _ => False
  | .conv A B x => match A, B, x with
    | .int _ _, .int k _, .val (.int _ n) => K (.val (.int k (k.wrap n))) st
    | .slice e _ _ _ _, .str _, x => ∃ z, ti X.P e = .int .u8 z ∧ ∃ bs : List UInt8, slc st x = some (bs.length, bs.map fun b => AV.val (.int .u8 (b.toNat : Int))) ∧ K (.val (.string ⟨bs.toArray⟩)) st
    | _, _, _ => False
  | .mkSl T x y => match T, x, y with
    | .slice _ sz by_ ez _, .val (.int .i64 n), .val (.int .i64 m) => m = n ∧ 0 ≤ n ∧ n ≤ 9223372036854775807 ∧ by_ * n ≤ 281474976710656 ∧ K (.own st.length 0 n.toNat sz) (st ++ [some (zrow n.toNat ez)])
    | _, _, _ => False
  | .slice T x lo hi => match T with
    | .str _ => match x with
      | .val (.string v) => sliceB lo hi v.size fun l h => K (.val (.string (v.extract l h))) st
      | _ => False
    | .slice _ sz _ _ _ => match sl sz st x with
      | some (n, _) => sliceB lo hi n fun l h => K (cutA x l (h - l) sz) st
      | none => False
    | _ => False
  | .fAddr T x i => match T with
    | .struct fs _ _ => match fs[i]? with
      | some (o, s, _) => 0 < s ∧ match x with
        | .ptr r off => K (.ptr r (off + o)) st
        | .imp cs => K (.imp (cs.drop o)) st
        | .el y sz p => match sl sz st y with
          | some (_, cs) => p < cs.length ∧ K (.el y sz (p + o)) st
          | none => False
        | _ => False
      | none => False
    | _ => False
  | .field T x i => match T, x with
    | .struct fs _ _, .agg cs => match fs[i]? with
      | some (o, s, g) => partA cs o s g fun y => K y st
      | none => False
    | _, _ => False
  | .iAddr T x i => match T with
    | .slice _ sz _ _ _ => match i with
      | .val (.int _ j) => match sl sz st x with
        | some (n, _) => 0 ≤ j ∧ j < n ∧ K (.el x sz (j.toNat * sz)) st
        | none => False
      | _ => False
    | .arr n esz _ _ _ => match i with
      | .val (.int _ j) => 0 ≤ j ∧ j < n ∧ match x with
        | .ptr r off => K (.ptr r (off + j.toNat * esz)) st
        | .imp cs => K (.imp (cs.drop (j.toNat * esz))) st
        | .val v => ∃ cs, VRel X.w0 [] v (.imp cs) ∧ K (.imp (cs.drop (j.toNat * esz))) st
        | _ => False
      | _ => False
    | _ => False
  | .index T x i => match i with
    | .val (.int _ j) => match T with
      | .str _ => match x with
        | .val (.string s) => 0 ≤ j ∧ match s.data[j.toNat]? with
          | some b => K (.val (.int .u8 (b.toNat : Int))) st
          | none => False
        | _ => False
      | .arr n esz _ ea _ => match x with
        | .agg cs => 0 ≤ j ∧ j < n ∧ partA cs (j.toNat * esz) esz ea fun y => K y st
        | _ => False
      | _ => False
    | _ => False
  | .len T x => match T with
    | .str _ => match x with
      | .val (.string s) => K (.val (.int .i64 (s.size : Int))) st
      | _ => False
    | .slice _ sz _ _ _ => match sl sz st x with
      | some (n, _) => n ≤ 9223372036854775807 → K (.val (.int .i64 (n : Int))) st
      | none => False
    | _ => False
  | .append T U x y => match T, U with
    | .slice _ sz by_ _ _, .slice _ _ _ _ _ => match slc st y with
      | some (m, ys) => ys.length = m * sz ∧ ys.all leaf = true ∧ match x with
        | .own r 0 n s => s = sz ∧ X.st1.length ≤ r ∧ match st[r]? with
          | some (some cs) => n * sz ≤ cs.length ∧ (n + m) * by_ ≤ 140737488355328 ∧ n + m ≤ 9223372036854775807 ∧ K (.own st.length 0 (n + m) sz) (st.set r none ++ [some (cs.take (n * sz) ++ ys)])
          | _ => False
        | .val (.slice none 0 0) => m * by_ ≤ 140737488355328 ∧ m ≤ 9223372036854775807 ∧ K (.own st.length 0 m sz) (st ++ [some ys])
        | _ => False
      | none => False
    | _, _ => False
  | .copy T x y => match T, x with
    | .slice _ sz _ _ _, .own r off n s => s = sz ∧ X.st1.length ≤ r ∧ match st[r]?, slc st y with
      | some (some cs), some (m, ys) => ys.length = m * sz ∧ ys.all leaf = true ∧ off + n * sz ≤ cs.length ∧
          K (.val (.int .i64 (min m n : Nat))) (st.set r (some (cs.take off ++ ys.take (min m n * sz) ++ cs.drop (off + min m n * sz))))
      | _, _ => False
    | _, _ => False

def F (d : Bool) (X : Cx) (dst : Option Nat) (full rest : List Oper) (k : List Fr) (Q : Post) (_ : Tg (X, full, rest, k, Q)) (s : Sl) (st : St) (o : BOp) : Prop :=
  vcF X o st fun v st' => vcO d X full rest (putS dst v s) st' (unw X k Q .normal)

section
variable {X : Cx} {k : List Fr} {Q : Post} {s : Sl} {st : St} {d : Bool} {full rest : List Oper} {dst : Option Nat}

theorem a_move (x : Operand) : aop s (.move x) = .mv (ev s x) := rfl
theorem a_assign (x : Operand) : aop s (.assign x) = .mv (ev s x) := rfl
theorem a_pick (c a b : Operand) : aop s (.pick c a b) = .pick (ev s c) (ev s a) (ev s b) := rfl
theorem a_alloc (t : TypeId) : aop s (.alloc t) = .alloc t := rfl
theorem a_box (t : TypeId) (x : Operand) : aop s (.box t x) = .box t (ev s x) := rfl
theorem a_build (t : TypeId) (l : List (Nat × Operand)) : aop s (.build t (List.toArray l)) = .build t (l.map fun p => (p.1, ev s p.2)) := rfl
theorem a_buildSl (t : TypeId) (n : Nat) (l : List (Nat × Operand)) : aop s (.buildSlice t n (List.toArray l)) = .buildSl t n (l.map fun p => (p.1, ev s p.2)) := rfl
theorem a_load (t : TypeId) (x : Operand) : aop s (.load t x) = .load t (ev s x) := rfl
theorem a_store (t : TypeId) (x y : Operand) : aop s (.store t x y) = .store t (ev s x) (ev s y) := rfl
theorem a_nilCk (x : Operand) : aop s (.nilCheck x) = .nilCk (ev s x) := rfl
theorem a_bin (b : BinOp) (t t2 : TypeId) (x y : Operand) : aop s (.binOp b t x y t2) = .bin b t (ev s x) (ev s y) := rfl
theorem a_un (o : UnOp) (t : TypeId) (x : Operand) : aop s (.unOp o t x) = .un o (ev s x) := rfl
theorem a_conv (a b : TypeId) (x : Operand) : aop s (.convert a b x) = .conv a b (ev s x) := rfl
theorem a_mkFn (f : Fn) (l m : List Operand) : aop s (.makeFunc f (List.toArray l) (List.toArray m)) = .mkFn f (l.map (ev s)) (m.map (ev s)) := rfl
theorem a_mkSl (t : TypeId) (x y : Operand) : aop s (.makeSlice t x y) = .mkSl t (ev s x) (ev s y) := rfl
theorem a_slice (t : TypeId) (x : Operand) (lo hi mx : Option Operand) : aop s (.slice t x lo hi mx) = .slice t (ev s x) (lo.map (ev s)) (hi.map (ev s)) (mx.map (ev s)) := rfl
theorem a_fAddr (t : TypeId) (x : Operand) (i : Nat) : aop s (.fieldAddr t x i) = .fAddr t (ev s x) i := rfl
theorem a_field (t : TypeId) (x : Operand) (i : Nat) : aop s (.field t x i) = .field t (ev s x) i := rfl
theorem a_iAddr (t : TypeId) (x i : Operand) : aop s (.indexAddr t x i) = .iAddr t (ev s x) (ev s i) := rfl
theorem a_index (t : TypeId) (x i : Operand) : aop s (.index t x i) = .index t (ev s x) (ev s i) := rfl
theorem a_extract (x : Operand) (i : Nat) : aop s (.extract x i) = .extract (ev s x) i := rfl
theorem a_blt (b : Builtin) (l : List Operand) (m : List TypeId) : aop s (.call ⟨.builtin b, List.toArray l, List.toArray m⟩) = .blt b m (l.map (ev s)) := rfl
theorem a_call (f : Operand) (l : List Operand) (m : Array TypeId) : aop s (.call ⟨.value f, List.toArray l, m⟩) = .call (ev s f) (l.map (ev s)) := rfl
theorem u_mv {u} {x : AV} : E d X dst full rest k Q u s st (.mv x) = O d X full rest k Q () (putS dst (x) s) (st) := rfl
theorem u_pick_t {u} {x y : AV} : E d X dst full rest k Q u s st (.pick (.val (.bool true)) x y) = O d X full rest k Q () (putS dst (x) s) (st) := rfl
theorem u_pick_f {u} {x y : AV} : E d X dst full rest k Q u s st (.pick (.val (.bool false)) x y) = O d X full rest k Q () (putS dst (y) s) (st) := rfl
theorem u_box {u} {t : TypeId} {x : AV} : E d X dst full rest k Q u s st (.box t x) = (okCells x = true ∧ O d X full rest k Q () (putS dst (.ptr st.length 0) s) (st ++ [some (cellsA x)])) := rfl
theorem u_nil_ptr {u} {r off : Nat} : E d X dst full rest k Q u s st (.nilCk (.ptr r off)) = O d X full rest k Q () (putS dst (.ptr r off) s) (st) := rfl
theorem u_nil_imp {u} {cs : List AV} : E d X dst full rest k Q u s st (.nilCk (.imp cs)) = O d X full rest k Q () (putS dst (.imp cs) s) (st) := rfl
theorem u_nil_fn {u} {f : FuncId} {xs ys : List AV} : E d X dst full rest k Q u s st (.nilCk (.fn (.func f) xs ys)) = O d X full rest k Q () (putS dst (.fn (.func f) xs ys) s) (st) := rfl
theorem u_neg {u} {kk : IntKind} {n : Int} : E d X dst full rest k Q u s st (.un .neg (.val (.int kk n))) = O d X full rest k Q () (putS dst (.val (.int kk (kk.wrap (0 - n)))) s) (st) := rfl
theorem u_not {u} {b : Bool} : E d X dst full rest k Q u s st (.un .not (.val (.bool b))) = O d X full rest k Q () (putS dst (.val (.bool (!b))) s) (st) := rfl
theorem u_compl {u} {kk : IntKind} {n : Int} : E d X dst full rest k Q u s st (.un .xor (.val (.int kk n))) = O d X full rest k Q () (putS dst (.val (.int kk (bitV .xor kk (if kk.signed then -1 else kk.max) n))) s) (st) := rfl
theorem u_mkFn {u} {f : Fn} {xs ys : List AV} : E d X dst full rest k Q u s st (.mkFn f xs ys) = O d X full rest k Q () (putS dst (.fn f xs ys) s) (st) := rfl
theorem u_extract {u} {vs : List AV} {i : Nat} : E d X dst full rest k Q u s st (.extract (.tup vs) i) = (match vs[i]? with | some y => O d X full rest k Q () (putS dst (y) s) (st) | none => False) := rfl
theorem u_max {u} {ts : List TypeId} {kk k2 : IntKind} {a b : Int} : E d X dst full rest k Q u s st (.blt .max ts [.val (.int kk a), .val (.int k2 b)]) = O d X full rest k Q () (putS dst (.val (.int kk (if b > a then b else a))) s) (st) := rfl
theorem u_min {u} {ts : List TypeId} {kk k2 : IntKind} {a b : Int} : E d X dst full rest k Q u s st (.blt .min ts [.val (.int kk a), .val (.int k2 b)]) = O d X full rest k Q () (putS dst (.val (.int kk (if b < a then b else a))) s) (st) := rfl
theorem t_alloc {u} {t : TypeId} : E d X dst full rest k Q u s st (.alloc t) = F d X dst full rest k Q () s st (.alloc (ti X.P t) t) := rfl
theorem t_build {u} {t : TypeId} {ps : List (Nat × AV)} : E d X dst full rest k Q u s st (.build t ps) = F d X dst full rest k Q () s st (.build (ti X.P t) ps) := rfl
theorem t_buildSl {u} {t : TypeId} {n : Nat} {ps : List (Nat × AV)} : E d X dst full rest k Q u s st (.buildSl t n ps) = F d X dst full rest k Q () s st (.buildSl (ti X.P t) n ps) := rfl
theorem t_load {u} {t : TypeId} {x : AV} : E d X dst full rest k Q u s st (.load t x) = F d X dst full rest k Q () s st (.load (ti X.P t) x) := by cases x <;> rfl
theorem t_store {u} {t : TypeId} {x y : AV} : E d X dst full rest k Q u s st (.store t x y) = F d X dst full rest k Q () s st (.store (ti X.P t) x y) := by cases x <;> first | rfl | (rename_i z _ _; cases z <;> rfl)
theorem t_bin {u} {b : BinOp} {t : TypeId} {x y : AV} : E d X dst full rest k Q u s st (.bin b t x y) = F d X dst full rest k Q () s st (.bin (ti X.P t) b x y) := rfl
theorem t_conv {u} {a b : TypeId} {x : AV} : E d X dst full rest k Q u s st (.conv a b x) = F d X dst full rest k Q () s st (.conv (ti X.P a) (ti X.P b) x) := rfl
theorem t_mkSl {u} {t : TypeId} {x y : AV} : E d X dst full rest k Q u s st (.mkSl t x y) = F d X dst full rest k Q () s st (.mkSl (ti X.P t) x y) := rfl
theorem t_slice {u} {t : TypeId} {x : AV} {lo hi : Option AV} : E d X dst full rest k Q u s st (.slice t x lo hi none) = F d X dst full rest k Q () s st (.slice (ti X.P t) x lo hi) := by simp only [E, F, vcE3, vcE2, vcF, vcE]; cases ti X.P t <;> first | rfl | (cases x <;> first | rfl | (rename_i v; cases v <;> rfl))
theorem t_fAddr_aux {u} {t : TypeId} {x : AV} {i : Nat} : E d X dst full rest k Q u s st (.fAddr t x i) = F d X dst full rest k Q () s st (.fAddr (ti X.P t) x i) := by
  simp only [E, F, vcE3, vcF]
  cases x with
  | el y sz p =>
    simp only [vcE2]
    refine propext ⟨fun h => ?_, fun h => ?_⟩
    · cases hs : sl sz st y with
      | none => rw [hs] at h; exact h.elim
      | some q =>
        obtain ⟨n, cs⟩ := q
        rw [hs] at h
        obtain ⟨h1, h⟩ := h
        cases ht : ti X.P t with
        | struct fs z1 z2 =>
          simp only [ht] at h ⊢
          cases hf : fs[i]? with
          | none => simp [hf] at h
          | some q => obtain ⟨o, s', g⟩ := q; simp only [hf] at h ⊢; exact ⟨h.1, h1, h.2⟩
        | _ => simp [ht] at h
    · cases ht : ti X.P t with
      | struct fs z1 z2 =>
        simp only [ht] at h ⊢
        cases hf : fs[i]? with
        | none => simp [hf] at h
        | some q =>
          obtain ⟨o, s', g⟩ := q
          simp only [hf] at h ⊢
          cases hs : sl sz st y with
          | none => simp [hs] at h
          | some q => obtain ⟨n, cs⟩ := q; simp only [hs] at h ⊢; exact ⟨h.2.1, h.1, h.2.2⟩
      | _ => simp [ht] at h
  | _ => rfl
theorem t_fAddr {u} {t : TypeId} {x : AV} {i : Nat} : E d X dst full rest k Q u s st (.fAddr t x i) = F d X dst full rest k Q () s st (.fAddr (ti X.P t) x i) := t_fAddr_aux
theorem t_field {u} {t : TypeId} {x : AV} {i : Nat} : E d X dst full rest k Q u s st (.field t x i) = F d X dst full rest k Q () s st (.field (ti X.P t) x i) := rfl
theorem t_iAddr {u} {t : TypeId} {x i : AV} : E d X dst full rest k Q u s st (.iAddr t x i) = F d X dst full rest k Q () s st (.iAddr (ti X.P t) x i) := by simp only [E, F, vcE3, vcE2, vcF, vcE]; cases ti X.P t <;> first | rfl | (cases i <;> first | rfl | (rename_i v; cases v <;> rfl))
theorem t_index {u} {t : TypeId} {x i : AV} : E d X dst full rest k Q u s st (.index t x i) = F d X dst full rest k Q () s st (.index (ti X.P t) x i) := by simp only [E, F, vcE3, vcE2, vcF, vcE]; cases i <;> first | rfl | (rename_i v; cases v <;> first | rfl | (cases ti X.P t <;> first | rfl | (cases x <;> first | rfl | (rename_i v; cases v <;> rfl))))
theorem t_len {u} {t : TypeId} {x : AV} : E d X dst full rest k Q u s st (.blt .len [t] [x]) = F d X dst full rest k Q () s st (.len (ti X.P t) x) := by simp only [E, F, vcE3, vcE2, vcF, vcE]; cases ti X.P t <;> first | rfl | (cases x <;> first | rfl | (rename_i v; cases v <;> rfl))
theorem t_append_aux {u} {t t2 : TypeId} {x y : AV} : E d X dst full rest k Q u s st (.blt .append [t, t2] [x, y]) = F d X dst full rest k Q () s st (.append (ti X.P t) (ti X.P t2) x y) := by
  simp only [E, F, vcE3, vcE2, vcE, vcF]
  cases ti X.P t <;> cases ti X.P t2 <;> try rfl
  simp only [appA]
  refine propext ⟨fun h => ?_, fun h => ?_⟩
  · obtain ⟨m, ys, h1, h2, h3, h4⟩ := h
    rw [h1]
    refine ⟨h2, h3, ?_⟩
    cases x with
    | own r off n s' =>
      cases off with
      | zero =>
        obtain ⟨q1, q2, cs, q3, q4⟩ := h4
        refine ⟨q1, q2, ?_⟩
        rw [q3]; exact q4
      | succ o => exact h4
    | val v => cases v <;> first | exact h4 | (rename_i p n c; cases p <;> first | exact h4 | (cases n <;> first | exact h4 | (cases c <;> exact h4)))
    | _ => exact h4
  · cases hy : slc st y with
    | none => rw [hy] at h; exact h.elim
    | some p =>
      obtain ⟨m, ys⟩ := p
      rw [hy] at h
      obtain ⟨h2, h3, h4⟩ := h
      refine ⟨m, ys, rfl, h2, h3, ?_⟩
      cases x with
      | own r off n s' =>
        cases off with
        | zero =>
          obtain ⟨q1, q2, q3⟩ := h4
          refine ⟨q1, q2, ?_⟩
          cases hr : st[r]? with
          | none => rw [hr] at q3; exact q3.elim
          | some c =>
            cases c with
            | none => rw [hr] at q3; exact q3.elim
            | some cs => rw [hr] at q3; exact ⟨cs, rfl, q3⟩
        | succ o => exact h4
      | val v => cases v <;> first | exact h4 | (rename_i p n c; cases p <;> first | exact h4 | (cases n <;> first | exact h4 | (cases c <;> exact h4)))
      | _ => exact h4
theorem t_append {u} {t t2 : TypeId} {x y : AV} : E d X dst full rest k Q u s st (.blt .append [t, t2] [x, y]) = F d X dst full rest k Q () s st (.append (ti X.P t) (ti X.P t2) x y) := t_append_aux
theorem t_copy_aux {u} {t t2 : TypeId} {x y : AV} : E d X dst full rest k Q u s st (.blt .copy [t, t2] [x, y]) = F d X dst full rest k Q () s st (.copy (ti X.P t) x y) := by
  simp only [E, F, vcE3, vcE2, vcE, vcF]
  cases ti X.P t <;> try rfl
  cases x <;> try rfl
  refine propext ⟨fun h => ?_, fun h => ?_⟩
  · obtain ⟨h1, h2, cs, m, ys, h3, h4, h5⟩ := h
    refine ⟨h1, h2, ?_⟩
    rw [h3, h4]; exact h5
  · obtain ⟨h1, h2, h3⟩ := h
    refine ⟨h1, h2, ?_⟩
    rename_i r _ _ _
    cases hr : st[r]? with
    | none => rw [hr] at h3; exact h3.elim
    | some c =>
      cases c with
      | none => rw [hr] at h3; exact h3.elim
      | some cs =>
        cases hy : slc st y with
        | none => rw [hr, hy] at h3; exact h3.elim
        | some p => obtain ⟨m, ys⟩ := p; rw [hr, hy] at h3; exact ⟨cs, m, ys, rfl, rfl, h3⟩
theorem t_copy {u} {t t2 : TypeId} {x y : AV} : E d X dst full rest k Q u s st (.blt .copy [t, t2] [x, y]) = F d X dst full rest k Q () s st (.copy (ti X.P t) x y) := t_copy_aux
theorem f_alloc {u} {T : TI} {t : TypeId} : F d X dst full rest k Q u s st (.alloc T t) = (T.good = true ∧ bif bz T.zero then ∃ U, ∀ b, O d X full rest k Q () (putS dst (.val (.pointer (some ⟨b, 0, none⟩))) s) (st ++ [none, some [.gh [b] (BldG [b] t U b [])]]) else O d X full rest k Q () (putS dst (.ptr st.length 0) s) (st ++ [some (T.zero.map AV.val)])) := rfl
theorem f_build {u} {fs : List (Nat × Nat × Bool)} {z1 : Nat} {z : List Value} {ps : List (Nat × AV)} : F d X dst full rest k Q u s st (.build (.struct fs z1 z) ps) = (match fillA (fun i => (fs[i]?).map fun f => (f.1, f.2.1)) (z.map AV.val) ps with | some cs => O d X full rest k Q () (putS dst (.agg cs) s) (st) | none => False) := rfl
theorem f_buildA {u} {n esz z1 : Nat} {ea : Bool} {z : List Value} {ps : List (Nat × AV)} : F d X dst full rest k Q u s st (.build (.arr n esz z1 ea z) ps) = (match fillA (fun i => some (i * esz, esz)) (z.map AV.val) ps with | some cs => O d X full rest k Q () (putS dst (.agg cs) s) (st) | none => False) := rfl
theorem f_buildSl {u} {e sz by_ n : Nat} {ez z : List Value} {ps : List (Nat × AV)} : F d X dst full rest k Q u s st (.buildSl (.slice e sz by_ ez z) n ps) = (n * sz ≤ 16777216 ∧ n ≤ 9223372036854775807 ∧ match fillA (fun i => some (i * sz, sz)) (zrow n ez) ps with | some cs => O d X full rest k Q () (putS dst (.own st.length 0 n sz) s) (st ++ [some cs]) | none => False) := rfl
theorem f_load_el {u} {T : TI} {y : AV} {sz o : Nat} : F d X dst full rest k Q u s st (.load T (.el y sz o)) = (match sl sz st y with | some (_, cs) => o < cs.length ∧ T.good = true ∧ partA cs o T.size T.isAgg fun v => O d X full rest k Q () (putS dst (v) s) (st) | none => False) := rfl
theorem f_load_ptr {u} {T : TI} {r off : Nat} : F d X dst full rest k Q u s st (.load T (.ptr r off)) = (match st[r]? with | some (some cs) => T.good = true ∧ partA cs off T.size T.isAgg fun v => O d X full rest k Q () (putS dst (v) s) (st) | _ => False) := rfl
theorem f_load_imp {u} {T : TI} {cs : List AV} : F d X dst full rest k Q u s st (.load T (.imp cs)) = (T.good = true ∧ partA cs 0 T.size T.isAgg fun v => O d X full rest k Q () (putS dst (v) s) (st)) := rfl
theorem f_store_el {u} {T : TI} {y : AV} {r off n s1 sz o : Nat} : F d X dst full rest k Q u s st (.store T (.el (.own r off n s1) sz o) y) = (X.st1.length ≤ r ∧ match st[r]? with | some (some cs) => T.good = true ∧ okCells y = true ∧ (cellsA y).length = T.size ∧ off + o + (cellsA y).length ≤ cs.length ∧ O d X full rest k Q () (putS dst (undefA) s) (st.set r (some (put1 cs (off + o) y))) | _ => False) := rfl
theorem f_store_ptr {u} {T : TI} {y : AV} {r off : Nat} : F d X dst full rest k Q u s st (.store T (.ptr r off) y) = (X.st1.length ≤ r ∧ match st[r]? with | some (some cs) => T.good = true ∧ okCells y = true ∧ (cellsA y).length = T.size ∧ off + (cellsA y).length ≤ cs.length ∧ O d X full rest k Q () (putS dst (undefA) s) (st.set r (some (put1 cs off y))) | _ => False) := rfl
theorem f_add {u} {T : TI} {kk : IntKind} {a b : Int} : F d X dst full rest k Q u s st (.bin T .add (.val (.int kk a)) (.val (.int kk b))) = O d X full rest k Q () (putS dst (.val (.int kk (kk.wrap (a + b)))) s) (st) := by simp [F, vcF, binV, binI, O]
theorem f_sub {u} {T : TI} {kk : IntKind} {a b : Int} : F d X dst full rest k Q u s st (.bin T .sub (.val (.int kk a)) (.val (.int kk b))) = O d X full rest k Q () (putS dst (.val (.int kk (kk.wrap (a - b)))) s) (st) := by simp [F, vcF, binV, binI, O]
theorem f_mul {u} {T : TI} {kk : IntKind} {a b : Int} : F d X dst full rest k Q u s st (.bin T .mul (.val (.int kk a)) (.val (.int kk b))) = O d X full rest k Q () (putS dst (.val (.int kk (kk.wrap (a * b)))) s) (st) := by simp [F, vcF, binV, binI, O]
theorem f_quo {u} {T : TI} {kk : IntKind} {a b : Int} : F d X dst full rest k Q u s st (.bin T .quo (.val (.int kk a)) (.val (.int kk b))) = (b ≠ 0 ∧ O d X full rest k Q () (putS dst (.val (.int kk (kk.wrap (a.tdiv b)))) s) (st)) := by simp [F, vcF, binV, binI, O]
theorem f_rem {u} {T : TI} {kk : IntKind} {a b : Int} : F d X dst full rest k Q u s st (.bin T .rem (.val (.int kk a)) (.val (.int kk b))) = (b ≠ 0 ∧ O d X full rest k Q () (putS dst (.val (.int kk (a.tmod b))) s) (st)) := by simp [F, vcF, binV, binI, O]
theorem f_and {u} {T : TI} {kk : IntKind} {a b : Int} : F d X dst full rest k Q u s st (.bin T .and (.val (.int kk a)) (.val (.int kk b))) = O d X full rest k Q () (putS dst (.val (.int kk (bitV .and kk a b))) s) (st) := by simp [F, vcF, binV, binI, O]
theorem f_or {u} {T : TI} {kk : IntKind} {a b : Int} : F d X dst full rest k Q u s st (.bin T .or (.val (.int kk a)) (.val (.int kk b))) = O d X full rest k Q () (putS dst (.val (.int kk (bitV .or kk a b))) s) (st) := by simp [F, vcF, binV, binI, O]
theorem f_xor {u} {T : TI} {kk : IntKind} {a b : Int} : F d X dst full rest k Q u s st (.bin T .xor (.val (.int kk a)) (.val (.int kk b))) = O d X full rest k Q () (putS dst (.val (.int kk (bitV .xor kk a b))) s) (st) := by simp [F, vcF, binV, binI, O]
theorem f_andNot {u} {T : TI} {kk : IntKind} {a b : Int} : F d X dst full rest k Q u s st (.bin T .andNot (.val (.int kk a)) (.val (.int kk b))) = O d X full rest k Q () (putS dst (.val (.int kk (bitV .andNot kk a b))) s) (st) := by simp [F, vcF, binV, binI, O]
theorem f_eql_aux {u} {T : TI} {kk : IntKind} {a b : Int} : F d X dst full rest k Q u s st (.bin T .eql (.val (.int kk a)) (.val (.int kk b))) = O d X full rest k Q () (putS dst (.val (.bool (decide (a = b)))) s) st := by
  have : (a == b) = decide (a = b) := by by_cases h : a = b <;> simp [h]
  simp [F, vcF, binV, binI, O, this]
theorem f_neq_aux {u} {T : TI} {kk : IntKind} {a b : Int} : F d X dst full rest k Q u s st (.bin T .neq (.val (.int kk a)) (.val (.int kk b))) = O d X full rest k Q () (putS dst (.val (.bool (decide (a ≠ b)))) s) st := by
  have : (a != b) = decide (a ≠ b) := by by_cases h : a = b <;> simp [h]
  simp [F, vcF, binV, binI, O, this]
theorem f_eql {u} {T : TI} {kk : IntKind} {a b : Int} : F d X dst full rest k Q u s st (.bin T .eql (.val (.int kk a)) (.val (.int kk b))) = O d X full rest k Q () (putS dst (.val (.bool (decide (a = b)))) s) (st) := f_eql_aux
theorem f_neq {u} {T : TI} {kk : IntKind} {a b : Int} : F d X dst full rest k Q u s st (.bin T .neq (.val (.int kk a)) (.val (.int kk b))) = O d X full rest k Q () (putS dst (.val (.bool (decide (a ≠ b)))) s) (st) := f_neq_aux
theorem f_lss {u} {T : TI} {kk : IntKind} {a b : Int} : F d X dst full rest k Q u s st (.bin T .lss (.val (.int kk a)) (.val (.int kk b))) = O d X full rest k Q () (putS dst (.val (.bool (decide (a < b)))) s) (st) := by simp [F, vcF, binV, binI, O]
theorem f_leq {u} {T : TI} {kk : IntKind} {a b : Int} : F d X dst full rest k Q u s st (.bin T .leq (.val (.int kk a)) (.val (.int kk b))) = O d X full rest k Q () (putS dst (.val (.bool (decide (a ≤ b)))) s) (st) := by simp [F, vcF, binV, binI, O]
theorem f_gtr {u} {T : TI} {kk : IntKind} {a b : Int} : F d X dst full rest k Q u s st (.bin T .gtr (.val (.int kk a)) (.val (.int kk b))) = O d X full rest k Q () (putS dst (.val (.bool (decide (b < a)))) s) (st) := by simp [F, vcF, binV, binI, O]
theorem f_geq {u} {T : TI} {kk : IntKind} {a b : Int} : F d X dst full rest k Q u s st (.bin T .geq (.val (.int kk a)) (.val (.int kk b))) = O d X full rest k Q () (putS dst (.val (.bool (decide (b ≤ a)))) s) (st) := by simp [F, vcF, binV, binI, O]
theorem f_shl {u} {T : TI} {kk k2 : IntKind} {a b : Int} : F d X dst full rest k Q u s st (.bin T .shl (.val (.int kk a)) (.val (.int k2 b))) = (0 ≤ b ∧ O d X full rest k Q () (putS dst (.val (.int kk (kk.wrap (a * 2 ^ (min b.toNat kk.bits))))) s) (st)) := by simp [F, vcF, binV, binI, O]
theorem f_shr {u} {T : TI} {kk k2 : IntKind} {a b : Int} : F d X dst full rest k Q u s st (.bin T .shr (.val (.int kk a)) (.val (.int k2 b))) = (0 ≤ b ∧ O d X full rest k Q () (putS dst (.val (.int kk (a / 2 ^ (min b.toNat kk.bits)))) s) (st)) := by simp [F, vcF, binV, binI, O]
theorem f_eqB {u} {z : List Value} {a b : Bool} : F d X dst full rest k Q u s st (.bin (.bool z) .eql (.val (.bool a)) (.val (.bool b))) = O d X full rest k Q () (putS dst (.val (.bool (a == b))) s) (st) := by simp [F, vcF, binV, O, TI.isB]
theorem f_neB {u} {z : List Value} {a b : Bool} : F d X dst full rest k Q u s st (.bin (.bool z) .neq (.val (.bool a)) (.val (.bool b))) = O d X full rest k Q () (putS dst (.val (.bool (a != b))) s) (st) := by simp [F, vcF, binV, O, TI.isB]
theorem f_eqS {u} {T : TI} {a b : ByteArray} : F d X dst full rest k Q u s st (.bin T .eql (.val (.string a)) (.val (.string b))) = O d X full rest k Q () (putS dst (.val (.bool (a.toList == b.toList))) s) (st) := rfl
theorem f_neS {u} {T : TI} {a b : ByteArray} : F d X dst full rest k Q u s st (.bin T .neq (.val (.string a)) (.val (.string b))) = O d X full rest k Q () (putS dst (.val (.bool !(a.toList == b.toList))) s) (st) := rfl
theorem f_addS {u} {T : TI} {a b : ByteArray} : F d X dst full rest k Q u s st (.bin T .add (.val (.string a)) (.val (.string b))) = (a.size + b.size ≤ 9223372036854775807 ∧ O d X full rest k Q () (putS dst (.val (.string (a ++ b))) s) (st)) := rfl
theorem f_convI {u} {k1 k2 k3 : IntKind} {z1 z2 : List Value} {n : Int} : F d X dst full rest k Q u s st (.conv (.int k1 z1) (.int k2 z2) (.val (.int k3 n))) = O d X full rest k Q () (putS dst (.val (.int k2 (k2.wrap n))) s) (st) := rfl
theorem f_mkSl {u} {e sz by_ : Nat} {ez z : List Value} {n m : Int} : F d X dst full rest k Q u s st (.mkSl (.slice e sz by_ ez z) (.val (.int .i64 n)) (.val (.int .i64 m))) = (m = n ∧ 0 ≤ n ∧ n ≤ 9223372036854775807 ∧ by_ * n ≤ 281474976710656 ∧ O d X full rest k Q () (putS dst (.own st.length 0 n.toNat sz) s) (st ++ [some (zrow n.toNat ez)])) := rfl
theorem f_slice {u} {e sz by_ : Nat} {ez z : List Value} {x : AV} {lo hi : Option AV} : F d X dst full rest k Q u s st (.slice (.slice e sz by_ ez z) x lo hi) = (match sl sz st x with | some (n, _) => sliceB lo hi n fun l h => O d X full rest k Q () (putS dst (cutA x l (h - l) sz) s) (st) | none => False) := rfl
theorem f_sliceS {u} {z : List Value} {v : ByteArray} {lo hi : Option AV} : F d X dst full rest k Q u s st (.slice (.str z) (.val (.string v)) lo hi) = (sliceB lo hi v.size fun l h => O d X full rest k Q () (putS dst (.val (.string (v.extract l h))) s) (st)) := rfl
theorem f_fAddr_ptr {u} {fs : List (Nat × Nat × Bool)} {z1 i : Nat} {z : List Value} {r off : Nat} : F d X dst full rest k Q u s st (.fAddr (.struct fs z1 z) (.ptr r off) i) = (match fs[i]? with | some (o, s1, _) => 0 < s1 ∧ O d X full rest k Q () (putS dst (.ptr r (off + o)) s) (st) | none => False) := rfl
theorem f_fAddr_imp {u} {fs : List (Nat × Nat × Bool)} {z1 i : Nat} {z : List Value} {cs : List AV} : F d X dst full rest k Q u s st (.fAddr (.struct fs z1 z) (.imp cs) i) = (match fs[i]? with | some (o, s1, _) => 0 < s1 ∧ O d X full rest k Q () (putS dst (.imp (cs.drop o)) s) (st) | none => False) := rfl
theorem f_fAddr_el {u} {fs : List (Nat × Nat × Bool)} {z1 i : Nat} {z : List Value} {y : AV} {sz p : Nat} : F d X dst full rest k Q u s st (.fAddr (.struct fs z1 z) (.el y sz p) i) = (match fs[i]? with | some (o, s1, _) => 0 < s1 ∧ (match sl sz st y with | some (_, cs) => p < cs.length ∧ O d X full rest k Q () (putS dst (.el y sz (p + o)) s) (st) | none => False) | none => False) := rfl
theorem f_field {u} {fs : List (Nat × Nat × Bool)} {z1 i : Nat} {z : List Value} {cs : List AV} : F d X dst full rest k Q u s st (.field (.struct fs z1 z) (.agg cs) i) = (match fs[i]? with | some (o, s1, g) => partA cs o s1 g fun y => O d X full rest k Q () (putS dst (y) s) (st) | none => False) := rfl
theorem f_iAddr {u} {e sz by_ : Nat} {ez z : List Value} {x : AV} {kk : IntKind} {j : Int} : F d X dst full rest k Q u s st (.iAddr (.slice e sz by_ ez z) x (.val (.int kk j))) = (match sl sz st x with | some (n, _) => 0 ≤ j ∧ j < n ∧ O d X full rest k Q () (putS dst (.el x sz (j.toNat * sz)) s) (st) | none => False) := rfl
theorem f_iAddr_ptr {u} {n esz z1 : Nat} {ea : Bool} {z : List Value} {r off : Nat} {kk : IntKind} {j : Int} : F d X dst full rest k Q u s st (.iAddr (.arr n esz z1 ea z) (.ptr r off) (.val (.int kk j))) = (0 ≤ j ∧ j < n ∧ O d X full rest k Q () (putS dst (.ptr r (off + j.toNat * esz)) s) (st)) := rfl
theorem f_iAddr_imp {u} {n esz z1 : Nat} {ea : Bool} {z : List Value} {cs : List AV} {kk : IntKind} {j : Int} : F d X dst full rest k Q u s st (.iAddr (.arr n esz z1 ea z) (.imp cs) (.val (.int kk j))) = (0 ≤ j ∧ j < n ∧ O d X full rest k Q () (putS dst (.imp (cs.drop (j.toNat * esz))) s) (st)) := rfl
theorem f_indexS_aux {u} {z : List Value} {v : ByteArray} {kk : IntKind} {j : Int} : F d X dst full rest k Q u s st (.index (.str z) (.val (.string v)) (.val (.int kk j))) = (0 ≤ j ∧ j.toNat < (sb v).length ∧ O d X full rest k Q () (putS dst (.val (.int .u8 (((sb v).getD j.toNat 0 : Nat) : Int))) s) st) := by
  simp only [F, vcF, O]
  cases h : v.data[j.toNat]? with
  | some b => obtain ⟨h1, h2⟩ := sb_in v _ b h; rw [h2]; simp only [h1, true_and]
  | none => simp [sb_out v _ h]
theorem f_indexS {u} {z : List Value} {v : ByteArray} {kk : IntKind} {j : Int} : F d X dst full rest k Q u s st (.index (.str z) (.val (.string v)) (.val (.int kk j))) = (0 ≤ j ∧ j.toNat < (sb v).length ∧ O d X full rest k Q () (putS dst (.val (.int .u8 (((sb v).getD j.toNat 0 : Nat) : Int))) s) (st)) := f_indexS_aux
theorem f_lenS {u} {z : List Value} {v : ByteArray} : F d X dst full rest k Q u s st (.len (.str z) (.val (.string v))) = O d X full rest k Q () (putS dst (.val (.int .i64 ((sb v).length : Int))) s) (st) := by simp only [F, vcF, sb_length]; rfl
theorem f_len {u} {e sz by_ : Nat} {ez z : List Value} {x : AV} : F d X dst full rest k Q u s st (.len (.slice e sz by_ ez z) x) = (match sl sz st x with | some (n, _) => Im (n ≤ 9223372036854775807) (O d X full rest k Q () (putS dst (.val (.int .i64 (n : Int))) s) (st)) | none => False) := rfl
theorem f_app_own {u} {e sz by_ e2 sz2 by2 : Nat} {ez z ez2 z2 : List Value} {r n s1 : Nat} {y : AV} : F d X dst full rest k Q u s st (.append (.slice e sz by_ ez z) (.slice e2 sz2 by2 ez2 z2) (.own r 0 n s1) y) = (match slc st y with | some (m, ys) => ys.length = m * sz ∧ ys.all leaf = true ∧ s1 = sz ∧ X.st1.length ≤ r ∧ (match st[r]? with | some (some cs) => n * sz ≤ cs.length ∧ (n + m) * by_ ≤ 140737488355328 ∧ n + m ≤ 9223372036854775807 ∧ O d X full rest k Q () (putS dst (.own st.length 0 (n + m) sz) s) (st.set r none ++ [some (cs.take (n * sz) ++ ys)]) | _ => False) | none => False) := rfl
theorem f_app_nil {u} {e sz by_ e2 sz2 by2 : Nat} {ez z ez2 z2 : List Value} {y : AV} : F d X dst full rest k Q u s st (.append (.slice e sz by_ ez z) (.slice e2 sz2 by2 ez2 z2) (.val (.slice none 0 0)) y) = (match slc st y with | some (m, ys) => ys.length = m * sz ∧ ys.all leaf = true ∧ m * by_ ≤ 140737488355328 ∧ m ≤ 9223372036854775807 ∧ O d X full rest k Q () (putS dst (.own st.length 0 m sz) s) (st ++ [some ys]) | none => False) := rfl
theorem f_copy {u} {e sz by_ r off n s1 : Nat} {ez z : List Value} {y : AV} : F d X dst full rest k Q u s st (.copy (.slice e sz by_ ez z) (.own r off n s1) y) = (s1 = sz ∧ X.st1.length ≤ r ∧ match st[r]?, slc st y with | some (some cs), some (m, ys) => ys.length = m * sz ∧ ys.all leaf = true ∧ off + n * sz ≤ cs.length ∧ O d X full rest k Q () (putS dst (.val (.int .i64 (min m n : Nat))) s) (st.set r (some (cs.take off ++ ys.take (min m n * sz) ++ cs.drop (off + min m n * sz)))) | _, _ => False) := rfl

/-- A text of numbers below 256. -/
def bstr (l : List Nat) : ByteArray := ⟨(l.map UInt8.ofNat).toArray⟩
theorem sb_bstr {l : List Nat} (hl : ∀ n ∈ l, n < 256) : sb (bstr l) = l := by
  simp only [sb, bstr, List.map_map]
  conv => rhs; rw [← List.map_id l]
  refine List.map_congr_left fun n hn => ?_
  have := hl n hn
  simp; omega
theorem bstr_sb (s : ByteArray) : bstr (sb s) = s := by
  cases s with
  | mk d => simp [sb, bstr, Function.comp_def]

/-- Bytes become a text. -/
theorem F_convS {u} {e by_ : Nat} {z z2 z3 ez : List Value} {x : AV} {l : List Nat} (ht : ti X.P e = .int .u8 z3) (hx : slc st x = some (l.length, l.map fun (n : Nat) => AV.val (.int .u8 (n : Int)))) (hl : ∀ n ∈ l, n < 256)
    (h : O d X full rest k Q () (putS dst (.val (.string (bstr l))) s) st) : F d X dst full rest k Q u s st (.conv (.slice e 1 by_ ez z) (.str z2) x) := by
  refine ⟨z3, ht, l.map UInt8.ofNat, ?_, h⟩
  rw [hx, List.length_map, List.map_map]
  congr 2
  refine List.map_congr_left fun n hn => ?_
  have := hl n hn
  simp; omega

/-- A call of a function with a contract. -/
theorem E_call {u} {g : FuncId} {fs xs cs : List AV} {R : List AV → St → (AV → St → Prop) → Prop} (h : PSpec X.P g R) (hR : R (fs ++ xs ++ cs) st fun v st' => O d X full rest k Q () (putS dst v s) st') : E d X dst full rest k Q u s st (.call (.fn (.func g) fs cs) xs) := by
  refine ⟨R, ?_, hR⟩
  cases d
  · exact PSpec.to_f h
  · exact h.at X.w0
/-- The same, of runs that began in this world. -/
theorem E_callA {u} {g : FuncId} {fs xs cs : List AV} {R : List AV → St → (AV → St → Prop) → Prop} (h : PSpecAt X.P X.w0 g R) (hR : R (fs ++ xs ++ cs) st fun v st' => O d X full rest k Q () (putS dst v s) st') : E d X dst full rest k Q u s st (.call (.fn (.func g) fs cs) xs) := by
  refine ⟨R, ?_, hR⟩
  cases d
  · exact PSpecAt.to_f h
  · exact h
end

theorem putS_some {n : Nat} {x : AV} {s : Sl} : putS (some n) x s = (n, x) :: s := rfl
theorem putS_none {x : AV} {s : Sl} : putS none x s = s := rfl

/-- All equations. -/
theorem eqs : type_of% (And.intro @V_seq <| And.intro @V_skip <| And.intro @V_ret <| And.intro @V_exit <| And.intro @V_label <| And.intro @V_block <| And.intro @V_scope <| And.intro @V_region <| And.intro @V_cond <| And.intro @C_true <| And.intro @C_false <| And.intro @R_nil <| And.intro @R_seqN <| And.intro @R_seqE <| And.intro @R_seqR <| And.intro @R_blkN <| And.intro @R_blkE <| And.intro @R_blkR <| And.intro @R_scpN <| And.intro @R_scpE <| And.intro @R_scpR <| And.intro @R_lpN <| And.intro @R_lpE <| And.intro @R_lpR <| And.intro @O_nil <| And.intro @O_cons <| And.intro @O_guard <| And.intro @G_tt <| And.intro @G_ff <| And.intro @G_tf <| And.intro @G_ft <| And.intro @G_un <| And.intro @a_move <| And.intro @a_assign <| And.intro @a_pick <| And.intro @a_alloc <| And.intro @a_box <| And.intro @a_build <| And.intro @a_buildSl <| And.intro @a_load <| And.intro @a_store <| And.intro @a_nilCk <| And.intro @a_bin <| And.intro @a_un <| And.intro @a_conv <| And.intro @a_mkFn <| And.intro @a_mkSl <| And.intro @a_slice <| And.intro @a_fAddr <| And.intro @a_field <| And.intro @a_iAddr <| And.intro @a_index <| And.intro @a_extract <| And.intro @a_blt <| And.intro @a_call <| And.intro @u_mv <| And.intro @u_pick_t <| And.intro @u_pick_f <| And.intro @u_box <| And.intro @u_nil_ptr <| And.intro @u_nil_imp <| And.intro @u_nil_fn <| And.intro @u_neg <| And.intro @u_not <| And.intro @u_compl <| And.intro @u_mkFn <| And.intro @u_extract <| And.intro @u_max <| And.intro @u_min <| And.intro @t_alloc <| And.intro @t_build <| And.intro @t_buildSl <| And.intro @t_load <| And.intro @t_store <| And.intro @t_bin <| And.intro @t_conv <| And.intro @t_mkSl <| And.intro @t_slice <| And.intro @t_fAddr <| And.intro @t_field <| And.intro @t_iAddr <| And.intro @t_index <| And.intro @t_len <| And.intro @t_append <| And.intro @t_copy <| And.intro @f_alloc <| And.intro @f_build <| And.intro @f_buildA <| And.intro @f_buildSl <| And.intro @f_load_el <| And.intro @f_load_ptr <| And.intro @f_load_imp <| And.intro @f_store_el <| And.intro @f_store_ptr <| And.intro @f_add <| And.intro @f_sub <| And.intro @f_mul <| And.intro @f_quo <| And.intro @f_rem <| And.intro @f_and <| And.intro @f_or <| And.intro @f_xor <| And.intro @f_andNot <| And.intro @f_eql <| And.intro @f_neq <| And.intro @f_lss <| And.intro @f_leq <| And.intro @f_gtr <| And.intro @f_geq <| And.intro @f_shl <| And.intro @f_shr <| And.intro @f_eqB <| And.intro @f_neB <| And.intro @f_eqS <| And.intro @f_neS <| And.intro @f_addS <| And.intro @f_convI <| And.intro @f_mkSl <| And.intro @f_slice <| And.intro @f_sliceS <| And.intro @f_fAddr_ptr <| And.intro @f_fAddr_imp <| And.intro @f_fAddr_el <| And.intro @f_field <| And.intro @f_iAddr <| And.intro @f_iAddr_ptr <| And.intro @f_iAddr_imp <| And.intro @f_indexS <| And.intro @f_lenS <| And.intro @f_len <| And.intro @f_app_own <| And.intro @f_app_nil <| And.intro @f_copy <| And.intro @fits_nil <| And.intro @fits_cons <| And.intro @putS_some <| And.intro @putS_none <| And.intro @ev_tmp <| And.intro @ev_cint <| And.intro @ev_cbool <| And.intro @ev_cstr <| And.intro @ev_cslice <| And.intro @ev_cptr <| And.intro @ev_cnilf <| And.intro @ev_cnili <| And.intro @ev_cagg <| And.intro @ev_func <| @get_cons) := And.intro @V_seq <| And.intro @V_skip <| And.intro @V_ret <| And.intro @V_exit <| And.intro @V_label <| And.intro @V_block <| And.intro @V_scope <| And.intro @V_region <| And.intro @V_cond <| And.intro @C_true <| And.intro @C_false <| And.intro @R_nil <| And.intro @R_seqN <| And.intro @R_seqE <| And.intro @R_seqR <| And.intro @R_blkN <| And.intro @R_blkE <| And.intro @R_blkR <| And.intro @R_scpN <| And.intro @R_scpE <| And.intro @R_scpR <| And.intro @R_lpN <| And.intro @R_lpE <| And.intro @R_lpR <| And.intro @O_nil <| And.intro @O_cons <| And.intro @O_guard <| And.intro @G_tt <| And.intro @G_ff <| And.intro @G_tf <| And.intro @G_ft <| And.intro @G_un <| And.intro @a_move <| And.intro @a_assign <| And.intro @a_pick <| And.intro @a_alloc <| And.intro @a_box <| And.intro @a_build <| And.intro @a_buildSl <| And.intro @a_load <| And.intro @a_store <| And.intro @a_nilCk <| And.intro @a_bin <| And.intro @a_un <| And.intro @a_conv <| And.intro @a_mkFn <| And.intro @a_mkSl <| And.intro @a_slice <| And.intro @a_fAddr <| And.intro @a_field <| And.intro @a_iAddr <| And.intro @a_index <| And.intro @a_extract <| And.intro @a_blt <| And.intro @a_call <| And.intro @u_mv <| And.intro @u_pick_t <| And.intro @u_pick_f <| And.intro @u_box <| And.intro @u_nil_ptr <| And.intro @u_nil_imp <| And.intro @u_nil_fn <| And.intro @u_neg <| And.intro @u_not <| And.intro @u_compl <| And.intro @u_mkFn <| And.intro @u_extract <| And.intro @u_max <| And.intro @u_min <| And.intro @t_alloc <| And.intro @t_build <| And.intro @t_buildSl <| And.intro @t_load <| And.intro @t_store <| And.intro @t_bin <| And.intro @t_conv <| And.intro @t_mkSl <| And.intro @t_slice <| And.intro @t_fAddr <| And.intro @t_field <| And.intro @t_iAddr <| And.intro @t_index <| And.intro @t_len <| And.intro @t_append <| And.intro @t_copy <| And.intro @f_alloc <| And.intro @f_build <| And.intro @f_buildA <| And.intro @f_buildSl <| And.intro @f_load_el <| And.intro @f_load_ptr <| And.intro @f_load_imp <| And.intro @f_store_el <| And.intro @f_store_ptr <| And.intro @f_add <| And.intro @f_sub <| And.intro @f_mul <| And.intro @f_quo <| And.intro @f_rem <| And.intro @f_and <| And.intro @f_or <| And.intro @f_xor <| And.intro @f_andNot <| And.intro @f_eql <| And.intro @f_neq <| And.intro @f_lss <| And.intro @f_leq <| And.intro @f_gtr <| And.intro @f_geq <| And.intro @f_shl <| And.intro @f_shr <| And.intro @f_eqB <| And.intro @f_neB <| And.intro @f_eqS <| And.intro @f_neS <| And.intro @f_addS <| And.intro @f_convI <| And.intro @f_mkSl <| And.intro @f_slice <| And.intro @f_sliceS <| And.intro @f_fAddr_ptr <| And.intro @f_fAddr_imp <| And.intro @f_fAddr_el <| And.intro @f_field <| And.intro @f_iAddr <| And.intro @f_iAddr_ptr <| And.intro @f_iAddr_imp <| And.intro @f_indexS <| And.intro @f_lenS <| And.intro @f_len <| And.intro @f_app_own <| And.intro @f_app_nil <| And.intro @f_copy <| And.intro @fits_nil <| And.intro @fits_cons <| And.intro @putS_some <| And.intro @putS_none <| And.intro @ev_tmp <| And.intro @ev_cint <| And.intro @ev_cbool <| And.intro @ev_cstr <| And.intro @ev_cslice <| And.intro @ev_cptr <| And.intro @ev_cnilf <| And.intro @ev_cnili <| And.intro @ev_cagg <| And.intro @ev_func <| @get_cons
end Go.Proofs.Pv

/- The engine's thirteenth part: values' equations. -/
namespace Go.Proofs.Pv
open Go Go.RowKit

/-- Rows of numbers. -/
def u32s (l : List Nat) : List AV := l.map fun (n : Nat) => .val (.int .u32 (n : Int))
def u8s (l : List Nat) : List AV := l.map fun (n : Nat) => .val (.int .u8 (n : Int))

section
variable {l m : List Nat} {rest : List AV} {i : Nat} {x : Int}
theorem u32s_length : (u32s l).length = l.length := by simp [u32s]
theorem u8s_length : (u8s l).length = l.length := by simp [u8s]
theorem u32s_leaf : (u32s l).all leaf = true := by simp [u32s, leaf, Value.oneCell']
theorem u8s_leaf : (u8s l).all leaf = true := by simp [u8s, leaf, Value.oneCell']
theorem u32s_get (h : i < l.length) : (u32s l)[i]? = some (.val (.int .u32 (l.getD i 0 : Nat))) := by simp [u32s, h]
theorem u8s_get (h : i < l.length) : (u8s l)[i]? = some (.val (.int .u8 (l.getD i 0 : Nat))) := by simp [u8s, h]
theorem u32s_take : (u32s l).take i = u32s (l.take i) := by simp [u32s, List.map_take]
theorem u8s_take : (u8s l).take i = u8s (l.take i) := by simp [u8s, List.map_take]
theorem u32s_drop : (u32s l).drop i = u32s (l.drop i) := by simp [u32s, List.map_drop]
theorem u8s_drop : (u8s l).drop i = u8s (l.drop i) := by simp [u8s, List.map_drop]
theorem u32s_app : u32s l ++ u32s m = u32s (l ++ m) := by simp [u32s]
theorem u32s_put (h : 0 ≤ x) : put1 (u32s l) i (.val (.int .u32 x)) = u32s (l.set i x.toNat) := by
  unfold put1 u32s
  rw [List.map_set, Int.toNat_of_nonneg h]
theorem u8s_put (h : 0 ≤ x) : put1 (u8s l) i (.val (.int .u8 x)) = u8s (l.set i x.toNat) := by
  unfold put1 u8s
  rw [List.map_set, Int.toNat_of_nonneg h]
theorem u32s_zero {n : Nat} : zrow n [.int .u32 0] = u32s (List.replicate n 0) := by simp [zrow, u32s]
theorem u8s_zero {n : Nat} : zrow n [.int .u8 0] = u8s (List.replicate n 0) := by simp [zrow, u8s]
theorem u32s_pre : (u32s l ++ rest).take l.length = u32s l := by rw [← u32s_length (l := l)]; exact List.take_left
theorem u8s_pre : (u8s l ++ rest).take l.length = u8s l := by rw [← u8s_length (l := l)]; exact List.take_left
theorem leaf_int {k : IntKind} {n : Int} : leaf (.val (.int k n)) = true := rfl
theorem leaf_bool {b : Bool} : leaf (.val (.bool b)) = true := rfl
theorem leaf_str {b : ByteArray} : leaf (.val (.string b)) = true := rfl
theorem leaf_nil {n c : Nat} : leaf (.val (.slice none n c)) = true := rfl
theorem leaf_im {n : Nat} {cs : List AV} : leaf (.im n cs) = true := rfl
theorem leaf_own {r off n sz : Nat} : leaf (.own r off n sz) = true := rfl
theorem ok_agg {cs : List AV} : okCells (.agg cs) = cs.all leaf := rfl
theorem ok_leaf {x : AV} (h : leaf x = true) : okCells x = true := by
  cases x <;> first | exact h | cases h
theorem ok_int {k : IntKind} {n : Int} : okCells (.val (.int k n)) = true := rfl
theorem ok_bool {b : Bool} : okCells (.val (.bool b)) = true := rfl
theorem ok_str {b : ByteArray} : okCells (.val (.string b)) = true := rfl
theorem ok_nil {n c : Nat} : okCells (.val (.slice none n c)) = true := rfl
theorem ok_im {n : Nat} {cs : List AV} : okCells (.im n cs) = true := rfl
theorem ok_own {r off n sz : Nat} : okCells (.own r off n sz) = true := rfl
theorem cells_val {v : Value} : cellsA (.val v) = [.val v] := rfl
theorem cells_im {n : Nat} {cs : List AV} : cellsA (.im n cs) = [.im n cs] := rfl
theorem cells_own {r off n sz : Nat} : cellsA (.own r off n sz) = [.own r off n sz] := rfl
theorem put1_val0 {c : AV} {cs : List AV} {v : Value} : put1 (c :: cs) 0 (.val v) = .val v :: cs := rfl
theorem put1_valS {c : AV} {cs : List AV} {n : Nat} {v : Value} : put1 (c :: cs) (n + 1) (.val v) = c :: put1 cs n (.val v) := rfl
theorem put1_own {cs : List AV} {i r off n sz : Nat} : put1 cs i (.own r off n sz) = cs.set i (.own r off n sz) := rfl
theorem put1_im {cs ds : List AV} {i n : Nat} : put1 cs i (.im n ds) = cs.set i (.im n ds) := rfl
theorem cast0 : ((0 : Nat) : Int) = 0 := rfl
theorem cast1 : ((1 : Nat) : Int) = 1 := rfl
theorem cast_succ {n : Nat} : ((n + 1 : Nat) : Int) = (n : Int) + 1 := rfl
theorem cells_agg {cs : List AV} : cellsA (.agg cs) = cs := rfl
theorem cells_leaf {x : AV} (h : leaf x = true) : cellsA x = [x] := by
  cases x <;> first | rfl | cases h
theorem put1_leaf {x : AV} {cs : List AV} {off : Nat} (h : leaf x = true) : put1 cs off x = cs.set off x := by
  cases x <;> first | rfl | cases h
theorem put1_agg {ys cs : List AV} {off : Nat} : put1 cs off (.agg ys) = cs.take off ++ ys ++ cs.drop (off + ys.length) := rfl
theorem part_f {cs : List AV} {off sz : Nat} {K : AV → Prop} : partA cs off sz false K = match cs[off]? with | some x => K x | none => False := rfl
theorem part_t {cs : List AV} {off sz : Nat} {K : AV → Prop} : partA cs off sz true K = (off + sz ≤ cs.length ∧ K (.agg ((cs.drop off).take sz))) := rfl
theorem cutA_own {r off n s l m sz : Nat} : cutA (.own r off n s) l m sz = .own r (off + l * sz) m s := rfl
theorem cutA_im {n l m sz : Nat} {cs : List AV} : cutA (.im n cs) l m sz = .im m ((cs.drop (l * sz)).take (m * sz)) := rfl
theorem sl_own_eq {sz r off n s : Nat} {st : St} : sl sz st (.own r off n s) = if s = sz then match st[r]? with
    | some (some cs) => if ((cs.drop off).take (n * sz)).length = n * sz then some (n, (cs.drop off).take (n * sz)) else none
    | _ => none
    else none := rfl
theorem sl_im_eq {sz n : Nat} {st : St} {cs : List AV} : sl sz st (.im n cs) = if cs.length = n * sz then some (n, cs) else none := rfl
theorem sl_nil_eq {sz : Nat} {st : St} : sl sz st (.val (.slice none 0 0)) = some (0, []) := rfl
theorem slc_own_eq {r off n s : Nat} {st : St} : slc st (.own r off n s) = match st[r]? with
    | some (some cs) => some (n, (cs.drop off).take (n * s))
    | _ => none := rfl
theorem slc_im_eq {n : Nat} {st : St} {cs : List AV} : slc st (.im n cs) = some (n, cs) := rfl
theorem slc_nil_eq {st : St} : slc st (.val (.slice none 0 0)) = some (0, []) := rfl
theorem slb_nn {n : Nat} {F : Nat → Nat → Prop} : sliceB none none n F = F 0 n := rfl
theorem slb_ln {n : Nat} {k : IntKind} {l : Int} {F : Nat → Nat → Prop} : sliceB (some (.val (.int k l))) none n F = (0 ≤ l ∧ l ≤ n ∧ F l.toNat n) := rfl
theorem slb_nh {n : Nat} {k : IntKind} {h : Int} {F : Nat → Nat → Prop} : sliceB none (some (.val (.int k h))) n F = (0 ≤ h ∧ h ≤ n ∧ F 0 h.toNat) := rfl
theorem slb_lh {n : Nat} {k k2 : IntKind} {l h : Int} {F : Nat → Nat → Prop} : sliceB (some (.val (.int k l))) (some (.val (.int k2 h))) n F = (0 ≤ l ∧ l ≤ h ∧ h ≤ n ∧ F l.toNat h.toNat) := rfl
theorem good_int {k : IntKind} {z : List Value} : (TI.int k z).good = true := rfl
theorem good_bool {z : List Value} : (TI.bool z).good = true := rfl
theorem good_str {z : List Value} : (TI.str z).good = true := rfl
theorem good_slice {e sz b : Nat} {ez z : List Value} : (TI.slice e sz b ez z).good = true := rfl
theorem good_struct {fs : List (Nat × Nat × Bool)} {sz : Nat} {z : List Value} : (TI.struct fs sz z).good = true := rfl
theorem good_oth {z : List Value} : (TI.oth z).good = true := rfl
theorem size_int {k : IntKind} {z : List Value} : (TI.int k z).size = 1 := rfl
theorem size_bool {z : List Value} : (TI.bool z).size = 1 := rfl
theorem size_str {z : List Value} : (TI.str z).size = 1 := rfl
theorem size_slice {e sz b : Nat} {ez z : List Value} : (TI.slice e sz b ez z).size = 1 := rfl
theorem size_struct {fs : List (Nat × Nat × Bool)} {sz : Nat} {z : List Value} : (TI.struct fs sz z).size = sz := rfl
theorem size_oth {z : List Value} : (TI.oth z).size = 1 := rfl
theorem agg_int {k : IntKind} {z : List Value} : (TI.int k z).isAgg = false := rfl
theorem agg_bool {z : List Value} : (TI.bool z).isAgg = false := rfl
theorem agg_str {z : List Value} : (TI.str z).isAgg = false := rfl
theorem agg_slice {e sz b : Nat} {ez z : List Value} : (TI.slice e sz b ez z).isAgg = false := rfl
theorem agg_struct {fs : List (Nat × Nat × Bool)} {sz : Nat} {z : List Value} : (TI.struct fs sz z).isAgg = true := rfl
theorem agg_oth {z : List Value} : (TI.oth z).isAgg = false := rfl
theorem zero_int {k : IntKind} {z : List Value} : (TI.int k z).zero = z := rfl
theorem zero_bool {z : List Value} : (TI.bool z).zero = z := rfl
theorem zero_str {z : List Value} : (TI.str z).zero = z := rfl
theorem zero_slice {e sz b : Nat} {ez z : List Value} : (TI.slice e sz b ez z).zero = z := rfl
theorem zero_struct {fs : List (Nat × Nat × Bool)} {sz : Nat} {z : List Value} : (TI.struct fs sz z).zero = z := rfl
theorem zero_oth {z : List Value} : (TI.oth z).zero = z := rfl
theorem not_dec {p : Prop} [Decidable p] : (!decide p) = decide (¬p) := by by_cases h : p <;> simp [h]
theorem fill_nil {place : Nat → Option (Nat × Nat)} {cells : List AV} : fillA place cells [] = some cells := rfl
theorem fill_cons {place : Nat → Option (Nat × Nat)} {cells : List AV} {i : Nat} {x : AV} {rest : List (Nat × AV)} : fillA place cells ((i, x) :: rest) = match place i with
    | none => none
    | some (off, size) => if okCells x = true ∧ (cellsA x).length = size ∧ off + size ≤ cells.length then fillA place (cells.take off ++ cellsA x ++ cells.drop (off + size)) rest else none := rfl
theorem res_nil {X : Cx} {st : St} {s : Sl} {K : List AV → Prop} : resA X st s [] K = K [] := rfl
theorem res_tmp {X : Cx} {st : St} {s : Sl} {t : Nat} {rs : List ResultVar} {K : List AV → Prop} : resA X st s (.tmp t :: rs) K = resA X st s rs fun xs => K (Sl.get s t :: xs) := rfl
theorem res_cell {X : Cx} {st : St} {s : Sl} {c t : Nat} {rs : List ResultVar} {K : List AV → Prop} : resA X st s (.cell c t :: rs) K = match Sl.get s c with
    | .ptr r off => match st[r]? with
      | some (some cs) => (ti X.P t).good = true ∧ partA cs off (ti X.P t).size (ti X.P t).isAgg fun y => resA X st s rs fun xs => K (y :: xs)
      | _ => False
    | _ => False := rfl
theorem ret_one {x : AV} : retA [x] = x := rfl
theorem ret_none : retA [] = .tup [] := rfl
theorem ret_two {x y : AV} {l : List AV} : retA (x :: y :: l) = .tup (x :: y :: l) := rfl
theorem body_n {X : Cx} {rs : List ResultVar} {K : AV → St → Prop} {s : Sl} {st : St} : bodyK X rs K .normal s st = resA X st s rs fun xs => K (retA xs) st := rfl
theorem body_r {X : Cx} {rs : List ResultVar} {K : AV → St → Prop} {s : Sl} {st : St} : bodyK X rs K .ret s st = resA X st s rs fun xs => K (retA xs) st := rfl
theorem get_app0 {α : Type} {a b : List α} : (a ++ b)[a.length]? = b[0]? := by rw [List.getElem?_append_right (Nat.le_refl _), Nat.sub_self]
theorem get_app {α : Type} {a b : List α} {n : Nat} : (a ++ b)[a.length + n]? = b[n]? := by rw [List.getElem?_append_right (Nat.le_add_right _ _), Nat.add_sub_cancel_left]
theorem set_app0 {α : Type} {a b : List α} {v : α} : (a ++ b).set a.length v = a ++ b.set 0 v := by rw [List.set_append_right _ _ (Nat.le_refl _), Nat.sub_self]
theorem set_app {α : Type} {a b : List α} {n : Nat} {v : α} : (a ++ b).set (a.length + n) v = a ++ b.set n v := by rw [List.set_append_right _ _ (Nat.le_add_right _ _), Nat.add_sub_cancel_left]
theorem toNat_sub1 {m : Nat} : ((m : Int) - 1).toNat = m - 1 := by omega
theorem toNat_sub {m n : Nat} : ((m : Int) - (n : Int)).toNat = m - n := by omega
theorem toNat_add1 {m : Nat} : ((m : Int) + 1).toNat = m + 1 := by omega
theorem toNat_add {m n : Nat} : ((m : Int) + (n : Int)).toNat = m + n := by omega
theorem getD_take {i m : Nat} {l : List Nat} (h : i < m) : (l.take m).getD i 0 = l.getD i 0 := by
  rw [List.getD_eq_getElem?_getD, List.getElem?_take_of_lt h, List.getD_eq_getElem?_getD]
theorem tdiv_nat {m n : Nat} : (m : Int).tdiv (n : Int) = ((m / n : Nat) : Int) := rfl
theorem tmod_nat {m n : Nat} : (m : Int).tmod (n : Int) = ((m % n : Nat) : Int) := rfl
theorem tdiv32 {m : Nat} : (m : Int).tdiv 32 = ((m / 32 : Nat) : Int) := rfl
theorem tmod32 {m : Nat} : (m : Int).tmod 32 = ((m % 32 : Nat) : Int) := rfl
theorem div_pow2 {a k : Nat} : (a : Int) / 2 ^ k = ((a / 2 ^ k : Nat) : Int) := by rw [Int.natCast_ediv, Int.natCast_pow]; rfl
theorem mul_pow2 {a k : Nat} : (a : Int) * 2 ^ k = ((a * 2 ^ k : Nat) : Int) := by rw [Int.natCast_mul, Int.natCast_pow]; rfl
theorem toNat_addc {a b : Int} (ha : 0 ≤ a) (hb : 0 ≤ b) : (a + b).toNat = a.toNat + b.toNat := by omega
theorem get_set1 {α : Type} {l : List α} {i : Nat} {v : α} (h : i < l.length) : (l.set i v)[i]? = some v := by simp [h]
theorem toNat_sub2 {m : Nat} : ((m : Int) - 2).toNat = m - 2 := by omega
theorem bits_u64 : IntKind.u64.bits = 64 := rfl
theorem bits_u32 : IntKind.u32.bits = 32 := rfl
theorem bits_u8 : IntKind.u8.bits = 8 := rfl
theorem bits_i64 : IntKind.i64.bits = 64 := rfl
theorem le_add {a n : Nat} : (a ≤ a + n) = True := by simp
end

/-- The walk's begin. -/
theorem vc_V {X : Cx} {c : Code} {Q : Post} {s : Sl} {st : St} (h : V X c [] Q () s st) : vc X c Q s st := h

/-- Values' equations. -/
theorem vals : type_of% (And.intro @toNat_sub2 <| And.intro @get_set1 <| And.intro @List.set_set.{0} <| And.intro @toNat_addc <| And.intro @tdiv32 <| And.intro @tmod32 <| And.intro @div_pow2 <| And.intro @mul_pow2 <| And.intro @tdiv_nat <| And.intro @tmod_nat <| And.intro @ok_int <| And.intro @ok_bool <| And.intro @ok_str <| And.intro @ok_nil <| And.intro @ok_im <| And.intro @ok_own <| And.intro @cells_val <| And.intro @cells_im <| And.intro @cells_own <| And.intro @put1_val0 <| And.intro @put1_valS <| And.intro @put1_own <| And.intro @put1_im <| And.intro @cast0 <| And.intro @cast1 <| And.intro @cast_succ <| And.intro @u32s_length <| And.intro @u8s_length <| And.intro @u32s_leaf <| And.intro @u8s_leaf <| And.intro @u32s_get <| And.intro @u8s_get <| And.intro @u32s_take <| And.intro @u8s_take <| And.intro @u32s_drop <| And.intro @u8s_drop <| And.intro @u32s_put <| And.intro @u8s_put <| And.intro @u32s_zero <| And.intro @u8s_zero <| And.intro @u32s_pre <| And.intro @u8s_pre <|
  And.intro @leaf_int <| And.intro @leaf_bool <| And.intro @leaf_str <| And.intro @leaf_nil <| And.intro @leaf_im <| And.intro @leaf_own <| And.intro @ok_agg <| And.intro @ok_leaf <| And.intro @cells_agg <| And.intro @cells_leaf <| And.intro @put1_leaf <| And.intro @put1_agg <| And.intro @part_f <| And.intro @part_t <| And.intro @cutA_own <| And.intro @cutA_im <| And.intro @sl_own_eq <| And.intro @sl_im_eq <| And.intro @sl_nil_eq <| And.intro @slc_own_eq <| And.intro @slc_im_eq <| And.intro @slc_nil_eq <|
  And.intro @slb_nn <| And.intro @slb_ln <| And.intro @slb_nh <| And.intro @slb_lh <| And.intro @good_int <| And.intro @good_bool <| And.intro @good_str <| And.intro @good_slice <| And.intro @good_struct <| And.intro @good_oth <| And.intro @size_int <| And.intro @size_bool <| And.intro @size_str <| And.intro @size_slice <| And.intro @size_struct <| And.intro @size_oth <| And.intro @agg_int <| And.intro @agg_bool <| And.intro @agg_str <| And.intro @agg_slice <| And.intro @agg_struct <| And.intro @agg_oth <|
  And.intro @zero_int <| And.intro @zero_bool <| And.intro @zero_str <| And.intro @zero_slice <| And.intro @zero_struct <| And.intro @zero_oth <| And.intro @not_dec <| And.intro @fill_nil <| And.intro @fill_cons <| And.intro @res_nil <| And.intro @res_tmp <| And.intro @res_cell <| And.intro @ret_one <| And.intro @ret_none <| And.intro @ret_two <| And.intro @body_n <| And.intro @body_r <| And.intro @get_app0 <| And.intro @get_app <| And.intro @set_app0 <| And.intro @set_app <| And.intro @toNat_sub1 <| And.intro @toNat_sub <| And.intro @toNat_add1 <| And.intro @toNat_add <| And.intro @getD_take <| And.intro bits_u64 <| And.intro bits_u32 <| And.intro bits_u8 <| And.intro bits_i64 <| @le_add) := And.intro @toNat_sub2 <| And.intro @get_set1 <| And.intro @List.set_set.{0} <| And.intro @toNat_addc <| And.intro @tdiv32 <| And.intro @tmod32 <| And.intro @div_pow2 <| And.intro @mul_pow2 <| And.intro @tdiv_nat <| And.intro @tmod_nat <| And.intro @ok_int <| And.intro @ok_bool <| And.intro @ok_str <| And.intro @ok_nil <| And.intro @ok_im <| And.intro @ok_own <| And.intro @cells_val <| And.intro @cells_im <| And.intro @cells_own <| And.intro @put1_val0 <| And.intro @put1_valS <| And.intro @put1_own <| And.intro @put1_im <| And.intro @cast0 <| And.intro @cast1 <| And.intro @cast_succ <| And.intro @u32s_length <| And.intro @u8s_length <| And.intro @u32s_leaf <| And.intro @u8s_leaf <| And.intro @u32s_get <| And.intro @u8s_get <| And.intro @u32s_take <| And.intro @u8s_take <| And.intro @u32s_drop <| And.intro @u8s_drop <| And.intro @u32s_put <| And.intro @u8s_put <| And.intro @u32s_zero <| And.intro @u8s_zero <| And.intro @u32s_pre <| And.intro @u8s_pre <|
  And.intro @leaf_int <| And.intro @leaf_bool <| And.intro @leaf_str <| And.intro @leaf_nil <| And.intro @leaf_im <| And.intro @leaf_own <| And.intro @ok_agg <| And.intro @ok_leaf <| And.intro @cells_agg <| And.intro @cells_leaf <| And.intro @put1_leaf <| And.intro @put1_agg <| And.intro @part_f <| And.intro @part_t <| And.intro @cutA_own <| And.intro @cutA_im <| And.intro @sl_own_eq <| And.intro @sl_im_eq <| And.intro @sl_nil_eq <| And.intro @slc_own_eq <| And.intro @slc_im_eq <| And.intro @slc_nil_eq <|
  And.intro @slb_nn <| And.intro @slb_ln <| And.intro @slb_nh <| And.intro @slb_lh <| And.intro @good_int <| And.intro @good_bool <| And.intro @good_str <| And.intro @good_slice <| And.intro @good_struct <| And.intro @good_oth <| And.intro @size_int <| And.intro @size_bool <| And.intro @size_str <| And.intro @size_slice <| And.intro @size_struct <| And.intro @size_oth <| And.intro @agg_int <| And.intro @agg_bool <| And.intro @agg_str <| And.intro @agg_slice <| And.intro @agg_struct <| And.intro @agg_oth <|
  And.intro @zero_int <| And.intro @zero_bool <| And.intro @zero_str <| And.intro @zero_slice <| And.intro @zero_struct <| And.intro @zero_oth <| And.intro @not_dec <| And.intro @fill_nil <| And.intro @fill_cons <| And.intro @res_nil <| And.intro @res_tmp <| And.intro @res_cell <| And.intro @ret_one <| And.intro @ret_none <| And.intro @ret_two <| And.intro @body_n <| And.intro @body_r <| And.intro @get_app0 <| And.intro @get_app <| And.intro @set_app0 <| And.intro @set_app <| And.intro @toNat_sub1 <| And.intro @toNat_sub <| And.intro @toNat_add1 <| And.intro @toNat_add <| And.intro @getD_take <| And.intro bits_u64 <| And.intro bits_u32 <| And.intro bits_u8 <| And.intro bits_i64 <| @le_add

/-- Lengths. -/
theorem lens : type_of% (And.intro @List.length_take.{0} <| And.intro @List.length_drop.{0} <| And.intro @List.length_set.{0} <| And.intro @List.length_replicate.{0} <| And.intro @List.length_append.{0} <| And.intro @List.length_cons.{0} <| And.intro @List.length_nil.{0} <| And.intro @u32s_length <| And.intro @u8s_length <| And.intro @Int.toNat_natCast <| And.intro @toNat_sub2 <| And.intro @toNat_sub1 <| And.intro @toNat_sub <| And.intro @toNat_addc <| And.intro @toNat_add1 @toNat_add) := And.intro @List.length_take.{0} <| And.intro @List.length_drop.{0} <| And.intro @List.length_set.{0} <| And.intro @List.length_replicate.{0} <| And.intro @List.length_append.{0} <| And.intro @List.length_cons.{0} <| And.intro @List.length_nil.{0} <| And.intro @u32s_length <| And.intro @u8s_length <| And.intro @Int.toNat_natCast <| And.intro @toNat_sub2 <| And.intro @toNat_sub1 <| And.intro @toNat_sub <| And.intro @toNat_addc <| And.intro @toNat_add1 @toNat_add

/-- Lists' and numbers' equations. -/
theorem lsts : type_of% (And.intro @cond_true.{1} <| And.intro @cond_false.{1} <| And.intro @IntWalk.i64_in <| And.intro @IntWalk.u64_in <| And.intro @IntWalk.u32_in <| And.intro @IntWalk.u8_in <|
  And.intro @List.length_cons.{0} <| And.intro @List.length_nil.{0} <| And.intro @List.length_append.{0} <| And.intro @List.length_set.{0} <| And.intro @List.length_replicate.{0} <| And.intro @List.append_assoc.{0} <| And.intro @List.cons_append.{0} <| And.intro @List.nil_append.{0} <| And.intro @List.append_nil.{0} <| And.intro @List.map_cons.{0,0} <| And.intro @List.map_nil.{0,0} <|
  And.intro @List.getElem?_cons_zero.{0} <| And.intro @List.getElem?_cons_succ.{0} <| And.intro @List.set_cons_zero.{0} <| And.intro @List.set_cons_succ.{0} <| And.intro @List.drop_zero.{0} <| And.intro @List.drop_nil.{0} <| And.intro @List.drop_succ_cons.{0} <| And.intro @List.take_zero.{0} <| And.intro @List.take_nil.{0} <| And.intro @List.take_succ_cons.{0} <| And.intro @List.take_length.{0} <| And.intro @List.length_take.{0} <| And.intro @List.length_drop.{0} <| And.intro @List.all_cons.{0} <| And.intro @List.all_nil.{0} <|
  And.intro @Nat.mul_one <| And.intro @Nat.zero_mul <| And.intro @Nat.zero_add <| And.intro @Nat.add_zero <| And.intro @Nat.sub_zero <| And.intro @Nat.le_refl <| And.intro @Nat.min_self <| And.intro @Nat.min_eq_left <| And.intro @Int.toNat_natCast <| And.intro @Option.map_some.{0,0} <| @Option.map_none.{0,0}) := And.intro @cond_true.{1} <| And.intro @cond_false.{1} <| And.intro @IntWalk.i64_in <| And.intro @IntWalk.u64_in <| And.intro @IntWalk.u32_in <| And.intro @IntWalk.u8_in <|
  And.intro @List.length_cons.{0} <| And.intro @List.length_nil.{0} <| And.intro @List.length_append.{0} <| And.intro @List.length_set.{0} <| And.intro @List.length_replicate.{0} <| And.intro @List.append_assoc.{0} <| And.intro @List.cons_append.{0} <| And.intro @List.nil_append.{0} <| And.intro @List.append_nil.{0} <| And.intro @List.map_cons.{0,0} <| And.intro @List.map_nil.{0,0} <|
  And.intro @List.getElem?_cons_zero.{0} <| And.intro @List.getElem?_cons_succ.{0} <| And.intro @List.set_cons_zero.{0} <| And.intro @List.set_cons_succ.{0} <| And.intro @List.drop_zero.{0} <| And.intro @List.drop_nil.{0} <| And.intro @List.drop_succ_cons.{0} <| And.intro @List.take_zero.{0} <| And.intro @List.take_nil.{0} <| And.intro @List.take_succ_cons.{0} <| And.intro @List.take_length.{0} <| And.intro @List.length_take.{0} <| And.intro @List.length_drop.{0} <| And.intro @List.all_cons.{0} <| And.intro @List.all_nil.{0} <|
  And.intro @Nat.mul_one <| And.intro @Nat.zero_mul <| And.intro @Nat.zero_add <| And.intro @Nat.add_zero <| And.intro @Nat.sub_zero <| And.intro @Nat.le_refl <| And.intro @Nat.min_self <| And.intro @Nat.min_eq_left <| And.intro @Int.toNat_natCast <| And.intro @Option.map_some.{0,0} <| @Option.map_none.{0,0}
/-- Truths. -/
theorem bz_i {k : IntKind} {n : Int} {l : List Value} : bz (.int k n :: l) = false := rfl
theorem bz_b {b : Bool} {l : List Value} : bz (.bool b :: l) = false := rfl
theorem bz_s {b : ByteArray} {l : List Value} : bz (.string b :: l) = false := rfl
theorem bz_l {a : Option Addr} {n c : Nat} {l : List Value} : bz (.slice a n c :: l) = false := rfl
theorem bz_y : bz [.pointer none, .slice none 0 0] = true := rfl
theorem bls : type_of% (And.intro @bz_i <| And.intro @bz_b <| And.intro @bz_s <| And.intro @bz_l <| And.intro bz_y <| And.intro @true_and <| And.intro @and_true <| And.intro @and_self <| And.intro @true_implies <| And.intro @decide_true <| And.intro @decide_false <| And.intro @Bool.not_true <| And.intro @Bool.not_false <| And.intro @Bool.and_true <| And.intro @Bool.and_false <| And.intro @Bool.true_and <| And.intro @Bool.false_and <| And.intro @Bool.and_self <| @decide_eq_true_eq) := And.intro @bz_i <| And.intro @bz_b <| And.intro @bz_s <| And.intro @bz_l <| And.intro bz_y <| And.intro @true_and <| And.intro @and_true <| And.intro @and_self <| And.intro @true_implies <| And.intro @decide_true <| And.intro @decide_false <| And.intro @Bool.not_true <| And.intro @Bool.not_false <| And.intro @Bool.and_true <| And.intro @Bool.and_false <| And.intro @Bool.true_and <| And.intro @Bool.false_and <| And.intro @Bool.and_self <| @decide_eq_true_eq
end Go.Proofs.Pv

/- The engine's fourteenth part: what is left over of a call is swept away; drawn regions by a list; numbers in rows. -/
namespace Go.Proofs.Pv
open Go Go.RowKit

def plain (cs : List AV) : Prop := ∀ c ∈ cs, ∃ v, c = .val v

mutual
/-- A value with the new objects numbered anew: number L[i] becomes i. -/
inductive Mv (st : St) (L : List Nat) : AV → AV → Prop
  | val (v : Value) : Mv st L (.val v) (.val v)
  | old {sz n : Nat} {x : AV} {cs : List AV} (h : sl sz st x = some (n, cs)) (hp : plain cs) : Mv st L x x
  | new {i r off n sz : Nat} (h : L[i]? = some r) : Mv st L (.own (st.length + r) off n sz) (.own (st.length + i) off n sz)
  | agg {xs ys : List AV} (h : Mvs st L xs ys) : Mv st L (.agg xs) (.agg ys)
  | tup {xs ys : List AV} (h : Mvs st L xs ys) : Mv st L (.tup xs) (.tup ys)
inductive Mvs (st : St) (L : List Nat) : List AV → List AV → Prop
  | nil : Mvs st L [] []
  | cons {x y : AV} {xs ys : List AV} (h : Mv st L x y) (hs : Mvs st L xs ys) : Mvs st L (x :: xs) (y :: ys)
end

section
variable {w0 : World} {β ex : Bk} {st : St} {L : List Nat}

def sweep (L : List Nat) (ex : Bk) : Bk := L.map fun r => (ex[r]?).getD none

theorem sweep_get (hL : ∀ r ∈ L, r < ex.length) {i r : Nat} (h : L[i]? = some r) : (sweep L ex)[i]? = ex[r]? := by
  have hr := hL r (List.mem_of_getElem? h)
  simp [sweep, h, hr]

mutual
theorem Mv.rel (hlen : β.length = st.length) (hL : ∀ r ∈ L, r < ex.length) {x y : AV} : Mv st L x y → ∀ v, VRel w0 (β ++ ex) v x → VRel w0 (β ++ sweep L ex) v y
  | .val v, u, h => by cases h; exact .val v
  | .old (n := n) (cs := cs) h hp, v, hv => by
    rcases sl_cases h with ⟨rfl, hl⟩ | ⟨r, off, c, rfl, hc, hd, hl⟩ | ⟨rfl, rfl, rfl⟩
    · cases hv with
      | im u hn hc hr hv =>
        refine .im u hn hc hr fun j x hx => ?_
        obtain ⟨z, rfl⟩ := hp x (List.mem_of_getElem? hx)
        rw [inv_val (hv j _ hx)]; exact .val z
    · have hr : r < β.length := by rw [hlen]; exact (List.getElem?_eq_some_iff.1 hc).1
      have e : ∀ z : Bk, (β ++ z)[r]? = β[r]? := fun z => List.getElem?_append_left hr
      cases hv with
      | own hb hn hc ho => rw [e] at hb; exact .own (by rw [e]; exact hb) hn hc ho
      | nil hb => rw [e] at hb; exact .nil (by rw [e]; exact hb)
    · cases hv; exact .val _
  | .new (i := i) (r := r) h, v, hv => by
    have e1 : (β ++ ex)[st.length + r]? = ex[r]? := by rw [← hlen, List.getElem?_append_right (by omega), Nat.add_sub_cancel_left]
    have e2 : (β ++ sweep L ex)[st.length + i]? = ex[r]? := by rw [← hlen, List.getElem?_append_right (by omega), Nat.add_sub_cancel_left, sweep_get hL h]
    cases hv with
    | own hb hn hc ho => rw [e1] at hb; exact .own (by rw [e2]; exact hb) hn hc ho
    | nil hb => rw [e1] at hb; exact .nil (by rw [e2]; exact hb)
  | .agg h, v, hv => by
    cases hv with
    | agg hs hv =>
      obtain ⟨h1, h2⟩ := Mvs.rel hlen hL h
      refine .agg (hs.trans h1) fun j u y hu hy => ?_
      have hj : j < _ := (List.getElem?_eq_some_iff.1 hy).1
      rw [← h1] at hj
      exact h2 j _ y (List.getElem?_eq_getElem hj) hy u (hv j u _ hu (List.getElem?_eq_getElem hj))
  | .tup h, v, hv => by
    cases hv with
    | tup hs hv =>
      obtain ⟨h1, h2⟩ := Mvs.rel hlen hL h
      refine .tup (hs.trans h1) fun j u y hu hy => ?_
      have hj : j < _ := (List.getElem?_eq_some_iff.1 hy).1
      rw [← h1] at hj
      exact h2 j _ y (List.getElem?_eq_getElem hj) hy u (hv j u _ hu (List.getElem?_eq_getElem hj))
theorem Mvs.rel (hlen : β.length = st.length) (hL : ∀ r ∈ L, r < ex.length) {xs ys : List AV} : Mvs st L xs ys → xs.length = ys.length ∧ ∀ (j : Nat) x y, xs[j]? = some x → ys[j]? = some y → ∀ v, VRel w0 (β ++ ex) v x → VRel w0 (β ++ sweep L ex) v y
  | .nil => ⟨rfl, fun j x y hx => by cases hx⟩
  | .cons h hs => by
    obtain ⟨h1, h2⟩ := Mvs.rel hlen hL hs
    refine ⟨by simp [h1], fun j x y hx hy v hv => ?_⟩
    cases j with
    | zero => cases hx; cases hy; exact Mv.rel hlen hL h v hv
    | succ j => exact h2 j x y hx hy v hv
end

/-- Of the new objects only L's are kept. -/
theorem Inv.sweep {P : Program} {w w' : World} {y : St} (hI : Inv ⟨P, w0, w, st, β, [], []⟩ β st w) (h : Inv ⟨P, w0, w, st, β, [], []⟩ (β ++ ex) (st ++ y) w') (hn : L.Nodup) (zs : List (List AV)) (hz : L.map (fun r => y[r]?) = zs.map fun z => some (some z)) (hp : ∀ z ∈ zs, plain z) :
    (∀ r ∈ L, r < ex.length) ∧ Inv ⟨P, w0, w, st, β, [], []⟩ (β ++ Pv.sweep L ex) (st ++ zs.map some) w' := by
  have hlen := hI.len
  have hl2 : ex.length = y.length := by have := h.len; simp only [List.length_append] at this; omega
  have hzl : L.length = zs.length := by have := congrArg List.length hz; simpa using this
  have hzi : ∀ (i : Nat) r, L[i]? = some r → ∃ z, zs[i]? = some z ∧ y[r]? = some (some z) ∧ plain z := by
    intro i r hr
    have := congrArg (fun l => l[i]?) hz
    simp only [List.getElem?_map, hr, Option.map_some] at this
    cases hzz : zs[i]? with
    | none => simp [hzz] at this
    | some z => simp only [hzz, Option.map_some, Option.some.injEq] at this; exact ⟨z, rfl, this, hp z (List.mem_of_getElem? hzz)⟩
  have hL : ∀ r ∈ L, r < ex.length := by
    intro r hr
    obtain ⟨i, hi⟩ := List.mem_iff_getElem?.1 hr
    obtain ⟨z, _, h2, _⟩ := hzi i r hi
    rw [hl2]; exact (List.getElem?_eq_some_iff.1 h2).1
  have hI' := hI.grow_below h.b1
  have hsw : (Pv.sweep L ex).length = L.length := by simp [Pv.sweep]
  -- where a number comes from
  have src : ∀ r bk, (β ++ Pv.sweep L ex)[r]? = some bk → (r < st.length ∧ β[r]? = some bk) ∨ (∃ i q, r = st.length + i ∧ L[i]? = some q ∧ (β ++ ex)[st.length + q]? = some bk) := by
    intro r bk hr
    by_cases hlt : r < β.length
    · rw [List.getElem?_append_left hlt] at hr; exact .inl ⟨by omega, hr⟩
    · rw [List.getElem?_append_right (by omega)] at hr
      have hi : r - β.length < L.length := by rw [← hsw]; exact (List.getElem?_eq_some_iff.1 hr).1
      refine .inr ⟨r - β.length, L[r - β.length], by omega, List.getElem?_eq_getElem hi, ?_⟩
      rw [sweep_get hL (List.getElem?_eq_getElem hi)] at hr
      rw [← hlen, List.getElem?_append_right (by omega), Nat.add_sub_cancel_left]; exact hr
  have osrc : ∀ r cs, (st ++ zs.map some)[r]? = some (some cs) → (r < st.length ∧ st[r]? = some (some cs)) ∨ (∃ i q, r = st.length + i ∧ L[i]? = some q ∧ (st ++ y)[st.length + q]? = some (some cs) ∧ plain cs) := by
    intro r cs hr
    by_cases hlt : r < st.length
    · rw [List.getElem?_append_left hlt] at hr; exact .inl ⟨hlt, hr⟩
    · rw [List.getElem?_append_right (by omega), List.getElem?_map] at hr
      cases hzz : zs[r - st.length]? with
      | none => simp [hzz] at hr
      | some z =>
        simp only [hzz, Option.map_some, Option.some.injEq] at hr
        subst hr
        have hi : r - st.length < L.length := by rw [hzl]; exact (List.getElem?_eq_some_iff.1 hzz).1
        obtain ⟨z', q1, q2, q3⟩ := hzi _ _ (List.getElem?_eq_getElem hi)
        rw [hzz] at q1; cases q1
        refine .inr ⟨r - st.length, L[r - st.length], by omega, List.getElem?_eq_getElem hi, ?_, q3⟩
        rw [List.getElem?_append_right (by omega), Nat.add_sub_cancel_left]; exact q2
  have ghOld : ∀ {r : Nat} {S : List Nat} {G : World → Prop}, (st ++ zs.map some)[r]? = some (some [.gh S G]) → r < st.length ∧ st[r]? = some (some [.gh S G]) ∧ (st ++ y)[r]? = some (some [.gh S G]) := by
    intro r S G hr
    rcases osrc r _ hr with ⟨h1, h2⟩ | ⟨i, q, rfl, h2, h3, h4⟩
    · exact ⟨h1, h2, by rw [List.getElem?_append_left h1]; exact h2⟩
    · obtain ⟨v, hv⟩ := h4 _ (List.mem_cons_self ..)
      cases hv
  refine ⟨hL, h.b0, h.b1, by simp [hsw, hlen, hzl], ⟨_, rfl⟩, ⟨_, rfl⟩, ?_, ?_, ?_, ?_, fun r S G hr => ?_, fun r r' S S' G G' k1 k2 => h.gi r r' S S' G G' (ghOld k1).2.2 (ghOld k2).2.2, fun r S G hr D hD => by simp at hD, fun D hD => by simp at hD, by simp⟩
  rotate_left 4
  · obtain ⟨k1, k2, k3⟩ := ghOld hr
    obtain ⟨j1, j2, j3, j4, j5, j6⟩ := h.gh r S G k3
    refine ⟨j1, j2, j3, j4, fun k hk => ?_, fun r' cs b m hs hb => ?_⟩
    · obtain ⟨r', m, h7⟩ := (hI.gh r S G k2).2.2.2.2.1 k hk
      exact ⟨r', m, by rw [List.getElem?_append_left (List.getElem?_eq_some_iff.1 h7).1]; exact h7⟩
    rcases osrc r' cs hs with ⟨a1, a2⟩ | ⟨i, q, rfl, a2, a3, _⟩
    · rw [List.getElem?_append_left (by omega)] at hb
      exact j6 r' cs b m (by rw [List.getElem?_append_left a1]; exact a2) (by rw [List.getElem?_append_left (by omega)]; exact hb)
    · rw [← hlen, List.getElem?_append_right (by omega), Nat.add_sub_cancel_left, sweep_get hL a2] at hb
      exact j6 _ cs b m a3 (by rw [← hlen, List.getElem?_append_right (by omega), Nat.add_sub_cancel_left]; exact hb)
  · intro r b m hr hb
    rcases src r _ hb with ⟨h1, _⟩ | ⟨i, q, _, _, h3⟩
    · simp only at hr; omega
    · exact h.nw _ b m (by simp) h3
  · intro r b m hb
    rcases src r _ hb with ⟨_, h1⟩ | ⟨i, q, _, _, h3⟩
    · exact hI'.ow r b m h1
    · exact h.ow _ b m h3
  · intro r cs hr
    rcases osrc r cs hr with ⟨h1, h2⟩ | ⟨i, q, rfl, h2, h3, h4⟩
    · obtain ⟨bk, q1, q2⟩ := hI'.obj r cs h2
      refine ⟨bk, by rw [List.getElem?_append_left (by omega)]; exact q1, ?_⟩
      cases bk with
      | none => exact q2
      | some p => obtain ⟨c, e, g1, g2, g3, g4⟩ := q2; exact ⟨c, e, g1, g2, g3, fun j x hx => let ⟨u, g5, g6⟩ := g4 j x hx; ⟨u, g5, g6.ext _⟩⟩
    · obtain ⟨bk, q1, q2⟩ := h.obj _ cs h3
      refine ⟨bk, ?_, ?_⟩
      · rw [← hlen, List.getElem?_append_right (by omega), Nat.add_sub_cancel_left, sweep_get hL h2]
        rw [← hlen, List.getElem?_append_right (by omega), Nat.add_sub_cancel_left] at q1; exact q1
      · cases bk with
        | none => exact q2
        | some p =>
          obtain ⟨c, e, g1, g2, g3, g4⟩ := q2
          refine ⟨c, e, g1, g2, g3, fun j x hx => ?_⟩
          obtain ⟨u, g5, g6⟩ := g4 j x hx
          obtain ⟨v, rfl⟩ := h4 x (List.mem_of_getElem? hx)
          exact ⟨u, g5, by rw [inv_val g6]; exact .val v⟩
  · intro r r' cs cs' b m m' h1 h2 h3 h4
    rcases osrc r cs h1 with ⟨a1, a2⟩ | ⟨i, q, rfl, a2, a3, _⟩ <;> rcases osrc r' cs' h2 with ⟨b1, b2⟩ | ⟨i', q', rfl, b2, b3, _⟩
    · rw [List.getElem?_append_left (by omega)] at h3 h4
      exact hI'.inj r r' cs cs' b m m' a2 b2 h3 h4
    · rw [List.getElem?_append_left (by omega)] at h3
      rw [← hlen, List.getElem?_append_right (by omega), Nat.add_sub_cancel_left, sweep_get hL b2] at h4
      have := h.inj r (st.length + q') cs cs' b m m' (by rw [List.getElem?_append_left a1]; exact a2) b3 (by rw [List.getElem?_append_left (by omega)]; exact h3) (by rw [← hlen, List.getElem?_append_right (by omega), Nat.add_sub_cancel_left]; exact h4)
      omega
    · rw [List.getElem?_append_left (by omega)] at h4
      rw [← hlen, List.getElem?_append_right (by omega), Nat.add_sub_cancel_left, sweep_get hL a2] at h3
      have := h.inj (st.length + q) r' cs cs' b m m' a3 (by rw [List.getElem?_append_left b1]; exact b2) (by rw [← hlen, List.getElem?_append_right (by omega), Nat.add_sub_cancel_left]; exact h3) (by rw [List.getElem?_append_left (by omega)]; exact h4)
      omega
    · rw [← hlen, List.getElem?_append_right (by omega), Nat.add_sub_cancel_left, sweep_get hL a2] at h3
      rw [← hlen, List.getElem?_append_right (by omega), Nat.add_sub_cancel_left, sweep_get hL b2] at h4
      have := h.inj (st.length + q) (st.length + q') cs cs' b m m' a3 b3 (by rw [← hlen, List.getElem?_append_right (by omega), Nat.add_sub_cancel_left]; exact h3) (by rw [← hlen, List.getElem?_append_right (by omega), Nat.add_sub_cancel_left]; exact h4)
      have hq : q = q' := by omega
      subst hq
      have hi1 := List.getElem?_eq_some_iff.1 a2
      have hi2 := List.getElem?_eq_some_iff.1 b2
      obtain ⟨l1, e1⟩ := hi1
      obtain ⟨l2, e2⟩ := hi2
      have hp := List.pairwise_iff_getElem.1 hn
      rcases Nat.lt_trichotomy i i' with hl | hl | hl
      · exact absurd (e1.trans e2.symm) (hp i i' l1 l2 hl)
      · rw [hl]
      · exact absurd (e2.trans e1.symm) (hp i' i l2 l1 hl)

/-- A contract whose new objects are swept. -/
theorem tidy {P : Program} {f : FuncId} {R0 R : List AV → St → (AV → St → Prop) → Prop} (h : PSpec P f R0)
    (hR : ∀ xs st K, R xs st K → R0 xs st fun x st' => ∃ (L : List Nat) (y : St) (zs : List (List AV)) (x' : AV), st' = st ++ y ∧ L.Nodup ∧ L.map (fun r => y[r]?) = zs.map (fun z => some (some z)) ∧ (∀ z ∈ zs, plain z) ∧ Mv st L x x' ∧ K x' (st ++ zs.map some)) : PSpec P f R := by
  refine ⟨h.1, fun w0 β st w vs xs K hI hv hr => (h.2 w0 β st w vs xs _ hI hv (hR _ _ _ hr)).mono ?_⟩
  rintro e w' ⟨v, x, ex, st', he, h1, h2, L, y, zs, x', rfl, hn, hz, hp, hm, hK⟩
  obtain ⟨hL, h3⟩ := hI.sweep h1 hn zs hz hp
  exact ⟨v, x', _, _, he, h3, hm.rel hI.len hL v h2, hK⟩
end

/-! ### Drawn regions by a list -/

inductive Pk (full : List Oper) : List Nat → List Oper → Prop
  | nil : Pk full [] []
  | cons {i : Nat} {o : Oper} {l : List Nat} {l' : List Oper} : full[i]? = some o → Pk full l l' → Pk full (i :: l) (o :: l')

theorem Pk.eq {full : List Oper} {l : List Nat} {l' : List Oper} (h : Pk full l l') : (l.filterMap fun i => full.toArray[i]?) = l' := by
  induction h with
  | nil => rfl
  | cons h _ ih => simp [h, ← ih]

def okR (ops : Array Oper) (l : List Nat) : Bool := soundM ops (ancs ops) && Region.noSelect ops && okS ops (ancs ops) l (start ops)

theorem V_draw {X : Cx} {k : List Fr} {Q : Post} {s : Sl} {st : St} {id : Nat} {l l' : List Oper} {u} (is : List Nat) (h : okR l.toArray is = true) (hp : Pk l is l') (hO : O true X l l' k Q () s st) : V X (.region id (List.toArray l) true) k Q u s st := by
  simp only [okR, Bool.and_eq_true] at h
  refine ⟨_, h.1.1, h.1.2, .inl ⟨is, h.2, ?_⟩⟩
  rw [hp.eq]
  exact hO

def okL (ops : Array Oper) (A l1 l2 : List Nat) : Bool := soundM ops (ancs ops) && Region.noSelect ops && decide (l1.length + A.length + l2.length ≤ ops.size) && okP ops (ancs ops) A l2 l1 (start ops)
theorem mask_nil {ops : Array Oper} {s : Sl} : maskS ops [] s = s := rfl
/-- A drawn region in which variables are made that may come up at any time: as if they were made behind the first ones. -/
theorem V_late {X : Cx} {k : List Fr} {Q : Post} {s s' : Sl} {st : St} {id : Nat} {l l' : List Oper} {u} {P : Program} (A l1 l2 : List Nat) (hP : X.P = P) (hA : okA P l.toArray A = true) (h : okL l.toArray A l1 l2 = true) (hp : Pk l (l1 ++ (A ++ l2)) l') (hs : maskS l.toArray A s = s') (hO : O true X l l' k Q () s' st) : V X (.region id (List.toArray l) true) k Q u s st := by
  subst hP; subst hs
  simp only [okL, Bool.and_eq_true, decide_eq_true_eq] at h
  refine ⟨_, h.1.1.1, h.1.1.2, .inr (.inr (.inl ⟨A, l1, l2, h.1.2, hA, h.2, ?_⟩))⟩
  rw [hp.eq]
  exact hO

/-- A drawn region by a tree of orders. -/
def runT (X : Cx) (l : List Oper) (k : List Fr) (Q : Post) (t : Tr) (s : Sl) (st : St) : Prop := runD X l.toArray (unw X k Q .normal) t s st
theorem V_tree {X : Cx} {k : List Fr} {Q : Post} {s : Sl} {st : St} {id : Nat} {l : List Oper} {u} (t : Tr) (h : (soundM l.toArray (ancs l.toArray) && Region.noSelect l.toArray && decide (t.deep ≤ l.toArray.size) && okT l.toArray (ancs l.toArray) t (start l.toArray)) = true) (hO : runT X l k Q t s st) : V X (.region id (List.toArray l) true) k Q u s st := by
  simp only [Bool.and_eq_true, decide_eq_true_eq] at h
  exact ⟨_, h.1.1.1, h.1.1.2, .inr (.inr (.inr (.inl ⟨t, h.1.2, h.2, hO⟩)))⟩

/-- A drawn region by a tree of all orders. -/
def runM (X : Cx) (l : List Oper) (k : List Fr) (Q : Post) (b : Bool) (t : Tn) (s : Sl) (st : St) : Prop := runN X l.toArray (unw X k Q .normal) b t s st
theorem V_orders {X : Cx} {k : List Fr} {Q : Post} {s : Sl} {st : St} {id : Nat} {l : List Oper} {u} (t : Tn) (h : (soundM l.toArray (ancs l.toArray) && Region.noSelect l.toArray && decide (t.deep ≤ l.toArray.size) && okN l.toArray (ancs l.toArray) false t (start l.toArray)) = true) (hO : runM X l k Q false t s st) : V X (.region id (List.toArray l) true) k Q u s st := by
  simp only [Bool.and_eq_true, decide_eq_true_eq] at h
  exact ⟨_, h.1.1.1, h.1.1.2, .inr (.inr (.inr (.inr (.inl ⟨t, h.1.2, h.2, hO⟩))))⟩
theorem runM_fin1 {X : Cx} {l : List Oper} {k : List Fr} {Q : Post} {s : Sl} {st : St} : runM X l k Q true .fin s st = True := rfl
theorem runM_take {X : Cx} {l : List Oper} {k : List Fr} {Q : Post} {s : Sl} {st : St} {i : Nat} {t : Tn} : runM X l k Q false (.take i t) s st = match l[i]? with
    | some o => O true X l [o] (.lp (runM X l k Q false t) :: k) Q () s st
    | none => False := by
  unfold runM
  rw [show runN X l.toArray (unw X k Q .normal) false (.take i t) s st = match l.toArray[i]? with
    | some o => vc1 true X l.toArray.toList o s st (runN X l.toArray (unw X k Q .normal) false t)
    | none => False from rfl, List.getElem?_toArray]
  cases l[i]? <;> rfl
theorem runM_alt {X : Cx} {l : List Oper} {k : List Fr} {Q : Post} {s : Sl} {st : St} {b : Bool} {i : Nat} {t u : Tn} : runM X l k Q b (.alt i t u) s st = ((match l[i]? with
    | some o => O true X l [o] (.lp (runM X l k Q false t) :: k) Q () s st
    | none => False) ∧ runM X l k Q true u s st) := by
  unfold runM
  rw [show runN X l.toArray (unw X k Q .normal) b (.alt i t u) s st = ((match l.toArray[i]? with
    | some o => vc1 true X l.toArray.toList o s st (runN X l.toArray (unw X k Q .normal) false t)
    | none => False) ∧ runN X l.toArray (unw X k Q .normal) true u s st) from by cases b <;> rfl, List.getElem?_toArray]
  cases l[i]? <;> rfl

/-- A call of a function with a contract that may write. -/
theorem E_callW {X : Cx} {k : List Fr} {Q : Post} {s : Sl} {st : St} {full rest : List Oper} {dst : Option Nat} {u} {g : FuncId} {fs xs cs : List AV} {R : List AV → St → (AV → St → Prop) → Prop} (h : FSpec X g R) (hR : R (fs ++ xs ++ cs) st fun v st' => O false X full rest k Q () (putS dst v s) st') : E false X dst full rest k Q u s st (.call (.fn (.func g) fs cs) xs) :=
  ⟨R, h, hR⟩

/-! ### Numbers in rows -/

/-- A slice of numbers below 2 ^ 32. -/
structure Nm (st : St) (x : AV) (l : List Nat) : Prop where
  sl : sl 1 st x = some (l.length, u32s l)
  lt : ∀ n ∈ l, n < 4294967296

section
variable {st : St} {x : AV} {l : List Nat} {rest : List AV} {r : Nat}
theorem Nm.grow (h : Nm st x l) : ∀ y, Pv.sl 1 (st ++ y) x = some (l.length, u32s l) := fun y => sl_grow h.sl y
theorem Nm.leaf (h : Nm st x l) : leaf x = true := sl_leaf h.sl
theorem Nm.slc (h : Nm st x l) : slc st x = some (l.length, u32s l) := (sl_slc h.sl).1
theorem Nm.slcg (h : Nm st x l) : ∀ y, Pv.slc (st ++ y) x = some (l.length, u32s l) := fun y => (sl_slc (sl_grow h.sl y)).1
theorem Nm.app (h : Nm st x l) (y : St) : Nm (st ++ y) x l := ⟨h.grow y, h.lt⟩
theorem u32s_plain : plain (u32s l) := by
  intro c hc
  obtain ⟨n, _, rfl⟩ := List.mem_map.1 hc
  exact ⟨_, rfl⟩
theorem Nm.own (h : st[r]? = some (some (u32s l ++ rest))) (hl : ∀ n ∈ l, n < 4294967296) : Nm st (.own r 0 l.length 1) l :=
  ⟨by rw [sl_own_eq]; simp [h, u32s_pre, u32s_length], hl⟩
theorem Nm.nil : Nm st (.val (.slice none 0 0)) [] := ⟨rfl, by simp⟩
theorem Nm.im (hl : ∀ n ∈ l, n < 4294967296) : Nm st (.im l.length (u32s l)) l := ⟨by rw [sl_im_eq]; simp [u32s_length], hl⟩
theorem cutA_all {sz n : Nat} {cs : List AV} (h : Pv.sl sz st x = some (n, cs)) : cutA x 0 n sz = x := by
  rcases sl_cases h with ⟨rfl, hl⟩ | ⟨r, off, c, rfl, hc, hd, hl⟩ | ⟨rfl, rfl, rfl⟩
  · simp [cutA, ← hl]
  · simp [cutA]
  · rfl
theorem cutA_cutA {sz k m : Nat} (h : k ≤ m) : cutA (cutA x 0 m sz) 0 k sz = cutA x 0 k sz := by
  cases x with
  | im n cs => simp only [cutA, Nat.zero_mul, List.drop_zero, List.take_take]; rw [Nat.min_eq_left (Nat.mul_le_mul_right _ h)]
  | own r off n s => simp [cutA]
  | _ => rfl
theorem Nm.slcut (h : Nm st x l) {m : Nat} (hm : m ≤ l.length) : Pv.sl 1 st (cutA x 0 m 1) = some (m, u32s (l.take m)) := by
  rw [Pv.sl_cut h.sl (by omega)]; simp [u32s_take]
theorem Nm.cut0 (h : Nm st x l) {m : Nat} (hm : m ≤ l.length) : Nm st (cutA x 0 m 1) (l.take m) :=
  ⟨by rw [h.slcut hm]; simp [Nat.min_eq_left hm], fun n hn => h.lt n (List.mem_of_mem_take hn)⟩
theorem Nm.cut (h : Nm st x l) {a m : Nat} (hm : a + m ≤ l.length) : Nm st (cutA x a m 1) ((l.drop a).take m) := by
  refine ⟨?_, fun n hn => h.lt n (List.mem_of_mem_drop (List.mem_of_mem_take hn))⟩
  rw [Pv.sl_cut h.sl hm]
  simp [u32s_drop, u32s_take, Nat.min_eq_left (by omega : m ≤ l.length - a)]
end
end Go.Proofs.Pv
