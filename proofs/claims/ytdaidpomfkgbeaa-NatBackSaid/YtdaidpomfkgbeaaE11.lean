/- The engine's eleventh part: the walk as equations. -/
import Derived.Test.YtdaidpomfkgbeaaE10
set_option linter.unusedSimpArgs false
set_option linter.unusedVariables false
namespace Go.Proofs.Pv
open Go Go.RowKit

/-- What is to come behind a code. -/
inductive Fr where
  | seq (c : Code)
  | blk (id : Nat)
  | scp
  | lp (F : Sl → St → Prop)

def unw (X : Cx) : List Fr → Post → Post
  | [], Q => Q
  | .seq c :: k, Q => thenP (vc X c (unw X k Q)) (unw X k Q)
  | .blk i :: k, Q => blkP i (unw X k Q)
  | .scp :: k, Q => scpP (unw X k Q)
  | .lp F :: k, Q => thenP F (unw X k Q)

/-- A statement closed up: reduction stops here. -/
structure Box (p : Prop) : Prop where
  out : p
theorem box_eq {p : Prop} : Box p = p := propext ⟨Box.out, Box.mk⟩

/-- Holds a term's other arguments still under rewriting. -/
abbrev Tg {α : Type} (_ : α) : Type := Unit

def V (X : Cx) (c : Code) (k : List Fr) (Q : Post) (_ : Tg (X, c, k, Q)) (s : Sl) (st : St) : Prop := vc X c (unw X k Q) s st
def R (X : Cx) (k : List Fr) (Q : Post) (_ : Tg (X, k, Q)) (s : Sl) (st : St) (e : Exit) : Prop := unw X k Q e s st
def C (X : Cx) (a b : Code) (k : List Fr) (Q : Post) (_ : Tg (X, a, b, k, Q)) (s : Sl) (st : St) (x : AV) : Prop := Box <| match x with
  | .val (.bool t) => if t = true then vc X a (unw X k Q) s st else vc X b (unw X k Q) s st
  | _ => False
def O (d : Bool) (X : Cx) (full ops : List Oper) (k : List Fr) (Q : Post) (_ : Tg (X, full, ops, k, Q)) (s : Sl) (st : St) : Prop := vcO d X full ops s st (unw X k Q .normal)
def E (d : Bool) (X : Cx) (dst : Option Nat) (full rest : List Oper) (k : List Fr) (Q : Post) (_ : Tg (X, full, rest, k, Q)) (s : Sl) (st : St) (o : AOp) : Prop :=
  vcE3 d X o st fun v st' => vcO d X full rest (putS dst v s) st' (unw X k Q .normal)
def G (d : Bool) (X : Cx) (dst : Option Nat) (op : Op) (want : Bool) (full rest : List Oper) (k : List Fr) (Q : Post) (_ : Tg (X, op, full, rest, k, Q)) (s : Sl) (st : St) (x : AV) : Prop :=
  Box <| match x with
  | .val (.bool b) => if b = want then vcE3 d X (aop s op) st fun v st' => vcO d X full rest (putS dst v s) st' (unw X k Q .normal) else vcO d X full rest (putS dst undefA s) st (unw X k Q .normal)
  | .val _ => vcO d X full rest (putS dst undefA s) st (unw X k Q .normal)
  | _ => False

section
variable {X : Cx} {k : List Fr} {Q : Post} {s : Sl} {st : St} {d : Bool} {full rest : List Oper} {dst : Option Nat}

theorem V_seq {a b : Code} {u} : V X (.seq a b) k Q u s st = V X a (.seq b :: k) Q () s st := rfl
theorem V_skip {u} : V X .skip k Q u s st = R X k Q () s st .normal := rfl
theorem V_ret {u} : V X .ret k Q u s st = R X k Q () s st .ret := rfl
theorem V_exit {i : Nat} {u} : V X (.exit i) k Q u s st = R X k Q () s st (.exit i) := rfl
theorem V_label {i : Nat} {u} : V X (.label i) k Q u s st = R X k Q () s st .normal := rfl
theorem V_block {i : Nat} {c : Code} {u} : V X (.block i c) k Q u s st = V X c (.blk i :: k) Q () s st := rfl
theorem V_scope {c : Code} {u} : V X (.scope c) k Q u s st = V X c (.scp :: k) Q () s st := rfl
theorem V_region {i : Nat} {l : List Oper} {u} : V X (.region i (List.toArray l) false) k Q u s st = O false X l l k Q () s st := rfl
theorem V_cond {c : Operand} {a b : Code} {u} : V X (.cond c a b) k Q u s st = C X a b k Q () s st (ev s c) := box_eq.symm
theorem C_true {a b : Code} {u} : C X a b k Q u s st (.val (.bool true)) = V X a k Q () s st := box_eq
theorem C_false {a b : Code} {u} : C X a b k Q u s st (.val (.bool false)) = V X b k Q () s st := box_eq
theorem C_dec {a b : Code} {u} {p : Prop} [Decidable p] (h1 : p → V X a k Q () s st) (h2 : ¬p → V X b k Q () s st) : C X a b k Q u s st (.val (.bool (decide p))) := by
  by_cases h : p
  · rw [decide_eq_true h]; exact ⟨h1 h⟩
  · rw [decide_eq_false h]; exact ⟨h2 h⟩
theorem C_bool {a b : Code} {u} {t : Bool} (h1 : t = true → V X a k Q () s st) (h2 : t = false → V X b k Q () s st) : C X a b k Q u s st (.val (.bool t)) := by
  cases t
  · exact ⟨h2 rfl⟩
  · exact ⟨h1 rfl⟩

theorem R_nil {e : Exit} {u} : R X [] Q u s st e = Q e s st := rfl
theorem R_seqN {c : Code} {u} : R X (.seq c :: k) Q u s st .normal = V X c k Q () s st := rfl
theorem R_seqE {c : Code} {i : Nat} {u} : R X (.seq c :: k) Q u s st (.exit i) = R X k Q () s st (.exit i) := rfl
theorem R_seqR {c : Code} {u} : R X (.seq c :: k) Q u s st .ret = R X k Q () s st .ret := rfl
theorem R_blkN {i : Nat} {u} : R X (.blk i :: k) Q u s st .normal = R X k Q () s st .normal := rfl
theorem R_blkE {i j : Nat} {u} : R X (.blk j :: k) Q u s st (.exit i) = bif i == j then R X k Q () s st .normal else R X k Q () s st (.exit i) := rfl
theorem R_blkR {i : Nat} {u} : R X (.blk i :: k) Q u s st .ret = R X k Q () s st .ret := rfl
theorem R_scpN {u} : R X (.scp :: k) Q u s st .normal = R X k Q () s st .normal := rfl
theorem R_scpE {i : Nat} {u} : R X (.scp :: k) Q u s st (.exit i) = R X k Q () s st (.exit i) := rfl
theorem R_scpR {u} : R X (.scp :: k) Q u s st .ret = R X k Q () s st .ret := rfl
theorem R_lpN {F : Sl → St → Prop} {u} : R X (.lp F :: k) Q u s st .normal = F s st := rfl
theorem R_lpE {F : Sl → St → Prop} {i : Nat} {u} : R X (.lp F :: k) Q u s st (.exit i) = R X k Q () s st (.exit i) := rfl
theorem R_lpR {F : Sl → St → Prop} {u} : R X (.lp F :: k) Q u s st .ret = R X k Q () s st .ret := rfl

theorem O_nil {u} : O d X full [] k Q u s st = R X k Q () s st .normal := rfl
theorem O_cons {op : Op} {t : TypeId} {p : String} {af : Array Edge} {u} : O d X full (⟨dst, op, t, p, af, none⟩ :: rest) k Q u s st = E d X dst full rest k Q () s st (aop s op) := rfl
theorem O_guard {op : Op} {t : TypeId} {p : String} {af : Array Edge} {g : Nat} {w : Bool} {u} : O d X full (⟨dst, op, t, p, af, some (g, w)⟩ :: rest) k Q u s st = G d X dst op w full rest k Q () s st (gvd full s g) := box_eq.symm
theorem gvd_zero {op : Op} {t : TypeId} {p : String} {af : Array Edge} {g : Option (Nat × Bool)} {n : Nat} {l : List Oper} : gvd (⟨some n, op, t, p, af, g⟩ :: l) s 0 = Sl.get s n := rfl
theorem gvd_succ {o : Oper} {n : Nat} {l : List Oper} : gvd (o :: l) s (n + 1) = gvd l s n := rfl
theorem G_tt {op : Op} {u} : G d X dst op true full rest k Q u s st (.val (.bool true)) = E d X dst full rest k Q () s st (aop s op) := box_eq
theorem G_ff {op : Op} {u} : G d X dst op false full rest k Q u s st (.val (.bool false)) = E d X dst full rest k Q () s st (aop s op) := box_eq
theorem G_tf {op : Op} {u} : G d X dst op true full rest k Q u s st (.val (.bool false)) = O d X full rest k Q () (putS dst undefA s) st := box_eq
theorem G_ft {op : Op} {u} : G d X dst op false full rest k Q u s st (.val (.bool true)) = O d X full rest k Q () (putS dst undefA s) st := box_eq
theorem G_un {op : Op} {w : Bool} {u} : G d X dst op w full rest k Q u s st undefA = O d X full rest k Q () (putS dst undefA s) st := box_eq

theorem G_dec {op : Op} {p : Prop} [Decidable p] {u} (h1 : p → E d X dst full rest k Q () s st (aop s op)) (h2 : ¬p → O d X full rest k Q () (putS dst undefA s) st) : G d X dst op true full rest k Q u s st (.val (.bool (decide p))) := by
  by_cases h : p
  · rw [decide_eq_true h]; exact ⟨h1 h⟩
  · rw [decide_eq_false h]; exact ⟨h2 h⟩
theorem G_ndec {op : Op} {p : Prop} [Decidable p] {u} (h1 : ¬p → E d X dst full rest k Q () s st (aop s op)) (h2 : p → O d X full rest k Q () (putS dst undefA s) st) : G d X dst op false full rest k Q u s st (.val (.bool (decide p))) := by
  by_cases h : p
  · rw [decide_eq_true h]; exact ⟨h2 h⟩
  · rw [decide_eq_false h]; exact ⟨h1 h⟩
theorem G_bool {op : Op} {w b : Bool} {u} (h1 : b = w → E d X dst full rest k Q () s st (aop s op)) (h2 : b ≠ w → O d X full rest k Q () (putS dst undefA s) st) : G d X dst op w full rest k Q u s st (.val (.bool b)) := by
  by_cases h : b = w
  · unfold G; simp only [if_pos h]; exact ⟨h1 h⟩
  · unfold G; simp only [if_neg h]; exact ⟨h2 h⟩

/-- Slots of one are the other's. -/
def Fits : Sl → Sl → Prop
  | [], _ => True
  | (k, x) :: l, s => x = Sl.get s k ∧ Fits l s
theorem fits_nil : Fits [] s = True := rfl
theorem fits_cons {k : Nat} {x : AV} {l : Sl} : Fits ((k, x) :: l) s = (x = Sl.get s k ∧ Fits l s) := rfl

/-- A loop's head again, with less to come. -/
def Again {ι : Type} (S : ι → Sl) (T : ι → St) (p : ι → Prop) (μ : ι → Nat) (i : ι) (_ : Tg (S, T, p, μ, i)) (s' : Sl) (st' : St) : Prop := ∃ j, p j ∧ μ j < μ i ∧ T j = st' ∧ Fits (S j) s'
theorem again {ι : Type} {S : ι → Sl} {T : ι → St} {p : ι → Prop} {μ : ι → Nat} {i : ι} {u} {s' : Sl} {st' : St} (j : ι) (hp : p j) (hm : μ j < μ i) (ht : T j = st') (hs : Fits (S j) s') : Again S T p μ i u s' st' := ⟨j, hp, hm, ht, hs⟩

/-- The state at a loop's head, by data i: the slots and the objects. -/
theorem V_loop {c : Code} {u} {ι : Type} (S : ι → Sl) (T : ι → St) (p : ι → Prop) (μ : ι → Nat) (i0 : ι) (hp : p i0) (ht : T i0 = st) (hs : Fits (S i0) s)
    (hr : ∀ i, p i → V X c (.lp (Again S T p μ i ()) :: k) Q () (S i) (T i)) : V X (.loop c) k Q u s st := by
  have fit : ∀ (l s : Sl), Fits l s → Fit s l := by
    intro l s h n
    induction l with
    | nil => exact .inl rfl
    | cons q l ih =>
      obtain ⟨m, x⟩ := q
      rw [get_cons]
      by_cases hn : n = m
      · subst hn; simp only [BEq.rfl, cond_true]; exact .inr h.1
      · have hb : (n == m) = false := by simpa using hn
        rw [hb, cond_false]; exact ih h.2
  refine ⟨fun n s' st' => ∃ i, p i ∧ μ i = n ∧ S i = s' ∧ T i = st', ⟨μ i0, S i0, fit _ _ hs, i0, hp, rfl, rfl, ht⟩, ?_⟩
  rintro n s' st' ⟨i, hp, rfl, rfl, rfl⟩
  refine ⟨Again S T p μ i (), ?_, hr i hp⟩
  rintro s2 st2 ⟨j, h1, h2, h3, h4⟩
  exact ⟨μ j, S j, h2, fit _ _ h4, j, h1, rfl, rfl, h3⟩
end
end Go.Proofs.Pv
