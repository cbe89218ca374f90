/- A drawn region by a tree of all orders, whose end is told by a name. -/
import Derived.Test.YtmclabehpfpnnaaGreatDoorE20
set_option linter.unusedSimpArgs false
set_option linter.unusedVariables false
namespace Go.Proofs.Pv
open Go Go.RowKit
/-- What is to come by a tree of orders. -/
def RN (X : Cx) (l : List Oper) (k : List Fr) (Q : Post) (b : Bool) (t : Tn) (_ : Tg (X, l, k, Q, b, t)) (s : Sl) (st : St) : Prop := runM X l k Q b t s st
/-- Some one behind the other; true: the only one that may come up. -/
def Tn.seq : List (Nat × Bool) → Tn → Tn
  | [], t => t
  | (i, true) :: l, t => .alt i (Tn.seq l t) .fin
  | (i, false) :: l, t => .take i (Tn.seq l t)
section
variable {X : Cx} {k : List Fr} {Q : Post} {s : Sl} {st : St} {l : List Oper}
theorem V_ordersF {id : Nat} {u} (t : Tn) (h : (soundM l.toArray (ancs l.toArray) && Region.noSelect l.toArray && decide (t.deep ≤ l.toArray.size) && okN l.toArray (ancs l.toArray) false t (start l.toArray)) = true)
    (hO : ∀ F : Sl → St → Prop, (∀ s st, F s st = R X k Q () s st .normal) → RN X l (.lp F :: k) Q false t () s st) : V X (.region id (List.toArray l) true) k Q u s st :=
  V_orders t h (hO (fun s st => R X k Q () s st .normal) fun _ _ => rfl)
theorem RN_one {i : Nat} {o : Oper} {t : Tn} (h : l[i]? = some o) : (runM X l k Q false (.take i t) s st = vc1 true X l o s st (runM X l k Q false t)) ∧ ∀ b, runM X l k Q b (.alt i t .fin) s st = vc1 true X l o s st (runM X l k Q false t) := by
  constructor
  · rw [runM_take, h]; rfl
  · intro b; rw [runM_alt, h, runM_fin1, and_true]; rfl
theorem RN_seq {is : List (Nat × Bool)} {js : List Nat} {ops : List Oper} (hj : is.map (·.1) = js) (h : Pk l js ops) (t : Tn) : ∀ (s : Sl) (st : St) {u}, RN X l k Q false (Tn.seq is t) u s st = O true X l ops (.lp (RN X l k Q false t ()) :: k) Q () s st := by
  subst hj
  induction is generalizing ops with
  | nil => cases h; intro s st u; rfl
  | cons q is ih =>
    obtain ⟨i, b⟩ := q
    cases h with
    | cons ho h =>
      rename_i o ops
      intro s st u
      have ih := ih h
      have e : runM X l k Q false (Tn.seq is t) = fun s st => O true X l ops (.lp (RN X l k Q false t ()) :: k) Q () s st := funext fun s => funext fun st => ih s st (u := ())
      cases b
      · exact ((RN_one ho).1.trans (by rw [e]; rfl))
      · exact (((RN_one ho).2 false).trans (by rw [e]; rfl))
theorem RN_alt {b : Bool} {i : Nat} {o : Oper} {is : List (Nat × Bool)} {js : List Nat} {ops : List Oper} {t u : Tn} {v} (hj : is.map (·.1) = js) (h : Pk l (i :: js) (o :: ops)) (h1 : O true X l (o :: ops) (.lp (RN X l k Q false t ()) :: k) Q () s st) (h2 : RN X l k Q true u () s st) : RN X l k Q b (.alt i (Tn.seq is t) u) v s st := by
  cases h with
  | cons ho h =>
    have e : runM X l k Q false (Tn.seq is t) = fun s st => O true X l ops (.lp (RN X l k Q false t ()) :: k) Q () s st := funext fun s => funext fun st => RN_seq hj h t s st (u := ())
    unfold RN
    rw [runM_alt, ho, e]
    exact ⟨h1, h2⟩
end

section
variable {st : St} {x : AV}
end
end Go.Proofs.Pv
