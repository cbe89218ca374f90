/- The document's answer's walks, first part. -/
import Derived.Test.YtmclabehpfpnnaaDoorW10
set_option linter.unusedSimpArgs false
set_option linter.unusedVariables false
namespace Go.Proofs.Pv
open Go Go.RowKit Go.Proofs
set_option maxRecDepth 20000

def RLimb (xs : List AV) (st : St) (K : AV → St → Prop) : Prop := ∃ x l i, xs = [x, .val (.int .i64 ((i : Nat) : Int))] ∧ Nm st x l ∧ l.length ≤ 35184372088832 ∧ K (.val (.int .u64 ((l.getD i 0 : Nat) : Int))) st
def RSame (xs : List AV) (st : St) (K : AV → St → Prop) : Prop := ∃ x y l m, xs = [x, y] ∧ Nm st x l ∧ Nm st y m ∧ l.length ≤ 35184372088832 ∧ m.length ≤ 35184372088832 ∧ K (.val (.bool (decide (l = m)))) st
/-- As Norm, somewhere among the new objects. -/
def fresh' (st : St) (v : Nat) (K : AV → St → Prop) : Prop := ∀ y i rest, plain rest → y[i]? = some (some (u32s (limbs v) ++ rest)) → K (.own (st.length + i) 0 (limbs v).length 1) (st ++ y)
def RrNorm (F : St → Nat → (AV → St → Prop) → Prop) (xs : List AV) (st : St) (K : AV → St → Prop) : Prop := ∃ x l, xs = [x] ∧ Nm st x l ∧ l.length ≤ 35184372088832 ∧ F st (val l) K
end Go.Proofs.Pv

/- The document's answer's walks, second part. -/
namespace Go.Proofs.Pv
open Go Go.RowKit Go.Proofs
set_option maxRecDepth 20000

def RrAdd (F : St → Nat → (AV → St → Prop) → Prop) (xs : List AV) (st : St) (K : AV → St → Prop) : Prop := ∃ x y l m, xs = [x, y] ∧ Nm st x l ∧ Nm st y m ∧ l.length ≤ 100000 ∧ m.length ≤ 100000 ∧ F st (val l + val m) K
end Go.Proofs.Pv

/- The document's answer's walks, third part. -/
namespace Go.Proofs.Pv
open Go Go.RowKit Go.Proofs
set_option maxRecDepth 20000

def RrCmp (F : St → Int → (AV → St → Prop) → Prop) (xs : List AV) (st : St) (K : AV → St → Prop) : Prop := ∃ x y l m, xs = [x, y] ∧ Nm st x l ∧ Nm st y m ∧ l.length ≤ 100000 ∧ m.length ≤ 100000 ∧ F st (cmpI (val l) (val m)) K
end Go.Proofs.Pv
