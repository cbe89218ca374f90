/- The document's answer for whole numbers: its walks, first part. -/
import Derived.Test.YtmclabehpfpnnaaDoorW14
import Derived.Test.YtmclabehpfpnnaaDoorR8
set_option linter.unusedSimpArgs false
set_option linter.unusedVariables false
namespace Go.Proofs.Pv
open Go Go.RowKit Go.Proofs
set_option maxRecDepth 20000

def RwSame (xs : List AV) (st : St) (K : AV → St → Prop) : Prop := ∃ x y s t l m, xs = [x, y] ∧ Wh st x s l ∧ Wh st y t m ∧ l.length ≤ 35184372088832 ∧ m.length ≤ 35184372088832 ∧ anyw st (.bool (decide (s = t ∧ l = m))) K
/-- Two normed ones, each in a variable made at any time. -/
structure Two (st S : St) (r q : Nat) (Z W : Int) (a b : AV) : Prop where
  ex : Ext st S
  na : Nm S a (limbs Z.natAbs)
  nb : Nm S b (limbs W.natAbs)
  ra : S[r]? = some (some [.val (.bool (decide (Z < 0))), a])
  rb : S[q]? = some (some [.val (.bool (decide (W < 0))), b])

end Go.Proofs.Pv

/- The document's answer for whole numbers: its walks, second part. -/
namespace Go.Proofs.Pv
open Go Go.RowKit Go.Proofs
set_option maxRecDepth 20000

end Go.Proofs.Pv
