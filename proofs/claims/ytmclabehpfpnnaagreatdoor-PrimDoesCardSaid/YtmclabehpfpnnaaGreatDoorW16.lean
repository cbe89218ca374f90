/- The whole functions' walks, sixth part: as a small number. -/
import Derived.Test.YtmclabehpfpnnaaGreatDoorW15
import Derived.Test.YtmclabehpfpnnaaGreatDoorM7
set_option linter.unusedSimpArgs false
set_option linter.unusedVariables false
namespace Go.Proofs.Pv
open Go Go.RowKit Go.Proofs
set_option maxRecDepth 20000

def smB (z : Int) : Bool := decide (-9223372036854775808 ≤ z ∧ z ≤ 9223372036854775807)
def smZ (z : Int) : Int := if -9223372036854775808 ≤ z ∧ z ≤ 9223372036854775807 then z else 0
def RwSmall (xs : List AV) (st : St) (K : AV → St → Prop) : Prop := ∃ x s l, xs = [x] ∧ Wh st x s l ∧ l.length ≤ 1000 ∧
  ∀ st', Ext st st' → K (.tup [.val (.int .i64 (smZ (iv s (val l)))), .val (.bool (smB (iv s (val l))))]) st'
end Go.Proofs.Pv
