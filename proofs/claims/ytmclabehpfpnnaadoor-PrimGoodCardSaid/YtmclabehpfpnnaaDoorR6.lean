/- The document's answer's walks, sixth part. -/
import Derived.Test.YtmclabehpfpnnaaDoorR4
set_option linter.unusedSimpArgs false
set_option linter.unusedVariables false
namespace Go.Proofs.Pv
open Go Go.RowKit Go.Proofs
set_option maxRecDepth 20000

def RrBit (xs : List AV) (st : St) (K : AV → St → Prop) : Prop := ∃ x l i, xs = [x, .val (.int .i64 ((i : Nat) : Int))] ∧ Nm st x l ∧ i ≤ 9223372036854775807 ∧ K (.val (.bool ((val l).testBit i))) st
def RrBits (xs : List AV) (st : St) (K : AV → St → Prop) : Prop := ∃ x l, xs = [x] ∧ Nm st x l ∧ l.length ≤ 1000000 ∧ ∀ st', Ext st st' → K (.val (.int .i64 (blen (val l) : Int))) st'
def RrSmall (xs : List AV) (st : St) (K : AV → St → Prop) : Prop := ∃ x l, xs = [x] ∧ Nm st x l ∧ l.length ≤ 10000 ∧
  ∀ st', Ext st st' → K (.tup [.val (.int .i64 ((if blen (val l) ≤ 63 then val l else 0 : Nat) : Int)), .val (.bool (decide (blen (val l) ≤ 63)))]) st'
end Go.Proofs.Pv
