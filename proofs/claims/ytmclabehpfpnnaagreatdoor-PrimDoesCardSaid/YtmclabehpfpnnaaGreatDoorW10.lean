/- The nat functions' walks, tenth part: numbers out of texts. -/
import Derived.Test.YtmclabehpfpnnaaGreatDoorW9
import Derived.Laws.Strings
set_option linter.unusedSimpArgs false
set_option linter.unusedVariables false
namespace Go.Proofs.Pv
open Go Go.RowKit Go.Proofs
set_option maxRecDepth 20000

/-- One letter more. -/
def pstep (b : Nat) (acc : Option Nat) (c : Nat) : Option Nat := match acc, dv c with
  | some v, some d => if d < b then some (v * b + d) else none
  | _, _ => none
/-- A text's number to a base, if it is one: the letters' digits, each below the base. -/
def pnum (b : Nat) (l : List Nat) : Option Nat := l.foldl (pstep b) (some 0)
def parse (b : Int) (s : List Nat) : Option Nat := if b < 2 ∨ 36 < b ∨ s = [] ∨ 1000 < s.length then none else pnum b.toNat s

def RParse (F : St → Option Nat → (AV → St → Prop) → Prop) (xs : List AV) (st : St) (K : AV → St → Prop) : Prop := ∃ s b, xs = [.val (.string s), .val (.int .i64 b)] ∧ F st (parse b (sb s)) K
def pres0 (st : St) (p : Option Nat) (K : AV → St → Prop) : Prop := match p with
  | none => ∀ y, K (.tup [.val (.slice none 0 0), .val (.bool false)]) (st ++ y)
  | some v => if v = 0 then K (.tup [.val (.slice none 0 0), .val (.bool true)]) st else ∀ y i, y[i]? = some (some (u32s (limbs v))) → K (.tup [.own (st.length + i) 0 (limbs v).length 1, .val (.bool true)]) (st ++ y)
def pres (st : St) (p : Option Nat) (K : AV → St → Prop) : Prop := match p with
  | none => K (.tup [.val (.slice none 0 0), .val (.bool false)]) st
  | some v => if v = 0 then K (.tup [.val (.slice none 0 0), .val (.bool true)]) st else K (.tup [.own st.length 0 (limbs v).length 1, .val (.bool true)]) (st ++ [some (u32s (limbs v))])

end Go.Proofs.Pv
