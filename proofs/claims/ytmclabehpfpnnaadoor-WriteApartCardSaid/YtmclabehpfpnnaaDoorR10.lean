/- The document's answer's walks, ninth part. -/
import Derived.Test.YtmclabehpfpnnaaDoorR8
import Derived.Test.YtmclabehpfpnnaaDoorS1
set_option linter.unusedSimpArgs false
set_option linter.unusedVariables false
namespace Go.Proofs.Pv
open Go Go.RowKit Go.Proofs
set_option maxRecDepth 20000

def dvI (a : Nat) : Int := match dv a with
  | some d => d
  | none => -1
def RrDigit (xs : List AV) (st : St) (K : AV → St → Prop) : Prop := ∃ a : Nat, xs = [.val (.int .u8 (a : Int))] ∧ a < 256 ∧ K (.val (.int .i64 (dvI a))) st
/-- A row or none, and whether it is one. -/
def gotP (st : St) (p : Option Nat) (K : AV → St → Prop) : Prop := ∀ x st', Ext st st' → Nm st' x (limbs (p.getD 0)) → K (.tup [x, .val (.bool p.isSome)]) st'
theorem gotP_pres {st : St} {p : Option Nat} {K : AV → St → Prop} (h : gotP st p K) : pres st p K := by
  unfold pres
  rcases p with _ | v
  · exact h _ _ .refl (by simpa [limbs_zero] using Nm.nil)
  · dsimp only
    by_cases hv : v = 0
    · rw [if_pos hv]; subst hv; exact h _ _ .refl (by simpa [limbs_zero] using Nm.nil)
    · rw [if_neg hv]
      exact h _ _ (.add _) (Nm.own (rest := []) (by rw [get_app0]; simp) (limbs_lt v))

end Go.Proofs.Pv

/- The document's answer's walks, tenth part. -/
namespace Go.Proofs.Pv
open Go Go.RowKit Go.Proofs
set_option maxRecDepth 20000

def RrText (xs : List AV) (st : St) (K : AV → St → Prop) : Prop := ∃ x l n, xs = [x, .val (.int .i64 n)] ∧ Nm st x l ∧ l.length ≤ 10000 ∧
  anyw st (.string (if n < 2 ∨ 36 < n then ⟨#[]⟩ else bstr (txt n.toNat (val l)))) K
end Go.Proofs.Pv
