/- The document's answer's walks, fourth part. -/
import Derived.Test.YtmclabehpfpnnaaDoorE16
import Derived.Test.YtmclabehpfpnnaaDoorM3
set_option linter.unusedSimpArgs false
set_option linter.unusedVariables false
namespace Go.Proofs.Pv
open Go Go.RowKit Go.Proofs
set_option maxRecDepth 20000

theorem Got.zero {st st' : St} (e : Ext st st') : Got st (st' ++ [some []]) (.own st'.length 0 0 1) 0 := by
  have := Got.last (v := 0) e (l := []) (rest := []) (by simp [plain]) (by rw [limbs_zero])
  simpa [u32s] using this

theorem app_lt {q : List Nat} {w b : Nat} (hq : ∀ z ∈ q, z < b) (hw : w < b) : ∀ z ∈ q ++ [w], z < b := by
  intro z hz
  rcases List.mem_append.1 hz with h | h
  · exact hq z h
  · have : z = w := by simpa using h
    omega

def RrSub (F : St → Nat → (AV → St → Prop) → Prop) (xs : List AV) (st : St) (K : AV → St → Prop) : Prop := ∃ x y l m, xs = [x, y] ∧ Nm st x l ∧ Nm st y m ∧ l.length ≤ 100000 ∧ m.length ≤ 100000 ∧ F st (val l - val m) K
end Go.Proofs.Pv
