/- The document's answer's walks, fourth part. -/
import Derived.Test.YtmclabehpfpnnaaDoorE16
import Derived.Test.YtmclabehpfpnnaaDoorM7
set_option linter.unusedSimpArgs false
set_option linter.unusedVariables false
namespace Go.Proofs.Pv
open Go Go.RowKit Go.Proofs
set_option maxRecDepth 20000

theorem Got.zero {st st' : St} (e : Ext st st') : Got st (st' ++ [some []]) (.own st'.length 0 0 1) 0 := by
  have := Got.last (v := 0) e (l := []) (rest := []) (by simp [plain]) (by rw [limbs_zero])
  simpa [u32s] using this

def RrSub (F : St → Nat → (AV → St → Prop) → Prop) (xs : List AV) (st : St) (K : AV → St → Prop) : Prop := ∃ x y l m, xs = [x, y] ∧ Nm st x l ∧ Nm st y m ∧ l.length ≤ 100000 ∧ m.length ≤ 100000 ∧ F st (val l - val m) K
end Go.Proofs.Pv

/- The document's answer's walks, fifth part. -/
namespace Go.Proofs.Pv
open Go Go.RowKit Go.Proofs
set_option maxRecDepth 20000

def RrMul (F : St → Nat → (AV → St → Prop) → Prop) (xs : List AV) (st : St) (K : AV → St → Prop) : Prop := ∃ x y l m, xs = [x, y] ∧ Nm st x l ∧ Nm st y m ∧ l.length ≤ 100000 ∧ m.length ≤ 100000 ∧ F st (val l * val m) K
end Go.Proofs.Pv

/- The document's answer's walks, sixth part. -/
namespace Go.Proofs.Pv
open Go Go.RowKit Go.Proofs
set_option maxRecDepth 20000

def RrBit (xs : List AV) (st : St) (K : AV → St → Prop) : Prop := ∃ x l i, xs = [x, .val (.int .i64 ((i : Nat) : Int))] ∧ Nm st x l ∧ i ≤ 9223372036854775807 ∧ K (.val (.bool ((val l).testBit i))) st
def RrBits (xs : List AV) (st : St) (K : AV → St → Prop) : Prop := ∃ x l, xs = [x] ∧ Nm st x l ∧ l.length ≤ 1000000 ∧ ∀ st', Ext st st' → K (.val (.int .i64 (blen (val l) : Int))) st'
def RrSmall (xs : List AV) (st : St) (K : AV → St → Prop) : Prop := ∃ x l, xs = [x] ∧ Nm st x l ∧ l.length ≤ 10000 ∧
  ∀ st', Ext st st' → K (.tup [.val (.int .i64 ((if blen (val l) ≤ 63 then val l else 0 : Nat) : Int)), .val (.bool (decide (blen (val l) ≤ 63)))]) st'
end Go.Proofs.Pv

/- The document's answer's walks, seventh part. -/
namespace Go.Proofs.Pv
open Go Go.RowKit Go.Proofs
set_option maxRecDepth 20000

theorem blen_len {l : List Nat} (hl : ∀ z ∈ l, z < 4294967296) : blen (val l) ≤ 32 * l.length := by
  have := val_lt hl
  rw [pow_limb] at this
  exact blen_le this

def RrShift (F : St → Nat → (AV → St → Prop) → Prop) (xs : List AV) (st : St) (K : AV → St → Prop) : Prop := ∃ x l n, xs = [x, .val (.int .i64 n)] ∧ Nm st x l ∧ l.length ≤ 100000 ∧ -9223372036854775808 ≤ n ∧ n ≤ 9223372036854775807 ∧ F st (shiftV (val l) n) K
end Go.Proofs.Pv

/- The document's answer's walks, eighth part. -/
namespace Go.Proofs.Pv
open Go Go.RowKit Go.Proofs
set_option maxRecDepth 20000

def RrDiv (xs : List AV) (st : St) (K : AV → St → Prop) : Prop := ∃ x y l m, xs = [x, y] ∧ Nm st x l ∧ Nm st y m ∧ l.length ≤ 5000 ∧ m.length ≤ 5000 ∧
  ∀ q r st', Got st st' q (val l / val m) → Got st st' r (if val m = 0 then 0 else val l % val m) → K (.tup [q, r]) st'
def RrDivSmall (xs : List AV) (st : St) (K : AV → St → Prop) : Prop := ∃ x l d, xs = [x, .val (.int .u32 ((d : Nat) : Int))] ∧ Nm st x l ∧ l.length ≤ 5000 ∧ d < 4294967296 ∧
  ∀ q st', Got st st' q (val l / d) → K (.tup [q, .val (.int .u32 ((if d = 0 then 0 else val l % d : Nat) : Int))]) st'
end Go.Proofs.Pv
