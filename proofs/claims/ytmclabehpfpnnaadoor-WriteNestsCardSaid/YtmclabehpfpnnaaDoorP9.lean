/- The primitives' names and arities, out of the program's tables. -/
import Derived.Test.YtmclabehpfpnnaaDoorP4
import Derived.Test.YtmclabehpfpnnaaDoorK0
set_option linter.unusedSimpArgs false
set_option linter.unusedVariables false
namespace Go.Proofs.Pv
open Go Go.RowKit Go.Proofs
set_option maxRecDepth 20000

def namesL : List ByteArray := [⟨#[]⟩, ⟨#[43]⟩, ⟨#[45]⟩, ⟨#[42]⟩, ⟨#[113, 117, 111, 116, 105, 101, 110, 116]⟩, ⟨#[114, 101, 109, 97, 105, 110, 100, 101, 114]⟩, ⟨#[109, 111, 100, 117, 108, 111]⟩, ⟨#[61]⟩, ⟨#[60]⟩, ⟨#[99, 111, 110, 115]⟩, ⟨#[99, 97, 114]⟩, ⟨#[99, 100, 114]⟩, ⟨#[115, 101, 116, 45, 99, 97, 114, 33]⟩, ⟨#[115, 101, 116, 45, 99, 100, 114, 33]⟩, ⟨#[110, 117, 108, 108, 63]⟩, ⟨#[112, 97, 105, 114, 63]⟩, ⟨#[105, 110, 116, 101, 103, 101, 114, 63]⟩, ⟨#[115, 121, 109, 98, 111, 108, 63]⟩, ⟨#[115, 116, 114, 105, 110, 103, 63]⟩, ⟨#[98, 111, 111, 108, 101, 97, 110, 63]⟩, ⟨#[112, 114, 111, 99, 101, 100, 117, 114, 101, 63]⟩, ⟨#[101, 113, 63]⟩, ⟨#[110, 111, 116]⟩, ⟨#[115, 116, 114, 105, 110, 103, 45, 108, 101, 110, 103, 116, 104]⟩, ⟨#[115, 116, 114, 105, 110, 103, 45, 97, 112, 112, 101, 110, 100]⟩, ⟨#[115, 116, 114, 105, 110, 103, 61, 63]⟩, ⟨#[115, 121, 109, 98, 111, 108, 45, 62, 115, 116, 114, 105, 110, 103]⟩, ⟨#[110, 117, 109, 98, 101, 114, 45, 62, 115, 116, 114, 105, 110, 103]⟩, ⟨#[119, 114, 105, 116, 101]⟩, ⟨#[100, 105, 115, 112, 108, 97, 121]⟩, ⟨#[110, 101, 119, 108, 105, 110, 101]⟩, ⟨#[114, 101, 97, 100, 45, 98, 121, 116, 101]⟩, ⟨#[114, 97, 105, 115, 101]⟩, ⟨#[99, 97, 108, 108, 47, 99, 99]⟩, ⟨#[97, 112, 112, 108, 121]⟩, ⟨#[98, 111, 120]⟩, ⟨#[117, 110, 98, 111, 120]⟩, ⟨#[115, 101, 116, 45, 98, 111, 120, 33]⟩, ⟨#[118, 111, 105, 100]⟩]
def aritiesL : List Int := [0, 2, 2, 2, 2, 2, 2, 2, 2, 2, 1, 1, 2, 2, 1, 1, 1, 1, 1, 1, 1, 2, 1, 1, 2, 2, 1, 1, 1, 1, 0, 0, 1, 1, 2, 1, 1, 2, 0]
def namesA : List AV := namesL.map fun s => .val (.string s)
def aritiesA : List AV := aritiesL.map fun n => .val (.int .i64 n)
def nameM (p : Int) : ByteArray := if 1 ≤ p ∧ p < 39 then namesL.getD p.toNat ⟨#[]⟩ else ⟨#[]⟩
def arM (p : Int) : Int := if 1 ≤ p ∧ p < 39 then aritiesL.getD p.toNat 0 else -1
/-- What the tables hold. -/
def GP (w : World) : Prop := VRel w [] (.pointer (some ⟨1, 0, none⟩)) (.imp namesA) ∧ VRel w [] (.pointer (some ⟨2, 0, none⟩)) (.imp aritiesA)

section
variable {X : Cx} {k : List Fr} {Q : Post} {s : Sl} {st : St} {d : Bool} {full rest : List Oper} {dst : Option Nat}
end
def RName (xs : List AV) (st : St) (K : AV → St → Prop) : Prop := ∃ p : Int, xs = [.val (.int .i64 p)] ∧ K (.val (.string (nameM p))) st
def RPrim (xs : List AV) (st : St) (K : AV → St → Prop) : Prop := ∃ p : Nat, xs = [.val (.string (namesL.getD p ⟨#[]⟩))] ∧ 1 ≤ p ∧ p < 39 ∧ K (.tup [.val (.int .i64 (p : Int)), .val (.int .i64 (aritiesL.getD p 0)), .val (.bool true)]) st
def RArity (xs : List AV) (st : St) (K : AV → St → Prop) : Prop := ∃ p : Int, xs = [.val (.int .i64 p)] ∧ K (.val (.int .i64 (arM p))) st
end Go.Proofs.Pv

/- Primitives of numbers. -/
namespace Go.Proofs.Pv
open Go Go.RowKit Go.Proofs
set_option maxRecDepth 20000

def plainM (p : Int) : Bool := decide ((1 ≤ p ∧ p ≤ 8) ∨ (14 ≤ p ∧ p ≤ 19) ∨ (21 ≤ p ∧ p ≤ 27))
def toldM (z : Int) : Dt × Int := if 64 < (limbs z.natAbs).length then (dNil, 12) else (dNum z, 0)
def numM (p z w : Int) : Dt × Int :=
  if p = 1 then toldM (z + w) else if p = 2 then toldM (z - w) else if p = 3 then toldM (z * w) else if p = 4 then (if w = 0 then (dNil, 3) else toldM (z.tdiv w)) else if p = 5 then (if w = 0 then (dNil, 3) else toldM (z.tmod w)) else
  if p = 6 then (if w = 0 then (dNil, 3) else toldM (fr z w)) else if p = 7 then (dBool (decide (z = w)), 0) else (dBool (decide (z < w)), 0)

def RBetween (xs : List AV) (st : St) (K : AV → St → Prop) : Prop := ∃ p lo hi : Int, xs = [.val (.int .i64 p), .val (.int .i64 lo), .val (.int .i64 hi)] ∧ K (.val (.bool (decide (lo ≤ p ∧ p ≤ hi)))) st
def RPlain (xs : List AV) (st : St) (K : AV → St → Prop) : Prop := ∃ p : Int, xs = [.val (.int .i64 p)] ∧ K (.val (.bool (plainM p))) st
def RTold (xs : List AV) (st : St) (K : AV → St → Prop) : Prop := ∃ x z n e, xs = [x, .val (.int .i64 e)] ∧ NZ st x z n ∧ n ≤ 10000 ∧ (e ≠ 0 → tell2 st dNil e K) ∧ (e = 0 → tell2 st (toldM z).1 (toldM z).2 K)
/-- A variable that holds a whole number. -/
def Wc (st : St) (r : Nat) (z : Int) (n : Nat) : Prop := ∃ s a, At st r [.val (.bool s), a] ∧ IsZ st (.agg [.val (.bool s), a]) z n
/-- One part of a division. -/
def RPart (FQ FR : Int → Int → Int) (which : Bool) (xs : List AV) (st : St) (K : AV → St → Prop) : Prop := ∃ f r q z w n m, xs = [.fn (.func f) [] [], .ptr r 0, .ptr q 0] ∧ PSpec Tryd.prog f (RzQuo FQ FR) ∧ Wc st r z n ∧ Wc st q w m ∧ n ≤ 800 ∧ m ≤ 800 ∧
  (w ≠ 0 → ∀ v S', Ext st S' → NZ S' v (if which then FQ z w else FR z w) (n + m + 2) → K (.tup [v, .val (.int .i64 0)]) S') ∧ (w = 0 → ∀ S', Ext st S' → K (.tup [zeroI, .val (.int .i64 3)]) S')
def RNumbers (xs : List AV) (st : St) (K : AV → St → Prop) : Prop := ∃ p x y z w n m, xs = [.val (.int .i64 p), x, y] ∧ NZ st x z n ∧ NZ st y w m ∧ n ≤ 500 ∧ m ≤ 500 ∧ tell2 st (numM p z w).1 (numM p z w).2 K
end Go.Proofs.Pv

/- Primitives of texts; each primitive. -/
namespace Go.Proofs.Pv
open Go Go.RowKit Go.Proofs
set_option maxRecDepth 20000

def sumT (l : List Dt) : Nat := (l.map fun d => d.tx.size).sum
def textsM (p : Int) (l : List Dt) : Dt × Int :=
  if (∀ d ∈ l, d.kd = 4) then
    if p = 23 then (dNum (sumT l : Nat), 0) else if p = 25 then (dBool (decide (l.head?.map Dt.tx = (l.drop 1).head?.map Dt.tx)), 0) else if 1024 < sumT l then (dNil, 12) else (dStr (((l.head?.map Dt.tx).getD ⟨#[]⟩) ++ (((l.drop 1).head?.map Dt.tx).getD ⟨#[]⟩)), 0)
  else (dNil, 6)
def RTexts (xs : List AV) (st : St) (K : AV → St → Prop) : Prop := ∃ (p : Int) (y : AV) (ds : List Dt), xs = [.val (.int .i64 p), y] ∧ DS st y ds ∧ ((p = 23 ∧ ds.length = 1) ∨ (p ≠ 23 ∧ ds.length = 2)) ∧ (∀ d ∈ ds, d.tx.size ≤ 140737488355328) ∧ tell2 st (textsM p ds).1 (textsM p ds).2 K
end Go.Proofs.Pv

/- Each primitive. -/
namespace Go.Proofs.Pv
open Go Go.RowKit Go.Proofs
set_option maxRecDepth 20000

def doK (p : Int) (d : Dt) (r : List Dt) : Dt × Int :=
  if p = 14 then (dBool (decide (d.kd = 5 ∧ d.its.length = 0)), 0) else if p = 15 then (dBool (decide (d.kd = 5 ∧ d.its.length ≠ 0)), 0) else
  if p = 16 then (dBool (decide (d.kd = 1)), 0) else if p = 17 then (dBool (decide (d.kd = 3)), 0) else if p = 18 then (dBool (decide (d.kd = 4)), 0) else if p = 19 then (dBool (decide (d.kd = 2)), 0) else
  if p = 21 then (match r with | e :: _ => (dBool (eqM d e), 0) | [] => (dNil, 8)) else if p = 22 then (dBool (!trM d), 0) else
  if p = 26 then (if d.kd = 3 then (dStr d.tx, 0) else (dNil, 6)) else if p = 27 then (if d.kd = 1 then (dStr (bstr (txtI d.iv)), 0) else (dNil, 6)) else textsM p (d :: r)
def doL (p : Int) : List Dt → Dt × Int
  | [] => (dNil, 8)
  | d :: r => if p ≤ 8 then (match r with | e :: _ => if d.kd = 1 ∧ e.kd = 1 then numM p d.iv e.iv else (dNil, 6) | [] => (dNil, 8)) else doK p d r
def doM (p : Int) (l : List Dt) : Dt × Int := if plainM p = false then (dNil, 2) else if (l.length : Int) ≠ arM p then (dNil, 8) else doL p l
/-- What a primitive may be handed. -/
def fineD (d : Dt) : Prop := d.fit ∧ d.few ∧ d.lm.length ≤ 400 ∧ d.tx.size ≤ 140737488355328
def RStrF (F : Dt → ByteArray) (xs : List AV) (st : St) (K : AV → St → Prop) : Prop := ∃ x d, xs = [x] ∧ DA st x d ∧ d.lm.length ≤ 1000 ∧ anyw st (.string (F d)) K
def RText1 (xs : List AV) (st : St) (K : AV → St → Prop) : Prop := ∃ x d k f F, xs = [x, .val (.int .i64 k), .fn (.func f) [] []] ∧ DA st x d ∧ d.lm.length ≤ 1000 ∧ PSpec Tryd.prog f (RStrF F) ∧ (d.kd ≠ k → tell2 st dNil 6 K) ∧ (d.kd = k → tell2 st (dStr (F d)) 0 K)
def RKinds (xs : List AV) (st : St) (K : AV → St → Prop) : Prop := ∃ (k j : Int) (r : Nat) (c : List AV), xs = [.val (.int .i64 k), .ptr r 0] ∧ At st r (.val (.int .i64 j) :: c) ∧ tell2 st (dBool (decide (j = k))) 0 K
def RDo (xs : List AV) (st : St) (K : AV → St → Prop) : Prop := ∃ (p : Int) (y : AV) (ds : List Dt), xs = [.val (.int .i64 p), y] ∧ DS st y ds ∧ ds.length ≤ 1000 ∧ (∀ d ∈ ds, fineD d) ∧ tell2 st (doM p ds).1 (doM p ds).2 K
end Go.Proofs.Pv

/- The laws' helpers: what is light; the document's examples. -/
namespace Go.Proofs.Pv
open Go Go.RowKit Go.Proofs
set_option maxRecDepth 20000

def light1 (d : Dt) : Prop := d.sz ≤ 100 ∧ d.dp ≤ 30 ∧ d.lm.length ≤ 66 ∧ d.tx.size ≤ 1100
def lightM (ds : List Dt) : Prop := ds.length ≤ 10 ∧ ∀ d ∈ ds, light1 d
def RLight (xs : List AV) (st : St) (K : AV → St → Prop) : Prop := ∃ y ds, xs = [y] ∧ DS st y ds ∧ (lightM ds → anyw st (.bool true) K) ∧ (¬lightM ds → anyw st (.bool false) K)
def RLives (xs : List AV) (st : St) (K : AV → St → Prop) : Prop := xs = [] ∧ anyw st (.bool true) K
end Go.Proofs.Pv
