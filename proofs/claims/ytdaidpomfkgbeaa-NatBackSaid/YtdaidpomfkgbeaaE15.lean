/- The engine's fifteenth part: results that are new rows, wherever they lie among the new objects. -/
import Derived.Test.YtdaidpomfkgbeaaR3
set_option linter.unusedSimpArgs false
set_option linter.unusedVariables false
namespace Go.Proofs.Pv
open Go Go.RowKit

/-- One store is another, with more objects behind. -/
def Ext (st st' : St) : Prop := ∃ y, st' = st ++ y
section
variable {st st' st2 : St} {x a : AV} {l : List Nat} {u v : Nat} {K : AV → St → Prop}
theorem Ext.refl : Ext st st := ⟨[], by simp⟩
theorem Ext.add (y : St) : Ext st (st ++ y) := ⟨y, rfl⟩
theorem Ext.trans (h : Ext st st') (h2 : Ext st' st2) : Ext st st2 := by
  obtain ⟨y, rfl⟩ := h
  obtain ⟨z, rfl⟩ := h2
  exact ⟨y ++ z, by simp⟩
theorem Ext.app (h : Ext st st') (y : St) : Ext st (st' ++ y) := h.trans (.add y)
theorem Ext.len (h : Ext st st') : st.length ≤ st'.length := by
  obtain ⟨y, rfl⟩ := h
  simp
theorem Nm.ext (h : Nm st x l) (e : Ext st st') : Nm st' x l := by
  obtain ⟨y, rfl⟩ := e
  exact h.app y

/-- A new row of a number among the objects made since. -/
def Got (st st' : St) (x : AV) (v : Nat) : Prop := ∃ y i rest, st' = st ++ y ∧ x = .own (st.length + i) 0 (limbs v).length 1 ∧ y[i]? = some (some (u32s (limbs v) ++ rest)) ∧ plain rest
theorem Got.ex (h : Got st st' x v) : Ext st st' := by
  obtain ⟨y, i, rest, rfl, _⟩ := h
  exact ⟨y, rfl⟩
theorem Got.nm (h : Got st st' x v) : Nm st' x (limbs v) := by
  obtain ⟨y, i, rest, rfl, rfl, hy, _⟩ := h
  exact Nm.own (rest := rest) (by rw [get_app]; exact hy) (limbs_lt v)
theorem Got.ext (h : Got st st' x v) (e : Ext st' st2) : Got st st2 x v := by
  obtain ⟨y, i, rest, rfl, rfl, hy, hr⟩ := h
  obtain ⟨z, rfl⟩ := e
  exact ⟨y ++ z, i, rest, by simp, rfl, by rw [List.getElem?_append_left (List.getElem?_eq_some_iff.1 hy).1]; exact hy, hr⟩
theorem Got.pre (e : Ext st st') (h : Got st' st2 x v) : Got st st2 x v := by
  obtain ⟨z, rfl⟩ := e
  obtain ⟨y, i, rest, rfl, rfl, hy, hr⟩ := h
  exact ⟨z ++ y, z.length + i, rest, by simp, by simp [Nat.add_assoc], by rw [get_app]; exact hy, hr⟩
/-- A cell's row that was made just now. -/
theorem Got.last (e : Ext st st') {l : List Nat} {rest : List AV} (hr : plain rest) (hl : l = limbs v) : Got st (st' ++ [some (u32s l ++ rest)]) (.own st'.length 0 l.length 1) v := by
  obtain ⟨z, rfl⟩ := e
  subst hl
  exact ⟨z ++ [some (u32s (limbs v) ++ rest)], z.length, rest, by simp, by simp, by rw [get_app0]; rfl, hr⟩

def got (st : St) (v : Nat) (K : AV → St → Prop) : Prop := ∀ x st', Got st st' x v → K x st'
theorem fresh_got (h : ∀ x st', Got st st' x v → K x st') : fresh st v K := fun rest hr => h _ _ ⟨[some (u32s (limbs v) ++ rest)], 0, rest, rfl, rfl, rfl, hr⟩
theorem got_tidy (hK : fresh st v K) : got st v fun x st' => ∃ (L : List Nat) (y : St) (zs : List (List AV)) (x' : AV), st' = st ++ y ∧ L.Nodup ∧ L.map (fun r => y[r]?) = zs.map (fun z => some (some z)) ∧ (∀ z ∈ zs, plain z) ∧ Mv st L x x' ∧ K x' (st ++ zs.map some) := by
  rintro x st' ⟨y, i, rest, rfl, rfl, hy, hr⟩
  exact fresh_tidy hK y i rest hr hy

/-- The first object since is another: rows of later ones stay. -/
theorem Got.set {a b : Option (List AV)} (h : Got (st ++ [a]) st' x v) : Got (st ++ [b]) (st'.set st.length b) x v := by
  obtain ⟨y, i, rest, rfl, rfl, hy, hr⟩ := h
  refine ⟨y, i, rest, by simp, by simp, hy, hr⟩

/-- Two of them. -/
def got2 (st : St) (u v : Nat) (K : AV → St → Prop) : Prop := ∀ x y st', Got st st' x u → Got st st' y v → x ≠ y → K (.tup [x, y]) st'
theorem fresh2_got (h : ∀ x y st', Got st st' x u → Got st st' y v → K (.tup [x, y]) st') : fresh2 st u v K := fun rest rest2 hr hr2 =>
  h _ _ _ ⟨[some (u32s (limbs u) ++ rest), some (u32s (limbs v) ++ rest2)], 0, rest, rfl, rfl, rfl, hr⟩ ⟨[some (u32s (limbs u) ++ rest), some (u32s (limbs v) ++ rest2)], 1, rest2, rfl, rfl, rfl, hr2⟩

/-- A value that is no place, whatever was made. -/
def anyw (st : St) (v : Value) (K : AV → St → Prop) : Prop := ∀ st', Ext st st' → K (.val v) st'
theorem any_tidy {v : Value} (hK : K (.val v) st) : anyw st v fun x st' => ∃ (L : List Nat) (y : St) (zs : List (List AV)) (x' : AV), st' = st ++ y ∧ L.Nodup ∧ L.map (fun r => y[r]?) = zs.map (fun z => some (some z)) ∧ (∀ z ∈ zs, plain z) ∧ Mv st L x x' ∧ K x' (st ++ zs.map some) := by
  rintro st' ⟨y, rfl⟩
  exact ⟨[], y, [], _, rfl, List.nodup_nil, rfl, by simp, .val _, by simpa using hK⟩
end
end Go.Proofs.Pv
