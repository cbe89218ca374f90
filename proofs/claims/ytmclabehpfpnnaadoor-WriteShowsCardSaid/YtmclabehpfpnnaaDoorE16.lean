/- The engine's fifteenth part: results that are new rows, wherever they lie among the new objects. -/
import Derived.Test.YtmclabehpfpnnaaDoorR3
set_option linter.unusedSimpArgs false
set_option linter.unusedVariables false
namespace Go.Proofs.Pv
open Go Go.RowKit

/-- One store is another, with more objects behind. -/
def Ext (st st' : St) : Prop := ∃ y, st' = st ++ y
section
variable {st st' st2 : St} {x a : AV} {l : List Nat} {u v : Nat} {K : AV → St → Prop}
theorem Ext.refl : Ext st st := ⟨[], by simp⟩
theorem Ext.add (y : St) : Ext st (st ++ y) := ⟨y, rfl⟩
theorem Ext.trans (h : Ext st st') (h2 : Ext st' st2) : Ext st st2 := by
  obtain ⟨y, rfl⟩ := h
  obtain ⟨z, rfl⟩ := h2
  exact ⟨y ++ z, by simp⟩
theorem Ext.app (h : Ext st st') (y : St) : Ext st (st' ++ y) := h.trans (.add y)
theorem Ext.len (h : Ext st st') : st.length ≤ st'.length := by
  obtain ⟨y, rfl⟩ := h
  simp
theorem Nm.ext (h : Nm st x l) (e : Ext st st') : Nm st' x l := by
  obtain ⟨y, rfl⟩ := e
  exact h.app y

/-- A new row of a number among the objects made since. -/
def Got (st st' : St) (x : AV) (v : Nat) : Prop := ∃ y i rest, st' = st ++ y ∧ x = .own (st.length + i) 0 (limbs v).length 1 ∧ y[i]? = some (some (u32s (limbs v) ++ rest)) ∧ plain rest
theorem Got.ex (h : Got st st' x v) : Ext st st' := by
  obtain ⟨y, i, rest, rfl, _⟩ := h
  exact ⟨y, rfl⟩
theorem Got.nm (h : Got st st' x v) : Nm st' x (limbs v) := by
  obtain ⟨y, i, rest, rfl, rfl, hy, _⟩ := h
  exact Nm.own (rest := rest) (by rw [get_app]; exact hy) (limbs_lt v)
theorem Got.ext (h : Got st st' x v) (e : Ext st' st2) : Got st st2 x v := by
  obtain ⟨y, i, rest, rfl, rfl, hy, hr⟩ := h
  obtain ⟨z, rfl⟩ := e
  exact ⟨y ++ z, i, rest, by simp, rfl, by rw [List.getElem?_append_left (List.getElem?_eq_some_iff.1 hy).1]; exact hy, hr⟩
theorem Got.pre (e : Ext st st') (h : Got st' st2 x v) : Got st st2 x v := by
  obtain ⟨z, rfl⟩ := e
  obtain ⟨y, i, rest, rfl, rfl, hy, hr⟩ := h
  exact ⟨z ++ y, z.length + i, rest, by simp, by simp [Nat.add_assoc], by rw [get_app]; exact hy, hr⟩
/-- A cell's row that was made just now. -/
theorem Got.last (e : Ext st st') {l : List Nat} {rest : List AV} (hr : plain rest) (hl : l = limbs v) : Got st (st' ++ [some (u32s l ++ rest)]) (.own st'.length 0 l.length 1) v := by
  obtain ⟨z, rfl⟩ := e
  subst hl
  exact ⟨z ++ [some (u32s (limbs v) ++ rest)], z.length, rest, by simp, by simp, by rw [get_app0]; rfl, hr⟩

def got (st : St) (v : Nat) (K : AV → St → Prop) : Prop := ∀ x st', Got st st' x v → K x st'
theorem fresh_got (h : ∀ x st', Got st st' x v → K x st') : fresh st v K := fun rest hr => h _ _ ⟨[some (u32s (limbs v) ++ rest)], 0, rest, rfl, rfl, rfl, hr⟩
/-- The first object since is another: rows of later ones stay. -/
theorem Got.set {a b : Option (List AV)} (h : Got (st ++ [a]) st' x v) : Got (st ++ [b]) (st'.set st.length b) x v := by
  obtain ⟨y, i, rest, rfl, rfl, hy, hr⟩ := h
  refine ⟨y, i, rest, by simp, by simp, hy, hr⟩

/-- Two of them. -/
def got2 (st : St) (u v : Nat) (K : AV → St → Prop) : Prop := ∀ x y st', Got st st' x u → Got st st' y v → x ≠ y → K (.tup [x, y]) st'
/-- A value that is no place, whatever was made. -/
def anyw (st : St) (v : Value) (K : AV → St → Prop) : Prop := ∀ st', Ext st st' → K (.val v) st'
end
end Go.Proofs.Pv

/- The engine's sixteenth part: a slice that is appended to again and again, nil at first. -/
namespace Go.Proofs.Pv
open Go Go.RowKit

/-- A slice of cells made since, that may be appended to. -/
def App (st0 st : St) (o : AV) (sz : Nat) (cs : List AV) : Prop :=
  Ext st0 st ∧ ((o = .val (.slice none 0 0) ∧ cs = []) ∨ ∃ r n rest, st0.length ≤ r ∧ o = .own r 0 n sz ∧ st[r]? = some (some (cs ++ rest)) ∧ cs.length = n * sz)
section
variable {st0 st st2 : St} {o : AV} {sz : Nat} {cs : List AV}
theorem App.ex (h : App st0 st o sz cs) : Ext st0 st := h.1
theorem App.nil (e : Ext st0 st) : App st0 st (.val (.slice none 0 0)) sz [] := ⟨e, .inl ⟨rfl, rfl⟩⟩
theorem App.ext (h : App st0 st o sz cs) (e : Ext st st2) : App st0 st2 o sz cs := by
  refine ⟨h.1.trans e, ?_⟩
  rcases h.2 with h | ⟨r, n, rest, h1, h2, h3, h4⟩
  · exact .inl h
  · obtain ⟨y, rfl⟩ := e
    exact .inr ⟨r, n, rest, h1, h2, by rw [List.getElem?_append_left (List.getElem?_eq_some_iff.1 h3).1]; exact h3, h4⟩
theorem App.nm {l : List Nat} (h : App st0 st o 1 (u32s l)) (hl : ∀ z ∈ l, z < 4294967296) : Nm st o l := by
  rcases h.2 with ⟨rfl, hn⟩ | ⟨r, n, rest, h1, rfl, h3, h4⟩
  · have : l = [] := by simpa [u32s] using hn
    subst this
    exact Nm.nil
  · rw [u32s_length, Nat.mul_one] at h4
    subst h4
    exact Nm.own h3 hl
theorem App.got {v : Nat} {l : List Nat} (h : App st0 st o 1 (u32s l)) (hl : l = limbs v) (h0 : l ≠ []) : ∃ y i rest, st = st0 ++ y ∧ o = .own (st0.length + i) 0 (limbs v).length 1 ∧ y[i]? = some (some (u32s (limbs v) ++ rest)) := by
  subst hl
  rcases h.2 with ⟨rfl, hn⟩ | ⟨r, n, rest, h1, rfl, h3, h4⟩
  · exact absurd (by simpa [u32s] using hn) h0
  · obtain ⟨y, rfl⟩ := h.1
    rw [u32s_length, Nat.mul_one] at h4
    subst h4
    refine ⟨y, r - st0.length, rest, rfl, by rw [Nat.add_sub_cancel' h1], ?_⟩
    rw [List.getElem?_append_right h1] at h3
    exact h3

/-- One append. -/
theorem F_app {X : Cx} {k : List Fr} {Q : Post} {s : Sl} {d : Bool} {full rest : List Oper} {dst : Option Nat} {u} {e by_ e2 sz2 by2 : Nat} {ez z ez2 z2 : List Value} {y : AV} {m : Nat} {ys : List AV}
    (h : App st0 st o sz cs) (hX : X.st1 = st0) (hy : slc st y = some (m, ys)) (hm : ys.length = m * sz) (hl : ys.all leaf = true) (hb : (cs.length + m) * by_ ≤ 140737488355328) (hsz : 0 < sz) (hb2 : cs.length + m ≤ 9223372036854775807)
    (hk : ∀ o' st', App st0 st' o' sz (cs ++ ys) → O d X full rest k Q () (putS dst o' s) st') : F d X dst full rest k Q u s st (.append (.slice e sz by_ ez z) (.slice e2 sz2 by2 ez2 z2) o y) := by
  obtain ⟨he, h⟩ := h
  rcases h with ⟨rfl, rfl⟩ | ⟨r, n, rr, h1, rfl, h3, h4⟩
  · have := @f_app_nil X k Q s st d full rest dst u e sz by_ e2 sz2 by2 ez z ez2 z2 y
    rw [this, hy]
    refine ⟨hm, hl, by simpa using hb, by simpa using hb2, hk _ _ ⟨he.app _, .inr ⟨st.length, m, [], he.len, rfl, by rw [get_app0]; simp, by simpa using hm⟩⟩⟩
  · have := @f_app_own X k Q s st d full rest dst u e sz by_ e2 sz2 by2 ez z ez2 z2 r n sz y
    have hn : n ≤ cs.length := by rw [h4]; exact Nat.le_mul_of_pos_right n hsz
    rw [this, hy]
    refine ⟨hm, hl, rfl, by rw [hX]; exact h1, ?_⟩
    rw [h3]
    refine ⟨by simp [h4], Nat.le_trans (Nat.mul_le_mul_right _ (by omega)) hb, by omega, hk _ _ ⟨?_, .inr ⟨(st.set r none).length, n + m, [], ?_, by simp, ?_, by simp [h4, hm, Nat.add_mul]⟩⟩⟩
    · obtain ⟨q, rfl⟩ := he
      rw [List.set_append_right _ _ h1]
      exact ⟨_, List.append_assoc _ _ _⟩
    · simp; exact he.len
    · rw [get_app0]; simp [← h4]

/-- A row of one number, made just now. -/
theorem Nm.one {T : St} {i : Int} {w : Nat} (hi : i = (w : Int)) (hw : w < 4294967296) : Nm (T ++ [some (AV.val (Value.int IntKind.u32 i) :: u32s (List.drop 1 (List.replicate 1 0)))]) (.own T.length 0 1 1) [w] := by
  subst hi
  exact Nm.own (l := [w]) (rest := []) (by rw [get_app0]; rfl) (by simpa using hw)
/-- A row of one byte becomes a text. -/
theorem F_conv1 {X : Cx} {k : List Fr} {Q : Post} {s : Sl} {d : Bool} {full rest : List Oper} {dst : Option Nat} {u} {e by_ : Nat} {z z2 z3 ez : List Value} {T : St} {i : Int} {c : Nat} (ht : ti X.P e = .int .u8 z3) (hi : i = (c : Int)) (hc : c < 256)
    (h : O d X full rest k Q () (putS dst (.val (.string (bstr [c]))) s) (T ++ [some (AV.val (Value.int IntKind.u8 i) :: u8s (List.drop 1 (List.replicate 1 0)))])) :
    F d X dst full rest k Q u s (T ++ [some (AV.val (Value.int IntKind.u8 i) :: u8s (List.drop 1 (List.replicate 1 0)))]) (.conv (.slice e 1 by_ ez z) (.str z2) (.own T.length 0 1 1)) := by
  subst hi
  exact F_convS (l := [c]) ht (by simp [slc_own_eq, u8s]) (by simpa using hc) h
end
end Go.Proofs.Pv
