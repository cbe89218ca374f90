/- The engine's sixteenth part: a slice that is appended to again and again, nil at first. -/
import Derived.Test.YtdaidpomfkgbeaaE15
set_option linter.unusedSimpArgs false
set_option linter.unusedVariables false
namespace Go.Proofs.Pv
open Go Go.RowKit

/-- A slice of cells made since, that may be appended to. -/
def App (st0 st : St) (o : AV) (sz : Nat) (cs : List AV) : Prop :=
  Ext st0 st ∧ ((o = .val (.slice none 0 0) ∧ cs = []) ∨ ∃ r n rest, st0.length ≤ r ∧ o = .own r 0 n sz ∧ st[r]? = some (some (cs ++ rest)) ∧ cs.length = n * sz)
section
variable {st0 st st2 : St} {o : AV} {sz : Nat} {cs : List AV}
theorem App.ex (h : App st0 st o sz cs) : Ext st0 st := h.1
theorem App.nil (e : Ext st0 st) : App st0 st (.val (.slice none 0 0)) sz [] := ⟨e, .inl ⟨rfl, rfl⟩⟩
theorem App.ext (h : App st0 st o sz cs) (e : Ext st st2) : App st0 st2 o sz cs := by
  refine ⟨h.1.trans e, ?_⟩
  rcases h.2 with h | ⟨r, n, rest, h1, h2, h3, h4⟩
  · exact .inl h
  · obtain ⟨y, rfl⟩ := e
    exact .inr ⟨r, n, rest, h1, h2, by rw [List.getElem?_append_left (List.getElem?_eq_some_iff.1 h3).1]; exact h3, h4⟩
theorem App.nm {l : List Nat} (h : App st0 st o 1 (u32s l)) (hl : ∀ z ∈ l, z < 4294967296) : Nm st o l := by
  rcases h.2 with ⟨rfl, hn⟩ | ⟨r, n, rest, h1, rfl, h3, h4⟩
  · have : l = [] := by simpa [u32s] using hn
    subst this
    exact Nm.nil
  · rw [u32s_length, Nat.mul_one] at h4
    subst h4
    exact Nm.own h3 hl
theorem App.got {v : Nat} {l : List Nat} (h : App st0 st o 1 (u32s l)) (hl : l = limbs v) (h0 : l ≠ []) : ∃ y i rest, st = st0 ++ y ∧ o = .own (st0.length + i) 0 (limbs v).length 1 ∧ y[i]? = some (some (u32s (limbs v) ++ rest)) := by
  subst hl
  rcases h.2 with ⟨rfl, hn⟩ | ⟨r, n, rest, h1, rfl, h3, h4⟩
  · exact absurd (by simpa [u32s] using hn) h0
  · obtain ⟨y, rfl⟩ := h.1
    rw [u32s_length, Nat.mul_one] at h4
    subst h4
    refine ⟨y, r - st0.length, rest, rfl, by rw [Nat.add_sub_cancel' h1], ?_⟩
    rw [List.getElem?_append_right h1] at h3
    exact h3

/-- One append. -/
theorem F_app {X : Cx} {k : List Fr} {Q : Post} {s : Sl} {d : Bool} {full rest : List Oper} {dst : Option Nat} {u} {e by_ e2 sz2 by2 : Nat} {ez z ez2 z2 : List Value} {y : AV} {m : Nat} {ys : List AV}
    (h : App st0 st o sz cs) (hX : X.st1 = st0) (hy : slc st y = some (m, ys)) (hm : ys.length = m * sz) (hl : ys.all leaf = true) (hb : (cs.length + m) * by_ ≤ 140737488355328) (hsz : 0 < sz) (hb2 : cs.length + m ≤ 9223372036854775807)
    (hk : ∀ o' st', App st0 st' o' sz (cs ++ ys) → O d X full rest k Q () (putS dst o' s) st') : F d X dst full rest k Q u s st (.append (.slice e sz by_ ez z) (.slice e2 sz2 by2 ez2 z2) o y) := by
  obtain ⟨he, h⟩ := h
  rcases h with ⟨rfl, rfl⟩ | ⟨r, n, rr, h1, rfl, h3, h4⟩
  · have := @f_app_nil X k Q s st d full rest dst u e sz by_ e2 sz2 by2 ez z ez2 z2 y
    rw [this, hy]
    refine ⟨hm, hl, by simpa using hb, by simpa using hb2, hk _ _ ⟨he.app _, .inr ⟨st.length, m, [], he.len, rfl, by rw [get_app0]; simp, by simpa using hm⟩⟩⟩
  · have := @f_app_own X k Q s st d full rest dst u e sz by_ e2 sz2 by2 ez z ez2 z2 r n sz y
    have hn : n ≤ cs.length := by rw [h4]; exact Nat.le_mul_of_pos_right n hsz
    rw [this, hy]
    refine ⟨hm, hl, rfl, by rw [hX]; exact h1, ?_⟩
    rw [h3]
    refine ⟨by simp [h4], Nat.le_trans (Nat.mul_le_mul_right _ (by omega)) hb, by omega, hk _ _ ⟨?_, .inr ⟨(st.set r none).length, n + m, [], ?_, by simp, ?_, by simp [h4, hm, Nat.add_mul]⟩⟩⟩
    · obtain ⟨q, rfl⟩ := he
      rw [List.set_append_right _ _ h1]
      exact ⟨_, List.append_assoc _ _ _⟩
    · simp; exact he.len
    · rw [get_app0]; simp [← h4]

/-- One number more. -/
theorem F_app1 {X : Cx} {k : List Fr} {Q : Post} {s : Sl} {d : Bool} {full rest : List Oper} {dst : Option Nat} {u} {e e2 : Nat} {ez z ez2 z2 : List Value} {q : List Nat} {i : Int} {w : Nat}
    (h : App st0 st o 1 (u32s q)) (hX : X.st1 = st0) (hq : q.length ≤ 10000000) (hw : i = (w : Int))
    (hk : ∀ o' st', App st0 st' o' 1 (u32s (q ++ [w])) → O d X full rest k Q () (putS dst o' s) st') :
    F d X dst full rest k Q u s (st ++ [some (AV.val (Value.int IntKind.u32 i) :: u32s (List.drop 1 (List.replicate 1 0)))]) (.append (.slice e 1 4 ez z) (.slice e2 1 4 ez2 z2) o (.own st.length 0 1 1)) := by
  refine F_app (h.ext (.add _)) hX (m := 1) (ys := [AV.val (Value.int IntKind.u32 i)]) (by simp [slc_own_eq, u32s]) rfl rfl (by rw [u32s_length]; omega) (by omega) (by rw [u32s_length]; omega) fun o' st' h' => hk o' st' ?_
  rw [hw] at h'
  simpa [u32s] using h'
/-- A row of one number, made just now. -/
theorem Nm.one {T : St} {i : Int} {w : Nat} (hi : i = (w : Int)) (hw : w < 4294967296) : Nm (T ++ [some (AV.val (Value.int IntKind.u32 i) :: u32s (List.drop 1 (List.replicate 1 0)))]) (.own T.length 0 1 1) [w] := by
  subst hi
  exact Nm.own (l := [w]) (rest := []) (by rw [get_app0]; rfl) (by simpa using hw)
/-- A row of one byte becomes a text. -/
theorem F_conv1 {X : Cx} {k : List Fr} {Q : Post} {s : Sl} {d : Bool} {full rest : List Oper} {dst : Option Nat} {u} {e by_ : Nat} {z z2 z3 ez : List Value} {T : St} {i : Int} {c : Nat} (ht : ti X.P e = .int .u8 z3) (hi : i = (c : Int)) (hc : c < 256)
    (h : O d X full rest k Q () (putS dst (.val (.string (bstr [c]))) s) (T ++ [some (AV.val (Value.int IntKind.u8 i) :: u8s (List.drop 1 (List.replicate 1 0)))])) :
    F d X dst full rest k Q u s (T ++ [some (AV.val (Value.int IntKind.u8 i) :: u8s (List.drop 1 (List.replicate 1 0)))]) (.conv (.slice e 1 by_ ez z) (.str z2) (.own T.length 0 1 1)) := by
  subst hi
  exact F_convS (l := [c]) ht (by simp [slc_own_eq, u8s]) (by simpa using hc) h
end
end Go.Proofs.Pv
