/- The engine's twentieth part: data as trees in the store. -/
import Derived.Test.YtmclabehpfpnnaaGreatDoorE18
import Derived.Test.YtmclabehpfpnnaaGreatDoorM8
import Derived.Test.YtmclabehpfpnnaaGreatDoorT1
set_option linter.unusedSimpArgs false
set_option linter.unusedVariables false
namespace Go.Proofs.Pv
open Go Go.RowKit

/- A datum's seven cells; a slice of data; data's cells one behind the other. -/
mutual
inductive DC (st : St) : List AV → Dt → Prop
  | mk {k : Int} {g : Bool} {a : AV} {l : List Nat} {b : Bool} {s : ByteArray} {x y : AV} {its tls : List Dt} : Nm st a l → DS st x its → DS st y tls → DC st [.val (.int .i64 k), .val (.bool g), a, .val (.bool b), .val (.string s), x, y] (.mk k g l b s its tls)
inductive DS (st : St) : AV → List Dt → Prop
  | mk {x : AV} {cs : List AV} {ds : List Dt} : sl 7 st x = some (ds.length, cs) → DL st cs ds → DS st x ds
inductive DL (st : St) : List AV → List Dt → Prop
  | nil : DL st [] []
  | cons {c cs : List AV} {d : Dt} {ds : List Dt} : DC st c d → DL st cs ds → DL st (c ++ cs) (d :: ds)
end

section
variable {st st' : St}
mutual
theorem DC.ext (e : Ext st st') {c : List AV} {d : Dt} : DC st c d → DC st' c d
  | .mk ha hx hy => .mk (ha.ext e) (hx.ext e) (hy.ext e)
theorem DS.ext (e : Ext st st') {x : AV} {ds : List Dt} : DS st x ds → DS st' x ds
  | .mk hs hd => .mk (by obtain ⟨y, rfl⟩ := e; exact sl_grow hs y) (hd.ext e)
theorem DL.ext (e : Ext st st') {cs : List AV} {ds : List Dt} : DL st cs ds → DL st' cs ds
  | .nil => .nil
  | .cons hc hd => .cons (hc.ext e) (hd.ext e)
end
theorem DC.len {c : List AV} {d : Dt} (h : DC st c d) : c.length = 7 := by cases h; rfl
theorem DL.len {cs : List AV} {ds : List Dt} (h : DL st cs ds) : cs.length = ds.length * 7 := by
  induction ds generalizing cs with
  | nil => cases h; rfl
  | cons d ds ih =>
    cases h with
    | cons hc hd => rw [List.length_append, hc.len, ih hd]; simp; omega
theorem DS.leaf {x : AV} {ds : List Dt} (h : DS st x ds) : leaf x = true := by cases h with | mk hs _ => exact sl_leaf hs
theorem DL.get {cs : List AV} {ds : List Dt} (h : DL st cs ds) : ∀ {i : Nat} {d : Dt}, ds[i]? = some d → DC st ((cs.drop (i * 7)).take 7) d := by
  induction ds generalizing cs with
  | nil => intro i d hd; simp at hd
  | cons e ds ih =>
    intro i d hd
    cases h with
    | @cons c cs _ _ hc hl =>
      cases i with
      | zero => simp at hd; subst hd; simp only [Nat.zero_mul, List.drop_zero]; rw [← hc.len, List.take_left]; exact hc
      | succ i =>
        have := ih hl (i := i) (d := d) (by simpa using hd)
        rw [show (i + 1) * 7 = c.length + i * 7 by rw [hc.len]; omega, List.drop_append]
        rw [List.drop_eq_nil_of_le (by omega), List.nil_append, show c.length + i * 7 - c.length = i * 7 by omega]
        exact this
theorem DL.app {cs cs' : List AV} {ds ds' : List Dt} (h : DL st cs ds) (h' : DL st cs' ds') : DL st (cs ++ cs') (ds ++ ds') := by
  induction ds generalizing cs with
  | nil => cases h; exact h'
  | cons d ds ih =>
    cases h with
    | cons hc hl => rw [List.append_assoc]; exact .cons hc (ih hl)
theorem DL.one {c : List AV} {d : Dt} (h : DC st c d) : DL st c [d] := by
  have := DL.cons h .nil
  rwa [List.append_nil] at this
theorem DC.all {c : List AV} {d : Dt} (h : DC st c d) : c.all Pv.leaf = true := by
  cases h with
  | mk ha hx hy => simp only [List.all_cons, List.all_nil, leaf_int, leaf_bool, leaf_str, ha.leaf, hx.leaf, hy.leaf, Bool.and_self]
theorem DL.all {cs : List AV} {ds : List Dt} (h : DL st cs ds) : cs.all Pv.leaf = true := by
  induction ds generalizing cs with
  | nil => cases h; rfl
  | cons d ds ih =>
    cases h with
    | cons hc hl => rw [List.all_append, hc.all, ih hl]; rfl
/-- A datum as a value. -/
def DA (st : St) (x : AV) (d : Dt) : Prop := ∃ c, x = .agg c ∧ DC st c d
theorem DA.ext {x : AV} {d : Dt} (h : DA st x d) (e : Ext st st') : DA st' x d := by obtain ⟨c, h1, h2⟩ := h; exact ⟨c, h1, h2.ext e⟩
theorem DS.nil : DS st (.val (.slice none 0 0)) [] := .mk (cs := []) rfl .nil
end

section
variable {X : Cx} {k : List Fr} {Q : Post} {s : Sl} {st : St} {d : Bool} {full rest : List Oper} {dst : Option Nat}
/-- A table's i-th. -/
theorem F_idx {u} {n z1 : Nat} {z : List Value} {cs : List AV} {kk : IntKind} {j : Int} {i : Nat} {x : AV} (h : cs[i]? = some x) (hj : j = (i : Int)) (hi : i < n) (hk : O d X full rest k Q () (putS dst x s) st) : F d X dst full rest k Q u s st (.index (.arr n 1 z1 false z) (.agg cs) (.val (.int kk j))) := by
  subst hj
  refine ⟨by omega, by omega, ?_⟩
  unfold partA
  rw [if_neg (by simp), Int.toNat_natCast, Nat.mul_one, h]
  exact hk
end
/-- A datum's parts, cell by cell. -/
theorem DA.mk' {st : St} {k : Int} {g : Bool} {a : AV} {l : List Nat} {b : Bool} {s : ByteArray} {x y : AV} {its tls : List Dt} (ha : Nm st a l) (hx : DS st x its) (hy : DS st y tls) : DA st (.agg [.val (.int .i64 k), .val (.bool g), a, .val (.bool b), .val (.string s), x, y]) (.mk k g l b s its tls) := ⟨_, rfl, .mk ha hx hy⟩
theorem DA.inv {st : St} {v : AV} {d : Dt} (h : DA st v d) : ∃ k g a l b s x y its tls, v = .agg [.val (.int .i64 k), .val (.bool g), a, .val (.bool b), .val (.string s), x, y] ∧ d = .mk k g l b s its tls ∧ Nm st a l ∧ DS st x its ∧ DS st y tls := by
  obtain ⟨c, rfl, h⟩ := h
  cases h with
  | mk ha hx hy => exact ⟨_, _, _, _, _, _, _, _, _, _, rfl, rfl, ha, hx, hy⟩
theorem DS.inv {st : St} {x : AV} {ds : List Dt} (h : DS st x ds) : ∃ cs, sl 7 st x = some (ds.length, cs) ∧ DL st cs ds ∧ cs.length = ds.length * 7 := by
  cases h with
  | mk hs hl => exact ⟨_, hs, hl, hl.len⟩
/-- A datum's zero cells, once a whole one has been stored there. -/
theorem zD_drop : List.drop 7 (List.map AV.val zeroD) = [] := rfl
theorem zD_len : (List.map AV.val zeroD).length = 7 := rfl
theorem zD_map : List.map AV.val zeroD = [.val (.int .i64 0), .val (.bool false), .val (.slice none 0 0), .val (.bool false), .val (.string ⟨#[]⟩), .val (.slice none 0 0), .val (.slice none 0 0)] := rfl
theorem take7 {c r : List AV} (h : c.length = 7) : List.take 7 (c ++ r) = c := by rw [← h]; exact List.take_left
/-- The i-th of a slice of data. -/
theorem DS.at {st : St} {x : AV} {ds : List Dt} {i : Nat} (h : DS st x ds) (hi : i < ds.length) : ∃ cs c e, sl 7 st x = some (ds.length, cs) ∧ cs.length = ds.length * 7 ∧ List.take 7 (List.drop (i * 7) cs) = c ∧ c.length = 7 ∧ c.all Pv.leaf = true ∧ ds[i]? = some e ∧ DC st c e ∧ i * 7 < ds.length * 7 ∧ i * 7 + 7 ≤ ds.length * 7 := by
  obtain ⟨cs, h1, h2, h3⟩ := h.inv
  have he := List.getElem?_eq_getElem hi
  have hc := h2.get he
  exact ⟨cs, _, _, h1, h3, rfl, hc.len, hc.all, he, hc, by omega, by omega⟩
/-- A datum without data in it, as it is told. -/
def DA0 (st : St) (x : AV) (d : Dt) : Prop := ∃ k g a l b s, x = .agg [.val (.int .i64 k), .val (.bool g), a, .val (.bool b), .val (.string s), .val (.slice none 0 0), .val (.slice none 0 0)] ∧ d = .mk k g l b s [] [] ∧ Nm st a l
theorem DA0.da {st : St} {x : AV} {d : Dt} (h : DA0 st x d) : DA st x d := by
  obtain ⟨k, g, a, l, b, s, rfl, rfl, ha⟩ := h
  exact DA.mk' ha DS.nil DS.nil
theorem DA0.ext {st st' : St} {x : AV} {d : Dt} (h : DA0 st x d) (e : Ext st st') : DA0 st' x d := by
  obtain ⟨k, g, a, l, b, s, rfl, rfl, ha⟩ := h
  exact ⟨k, g, a, l, b, s, rfl, rfl, ha.ext e⟩
theorem DA0.mk {st : St} {k : Int} {g : Bool} {a : AV} {l : List Nat} {b : Bool} {s : ByteArray} (ha : Nm st a l) : DA0 st (.agg [.val (.int .i64 k), .val (.bool g), a, .val (.bool b), .val (.string s), .val (.slice none 0 0), .val (.slice none 0 0)]) (.mk k g l b s [] []) := ⟨k, g, a, l, b, s, rfl, rfl, ha⟩
/-- Rows of numbers stay, whatever is written to a variable that holds none. -/
theorem Nm.setz {T : St} {p : AV} {l : List Nat} {r : Nat} {c : List AV} {c' : List AV} (h : Nm T p l) (hA : At T r c) (hc : ∀ x ∈ c, ∀ n, x ≠ .val (.int .u32 n)) : Nm (T.set r (some c')) p l := by
  refine ⟨?_, h.lt⟩
  have hs := h.sl
  rcases sl_cases hs with ⟨rfl, hl⟩ | ⟨q, off, cs, rfl, hq, hd, hl⟩ | ⟨rfl, h1, h2⟩
  · exact hs
  · by_cases hr : q = r
    · subst hr
      have hcs : cs = c := by have := hA.get; rw [hq] at this; simpa using this
      subst hcs
      have hz : l = [] := by
        cases l with
        | nil => rfl
        | cons n l =>
          exfalso
          have h3 : AV.val (.int .u32 (n : Int)) ∈ u32s (n :: l) := by simp [u32s]
          rw [← hd] at h3
          exact hc _ (List.mem_of_mem_drop (List.mem_of_mem_take h3)) _ rfl
      subst hz
      rw [sl_own_eq, if_pos rfl, List.getElem?_set_self hA.lt]
      simp [u32s]
    · rw [sl_own_eq, List.getElem?_set_ne (Ne.symm hr)]
      rw [sl_own_eq] at hs
      exact hs
  · exact hs
/-- A datum that is told. -/
def tell (st : St) (d : Dt) (K : AV → St → Prop) : Prop := ∀ x st', Ext st st' → DA0 st' x d → K x st'
/-- A datum and an error's number. -/
def tell2 (st : St) (d : Dt) (e : Int) (K : AV → St → Prop) : Prop := ∀ x st', Ext st st' → DA0 st' x d → K (.tup [x, .val (.int .i64 e)]) st'
theorem DA.all {st : St} {x : AV} {d : Dt} (h : DA st x d) : ∃ c, x = .agg c ∧ DC st c d ∧ c.length = 7 ∧ c.all leaf = true ∧ List.take 7 c = c := by
  obtain ⟨c, h1, h2⟩ := h
  exact ⟨c, h1, h2, h2.len, h2.all, List.take_of_length_le (Nat.le_of_eq h2.len)⟩
theorem At.mk0 {st r : St} {c : List AV} : At (st ++ some c :: r) st.length c := ⟨by rw [get_app0]; rfl⟩
theorem At.mk1 {st r : St} {a : Option (List AV)} {c : List AV} : At (st ++ a :: some c :: r) (st.length + 1) c := ⟨by rw [get_app]; rfl⟩
theorem At.mk2 {st r : St} {a b : Option (List AV)} {c : List AV} : At (st ++ a :: b :: some c :: r) (st.length + 2) c := ⟨by rw [get_app]; rfl⟩
theorem DA0.setz {T : St} {x : AV} {d : Dt} {r : Nat} {c c' : List AV} (h : DA0 T x d) (hA : At T r c) (hc : ∀ x ∈ c, ∀ n, x ≠ .val (.int .u32 n)) : DA0 (T.set r (some c')) x d := by
  obtain ⟨k, g, a, l, b, s, rfl, rfl, ha⟩ := h
  exact ⟨k, g, a, l, b, s, rfl, rfl, ha.setz hA hc⟩
theorem no32 {k : Int} {g b : Bool} {s : ByteArray} : ∀ x ∈ [AV.val (.int .i64 k), .val (.bool g), .val (.slice none 0 0), .val (.bool b), .val (.string s), .val (.slice none 0 0), .val (.slice none 0 0)], ∀ n, x ≠ .val (.int .u32 n) := by
  intro x hx n
  simp only [List.mem_cons, List.not_mem_nil, or_false] at hx
  rcases hx with rfl | rfl | rfl | rfl | rfl | rfl | rfl <;> (intro h; cases h)
theorem no32b {b : Bool} : ∀ x ∈ [AV.val (.bool b), .val (.slice none 0 0)], ∀ n, x ≠ .val (.int .u32 n) := by
  intro x hx n
  simp only [List.mem_cons, List.not_mem_nil, or_false] at hx
  rcases hx with rfl | rfl <;> (intro h; cases h)
theorem zD7 {a b c d e f g : AV} : List.drop 7 [a, b, c, d, e, f, g] = [] := rfl
theorem DS.one1 {st : St} {y : AV} {d : Dt} (h : DS st y [d]) : ∃ k0 g0 a0 l0 b0 s0 x0 z0 its0 tls0, d = .mk k0 g0 l0 b0 s0 its0 tls0 ∧ sl 7 st y = some (1, [.val (.int .i64 k0), .val (.bool g0), a0, .val (.bool b0), .val (.string s0), x0, z0]) ∧ Nm st a0 l0 ∧ DS st x0 its0 ∧ DS st z0 tls0 := by
  obtain ⟨cs, hs, hd, _⟩ := h.inv
  cases hd with
  | cons h0 hl =>
    cases hl
    cases h0 with
    | mk ha hx hy => exact ⟨_, _, _, _, _, _, _, _, _, _, rfl, by rw [List.append_nil] at hs; exact hs, ha, hx, hy⟩
theorem DS.two2 {st : St} {y : AV} {d e : Dt} (h : DS st y [d, e]) : ∃ k0 g0 a0 l0 b0 s0 x0 z0 its0 tls0 k1 g1 a1 l1 b1 s1 x1 z1 its1 tls1, d = .mk k0 g0 l0 b0 s0 its0 tls0 ∧ e = .mk k1 g1 l1 b1 s1 its1 tls1 ∧ sl 7 st y = some (2, [.val (.int .i64 k0), .val (.bool g0), a0, .val (.bool b0), .val (.string s0), x0, z0, .val (.int .i64 k1), .val (.bool g1), a1, .val (.bool b1), .val (.string s1), x1, z1]) ∧ Nm st a0 l0 ∧ DS st x0 its0 ∧ DS st z0 tls0 ∧ Nm st a1 l1 ∧ DS st x1 its1 ∧ DS st z1 tls1 := by
  obtain ⟨cs, hs, hd, _⟩ := h.inv
  cases hd with
  | cons h0 hl =>
    cases hl with
    | cons h1 hl =>
      cases hl
      cases h0 with
      | mk ha hx hy =>
        cases h1 with
        | mk ha' hx' hy' => exact ⟨_, _, _, _, _, _, _, _, _, _, _, _, _, _, _, _, _, _, _, _, rfl, rfl, by rw [List.append_nil] at hs; exact hs, ha, hx, hy, ha', hx', hy'⟩
theorem DA0.inv {st : St} {x : AV} {d : Dt} (h : DA0 st x d) : ∃ a, x = .agg [.val (.int .i64 d.kd), .val (.bool d.ng), a, .val (.bool d.tr), .val (.string d.tx), .val (.slice none 0 0), .val (.slice none 0 0)] ∧ Nm st a d.lm ∧ d = .mk d.kd d.ng d.lm d.tr d.tx [] [] := by
  obtain ⟨k, g, a, l, b, s, rfl, rfl, ha⟩ := h
  exact ⟨a, rfl, ha, rfl⟩
/-- Its cells. -/
theorem DA0.dc {st : St} {c : List AV} {d : Dt} (h : DA0 st (.agg c) d) : DC st c d := by
  obtain ⟨c', h1, h2⟩ := h.da
  cases h1
  exact h2
theorem DS.own {T : St} {r : Nat} {cs : List AV} {ds : List Dt} (h : At T r cs) (hl : DL T cs ds) : DS T (.own r 0 ds.length 7) ds := by
  refine .mk (cs := cs) ?_ hl
  rw [sl_own_eq, if_pos rfl, h.get]
  have : List.take (ds.length * 7) cs = cs := List.take_of_length_le (by rw [hl.len]; exact Nat.le_refl _)
  simp [this, hl.len]
end Go.Proofs.Pv
