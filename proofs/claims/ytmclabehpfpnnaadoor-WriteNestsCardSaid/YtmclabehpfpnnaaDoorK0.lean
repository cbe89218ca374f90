/- Data as trees: how many, how deep, when two are alike. -/
import Derived.Test.YtmclabehpfpnnaaDoorM7
import Derived.Test.YtmclabehpfpnnaaDoorE19
import Derived.Test.YtmclabehpfpnnaaDoorT1
import Derived.Test.YtmclabehpfpnnaaDoorW14
import Derived.Test.YtmclabehpfpnnaaDoorQ2
import Derived.Test.YtmclabehpfpnnaaDoorQ6
set_option linter.unusedSimpArgs false
set_option linter.unusedVariables false
namespace Go.Proofs.Pv
open Go Go.RowKit

/-- A datum: its kind, its number, its truth, its text, its items, its tail. -/
inductive Dt where
  | mk (k : Int) (g : Bool) (l : List Nat) (b : Bool) (s : ByteArray) (its tls : List Dt)

mutual
def Dt.sz : Dt → Nat
  | .mk _ _ _ _ _ its tls => 1 + szs its + szs tls
def szs : List Dt → Nat
  | [] => 0
  | d :: ds => d.sz + szs ds
end
mutual
def Dt.dp : Dt → Nat
  | .mk _ _ _ _ _ its tls => 1 + max (dps its) (dps tls)
def dps : List Dt → Nat
  | [] => 0
  | d :: ds => max d.dp (dps ds)
end
/-- What is left of some, behind a datum. -/
def bg (d : Dt) (n m : Nat) : Int := if d.sz ≤ n ∧ d.dp ≤ m then ((n - d.sz : Nat) : Int) else -1

section
variable {d : Dt} {ds es : List Dt} {i n m : Nat}
theorem sz_pos (d : Dt) : 0 < d.sz := by cases d; simp only [Dt.sz]; omega
theorem dp_pos (d : Dt) : 0 < d.dp := by cases d; simp only [Dt.dp]; omega
theorem szs_app : szs (ds ++ es) = szs ds + szs es := by
  induction ds with
  | nil => simp [szs]
  | cons d ds ih => simp only [List.cons_append, szs, ih]; omega
theorem dps_app : dps (ds ++ es) = max (dps ds) (dps es) := by
  induction ds with
  | nil => simp [dps]
  | cons d ds ih => simp only [List.cons_append, dps, ih]; omega
theorem szs_mem (h : d ∈ ds) : d.sz ≤ szs ds := by
  induction ds with
  | nil => cases h
  | cons e ds ih =>
    simp only [szs]
    rcases List.mem_cons.1 h with rfl | h
    · omega
    · have := ih h; omega
theorem dps_mem (h : d ∈ ds) : d.dp ≤ dps ds := by
  induction ds with
  | nil => cases h
  | cons e ds ih =>
    simp only [dps]
    rcases List.mem_cons.1 h with rfl | h
    · omega
    · have := ih h; omega
theorem take_succ' {α : Type} {l : List α} {x : α} {i : Nat} (h : l[i]? = some x) : l.take (i + 1) = l.take i ++ [x] := by
  rw [List.take_add_one, h]; rfl
theorem szs_take (h : ds[i]? = some d) : szs (ds.take (i + 1)) = szs (ds.take i) + d.sz := by
  rw [take_succ' h, szs_app]; simp [szs]
theorem dps_take (h : ds[i]? = some d) : dps (ds.take (i + 1)) = max (dps (ds.take i)) d.dp := by
  rw [take_succ' h, dps_app]; simp [dps]
theorem szs_take_le : szs (ds.take i) ≤ szs ds := by
  have h := szs_app (ds := ds.take i) (es := ds.drop i)
  rw [List.take_append_drop] at h; omega
theorem szs_len : ds.length ≤ szs ds := by
  induction ds with
  | nil => simp [szs]
  | cons d ds ih => have := sz_pos d; simp only [List.length_cons, szs]; omega
theorem bg_neg : bg d n m < 0 ↔ ¬(d.sz ≤ n ∧ d.dp ≤ m) := by
  unfold bg
  split
  · rename_i h; exact ⟨fun h2 => by omega, fun h2 => absurd h h2⟩
  · rename_i h; exact ⟨fun _ => h, fun _ => by omega⟩
theorem bg_pos (h : d.sz ≤ n ∧ d.dp ≤ m) : bg d n m = ((n - d.sz : Nat) : Int) := if_pos h
theorem bg_none (h : ¬(d.sz ≤ n ∧ d.dp ≤ m)) : bg d n m = -1 := if_neg h
end

/-- The same of a list. -/
def bgs (ds : List Dt) (n m : Nat) : Int := if szs ds ≤ n ∧ dps ds ≤ m then ((n - szs ds : Nat) : Int) else -1
theorem sz_mk {k : Int} {g : Bool} {l : List Nat} {b : Bool} {s : ByteArray} {its tls : List Dt} : (Dt.mk k g l b s its tls).sz = 1 + szs its + szs tls := by simp only [Dt.sz]
theorem dp_mk {k : Int} {g : Bool} {l : List Nat} {b : Bool} {s : ByteArray} {its tls : List Dt} : (Dt.mk k g l b s its tls).dp = 1 + max (dps its) (dps tls) := by simp only [Dt.dp]
theorem bg_mk {k : Int} {g : Bool} {l : List Nat} {b : Bool} {s : ByteArray} {its tls : List Dt} {n m : Nat} : bg (.mk k g l b s its tls) (n + 1) (m + 1) = bgs (its ++ tls) n m := by
  unfold bg bgs
  rw [szs_app, dps_app, sz_mk, dp_mk]
  by_cases hc : szs its + szs tls ≤ n ∧ max (dps its) (dps tls) ≤ m
  · have h1 : 1 + szs its + szs tls ≤ n + 1 ∧ 1 + max (dps its) (dps tls) ≤ m + 1 := by omega
    rw [if_pos h1, if_pos hc]; congr 1; omega
  · have h1 : ¬(1 + szs its + szs tls ≤ n + 1 ∧ 1 + max (dps its) (dps tls) ≤ m + 1) := by omega
    rw [if_neg h1, if_neg hc]
/-- The first j of two lists. -/
def pre2 (a b : List Dt) : Nat → List Dt
  | 0 => []
  | 1 => a
  | _ => a ++ b
theorem pre2_le (a b : List Dt) (j : Nat) : szs (pre2 a b j) ≤ szs (a ++ b) ∧ dps (pre2 a b j) ≤ dps (a ++ b) := by
  rw [szs_app, dps_app]
  match j with
  | 0 => simp [pre2, szs, dps]
  | 1 => simp only [pre2]; omega
  | j + 2 => simp only [pre2]; rw [szs_app, dps_app]; exact ⟨Nat.le_refl _, Nat.le_refl _⟩
theorem pre2_end (a b : List Dt) {j : Nat} (h : ¬j < 2) : pre2 a b j = a ++ b := by
  match j with
  | 0 => omega
  | 1 => omega
  | j + 2 => rfl
theorem pre2_step (a b : List Dt) {α : Type} (x y : α) {j : Nat} (h : j < 2) : ∃ z ds, [x, y][j]? = some z ∧ (z = x ∧ ds = a ∨ z = y ∧ ds = b) ∧ pre2 a b (j + 1) = pre2 a b j ++ ds := by
  match j, h with
  | 0, _ => exact ⟨x, a, rfl, .inl ⟨rfl, rfl⟩, rfl⟩
  | 1, _ => exact ⟨y, b, rfl, .inr ⟨rfl, rfl⟩, rfl⟩
/- Two data that are alike: the numbers by what they are. -/
mutual
def sm : Dt → Dt → Bool
  | .mk k g l b s its tls, .mk k' g' l' b' s' its' tls' => decide (k = k') && decide (iv g (val l) = iv g' (val l')) && (b == b') && decide (s = s') && sms its its' && sms tls tls'
def sms : List Dt → List Dt → Bool
  | [], [] => true
  | d :: ds, e :: es => sm d e && sms ds es
  | _, _ => false
end
mutual
theorem sm_comm : ∀ d e : Dt, sm d e = sm e d
  | .mk k g l b s its tls, .mk k' g' l' b' s' its' tls' => by
    simp only [sm]
    rw [sms_comm its its', sms_comm tls tls', show decide (k = k') = decide (k' = k) by rw [decide_eq_decide]; exact eq_comm, show decide (iv g (val l) = iv g' (val l')) = decide (iv g' (val l') = iv g (val l)) by rw [decide_eq_decide]; exact eq_comm, show (b == b') = (b' == b) by cases b <;> cases b' <;> rfl, show decide (s = s') = decide (s' = s) by rw [decide_eq_decide]; exact eq_comm]
theorem sms_comm : ∀ ds es : List Dt, sms ds es = sms es ds
  | [], [] => rfl
  | [], _ :: _ => rfl
  | _ :: _, [] => rfl
  | d :: ds, e :: es => by simp only [sms]; rw [sm_comm d e, sms_comm ds es]
end
/- Data whose numbers a machine may hold. -/
mutual
def Dt.fit : Dt → Prop
  | .mk _ _ l _ _ its tls => l.length ≤ 35184372088832 ∧ fits its ∧ fits tls
def fits : List Dt → Prop
  | [] => True
  | d :: ds => d.fit ∧ fits ds
end
theorem fit_mk {k : Int} {g : Bool} {l : List Nat} {b : Bool} {s : ByteArray} {its tls : List Dt} : (Dt.mk k g l b s its tls).fit = (l.length ≤ 35184372088832 ∧ fits its ∧ fits tls) := by simp only [Dt.fit]
theorem fits_mem {d : Dt} {ds : List Dt} (h : fits ds) (hd : d ∈ ds) : d.fit := by
  induction ds with
  | nil => cases hd
  | cons e ds ih =>
    simp only [fits] at h
    rcases List.mem_cons.1 hd with rfl | hd
    · exact h.1
    · exact ih h.2 hd
theorem fits_all {ds : List Dt} (h : ∀ d ∈ ds, d.fit) : fits ds := by
  induction ds with
  | nil => simp [fits]
  | cons e ds ih => simp only [fits]; exact ⟨h e (by simp), ih fun d hd => h d (by simp [hd])⟩
theorem sm_mk {k k' : Int} {g g' : Bool} {l l' : List Nat} {b b' : Bool} {s s' : ByteArray} {its tls its' tls' : List Dt} : sm (.mk k g l b s its tls) (.mk k' g' l' b' s' its' tls') = (decide (k = k') && decide (iv g (val l) = iv g' (val l')) && (b == b') && decide (s = s') && sms its its' && sms tls tls') := by simp only [sm]
def Dt.kd : Dt → Int | .mk k _ _ _ _ _ _ => k
def Dt.ng : Dt → Bool | .mk _ g _ _ _ _ _ => g
def Dt.lm : Dt → List Nat | .mk _ _ l _ _ _ _ => l
def Dt.tr : Dt → Bool | .mk _ _ _ b _ _ _ => b
def Dt.tx : Dt → ByteArray | .mk _ _ _ _ s _ _ => s
def Dt.its : Dt → List Dt | .mk _ _ _ _ _ i _ => i
def Dt.tls : Dt → List Dt | .mk _ _ _ _ _ _ t => t
/-- Its number. -/
def Dt.iv (d : Dt) : Int := Pv.iv d.ng (val d.lm)
/-- Truths, numbers, texts, nothing. -/
def dBool (b : Bool) : Dt := .mk 2 false [] b ⟨#[]⟩ [] []
def dNum (z : Int) : Dt := .mk 1 (decide (z < 0)) (limbs z.natAbs) false ⟨#[]⟩ [] []
def dStr (s : ByteArray) : Dt := .mk 4 false [] false s [] []
def dNil : Dt := .mk 0 false [] false ⟨#[]⟩ [] []
/-- Are two atoms one? -/
def eqM (d e : Dt) : Bool := decide (d.kd = e.kd) && (decide (d.kd = 0) || (decide (d.kd = 5) && decide (d.its.length = 0) && decide (e.its.length = 0)) || ((decide (d.kd = 1) || decide (d.kd = 2) || decide (d.kd = 3)) && sm d e))
/-- Is it anything but the false one? -/
def trM (d : Dt) : Bool := decide (d.kd ≠ 2) || d.tr
/-- Not more data, nor deeper, than are looked at. -/
def Dt.few (d : Dt) : Prop := d.sz ≤ 100000 ∧ d.dp ≤ 10000
mutual
theorem sm_self : ∀ d : Dt, sm d d = true
  | .mk k g l b s its tls => by rw [sm_mk, sms_self its, sms_self tls]; simp
theorem sms_self : ∀ ds : List Dt, sms ds ds = true
  | [] => rfl
  | d :: ds => by simp only [sms]; rw [sm_self d, sms_self ds]; rfl
end
end Go.Proofs.Pv

/- The engine's twentieth part: data as trees in the store. -/
namespace Go.Proofs.Pv
open Go Go.RowKit

/- A datum's seven cells; a slice of data; data's cells one behind the other. -/
mutual
inductive DC (st : St) : List AV → Dt → Prop
  | mk {k : Int} {g : Bool} {a : AV} {l : List Nat} {b : Bool} {s : ByteArray} {x y : AV} {its tls : List Dt} : Nm st a l → DS st x its → DS st y tls → DC st [.val (.int .i64 k), .val (.bool g), a, .val (.bool b), .val (.string s), x, y] (.mk k g l b s its tls)
inductive DS (st : St) : AV → List Dt → Prop
  | mk {x : AV} {cs : List AV} {ds : List Dt} : sl 7 st x = some (ds.length, cs) → DL st cs ds → DS st x ds
inductive DL (st : St) : List AV → List Dt → Prop
  | nil : DL st [] []
  | cons {c cs : List AV} {d : Dt} {ds : List Dt} : DC st c d → DL st cs ds → DL st (c ++ cs) (d :: ds)
end

section
variable {st st' : St}
mutual
theorem DC.ext (e : Ext st st') {c : List AV} {d : Dt} : DC st c d → DC st' c d
  | .mk ha hx hy => .mk (ha.ext e) (hx.ext e) (hy.ext e)
theorem DS.ext (e : Ext st st') {x : AV} {ds : List Dt} : DS st x ds → DS st' x ds
  | .mk hs hd => .mk (by obtain ⟨y, rfl⟩ := e; exact sl_grow hs y) (hd.ext e)
theorem DL.ext (e : Ext st st') {cs : List AV} {ds : List Dt} : DL st cs ds → DL st' cs ds
  | .nil => .nil
  | .cons hc hd => .cons (hc.ext e) (hd.ext e)
end
theorem DC.len {c : List AV} {d : Dt} (h : DC st c d) : c.length = 7 := by cases h; rfl
theorem DL.len {cs : List AV} {ds : List Dt} (h : DL st cs ds) : cs.length = ds.length * 7 := by
  induction ds generalizing cs with
  | nil => cases h; rfl
  | cons d ds ih =>
    cases h with
    | cons hc hd => rw [List.length_append, hc.len, ih hd]; simp; omega
theorem DS.leaf {x : AV} {ds : List Dt} (h : DS st x ds) : leaf x = true := by cases h with | mk hs _ => exact sl_leaf hs
theorem DL.get {cs : List AV} {ds : List Dt} (h : DL st cs ds) : ∀ {i : Nat} {d : Dt}, ds[i]? = some d → DC st ((cs.drop (i * 7)).take 7) d := by
  induction ds generalizing cs with
  | nil => intro i d hd; simp at hd
  | cons e ds ih =>
    intro i d hd
    cases h with
    | @cons c cs _ _ hc hl =>
      cases i with
      | zero => simp at hd; subst hd; simp only [Nat.zero_mul, List.drop_zero]; rw [← hc.len, List.take_left]; exact hc
      | succ i =>
        have := ih hl (i := i) (d := d) (by simpa using hd)
        rw [show (i + 1) * 7 = c.length + i * 7 by rw [hc.len]; omega, List.drop_append]
        rw [List.drop_eq_nil_of_le (by omega), List.nil_append, show c.length + i * 7 - c.length = i * 7 by omega]
        exact this
theorem DL.app {cs cs' : List AV} {ds ds' : List Dt} (h : DL st cs ds) (h' : DL st cs' ds') : DL st (cs ++ cs') (ds ++ ds') := by
  induction ds generalizing cs with
  | nil => cases h; exact h'
  | cons d ds ih =>
    cases h with
    | cons hc hl => rw [List.append_assoc]; exact .cons hc (ih hl)
theorem DL.one {c : List AV} {d : Dt} (h : DC st c d) : DL st c [d] := by
  have := DL.cons h .nil
  rwa [List.append_nil] at this
theorem DC.all {c : List AV} {d : Dt} (h : DC st c d) : c.all Pv.leaf = true := by
  cases h with
  | mk ha hx hy => simp only [List.all_cons, List.all_nil, leaf_int, leaf_bool, leaf_str, ha.leaf, hx.leaf, hy.leaf, Bool.and_self]
theorem DL.all {cs : List AV} {ds : List Dt} (h : DL st cs ds) : cs.all Pv.leaf = true := by
  induction ds generalizing cs with
  | nil => cases h; rfl
  | cons d ds ih =>
    cases h with
    | cons hc hl => rw [List.all_append, hc.all, ih hl]; rfl
/-- A datum as a value. -/
def DA (st : St) (x : AV) (d : Dt) : Prop := ∃ c, x = .agg c ∧ DC st c d
theorem DA.ext {x : AV} {d : Dt} (h : DA st x d) (e : Ext st st') : DA st' x d := by obtain ⟨c, h1, h2⟩ := h; exact ⟨c, h1, h2.ext e⟩
theorem DS.nil : DS st (.val (.slice none 0 0)) [] := .mk (cs := []) rfl .nil
end

section
variable {X : Cx} {k : List Fr} {Q : Post} {s : Sl} {st : St} {d : Bool} {full rest : List Oper} {dst : Option Nat}
/-- A table's i-th. -/
theorem F_idx {u} {n z1 : Nat} {z : List Value} {cs : List AV} {kk : IntKind} {j : Int} {i : Nat} {x : AV} (h : cs[i]? = some x) (hj : j = (i : Int)) (hi : i < n) (hk : O d X full rest k Q () (putS dst x s) st) : F d X dst full rest k Q u s st (.index (.arr n 1 z1 false z) (.agg cs) (.val (.int kk j))) := by
  subst hj
  refine ⟨by omega, by omega, ?_⟩
  unfold partA
  rw [if_neg (by simp), Int.toNat_natCast, Nat.mul_one, h]
  exact hk
end
/-- A datum's parts, cell by cell. -/
theorem DA.mk' {st : St} {k : Int} {g : Bool} {a : AV} {l : List Nat} {b : Bool} {s : ByteArray} {x y : AV} {its tls : List Dt} (ha : Nm st a l) (hx : DS st x its) (hy : DS st y tls) : DA st (.agg [.val (.int .i64 k), .val (.bool g), a, .val (.bool b), .val (.string s), x, y]) (.mk k g l b s its tls) := ⟨_, rfl, .mk ha hx hy⟩
theorem DA.inv {st : St} {v : AV} {d : Dt} (h : DA st v d) : ∃ k g a l b s x y its tls, v = .agg [.val (.int .i64 k), .val (.bool g), a, .val (.bool b), .val (.string s), x, y] ∧ d = .mk k g l b s its tls ∧ Nm st a l ∧ DS st x its ∧ DS st y tls := by
  obtain ⟨c, rfl, h⟩ := h
  cases h with
  | mk ha hx hy => exact ⟨_, _, _, _, _, _, _, _, _, _, rfl, rfl, ha, hx, hy⟩
theorem DS.inv {st : St} {x : AV} {ds : List Dt} (h : DS st x ds) : ∃ cs, sl 7 st x = some (ds.length, cs) ∧ DL st cs ds ∧ cs.length = ds.length * 7 := by
  cases h with
  | mk hs hl => exact ⟨_, hs, hl, hl.len⟩
/-- A datum's zero cells, once a whole one has been stored there. -/
theorem zD_drop : List.drop 7 (List.map AV.val zeroD) = [] := rfl
theorem zD_len : (List.map AV.val zeroD).length = 7 := rfl
theorem zD_map : List.map AV.val zeroD = [.val (.int .i64 0), .val (.bool false), .val (.slice none 0 0), .val (.bool false), .val (.string ⟨#[]⟩), .val (.slice none 0 0), .val (.slice none 0 0)] := rfl
theorem take7 {c r : List AV} (h : c.length = 7) : List.take 7 (c ++ r) = c := by rw [← h]; exact List.take_left
/-- The i-th of a slice of data. -/
theorem DS.at {st : St} {x : AV} {ds : List Dt} {i : Nat} (h : DS st x ds) (hi : i < ds.length) : ∃ cs c e, sl 7 st x = some (ds.length, cs) ∧ cs.length = ds.length * 7 ∧ List.take 7 (List.drop (i * 7) cs) = c ∧ c.length = 7 ∧ c.all Pv.leaf = true ∧ ds[i]? = some e ∧ DC st c e ∧ i * 7 < ds.length * 7 ∧ i * 7 + 7 ≤ ds.length * 7 := by
  obtain ⟨cs, h1, h2, h3⟩ := h.inv
  have he := List.getElem?_eq_getElem hi
  have hc := h2.get he
  exact ⟨cs, _, _, h1, h3, rfl, hc.len, hc.all, he, hc, by omega, by omega⟩
/-- A datum without data in it, as it is told. -/
def DA0 (st : St) (x : AV) (d : Dt) : Prop := ∃ k g a l b s, x = .agg [.val (.int .i64 k), .val (.bool g), a, .val (.bool b), .val (.string s), .val (.slice none 0 0), .val (.slice none 0 0)] ∧ d = .mk k g l b s [] [] ∧ Nm st a l
theorem DA0.da {st : St} {x : AV} {d : Dt} (h : DA0 st x d) : DA st x d := by
  obtain ⟨k, g, a, l, b, s, rfl, rfl, ha⟩ := h
  exact DA.mk' ha DS.nil DS.nil
theorem DA0.ext {st st' : St} {x : AV} {d : Dt} (h : DA0 st x d) (e : Ext st st') : DA0 st' x d := by
  obtain ⟨k, g, a, l, b, s, rfl, rfl, ha⟩ := h
  exact ⟨k, g, a, l, b, s, rfl, rfl, ha.ext e⟩
theorem DA0.mk {st : St} {k : Int} {g : Bool} {a : AV} {l : List Nat} {b : Bool} {s : ByteArray} (ha : Nm st a l) : DA0 st (.agg [.val (.int .i64 k), .val (.bool g), a, .val (.bool b), .val (.string s), .val (.slice none 0 0), .val (.slice none 0 0)]) (.mk k g l b s [] []) := ⟨k, g, a, l, b, s, rfl, rfl, ha⟩
/-- A datum that is told. -/
def tell (st : St) (d : Dt) (K : AV → St → Prop) : Prop := ∀ x st', Ext st st' → DA0 st' x d → K x st'
/-- A datum and an error's number. -/
def tell2 (st : St) (d : Dt) (e : Int) (K : AV → St → Prop) : Prop := ∀ x st', Ext st st' → DA0 st' x d → K (.tup [x, .val (.int .i64 e)]) st'
theorem DA.all {st : St} {x : AV} {d : Dt} (h : DA st x d) : ∃ c, x = .agg c ∧ DC st c d ∧ c.length = 7 ∧ c.all leaf = true ∧ List.take 7 c = c := by
  obtain ⟨c, h1, h2⟩ := h
  exact ⟨c, h1, h2, h2.len, h2.all, List.take_of_length_le (Nat.le_of_eq h2.len)⟩
theorem At.mk0 {st r : St} {c : List AV} : At (st ++ some c :: r) st.length c := ⟨by rw [get_app0]; rfl⟩
theorem At.mk1 {st r : St} {a : Option (List AV)} {c : List AV} : At (st ++ a :: some c :: r) (st.length + 1) c := ⟨by rw [get_app]; rfl⟩
theorem At.mk2 {st r : St} {a b : Option (List AV)} {c : List AV} : At (st ++ a :: b :: some c :: r) (st.length + 2) c := ⟨by rw [get_app]; rfl⟩
theorem zD7 {a b c d e f g : AV} : List.drop 7 [a, b, c, d, e, f, g] = [] := rfl
theorem DA0.inv {st : St} {x : AV} {d : Dt} (h : DA0 st x d) : ∃ a, x = .agg [.val (.int .i64 d.kd), .val (.bool d.ng), a, .val (.bool d.tr), .val (.string d.tx), .val (.slice none 0 0), .val (.slice none 0 0)] ∧ Nm st a d.lm ∧ d = .mk d.kd d.ng d.lm d.tr d.tx [] [] := by
  obtain ⟨k, g, a, l, b, s, rfl, rfl, ha⟩ := h
  exact ⟨a, rfl, ha, rfl⟩
theorem DS.own {T : St} {r : Nat} {cs : List AV} {ds : List Dt} (h : At T r cs) (hl : DL T cs ds) : DS T (.own r 0 ds.length 7) ds := by
  refine .mk (cs := cs) ?_ hl
  rw [sl_own_eq, if_pos rfl, h.get]
  have : List.take (ds.length * 7) cs = cs := List.take_of_length_le (by rw [hl.len]; exact Nat.le_refl _)
  simp [this, hl.len]
end Go.Proofs.Pv

/- A drawn region by a tree of all orders, whose end is told by a name. -/
namespace Go.Proofs.Pv
open Go Go.RowKit
/-- What is to come by a tree of orders. -/
def RN (X : Cx) (l : List Oper) (k : List Fr) (Q : Post) (b : Bool) (t : Tn) (_ : Tg (X, l, k, Q, b, t)) (s : Sl) (st : St) : Prop := runM X l k Q b t s st
/-- Some one behind the other; true: the only one that may come up. -/
def Tn.seq : List (Nat × Bool) → Tn → Tn
  | [], t => t
  | (i, true) :: l, t => .alt i (Tn.seq l t) .fin
  | (i, false) :: l, t => .take i (Tn.seq l t)
section
variable {X : Cx} {k : List Fr} {Q : Post} {s : Sl} {st : St} {l : List Oper}
theorem V_ordersF {id : Nat} {u} (t : Tn) (h : (soundM l.toArray (ancs l.toArray) && Region.noSelect l.toArray && decide (t.deep ≤ l.toArray.size) && okN l.toArray (ancs l.toArray) false t (start l.toArray)) = true)
    (hO : ∀ F : Sl → St → Prop, (∀ s st, F s st = R X k Q () s st .normal) → RN X l (.lp F :: k) Q false t () s st) : V X (.region id (List.toArray l) true) k Q u s st :=
  V_orders t h (hO (fun s st => R X k Q () s st .normal) fun _ _ => rfl)
theorem RN_fin {F : Sl → St → Prop} {u} : RN X l (.lp F :: k) Q false .fin u s st = F s st := rfl
theorem RN_end {u} : RN X l k Q true .fin u s st := trivial
theorem RN_one {i : Nat} {o : Oper} {t : Tn} (h : l[i]? = some o) : (runM X l k Q false (.take i t) s st = vc1 true X l o s st (runM X l k Q false t)) ∧ ∀ b, runM X l k Q b (.alt i t .fin) s st = vc1 true X l o s st (runM X l k Q false t) := by
  constructor
  · rw [runM_take, h]; rfl
  · intro b; rw [runM_alt, h, runM_fin1, and_true]; rfl
theorem RN_seq {is : List (Nat × Bool)} {js : List Nat} {ops : List Oper} (hj : is.map (·.1) = js) (h : Pk l js ops) (t : Tn) : ∀ (s : Sl) (st : St) {u}, RN X l k Q false (Tn.seq is t) u s st = O true X l ops (.lp (RN X l k Q false t ()) :: k) Q () s st := by
  subst hj
  induction is generalizing ops with
  | nil => cases h; intro s st u; rfl
  | cons q is ih =>
    obtain ⟨i, b⟩ := q
    cases h with
    | cons ho h =>
      rename_i o ops
      intro s st u
      have ih := ih h
      have e : runM X l k Q false (Tn.seq is t) = fun s st => O true X l ops (.lp (RN X l k Q false t ()) :: k) Q () s st := funext fun s => funext fun st => ih s st (u := ())
      cases b
      · exact ((RN_one ho).1.trans (by rw [e]; rfl))
      · exact (((RN_one ho).2 false).trans (by rw [e]; rfl))
theorem RN_alt {b : Bool} {i : Nat} {o : Oper} {is : List (Nat × Bool)} {js : List Nat} {ops : List Oper} {t u : Tn} {v} (hj : is.map (·.1) = js) (h : Pk l (i :: js) (o :: ops)) (h1 : O true X l (o :: ops) (.lp (RN X l k Q false t ()) :: k) Q () s st) (h2 : RN X l k Q true u () s st) : RN X l k Q b (.alt i (Tn.seq is t) u) v s st := by
  cases h with
  | cons ho h =>
    have e : runM X l k Q false (Tn.seq is t) = fun s st => O true X l ops (.lp (RN X l k Q false t ()) :: k) Q () s st := funext fun s => funext fun st => RN_seq hj h t s st (u := ())
    unfold RN
    rw [runM_alt, ho, e]
    exact ⟨h1, h2⟩
end

section
variable {st : St} {x : AV}
end
end Go.Proofs.Pv

/- The whole functions' contracts as numbers. -/
namespace Go.Proofs.Pv
open Go Go.RowKit Go.Proofs
set_option maxRecDepth 20000

/-- A whole number of at most n limbs. -/
def IsZ (st : St) (x : AV) (z : Int) (n : Nat) : Prop := ∃ s l, Wh st x s l ∧ iv s (val l) = z ∧ l.length ≤ n
/-- The same, as it must be. -/
def NZ (st : St) (x : AV) (z : Int) (n : Nat) : Prop := Wh st x (decide (z < 0)) (limbs z.natAbs) ∧ (limbs z.natAbs).length ≤ n
section
variable {st st' : St} {x y : AV} {z w : Int} {n m : Nat}
theorem IsZ.ext (h : IsZ st x z n) (e : Ext st st') : IsZ st' x z n := by obtain ⟨s, l, h1, h2⟩ := h; exact ⟨s, l, h1.ext e, h2⟩
theorem NZ.ext (h : NZ st x z n) (e : Ext st st') : NZ st' x z n := ⟨h.1.ext e, h.2⟩
theorem NZ.toZ (h : NZ st x z n) : IsZ st x z n := ⟨_, _, h.1, iv_limbs z, h.2⟩
theorem IsZ.mk {s : Bool} {l : List Nat} (h : Wh st x s l) (hl : l.length ≤ n) : IsZ st x (iv s (val l)) n := ⟨s, l, h, rfl, hl⟩
theorem IsZ.len (h : IsZ st x z n) : (limbs z.natAbs).length ≤ n := by
  obtain ⟨s, l, ⟨a, _, h1⟩, rfl, h3⟩ := h
  rw [iv_natAbs]
  exact Nat.le_trans (limbs_len h1.lt) h3
theorem NZ.mk (h : GotI st st' x z) (hn : (limbs z.natAbs).length ≤ n) : NZ st' x z n := ⟨h.wh, hn⟩
end

def RzTwo (F : Int → Int → Int) (xs : List AV) (st : St) (K : AV → St → Prop) : Prop := ∃ x y z w n m, xs = [x, y] ∧ IsZ st x z n ∧ IsZ st y w m ∧ n ≤ 1000 ∧ m ≤ 1000 ∧ ∀ v S', Ext st S' → NZ S' v (F z w) (n + m + 1) → K v S'
def RzOne (F : Int → Int) (xs : List AV) (st : St) (K : AV → St → Prop) : Prop := ∃ x z n, xs = [x] ∧ IsZ st x z n ∧ n ≤ 10000 ∧ ∀ v S', Ext st S' → NZ S' v (F z) n → K v S'
def RzCmp (xs : List AV) (st : St) (K : AV → St → Prop) : Prop := ∃ x y z w n m, xs = [x, y] ∧ IsZ st x z n ∧ IsZ st y w m ∧ n ≤ 1000 ∧ m ≤ 1000 ∧ anyw st (.int .i64 (cmpI z w)) K
def RzOf (xs : List AV) (st : St) (K : AV → St → Prop) : Prop := ∃ n : Int, xs = [.val (.int .i64 n)] ∧ -9223372036854775808 ≤ n ∧ n ≤ 9223372036854775807 ∧ ∀ v S', Ext st S' → NZ S' v n 2 → K v S'
def RzSameT (xs : List AV) (st : St) (K : AV → St → Prop) : Prop := ∃ x y z n m, xs = [x, y] ∧ NZ st x z n ∧ NZ st y z m ∧ n ≤ 1000000 ∧ anyw st (.bool true) K
def RzSame (xs : List AV) (st : St) (K : AV → St → Prop) : Prop := ∃ x y z w n m, xs = [x, y] ∧ NZ st x z n ∧ NZ st y w m ∧ n ≤ 1000000 ∧ m ≤ 1000000 ∧ anyw st (.bool (decide (z = w))) K
def RzQuo (FQ FR : Int → Int → Int) (xs : List AV) (st : St) (K : AV → St → Prop) : Prop := ∃ x y z w n m, xs = [x, y] ∧ IsZ st x z n ∧ IsZ st y w m ∧ n ≤ 800 ∧ m ≤ 800 ∧
  (w ≠ 0 → ∀ u v S', Ext st S' → NZ S' u (FQ z w) (n + 2) → NZ S' v (FR z w) m → K (.tup [u, v, .val (.int .i64 0)]) S') ∧
  (w = 0 → ∀ S', Ext st S' → K (.tup [zeroI, zeroI, .val (.int .i64 3)]) S')
def RzText (xs : List AV) (st : St) (K : AV → St → Prop) : Prop := ∃ x z n, xs = [x] ∧ IsZ st x z n ∧ n ≤ 1000 ∧ anyw st (.string (bstr (txtI z))) K
end Go.Proofs.Pv
