/- Data as trees: how many, how deep, when two are alike. -/
import Derived.Test.YtmclabehpfpnnaaGreatDoorM7
set_option linter.unusedSimpArgs false
set_option linter.unusedVariables false
namespace Go.Proofs.Pv
open Go Go.RowKit

/-- A datum: its kind, its number, its truth, its text, its items, its tail. -/
inductive Dt where
  | mk (k : Int) (g : Bool) (l : List Nat) (b : Bool) (s : ByteArray) (its tls : List Dt)

mutual
def Dt.sz : Dt → Nat
  | .mk _ _ _ _ _ its tls => 1 + szs its + szs tls
def szs : List Dt → Nat
  | [] => 0
  | d :: ds => d.sz + szs ds
end
mutual
def Dt.dp : Dt → Nat
  | .mk _ _ _ _ _ its tls => 1 + max (dps its) (dps tls)
def dps : List Dt → Nat
  | [] => 0
  | d :: ds => max d.dp (dps ds)
end
/-- What is left of some, behind a datum. -/
def bg (d : Dt) (n m : Nat) : Int := if d.sz ≤ n ∧ d.dp ≤ m then ((n - d.sz : Nat) : Int) else -1

section
variable {d : Dt} {ds es : List Dt} {i n m : Nat}
theorem sz_pos (d : Dt) : 0 < d.sz := by cases d; simp only [Dt.sz]; omega
theorem szs_app : szs (ds ++ es) = szs ds + szs es := by
  induction ds with
  | nil => simp [szs]
  | cons d ds ih => simp only [List.cons_append, szs, ih]; omega
theorem dps_app : dps (ds ++ es) = max (dps ds) (dps es) := by
  induction ds with
  | nil => simp [dps]
  | cons d ds ih => simp only [List.cons_append, dps, ih]; omega
theorem szs_mem (h : d ∈ ds) : d.sz ≤ szs ds := by
  induction ds with
  | nil => cases h
  | cons e ds ih =>
    simp only [szs]
    rcases List.mem_cons.1 h with rfl | h
    · omega
    · have := ih h; omega
theorem dps_mem (h : d ∈ ds) : d.dp ≤ dps ds := by
  induction ds with
  | nil => cases h
  | cons e ds ih =>
    simp only [dps]
    rcases List.mem_cons.1 h with rfl | h
    · omega
    · have := ih h; omega
theorem take_succ' {α : Type} {l : List α} {x : α} {i : Nat} (h : l[i]? = some x) : l.take (i + 1) = l.take i ++ [x] := by
  rw [List.take_add_one, h]; rfl
theorem szs_take (h : ds[i]? = some d) : szs (ds.take (i + 1)) = szs (ds.take i) + d.sz := by
  rw [take_succ' h, szs_app]; simp [szs]
theorem dps_take (h : ds[i]? = some d) : dps (ds.take (i + 1)) = max (dps (ds.take i)) d.dp := by
  rw [take_succ' h, dps_app]; simp [dps]
theorem szs_take_le : szs (ds.take i) ≤ szs ds := by
  have h := szs_app (ds := ds.take i) (es := ds.drop i)
  rw [List.take_append_drop] at h; omega
theorem szs_len : ds.length ≤ szs ds := by
  induction ds with
  | nil => simp [szs]
  | cons d ds ih => have := sz_pos d; simp only [List.length_cons, szs]; omega
theorem bg_neg : bg d n m < 0 ↔ ¬(d.sz ≤ n ∧ d.dp ≤ m) := by
  unfold bg
  split
  · rename_i h; exact ⟨fun h2 => by omega, fun h2 => absurd h h2⟩
  · rename_i h; exact ⟨fun _ => h, fun _ => by omega⟩
theorem bg_pos (h : d.sz ≤ n ∧ d.dp ≤ m) : bg d n m = ((n - d.sz : Nat) : Int) := if_pos h
theorem bg_none (h : ¬(d.sz ≤ n ∧ d.dp ≤ m)) : bg d n m = -1 := if_neg h
end

/-- The same of a list. -/
def bgs (ds : List Dt) (n m : Nat) : Int := if szs ds ≤ n ∧ dps ds ≤ m then ((n - szs ds : Nat) : Int) else -1
theorem sz_mk {k : Int} {g : Bool} {l : List Nat} {b : Bool} {s : ByteArray} {its tls : List Dt} : (Dt.mk k g l b s its tls).sz = 1 + szs its + szs tls := by simp only [Dt.sz]
theorem dp_mk {k : Int} {g : Bool} {l : List Nat} {b : Bool} {s : ByteArray} {its tls : List Dt} : (Dt.mk k g l b s its tls).dp = 1 + max (dps its) (dps tls) := by simp only [Dt.dp]
theorem bg_mk {k : Int} {g : Bool} {l : List Nat} {b : Bool} {s : ByteArray} {its tls : List Dt} {n m : Nat} : bg (.mk k g l b s its tls) (n + 1) (m + 1) = bgs (its ++ tls) n m := by
  unfold bg bgs
  rw [szs_app, dps_app, sz_mk, dp_mk]
  by_cases hc : szs its + szs tls ≤ n ∧ max (dps its) (dps tls) ≤ m
  · have h1 : 1 + szs its + szs tls ≤ n + 1 ∧ 1 + max (dps its) (dps tls) ≤ m + 1 := by omega
    rw [if_pos h1, if_pos hc]; congr 1; omega
  · have h1 : ¬(1 + szs its + szs tls ≤ n + 1 ∧ 1 + max (dps its) (dps tls) ≤ m + 1) := by omega
    rw [if_neg h1, if_neg hc]
/-- The first j of two lists. -/
def pre2 (a b : List Dt) : Nat → List Dt
  | 0 => []
  | 1 => a
  | _ => a ++ b
theorem pre2_le (a b : List Dt) (j : Nat) : szs (pre2 a b j) ≤ szs (a ++ b) ∧ dps (pre2 a b j) ≤ dps (a ++ b) := by
  rw [szs_app, dps_app]
  match j with
  | 0 => simp [pre2, szs, dps]
  | 1 => simp only [pre2]; omega
  | j + 2 => simp only [pre2]; rw [szs_app, dps_app]; exact ⟨Nat.le_refl _, Nat.le_refl _⟩
theorem pre2_end (a b : List Dt) {j : Nat} (h : ¬j < 2) : pre2 a b j = a ++ b := by
  match j with
  | 0 => omega
  | 1 => omega
  | j + 2 => rfl
theorem pre2_step (a b : List Dt) {α : Type} (x y : α) {j : Nat} (h : j < 2) : ∃ z ds, [x, y][j]? = some z ∧ (z = x ∧ ds = a ∨ z = y ∧ ds = b) ∧ pre2 a b (j + 1) = pre2 a b j ++ ds := by
  match j, h with
  | 0, _ => exact ⟨x, a, rfl, .inl ⟨rfl, rfl⟩, rfl⟩
  | 1, _ => exact ⟨y, b, rfl, .inr ⟨rfl, rfl⟩, rfl⟩
/- Two data that are alike: the numbers by what they are. -/
mutual
def sm : Dt → Dt → Bool
  | .mk k g l b s its tls, .mk k' g' l' b' s' its' tls' => decide (k = k') && decide (iv g (val l) = iv g' (val l')) && (b == b') && decide (s = s') && sms its its' && sms tls tls'
def sms : List Dt → List Dt → Bool
  | [], [] => true
  | d :: ds, e :: es => sm d e && sms ds es
  | _, _ => false
end
theorem sms_len {ds es : List Dt} (h : sms ds es = true) : ds.length = es.length := by
  induction ds generalizing es with
  | nil => cases es <;> simp_all [sms]
  | cons d ds ih =>
    cases es with
    | nil => simp [sms] at h
    | cons e es => simp only [sms, Bool.and_eq_true] at h; simp [ih h.2]
theorem sms_iff {ds es : List Dt} : sms ds es = true ↔ ds.length = es.length ∧ ∀ (i : Nat) d e, ds[i]? = some d → es[i]? = some e → sm d e = true := by
  induction ds generalizing es with
  | nil => cases es <;> simp [sms]
  | cons d ds ih =>
    cases es with
    | nil => simp [sms]
    | cons e es =>
      simp only [sms, Bool.and_eq_true, ih, List.length_cons, Nat.add_right_cancel_iff]
      constructor
      · rintro ⟨h1, h2, h3⟩
        refine ⟨h2, fun i x y hx hy => ?_⟩
        cases i with
        | zero => simp at hx hy; subst hx; subst hy; exact h1
        | succ i => exact h3 i x y (by simpa using hx) (by simpa using hy)
      · rintro ⟨h1, h2⟩
        exact ⟨h2 0 d e rfl rfl, h1, fun i x y hx hy => h2 (i + 1) x y (by simpa using hx) (by simpa using hy)⟩
mutual
theorem sm_comm : ∀ d e : Dt, sm d e = sm e d
  | .mk k g l b s its tls, .mk k' g' l' b' s' its' tls' => by
    simp only [sm]
    rw [sms_comm its its', sms_comm tls tls', show decide (k = k') = decide (k' = k) by rw [decide_eq_decide]; exact eq_comm, show decide (iv g (val l) = iv g' (val l')) = decide (iv g' (val l') = iv g (val l)) by rw [decide_eq_decide]; exact eq_comm, show (b == b') = (b' == b) by cases b <;> cases b' <;> rfl, show decide (s = s') = decide (s' = s) by rw [decide_eq_decide]; exact eq_comm]
theorem sms_comm : ∀ ds es : List Dt, sms ds es = sms es ds
  | [], [] => rfl
  | [], _ :: _ => rfl
  | _ :: _, [] => rfl
  | d :: ds, e :: es => by simp only [sms]; rw [sm_comm d e, sms_comm ds es]
end
/- Data whose numbers a machine may hold. -/
mutual
def Dt.fit : Dt → Prop
  | .mk _ _ l _ _ its tls => l.length ≤ 35184372088832 ∧ fits its ∧ fits tls
def fits : List Dt → Prop
  | [] => True
  | d :: ds => d.fit ∧ fits ds
end
theorem fit_mk {k : Int} {g : Bool} {l : List Nat} {b : Bool} {s : ByteArray} {its tls : List Dt} : (Dt.mk k g l b s its tls).fit = (l.length ≤ 35184372088832 ∧ fits its ∧ fits tls) := by simp only [Dt.fit]
theorem fits_mem {d : Dt} {ds : List Dt} (h : fits ds) (hd : d ∈ ds) : d.fit := by
  induction ds with
  | nil => cases hd
  | cons e ds ih =>
    simp only [fits] at h
    rcases List.mem_cons.1 hd with rfl | hd
    · exact h.1
    · exact ih h.2 hd
theorem fits_all {ds : List Dt} (h : ∀ d ∈ ds, d.fit) : fits ds := by
  induction ds with
  | nil => simp [fits]
  | cons e ds ih => simp only [fits]; exact ⟨h e (by simp), ih fun d hd => h d (by simp [hd])⟩
theorem sm_mk {k k' : Int} {g g' : Bool} {l l' : List Nat} {b b' : Bool} {s s' : ByteArray} {its tls its' tls' : List Dt} : sm (.mk k g l b s its tls) (.mk k' g' l' b' s' its' tls') = (decide (k = k') && decide (iv g (val l) = iv g' (val l')) && (b == b') && decide (s = s') && sms its its' && sms tls tls') := by simp only [sm]
def Dt.kd : Dt → Int | .mk k _ _ _ _ _ _ => k
def Dt.ng : Dt → Bool | .mk _ g _ _ _ _ _ => g
def Dt.lm : Dt → List Nat | .mk _ _ l _ _ _ _ => l
def Dt.tr : Dt → Bool | .mk _ _ _ b _ _ _ => b
def Dt.tx : Dt → ByteArray | .mk _ _ _ _ s _ _ => s
def Dt.its : Dt → List Dt | .mk _ _ _ _ _ i _ => i
def Dt.tls : Dt → List Dt | .mk _ _ _ _ _ _ t => t
/-- Its number. -/
def Dt.iv (d : Dt) : Int := Pv.iv d.ng (val d.lm)
/-- Truths, numbers, texts, nothing. -/
def dBool (b : Bool) : Dt := .mk 2 false [] b ⟨#[]⟩ [] []
def dNum (z : Int) : Dt := .mk 1 (decide (z < 0)) (limbs z.natAbs) false ⟨#[]⟩ [] []
def dStr (s : ByteArray) : Dt := .mk 4 false [] false s [] []
def dNil : Dt := .mk 0 false [] false ⟨#[]⟩ [] []
/-- Are two atoms one? -/
def eqM (d e : Dt) : Bool := decide (d.kd = e.kd) && (decide (d.kd = 0) || (decide (d.kd = 5) && decide (d.its.length = 0) && decide (e.its.length = 0)) || ((decide (d.kd = 1) || decide (d.kd = 2) || decide (d.kd = 3)) && sm d e))
/-- Is it anything but the false one? -/
def trM (d : Dt) : Bool := decide (d.kd ≠ 2) || d.tr
/-- Not more data, nor deeper, than are looked at. -/
def Dt.few (d : Dt) : Prop := d.sz ≤ 100000 ∧ d.dp ≤ 10000
mutual
theorem sm_self : ∀ d : Dt, sm d d = true
  | .mk k g l b s its tls => by rw [sm_mk, sms_self its, sms_self tls]; simp
theorem sms_self : ∀ ds : List Dt, sms ds ds = true
  | [] => rfl
  | d :: ds => by simp only [sms]; rw [sm_self d, sms_self ds]; rfl
end
theorem fit0 {k : Int} {g : Bool} {l : List Nat} {b : Bool} {s : ByteArray} (h : l.length ≤ 35184372088832) : (Dt.mk k g l b s [] []).fit := by
  rw [fit_mk]
  exact ⟨h, by simp [fits], by simp [fits]⟩
theorem few0 {k : Int} {g : Bool} {l : List Nat} {b : Bool} {s : ByteArray} : (Dt.mk k g l b s [] []).few := by
  constructor
  · rw [sz_mk]; simp [szs]
  · rw [dp_mk]; simp [dps]
end Go.Proofs.Pv
