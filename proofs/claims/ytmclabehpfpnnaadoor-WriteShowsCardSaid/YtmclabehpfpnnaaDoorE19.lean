/- The engine's seventeenth part: from a contract to a call. -/
import Derived.Test.YtmclabehpfpnnaaDoorE14
import Derived.ChangeShapes
import Derived.OpenShut
import Derived.Test.YtmclabehpfpnnaaDoorE16
import Derived.Test.YtmclabehpfpnnaaDoorM7
set_option linter.unusedSimpArgs false
set_option linter.unusedVariables false
namespace Go.Proofs.Pv
open Go Go.RowKit

theorem inv_start (P : Program) (w : World) : Inv ⟨P, w, w, [], [], [], []⟩ [] [] w where
  b0 := Below.refl _ _
  b1 := Below.refl _ _
  len := rfl
  stp := ⟨[], rfl⟩
  bep := ⟨[], rfl⟩
  nw := fun r b m _ h => by simp at h
  ow := fun r b m h => by simp at h
  obj := fun r cs h => by simp at h
  inj := fun r r' cs cs' b m m' h => by simp at h
  gh := fun r S G h => by simp at h
  gi := fun r r' S S' G G' h => by simp at h
  gm := fun r S G h => by simp at h
  mks := fun D h => by simp at h
  nd := by simp

/-- A slice of numbers that came in. -/
def IsRow (w : World) (a : Option Addr) (len cap : Nat) (zs : List Int) : Prop :=
  (a = none ∧ len = 0 ∧ cap = 0 ∧ zs = []) ∨
  ∃ x, a = some x ∧ len ≤ cap ∧ cap ≤ maxLen ∧ zs.length = cap ∧ (∀ i, i < zs.length → w.cell? (x.add i) = some (.int .u32 (zs.getD i 0))) ∧ ∀ n ∈ zs, (Lit.int .u32 n).wf = true

theorem wf_u32 {n : Int} (h : (Lit.int .u32 n).wf = true) : 0 ≤ n ∧ n < 4294967296 := by
  have := bounds_u32 h
  omega

theorem row_rel {w : World} {a : Option Addr} {len cap : Nat} {zs : List Int} (h : IsRow w a len cap zs) : ∃ l, VRel w [] (.slice a len cap) (.im l.length (u32s l)) ∧ Nm [] (.im l.length (u32s l)) l := by
  rcases h with ⟨rfl, rfl, rfl, rfl⟩ | ⟨x, rfl, hl, hm, hz, hc, hw⟩
  · exact ⟨[], .im (fun _ => undef) (by simp) (by simp) (by simp [u32s]) (by simp [u32s]), Nm.im (by simp)⟩
  · have hlen : ((zs.take len).map Int.toNat).length = len := by simp; omega
    refine ⟨(zs.take len).map Int.toNat, ?_, Nm.im ?_⟩
    · rw [hlen]
      refine .im (fun j => .int .u32 (zs.getD j 0)) ?_ hl ?_ ?_
      · have : maxLen ≤ 9223372036854775807 := by decide
        omega
      · intro j hj
        rw [u32s_length, hlen] at hj
        exact ⟨x, rfl, hc j (by omega)⟩
      · intro j y hy
        have hj := (List.getElem?_eq_some_iff.1 hy).1
        rw [u32s_length, hlen] at hj
        have hjz : j < zs.length := by omega
        have hw1 := wf_u32 (hw zs[j] (List.getElem_mem _))
        simp only [u32s, List.getElem?_map, List.getElem?_take, hj, if_true, List.getElem?_eq_getElem hjz, Option.map_some, Option.some.injEq] at hy
        subst hy
        rw [List.getD_eq_getElem?_getD, List.getElem?_eq_getElem hjz, Option.getD_some, Int.toNat_of_nonneg hw1.1]
        exact .val _
    · intro n hn
      obtain ⟨m, hm2, rfl⟩ := List.mem_map.1 hn
      have := wf_u32 (hw m (List.mem_of_mem_take hm2))
      omega

theorem VRels.nil {w : World} : VRels w [] #[] [] := ⟨rfl, fun j v x hv => by simp at hv⟩
theorem VRels.cons {w : World} {v : Value} {x : AV} {vs : List Value} {xs : List AV} (h : VRel w [] v x) (hs : VRels w [] vs.toArray xs) : VRels w [] (v :: vs).toArray (x :: xs) := by
  refine ⟨by simpa using hs.1, fun j u y hu hy => ?_⟩
  cases j with
  | zero => simp at hu hy; subst hu hy; exact h
  | succ j => exact hs.2 j u y (by simpa using hu) (by simpa using hy)
end Go.Proofs.Pv

/- The engine's eighteenth part: whole numbers as they are handed about. -/
namespace Go.Proofs.Pv
open Go Go.RowKit

section
variable {st st' st2 : St} {x a : AV} {l : List Nat} {neg : Bool} {z : Int} {K : AV → St → Prop}
/-- Variables are made first and written to last: what was told in between is there. -/
theorem Got.fin {v : Nat} {pre g pre' : St} (h : Got (st ++ pre) (st ++ pre ++ g) x v) (hl : pre'.length = pre.length) : Got st (st ++ (pre' ++ g)) x v := by
  obtain ⟨y, i, rest, h1, rfl, hy, hr⟩ := h
  have hg : g = y := List.append_cancel_left h1
  subst hg
  exact ⟨pre' ++ g, pre.length + i, rest, rfl, by simp [Nat.add_assoc], by rw [← hl, get_app]; exact hy, hr⟩
/-- A whole number that was told: as it must be, in a new row. -/
def GotI (st st' : St) (x : AV) (z : Int) : Prop := ∃ a, x = .agg [.val (.bool (decide (z < 0))), a] ∧ Got st st' a z.natAbs
def gotI (st : St) (z : Int) (K : AV → St → Prop) : Prop := ∀ x st', GotI st st' x z → K x st'
theorem GotI.ex (h : GotI st st' x z) : Ext st st' := by obtain ⟨a, _, h⟩ := h; exact h.ex
theorem GotI.ext (h : GotI st st' x z) (e : Ext st' st2) : GotI st st2 x z := by obtain ⟨a, h1, h⟩ := h; exact ⟨a, h1, h.ext e⟩
theorem GotI.pre (e : Ext st st') (h : GotI st' st2 x z) : GotI st st2 x z := by obtain ⟨a, h1, h⟩ := h; exact ⟨a, h1, h.pre e⟩
theorem GotI.fin {pre g pre' : St} (h : GotI (st ++ pre) (st ++ pre ++ g) x z) (hl : pre'.length = pre.length) : GotI st (st ++ (pre' ++ g)) x z := by obtain ⟨a, h1, h⟩ := h; exact ⟨a, h1, h.fin hl⟩
/-- A whole number: a sign and limbs. -/
def Wh (st : St) (x : AV) (neg : Bool) (l : List Nat) : Prop := ∃ a, x = .agg [.val (.bool neg), a] ∧ Nm st a l
theorem Wh.ext (h : Wh st x neg l) (e : Ext st st') : Wh st' x neg l := by obtain ⟨a, h1, h⟩ := h; exact ⟨a, h1, h.ext e⟩
theorem GotI.wh (h : GotI st st' x z) : Wh st' x (decide (z < 0)) (limbs z.natAbs) := by obtain ⟨a, h1, h⟩ := h; exact ⟨a, h1, h.nm⟩
theorem iv_limbs (z : Int) : iv (decide (z < 0)) (val (limbs z.natAbs)) = z := by rw [val_limbs, iv_self]
theorem limbs_pos_len {v : Nat} : 0 < (limbs v).length ↔ 0 < v := by
  constructor
  · intro h
    rcases Nat.eq_zero_or_pos v with h0 | h0
    · subst h0; rw [limbs_zero] at h; simp at h
    · exact h0
  · intro h; rw [limbs_pos (by omega)]; simp
/-- Made just now: a sign, and a row that was told. -/
theorem GotI.mk {b : Bool} {v : Nat} (h : Got st st' a v) (hz : z = iv b v) (hb : b = true → 0 < v) : GotI st st' (.agg [.val (.bool b), a]) z := by
  subst hz
  refine ⟨a, ?_, by rw [iv_natAbs]; exact h⟩
  rw [iv_neg]
  cases b
  · simp
  · simp [hb rfl]
theorem wrap64 (n : Int) : IntKind.u64.wrap n = n % 18446744073709551616 := by simp [IntKind.wrap, IntKind.bits, IntKind.signed]
/-- A row of two numbers. -/
theorem Nm.two {T : St} {r : Nat} {i j : Int} {v w : Nat} (h : T[r]? = some (some (AV.val (Value.int IntKind.u32 i) :: AV.val (Value.int IntKind.u32 j) :: u32s (List.drop 1 (List.drop 1 (List.replicate 2 0)))))) (hi : i = (v : Int)) (hj : j = (w : Int)) (hv : v < 4294967296) (hw : w < 4294967296) : Nm T (.own r 0 2 1) [v, w] := by
  subst hi; subst hj
  exact Nm.own (l := [v, w]) (rest := []) (by rw [h]; rfl) (by intro z hz; simp at hz; rcases hz with rfl | rfl <;> assumption)
/-- What an object holds. -/
structure At (T : St) (r : Nat) (c : List AV) : Prop where
  get : T[r]? = some (some c)
theorem At.lt {T : St} {r : Nat} {c : List AV} (h : At T r c) : r < T.length := (List.getElem?_eq_some_iff.1 h.get).1
theorem At.gr {T : St} {r : Nat} {c : List AV} (h : At T r c) (y : St) : (T ++ y)[r]? = some (some c) := by rw [List.getElem?_append_left h.lt]; exact h.get
theorem At.ext {T T' : St} {r : Nat} {c : List AV} (h : At T r c) (e : Ext T T') : At T' r c := by obtain ⟨y, rfl⟩ := e; exact ⟨h.gr y⟩
theorem Ext.set {S : St} {r : Nat} (e : Ext st S) (hr : st.length ≤ r) (b : Option (List AV)) : Ext st (S.set r b) := by
  obtain ⟨y, rfl⟩ := e
  rw [List.set_append_right _ _ hr]
  exact ⟨_, rfl⟩
theorem Got.put {S T : St} {v r : Nat} (h : Got S T x v) (hr : r < S.length) (b : Option (List AV)) : Got (S.set r b) (T.set r b) x v := by
  obtain ⟨y, i, rest, rfl, rfl, hy, hp⟩ := h
  exact ⟨y, i, rest, by rw [List.set_append_left _ _ hr], by rw [List.length_set], hy, hp⟩
theorem GotI.put {S T : St} {r : Nat} (h : GotI S T x z) (hr : r < S.length) (b : Option (List AV)) : GotI (S.set r b) (T.set r b) x z := by obtain ⟨a, h1, h⟩ := h; exact ⟨a, h1, h.put hr b⟩
/-- What was told, behind a store to an elder variable. -/
theorem GotI.end1 {S T : St} {r : Nat} {b : Option (List AV)} (h : GotI S T x z) (e : Ext st S) (hr : st.length ≤ r) (hr2 : r < S.length) : GotI st (T.set r b) x z := (h.put hr2 b).pre (e.set hr b)
/-- Any whole number is a sign and a size. -/
theorem Wh.iv (h : Wh st x neg l) : ∃ a, x = .agg [.val (.bool neg), a] ∧ Nm st a l ∧ leaf a = true := by obtain ⟨a, h1, h2⟩ := h; exact ⟨a, h1, h2, h2.leaf⟩
end
end Go.Proofs.Pv

/- The engine's nineteenth part: whole numbers that came in. -/
namespace Go.Proofs.Pv
open Go Go.RowKit

end Go.Proofs.Pv
