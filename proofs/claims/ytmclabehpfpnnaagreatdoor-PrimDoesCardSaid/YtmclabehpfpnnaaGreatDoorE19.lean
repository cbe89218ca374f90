/- The engine's seventeenth part: from a contract to a call. -/
import Derived.Test.YtmclabehpfpnnaaGreatDoorE14
import Derived.ChangeShapes
import Derived.OpenShut
import Derived.Test.YtmclabehpfpnnaaGreatDoorE18
set_option linter.unusedSimpArgs false
set_option linter.unusedVariables false
namespace Go.Proofs.Pv
open Go Go.RowKit

theorem inv_start (P : Program) (w : World) : Inv ⟨P, w, w, [], []⟩ [] [] w where
  b0 := Below.refl _ _
  b1 := Below.refl _ _
  len := rfl
  stp := ⟨[], rfl⟩
  bep := ⟨[], rfl⟩
  nw := fun r b m _ h => by simp at h
  ow := fun r b m h => by simp at h
  obj := fun r cs h => by simp at h
  inj := fun r r' cs cs' b m m' h => by simp at h

/-- A slice of numbers that came in. -/
def IsRow (w : World) (a : Option Addr) (len cap : Nat) (zs : List Int) : Prop :=
  (a = none ∧ len = 0 ∧ cap = 0 ∧ zs = []) ∨
  ∃ x, a = some x ∧ len ≤ cap ∧ cap ≤ maxLen ∧ zs.length = cap ∧ (∀ i, i < zs.length → w.cell? (x.add i) = some (.int .u32 (zs.getD i 0))) ∧ ∀ n ∈ zs, (Lit.int .u32 n).wf = true

theorem wf_u32 {n : Int} (h : (Lit.int .u32 n).wf = true) : 0 ≤ n ∧ n < 4294967296 := by
  have := bounds_u32 h
  omega

theorem row_rel {w : World} {a : Option Addr} {len cap : Nat} {zs : List Int} (h : IsRow w a len cap zs) : ∃ l, VRel w [] (.slice a len cap) (.im l.length (u32s l)) ∧ Nm [] (.im l.length (u32s l)) l := by
  rcases h with ⟨rfl, rfl, rfl, rfl⟩ | ⟨x, rfl, hl, hm, hz, hc, hw⟩
  · exact ⟨[], .im (fun _ => undef) (by simp) (by simp) (by simp [u32s]) (by simp [u32s]), Nm.im (by simp)⟩
  · have hlen : ((zs.take len).map Int.toNat).length = len := by simp; omega
    refine ⟨(zs.take len).map Int.toNat, ?_, Nm.im ?_⟩
    · rw [hlen]
      refine .im (fun j => .int .u32 (zs.getD j 0)) ?_ hl ?_ ?_
      · have : maxLen ≤ 9223372036854775807 := by decide
        omega
      · intro j hj
        rw [u32s_length, hlen] at hj
        exact ⟨x, rfl, hc j (by omega)⟩
      · intro j y hy
        have hj := (List.getElem?_eq_some_iff.1 hy).1
        rw [u32s_length, hlen] at hj
        have hjz : j < zs.length := by omega
        have hw1 := wf_u32 (hw zs[j] (List.getElem_mem _))
        simp only [u32s, List.getElem?_map, List.getElem?_take, hj, if_true, List.getElem?_eq_getElem hjz, Option.map_some, Option.some.injEq] at hy
        subst hy
        rw [List.getD_eq_getElem?_getD, List.getElem?_eq_getElem hjz, Option.getD_some, Int.toNat_of_nonneg hw1.1]
        exact .val _
    · intro n hn
      obtain ⟨m, hm2, rfl⟩ := List.mem_map.1 hn
      have := wf_u32 (hw m (List.mem_of_mem_take hm2))
      omega

theorem VRels.nil {w : World} : VRels w [] #[] [] := ⟨rfl, fun j v x hv => by simp at hv⟩
theorem VRels.cons {w : World} {v : Value} {x : AV} {vs : List Value} {xs : List AV} (h : VRel w [] v x) (hs : VRels w [] vs.toArray xs) : VRels w [] (v :: vs).toArray (x :: xs) := by
  refine ⟨by simpa using hs.1, fun j u y hu hy => ?_⟩
  cases j with
  | zero => simp at hu hy; subst hu hy; exact h
  | succ j => exact hs.2 j u y (by simpa using hu) (by simpa using hy)
end Go.Proofs.Pv

/- The engine's nineteenth part: whole numbers that came in. -/
namespace Go.Proofs.Pv
open Go Go.RowKit

end Go.Proofs.Pv
