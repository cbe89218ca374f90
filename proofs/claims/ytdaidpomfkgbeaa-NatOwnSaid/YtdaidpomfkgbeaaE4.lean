/- The engine's fourth part: operations that leave the world alone do what was said of them. -/
import Derived.Test.YtdaidpomfkgbeaaE3
set_option linter.unusedSimpArgs false
set_option linter.unusedVariables false
namespace Go.Proofs.Pv
open Go Go.RowKit

section
variable {X : Cx} {N : Nat} {β : Bk} {st : St} {w : World} {s : Sl} {a : Act}

/-- Cells that are there, and stay while the world grows alone. -/
def Readable (w0 : World) (β : Bk) (w : World) (ad : Addr) (cs : List AV) : Prop :=
  ∃ u : Nat → Value, (∀ j, j < cs.length → ∀ w', Below w.heap.size w w' → w'.cell? (ad.add j) = some (u j)) ∧ ∀ j x, cs[j]? = some x → VRel w0 β (u j) x

theorem cell_w0 (hI : Inv X β st w) {p : Addr} {v : Value} (h : X.w0.cell? p = some v) {w' : World} (hb : Below w.heap.size w w') : w'.cell? p = some v := by
  have h1 := World.block_lt_of_cell? X.w0 p h
  have hB : Below X.w0.heap.size X.w0 w' := (hI.b0.trans (hI.b1.mono hI.b0.size)).trans (hb.mono (Nat.le_trans hI.b0.size hI.b1.size))
  rw [hB.cell h1]; exact h

theorem readable_of_imp (hI : Inv X β st w) {ad : Addr} {cs : List AV} (h : VRel X.w0 β (.pointer (some ad)) (.imp cs)) : Readable X.w0 β w ad cs := by
  cases h with
  | imp u hr hv => exact ⟨u, fun j hj w' hb => cell_w0 hI (hr j hj) hb, hv⟩

theorem readable_im (hI : Inv X β st w) {A : Option Addr} {n c : Nat} {cs : List AV} (h : VRel X.w0 β (.slice A n c) (.im n cs)) (hne : 0 < cs.length) : ∃ ad, A = some ad ∧ Readable X.w0 β w ad cs := by
  cases h with
  | im u hn hc hr hv =>
    obtain ⟨ad, rfl, _⟩ := hr 0 hne
    exact ⟨ad, rfl, u, fun j hj w' hb => by obtain ⟨ad', e, hc⟩ := hr j hj; cases e; exact cell_w0 hI hc hb, hv⟩

theorem readable_obj (hI : Inv X β st w) {r b m : Nat} {cs : List AV} (hr : st[r]? = some (some cs)) (hb : β[r]? = some (some (b, m))) : Readable X.w0 β w ⟨b, 0, none⟩ cs := by
  obtain ⟨bk, h1, h2⟩ := hI.obj r cs hr
  rw [hb] at h1
  cases h1
  obtain ⟨c, e, hc, hs, hl, hv⟩ := h2
  refine ⟨fun j => c.getD j undef, fun j hj w' hb' => ?_, fun j x hx => ?_⟩
  · rw [add_none, Nat.zero_add, cell_of_heap (by rw [hb'.block b (hI.ow r b m hb).2]; exact hc)]
    have : j < c.size := by omega
    simp [Array.getD_eq_getD_getElem?, this]
  · obtain ⟨u, hu, hv'⟩ := hv j x hx
    simpa [Array.getD_eq_getD_getElem?, hu] using hv'

theorem Readable.drop {w0 : World} {ad : Addr} {cs : List AV} (h : Readable w0 β w ad cs) (k : Nat) : Readable w0 β w (ad.add k) (cs.drop k) := by
  obtain ⟨u, h1, h2⟩ := h
  refine ⟨fun j => u (k + j), fun j hj w' hb => ?_, fun j x hx => ?_⟩
  · rw [add_add]; exact h1 (k + j) (by simp at hj; omega) w' hb
  · exact h2 _ _ (by simpa using hx)

theorem add_zero' (ad : Addr) : ad.add 0 = ad := by simp [Addr.add]

/-- A part of a row. -/
theorem partA_drop {cs : List AV} {off sz : Nat} {ag : Bool} {K : AV → Prop} (h : partA cs off sz ag K) : partA (cs.drop off) 0 sz ag K := by
  unfold partA at *
  split
  · rename_i hg; rw [if_pos hg] at h; simp at h ⊢; refine ⟨?_, h.2⟩; omega
  · rename_i hg; rw [if_neg hg] at h; simpa using h

theorem run_load_readable {t : TypeId} (hg : (ti X.P t).good = true) {ad : Addr} {cs : List AV} (hR : Readable X.w0 β w ad cs) {K : AV → Prop} (h : partA cs 0 (ti X.P t).size (ti X.P t).isAgg K) :
    ∃ v x, (∀ w', Below w.heap.size w w' → (loadVar t ad).run X.P w' = .ok v w') ∧ VRel X.w0 β v x ∧ K x := by
  obtain ⟨d, i, z, hd, hi, hz, hzs, hsz, hzz, hag⟩ := ti_good hg
  obtain ⟨u, h1, h2⟩ := hR
  unfold partA at h
  by_cases hA : aggT X.P t = true
  · rw [hag, hsz, if_pos hA] at h
    obtain ⟨hl, hK⟩ := h
    refine ⟨.agg ((List.range i.size).map u).toArray, .agg ((cs.drop 0).take i.size), fun w' hb => ?_, ?_, hK⟩
    · have hlc := run_loadCells (P := X.P) w' ad i.size u (fun j hj => h1 j (by omega) w' hb)
      have hagg : (isAgg t).run X.P w' = .ok true w' := by
        unfold aggT at hA
        rw [hd] at hA
        simp only [isAgg, Sem.run_bind, run_underlying hd, Result.andThen_ok]
        cases d <;> simp_all
      simp [loadVar, hagg, sizeOf, typeInfo, hi, hlc]
    · refine .agg (by simp; omega) (fun j v x hv hx => ?_)
      simp only [List.getElem?_toArray, List.getElem?_map] at hv
      have hj : j < i.size := by
        rcases Nat.lt_or_ge j i.size with h' | h'
        · exact h'
        · simp [List.getElem?_eq_none (show (List.range i.size).length ≤ j by simpa using h')] at hv
      simp only [List.getElem?_range hj, Option.map_some, Option.some.injEq] at hv
      subst hv
      refine h2 j x ?_
      simpa [List.getElem?_take, hj] using hx
  · rw [hag, if_neg hA] at h
    cases hc : cs[0]? with
    | none => simp [hc] at h
    | some x =>
      rw [hc] at h
      have h0 : 0 < cs.length := (List.getElem?_eq_some_iff.1 hc).1
      refine ⟨u 0, x, fun w' hb => ?_, h2 0 x hc, h⟩
      have hcell := h1 0 h0 w' hb
      rw [add_zero'] at hcell
      have hagg : (isAgg t).run X.P w' = .ok false w' := by
        unfold aggT at hA
        rw [hd] at hA
        simp only [isAgg, Sem.run_bind, run_underlying hd, Result.andThen_ok]
        cases d <;> simp_all
      simp [loadVar, hagg, hcell]

theorem cells_of_agg {w0 : World} {v : Value} {cs : List AV} (h : VRel w0 β v (.agg cs)) : ∃ vs : Array Value, v = .agg vs ∧ vs.size = cs.length ∧ ∀ (j : Nat) u x, vs[j]? = some u → cs[j]? = some x → VRel w0 β u x := by
  cases h with
  | agg hs hv => exact ⟨_, rfl, hs, hv⟩

theorem leaf_one {w0 : World} {v : Value} {x : AV} (h : VRel w0 β v x) (hl : leaf x = true) : v.oneCell' = true := by
  cases h <;> simp_all [leaf, Value.oneCell']

theorem one_cells {v : Value} (h : v.oneCell' = true) : v.cells = #[v] := by
  cases v <;> simp_all [Value.oneCell', Value.cells]

/-- The cells of a value, one by one. -/
theorem cells_rel {w0 : World} {v : Value} {x : AV} (h : VRel w0 β v x) (hk : okCells x = true) :
    v.cells.size = (cellsA x).length ∧ (∀ (j : Nat) u y, v.cells[j]? = some u → (cellsA x)[j]? = some y → VRel w0 β u y) ∧ ∀ u ∈ v.cells.toList, u.oneCell' = true := by
  have key : leaf x = true → cellsA x = [x] → v.cells.size = (cellsA x).length ∧ (∀ (j : Nat) u y, v.cells[j]? = some u → (cellsA x)[j]? = some y → VRel w0 β u y) ∧ ∀ u ∈ v.cells.toList, u.oneCell' = true := by
    intro hl hc
    have h1 := leaf_one h hl
    rw [one_cells h1, hc]
    refine ⟨rfl, fun j u y hu hy => ?_, by simpa using h1⟩
    rcases j with _ | j
    · simp at hu hy; subst hu; subst hy; exact h
    · simp at hu
  cases x with
  | agg cs =>
    obtain ⟨vs, rfl, hs, hv⟩ := cells_of_agg h
    refine ⟨hs, hv, fun u hu => ?_⟩
    obtain ⟨j, hj, rfl⟩ := List.getElem_of_mem hu
    have hj' : j < vs.size := by simpa [Value.cells] using hj
    have hx : cs[j]? = some cs[j] := List.getElem?_eq_getElem (by omega)
    have hlf : leaf (cs[j]'(by omega)) = true := by
      simp only [okCells, List.all_eq_true] at hk
      exact hk _ (List.getElem_mem _)
    exact leaf_one (hv j _ _ (by simp [Value.cells, hj']) hx) hlf
  | _ => exact key (by simpa [okCells] using hk) rfl

end
end Go.Proofs.Pv
