/- The primitives' tables, as the rows list them. -/
import Derived.Test.YtmclabehpfpnnaaDoorP9
import Derived.Test.YtmclabehpfpnnaaDoorRows
import Derived.Lib.LaidTab
import Derived.Test.YtmclabehpfpnnaaDoorE21
import Derived.Stop.LaidErr
set_option linter.unusedSimpArgs false
set_option linter.unusedVariables false
namespace Go.Proofs.Pv
open Go Go.RowKit Go.Proofs Go.Lib
set_option maxRecDepth 20000

def TabS (P : Program) (w : World) (name : String) (bs : List (List UInt8)) : Prop := w.var? P name = some (bs.map fun b => Value.string ⟨b.toArray⟩).toArray
theorem cells_of_strs {H : Type} {enc : TypeId × Value → H} {P : Program} {w : World} {base : Nat} {sp : Nat → Bool} {held : Bool} {fuel : Nat} {t e : TypeId} {n : Nat} {cs : List Value} {bs : List (List UInt8)} {p : List MemPlace}
    (ht : P.underlying t = some (.array n e)) (he : P.underlying e = some .string) (hce : P.cellsOf e = 1) (hct : P.cellsOf t = n)
    (h : DataW.trod enc P w base sp held fuel t cs = some (.agg (bs.map fun b => .lit (.string b)), p)) : cs = bs.map fun b => Value.string ⟨b.toArray⟩ := by
  cases fuel with
  | zero => simp [DataW.trod] at h
  | succ fuel =>
    simp only [DataW.trod, ht, hce, hct, Nat.mul_one] at h
    split at h
    · rename_i hl
      obtain ⟨xs, hm, hx⟩ := Option.map_eq_some_iff.1 h
      have hxs : xs.map (·.1) = bs.map fun b => (DataW.lit (.string b) : DataW H) := by
        have := congrArg Prod.fst hx
        simpa using this
      have hxl : xs.length = n := by simpa using mapM_length hm
      have hzl : bs.length = n := by
        have := congrArg List.length hxs
        simp at this
        omega
      apply List.ext_getElem?
      intro i
      by_cases hi : i < n
      · obtain ⟨b, hb, hf⟩ := mapM_at hm i i (by simp [hi])
        obtain ⟨s, hc, rfl, _⟩ := DataW.trod_string he hf
        have h1 : cs[i]? = some (.string s) := by
          have := congrArg (·[0]?) hc
          simpa [List.getElem?_take, List.getElem?_drop] using this
        have h2 : (xs.map (·.1))[i]? = some (DataW.lit (.string s.data.toList) : DataW H) := by simp [hb]
        rw [hxs] at h2
        simp only [List.getElem?_map, Option.map_eq_some_iff, DataW.lit.injEq, Lit.string.injEq] at h2
        obtain ⟨b', hb', h3⟩ := h2
        rw [h1, List.getElem?_map, hb', Option.map_some, h3]
      · rw [List.getElem?_eq_none (by omega), List.getElem?_eq_none (by simp; omega)]
    · cases h
theorem tabS_of_head {P : Program} {W : World} {name : String} {bs : List (List UInt8)} {rest : List (String × DataW Unit)} {g : Nat} {t e : TypeId} {n : Nat}
    (hg : P.globalNamed name = some g) (hty : (P.globals[g]?).map (·.type) = some t) (ht : P.underlying t = some (.array n e)) (he : P.underlying e = some .string) (hce : P.cellsOf e = 1) (hct : P.cellsOf t = n)
    (h : laidMet P ((name, .agg (bs.map fun b => .lit (.string b))) :: rest) W) : TabS P W name bs := by
  obtain ⟨ps, ⟨g', t', cs, fuel, p, q, hg', ht', hvar, hd, _, _⟩, _⟩ := h
  obtain rfl := Option.some.inj (hg.symm.trans hg')
  obtain rfl := Option.some.inj (hty.symm.trans ht')
  unfold TabS
  rw [hvar, ← cells_of_strs ht he hce hct hd]
theorem rel_of_cells {W : World} {g : Nat} {vs : List Value} (h : ∀ i v, vs[i]? = some v → W.cell? ⟨g, i, none⟩ = some v) : VRel W [] (.pointer (some ⟨g, 0, none⟩)) (.imp (vs.map AV.val)) := by
  refine .imp (fun j => (vs[j]?).getD undef) (fun j hj => ?_) (fun j x hx => ?_)
  · have hj : j < vs.length := by simpa using hj
    rw [add_none, Nat.zero_add, h j _ (List.getElem?_eq_getElem hj), List.getElem?_eq_getElem hj]
    rfl
  · rw [List.getElem?_map] at hx
    obtain ⟨v, hv, rfl⟩ := Option.map_eq_some_iff.1 hx
    rw [hv]
    exact .val v
theorem gp_of_laid {W : World} (h : laidMetH Tryd.prog [("pavane/expand.names", Go.Proofs.YtmclabehpfpnnaaDoor.Rows.laid_pavane_expand_names), ("pavane/expand.arities", Go.Proofs.YtmclabehpfpnnaaDoor.Rows.laid_pavane_expand_arities)] W) : GP W := by
  have h1 : TabS Tryd.prog W "pavane/expand.names" (namesL.map fun s => s.data.toList) := tabS_of_head (g := 1) (by kernel_rfl) (t := 106) (by kernel_rfl) Tryd.underlying106 Tryd.underlying9 (by kernel_rfl) (by kernel_rfl) (rest := [("pavane/expand.arities", Go.Proofs.YtmclabehpfpnnaaDoor.Rows.laid_pavane_expand_arities)]) h
  have h2 : TabIs Tryd.prog W "pavane/expand.arities" .i64 aritiesL := tabIs_of_head (g := 2) (by kernel_rfl) (t := 107) (by kernel_rfl) Tryd.underlying107 Tryd.underlying3 (by kernel_rfl) (by kernel_rfl) (rest := []) (laidMet.tail h)
  constructor
  · have := rel_of_cells (g := 1) (vs := namesL.map Value.string) (W := W) fun i v hv => ?_
    · rw [List.map_map] at this
      exact this
    · have hc := World.var?_cell (by kernel_rfl : Tryd.prog.globalNamed "pavane/expand.names" = some 1) h1 i
      rw [hc]
      rw [List.getElem?_map] at hv
      obtain ⟨s, hs, rfl⟩ := Option.map_eq_some_iff.1 hv
      simp [hs]
  · have := rel_of_cells (g := 2) (vs := aritiesL.map (Value.int .i64)) (W := W) fun i v hv => ?_
    · rw [List.map_map] at this
      exact this
    · have hc := World.var?_cell (by kernel_rfl : Tryd.prog.globalNamed "pavane/expand.arities" = some 2) h2 i
      rw [hc]
      rw [List.getElem?_map] at hv
      obtain ⟨s, hs, rfl⟩ := Option.map_eq_some_iff.1 hv
      simp [hs]
/-- What a law's contract says of a call. -/
theorem walk_ofA {P : Program} {f : FuncId} {R : List AV → St → (AV → St → Prop) → Prop} {w : World} (h : PSpecAt P w f R) {vs : Array Value} {xs : List AV} (hv : VRels w [] vs xs) (hR : R xs [] fun x _ => x = .val (.bool true)) :
    Calls P f vs w fun e w' => e = .returned (.bool true) ∧ Below w.heap.size w w' := by
  refine (h.2 [] [] w vs xs _ (inv_start P w) hv hR).mono ?_
  rintro e w' ⟨v, x, ex, st', he, hI, hvx, rfl⟩
  rw [inv_val hvx] at he
  exact ⟨he, hI.b1⟩
end Go.Proofs.Pv
