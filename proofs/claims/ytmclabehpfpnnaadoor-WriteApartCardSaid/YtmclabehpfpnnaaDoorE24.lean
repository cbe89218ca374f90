/- The engine's twenty-first part: data that came in. -/
import Derived.Test.YtmclabehpfpnnaaDoorK0
import Derived.Test.YtmclabehpfpnnaaDoorE19
import Derived.Deep.Slices
import Derived.Lib.SmallJoins
import Derived.SizedLaws
import Derived.Test.YtmclabehpfpnnaaDoorP9
import Derived.Test.YtmclabehpfpnnaaDoorRows
import Derived.Lib.LaidTab
import Derived.Stop.LaidErr
import Derived.Test.YtmclabehpfpnnaaDoorN17
set_option linter.unusedSimpArgs false
set_option linter.unusedVariables false
namespace Go.Proofs.Pv
open Go Go.RowKit Go.Proofs Go.ChangeShapes Go.WideShapes
set_option maxRecDepth 20000

section
variable {H : Type} {enc : TypeId × Value → H} {w : World}
/-- What a reading's parts may weigh. -/
structure wOK (t : TypeId) (d : DataW H) : Prop where
  le : ∀ n ∈ d.weights Tryd.prog t, n ≤ reachBytes
theorem wOK_each {ts : List TypeId} {ds : List (DataW H)} (h : ∀ n ∈ DataW.weightsEach Tryd.prog ts ds, n ≤ reachBytes) {j : Nat} {t : TypeId} {d : DataW H} (ht : ts[j]? = some t) (hd : ds[j]? = some d) : wOK t d := ⟨fun n hn => h n (DataW.weights_mem_each ht hd n hn)⟩
/-- What is said of a datum that came in. -/
def Came (w : World) (cs : List Value) (dt : Dt) : Prop := ∃ xs, cs.length = xs.length ∧ (∀ (j : Nat) v x, cs[j]? = some v → xs[j]? = some x → VRel w [] v x) ∧ DC [] xs dt ∧ dt.fit

end
end Go.Proofs.Pv

/- The primitives' tables, as the rows list them. -/
namespace Go.Proofs.Pv
open Go Go.RowKit Go.Proofs Go.Lib
set_option maxRecDepth 20000

def TabS (P : Program) (w : World) (name : String) (bs : List (List UInt8)) : Prop := w.var? P name = some (bs.map fun b => Value.string ⟨b.toArray⟩).toArray
theorem rel_of_cells {W : World} {g : Nat} {vs : List Value} (h : ∀ i v, vs[i]? = some v → W.cell? ⟨g, i, none⟩ = some v) : VRel W [] (.pointer (some ⟨g, 0, none⟩)) (.imp (vs.map AV.val)) := by
  refine .imp (fun j => (vs[j]?).getD undef) (fun j hj => ?_) (fun j x hx => ?_)
  · have hj : j < vs.length := by simpa using hj
    rw [add_none, Nat.zero_add, h j _ (List.getElem?_eq_getElem hj), List.getElem?_eq_getElem hj]
    rfl
  · rw [List.getElem?_map] at hx
    obtain ⟨v, hv, rfl⟩ := Option.map_eq_some_iff.1 hx
    rw [hv]
    exact .val v
/-- What a law's contract says of a call. -/
theorem walk_ofA {P : Program} {f : FuncId} {R : List AV → St → (AV → St → Prop) → Prop} {w : World} (h : PSpecAt P w f R) {vs : Array Value} {xs : List AV} (hv : VRels w [] vs xs) (hR : R xs [] fun x _ => x = .val (.bool true)) :
    Calls P f vs w fun e w' => e = .returned (.bool true) ∧ Below w.heap.size w w' := by
  refine (h.2 [] [] w vs xs _ (inv_start P w) hv hR).mono ?_
  rintro e w' ⟨v, x, ex, st', he, hI, hvx, rfl⟩
  rw [inv_val hvx] at he
  exact ⟨he, hI.b1⟩
end Go.Proofs.Pv

/- The table of signs, as the rows list it. -/
namespace Go.Proofs.Pv
open Go Go.RowKit Go.Proofs Go.Lib
set_option maxRecDepth 20000

def signsI : List Int := [33, 36, 37, 38, 42, 47, 58, 60, 61, 62, 63, 94, 95, 126, 43, 45, 46, 64]
theorem gw_of_laid {W : World} (h : laidMetH Tryd.prog [("pavane/write.signs", Go.Proofs.YtmclabehpfpnnaaDoor.Rows.laid_pavane_write_signs)] W) : GW W := by
  have h3 : TabIs Tryd.prog W "pavane/write.signs" .u8 signsI := tabIs_of_head (g := 0) (by kernel_rfl) (t := 70) (by kernel_rfl) Tryd.underlying70 Tryd.underlying5 (by kernel_rfl) (by kernel_rfl) (rest := []) h
  have := rel_of_cells (g := 0) (vs := signsI.map (Value.int .u8)) (W := W) fun i v hv => ?_
  · rw [List.map_map] at this
    exact this
  · have hc := World.var?_cell (by kernel_rfl : Tryd.prog.globalNamed "pavane/write.signs" = some 0) h3 i
    rw [hc]
    rw [List.getElem?_map] at hv
    obtain ⟨s, hs, rfl⟩ := Option.map_eq_some_iff.1 hv
    simp [hs]
end Go.Proofs.Pv
