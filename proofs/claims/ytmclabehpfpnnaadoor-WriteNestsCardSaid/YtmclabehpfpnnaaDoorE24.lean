/- The engine's twenty-first part: data that came in. -/
import Derived.Test.YtmclabehpfpnnaaDoorK0
import Derived.Test.YtmclabehpfpnnaaDoorE19
import Derived.Deep.Slices
import Derived.Lib.SmallJoins
import Derived.SizedLaws
import Derived.Test.YtmclabehpfpnnaaDoorP9
import Derived.Test.YtmclabehpfpnnaaDoorRows
import Derived.Lib.LaidTab
import Derived.Stop.LaidErr
import Derived.Test.YtmclabehpfpnnaaDoorN17
set_option linter.unusedSimpArgs false
set_option linter.unusedVariables false
namespace Go.Proofs.Pv
open Go Go.RowKit Go.Proofs Go.ChangeShapes Go.WideShapes
set_option maxRecDepth 20000

section
variable {H : Type} {enc : TypeId × Value → H} {w : World}
/-- What a reading's parts may weigh. -/
structure wOK (t : TypeId) (d : DataW H) : Prop where
  le : ∀ n ∈ d.weights Tryd.prog t, n ≤ reachBytes
theorem wOK_each {ts : List TypeId} {ds : List (DataW H)} (h : ∀ n ∈ DataW.weightsEach Tryd.prog ts ds, n ≤ reachBytes) {j : Nat} {t : TypeId} {d : DataW H} (ht : ts[j]? = some t) (hd : ds[j]? = some d) : wOK t d := ⟨fun n hn => h n (DataW.weights_mem_each ht hd n hn)⟩
theorem wOK_all {t : TypeId} {ds : List (DataW H)} (h : ∀ n ∈ DataW.weightsAll Tryd.prog t ds, n ≤ reachBytes) {d : DataW H} (hd : d ∈ ds) : wOK t d := by
  induction ds with
  | nil => cases hd
  | cons e ds ih =>
    simp only [DataW.weightsAll, List.mem_append] at h
    rcases List.mem_cons.1 hd with rfl | hd
    · exact ⟨fun n hn => h n (.inl hn)⟩
    · exact ih (fun n hn => h n (.inr hn)) hd
theorem cellsD : Tryd.prog.cellsOf 27 = 7 := by kernel_rfl
theorem cellsI : Tryd.prog.cellsOf 24 = 2 := by kernel_rfl
theorem cells1 : Tryd.prog.cellsOf 3 = 1 ∧ Tryd.prog.cellsOf 4 = 1 ∧ Tryd.prog.cellsOf 9 = 1 ∧ Tryd.prog.cellsOf 25 = 1 ∧ Tryd.prog.cellsOf 22 = 1 ∧ Tryd.prog.cellsOf 100 = 1 := ⟨by kernel_rfl, by kernel_rfl, by kernel_rfl, by kernel_rfl, by kernel_rfl, by kernel_rfl⟩
theorem bytes4 : Tryd.prog.bytesOf 100 = 4 := by kernel_rfl

/-- A row that came in, as it is read. -/
theorem row_of_trod {fuel : Nat} {v : Value} {x : DataW H × List MemPlace} (h : DataW.trod enc Tryd.prog w 0 (fun _ => true) true fuel 22 [v] = some x) (hw : wOK 22 x.1) : ∃ a l, VRel w [] v a ∧ Nm [] a l ∧ l.length ≤ 35184372088832 := by
  rcases Go.ChangeShapes.open_ints Tryd.underlying22 Tryd.underlying100 cells1.2.2.2.2.2 h with ⟨hcs, _⟩ | ⟨ad, len, cap, zs, hcs, _, hl, hm, hz, hx, hcell, hwf⟩
  · simp only [List.cons.injEq, and_true] at hcs
    subst hcs
    obtain ⟨l, h1, h2⟩ := row_rel (w := w) (.inl ⟨rfl, rfl, rfl, rfl⟩)
    exact ⟨_, [], .val _, Nm.nil, by simp⟩
  · simp only [List.cons.injEq, and_true] at hcs
    subst hcs
    have hz' : zs.length = cap := by simpa using hz
    have hR : IsRow w (some ad) len cap zs := .inr ⟨ad, rfl, hl, hm, hz', hcell, hwf⟩
    obtain ⟨l, h1, h2⟩ := row_rel hR
    refine ⟨_, l, h1, h2, ?_⟩
    have hll : l.length = len := by cases h1 with | im u hn hc hr hv => rfl
    rw [hx] at hw
    have := hw.le ((List.length _ + List.length _) * Tryd.prog.bytesOf 100) (by simp only [DataW.weights, Tryd.underlying22]; exact List.mem_cons_self)
    rw [bytes4] at this
    simp only [Go.ChangeShapes.lits, List.length_map, List.length_take, List.length_drop] at this
    have hr : reachBytes < 2 ^ 47 := reachBytes_lt
    omega

/-- What is said of a datum that came in. -/
def Came (w : World) (cs : List Value) (dt : Dt) : Prop := ∃ xs, cs.length = xs.length ∧ (∀ (j : Nat) v x, cs[j]? = some v → xs[j]? = some x → VRel w [] v x) ∧ DC [] xs dt ∧ dt.fit

theorem data_of_trod {n : Nat} (ih : ∀ (cs : List Value) (x : DataW H × List MemPlace), DataW.trod enc Tryd.prog w 0 (fun _ => true) true n 27 cs = some x → wOK 27 x.1 → ∃ dt, Came w cs dt)
    {v : Value} {x : DataW H × List MemPlace} (h : DataW.trod enc Tryd.prog w 0 (fun _ => true) true (n + 1) 25 [v] = some x) (hw : wOK 25 x.1) : ∃ y ds, VRel w [] v y ∧ DS [] y ds ∧ fits ds := by
  rcases DataW.trod_slice Tryd.underlying25 h with ⟨hcs, _⟩ | ⟨a, len, cap, elems, rest, m, hm, hcs, hx, hb, hl, hc, hlen, hel, _, _⟩
  · simp only [List.cons.injEq, and_true] at hcs
    subst hcs
    exact ⟨_, [], .val _, DS.nil, by simp [fits]⟩
  · simp only [List.cons.injEq, and_true] at hcs
    subst hcs
    have hmn : m = n := by omega
    subst hmn
    rw [cellsD] at hel
    have hwe : ∀ q ∈ DataW.weightsAll Tryd.prog 27 (elems.map (·.1)), q ≤ reachBytes := fun q hq => by
      rw [hx] at hw
      refine hw.le q ?_
      simp only [DataW.weights, Tryd.underlying25, List.mem_cons, List.mem_append]
      exact .inr (.inl hq)
    have key : ∀ k, k ≤ len → ∃ (ds : List Dt) (cells : List AV), ds.length = k ∧ DL [] cells ds ∧ fits ds ∧ ∀ (j : Nat) x, cells[j]? = some x → ∃ u, w.cell? (a.add j) = some u ∧ VRel w [] u x := by
      intro k
      induction k with
      | zero => exact fun _ => ⟨[], [], rfl, .nil, by simp [fits], fun j x hx => by simp at hx⟩
      | succ k ihk =>
        intro hk
        obtain ⟨ds, cells, h1, h2, h3, h4⟩ := ihk (by omega)
        have he := hel k (by omega)
        rw [List.getElem?_eq_getElem (show k < elems.length by omega)] at he
        obtain ⟨cs', hcs', htr⟩ := Option.bind_eq_some_iff.1 he
        obtain ⟨_, hcl, hcc⟩ := World.cells?_some hcs'
        obtain ⟨dt, xs, g1, g2, g3, g4⟩ := ih cs' _ htr (wOK_all hwe (List.mem_map.2 ⟨_, List.getElem_mem _, rfl⟩))
        refine ⟨ds ++ [dt], cells ++ xs, by simp [h1], h2.app (DL.one g3), fits_all fun d hd => ?_, fun j x hx => ?_⟩
        · rcases List.mem_append.1 hd with hd | hd
          · exact fits_mem h3 hd
          · simp only [List.mem_cons, List.not_mem_nil, or_false] at hd
            rw [hd]; exact g4
        · by_cases hj : j < cells.length
          · rw [List.getElem?_append_left hj] at hx
            exact h4 j x hx
          · rw [List.getElem?_append_right (by omega)] at hx
            have hlc : cells.length = k * 7 := by rw [h2.len, h1]
            have hjx := (List.getElem?_eq_some_iff.1 hx).1
            have h7 : j - cells.length < 7 := by omega
            have hcell := hcc (j - cells.length) h7
            rw [Go.Proofs.Pv.add_add, show k * 7 + (j - cells.length) = j by omega] at hcell
            have hv : cs'[j - cells.length]? = some cs'[j - cells.length] := List.getElem?_eq_getElem (by omega)
            rw [hv] at hcell
            exact ⟨_, hcell, g2 _ _ _ hv hx⟩
    obtain ⟨ds, cells, h1, h2, h3, h4⟩ := key len (Nat.le_refl _)
    refine ⟨.im len cells, ds, .im (fun j => (w.cell? (a.add j)).getD undef) ?_ hl (fun j hj => ?_) (fun j x hx => ?_), .mk (cs := cells) ?_ h2, h3⟩
    · have : maxLen ≤ 9223372036854775807 := by decide
      omega
    · obtain ⟨u, hu, _⟩ := h4 j _ (List.getElem?_eq_getElem hj)
      exact ⟨a, rfl, by rw [hu]; rfl⟩
    · obtain ⟨u, hu, hv⟩ := h4 j x hx
      rw [hu]; exact hv
    · rw [sl_im_eq, if_pos (by rw [h2.len, h1]), h1]

theorem came_of_trod : ∀ (fuel : Nat) (cs : List Value) (x : DataW H × List MemPlace), DataW.trod enc Tryd.prog w 0 (fun _ => true) true fuel 27 cs = some x → wOK 27 x.1 → ∃ dt, Came w cs dt := by
  intro fuel
  induction fuel using Nat.strongRecOn with
  | _ fuel IH =>
  intro cs x h hw
  obtain ⟨xs, n, rfl, hx, hcs, hxl, hf⟩ := DataW.trod_struct Tryd.underlying27 h
  rw [cellsD] at hcs
  obtain ⟨v0, v1, v2, v3, v4, v5, v6, rfl⟩ : ∃ v0 v1 v2 v3 v4 v5 v6, cs = [v0, v1, v2, v3, v4, v5, v6] := by
    match cs, hcs with
    | [v0, v1, v2, v3, v4, v5, v6], _ => exact ⟨v0, v1, v2, v3, v4, v5, v6, rfl⟩
  have hxl : xs.length = 6 := hxl
  obtain ⟨y0, y1, y2, y3, y4, y5, rfl⟩ : ∃ y0 y1 y2 y3 y4 y5, xs = [y0, y1, y2, y3, y4, y5] := by
    match xs, hxl with
    | [y0, y1, y2, y3, y4, y5], _ => exact ⟨y0, y1, y2, y3, y4, y5, rfl⟩
  have hw' : ∀ (j : Nat) t d, [3, 24, 4, 9, 25, 25][j]? = some t → [y0.1, y1.1, y2.1, y3.1, y4.1, y5.1][j]? = some d → wOK t d := fun j t d ht hd => by
    rw [hx] at hw
    refine wOK_each (ts := [3, 24, 4, 9, 25, 25]) (ds := [y0.1, y1.1, y2.1, y3.1, y4.1, y5.1]) (fun n hn => hw.le n ?_) ht hd
    simp only [DataW.weights, Tryd.underlying27]
    exact hn
  have f0 := hf 0 _ rfl
  have f1 := hf 1 _ rfl
  have f2 := hf 2 _ rfl
  have f3 := hf 3 _ rfl
  have f4 := hf 4 _ rfl
  have f5 := hf 5 _ rfl
  simp only [cells1, cellsI, List.drop_zero, List.drop_succ_cons, List.take_succ_cons, List.take_zero, List.getElem?_cons_zero, List.getElem?_cons_succ] at f0 f1 f2 f3 f4 f5
  obtain ⟨k, h0, _, _⟩ := DataW.trod_int Tryd.underlying3 f0
  obtain ⟨z0, z1, m, hy1, _, e0, e1⟩ := trod_struct2 Tryd.underlying24 f1
  simp only [cells1, List.drop_zero, List.drop_succ_cons, List.take_succ_cons, List.take_zero] at e0 e1
  obtain ⟨g, h1, _⟩ := DataW.trod_bool Tryd.underlying4 e0
  obtain ⟨a, l, ha, hn, hll⟩ := row_of_trod e1 (by
    have := hw' 1 _ _ rfl rfl
    rw [hy1] at this
    refine ⟨fun q hq => this.le q ?_⟩
    simp only [DataW.weights, Tryd.underlying24]
    exact DataW.weights_mem_each (ts := [4, 22]) (ds := [z0.1, z1.1]) (j := 1) rfl rfl q hq)
  obtain ⟨b, h3, _⟩ := DataW.trod_bool Tryd.underlying4 f2
  obtain ⟨s, h4, _, _⟩ := DataW.trod_string Tryd.underlying9 f3
  obtain ⟨n', rfl⟩ : ∃ n', n = n' + 1 := by
    cases n with
    | zero => simp [DataW.trod] at f0
    | succ n' => exact ⟨n', rfl⟩
  obtain ⟨p, its, hp, hpd, hpf⟩ := data_of_trod (IH n' (by omega)) f4 (hw' 4 _ _ rfl rfl)
  obtain ⟨q, tls, hq, hqd, hqf⟩ := data_of_trod (IH n' (by omega)) f5 (hw' 5 _ _ rfl rfl)
  obtain rfl : v0 = _ := (List.cons.inj h0).1
  obtain rfl : v1 = _ := (List.cons.inj h1).1
  obtain rfl : v3 = _ := (List.cons.inj h3).1
  obtain rfl : v4 = _ := (List.cons.inj h4).1
  refine ⟨.mk k g l b s its tls, [.val (.int .i64 k), .val (.bool g), a, .val (.bool b), .val (.string s), p, q], rfl, fun j v x hv hx => ?_, .mk hn hpd hqd, by rw [fit_mk]; exact ⟨hll, hpf, hqf⟩⟩
  match j with
  | 0 => simp at hv hx; subst hv hx; exact .val _
  | 1 => simp at hv hx; subst hv hx; exact .val _
  | 2 => simp at hv hx; subst hv hx; exact ha
  | 3 => simp at hv hx; subst hv hx; exact .val _
  | 4 => simp at hv hx; subst hv hx; exact .val _
  | 5 => simp at hv hx; subst hv hx; exact hp
  | 6 => simp at hv hx; subst hv hx; exact hq
  | j + 7 => simp at hx

/-- A datum that is an argument. -/
theorem datum_rel {r : Reach} {b0 : Nat} {v : Value} {d : DataW H} {ps : List MemPlace} (hv : Value.okWide Tryd.prog w r b0 27 v) (h : DataW.Trod enc Tryd.prog w 0 (fun _ => true) true 27 v d ps) (hw : wOK 27 d) : ∃ x dt, VRel w [] v x ∧ DA [] x dt ∧ dt.fit := by
  obtain ⟨cs, rfl, hsz⟩ := okWide_struct Tryd.underlying27 hv
  obtain ⟨fuel, hf⟩ := h
  have hf : DataW.trod enc Tryd.prog w 0 (fun _ => true) true fuel 27 cs.toList = some (d, ps) := hf
  obtain ⟨dt, xs, h1, h2, h3, h4⟩ := came_of_trod fuel _ _ hf hw
  exact ⟨.agg xs, dt, .agg (by simpa using h1) (fun j v x hv hx => h2 j v x (by simpa using hv) hx), ⟨xs, rfl, h3⟩, h4⟩
/-- A slice of data that is an argument. -/
theorem data_rel {v : Value} {d : DataW H} {ps : List MemPlace} {fuel : Nat} (h : DataW.trod enc Tryd.prog w 0 (fun _ => true) true fuel 25 [v] = some (d, ps)) (hw : wOK 25 d) : ∃ y ds, VRel w [] v y ∧ DS [] y ds ∧ fits ds := by
  cases fuel with
  | zero => simp [DataW.trod] at h
  | succ n => exact data_of_trod (came_of_trod n) h hw
end
end Go.Proofs.Pv

/- The primitives' tables, as the rows list them. -/
namespace Go.Proofs.Pv
open Go Go.RowKit Go.Proofs Go.Lib
set_option maxRecDepth 20000

def TabS (P : Program) (w : World) (name : String) (bs : List (List UInt8)) : Prop := w.var? P name = some (bs.map fun b => Value.string ⟨b.toArray⟩).toArray
theorem rel_of_cells {W : World} {g : Nat} {vs : List Value} (h : ∀ i v, vs[i]? = some v → W.cell? ⟨g, i, none⟩ = some v) : VRel W [] (.pointer (some ⟨g, 0, none⟩)) (.imp (vs.map AV.val)) := by
  refine .imp (fun j => (vs[j]?).getD undef) (fun j hj => ?_) (fun j x hx => ?_)
  · have hj : j < vs.length := by simpa using hj
    rw [add_none, Nat.zero_add, h j _ (List.getElem?_eq_getElem hj), List.getElem?_eq_getElem hj]
    rfl
  · rw [List.getElem?_map] at hx
    obtain ⟨v, hv, rfl⟩ := Option.map_eq_some_iff.1 hx
    rw [hv]
    exact .val v
/-- What a law's contract says of a call. -/
theorem walk_ofA {P : Program} {f : FuncId} {R : List AV → St → (AV → St → Prop) → Prop} {w : World} (h : PSpecAt P w f R) {vs : Array Value} {xs : List AV} (hv : VRels w [] vs xs) (hR : R xs [] fun x _ => x = .val (.bool true)) :
    Calls P f vs w fun e w' => e = .returned (.bool true) ∧ Below w.heap.size w w' := by
  refine (h.2 [] [] w vs xs _ (inv_start P w) hv hR).mono ?_
  rintro e w' ⟨v, x, ex, st', he, hI, hvx, rfl⟩
  rw [inv_val hvx] at he
  exact ⟨he, hI.b1⟩
end Go.Proofs.Pv

/- The table of signs, as the rows list it. -/
namespace Go.Proofs.Pv
open Go Go.RowKit Go.Proofs Go.Lib
set_option maxRecDepth 20000

def signsI : List Int := [33, 36, 37, 38, 42, 47, 58, 60, 61, 62, 63, 94, 95, 126, 43, 45, 46, 64]
theorem gw_of_laid {W : World} (h : laidMetH Tryd.prog [("pavane/write.signs", Go.Proofs.YtmclabehpfpnnaaDoor.Rows.laid_pavane_write_signs)] W) : GW W := by
  have h3 : TabIs Tryd.prog W "pavane/write.signs" .u8 signsI := tabIs_of_head (g := 0) (by kernel_rfl) (t := 70) (by kernel_rfl) Tryd.underlying70 Tryd.underlying5 (by kernel_rfl) (by kernel_rfl) (rest := []) h
  have := rel_of_cells (g := 0) (vs := signsI.map (Value.int .u8)) (W := W) fun i v hv => ?_
  · rw [List.map_map] at this
    exact this
  · have hc := World.var?_cell (by kernel_rfl : Tryd.prog.globalNamed "pavane/write.signs" = some 0) h3 i
    rw [hc]
    rw [List.getElem?_map] at hv
    obtain ⟨s, hs, rfl⟩ := Option.map_eq_some_iff.1 hv
    simp [hs]
end Go.Proofs.Pv
