/- The engine's sixth part: operations that make memory, write to it, or call. -/
import Derived.Test.YtdaidpomfkgbeaaE5
set_option linter.unusedSimpArgs false
set_option linter.unusedVariables false
namespace Go.Proofs.Pv
open Go Go.RowKit

section
variable {X : Cx} {N : Nat} {β : Bk} {st : St} {w : World} {s : Sl} {a : Act} {o : Oper} {K : AV → St → Prop}

/-- A new object. -/
theorem Inv.alloc (hI : Inv X β st w) (c : Array Value) (e : TypeId) (cs : List AV) (hl : cs.length ≤ c.size) (hv : ∀ (j : Nat) x, cs[j]? = some x → ∃ u, c[j]? = some u ∧ VRel X.w0 β u x) :
    Inv X (β ++ [some (w.heap.size, c.size)]) (st ++ [some cs]) { w with heap := w.heap.push (.cells c e) } := by
  have hsz : X.w0.heap.size ≤ w.heap.size := Nat.le_trans hI.b0.size hI.b1.size
  have hb : Below w.heap.size w { w with heap := w.heap.push (.cells c e) } := ⟨rfl, rfl, rfl, by simp, fun k hk => by simp [Array.getElem?_push, Nat.ne_of_lt hk]⟩
  have hG := hI.grow_below hb
  have hlast : ∀ {r : Nat} {y : Option (Nat × Nat)}, (β ++ [some (w.heap.size, c.size)])[r]? = some y → (r < β.length ∧ β[r]? = some y) ∨ (r = β.length ∧ y = some (w.heap.size, c.size)) := by
    intro r y h
    rcases Nat.lt_or_ge r β.length with h' | h'
    · rw [List.getElem?_append_left h'] at h; exact .inl ⟨h', h⟩
    · rw [List.getElem?_append_right h'] at h
      rcases Nat.eq_zero_or_pos (r - β.length) with h0 | h0
      · rw [h0] at h; exact .inr ⟨by omega, by simpa using h.symm⟩
      · rw [List.getElem?_eq_none (by simp; omega)] at h; cases h
  have hlast' : ∀ {r : Nat} {ds : List AV}, (st ++ [some cs])[r]? = some (some ds) → (r < st.length ∧ st[r]? = some (some ds)) ∨ (r = st.length ∧ ds = cs) := by
    intro r y h
    rcases Nat.lt_or_ge r st.length with h' | h'
    · rw [List.getElem?_append_left h'] at h; exact .inl ⟨h', h⟩
    · rw [List.getElem?_append_right h'] at h
      rcases Nat.eq_zero_or_pos (r - st.length) with h0 | h0
      · rw [h0] at h; exact .inr ⟨by omega, by simpa using h.symm⟩
      · rw [List.getElem?_eq_none (by simp; omega)] at h; cases h
  refine ⟨hG.b0, hG.b1, by simp [hI.len], ?_, ?_, ?_, ?_, ?_, ?_⟩
  · obtain ⟨y, hy⟩ := hI.stp; exact ⟨y ++ [some cs], by rw [hy]; simp⟩
  · obtain ⟨y, hy⟩ := hI.bep; exact ⟨y ++ [some (w.heap.size, c.size)], by rw [← List.append_assoc, ← hy]⟩
  · intro r b m hr hb'
    rcases hlast hb' with ⟨_, h⟩ | ⟨_, h⟩
    · exact hI.nw r b m hr h
    · cases h; exact hI.b1.size
  · intro r b m hb'
    rcases hlast hb' with ⟨_, h⟩ | ⟨_, h⟩
    · exact hG.ow r b m h
    · cases h; exact ⟨hsz, by simp⟩
  · intro r ds hr
    rcases hlast' hr with ⟨h1, h⟩ | ⟨h1, rfl⟩
    · obtain ⟨bk, h2, h3⟩ := hG.obj r ds h
      refine ⟨bk, by rw [List.getElem?_append_left (by rw [hI.len]; exact h1)]; exact h2, ?_⟩
      cases bk with
      | none => exact h3
      | some p =>
        obtain ⟨b, m⟩ := p
        obtain ⟨c', e', h4, h5, h6, h7⟩ := h3
        exact ⟨c', e', h4, h5, h6, fun j x hx => by obtain ⟨u, h8, h9⟩ := h7 j x hx; exact ⟨u, h8, h9.ext _⟩⟩
    · refine ⟨some (w.heap.size, c.size), by rw [h1, ← hI.len]; simp, c, e, by simp, rfl, hl, fun j x hx => ?_⟩
      obtain ⟨u, h8, h9⟩ := hv j x hx
      exact ⟨u, h8, h9.ext _⟩
  · intro r r' ds ds' b m m' h1 h2 h3 h4
    rcases hlast h3 with ⟨g1, g2⟩ | ⟨g1, g2⟩ <;> rcases hlast h4 with ⟨g3, g4⟩ | ⟨g3, g4⟩
    · rcases hlast' h1 with ⟨k1, k2⟩ | ⟨k1, k2⟩
      · rcases hlast' h2 with ⟨k3, k4⟩ | ⟨k3, k4⟩
        · exact hI.inj r r' ds ds' b m m' k2 k4 g2 g4
        · have := hI.len; omega
      · have := hI.len; omega
    · cases g4; have := (hI.ow r _ _ g2).2; omega
    · cases g2; have := (hI.ow r' _ _ g4).2; omega
    · omega

/-- A new object that lies nowhere yet: an empty slice. -/
theorem Inv.phantom (hI : Inv X β st w) : Inv X (β ++ [none]) (st ++ [some []]) w := by
  have hlast : ∀ {r : Nat} {p : Nat × Nat}, (β ++ [none])[r]? = some (some p) → r < β.length ∧ β[r]? = some (some p) := by
    intro r y h
    rcases Nat.lt_or_ge r β.length with h' | h'
    · rw [List.getElem?_append_left h'] at h; exact ⟨h', h⟩
    · rw [List.getElem?_append_right h'] at h
      rcases Nat.eq_zero_or_pos (r - β.length) with h0 | h0
      · rw [h0] at h; simp at h
      · rw [List.getElem?_eq_none (by simp; omega)] at h; cases h
  have hlast' : ∀ {r : Nat} {ds : List AV}, (st ++ [some []])[r]? = some (some ds) → (r < st.length ∧ st[r]? = some (some ds)) ∨ (r = st.length ∧ ds = []) := by
    intro r y h
    rcases Nat.lt_or_ge r st.length with h' | h'
    · rw [List.getElem?_append_left h'] at h; exact .inl ⟨h', h⟩
    · rw [List.getElem?_append_right h'] at h
      rcases Nat.eq_zero_or_pos (r - st.length) with h0 | h0
      · rw [h0] at h; exact .inr ⟨by omega, by simpa using h.symm⟩
      · rw [List.getElem?_eq_none (by simp; omega)] at h; cases h
  refine ⟨hI.b0, hI.b1, by simp [hI.len], ?_, ?_, fun r b m hr hb => hI.nw r b m hr (hlast hb).2, fun r b m hb => hI.ow r b m (hlast hb).2, ?_, ?_⟩
  · obtain ⟨y, hy⟩ := hI.stp; exact ⟨y ++ [some []], by rw [hy]; simp⟩
  · obtain ⟨y, hy⟩ := hI.bep; exact ⟨y ++ [none], by rw [← List.append_assoc, ← hy]⟩
  · intro r ds hr
    rcases hlast' hr with ⟨h1, h⟩ | ⟨h1, rfl⟩
    · obtain ⟨bk, h2, h3⟩ := hI.obj r ds h
      refine ⟨bk, by rw [List.getElem?_append_left (by rw [hI.len]; exact h1)]; exact h2, ?_⟩
      cases bk with
      | none => exact h3
      | some p =>
        obtain ⟨b, m⟩ := p
        obtain ⟨c', e', h4, h5, h6, h7⟩ := h3
        exact ⟨c', e', h4, h5, h6, fun j x hx => by obtain ⟨u, h8, h9⟩ := h7 j x hx; exact ⟨u, h8, h9.ext _⟩⟩
    · exact ⟨none, by rw [h1, ← hI.len]; simp, rfl⟩
  · intro r r' ds ds' b m m' h1 h2 h3 h4
    obtain ⟨g1, g2⟩ := hlast h3
    obtain ⟨g3, g4⟩ := hlast h4
    rw [List.getElem?_append_left (by rw [← hI.len]; exact g1)] at h1
    rw [List.getElem?_append_left (by rw [← hI.len]; exact g3)] at h2
    exact hI.inj r r' ds ds' b m m' h1 h2 g2 g4

/-- An object's cells anew (in its block). -/
theorem Inv.rewrite (hI : Inv X β st w) {r b m : Nat} {cs ds : List AV} (hr : X.st1.length ≤ r) (hst : st[r]? = some (some cs)) (hb : β[r]? = some (some (b, m))) {c c' : Array Value} {e : TypeId}
    (hc : w.heap[b]? = some (.cells c e (0, 0))) (hs : c'.size = c.size) (hl : ds.length ≤ c'.size) (hv : ∀ (j : Nat) x, ds[j]? = some x → ∃ u, c'[j]? = some u ∧ VRel X.w0 β u x) :
    Inv X β (st.set r (some ds)) (w.setRow b c') := by
  have hbs := (hI.ow r b m hb).2
  have hnew : X.w1.heap.size ≤ b := hI.nw r b m hr hb
  obtain ⟨bk, h1, h2⟩ := hI.obj r cs hst
  rw [hb] at h1
  cases h1
  obtain ⟨c0, e0, h3, h4, h5, h6⟩ := h2
  rw [hc] at h3
  cases h3
  have hrow : (w.setRow b c').heap[b]? = some (.cells c' e (0, 0)) := setRow_heap w b c c' e (0, 0) hc
  have hoth : ∀ k, k ≠ b → (w.setRow b c').heap[k]? = w.heap[k]? := fun k hk => by simp [World.setRow, Array.getElem?_modify, Ne.symm hk]
  have hsize : (w.setRow b c').heap.size = w.heap.size := by simp [World.setRow]
  have hrl : r < st.length := (List.getElem?_eq_some_iff.1 hst).1
  refine ⟨hI.b0, ?_, by simp [hI.len], ?_, hI.bep, hI.nw, fun r' b' m' h => by rw [hsize]; exact hI.ow r' b' m' h, ?_, ?_⟩
  · exact hI.b1.trans ⟨rfl, rfl, rfl, by rw [hsize]; exact Nat.le_refl _, fun k hk => hoth k (by omega)⟩
  · obtain ⟨y, hy⟩ := hI.stp
    refine ⟨y.set (r - X.st1.length) (some ds), ?_⟩
    rw [hy, List.set_append_right _ _ hr]
  · intro r' es hr'
    rw [List.getElem?_set] at hr'
    by_cases he : r = r'
    · subst he
      rw [if_pos rfl, if_pos hrl] at hr'
      cases hr'
      exact ⟨_, hb, c', e, hrow, by rw [hs]; exact h4, by omega, hv⟩
    · rw [if_neg he] at hr'
      obtain ⟨bk, g1, g2⟩ := hI.obj r' es hr'
      refine ⟨bk, g1, ?_⟩
      cases bk with
      | none => exact g2
      | some p =>
        obtain ⟨b', m'⟩ := p
        obtain ⟨c1, e1, g3, g4⟩ := g2
        exact ⟨c1, e1, by rw [hoth b' (fun hbb => he (hI.inj r r' cs es b m m' hst hr' hb (by rw [← hbb]; exact g1)))]; exact g3, g4⟩
  · intro r1 r2 d1 d2 b' m1 m2 g1 g2 g3 g4
    have alive : ∀ {q : Nat} {d : List AV}, (st.set r (some ds))[q]? = some (some d) → ∃ d', st[q]? = some (some d') := fun {q d} h => by
      rw [List.getElem?_set] at h
      by_cases he : r = q
      · subst he; exact ⟨cs, hst⟩
      · rw [if_neg he] at h; exact ⟨d, h⟩
    obtain ⟨d1', k1⟩ := alive g1
    obtain ⟨d2', k2⟩ := alive g2
    exact hI.inj r1 r2 d1' d2' b' m1 m2 k1 k2 g3 g4

/-- An object given up. -/
theorem Inv.kill (hI : Inv X β st w) {r : Nat} (hr : X.st1.length ≤ r) : Inv X β (st.set r none) w := by
  have alive : ∀ {q : Nat} {d : List AV}, (st.set r none)[q]? = some (some d) → st[q]? = some (some d) := fun {q d} h => by
    rw [List.getElem?_set] at h
    by_cases he : r = q
    · subst he; rw [if_pos rfl] at h; split at h <;> cases h
    · rw [if_neg he] at h; exact h
  refine ⟨hI.b0, hI.b1, by simp [hI.len], ?_, hI.bep, hI.nw, hI.ow, fun r' es h => hI.obj r' es (alive h), fun r1 r2 d1 d2 b' m1 m2 g1 g2 g3 g4 => hI.inj r1 r2 d1 d2 b' m1 m2 (alive g1) (alive g2) g3 g4⟩
  obtain ⟨y, hy⟩ := hI.stp
  refine ⟨y.set (r - X.st1.length) none, ?_⟩
  rw [hy, List.set_append_right _ _ hr]

/-- What an operation that makes memory, or writes to it, comes to. -/
def Eff (X : Cx) (β : Bk) (w : World) (a : Act) (o : Oper) (K : AV → St → Prop) : Prop :=
  ∃ v x ex st' w', ((execOp a.eval o).run X.P w = .ok (.value v) w' ∨ ((execOp a.eval o).run X.P w = .ok .skip w' ∧ v = undef)) ∧ Inv X (β ++ ex) st' w' ∧ VRel X.w0 (β ++ ex) v x ∧ K x st'

theorem vrel_new {w0 : World} {b m off : Nat} : VRel w0 (β ++ [some (b, m)]) (.pointer (some ⟨b, off, none⟩)) (.ptr β.length off) := .ptr (m := m) (by simp)

theorem e_alloc {t : TypeId} (hop : o.op = .alloc t) (hI : Inv X β st w) (h : vcE X (.alloc t) st K) : Eff X β w a o K := by
  unfold vcE at h
  obtain ⟨hg, hK⟩ := h
  obtain ⟨d, i, z, hd, hi, hz, hzs, hsz, hzz, hag⟩ := ti_good hg
  have hinv := hI.alloc z.cells t ((ti X.P t).zero.map AV.val) (by rw [hzz]; simp) (fun j x hx => by
    rw [hzz, List.getElem?_map] at hx
    cases hj : z.cells.toList[j]? with
    | none => simp [hj] at hx
    | some u =>
      simp only [hj, Option.map_some, Option.some.injEq] at hx
      subst hx
      exact ⟨u, by simpa using hj, .val u⟩)
  refine ⟨_, _, _, _, _, .inl ?_, hinv, vrel_new (off := 0), by rw [hI.len]; exact hK⟩
  simp [execOp, hop, Instr.alloc, zeroValue, typeInfo, hi, hz, newVar, newRow]

theorem e_box {t : TypeId} {y : Operand} (hop : o.op = .box t y) (hI : Inv X β st w) (hS : SRel X N β s a) (h : vcE X (.box t (ev s y)) st K) : Eff X β w a o K := by
  unfold vcE at h
  obtain ⟨hk, hK⟩ := h
  obtain ⟨c1, c2, c3⟩ := cells_rel (hS.eval y) hk
  have hinv := hI.alloc (a.eval y).cells t (cellsA (ev s y)) (by omega) (fun j x hx => by
    have hlt : j < (a.eval y).cells.size := by rw [c1]; exact (List.getElem?_eq_some_iff.1 hx).1
    exact ⟨_, Array.getElem?_eq_getElem hlt, c2 j _ _ (Array.getElem?_eq_getElem hlt) hx⟩)
  refine ⟨_, _, _, _, _, .inl ?_, hinv, vrel_new (off := 0), by rw [hI.len]; exact hK⟩
  simp [execOp, hop, Instr.box, newVar, newRow]

theorem zcells {n : Nat} {zs : Array Value} (j : Nat) (x : AV) (hx : (zrow n zs.toList)[j]? = some x) :
    ∃ u, ((Array.range (n * zs.size)).map (zs[· % zs.size]!))[j]? = some u ∧ x = .val u := by
  have key : ∀ n j, (zrow n zs.toList)[j]? = if j < n * zs.size then some (.val (zs[j % zs.size]!)) else none := by
    intro n
    induction n with
    | zero => intro j; simp [zrow]
    | succ n ih =>
      intro j
      have e : zrow (n + 1) zs.toList = zs.toList.map AV.val ++ zrow n zs.toList := by simp [zrow, List.replicate_succ]
      rw [e, List.getElem?_append]
      by_cases hj : j < zs.size
      · rw [if_pos (by simpa using hj), if_pos (by rw [Nat.add_mul]; omega), Nat.mod_eq_of_lt hj, List.getElem?_map, Array.getElem?_toList, Array.getElem?_eq_getElem hj]
        simp [getElem!_pos zs j hj]
      · rw [if_neg (by simpa using hj), ih]
        simp only [List.length_map, Array.length_toList]
        rw [Nat.add_mul, Nat.one_mul]
        generalize n * zs.size = q
        by_cases hj2 : j - zs.size < q
        · rw [if_pos hj2, if_pos (by omega), ← Nat.mod_eq_sub_mod (by omega)]
        · rw [if_neg hj2, if_neg (by omega)]
  rw [key] at hx
  split at hx
  · rename_i hj
    cases hx
    exact ⟨_, by simp [hj], rfl⟩
  · cases hx

theorem zrow_length (n : Nat) (z : List Value) : (zrow n z).length = n * z.length := by simp [zrow]

theorem e_mkSl {t : TypeId} {x y : Operand} (hop : o.op = .makeSlice t x y) (hI : Inv X β st w) (hS : SRel X N β s a) (h : vcE X (.mkSl t (ev s x) (ev s y)) st K) : Eff X β w a o K := by
  have hx := hS.eval x
  have hy := hS.eval y
  unfold vcE at h
  simp only at h
  split at h
  · rename_i e sz by_ ez z n m ht h1 h2
    rw [h1] at hx
    rw [h2] at hy
    have hx := inv_val hx
    have hy := inv_val hy
    obtain ⟨rfl, h0, hn, hb, hK⟩ := h
    obtain ⟨hu, inf, zv, hinf, hsz, hby, hz, hez, hel, hpos⟩ := ti_slice ht
    obtain ⟨q, rfl⟩ := Int.eq_ofNat_of_zero_le h0
    have hzs : zv.cells.size = sz := by rw [← hel, ← hez]; simp
    simp only [Int.toNat_natCast] at hK
    have hinv := hI.alloc ((Array.range (q * sz)).map (zv.cells[· % zv.cells.size]!)) e (zrow q ez) (by rw [zrow_length]; simp [hel]) (fun j x hx => by
      rw [← hez] at hx
      obtain ⟨u, hu, rfl⟩ := zcells j x hx
      rw [hzs] at hu ⊢
      exact ⟨u, hu, .val u⟩)
    refine ⟨.slice (some ⟨w.heap.size, 0, none⟩) q q, .own β.length 0 q sz, _, _, _, .inl ?_, hinv, .own (b := w.heap.size) (m := q * sz) (by simp) (by omega) (Nat.le_refl _) (fun _ => ⟨rfl, by simp⟩), by rw [hI.len]; exact hK⟩
    have hw : IntKind.i64.wrap (q : Int) = (q : Int) := by
      simp only [IntKind.wrap_i64]
      omega
    have hbq : ¬ (281474976710656 < (by_ : Int) * (q : Int)) := by omega
    have hq0 : ¬ ((q : Int) < 0) := by omega
    by_cases hqz : q * sz = 0
    · simp [execOp, hop, Instr.makeSlice, run_underlying hu, hx, hy, asInt, asIntOf, typeInfo, hinf, hby, hw, hbq, sizeOf, hsz, hqz, newRow, hq0]
      simp [show Array.range 0 = #[] from rfl]
    · simp [execOp, hop, Instr.makeSlice, run_underlying hu, hx, hy, asInt, asIntOf, typeInfo, hinf, hby, hw, hbq, sizeOf, hsz, zeroValue, hz, newRow, hqz, hq0]
  · exact h.elim

theorem e_buildSl {t : TypeId} {n : Nat} {ps : Array (Nat × Operand)} (hop : o.op = .buildSlice t n ps) (hI : Inv X β st w) (hS : SRel X N β s a) (h : vcE X (.buildSl t n (ps.toList.map fun p => (p.1, ev s p.2))) st K) : Eff X β w a o K := by
  unfold vcE at h
  simp only at h
  split at h
  · rename_i e sz by_ ez z ht
    obtain ⟨hn, hn2, h⟩ := h
    obtain ⟨hu, inf, zv, hinf, hsz, hby, hz, hez, hel, hpos⟩ := ti_slice ht
    have hzs : zv.cells.size = sz := by rw [← hel, ← hez]; simp
    cases hfill : fillA (fun i => some (i * sz, sz)) (zrow n ez) (ps.toList.map fun p => (p.1, ev s p.2)) with
    | none => simp [hfill] at h
    | some cs =>
      simp only [hfill] at h
      obtain ⟨us, g1, g2, g3, g4⟩ := fill_rel (w0 := X.w0) _ _ ((Array.range (n * sz)).map (zv.cells[· % zv.cells.size]!)) _ _ (parts_rel hS ps).1 (parts_rel hS ps).2 (by rw [zrow_length]; simp [hel]) (fun j u x hu hx => by
        rw [← hez] at hx
        obtain ⟨u', hu', rfl⟩ := zcells j x hx
        rw [hzs] at hu'
        rw [hzs] at hu
        rw [hu] at hu'
        cases hu'
        exact .val u) hfill
      have hinv := hI.alloc us e cs (by omega) (fun j x hx => by
        have hlt : j < us.size := by rw [g2]; exact (List.getElem?_eq_some_iff.1 hx).1
        exact ⟨_, Array.getElem?_eq_getElem hlt, g4 j _ _ (Array.getElem?_eq_getElem hlt) hx⟩)
      have hus : us.size = n * sz := by rw [g2, g3, zrow_length, hel]
      refine ⟨.slice (some ⟨w.heap.size, 0, none⟩) n n, .own β.length 0 n sz, _, _, _, .inl ?_, hinv, .own (b := w.heap.size) (m := us.size) (by simp) hn2 (Nat.le_refl _) (fun _ => ⟨rfl, by omega⟩), by rw [hI.len]; exact h⟩
      have hn' : ¬ (16777216 < n * sz) := by omega
      by_cases hqz : n * sz = 0
      · have g1' : Instr.fill (fun i => some (i * sz, sz)) #[] (ps.map fun p => (p.1, a.eval p.2)).toList = some us := by rw [← g1, hqz, show Array.range 0 = #[] from rfl, Array.map_empty]
        simp only [Array.toList_map] at g1'
        simp [execOp, hop, Instr.buildSlice, run_underlying hu, sizeOf, typeInfo, hinf, hsz, hqz, newRow, show Array.range 0 = #[] from rfl, g1']
      · simp only [Array.toList_map] at g1
        simp [execOp, hop, Instr.buildSlice, run_underlying hu, sizeOf, typeInfo, hinf, hsz, hqz, hn', zeroValue, hz, newRow, g1]
  · exact h.elim

theorem put1_rel {w0 : World} {v : Value} {y : AV} (hv : VRel w0 β v y) (hk : okCells y = true) {c : Array Value} {cs : List AV} {off : Nat} (hl : cs.length ≤ c.size) (hc : ∀ (j : Nat) x, cs[j]? = some x → ∃ u, c[j]? = some u ∧ VRel w0 β u x)
    (hfit : off + (cellsA y).length ≤ cs.length) : ((c.toList.take off ++ v.cells.toList ++ c.toList.drop (off + v.cells.toList.length)).toArray).size = c.size ∧ (put1 cs off y).length = cs.length ∧
    ∀ (j : Nat) x, (put1 cs off y)[j]? = some x → ∃ u, ((c.toList.take off ++ v.cells.toList ++ c.toList.drop (off + v.cells.toList.length)).toArray)[j]? = some u ∧ VRel w0 β u x := by
  obtain ⟨c1, c2, c3⟩ := cells_rel hv hk
  have hput : put1 cs off y = cs.take off ++ cellsA y ++ cs.drop (off + (cellsA y).length) := by
    cases y with
    | agg ys => rfl
    | _ =>
      simp only [put1, cellsA, List.length_singleton] at hfit ⊢
      rw [List.set_eq_take_append_cons_drop, if_pos (by omega)]
      simp
  have hL : v.cells.toList.length = (cellsA y).length := by simpa using c1
  refine ⟨by simp; omega, by rw [hput]; simp; omega, fun j x hx => ?_⟩
  rw [hput] at hx
  rw [hL]
  simp only [List.getElem?_toArray]
  by_cases h1 : j < off
  · rw [List.getElem?_append_left (by simp; omega), List.getElem?_append_left (by simp; omega), List.getElem?_take, if_pos h1] at hx
    rw [List.getElem?_append_left (by simp; omega), List.getElem?_append_left (by simp; omega), List.getElem?_take, if_pos h1]
    obtain ⟨u, hu, hvu⟩ := hc j x hx
    exact ⟨u, by simpa using hu, hvu⟩
  · by_cases h2 : j < off + (cellsA y).length
    · rw [List.getElem?_append_left (by simp; omega), List.getElem?_append_right (by simp; omega)] at hx
      rw [List.getElem?_append_left (by simp; omega), List.getElem?_append_right (by simp; omega)]
      simp only [List.length_take, Array.length_toList] at hx ⊢
      rw [show min off cs.length = off by omega] at hx
      rw [show min off c.size = off by omega]
      have hlt : j - off < v.cells.size := by omega
      refine ⟨v.cells[j - off], by simp [hlt], c2 (j - off) _ x (Array.getElem?_eq_getElem hlt) hx⟩
    · rw [List.getElem?_append_right (by simp; omega)] at hx
      rw [List.getElem?_append_right (by simp; omega)]
      simp only [List.length_append, List.length_take, Array.length_toList, List.getElem?_drop] at hx ⊢
      rw [show off + (cellsA y).length + (j - (min off cs.length + (cellsA y).length)) = j by omega] at hx
      rw [show off + (cellsA y).length + (j - (min off c.size + v.cells.size)) = j by omega]
      obtain ⟨u, hu, hvu⟩ := hc j x hx
      exact ⟨u, by simpa using hu, hvu⟩

theorem e_store {t : TypeId} {x y : Operand} (hop : o.op = .store t x y) (hI : Inv X β st w) (hS : SRel X N β s a) (h : vcE X (.store t (ev s x) (ev s y)) st K) : Eff X β w a o K := by
  have hx := hS.eval x
  have hy := hS.eval y
  unfold vcE at h
  simp only at h
  cases hxv : ev s x with
  | ptr r off =>
    rw [hxv] at hx
    simp only [hxv] at h
    obtain ⟨b, m, hb, hq⟩ := inv_ptr hx
    obtain ⟨hr, h⟩ := h
    cases hst : st[r]? with
    | none => simp [hst] at h
    | some c =>
      cases c with
      | none => simp [hst] at h
      | some cs =>
        simp only [hst] at h
        obtain ⟨hg, hk, hsz, hfit, hK⟩ := h
        obtain ⟨d, i, z, hd, hi, hz, hzs, hsz2, hzz, hag⟩ := ti_good hg
        obtain ⟨bk, h1, h2⟩ := hI.obj r cs hst
        rw [hb] at h1
        cases h1
        obtain ⟨c, e, hc, hcs, hl, hcv⟩ := h2
        obtain ⟨c1, c2, c3⟩ := cells_rel hy hk
        obtain ⟨p1, p2, p3⟩ := put1_rel hy hk (by omega) hcv hfit
        have hrun := run_storeCells_at X.P b off e (a.eval y).cells.toList 0 c w hc (by simp; omega) c3
        simp only [Nat.add_zero] at hrun
        refine ⟨undef, undefA, [], _, _, .inr ⟨?_, rfl⟩, by rw [List.append_nil]; exact hI.rewrite hr hst hb hc p1 (by rw [p1, p2]; omega) p3, .val _, hK⟩
        have hne : ¬ ((a.eval y).cells.size ≠ i.size) := by rw [c1, hsz, hsz2]; simp
        simp [execOp, hop, Instr.storeAt, Instr.sureAddr, hq, storeVar, sizeOf, typeInfo, hi, hrun]
        omega
  | _ => simp only [hxv] at h

theorem args_rel (hS : SRel X N β s a) (xs : Array Operand) : VRels X.w0 β (xs.map a.eval) (xs.toList.map (ev s)) := by
  refine ⟨by simp, fun j v x hv hx => ?_⟩
  simp only [Array.getElem?_map, List.getElem?_map, Array.getElem?_toList] at hv hx
  cases hz : xs[j]? with
  | none => simp [hz] at hv
  | some z =>
    simp only [hz, Option.map_some, Option.some.injEq] at hv hx
    subst hv; subst hx
    exact hS.eval z

theorem VRels.append {w0 : World} {as bs : Array Value} {xs ys : List AV} (h1 : VRels w0 β as xs) (h2 : VRels w0 β bs ys) : VRels w0 β (as ++ bs) (xs ++ ys) := by
  refine ⟨by simp [h1.1, h2.1], fun j v x hv hx => ?_⟩
  have e1 := h1.1
  rw [Array.getElem?_append] at hv
  rw [List.getElem?_append] at hx
  by_cases hj : j < as.size
  · rw [if_pos hj] at hv
    rw [if_pos (by omega)] at hx
    exact h1.2 j v x hv hx
  · rw [if_neg hj] at hv
    rw [if_neg (by omega)] at hx
    rw [← e1] at hx
    exact h2.2 _ v x hv hx

/-- A call. -/
theorem e_call {f : Operand} {xs : Array Operand} {ts : Array TypeId} (hop : o.op = .call ⟨.value f, xs, ts⟩) (hI : Inv X β st w) (hS : SRel X N β s a) (h : vcE X (.call (ev s f) (xs.toList.map (ev s))) st K) :
    ∃ g vs, (execOp a.eval o).run X.P w = .ok (.enter g vs) w ∧ Calls X.P g vs w (fun e w' => ∃ v x ex st', e = .returned v ∧ Inv X (β ++ ex) st' w' ∧ VRel X.w0 (β ++ ex) v x ∧ K x st') := by
  unfold vcE at h
  simp only at h
  cases hfv : ev s f with
  | fn ff fs cs =>
    cases ff with
    | func g =>
      simp only [hfv] at h
      obtain ⟨R, ⟨hok, hspec⟩, hR⟩ := h
      obtain ⟨as, bs, hq, h1, h2⟩ := inv_fn (hfv ▸ hS.eval f)
      refine ⟨g, as ++ xs.map a.eval ++ bs, ?_, hspec β st w _ _ K hI ((h1.append (args_rel hS xs)).append h2) hR⟩
      unfold enterOK at hok
      cases hf : X.P.funcs[g]? with
      | none => rw [hf] at hok; cases hok
      | some fn =>
        rw [hf] at hok
        simp only [Bool.and_eq_true, Bool.not_eq_true'] at hok
        have hn : ¬ (fn.name = "runtime.NumGoroutine") := by simpa using hok.2
        simp [execOp, hop, resolve, Deferred.ofValue, hq, invoke, callFunc, hf, hn]
        intro hh
        rw [hh] at hok
        simp at hok
    | _ => simp only [hfv] at h
  | _ => simp only [hfv] at h

/-- The first cells of a slice. -/
theorem first_cells (hI : Inv X β st w) {q : Value} {x : AV} {m sz : Nat} {ys : List AV} (hv : VRel X.w0 β q x) (hs : slc st x = some (m, ys)) (hl : ys.length = m * sz) (k : Nat) (hk : k ≤ m) :
    ∃ (A : Option Addr) (c : Nat) (vals : List Value), q = .slice A m c ∧ vals.length = k * sz ∧ (∀ w', Below w.heap.size w w' → (Builtin.firstCells sz k q).run X.P w' = .ok vals.toArray w') ∧
      (∀ (j : Nat) v y, vals[j]? = some v → ys[j]? = some y → VRel X.w0 β v y) ∧ (ys.all leaf = true → ∀ v ∈ vals, v.oneCell' = true) := by
  obtain ⟨hn, A, c, rfl, hR⟩ := slc_read hI hv hs
  by_cases h0 : k * sz = 0
  · refine ⟨A, c, [], rfl, by simp [h0], fun w' _ => ?_, fun j v y hv => by simp at hv, fun _ v hv => by simp at hv⟩
    cases A with
    | none => simp [Builtin.firstCells]
    | some ad => simp [Builtin.firstCells, h0, loadCells, loadCellsFrom]
  · have hkm : k * sz ≤ m * sz := Nat.mul_le_mul_right _ hk
    obtain ⟨ad, rfl, u, h1, h2⟩ := hR (by omega)
    have hu : ∀ j, j < k * sz → VRel X.w0 β (u j) (ys[j]?.getD .junk) := fun j hj => h2 j _ (by rw [List.getElem?_eq_getElem (show j < ys.length by omega)]; rfl)
    refine ⟨some ad, c, (List.range (k * sz)).map u, rfl, by simp, fun w' hb => ?_, fun j v y hv hy => ?_, fun hall v hv => ?_⟩
    · have := run_loadCells (P := X.P) w' ad (k * sz) u (fun j hj => h1 j (by omega) w' hb)
      simp [Builtin.firstCells, this]
    · rw [List.getElem?_map] at hv
      cases hj : (List.range (k * sz))[j]? with
      | none => simp [hj] at hv
      | some i =>
        simp only [hj, Option.map_some, Option.some.injEq] at hv
        subst hv
        have hlt : j < k * sz := by simpa using (List.getElem?_eq_some_iff.1 hj).1
        rw [List.getElem?_range hlt] at hj
        cases hj
        exact h2 _ y hy
    · obtain ⟨j, hj, rfl⟩ := List.mem_map.1 hv
      have hlt : j < k * sz := by simpa using hj
      have hlt' : j < ys.length := by omega
      exact leaf_one (h2 j _ (List.getElem?_eq_getElem hlt')) (List.all_eq_true.1 hall _ (List.getElem_mem _))

theorem set_self {α : Type} {l : List α} {r : Nat} {x : α} (h : l[r]? = some x) : l.set r x = l := by
  apply List.ext_getElem?
  intro j
  rw [List.getElem?_set]
  by_cases hj : r = j
  · subst hj; rw [if_pos rfl, if_pos (List.getElem?_eq_some_iff.1 h).1, h]
  · rw [if_neg hj]

theorem two_ops {xs : Array Operand} {y y' : AV} (h : xs.toList.map (ev s) = [y, y']) : ∃ z z', xs = #[z, z'] ∧ ev s z = y ∧ ev s z' = y' := by
  obtain ⟨z, r, hz, e3, e4⟩ := List.map_eq_cons_iff.1 h
  obtain ⟨z', hz', e5⟩ := List.map_eq_singleton_iff.1 e4
  exact ⟨z, z', by rw [← Array.toArray_toList (xs := xs), hz, hz'], e3, e5⟩
theorem two_ts {ts : Array TypeId} {t t' : TypeId} (h : ts.toList = [t, t']) : ts = #[t, t'] := by rw [← Array.toArray_toList (xs := ts), h]

/-- Cells put into a row. -/
theorem splice_rel {w0 : World} {vals : List Value} {zs : List AV} {c : Array Value} {cs : List AV} {off : Nat} (h1 : vals.length = zs.length) (h2 : ∀ (j : Nat) v y, vals[j]? = some v → zs[j]? = some y → VRel w0 β v y)
    (hl : cs.length ≤ c.size) (hc : ∀ (j : Nat) x, cs[j]? = some x → ∃ u, c[j]? = some u ∧ VRel w0 β u x) (hoff : off ≤ cs.length) (hfit : off + vals.length ≤ c.size) (rest : List AV) (hrest : rest = cs.drop (off + vals.length) ∨ rest = []) :
    ((c.toList.take off ++ vals ++ c.toList.drop (off + vals.length)).toArray).size = c.size ∧ (cs.take off ++ zs ++ rest).length ≤ c.size ∧
    ∀ (j : Nat) x, (cs.take off ++ zs ++ rest)[j]? = some x → ∃ u, ((c.toList.take off ++ vals ++ c.toList.drop (off + vals.length)).toArray)[j]? = some u ∧ VRel w0 β u x := by
  refine ⟨by simp; omega, by rcases hrest with rfl | rfl <;> simp <;> omega, fun j x hx => ?_⟩
  simp only [List.getElem?_toArray]
  by_cases g1 : j < off
  · rw [List.getElem?_append_left (by simp; omega), List.getElem?_append_left (by simp; omega), List.getElem?_take, if_pos g1] at hx
    rw [List.getElem?_append_left (by simp; omega), List.getElem?_append_left (by simp; omega), List.getElem?_take, if_pos g1]
    obtain ⟨u, hu, hvu⟩ := hc j x hx
    exact ⟨u, by simpa using hu, hvu⟩
  · by_cases g2 : j < off + zs.length
    · rw [List.getElem?_append_left (by simp; omega), List.getElem?_append_right (by simp; omega)] at hx
      rw [List.getElem?_append_left (by simp; omega), List.getElem?_append_right (by simp; omega)]
      simp only [List.length_take, Array.length_toList] at hx ⊢
      rw [show min off cs.length = off by omega] at hx
      rw [show min off c.size = off by omega]
      have hlt : j - off < vals.length := by omega
      exact ⟨vals[j - off], by simp [hlt], h2 (j - off) _ x (List.getElem?_eq_getElem hlt) hx⟩
    · rw [List.getElem?_append_right (by simp; omega)] at hx
      rw [List.getElem?_append_right (by simp; omega)]
      simp only [List.length_append, List.length_take, Array.length_toList, List.getElem?_drop] at hx ⊢
      rcases hrest with rfl | rfl
      · rw [List.getElem?_drop, show off + vals.length + (j - (min off cs.length + zs.length)) = j by omega] at hx
        rw [show off + vals.length + (j - (min off c.size + vals.length)) = j by omega]
        obtain ⟨u, hu, hvu⟩ := hc j x hx
        exact ⟨u, by simpa using hu, hvu⟩
      · simp at hx

theorem e_copy {xs : Array Operand} {ts : Array TypeId} (hop : o.op = .call ⟨.builtin .copy, xs, ts⟩) (hI : Inv X β st w) (hS : SRel X N β s a) (h : vcE X (.blt .copy ts.toList (xs.toList.map (ev s))) st K) : Eff X β w a o K := by
  unfold vcE at h
  simp only at h
  generalize hl : xs.toList.map (ev s) = l at h
  generalize htl : ts.toList = tl at h
  split at h <;> first | contradiction | skip
  · rename_i t t' x y _ _
    obtain ⟨z, z', rfl, e1, e2⟩ := two_ops hl
    obtain rfl := two_ts htl
    split at h
    · rename_i e sz by_ ez zz r off n s' ht
      obtain ⟨rfl, hr, cs, m, ys, hst, hslc, hyl, hyall, hfit, hK⟩ := h
      obtain ⟨hu, inf, zv, hinf, hsz, hby, hz, hez, hel, hpos⟩ := ti_slice ht
      have hx := hS.eval z
      rw [e1] at hx
      have hy := hS.eval z'
      rw [e2] at hy
      obtain ⟨A, c, vals, hq', hvl, hrun, hvr, hone⟩ := first_cells hI hy hslc hyl (min m n) (Nat.min_le_left _ _)
      have hone := hone hyall
      have hrun := hrun w (Below.refl _ _)
      have hmin : Nat.min m n = min m n := rfl
      obtain ⟨hn, ⟨b, mm, of, cc, hb, hq, hnc, ho⟩ | ⟨hb, hq, rfl, rfl⟩⟩ := inv_own hx
      · obtain ⟨bk, g1, g2⟩ := hI.obj r cs hst
        rw [hb] at g1
        cases g1
        obtain ⟨ca, e', hc, hcs, hcl, hcv⟩ := g2
        by_cases hmz : min m n = 0
        · have hv0 : vals = [] := by rw [hmz] at hvl; simpa using hvl
          subst hv0
          refine ⟨.int .i64 0, .val (.int .i64 0), [], st.set r (some cs), w, .inl ?_, ?_, .val _, ?_⟩
          · rw [hq', hmz] at hrun
            simp [execOp, hop, resolve, invoke, builtin, Builtin.copy_, run_underlying hu, hq, hq', Builtin.lenOf, sizeOf, typeInfo, hinf, hsz, hmin, hmz, hrun, storeCells, goInt]
          · rw [List.append_nil, set_self hst]; exact hI
          · rw [hmz] at hK; simpa using hK
        · obtain ⟨rfl, hm⟩ := ho (by omega)
          have hkn : min m n * s' ≤ n * s' := Nat.mul_le_mul_right _ (Nat.min_le_right _ _)
          have hkm : min m n * s' ≤ m * s' := Nat.mul_le_mul_right _ (Nat.min_le_left _ _)
          obtain ⟨p1, p2, p3⟩ := splice_rel (w0 := X.w0) (β := β) (vals := vals) (zs := ys.take (min m n * s')) (c := ca) (cs := cs) (off := of) (by simp; omega) (fun j v y hv hy => by
            rw [List.getElem?_take] at hy
            split at hy
            · exact hvr j v y hv hy
            · cases hy) (by omega) hcv (by omega) (by omega) (cs.drop (of + vals.length)) (.inl rfl)
          have hst2 := run_storeCells_at X.P b of e' vals 0 ca w hc (by omega) hone
          simp only [Nat.add_zero] at hst2
          refine ⟨_, _, [], _, _, .inl ?_, by rw [List.append_nil]; exact hI.rewrite hr hst hb hc p1 (by rw [p1]; exact p2) p3, .val (.int .i64 (min m n : Nat)), by rw [hvl]; exact hK⟩
          rw [hq'] at hrun
          simp [execOp, hop, resolve, invoke, builtin, Builtin.copy_, run_underlying hu, hq, hq', Builtin.lenOf, sizeOf, typeInfo, hinf, hsz, hmin, hrun, hst2, goInt]
      · have hv0 : vals = [] := by simpa using hvl
        subst hv0
        refine ⟨.int .i64 0, .val (.int .i64 0), [], st.set r (some cs), w, .inl ?_, ?_, .val _, ?_⟩
        · rw [hq'] at hrun
          simp [execOp, hop, resolve, invoke, builtin, Builtin.copy_, run_underlying hu, hq, hq', Builtin.lenOf, sizeOf, typeInfo, hinf, hsz] at hrun ⊢
          simp [hrun, goInt]
        · rw [List.append_nil, set_self hst]; exact hI
        · simpa using hK
    · exact h.elim

/-- An append with room. -/
theorem run_append_fits {t t' ty e e2 : TypeId} {inf : TypeInfo} (hu : X.P.underlying t = some (.slice e)) (hu' : X.P.underlying t' = some (.slice e2)) (hinf : X.P.info? e = some inf)
    {b n c m : Nat} {q : Value} {ca : Array Value} {e' : TypeId} (hc : w.heap[b]? = some (.cells ca e' (0, 0))) {vals : List Value} (hq : ∃ A c', q = .slice A m c') (hone : ∀ v ∈ vals, v.oneCell' = true) (hroom : n + m ≤ c)
    (hfit : n * inf.size + vals.length ≤ ca.size) (hrun : (Builtin.firstCells inf.size m q).run X.P w = .ok vals.toArray w) :
    (Builtin.append_ #[t, t'] ty #[.slice (some ⟨b, 0, none⟩) n c, q]).run X.P w = .ok (.slice (some ⟨b, 0, none⟩) (n + m) c) (w.setRow b (ca.toList.take (n * inf.size) ++ vals ++ ca.toList.drop (n * inf.size + vals.length)).toArray) := by
  obtain ⟨A, c', rfl⟩ := hq
  have hst := run_storeCells_at X.P b (n * inf.size) e' vals 0 ca w hc (by omega) hone
  simp only [Nat.add_zero] at hst
  simp [Builtin.append_, run_underlying hu, run_underlying hu', sizeOf, typeInfo, hinf, Builtin.lenOf, hroom, hrun, add_none, hst]

/-- An append that finds new memory. -/
theorem run_append_new {t t' ty e e2 : TypeId} {inf : TypeInfo} {z : Value} (hu : X.P.underlying t = some (.slice e)) (hu' : X.P.underlying t' = some (.slice e2)) (hinf : X.P.info? e = some inf) (hz : inf.zero = some z)
    {A A2 : Option Addr} {n c m c2 : Nat} {olds news : List Value} (hg : c < n + m) (h63 : n + m ≤ 9223372036854775807) (hfit : Builtin.nextslicecap (n + m) c * inf.bytes ≤ 281474976710656)
    (ho : (Builtin.firstCells inf.size n (.slice A n c)).run X.P w.drew = .ok olds.toArray w.drew) (hn : (Builtin.firstCells inf.size m (.slice A2 m c2)).run X.P w.drew = .ok news.toArray w.drew) :
    (Builtin.append_ #[t, t'] ty #[.slice A n c, .slice A2 m c2]).run X.P w = .ok (.slice (some ⟨w.heap.size, 0, none⟩) (n + m) (grownCap w (n + m) c e))
      (w.drew.alloc (.cells (olds.toArray ++ news.toArray ++ Builtin.zeroCells z.cells (grownCap w (n + m) c e - (n + m))) e)) := by
  have h1 : ¬ (n + m ≤ c) := by omega
  have h2 : ¬ (9223372036854775807 < ((n : Int) + (m : Int))) := by omega
  have h3 : ¬ (281474976710656 < Builtin.nextslicecap (n + m) c * inf.bytes) := by omega
  simp [Builtin.append_, run_underlying hu, run_underlying hu', sizeOf, typeInfo, zeroValue, hinf, hz, Builtin.lenOf, h1, h2, h3, Question.forced, ho, hn, newRow, grownCap]
  congr 2
  apply Array.ext'
  simp

theorem Below.ofDrew (w : World) : Below w.heap.size w w.drew := ⟨rfl, rfl, rfl, Nat.le_refl _, fun _ _ => rfl⟩

/-- An object under another number. -/
theorem Inv.move (hI : Inv X β st w) {r b m : Nat} {cs : List AV} (hr : X.st1.length ≤ r) (hb : β[r]? = some (some (b, m))) (hst : st[r]? = some (some cs)) : Inv X (β ++ [some (b, m)]) (st.set r none ++ [some cs]) w := by
  have hK := hI.kill (r := r) hr
  have hlast : ∀ {q : Nat} {p : Nat × Nat}, (β ++ [some (b, m)])[q]? = some (some p) → (q < β.length ∧ β[q]? = some (some p)) ∨ (q = β.length ∧ p = (b, m)) := by
    intro q y h
    rcases Nat.lt_or_ge q β.length with h' | h'
    · rw [List.getElem?_append_left h'] at h; exact .inl ⟨h', h⟩
    · rw [List.getElem?_append_right h'] at h
      rcases Nat.eq_zero_or_pos (q - β.length) with h0 | h0
      · rw [h0] at h; exact .inr ⟨by omega, by simpa using h.symm⟩
      · rw [List.getElem?_eq_none (by simp; omega)] at h; cases h
  have hlast' : ∀ {q : Nat} {ds : List AV}, (st.set r none ++ [some cs])[q]? = some (some ds) → (q < st.length ∧ q ≠ r ∧ st[q]? = some (some ds)) ∨ (q = st.length ∧ ds = cs) := by
    intro q y h
    rcases Nat.lt_or_ge q st.length with h' | h'
    · rw [List.getElem?_append_left (by simpa using h'), List.getElem?_set] at h
      by_cases he : r = q
      · rw [if_pos he] at h; split at h <;> cases h
      · rw [if_neg he] at h; exact .inl ⟨h', fun e => he e.symm, h⟩
    · rw [List.getElem?_append_right (by simpa using h')] at h
      simp only [List.length_set] at h
      rcases Nat.eq_zero_or_pos (q - st.length) with h0 | h0
      · rw [h0] at h; exact .inr ⟨by omega, by simpa using h.symm⟩
      · rw [List.getElem?_eq_none (by simp; omega)] at h; cases h
  refine ⟨hI.b0, hI.b1, by simp [hI.len], ?_, ?_, ?_, ?_, ?_, ?_⟩
  · obtain ⟨y, hy⟩ := hK.stp; exact ⟨y ++ [some cs], by rw [hy]; simp⟩
  · obtain ⟨y, hy⟩ := hI.bep; exact ⟨y ++ [some (b, m)], by rw [← List.append_assoc, ← hy]⟩
  · intro q b' m' hq h
    rcases hlast h with ⟨_, h⟩ | ⟨_, h⟩
    · exact hI.nw q b' m' hq h
    · cases h; exact hI.nw r b m hr hb
  · intro q b' m' h
    rcases hlast h with ⟨_, h⟩ | ⟨_, h⟩
    · exact hI.ow q b' m' h
    · cases h; exact hI.ow r b m hb
  · intro q ds hq
    have key : ∀ {bk ds}, ObjRel X.w0 β w bk ds → ObjRel X.w0 (β ++ [some (b, m)]) w bk ds := by
      intro bk ds h3
      cases bk with
      | none => exact h3
      | some p =>
        obtain ⟨b, m⟩ := p
        obtain ⟨c', e', h4, h5, h6, h7⟩ := h3
        exact ⟨c', e', h4, h5, h6, fun j x hx => by obtain ⟨u, h8, h9⟩ := h7 j x hx; exact ⟨u, h8, h9.ext _⟩⟩
    rcases hlast' hq with ⟨h1, _, h⟩ | ⟨h1, rfl⟩
    · obtain ⟨bk, h2, h3⟩ := hI.obj q ds h
      exact ⟨bk, by rw [List.getElem?_append_left (by rw [hI.len]; exact h1)]; exact h2, key h3⟩
    · obtain ⟨bk, h2, h3⟩ := hI.obj r ds hst
      rw [hb] at h2
      cases h2
      exact ⟨_, by rw [h1, ← hI.len]; simp, key h3⟩
  · intro q q' ds ds' b' m1 m2 h1 h2 h3 h4
    have hlen := hI.len
    rcases hlast h3 with ⟨g1, g2⟩ | ⟨g1, g2⟩ <;> rcases hlast h4 with ⟨g3, g4⟩ | ⟨g3, g4⟩
    · rcases hlast' h1 with ⟨k1, _, k2⟩ | ⟨k1, k2⟩
      · rcases hlast' h2 with ⟨k3, _, k4⟩ | ⟨k3, k4⟩
        · exact hI.inj q q' ds ds' b' m1 m2 k2 k4 g2 g4
        · omega
      · omega
    · cases g4
      rcases hlast' h1 with ⟨k1, k0, k2⟩ | ⟨k1, k2⟩
      · exact absurd (hI.inj q r ds cs b m1 m k2 hst g2 hb) k0
      · omega
    · cases g2
      rcases hlast' h2 with ⟨k1, k0, k2⟩ | ⟨k1, k2⟩
      · exact absurd (hI.inj q' r ds' cs b m2 m k2 hst g4 hb) k0
      · omega
    · omega

/-- Nothing appended to nothing. -/
theorem run_append_none {t t' ty e e2 : TypeId} {inf : TypeInfo} (hu : X.P.underlying t = some (.slice e)) (hu' : X.P.underlying t' = some (.slice e2)) (hinf : X.P.info? e = some inf) {A A2 : Option Addr} {c c2 : Nat}
    (hrun : (Builtin.firstCells inf.size 0 (.slice A2 0 c2)).run X.P w = .ok #[] w) : (Builtin.append_ #[t, t'] ty #[.slice A 0 c, .slice A2 0 c2]).run X.P w = .ok (.slice A 0 c) w := by
  cases A <;> simp [Builtin.append_, run_underlying hu, run_underlying hu', sizeOf, typeInfo, hinf, Builtin.lenOf, hrun, storeCells]

theorem e_append {xs : Array Operand} {ts : Array TypeId} (hop : o.op = .call ⟨.builtin .append, xs, ts⟩) (hI : Inv X β st w) (hS : SRel X N β s a) (h : vcE X (.blt .append ts.toList (xs.toList.map (ev s))) st K) : Eff X β w a o K := by
  unfold vcE at h
  simp only at h
  generalize hl : xs.toList.map (ev s) = l at h
  generalize htl : ts.toList = tl at h
  split at h <;> first | contradiction | skip
  · rename_i t t' x y _
    obtain ⟨z, z', rfl, e1, e2⟩ := two_ops hl
    obtain rfl := two_ts htl
    split at h
    · rename_i e sz by_ ez zz e' sz' by' ez' zz' ht ht'
      obtain ⟨m, ys, hslc, hyl, hyall, h⟩ := h
      obtain ⟨hu, inf, zv, hinf, hsz, hby, hz, hez, hel, hpos⟩ := ti_slice ht
      obtain ⟨hu', _⟩ := ti_slice ht'
      have hx := hS.eval z
      rw [e1] at hx
      have hy := hS.eval z'
      rw [e2] at hy
      obtain ⟨A2, c2, vals, hq', hvl, hrun, hvr, hone⟩ := first_cells hI hy hslc hyl m (Nat.le_refl _)
      have hone := hone hyall
      have hmn : m ≤ 9223372036854775807 := (slc_read hI hy hslc).1
      have run : ∀ q v w', a.eval z = q → (∀ ty, (Builtin.append_ #[t, t'] ty #[q, .slice A2 m c2]).run X.P w = .ok v w') → (execOp a.eval o).run X.P w = .ok (.value v) w' := fun q v w' h1 h2 => by
        simp [execOp, hop, resolve, invoke, builtin, h1, hq', h2]
      rw [hq'] at hrun
      -- new memory: of what was there n elements, then the new ones
      have fresh : ∀ (n c : Nat) (A : Option Addr) (cs : List AV) (olds : List Value) (st' : St), a.eval z = .slice A n c → c < n + m → n + m ≤ 9223372036854775807 → (n + m) * by_ ≤ 140737488355328 → Inv X β st' w → st'.length = st.length →
          (Builtin.firstCells inf.size n (.slice A n c)).run X.P w.drew = .ok olds.toArray w.drew → olds.length = cs.length → cs.length = n * sz → (∀ (j : Nat) v y, olds[j]? = some v → cs[j]? = some y → VRel X.w0 β v y) →
          K (.own st.length 0 (n + m) sz) (st' ++ [some (cs ++ ys)]) → Eff X β w a o K := by
        intro n c A cs olds st' hq hcc h63 hbytes hI' hst' hol holl hcl hor hK
        have hlen := hI'.len
        have hI2 : Inv X β st' w.drew := hI'.grow_below (Below.ofDrew w)
        have hge := grownCap_ge w (n + m) c e
        have hle := grownCap_le_maxLen w (n + m) c e h63
        have hinv := hI2.alloc (olds.toArray ++ vals.toArray ++ Builtin.zeroCells zv.cells (grownCap w (n + m) c e - (n + m))) e (cs ++ ys) (by simp; omega) (fun j x hx => by
          rw [List.getElem?_append] at hx
          by_cases hj : j < cs.length
          · rw [if_pos hj] at hx
            have hlt : j < olds.length := by omega
            refine ⟨olds[j], ?_, hor j _ x (List.getElem?_eq_getElem hlt) hx⟩
            rw [Array.getElem?_append_left (by simp; omega), Array.getElem?_append_left (by simpa using hlt)]
            simp [hlt]
          · rw [if_neg hj] at hx
            have hlt : j - cs.length < vals.length := by have := (List.getElem?_eq_some_iff.1 hx).1; omega
            refine ⟨vals[j - cs.length], ?_, hvr _ _ x (List.getElem?_eq_getElem hlt) hx⟩
            rw [Array.getElem?_append_left (by simp; omega), Array.getElem?_append_right (by simp; omega)]
            simp [holl, hlt])
        have hsizes : (olds.toArray ++ vals.toArray ++ Builtin.zeroCells zv.cells (grownCap w (n + m) c e - (n + m))).size = grownCap w (n + m) c e * sz := by
          have hzs : zv.cells.size = sz := by rw [← hel, ← hez]; simp
          simp only [Array.size_append, List.size_toArray, holl, hcl, hvl, Builtin.zeroCells, Array.size_map, Array.size_range, hzs]
          rw [← Nat.add_mul, ← Nat.add_mul]
          congr 1
          omega
        have hlt := run_append_new (X := X) (w := w) (t := t) (t' := t') (ty := 0) hu hu' hinf hz hcc h63 (growslice_fits hcc (by rw [hby]; exact hbytes)) hol (by rw [hsz]; exact hrun w.drew (Below.ofDrew w))
        refine ⟨_, .own β.length 0 (n + m) sz, _, _, _, .inl (run _ _ _ hq fun ty => run_append_new hu hu' hinf hz hcc h63 (growslice_fits hcc (by rw [hby]; exact hbytes)) hol (by rw [hsz]; exact hrun w.drew (Below.ofDrew w))), hinv, ?_, by rw [hlen, hst']; exact hK⟩
        exact .own (b := w.heap.size) (m := (olds.toArray ++ vals.toArray ++ Builtin.zeroCells zv.cells (grownCap w (n + m) c e - (n + m))).size) (by rw [List.getElem?_append_right (Nat.le_refl _), Nat.sub_self]; rfl) (by omega) hge (fun _ => ⟨rfl, by rw [hsizes]; omega⟩)
      split at h
      · rename_i r n s'
        obtain ⟨rfl, hr, cs, hst, hncs, hbytes, h63, hK⟩ := h
        have hrl : r < st.length := (List.getElem?_eq_some_iff.1 hst).1
        obtain ⟨bk, g1, g2⟩ := hI.obj r cs hst
        have hks : slc st (.own r 0 n s') = some (n, cs.take (n * s')) := by simp [slc, hst]
        obtain ⟨hn, ⟨b, mm, of, cc, hb, hq, hnc, ho⟩ | ⟨hb, hq, e0, rfl⟩⟩ := inv_own hx
        · rw [hb] at g1
          cases g1
          obtain ⟨ca, e'', hc, hcs, hcl, hcv⟩ := g2
          by_cases hroom : n + m ≤ cc
          · by_cases hc0 : 0 < cc
            · obtain ⟨rfl, hm⟩ := ho hc0
              have hle : (n + m) * s' ≤ cc * s' := Nat.mul_le_mul_right _ hroom
              rw [Nat.add_mul] at hle
              obtain ⟨p1, p2, p3⟩ := splice_rel (w0 := X.w0) (β := β) (vals := vals) (zs := ys) (c := ca) (cs := cs) (off := n * s') (by omega) hvr (by omega) hcv hncs (by omega) [] (.inr rfl)
              simp only [List.append_nil] at p2 p3
              have hinv := hI.rewrite hr hst hb hc p1 (by rw [p1]; exact p2) p3
              have hmv := hinv.move (r := r) (cs := cs.take (n * s') ++ ys) hr hb (by rw [List.getElem?_set, if_pos rfl, if_pos hrl])
              refine ⟨_, .own β.length 0 (n + m) s', _, _, _, .inl (run _ _ _ hq fun ty => run_append_fits hu hu' hinf hc ⟨A2, c2, rfl⟩ hone hroom (by rw [hsz]; omega) (by rw [hsz]; exact hrun w (Below.refl _ _))), by rw [hsz]; exact hmv,
                .own (b := b) (m := mm) (by simp) (by omega) hroom (fun h => ⟨rfl, (ho h).2⟩), by rw [hI.len, List.set_set]; exact hK⟩
            · have hm0 : m = 0 := by omega
              have hn0 : n = 0 := by omega
              have hc0 : cc = 0 := by omega
              subst hm0; subst hn0; subst hc0
              have hys : ys = [] := by simpa using hyl
              have hvs : vals = [] := by simpa using hvl
              subst hys; subst hvs
              have hinv := (hI.rewrite (ds := []) hr hst hb hc (c' := ca) rfl (by simp) (fun j x hx => by simp at hx)).move (r := r) (cs := []) hr hb (by rw [List.getElem?_set, if_pos rfl, if_pos hrl])
              rw [setRow_self w b ca e'' (0, 0) hc] at hinv
              refine ⟨_, .own β.length 0 0 s', _, _, _, .inl (run _ _ _ hq fun ty => run_append_none hu hu' hinf (by rw [hsz]; exact hrun w (Below.refl _ _))), hinv, .own (b := b) (m := mm) (by simp) (by omega) (Nat.le_refl _) (fun h => by omega), by rw [hI.len, List.set_set]; simpa using hK⟩
          · obtain ⟨A1, c1, olds, hq1, hol, hrun1, hor, _⟩ := first_cells (k := n) (sz := s') hI hx hks (by simp; omega) (Nat.le_refl _)
            rw [hq] at hq1 hrun1
            exact fresh n cc _ (cs.take (n * s')) olds (st.set r none) hq (by omega) h63 hbytes (hI.kill hr) (by simp) (by rw [hsz]; exact hrun1 w.drew (Below.ofDrew w)) (by rw [hol]; simp; omega) (by simp; omega) hor hK
        · by_cases hm0 : m = 0
          · subst hm0
            have hys : ys = [] := by simpa using hyl
            have hvs : vals = [] := by simpa using hvl
            subst hys; subst hvs
            refine ⟨_, .own β.length 0 0 s', _, _, _, .inl (run _ _ _ hq fun ty => run_append_none hu hu' hinf (by rw [hsz]; exact hrun w (Below.refl _ _))), (hI.kill (r := r) hr).phantom, .nil (by simp), by rw [hI.len]; simpa using hK⟩
          · have h0 : cs.take (0 * s') = [] := by simp
            rw [h0] at hK
            exact fresh 0 0 _ [] [] (st.set r none) hq (by omega) (by omega) hbytes (hI.kill hr) (by simp) (by simp [Builtin.firstCells]) rfl (by simp) (fun j v y hv => by simp at hv) hK
      · obtain ⟨hbytes, h63, hK⟩ := h
        have hq := inv_val hx
        by_cases hm0 : m = 0
        · subst hm0
          have hys : ys = [] := by simpa using hyl
          have hvs : vals = [] := by simpa using hvl
          subst hys; subst hvs
          refine ⟨_, .own β.length 0 0 sz, _, _, _, .inl (run _ _ _ hq fun ty => run_append_none hu hu' hinf (by rw [hsz]; exact hrun w (Below.refl _ _))), hI.phantom, .nil (by simp), by rw [hI.len]; exact hK⟩
        · exact fresh 0 0 _ [] [] st hq (by omega) (by omega) (by simpa using hbytes) hI rfl (by simp [Builtin.firstCells]) rfl (by simp) (fun j v y hv => by simp at hv) (by simpa using hK)
      · exact h.elim
    · exact h.elim

/-- Whatever operation makes memory or writes to it, a call excepted. -/
def effA : AOp → Bool
  | .alloc _ | .box _ _ | .buildSl _ _ _ | .store _ _ _ | .mkSl _ _ _ => true
  | .blt .append _ _ | .blt .copy _ _ => true
  | _ => false

theorem eff_sound (hI : Inv X β st w) (hS : SRel X N β s a) (hp : effA (aop s o.op) = true) (h : vcE X (aop s o.op) st K) : Eff X β w a o K := by
  cases hop : o.op <;> rw [hop] at hp h
  case alloc t => exact e_alloc hop hI h
  case box t x => exact e_box hop hI hS h
  case buildSlice t n ps => exact e_buildSl hop hI hS h
  case store t x y => exact e_store hop hI hS h
  case makeSlice t x y => exact e_mkSl hop hI hS h
  case call c =>
    obtain ⟨cal, xs, ts⟩ := c
    cases cal with
    | builtin b =>
      cases b <;> first | exact e_append hop hI hS h | exact e_copy hop hI hS h | (exfalso; simp [aop, effA] at hp)
    | _ => exfalso; simp [aop, effA] at hp
  all_goals (exfalso; simp [aop, effA] at hp)

/-- Any operation. -/
theorem op_sound (hI : Inv X β st w) (hS : SRel X N β s a) (h : vcE X (aop s o.op) st K) {next : Act → World → Prop} {Q : Exit → Act → World → Prop}
    (hn : ∀ v x ex st' w', Inv X (β ++ ex) st' w' → VRel X.w0 (β ++ ex) v x → K x st' → next (a.put o.dst v) w') : o.wp X.P a w next Q := by
  unfold Oper.wp
  by_cases hp : pureA (aop s o.op) = true
  · obtain ⟨v, x, h1, h2, h3⟩ := pure_sound hI hS hp h
    rw [h1 w (Below.refl _ _), Oper.upon_value]
    exact hn v x [] st w (by rw [List.append_nil]; exact hI) (by rw [List.append_nil]; exact h2) h3
  · by_cases he : effA (aop s o.op) = true
    · obtain ⟨v, x, ex, st', w', h1, h2, h3, h4⟩ := eff_sound hI hS he h
      rcases h1 with h1 | ⟨h1, rfl⟩
      · rw [h1, Oper.upon_value]; exact hn v x ex st' w' h2 h3 h4
      · rw [h1, Oper.upon_skip]; exact hn undef x ex st' w' h2 h3 h4
    · cases hop : o.op <;> rw [hop] at hp he h <;> try (exfalso; first | exact hp rfl | exact he rfl | exact h)
      case call c =>
        obtain ⟨cal, xs, ts⟩ := c
        cases cal with
        | builtin b => cases b <;> first | exact absurd rfl hp | exact absurd rfl he | (exfalso; unfold vcE at h; simp only [aop] at h)
        | value f =>
          obtain ⟨g, vs, h1, h2⟩ := e_call hop hI hS h
          rw [h1, Oper.upon_enter]
          refine h2.mono fun e w' ⟨v, x, ex, st', he, hI', hx, hK⟩ => ?_
          subst he
          exact hn v x ex st' w' hI' hx hK
        | invoke r m => exact h.elim

end
end Go.Proofs.Pv
