/- The engine's fourth part: operations that leave the world alone do what was said of them. -/
import Derived.Test.YtmclabehpfpnnaaDoorE3
set_option linter.unusedSimpArgs false
set_option linter.unusedVariables false
namespace Go.Proofs.Pv
open Go Go.RowKit

section
variable {X : Cx} {N : Nat} {β : Bk} {st : St} {w : World} {s : Sl} {a : Act}

/-- Cells that are there, and stay while the world grows alone. -/
def Readable (w0 : World) (β : Bk) (w : World) (ad : Addr) (cs : List AV) : Prop :=
  ∃ u : Nat → Value, (∀ j, j < cs.length → ∀ w', Below w.heap.size w w' → w'.cell? (ad.add j) = some (u j)) ∧ ∀ j x, cs[j]? = some x → VRel w0 β (u j) x

theorem cell_w0 (hI : Inv X β st w) {p : Addr} {v : Value} (h : X.w0.cell? p = some v) {w' : World} (hb : Below w.heap.size w w') : w'.cell? p = some v := by
  have h1 := World.block_lt_of_cell? X.w0 p h
  have hB : Below X.w0.heap.size X.w0 w' := (hI.b0.trans (hI.b1.mono hI.b0.size)).trans (hb.mono (Nat.le_trans hI.b0.size hI.b1.size))
  rw [hB.cell h1]; exact h

theorem readable_of_imp (hI : Inv X β st w) {ad : Addr} {cs : List AV} (h : VRel X.w0 β (.pointer (some ad)) (.imp cs)) : Readable X.w0 β w ad cs := by
  cases h with
  | imp u hr hv => exact ⟨u, fun j hj w' hb => cell_w0 hI (hr j hj) hb, hv⟩

theorem readable_im (hI : Inv X β st w) {A : Option Addr} {n c : Nat} {cs : List AV} (h : VRel X.w0 β (.slice A n c) (.im n cs)) (hne : 0 < cs.length) : ∃ ad, A = some ad ∧ Readable X.w0 β w ad cs := by
  cases h with
  | im u hn hc hr hv =>
    obtain ⟨ad, rfl, _⟩ := hr 0 hne
    exact ⟨ad, rfl, u, fun j hj w' hb => by obtain ⟨ad', e, hc⟩ := hr j hj; cases e; exact cell_w0 hI hc hb, hv⟩

theorem readable_obj (hI : Inv X β st w) {r b m : Nat} {cs : List AV} (hr : st[r]? = some (some cs)) (hb : β[r]? = some (some (b, m))) : Readable X.w0 β w ⟨b, 0, none⟩ cs := by
  obtain ⟨bk, h1, h2⟩ := hI.obj r cs hr
  rw [hb] at h1
  cases h1
  obtain ⟨c, e, hc, hs, hl, hv⟩ := h2
  refine ⟨fun j => c.getD j undef, fun j hj w' hb' => ?_, fun j x hx => ?_⟩
  · rw [add_none, Nat.zero_add, cell_of_heap (by rw [hb'.block b (hI.ow r b m hb).2]; exact hc)]
    have : j < c.size := by omega
    simp [Array.getD_eq_getD_getElem?, this]
  · obtain ⟨u, hu, hv'⟩ := hv j x hx
    simpa [Array.getD_eq_getD_getElem?, hu] using hv'

theorem Readable.drop {w0 : World} {ad : Addr} {cs : List AV} (h : Readable w0 β w ad cs) (k : Nat) : Readable w0 β w (ad.add k) (cs.drop k) := by
  obtain ⟨u, h1, h2⟩ := h
  refine ⟨fun j => u (k + j), fun j hj w' hb => ?_, fun j x hx => ?_⟩
  · rw [add_add]; exact h1 (k + j) (by simp at hj; omega) w' hb
  · exact h2 _ _ (by simpa using hx)

theorem add_zero' (ad : Addr) : ad.add 0 = ad := by simp [Addr.add]

/-- A part of a row. -/
theorem partA_drop {cs : List AV} {off sz : Nat} {ag : Bool} {K : AV → Prop} (h : partA cs off sz ag K) : partA (cs.drop off) 0 sz ag K := by
  unfold partA at *
  split
  · rename_i hg; rw [if_pos hg] at h; simp at h ⊢; refine ⟨?_, h.2⟩; omega
  · rename_i hg; rw [if_neg hg] at h; simpa using h

theorem run_load_readable {t : TypeId} (hg : (ti X.P t).good = true) {ad : Addr} {cs : List AV} (hR : Readable X.w0 β w ad cs) {K : AV → Prop} (h : partA cs 0 (ti X.P t).size (ti X.P t).isAgg K) :
    ∃ v x, (∀ w', Below w.heap.size w w' → (loadVar t ad).run X.P w' = .ok v w') ∧ VRel X.w0 β v x ∧ K x := by
  obtain ⟨d, i, z, hd, hi, hz, hzs, hsz, hzz, hag⟩ := ti_good hg
  obtain ⟨u, h1, h2⟩ := hR
  unfold partA at h
  by_cases hA : aggT X.P t = true
  · rw [hag, hsz, if_pos hA] at h
    obtain ⟨hl, hK⟩ := h
    refine ⟨.agg ((List.range i.size).map u).toArray, .agg ((cs.drop 0).take i.size), fun w' hb => ?_, ?_, hK⟩
    · have hlc := run_loadCells (P := X.P) w' ad i.size u (fun j hj => h1 j (by omega) w' hb)
      have hagg : (isAgg t).run X.P w' = .ok true w' := by
        unfold aggT at hA
        rw [hd] at hA
        simp only [isAgg, Sem.run_bind, run_underlying hd, Result.andThen_ok]
        cases d <;> simp_all
      simp [loadVar, hagg, sizeOf, typeInfo, hi, hlc]
    · refine .agg (by simp; omega) (fun j v x hv hx => ?_)
      simp only [List.getElem?_toArray, List.getElem?_map] at hv
      have hj : j < i.size := by
        rcases Nat.lt_or_ge j i.size with h' | h'
        · exact h'
        · simp [List.getElem?_eq_none (show (List.range i.size).length ≤ j by simpa using h')] at hv
      simp only [List.getElem?_range hj, Option.map_some, Option.some.injEq] at hv
      subst hv
      refine h2 j x ?_
      simpa [List.getElem?_take, hj] using hx
  · rw [hag, if_neg hA] at h
    cases hc : cs[0]? with
    | none => simp [hc] at h
    | some x =>
      rw [hc] at h
      have h0 : 0 < cs.length := (List.getElem?_eq_some_iff.1 hc).1
      refine ⟨u 0, x, fun w' hb => ?_, h2 0 x hc, h⟩
      have hcell := h1 0 h0 w' hb
      rw [add_zero'] at hcell
      have hagg : (isAgg t).run X.P w' = .ok false w' := by
        unfold aggT at hA
        rw [hd] at hA
        simp only [isAgg, Sem.run_bind, run_underlying hd, Result.andThen_ok]
        cases d <;> simp_all
      simp [loadVar, hagg, hcell]

theorem cells_of_agg {w0 : World} {v : Value} {cs : List AV} (h : VRel w0 β v (.agg cs)) : ∃ vs : Array Value, v = .agg vs ∧ vs.size = cs.length ∧ ∀ (j : Nat) u x, vs[j]? = some u → cs[j]? = some x → VRel w0 β u x := by
  cases h with
  | agg hs hv => exact ⟨_, rfl, hs, hv⟩

theorem leaf_one {w0 : World} {v : Value} {x : AV} (h : VRel w0 β v x) (hl : leaf x = true) : v.oneCell' = true := by
  cases h <;> simp_all [leaf, Value.oneCell']

theorem one_cells {v : Value} (h : v.oneCell' = true) : v.cells = #[v] := by
  cases v <;> simp_all [Value.oneCell', Value.cells]

/-- The cells of a value, one by one. -/
theorem cells_rel {w0 : World} {v : Value} {x : AV} (h : VRel w0 β v x) (hk : okCells x = true) :
    v.cells.size = (cellsA x).length ∧ (∀ (j : Nat) u y, v.cells[j]? = some u → (cellsA x)[j]? = some y → VRel w0 β u y) ∧ ∀ u ∈ v.cells.toList, u.oneCell' = true := by
  have key : leaf x = true → cellsA x = [x] → v.cells.size = (cellsA x).length ∧ (∀ (j : Nat) u y, v.cells[j]? = some u → (cellsA x)[j]? = some y → VRel w0 β u y) ∧ ∀ u ∈ v.cells.toList, u.oneCell' = true := by
    intro hl hc
    have h1 := leaf_one h hl
    rw [one_cells h1, hc]
    refine ⟨rfl, fun j u y hu hy => ?_, by simpa using h1⟩
    rcases j with _ | j
    · simp at hu hy; subst hu; subst hy; exact h
    · simp at hu
  cases x with
  | agg cs =>
    obtain ⟨vs, rfl, hs, hv⟩ := cells_of_agg h
    refine ⟨hs, hv, fun u hu => ?_⟩
    obtain ⟨j, hj, rfl⟩ := List.getElem_of_mem hu
    have hj' : j < vs.size := by simpa [Value.cells] using hj
    have hx : cs[j]? = some cs[j] := List.getElem?_eq_getElem (by omega)
    have hlf : leaf (cs[j]'(by omega)) = true := by
      simp only [okCells, List.all_eq_true] at hk
      exact hk _ (List.getElem_mem _)
    exact leaf_one (hv j _ _ (by simp [Value.cells, hj']) hx) hlf
  | _ => exact key (by simpa [okCells] using hk) rfl

end
end Go.Proofs.Pv

/- The engine's fifth part: each operation that leaves the world alone does what was said. -/
namespace Go.Proofs.Pv
open Go Go.RowKit

section
variable {X : Cx} {N : Nat} {β : Bk} {st : St} {w : World} {s : Sl} {a : Act}

/-- It yields one value, in every world that has grown alone. -/
def Yld (X : Cx) (β : Bk) (w : World) (a : Act) (o : Oper) (st : St) (K : AV → St → Prop) : Prop :=
  ∃ v x, (∀ w', Below w.heap.size w w' → (execOp a.eval o).run X.P w' = .ok (.value v) w') ∧ VRel X.w0 β v x ∧ K x st

theorem inv_val {w0 : World} {q v : Value} (h : VRel w0 β q (.val v)) : q = v := by cases h; rfl
theorem inv_ptr {w0 : World} {q : Value} {r off : Nat} (h : VRel w0 β q (.ptr r off)) : ∃ b m, β[r]? = some (some (b, m)) ∧ q = .pointer (some ⟨b, off, none⟩) := by
  cases h with
  | ptr hb => exact ⟨_, _, hb, rfl⟩
theorem inv_imp {w0 : World} {q : Value} {cs : List AV} (h : VRel w0 β q (.imp cs)) : ∃ ad, q = .pointer (some ad) := by cases h; exact ⟨_, rfl⟩
theorem inv_im {w0 : World} {q : Value} {n : Nat} {cs : List AV} (h : VRel w0 β q (.im n cs)) : ∃ A c, q = .slice A n c ∧ n ≤ c ∧ n ≤ 9223372036854775807 := by
  cases h with
  | im u hn hc _ _ => exact ⟨_, _, rfl, hc, hn⟩
theorem inv_own {w0 : World} {q : Value} {r off n sz : Nat} (h : VRel w0 β q (.own r off n sz)) :
    n ≤ 9223372036854775807 ∧ ((∃ b m o c, β[r]? = some (some (b, m)) ∧ q = .slice (some ⟨b, o, none⟩) n c ∧ n ≤ c ∧ (0 < c → o = off ∧ off + c * sz ≤ m)) ∨ (β[r]? = some none ∧ q = .slice none 0 0 ∧ off = 0 ∧ n = 0)) := by
  cases h with
  | own hb hn hc ho => exact ⟨hn, .inl ⟨_, _, _, _, hb, rfl, hc, ho⟩⟩
  | nil hb => exact ⟨by omega, .inr ⟨hb, rfl, rfl, rfl⟩⟩
theorem inv_tup {w0 : World} {q : Value} {cs : List AV} (h : VRel w0 β q (.tup cs)) : ∃ vs : Array Value, q = .tuple vs ∧ vs.size = cs.length ∧ ∀ (j : Nat) u x, vs[j]? = some u → cs[j]? = some x → VRel w0 β u x := by
  cases h with
  | tup hs hv => exact ⟨_, rfl, hs, hv⟩
theorem inv_fn {w0 : World} {q : Value} {f : Fn} {xs ys : List AV} (h : VRel w0 β q (.fn f xs ys)) : ∃ as bs : Array Value, q = .func f as bs ∧ VRels w0 β as xs ∧ VRels w0 β bs ys := by
  cases h with
  | fn ha hav hb hbv => exact ⟨_, _, rfl, ⟨ha, hav⟩, ⟨hb, hbv⟩⟩

variable {o : Oper} {K : AV → St → Prop}

theorem y_mv {y : Operand} (hop : o.op = .move y ∨ o.op = .assign y) (hS : SRel X N β s a) (h : vcE X (.mv (ev s y)) st K) : Yld X β w a o st K := by
  refine ⟨a.eval y, ev s y, fun w' _ => ?_, hS.eval y, h⟩
  rcases hop with hop | hop <;> simp [execOp, hop]

theorem y_pick {c x y : Operand} (hop : o.op = .pick c x y) (hS : SRel X N β s a) (h : vcE X (.pick (ev s c) (ev s x) (ev s y)) st K) : Yld X β w a o st K := by
  have hc := hS.eval c
  unfold vcE at h
  simp only at h
  cases hcv : ev s c with
  | val v =>
    rw [hcv] at hc h
    cases v with
    | bool t =>
      cases hc' : a.eval c <;> rw [hc'] at hc <;> cases hc
      cases t with
      | true => exact ⟨a.eval x, ev s x, fun w' _ => by simp [execOp, hop, hc', asBool], hS.eval x, by simpa using h⟩
      | false => exact ⟨a.eval y, ev s y, fun w' _ => by simp [execOp, hop, hc', asBool], hS.eval y, by simpa using h⟩
    | _ => exact h.elim
  | _ => rw [hcv] at h; exact h.elim

theorem y_load {t : TypeId} {y : Operand} (hop : o.op = .load t y) (hI : Inv X β st w) (hS : SRel X N β s a) (h : vcE X (.load t (ev s y)) st K) : Yld X β w a o st K := by
  have hv := hS.eval y
  have fin : ∀ ad cs, a.eval y = .pointer (some ad) → Readable X.w0 β w ad cs → (ti X.P t).good = true → partA cs 0 (ti X.P t).size (ti X.P t).isAgg (fun x => K x st) → Yld X β w a o st K := by
    intro ad cs hy hR hg hp
    obtain ⟨v, x, h1, h2, h3⟩ := run_load_readable hg hR hp
    exact ⟨v, x, fun w' hb => by simp [execOp, hop, Instr.loadAt, Instr.sureAddr, hy, h1 w' hb], h2, h3⟩
  unfold vcE at h
  simp only at h
  cases hx : ev s y with
  | ptr r off =>
    rw [hx] at hv h
    simp only at h
    cases hv' : a.eval y <;> rw [hv'] at hv <;> cases hv
    rename_i b m hb
    cases hst : st[r]? with
    | none => simp [hst] at h
    | some c =>
      cases c with
      | none => simp [hst] at h
      | some cs =>
        simp only [hst] at h
        have hR := (readable_obj hI hst hb).drop off
        rw [add_none, Nat.zero_add] at hR
        exact fin _ _ hv' hR h.1 (partA_drop h.2)
  | imp cs =>
    rw [hx] at hv h
    simp only at h
    cases hv' : a.eval y <;> rw [hv'] at hv <;> cases hv
    rename_i ad u hr hv2
    exact fin _ _ hv' (readable_of_imp hI (.imp u hr hv2)) h.1 h.2
  | val v =>
    rw [hx] at hv h
    simp only at h
    obtain ⟨cs, hc, hl⟩ := h
    have hc' : VRel X.w0 β (a.eval y) (.imp cs) := by rw [inv_val hv]; simpa using hc.ext β
    obtain ⟨ad, hv'⟩ := inv_imp hc'
    exact fin _ _ hv' (readable_of_imp hI (hv' ▸ hc')) hl.1 hl.2
  | _ => rw [hx] at h; exact h.elim

theorem y_nilCk {y : Operand} (hop : o.op = .nilCheck y) (hS : SRel X N β s a) (h : vcE X (.nilCk (ev s y)) st K) : Yld X β w a o st K := by
  have hv := hS.eval y
  unfold vcE at h
  simp only at h
  refine ⟨a.eval y, ev s y, fun w' _ => ?_, hv, ?_⟩
  · cases hx : ev s y with
    | ptr r off => rw [hx] at hv; cases hv' : a.eval y <;> rw [hv'] at hv <;> cases hv; simp [execOp, hop, hv']
    | imp cs => rw [hx] at hv; cases hv' : a.eval y <;> rw [hv'] at hv <;> cases hv; simp [execOp, hop, hv']
    | fn f xs ys =>
      rw [hx] at hv h
      cases f with
      | func g => cases hv' : a.eval y <;> rw [hv'] at hv <;> cases hv; simp [execOp, hop, hv']
      | _ => exact h.elim
    | val v =>
      rw [hx] at hv h
      cases v with
      | pointer p =>
        cases p with
        | none => exact h.elim
        | some ad => cases hv' : a.eval y <;> rw [hv'] at hv <;> cases hv; simp [execOp, hop, hv']
      | _ => exact h.elim
    | _ => rw [hx] at h; exact h.elim
  · cases hx : ev s y with
    | fn f xs ys => rw [hx] at h; cases f <;> first | exact h | exact h.elim
    | val v =>
      rw [hx] at h
      cases v with
      | pointer p => cases p <;> first | exact h | exact h.elim
      | _ => exact h.elim
    | ptr r off => rw [hx] at h; exact h
    | imp cs => rw [hx] at h; exact h
    | _ => rw [hx] at h; exact h.elim

theorem binI_run {op : BinOp} {k : IntKind} {x y : Int} {Kv : Value → Prop} (h : binI op k x y Kv) (t : TypeId) :
    ∃ r, (∀ w', (binOp op t (.int k x) (.int k y)).run X.P w' = .ok r w') ∧ Kv r := by
  cases op <;> simp only [binI] at h
  case quo => exact ⟨_, fun w' => by simp [binOp, Op.intDiv, h.1], h.2⟩
  case rem => exact ⟨_, fun w' => by simp [binOp, Op.intDiv, h.1], h.2⟩
  case shl => exact ⟨_, fun w' => by simp [binOp, Op.shift, Int.not_lt.2 h.1], h.2⟩
  case shr =>
    refine ⟨_, fun w' => ?_, h.2⟩
    simp only [binOp, Op.shift, Int.not_lt.2 h.1, if_false]
    rw [Int.fdiv_eq_ediv_of_nonneg _ (Int.le_of_lt (Int.pow_pos (by decide)))]
    rfl
  case and => exact ⟨_, fun w' => by simp [binOp, Op.intBits, bitV], h⟩
  case or => exact ⟨_, fun w' => by simp [binOp, Op.intBits, bitV], h⟩
  case xor => exact ⟨_, fun w' => by simp [binOp, Op.intBits, bitV], h⟩
  case andNot => exact ⟨_, fun w' => by simp [binOp, Op.intBits, bitV], h⟩
  all_goals exact ⟨_, fun w' => by simp [binOp, Op.intArith, Op.intCmp], h⟩

theorem eqGuard_int {op : BinOp} {t : TypeId} {x y : Operand} {k k' : IntKind} {p q : Int} {w' : World} : (eqGuard op t x y (.int k p) (.int k' q)).run X.P w' = .ok () w' := by
  unfold eqGuard; split <;> simp
theorem eqGuard_bool {op : BinOp} {t : TypeId} {x y : Operand} {p q : Bool} {w' : World} : (eqGuard op t x y (.bool p) (.bool q)).run X.P w' = .ok () w' := by
  unfold eqGuard; split <;> simp
theorem eqGuard_str {op : BinOp} {t : TypeId} {x y : Operand} {p q : ByteArray} {w' : World} : (eqGuard op t x y (.string p) (.string q)).run X.P w' = .ok () w' := by
  unfold eqGuard; split <;> simp

theorem equal_bool {t : TypeId} (hu : X.P.underlying t = some .bool) (p q : Bool) (w' : World) : (Op.equal t (.bool p) (.bool q)).run X.P w' = .ok (p == q) w' := by
  have h : ∀ d, (Op.equalIn (d + 1) t (.bool p) (.bool q)).run X.P w' = .ok (p == q) w' := fun d => by
    simp only [Op.equalIn, Sem.run_bind, run_underlying hu, Result.andThen_ok, Sem.run_pure]
  exact h 9999
theorem binOp_eql_bool {t : TypeId} {p q : Bool} : binOp .eql t (.bool p) (.bool q) = (do pure (.bool (← Op.equal t (.bool p) (.bool q)))) := rfl
theorem binOp_neq_bool {t : TypeId} {p q : Bool} : binOp .neq t (.bool p) (.bool q) = (do pure (.bool (!(← Op.equal t (.bool p) (.bool q))))) := rfl

theorem binV_run {op : BinOp} {u v : Value} {Kv : Value → Prop} {t : TypeId} (h : binV (ti X.P t).isB op u v Kv) :
    ∃ r, (∀ w', (binOp op t u v).run X.P w' = .ok r w' ∧ ∀ x y, (eqGuard op t x y u v).run X.P w' = .ok () w') ∧ Kv r := by
  cases u with
  | int k p =>
    cases v with
    | int k' q =>
      have key : k = k' → binI op k p q Kv → ∃ r, (∀ w', (binOp op t (.int k p) (.int k' q)).run X.P w' = .ok r w' ∧ ∀ x y, (eqGuard op t x y (.int k p) (.int k' q)).run X.P w' = .ok () w') ∧ Kv r := by
        intro hk hb
        subst hk
        obtain ⟨r, h1, h2⟩ := binI_run (X := X) hb t
        exact ⟨r, fun w' => ⟨h1 w', fun _ _ => eqGuard_int⟩, h2⟩
      cases op with
      | shl =>
        simp only [binV, binI] at h
        exact ⟨_, fun w' => ⟨by simp [binOp, Op.shift, Int.not_lt.2 h.1], fun _ _ => eqGuard_int⟩, h.2⟩
      | shr =>
        simp only [binV, binI] at h
        refine ⟨_, fun w' => ⟨?_, fun _ _ => eqGuard_int⟩, h.2⟩
        simp only [binOp, Op.shift, Int.not_lt.2 h.1, if_false]
        rw [Int.fdiv_eq_ediv_of_nonneg _ (Int.le_of_lt (Int.pow_pos (by decide)))]
        rfl
      | _ => exact key h.1 h.2
    | _ => exact h.elim
  | bool p =>
    cases v with
    | bool q =>
      cases op with
      | eql => exact ⟨_, fun w' => ⟨by simp only [binOp_eql_bool, Sem.run_bind, equal_bool (ti_isB h.1), Result.andThen_ok, Sem.run_pure], fun _ _ => eqGuard_bool⟩, h.2⟩
      | neq => exact ⟨_, fun w' => ⟨by simp only [binOp_neq_bool, Sem.run_bind, equal_bool (ti_isB h.1), Result.andThen_ok, Sem.run_pure]; rfl, fun _ _ => eqGuard_bool⟩, h.2⟩
      | _ => exact h.elim
    | _ => exact h.elim
  | string p =>
    cases v with
    | string q =>
      cases op with
      | add =>
        simp only [binV] at h
        refine ⟨_, fun w' => ⟨?_, fun _ _ => eqGuard_str⟩, h.2⟩
        simp [binOp, Op.stringOp]
        omega
      | eql => exact ⟨_, fun w' => ⟨by simp [binOp, Op.stringOp], fun _ _ => eqGuard_str⟩, h⟩
      | neq => exact ⟨_, fun w' => ⟨by simp [binOp, Op.stringOp], fun _ _ => eqGuard_str⟩, h⟩
      | _ => exact h.elim
    | _ => exact h.elim
  | _ => exact h.elim

theorem y_bin {b : BinOp} {t t' : TypeId} {x y : Operand} (hop : o.op = .binOp b t x y t') (hS : SRel X N β s a) (h : vcE X (.bin b t (ev s x) (ev s y)) st K) : Yld X β w a o st K := by
  have hx := hS.eval x
  have hy := hS.eval y
  unfold vcE at h
  simp only at h
  cases hxv : ev s x with
  | val u =>
    cases hyv : ev s y with
    | val v =>
      rw [hxv] at hx
      rw [hyv] at hy
      simp only [hxv, hyv] at h
      obtain ⟨r, h1, h2⟩ := binV_run (X := X) h
      exact ⟨r, .val r, fun w' _ => by simp [execOp, hop, inv_val hx, inv_val hy, (h1 w').1, (h1 w').2 x y], .val r, h2⟩
    | _ => simp only [hxv, hyv] at h
  | _ => simp only [hxv] at h

theorem y_un {u : UnOp} {t : TypeId} {x : Operand} (hop : o.op = .unOp u t x) (hS : SRel X N β s a) (h : vcE X (.un u (ev s x)) st K) : Yld X β w a o st K := by
  have hx := hS.eval x
  unfold vcE at h
  simp only at h
  cases hxv : ev s x with
  | val v =>
    rw [hxv] at hx
    have hx := inv_val hx
    cases u <;> cases v <;> simp only [hxv] at h
    case neg.int k n => exact ⟨_, _, fun w' _ => by simp [execOp, hop, hx, Op.unary, Op.intArith], .val _, h⟩
    case not.bool q => exact ⟨_, _, fun w' _ => by simp [execOp, hop, hx, Op.unary], .val _, h⟩
    case xor.int k n => exact ⟨_, _, fun w' _ => by simp [execOp, hop, hx, Op.unary, Op.intBits, bitV], .val _, h⟩
  | _ => cases u <;> simp only [hxv] at h

theorem y_mkFn {f : Fn} {xs ys : Array Operand} (hop : o.op = .makeFunc f xs ys) (hS : SRel X N β s a) (h : vcE X (.mkFn f (xs.toList.map (ev s)) (ys.toList.map (ev s))) st K) : Yld X β w a o st K := by
  have key : ∀ zs : Array Operand, (zs.map a.eval).size = (zs.toList.map (ev s)).length ∧ ∀ (j : Nat) v x, (zs.map a.eval)[j]? = some v → (zs.toList.map (ev s))[j]? = some x → VRel X.w0 β v x := by
    intro zs
    refine ⟨by simp, fun j v x hv hx => ?_⟩
    simp only [Array.getElem?_map, List.getElem?_map, Array.getElem?_toList] at hv hx
    cases hz : zs[j]? with
    | none => simp [hz] at hv
    | some z =>
      simp [hz] at hv hx
      subst hv; subst hx
      exact hS.eval z
  refine ⟨.func f (xs.map a.eval) (ys.map a.eval), _, fun w' _ => by simp [execOp, hop, Instr.makeFunc], .fn (key xs).1 (key xs).2 (key ys).1 (key ys).2, h⟩

theorem y_extract' {x : Operand} {i : Nat} (hop : o.op = .extract x i) (hS : SRel X N β s a) (h : vcE X (.extract (ev s x) i) st K) : ∃ v x, (∀ w' : World, (execOp a.eval o).run X.P w' = .ok (.value v) w') ∧ VRel X.w0 β v x ∧ K x st := by
  have hx := hS.eval x
  unfold vcE at h
  simp only at h
  cases hxv : ev s x with
  | tup vs =>
    rw [hxv] at hx
    simp only [hxv] at h
    obtain ⟨us, hu, hs, hv⟩ := inv_tup hx
    cases hi : vs[i]? with
    | none => simp [hi] at h
    | some y =>
      simp only [hi] at h
      have hlt : i < us.size := by rw [hs]; exact (List.getElem?_eq_some_iff.1 hi).1
      have hui : us[i]? = some us[i] := Array.getElem?_eq_getElem hlt
      refine ⟨us[i], y, fun w' => ?_, hv i _ _ hui hi, h⟩
      simp [execOp, hop, hu, Instr.extract, hui]
  | _ => simp only [hxv] at h

/-- A slice's cells are there. -/
theorem y_extract {x : Operand} {i : Nat} (hop : o.op = .extract x i) (hS : SRel X N β s a) (h : vcE X (.extract (ev s x) i) st K) : Yld X β w a o st K := by
  obtain ⟨v, y, h1, h2, h3⟩ := y_extract' hop hS h
  exact ⟨v, y, fun w' _ => h1 w', h2, h3⟩

theorem slc_read (hI : Inv X β st w) {q : Value} {x : AV} {n : Nat} {cs : List AV} (hv : VRel X.w0 β q x) (h : slc st x = some (n, cs)) :
    n ≤ 9223372036854775807 ∧ ∃ A c, q = .slice A n c ∧ (0 < cs.length → ∃ ad, A = some ad ∧ Readable X.w0 β w ad cs) := by
  cases x with
  | im n' cs' =>
    simp only [slc, Option.some.injEq, Prod.mk.injEq] at h
    obtain ⟨rfl, rfl⟩ := h
    obtain ⟨A, c, rfl, h1, h2⟩ := inv_im hv
    exact ⟨h2, A, c, rfl, fun h0 => readable_im hI hv h0⟩
  | own r off n' sz =>
    simp only [slc] at h
    cases hst : st[r]? with
    | none => simp [hst] at h
    | some o' =>
      cases o' with
      | none => simp [hst] at h
      | some cs' =>
        simp only [hst, Option.some.injEq, Prod.mk.injEq] at h
        obtain ⟨rfl, rfl⟩ := h
        obtain ⟨hn, ⟨b, m, of, c, hb, rfl, hnc, ho⟩ | ⟨hb, rfl, rfl, rfl⟩⟩ := inv_own hv
        · refine ⟨hn, _, c, rfl, fun h0 => ⟨_, rfl, ?_⟩⟩
          have hpos : 0 < n' := by
            rcases Nat.eq_zero_or_pos n' with h' | h'
            · subst h'; simp at h0
            · exact h'
          obtain ⟨rfl, _⟩ := ho (by omega)
          have hR := (readable_obj hI hst hb).drop of
          rw [add_none, Nat.zero_add] at hR
          obtain ⟨u, h1, h2⟩ := hR
          exact ⟨u, fun j hj w' hb' => h1 j (by simp at hj ⊢; omega) w' hb', fun j x hx => h2 j x (by rw [List.getElem?_take] at hx; split at hx <;> first | exact hx | cases hx)⟩
        · exact ⟨by omega, _, _, rfl, fun h0 => by simp at h0⟩
  | val v =>
    rw [inv_val hv]
    cases v with
    | slice A p c =>
      unfold slc at h
      split at h
      · rename_i he; cases he
      · rename_i he; cases he
      · rename_i he
        cases he
        cases h
        exact ⟨by decide, _, _, rfl, fun h0 => by simp at h0⟩
      · cases h
    | _ => simp [slc] at h
  | _ => simp [slc] at h

theorem fold_push (bs : List UInt8) : ∀ acc : ByteArray, List.foldl (fun (b : ByteArray) x => b.push x) acc bs = ⟨acc.data ++ bs.toArray⟩ := by
  induction bs with
  | nil => intro acc; simp
  | cons b bs ih => intro acc; rw [List.foldl_cons, ih]; simp [ByteArray.push]

theorem y_conv {t t' : TypeId} {x : Operand} (hop : o.op = .convert t t' x) (hI : Inv X β st w) (hS : SRel X N β s a) (h : vcE X (.conv t t' (ev s x)) st K) : Yld X β w a o st K := by
  have hx := hS.eval x
  unfold vcE at h
  simp only at h
  split at h
  · rename_i k z k' z' v n h1 h2 hxv
    rw [hxv] at hx
    have hx := inv_val hx
    have hu := ti_int h1
    have hu' := ti_int h2
    exact ⟨_, _, fun w' _ => by simp [execOp, hop, convert, run_underlying hu, run_underlying hu', hx, Conv.intToInt], .val _, h⟩
  · rename_i e sz by_ ez z z' y h1 h2
    obtain ⟨zz, he, bs, hs, hK⟩ := h
    obtain ⟨hu, _⟩ := ti_slice h1
    have hu' := ti_str h2
    have hue := ti_int he
    obtain ⟨hn, A, c, hq, hR⟩ := slc_read hI hx hs
    refine ⟨_, _, fun w' hb => ?_, .val _, hK⟩
    by_cases hbs : bs = []
    · subst hbs
      cases A with
      | none => simp [execOp, hop, convert, run_underlying hu, run_underlying hu', run_underlying hue, hq, Conv.bytesToString]; rfl
      | some ad => simp [execOp, hop, convert, run_underlying hu, run_underlying hu', run_underlying hue, hq, Conv.bytesToString, loadCells, loadCellsFrom]; rfl
    · obtain ⟨ad, rfl, u, h1, h2⟩ := hR (by simpa using List.length_pos_iff.2 hbs)
      have hl := run_loadCells_list (P := X.P) w' ad (bs.map fun b => Value.int .u8 (b.toNat : Int)) (fun j v hv => by
        have hj : j < bs.length := by have := (List.getElem?_eq_some_iff.1 hv).1; simpa using this
        have h3 := h2 j (.val (.int .u8 (bs[j].toNat : Int))) (by rw [List.getElem?_map, List.getElem?_eq_getElem hj]; rfl)
        rw [h1 j (by simpa using hj) w' hb, inv_val h3]
        rw [List.getElem?_map, List.getElem?_eq_getElem hj] at hv
        exact hv)
      rw [List.length_map] at hl
      simp [execOp, hop, convert, run_underlying hu, run_underlying hu', run_underlying hue, hq, Conv.bytesToString, hl]
      rw [fold_push]
      simp [ByteArray.empty, ByteArray.emptyWithCapacity]
      rfl
  · exact h.elim

theorem y_fAddr {t : TypeId} {x : Operand} {i : Nat} (hop : o.op = .fieldAddr t x i) (hS : SRel X N β s a) (h : vcE X (.fAddr t (ev s x) i) st K) : Yld X β w a o st K := by
  have hx := hS.eval x
  unfold vcE at h
  simp only at h
  cases ht : ti X.P t with
  | struct fs sz z =>
    simp only [ht] at h
    obtain ⟨f, hu, hf, hall⟩ := ti_struct ht
    cases hi : fs[i]? with
    | none => simp [hi] at h
    | some q =>
      obtain ⟨of, sz', ag⟩ := q
      simp only [hi] at h
      obtain ⟨h0, h⟩ := h
      rw [← hf, List.getElem?_map] at hi
      cases hfi : f.toList[i]? with
      | none => simp [hfi] at hi
      | some fd =>
        simp only [hfi, Option.map_some, Option.some.injEq, Prod.mk.injEq] at hi
        obtain ⟨e1, e2, e3⟩ := hi
        have hfi' : f[i]? = some fd := by simpa using hfi
        have hsz : ∀ w', (sizeOf fd.type).run X.P w' = .ok sz' w' := fun w' => by
          unfold szOf at e2
          cases hin : X.P.info? fd.type with
          | none => rw [hin] at e2; simp only at e2; omega
          | some inf => rw [hin] at e2; simp only at e2; simp [sizeOf, typeInfo, hin, e2]
        have run : ∀ ad w', a.eval x = .pointer (some ad) → (execOp a.eval o).run X.P w' = .ok (.value (.pointer (some (ad.add of)))) w' := fun ad w' hv => by
          simp [execOp, hop, Instr.fieldAt, run_underlying hu, hfi', Instr.sureAddr, hv, fieldPlace, hsz, show ¬ sz' = 0 by omega, e1]
        cases hxv : ev s x with
        | ptr r off =>
          simp only [hxv] at h
          rw [hxv] at hx
          obtain ⟨b, m, hb, hq⟩ := inv_ptr hx
          exact ⟨_, _, fun w' _ => by rw [run _ w' hq, add_none], .ptr hb, h⟩
        | imp cs =>
          simp only [hxv] at h
          rw [hxv] at hx
          obtain ⟨ad, hq⟩ := inv_imp hx
          refine ⟨_, _, fun w' _ => run _ w' hq, ?_, h⟩
          rw [hq] at hx
          cases hx with
          | imp u hr hv => exact .imp (fun j => u (of + j)) (fun j hj => by rw [add_add]; exact hr _ (by simp at hj; omega)) (fun j x hx => hv _ _ (by simpa using hx))
        | _ => simp only [hxv] at h
  | _ => simp only [ht] at h

theorem y_iAddr {t : TypeId} {x i : Operand} (hop : o.op = .indexAddr t x i) (hS : SRel X N β s a) (h : vcE X (.iAddr t (ev s x) (ev s i)) st K) : Yld X β w a o st K := by
  have hx := hS.eval x
  have hi := hS.eval i
  unfold vcE at h
  simp only at h
  cases hiv : ev s i with
  | val v =>
    cases v with
    | int k j =>
      rw [hiv] at hi
      have hi := inv_val hi
      simp only [hiv] at h
      cases ht : ti X.P t with
      | slice e sz by_ ez z =>
        simp only [ht] at h
        obtain ⟨hu, inf, y, hinf, hsz, _, _, _, _, _⟩ := ti_slice ht
        have run : ∀ ad n c w', a.eval x = .slice (some ad) n c → 0 ≤ j → j < n → (execOp a.eval o).run X.P w' = .ok (.value (.pointer (some (ad.add (j.toNat * sz))))) w' := fun ad n c w' hv h0 h1 => by
          simp [execOp, hop, Instr.indexAt, hi, asIntOf, run_underlying hu, hv, h0, h1, sizeOf, typeInfo, hinf, hsz]
        cases hxv : ev s x with
        | im n cs =>
          simp only [hxv] at h
          rw [hxv] at hx
          obtain ⟨h0, h1, h2, hK⟩ := h
          obtain ⟨A, c, hq, hnc, _⟩ := inv_im hx
          rw [hq] at hx
          cases hx with
          | im u hn hc hr hv =>
            obtain ⟨ad, rfl, _⟩ := hr _ h2
            refine ⟨_, _, fun w' _ => run ad n c w' hq h0 h1, .imp (fun q => u (j.toNat * sz + q)) (fun q hq' => ?_) (fun q x hx => hv _ _ (by simpa using hx)), hK⟩
            obtain ⟨ad', e1, e2⟩ := hr (j.toNat * sz + q) (by simp at hq'; omega)
            cases e1
            rw [add_add]; exact e2
        | own r off n s' =>
          simp only [hxv] at h
          rw [hxv] at hx
          obtain ⟨e1, h0, h1, hK⟩ := h
          obtain ⟨hn, ⟨b, m, of, c, hb, hq, hnc, ho⟩ | ⟨hb, hq, e2, e3⟩⟩ := inv_own hx
          · obtain ⟨e4, _⟩ := ho (by omega)
            exact ⟨_, _, fun w' _ => by rw [run _ n c w' hq h0 h1, add_none, e4], .ptr hb, hK⟩
          · omega
        | _ => simp only [hxv] at h
      | arr n esz sz ea z =>
        simp only [ht] at h
        obtain ⟨e, inf, hu, hinf, hsz, _, _⟩ := ti_arr ht
        obtain ⟨h0, h1, h⟩ := h
        have run : ∀ ad w', a.eval x = .pointer (some ad) → (execOp a.eval o).run X.P w' = .ok (.value (.pointer (some (ad.add (j.toNat * esz))))) w' := fun ad w' hv => by
          simp [execOp, hop, Instr.indexAt, hi, asIntOf, run_underlying hu, hv, h0, h1, sizeOf, typeInfo, hinf, hsz, Instr.sureAddr]
        have imp : ∀ ad cs, VRel X.w0 β (.pointer (some ad)) (.imp cs) → VRel X.w0 β (.pointer (some (ad.add (j.toNat * esz)))) (.imp (cs.drop (j.toNat * esz))) := fun ad cs hv => by
          cases hv with
          | imp u hr hv => exact .imp (fun q => u (j.toNat * esz + q)) (fun q hq => by rw [add_add]; exact hr _ (by simp at hq; omega)) (fun q x hx => hv _ _ (by simpa using hx))
        cases hxv : ev s x with
        | ptr r off =>
          simp only [hxv] at h
          rw [hxv] at hx
          obtain ⟨b, m, hb, hq⟩ := inv_ptr hx
          exact ⟨_, _, fun w' _ => by rw [run _ w' hq, add_none], .ptr hb, h⟩
        | imp cs =>
          simp only [hxv] at h
          rw [hxv] at hx
          obtain ⟨ad, hq⟩ := inv_imp hx
          exact ⟨_, _, fun w' _ => run _ w' hq, imp ad cs (hq ▸ hx), h⟩
        | val v =>
          simp only [hxv] at h
          rw [hxv] at hx
          obtain ⟨cs, hc, hK⟩ := h
          have hc' : VRel X.w0 β (a.eval x) (.imp cs) := by rw [inv_val hx]; simpa using hc.ext β
          obtain ⟨ad, hq⟩ := inv_imp hc'
          exact ⟨_, _, fun w' _ => run _ w' hq, imp ad cs (hq ▸ hc'), hK⟩
        | _ => simp only [hxv] at h
      | _ => simp only [ht] at h
    | _ => simp only [hiv] at h
  | _ => simp only [hiv] at h

theorem cut_im {w0 : World} {A : Option Addr} {n c l h sz : Nat} {cs : List AV} (hx : VRel w0 β (.slice A n c) (.im n cs)) (h1 : l ≤ h) (h2 : h ≤ n) :
    VRel w0 β (.slice (if c = l then A else A.map (·.add (l * sz))) (h - l) (c - l)) (.im (h - l) ((cs.drop (l * sz)).take ((h - l) * sz))) := by
  cases hx with
  | im u hn hc hr hv =>
    by_cases hcl : c = l
    · have : h - l = 0 := by omega
      rw [this]
      exact .im u (by omega) (by omega) (fun j hj => by simp at hj) (fun j x hx => by simp at hx)
    · rw [if_neg hcl]
      refine .im (fun j => u (l * sz + j)) (by omega) (by omega) (fun j hj => ?_) (fun j x hx => ?_)
      · obtain ⟨ad, e1, e2⟩ := hr (l * sz + j) (by simp at hj; omega)
        exact ⟨ad.add (l * sz), by rw [e1]; rfl, by rw [add_add]; exact e2⟩
      · rw [List.getElem?_take] at hx
        split at hx
        · exact hv _ _ (by simpa using hx)
        · cases hx

theorem cut_own {w0 : World} {q : Value} {r off n l h sz : Nat} (hx : VRel w0 β q (.own r off n sz)) (h1 : l ≤ h) (h2 : h ≤ n) :
    ∃ A c, q = .slice A n c ∧ n ≤ c ∧ VRel w0 β (.slice (if c = l then A else A.map (·.add (l * sz))) (h - l) (c - l)) (.own r (off + l * sz) (h - l) sz) := by
  obtain ⟨hn, ⟨b, m, of, c, hb, rfl, hnc, ho⟩ | ⟨hb, rfl, rfl, rfl⟩⟩ := inv_own hx
  · refine ⟨_, c, rfl, hnc, ?_⟩
    by_cases hcl : c = l
    · rw [if_pos hcl]
      exact .own hb (by omega) (by omega) (fun h0 => by omega)
    · rw [if_neg hcl]
      obtain ⟨rfl, hm⟩ := ho (by omega)
      simp only [Option.map_some, add_none]
      refine .own hb (by omega) (by omega) (fun h0 => ⟨rfl, ?_⟩)
      have : (c - l) * sz + l * sz = c * sz := by rw [← Nat.add_mul]; congr 1; omega
      omega
  · refine ⟨none, 0, rfl, by omega, ?_⟩
    have e1 : l = 0 := by omega
    have e2 : h = 0 := by omega
    subst e1; subst e2
    simpa using VRel.nil (w0 := w0) (sz := sz) hb

theorem sliceB_run {lo hi : Option Operand} {n c : Nat} (isS : Bool) (hnc : n ≤ c) (hS : SRel X N β s a) {F : Nat → Nat → Prop} (h : sliceB (lo.map (ev s)) (hi.map (ev s)) n F) :
    ∃ l h', (∀ w', (Instr.sliceBounds isS n c (lo.map a.eval) (hi.map a.eval) none).run X.P w' = .ok (l, h', c) w') ∧ l ≤ h' ∧ h' ≤ n ∧ F l h' := by
  have val : ∀ (y : Operand) v, ev s y = .val v → a.eval y = v := fun y v e => inv_val (e ▸ hS.eval y)
  unfold sliceB at h
  cases lo with
  | none =>
    cases hi with
    | none => exact ⟨0, n, fun w' => by simp [Instr.sliceBounds], by omega, by omega, h⟩
    | some y =>
      simp only [Option.map_some, Option.map_none] at h
      split at h
      · rename_i e1 e2; cases e2
      · rename_i e1 e2; cases e2
      · rename_i k q e1 e2
        have hv := val y _ (by simpa using e2)
        refine ⟨0, q.toNat, fun w' => ?_, by omega, by omega, h.2.2⟩
        have h1 : q ≤ (c : Int) := by omega
        simp [Instr.sliceBounds, Instr.sliceBound, asIntOf, hv, h.1, h1]
      · rename_i e1 e2; cases e1
      · exact h.elim
  | some x =>
    cases hi with
    | none =>
      simp only [Option.map_some, Option.map_none] at h
      split at h
      · rename_i e1 e2; cases e1
      · rename_i k q e1 e2
        have hv := val x _ (by simpa using e1)
        refine ⟨q.toNat, n, fun w' => ?_, by omega, by omega, h.2.2⟩
        simp [Instr.sliceBounds, Instr.sliceBound, asIntOf, hv, h.1, h.2.1]
      · rename_i e1 e2; cases e1
      · rename_i e1 e2; cases e2
      · exact h.elim
    | some y =>
      simp only [Option.map_some] at h
      split at h
      · rename_i e1 e2; cases e1
      · rename_i e1 e2; cases e2
      · rename_i e1 e2; cases e1
      · rename_i k q k' q' e1 e2
        have hv := val x _ (by simpa using e1)
        have hv' := val y _ (by simpa using e2)
        obtain ⟨h0, h1, h2, hF⟩ := h
        refine ⟨q.toNat, q'.toNat, fun w' => ?_, by omega, by omega, hF⟩
        have h3 : q' ≤ (c : Int) := by omega
        have h4 : 0 ≤ q' := by omega
        simp [Instr.sliceBounds, Instr.sliceBound, asIntOf, hv, hv', h0, h3, h4]
        intro hh
        omega
      · exact h.elim

theorem y_slice {t : TypeId} {x : Operand} {lo hi mx : Option Operand} (hop : o.op = .slice t x lo hi mx) (hS : SRel X N β s a)
    (h : vcE X (.slice t (ev s x) (lo.map (ev s)) (hi.map (ev s)) (mx.map (ev s))) st K) : Yld X β w a o st K := by
  have hx := hS.eval x
  unfold vcE at h
  simp only at h
  cases mx with
  | some m => exact h.elim
  | none =>
    simp only [Option.map_none] at h
    split at h
    · rename_i z q ht hxv
      rw [hxv] at hx
      have hx := inv_val hx
      have hu := ti_str ht
      obtain ⟨l, h', hr, h1, h2, hK⟩ := sliceB_run (c := q.size) false (Nat.le_refl _) hS h
      exact ⟨_, _, fun w' _ => by simp [execOp, hop, Instr.sliceAt, Instr.slice, run_underlying hu, hx, hr w'], .val _, hK⟩
    · rename_i e sz by_ ez z n cs ht hxv
      rw [hxv] at hx
      obtain ⟨hu, inf, y, hinf, hsz, _⟩ := ti_slice ht
      obtain ⟨A, c, hq, hnc, _⟩ := inv_im hx
      obtain ⟨l, h', hr, h1, h2, hK⟩ := sliceB_run (c := c) true hnc hS h
      rw [hq] at hx
      exact ⟨_, _, fun w' _ => by simp [execOp, hop, Instr.sliceAt, Instr.slice, run_underlying hu, hq, hr w', sizeOf, typeInfo, hinf, hsz], cut_im hx h1 h2, hK⟩
    · rename_i e sz by_ ez z r off n s' ht hxv
      rw [hxv] at hx
      obtain ⟨hu, inf, y, hinf, hsz, _⟩ := ti_slice ht
      obtain ⟨e1, h⟩ := h
      subst e1
      obtain ⟨A, c, hq, hnc, _⟩ := cut_own (l := 0) (h := 0) hx (by omega) (by omega)
      obtain ⟨l, h', hr, h1, h2, hK⟩ := sliceB_run (c := c) true hnc hS h
      obtain ⟨A', c', hq', _, hv⟩ := cut_own hx h1 h2
      rw [hq] at hq'
      cases hq'
      exact ⟨_, _, fun w' _ => by simp [execOp, hop, Instr.sliceAt, Instr.slice, run_underlying hu, hq, hr w', sizeOf, typeInfo, hinf, hsz], hv, hK⟩
    · rename_i e sz by_ ez z ht hxv
      rw [hxv] at hx
      have hx := inv_val hx
      obtain ⟨hu, inf, y, hinf, hsz, _⟩ := ti_slice ht
      obtain ⟨l, h', hr, h1, h2, hK⟩ := sliceB_run (c := 0) true (Nat.le_refl _) hS h
      have e1 : l = 0 := by omega
      have e2 : h' = 0 := by omega
      subst e1; subst e2
      exact ⟨_, _, fun w' _ => by simp [execOp, hop, Instr.sliceAt, Instr.slice, run_underlying hu, hx, hr w', sizeOf, typeInfo, hinf]; rfl, by rw [hxv]; exact .val _, hK⟩
    · exact h.elim

theorem partA_run {w0 : World} {vs : Array Value} {cs : List AV} (hs : vs.size = cs.length) (hv : ∀ (j : Nat) u x, vs[j]? = some u → cs[j]? = some x → VRel w0 β u x) {t : TypeId} {off sz : Nat} {ag : Bool}
    (hsz : ∀ w', (sizeOf t).run X.P w' = .ok sz w') (hag : ∀ w', (isAgg t).run X.P w' = .ok ag w') {Kv : AV → Prop} (h : partA cs off sz ag Kv) :
    ∃ v x, (∀ w', (part t vs off).run X.P w' = .ok v w') ∧ VRel w0 β v x ∧ Kv x := by
  unfold partA at h
  cases ag with
  | true =>
    simp only [if_true] at h
    obtain ⟨hl, hK⟩ := h
    refine ⟨_, _, fun w' => by simp only [part, Sem.run_bind, hag, Result.andThen_ok, if_true, hsz, Sem.run_pure], .agg (vs := vs.extract off (off + sz)) (by simp; omega) (fun j u x hu hx => ?_), hK⟩
    rw [List.getElem?_take] at hx
    split at hx
    · rename_i hj
      refine hv (off + j) u x ?_ (by simpa using hx)
      rw [Array.getElem?_extract] at hu
      split at hu
      · exact hu
      · cases hu
    · cases hx
  | false =>
    simp only [Bool.false_eq_true, if_false] at h
    cases hc : cs[off]? with
    | none => simp [hc] at h
    | some x =>
      simp only [hc] at h
      have hlt : off < vs.size := by rw [hs]; exact (List.getElem?_eq_some_iff.1 hc).1
      have hu : vs[off]? = some vs[off] := Array.getElem?_eq_getElem hlt
      exact ⟨_, _, fun w' => by simp only [part, Sem.run_bind, hag, Result.andThen_ok, Bool.false_eq_true, if_false, hu, Sem.run_pure], hv off _ _ hu hc, h⟩

theorem run_aggT {t : TypeId} {d : TypeDesc} (hd : X.P.underlying t = some d) (w' : World) : (isAgg t).run X.P w' = .ok (aggT X.P t) w' := by
  unfold aggT
  rw [hd]
  simp only [isAgg, Sem.run_bind, run_underlying hd, Result.andThen_ok]
  cases d <;> rfl

theorem y_field {t : TypeId} {x : Operand} {i : Nat} (hop : o.op = .field t x i) (hS : SRel X N β s a) (h : vcE X (.field t (ev s x) i) st K) : Yld X β w a o st K := by
  have hx := hS.eval x
  unfold vcE at h
  simp only at h
  split at h
  · rename_i fs sz z cs ht hxv
    obtain ⟨f, hu, hf, hall⟩ := ti_struct ht
    rw [hxv] at hx
    obtain ⟨vs, hq, hs, hv⟩ := cells_of_agg hx
    cases hi : fs[i]? with
    | none => simp [hi] at h
    | some q =>
      obtain ⟨of, sz', ag⟩ := q
      simp only [hi] at h
      rw [← hf, List.getElem?_map] at hi
      cases hfi : f.toList[i]? with
      | none => simp [hfi] at hi
      | some fd =>
        simp only [hfi, Option.map_some, Option.some.injEq, Prod.mk.injEq] at hi
        obtain ⟨e1, e2, e3⟩ := hi
        have hfi' : f[i]? = some fd := by simpa using hfi
        obtain ⟨k1, k2⟩ := hall fd (List.mem_of_getElem? hfi)
        obtain ⟨d, hd⟩ := Option.isSome_iff_exists.1 k1
        obtain ⟨inf, hinf⟩ := Option.isSome_iff_exists.1 k2
        have hsz : ∀ w', (sizeOf fd.type).run X.P w' = .ok sz' w' := fun w' => by
          simp only [szOf, hinf] at e2
          simp [sizeOf, typeInfo, hinf, e2]
        obtain ⟨v, y, h1, h2, h3⟩ := partA_run (X := X) hs hv hsz (fun w' => by rw [run_aggT hd, e3]) h
        rw [← e1] at h1
        exact ⟨v, y, fun w' _ => by simp [execOp, hop, Instr.field, run_underlying hu, hfi', hq, asAgg, h1 w'], h2, h3⟩
  · exact h.elim

theorem y_index {t : TypeId} {x i : Operand} (hop : o.op = .index t x i) (hS : SRel X N β s a) (h : vcE X (.index t (ev s x) (ev s i)) st K) : Yld X β w a o st K := by
  have hx := hS.eval x
  have hi := hS.eval i
  unfold vcE at h
  simp only at h
  cases hiv : ev s i with
  | val v =>
    cases v with
    | int k j =>
      rw [hiv] at hi
      have hi := inv_val hi
      simp only [hiv] at h
      split at h
      · rename_i z q ht hxv
        rw [hxv] at hx
        have hx := inv_val hx
        have hu := ti_str ht
        obtain ⟨h0, h⟩ := h
        cases hb : q.data[j.toNat]? with
        | none => simp [hb] at h
        | some b =>
          simp only [hb] at h
          have hg : q[j.toNat]? = some b := by
            obtain ⟨hl, e⟩ := Array.getElem?_eq_some_iff.1 hb
            have hl' : j.toNat < q.size := hl
            rw [getElem?_pos q j.toNat hl']
            exact congrArg some e
          exact ⟨_, _, fun w' _ => by simp [execOp, hop, Instr.index, hi, asIntOf, run_underlying hu, hx, h0, hg], .val _, h⟩
      · rename_i n esz sz ea z cs ht hxv
        rw [hxv] at hx
        obtain ⟨vs, hq, hs, hv⟩ := cells_of_agg hx
        obtain ⟨e, inf, hu, hinf, hsz, hag, hue⟩ := ti_arr ht
        obtain ⟨h0, h1, h⟩ := h
        obtain ⟨d, hd⟩ := Option.isSome_iff_exists.1 hue
        have hsize : ∀ w', (sizeOf e).run X.P w' = .ok esz w' := fun w' => by simp [sizeOf, typeInfo, hinf, hsz]
        obtain ⟨v, y, h2, h3, h4⟩ := partA_run (X := X) hs hv hsize (fun w' => by rw [run_aggT hd, hag]) h
        exact ⟨v, y, fun w' _ => by simp [execOp, hop, Instr.index, hi, asIntOf, run_underlying hu, hq, h0, h1, hsize, h2 w'], h3, h4⟩
      · exact h.elim
    | _ => simp only [hiv] at h
  | _ => simp only [hiv] at h

theorem fill_fold (off : Nat) : ∀ (l : List Value) (k : Nat) (arr : Array Value), off + k + l.length ≤ arr.size →
    ((l.zipIdx k).foldl (fun cs (c, j) => cs.setIfInBounds (off + j) c) arr).size = arr.size ∧
    ∀ j : Nat, ((l.zipIdx k).foldl (fun cs (c, j) => cs.setIfInBounds (off + j) c) arr)[j]? = if off + k ≤ j ∧ j < off + k + l.length then l[j - (off + k)]? else arr[j]?
  | [], k, arr, _ => ⟨rfl, fun j => by rw [if_neg (by rintro ⟨h1, h2⟩; simp at h2; omega)]; rfl⟩
  | y :: l, k, arr, h => by
    obtain ⟨h1, h2⟩ := fill_fold off l (k + 1) (arr.setIfInBounds (off + k) y) (by simp at h ⊢; omega)
    simp only [List.zipIdx_cons, List.foldl_cons]
    refine ⟨by rw [h1]; simp, fun j => ?_⟩
    rw [h2]
    simp only [List.length_cons] at h ⊢
    by_cases hj : j = off + k
    · subst hj
      rw [if_neg (by omega), if_pos (by omega)]
      simp [show off + k < arr.size by omega]
    · by_cases hj2 : off + (k + 1) ≤ j ∧ j < off + (k + 1) + l.length
      · rw [if_pos hj2, if_pos (by omega)]
        obtain ⟨q, hq⟩ : ∃ q, j - (off + k) = q + 1 := ⟨j - (off + k) - 1, by omega⟩
        rw [hq, show j - (off + (k + 1)) = q by omega]
        rfl
      · rw [if_neg hj2, if_neg (by omega)]
        simp [Ne.symm hj]

theorem fill_rel {w0 : World} {place : Nat → Option (Nat × Nat)} : ∀ (ps : List (Nat × Value)) (qs : List (Nat × AV)) (vs : Array Value) (cs rs : List AV), ps.length = qs.length →
    (∀ (j : Nat) p q, ps[j]? = some p → qs[j]? = some q → p.1 = q.1 ∧ VRel w0 β p.2 q.2) → vs.size = cs.length → (∀ (j : Nat) u x, vs[j]? = some u → cs[j]? = some x → VRel w0 β u x) → fillA place cs qs = some rs →
    ∃ us, Instr.fill place vs ps = some us ∧ us.size = rs.length ∧ rs.length = cs.length ∧ (∀ (j : Nat) u x, us[j]? = some u → rs[j]? = some x → VRel w0 β u x)
  | [], [], vs, cs, rs, _, _, hs, hv, h => by
    simp only [fillA, Option.some.injEq] at h
    subst h
    exact ⟨vs, rfl, hs, rfl, hv⟩
  | [], _ :: _, _, _, _, hl, _, _, _, _ => by simp at hl
  | _ :: _, [], _, _, _, hl, _, _, _, _ => by simp at hl
  | (i, v) :: ps, (i', x) :: qs, vs, cs, rs, hl, hp, hs, hv, h => by
    obtain ⟨e, hvx⟩ := hp 0 (i, v) (i', x) rfl rfl
    simp only at e hvx
    subst e
    simp only [fillA] at h
    cases hpl : place i with
    | none => simp [hpl] at h
    | some q =>
      obtain ⟨off, size⟩ := q
      simp only [hpl] at h
      split at h
      · rename_i hc
        obtain ⟨hk, hsz, hle⟩ := hc
        obtain ⟨c1, c2, c3⟩ := cells_rel hvx hk
        have hvs : v.cells.size = size := by omega
        obtain ⟨f1, f2⟩ := fill_fold off v.cells.toList 0 vs (by simp; omega)
        simp only [Nat.add_zero, Array.length_toList] at f1 f2
        have step := fill_rel ps qs (v.cells.toList.zipIdx.foldl (fun cs (c, j) => cs.setIfInBounds (off + j) c) vs) (cs.take off ++ cellsA x ++ cs.drop (off + size)) rs (by simpa using hl)
          (fun j p q h1 h2 => hp (j + 1) p q (by simpa using h1) (by simpa using h2)) (by rw [f1]; simp; omega) (fun j u y hu hy => ?_) h
        · obtain ⟨us, g1, g2, g3, g4⟩ := step
          refine ⟨us, ?_, g2, by rw [g3]; simp; omega, g4⟩
          have hc1 : (v.cells.size ≠ size || off + v.cells.size > vs.size) = false := by simp; omega
          simp only [Instr.fill, hpl, hc1, Bool.false_eq_true, if_false]
          rw [← g1, ← Array.foldl_toList, Array.toList_zipIdx]
        · rw [f2] at hu
          by_cases hj : j < off
          · rw [if_neg (by omega)] at hu
            rw [List.getElem?_append_left (by simp; omega), List.getElem?_append_left (by simp; omega), List.getElem?_take, if_pos hj] at hy
            exact hv j u y hu hy
          · by_cases hj2 : j < off + size
            · rw [if_pos (by omega)] at hu
              rw [List.getElem?_append_left (by simp; omega), List.getElem?_append_right (by simp; omega)] at hy
              refine c2 (j - off) u y (by simpa using hu) ?_
              simpa [show min off cs.length = off by omega] using hy
            · rw [if_neg (by omega)] at hu
              rw [List.getElem?_append_right (by simp; omega)] at hy
              simp only [List.length_append, List.length_take, List.getElem?_drop] at hy
              rw [show off + size + (j - (min off cs.length + (cellsA x).length)) = j by omega] at hy
              exact hv j u y hu hy
      · cases h

theorem parts_rel (hS : SRel X N β s a) (ps : Array (Nat × Operand)) : (ps.map fun p => (p.1, a.eval p.2)).toList.length = (ps.toList.map fun p => (p.1, ev s p.2)).length ∧
    ∀ (j : Nat) p q, (ps.map fun p => (p.1, a.eval p.2)).toList[j]? = some p → (ps.toList.map fun p => (p.1, ev s p.2))[j]? = some q → p.1 = q.1 ∧ VRel X.w0 β p.2 q.2 := by
  refine ⟨by simp, fun j p q hp hq => ?_⟩
  simp only [Array.toList_map, List.getElem?_map] at hp hq
  cases hz : ps.toList[j]? with
  | none => simp [hz] at hp
  | some z =>
    simp only [hz, Option.map_some, Option.some.injEq] at hp hq
    subst hp; subst hq
    exact ⟨rfl, hS.eval z.2⟩

theorem zero_rel {w0 : World} (zs : Array Value) : zs.size = (zs.toList.map AV.val).length ∧ ∀ (j : Nat) u x, zs[j]? = some u → (zs.toList.map AV.val)[j]? = some x → VRel w0 β u x := by
  refine ⟨by simp, fun j u x hu hx => ?_⟩
  simp only [List.getElem?_map, Array.getElem?_toList, hu, Option.map_some, Option.some.injEq] at hx
  subst hx
  exact .val u

theorem places_run (f : Array Field) (hall : ∀ x ∈ f.toList, (X.P.underlying x.type).isSome = true ∧ (X.P.info? x.type).isSome = true) (w' : World) :
    (f.mapM fun fd => (do pure (fd.offset, ← sizeOf fd.type) : Sem (Nat × Nat))).run X.P w' = .ok (f.map fun fd => (fd.offset, szOf X.P fd.type)) w' := by
  have key : ∀ l : List Field, (∀ x ∈ l, (X.P.info? x.type).isSome = true) → ∀ w', (l.mapM fun fd => (do pure (fd.offset, ← sizeOf fd.type) : Sem (Nat × Nat))).run X.P w' = .ok (l.map fun fd => (fd.offset, szOf X.P fd.type)) w' := by
    intro l
    induction l with
    | nil => intro _ w'; simp
    | cons y l ih =>
      intro h w'
      obtain ⟨inf, hinf⟩ := Option.isSome_iff_exists.1 (h y (by simp))
      have h2 := ih (fun x hx => h x (by simp [hx])) w'
      have h1 : ∀ w', (do pure (y.offset, ← sizeOf y.type) : Sem (Nat × Nat)).run X.P w' = .ok (y.offset, szOf X.P y.type) w' := fun w' => by
        simp [sizeOf, typeInfo, hinf, szOf]
      rw [List.mapM_cons]
      simp only [Sem.run_bind, h1, Result.andThen_ok, h2, Sem.run_pure, List.map_cons]
  rw [Array.mapM_eq_mapM_toList, Sem.run_map, key f.toList (fun x hx => (hall x hx).2) w']
  simp only [Result.andThen_ok]
  rw [← Array.toList_map, Array.toArray_toList]

theorem y_build' {t : TypeId} {ps : Array (Nat × Operand)} (hop : o.op = .build t ps) (hS : SRel X N β s a) (h : vcE X (.build t (ps.toList.map fun p => (p.1, ev s p.2))) st K) : ∃ v x, (∀ w' : World, (execOp a.eval o).run X.P w' = .ok (.value v) w') ∧ VRel X.w0 β v x ∧ K x st := by
  unfold vcE at h
  simp only at h
  split at h
  · rename_i fs sz z ht
    obtain ⟨f, hu, hf, hall⟩ := ti_struct ht
    obtain ⟨d, i, zv, hd, hi, hz, hzs, hsz, hzz, hag⟩ := ti_good (P := X.P) (t := t) (by rw [ht]; rfl)
    rw [ht] at hzz
    simp only [TI.zero] at hzz
    cases hfill : fillA (fun i => (fs[i]?).map fun f => (f.1, f.2.1)) (z.map AV.val) (ps.toList.map fun p => (p.1, ev s p.2)) with
    | none => simp [hfill] at h
    | some cs =>
      simp only [hfill] at h
      obtain ⟨us, g1, g2, g3, g4⟩ := fill_rel _ _ zv.cells _ _ (parts_rel hS ps).1 (parts_rel hS ps).2 (by rw [hzz]; exact (zero_rel (w0 := X.w0) (β := β) zv.cells).1) (by rw [hzz]; exact (zero_rel zv.cells).2) hfill
      refine ⟨.agg us, _, fun w' => ?_, .agg g2 g4, h⟩
      have hpl : (fun i : Nat => ((f.map fun fd => (fd.offset, szOf X.P fd.type))[i]?)) = fun i : Nat => (fs[i]?).map fun (f : Nat × Nat × Bool) => (f.1, f.2.1) := by
        funext i
        rw [← hf]
        simp only [List.getElem?_map, Array.getElem?_map, Array.getElem?_toList, Option.map_map]
        rfl
      have hrun := places_run (X := X) f hall w'
      simp only [execOp, hop, Instr.build, Sem.run_bind, Result.andThen_ok, run_underlying hu, zeroValue, typeInfo, run_program, hi, hz, Sem.run_pure, hrun, hpl, g1]
  · rename_i n esz sz ea z ht
    obtain ⟨e, j, hu, hj, hjs, _, _⟩ := ti_arr ht
    obtain ⟨d, i, zv, hd, hi, hz, hzs, hsz, hzz, hag⟩ := ti_good (P := X.P) (t := t) (by rw [ht]; rfl)
    rw [ht] at hzz
    simp only [TI.zero] at hzz
    cases hfill : fillA (fun i => some (i * esz, esz)) (z.map AV.val) (ps.toList.map fun p => (p.1, ev s p.2)) with
    | none => simp [hfill] at h
    | some cs =>
      simp only [hfill] at h
      obtain ⟨us, g1, g2, g3, g4⟩ := fill_rel _ _ zv.cells _ _ (parts_rel hS ps).1 (parts_rel hS ps).2 (by rw [hzz]; exact (zero_rel (w0 := X.w0) (β := β) zv.cells).1) (by rw [hzz]; exact (zero_rel zv.cells).2) hfill
      refine ⟨.agg us, _, fun w' => ?_, .agg g2 g4, h⟩
      simp only [execOp, hop, Instr.build, Sem.run_bind, Result.andThen_ok, run_underlying hu, zeroValue, sizeOf, typeInfo, run_program, hi, hz, hj, hjs, Sem.run_pure, g1]
  · exact h.elim

theorem y_build {t : TypeId} {ps : Array (Nat × Operand)} (hop : o.op = .build t ps) (hS : SRel X N β s a) (h : vcE X (.build t (ps.toList.map fun p => (p.1, ev s p.2))) st K) : Yld X β w a o st K :=
  let ⟨v, x, h1, h2, h3⟩ := y_build' hop hS h
  ⟨v, x, fun w' _ => h1 w', h2, h3⟩

theorem y_blt {b : Builtin} {xs : Array Operand} {ts : Array TypeId} (hop : o.op = .call ⟨.builtin b, xs, ts⟩) (hp : b = .len ∨ b = .max ∨ b = .min) (hS : SRel X N β s a)
    (h : vcE X (.blt b ts.toList (xs.toList.map (ev s))) st K) : Yld X β w a o st K := by
  unfold vcE at h
  simp only at h
  have len1 : ∀ {l : List AV} , xs.toList.map (ev s) = l → ∀ y, l = [y] → ∃ z, xs = #[z] ∧ ev s z = y := by
    intro l e y e2
    subst e2
    obtain ⟨z, hz, e3⟩ := List.map_eq_singleton_iff.1 e
    exact ⟨z, by rw [← Array.toArray_toList (xs := xs), hz], e3⟩
  have len2 : ∀ {l : List AV} , xs.toList.map (ev s) = l → ∀ y y', l = [y, y'] → ∃ z z', xs = #[z, z'] ∧ ev s z = y ∧ ev s z' = y' := by
    intro l e y y' e2
    subst e2
    obtain ⟨z, r, hz, e3, e4⟩ := List.map_eq_cons_iff.1 e
    obtain ⟨z', hz', e5⟩ := List.map_eq_singleton_iff.1 e4
    exact ⟨z, z', by rw [← Array.toArray_toList (xs := xs), hz, hz'], e3, e5⟩
  generalize hl : xs.toList.map (ev s) = l at h
  generalize ht : ts.toList = tl at h
  rcases hp with rfl | rfl | rfl
  · rcases tl with _ | ⟨t, _ | ⟨t', tl⟩⟩
    · exact h.elim
    · rcases l with _ | ⟨y, _ | ⟨y', l⟩⟩
      · exact h.elim
      · obtain ⟨z, rfl, rfl⟩ := len1 hl y rfl
        have hts : ts[0]? = some t := by rw [← Array.getElem?_toList, ht]; rfl
        have hz := hS.eval z
        simp only at h
        split at h
        · rename_i z' q h1 h2
          rw [h2] at hz
          have hz := inv_val hz
          exact ⟨_, _, fun w' _ => by simp [execOp, hop, resolve, invoke, builtin, Builtin.len_, hts, run_underlying (ti_str h1), hz, goInt], .val _, h⟩
        · rename_i h1 h2
          rw [h2] at hz
          obtain ⟨A, c, hz, _, hn⟩ := inv_im hz
          exact ⟨_, _, fun w' _ => by simp [execOp, hop, resolve, invoke, builtin, Builtin.len_, hts, run_underlying (ti_slice h1).1, hz, goInt], .val _, h hn⟩
        · rename_i h1 h2
          rw [h2] at hz
          obtain ⟨hn, ⟨b, m, of, c, hb, hz, _, _⟩ | ⟨hb, hz, _, e⟩⟩ := inv_own hz
          · exact ⟨_, _, fun w' _ => by simp [execOp, hop, resolve, invoke, builtin, Builtin.len_, hts, run_underlying (ti_slice h1).1, hz, goInt], .val _, h hn⟩
          · exact ⟨_, _, fun w' _ => by simp [execOp, hop, resolve, invoke, builtin, Builtin.len_, hts, run_underlying (ti_slice h1).1, hz, goInt, e], .val _, h hn⟩
        · rename_i h1 h2
          rw [h2] at hz
          have hz := inv_val hz
          exact ⟨_, _, fun w' _ => by simp [execOp, hop, resolve, invoke, builtin, Builtin.len_, hts, run_underlying (ti_slice h1).1, hz, goInt], .val _, h⟩
        · exact h.elim
      · exact h.elim
    · exact h.elim
  · split at h <;> first | contradiction | skip
    · rename_i k p k' q _ _
      obtain ⟨z, z', rfl, e1, e2⟩ := len2 hl _ _ rfl
      have h1 := inv_val (e1 ▸ hS.eval z)
      have h2 := inv_val (e2 ▸ hS.eval z')
      exact ⟨_, _, fun w' _ => by simp [execOp, hop, resolve, invoke, builtin, Builtin.max_, Builtin.max2, h1, h2], .val _, h⟩
  · split at h <;> first | contradiction | skip
    · rename_i k p k' q _ _
      obtain ⟨z, z', rfl, e1, e2⟩ := len2 hl _ _ rfl
      have h1 := inv_val (e1 ▸ hS.eval z)
      have h2 := inv_val (e2 ▸ hS.eval z')
      exact ⟨_, _, fun w' _ => by simp [execOp, hop, resolve, invoke, builtin, Builtin.min_, Builtin.min2, h1, h2], .val _, h⟩

/-- Whatever operation leaves the world alone. -/
theorem pure_sound (hI : Inv X β st w) (hS : SRel X N β s a) (hp : pureA (aop s o.op) = true) (h : vcE X (aop s o.op) st K) : Yld X β w a o st K := by
  cases hop : o.op <;> rw [hop] at hp h
  case move x => exact y_mv (.inl hop) hS h
  case assign x => exact y_mv (.inr hop) hS h
  case pick c x y => exact y_pick hop hS h
  case build t ps => exact y_build hop hS h
  case load t x => exact y_load hop hI hS h
  case nilCheck x => exact y_nilCk hop hS h
  case binOp b t x y t' => exact y_bin hop hS h
  case unOp u t x => exact y_un hop hS h
  case convert t t' x => exact y_conv hop hI hS h
  case makeFunc f xs ys => exact y_mkFn hop hS h
  case slice t x lo hi mx => exact y_slice hop hS h
  case fieldAddr t x i => exact y_fAddr hop hS h
  case field t x i => exact y_field hop hS h
  case indexAddr t x i => exact y_iAddr hop hS h
  case index t x i => exact y_index hop hS h
  case extract x i => exact y_extract hop hS h
  case call c =>
    obtain ⟨cal, xs, ts⟩ := c
    cases cal with
    | builtin b =>
      refine y_blt hop ?_ hS h
      cases b <;> first | exact .inl rfl | exact .inr (.inl rfl) | exact .inr (.inr rfl) | (exfalso; simp [aop, pureA] at hp)
    | _ => exfalso; simp [aop, pureA] at hp
  all_goals (exfalso; simp [aop, pureA] at hp)

end
end Go.Proofs.Pv

/- The engine's sixth part: operations that make memory, write to it, or call. -/
namespace Go.Proofs.Pv
open Go Go.RowKit

section
variable {X : Cx} {N : Nat} {β : Bk} {st : St} {w : World} {s : Sl} {a : Act} {o : Oper} {K : AV → St → Prop}

/-- A new object. -/
theorem Inv.alloc (hI : Inv X β st w) (c : Array Value) (e : TypeId) (cs : List AV) (hl : cs.length ≤ c.size) (hv : ∀ (j : Nat) x, cs[j]? = some x → ∃ u, c[j]? = some u ∧ VRel X.w0 β u x) :
    Inv X (β ++ [some (w.heap.size, c.size)]) (st ++ [some cs]) { w with heap := w.heap.push (.cells c e) } := by
  have hsz : X.w0.heap.size ≤ w.heap.size := Nat.le_trans hI.b0.size hI.b1.size
  have hb : Below w.heap.size w { w with heap := w.heap.push (.cells c e) } := ⟨rfl, rfl, rfl, by simp, fun k hk => by simp [Array.getElem?_push, Nat.ne_of_lt hk]⟩
  have hG := hI.grow_below hb
  have hlast : ∀ {r : Nat} {y : Option (Nat × Nat)}, (β ++ [some (w.heap.size, c.size)])[r]? = some y → (r < β.length ∧ β[r]? = some y) ∨ (r = β.length ∧ y = some (w.heap.size, c.size)) := by
    intro r y h
    rcases Nat.lt_or_ge r β.length with h' | h'
    · rw [List.getElem?_append_left h'] at h; exact .inl ⟨h', h⟩
    · rw [List.getElem?_append_right h'] at h
      rcases Nat.eq_zero_or_pos (r - β.length) with h0 | h0
      · rw [h0] at h; exact .inr ⟨by omega, by simpa using h.symm⟩
      · rw [List.getElem?_eq_none (by simp; omega)] at h; cases h
  have hlast' : ∀ {r : Nat} {ds : List AV}, (st ++ [some cs])[r]? = some (some ds) → (r < st.length ∧ st[r]? = some (some ds)) ∨ (r = st.length ∧ ds = cs) := by
    intro r y h
    rcases Nat.lt_or_ge r st.length with h' | h'
    · rw [List.getElem?_append_left h'] at h; exact .inl ⟨h', h⟩
    · rw [List.getElem?_append_right h'] at h
      rcases Nat.eq_zero_or_pos (r - st.length) with h0 | h0
      · rw [h0] at h; exact .inr ⟨by omega, by simpa using h.symm⟩
      · rw [List.getElem?_eq_none (by simp; omega)] at h; cases h
  have ghOld : ∀ {r : Nat} {S : List Nat} {G : World → Prop}, (st ++ [some cs])[r]? = some (some [.gh S G]) → st[r]? = some (some [.gh S G]) := by
    intro r S G h
    rcases hlast' h with ⟨_, h⟩ | ⟨_, h⟩
    · exact h
    · obtain ⟨u, _, hu⟩ := hv 0 (.gh S G) (by rw [← h]; rfl)
      exact (no_gh hu).elim
  refine ⟨hG.b0, hG.b1, by simp [hI.len], ?_, ?_, ?_, ?_, ?_, ?_, fun r S G hr => ?_, fun r r' S S' G G' h1 h2 => hI.gi r r' S S' G G' (ghOld h1) (ghOld h2), fun r S G hr => hI.gm r S G (ghOld hr), hG.mks, hI.nd⟩
  rotate_left 6
  · obtain ⟨h1, h2, h3, h4, h5, h6⟩ := hG.gh r S G (ghOld hr)
    refine ⟨h1, h2, h3, h4, fun k hk => ?_, fun r' ds b m hs' hb' => ?_⟩
    · obtain ⟨r', m, h7⟩ := h5 k hk
      exact ⟨r', m, by rw [List.getElem?_append_left (List.getElem?_eq_some_iff.1 h7).1]; exact h7⟩
    rcases hlast hb' with ⟨h7, h⟩ | ⟨_, h⟩
    · rcases hlast' hs' with ⟨_, h8⟩ | ⟨h8, _⟩
      · exact h6 r' ds b m h8 h
      · have := hI.len; omega
    · cases h
      intro hk
      have := ((hI.gh r S G (ghOld hr)).2.2.1 _ hk).2
      omega
  · obtain ⟨y, hy⟩ := hI.stp; exact ⟨y ++ [some cs], by rw [hy]; simp⟩
  · obtain ⟨y, hy⟩ := hI.bep; exact ⟨y ++ [some (w.heap.size, c.size)], by rw [← List.append_assoc, ← hy]⟩
  · intro r b m hr hb'
    rcases hlast hb' with ⟨_, h⟩ | ⟨_, h⟩
    · exact hI.nw r b m hr h
    · cases h; exact hI.b1.size
  · intro r b m hb'
    rcases hlast hb' with ⟨_, h⟩ | ⟨_, h⟩
    · exact hG.ow r b m h
    · cases h; exact ⟨hsz, by simp⟩
  · intro r ds hr
    rcases hlast' hr with ⟨h1, h⟩ | ⟨h1, rfl⟩
    · obtain ⟨bk, h2, h3⟩ := hG.obj r ds h
      refine ⟨bk, by rw [List.getElem?_append_left (by rw [hI.len]; exact h1)]; exact h2, ?_⟩
      cases bk with
      | none => exact h3
      | some p =>
        obtain ⟨b, m⟩ := p
        obtain ⟨c', e', h4, h5, h6, h7⟩ := h3
        exact ⟨c', e', h4, h5, h6, fun j x hx => by obtain ⟨u, h8, h9⟩ := h7 j x hx; exact ⟨u, h8, h9.ext _⟩⟩
    · refine ⟨some (w.heap.size, c.size), by rw [h1, ← hI.len]; simp, c, e, by simp, rfl, hl, fun j x hx => ?_⟩
      obtain ⟨u, h8, h9⟩ := hv j x hx
      exact ⟨u, h8, h9.ext _⟩
  · intro r r' ds ds' b m m' h1 h2 h3 h4
    rcases hlast h3 with ⟨g1, g2⟩ | ⟨g1, g2⟩ <;> rcases hlast h4 with ⟨g3, g4⟩ | ⟨g3, g4⟩
    · rcases hlast' h1 with ⟨k1, k2⟩ | ⟨k1, k2⟩
      · rcases hlast' h2 with ⟨k3, k4⟩ | ⟨k3, k4⟩
        · exact hI.inj r r' ds ds' b m m' k2 k4 g2 g4
        · have := hI.len; omega
      · have := hI.len; omega
    · cases g4; have := (hI.ow r _ _ g2).2; omega
    · cases g2; have := (hI.ow r' _ _ g4).2; omega
    · omega

/-- A new object that lies nowhere yet: an empty slice. -/
theorem Inv.phantom (hI : Inv X β st w) : Inv X (β ++ [none]) (st ++ [some []]) w := by
  have hlast : ∀ {r : Nat} {p : Nat × Nat}, (β ++ [none])[r]? = some (some p) → r < β.length ∧ β[r]? = some (some p) := by
    intro r y h
    rcases Nat.lt_or_ge r β.length with h' | h'
    · rw [List.getElem?_append_left h'] at h; exact ⟨h', h⟩
    · rw [List.getElem?_append_right h'] at h
      rcases Nat.eq_zero_or_pos (r - β.length) with h0 | h0
      · rw [h0] at h; simp at h
      · rw [List.getElem?_eq_none (by simp; omega)] at h; cases h
  have hlast' : ∀ {r : Nat} {ds : List AV}, (st ++ [some []])[r]? = some (some ds) → (r < st.length ∧ st[r]? = some (some ds)) ∨ (r = st.length ∧ ds = []) := by
    intro r y h
    rcases Nat.lt_or_ge r st.length with h' | h'
    · rw [List.getElem?_append_left h'] at h; exact .inl ⟨h', h⟩
    · rw [List.getElem?_append_right h'] at h
      rcases Nat.eq_zero_or_pos (r - st.length) with h0 | h0
      · rw [h0] at h; exact .inr ⟨by omega, by simpa using h.symm⟩
      · rw [List.getElem?_eq_none (by simp; omega)] at h; cases h
  have ghOld : ∀ {r : Nat} {S : List Nat} {G : World → Prop}, (st ++ [some []])[r]? = some (some [.gh S G]) → st[r]? = some (some [.gh S G]) := by
    intro r S G h
    rcases hlast' h with ⟨_, h⟩ | ⟨_, h⟩
    · exact h
    · cases h
  refine ⟨hI.b0, hI.b1, by simp [hI.len], ?_, ?_, fun r b m hr hb => hI.nw r b m hr (hlast hb).2, fun r b m hb => hI.ow r b m (hlast hb).2, ?_, ?_, fun r S G hr => ?_, fun r r' S S' G G' h1 h2 => hI.gi r r' S S' G G' (ghOld h1) (ghOld h2), fun r S G hr => hI.gm r S G (ghOld hr), hI.mks, hI.nd⟩
  rotate_left 4
  · obtain ⟨h1, h2, h3, h4, h5, h6⟩ := hI.gh r S G (ghOld hr)
    refine ⟨h1, h2, h3, h4, fun k hk => ?_, fun r' ds b m hs' hb' => ?_⟩
    · obtain ⟨r', m, h7⟩ := h5 k hk
      exact ⟨r', m, by rw [List.getElem?_append_left (List.getElem?_eq_some_iff.1 h7).1]; exact h7⟩
    · rcases hlast' hs' with ⟨_, h8⟩ | ⟨h8, _⟩
      · exact h6 r' ds b m h8 (hlast hb').2
      · have := (hlast hb').1; have := hI.len; omega
  · obtain ⟨y, hy⟩ := hI.stp; exact ⟨y ++ [some []], by rw [hy]; simp⟩
  · obtain ⟨y, hy⟩ := hI.bep; exact ⟨y ++ [none], by rw [← List.append_assoc, ← hy]⟩
  · intro r ds hr
    rcases hlast' hr with ⟨h1, h⟩ | ⟨h1, rfl⟩
    · obtain ⟨bk, h2, h3⟩ := hI.obj r ds h
      refine ⟨bk, by rw [List.getElem?_append_left (by rw [hI.len]; exact h1)]; exact h2, ?_⟩
      cases bk with
      | none => exact h3
      | some p =>
        obtain ⟨b, m⟩ := p
        obtain ⟨c', e', h4, h5, h6, h7⟩ := h3
        exact ⟨c', e', h4, h5, h6, fun j x hx => by obtain ⟨u, h8, h9⟩ := h7 j x hx; exact ⟨u, h8, h9.ext _⟩⟩
    · exact ⟨none, by rw [h1, ← hI.len]; simp, .inl rfl⟩
  · intro r r' ds ds' b m m' h1 h2 h3 h4
    obtain ⟨g1, g2⟩ := hlast h3
    obtain ⟨g3, g4⟩ := hlast h4
    rw [List.getElem?_append_left (by rw [← hI.len]; exact g1)] at h1
    rw [List.getElem?_append_left (by rw [← hI.len]; exact g3)] at h2
    exact hI.inj r r' ds ds' b m m' h1 h2 g2 g4

/-- An object's cells anew (in its block). -/
theorem Inv.rewrite (hI : Inv X β st w) {r b m : Nat} {cs ds : List AV} (hr : X.st1.length ≤ r) (hst : st[r]? = some (some cs)) (hb : β[r]? = some (some (b, m))) {c c' : Array Value} {e : TypeId}
    (hc : w.heap[b]? = some (.cells c e (0, 0))) (hs : c'.size = c.size) (hl : ds.length ≤ c'.size) (hv : ∀ (j : Nat) x, ds[j]? = some x → ∃ u, c'[j]? = some u ∧ VRel X.w0 β u x) :
    Inv X β (st.set r (some ds)) (w.setRow b c') := by
  have hbs := (hI.ow r b m hb).2
  have hnew : X.w1.heap.size ≤ b := hI.nw r b m hr hb
  obtain ⟨bk, h1, h2⟩ := hI.obj r cs hst
  rw [hb] at h1
  cases h1
  obtain ⟨c0, e0, h3, h4, h5, h6⟩ := h2
  rw [hc] at h3
  cases h3
  have hrow : (w.setRow b c').heap[b]? = some (.cells c' e (0, 0)) := setRow_heap w b c c' e (0, 0) hc
  have hoth : ∀ k, k ≠ b → (w.setRow b c').heap[k]? = w.heap[k]? := fun k hk => by simp [World.setRow, Array.getElem?_modify, Ne.symm hk]
  have hsize : (w.setRow b c').heap.size = w.heap.size := by simp [World.setRow]
  have hrl : r < st.length := (List.getElem?_eq_some_iff.1 hst).1
  have ghOld : ∀ {q : Nat} {S : List Nat} {G : World → Prop}, (st.set r (some ds))[q]? = some (some [.gh S G]) → st[q]? = some (some [.gh S G]) := by
    intro q S G h
    rw [List.getElem?_set] at h
    by_cases he : r = q
    · subst he
      rw [if_pos rfl, if_pos hrl] at h
      obtain ⟨u, _, hu⟩ := hv 0 (.gh S G) (by cases h; rfl)
      exact (no_gh hu).elim
    · rw [if_neg he] at h; exact h
  refine ⟨hI.b0, ?_, by simp [hI.len], ?_, hI.bep, hI.nw, fun r' b' m' h => by rw [hsize]; exact hI.ow r' b' m' h, ?_, ?_, fun q S G hq => ?_, fun q q' S S' G G' k1 k2 => hI.gi q q' S S' G G' (ghOld k1) (ghOld k2), fun q S G hq => hI.gm q S G (ghOld hq), fun D hD => ?_, hI.nd⟩
  rotate_left 4
  · obtain ⟨k1, k2, k3, k4, k5, k6⟩ := hI.gh q S G (ghOld hq)
    refine ⟨k1, k1 w _ (fun k hk => hoth k fun e => k6 r cs b m hst hb (e ▸ hk)) k2, fun k hk => by rw [hsize]; exact k3 k hk, k4, k5, fun r' es b' m' hs' hb' => ?_⟩
    rw [List.getElem?_set] at hs'
    by_cases he : r = r'
    · subst he; exact k6 r cs b' m' hst hb'
    · rw [if_neg he] at hs'; exact k6 r' es b' m' hs' hb'
  · rw [hoth D fun e => ?_]
    · exact hI.mks D hD
    · have k1 := hI.mks D hD
      rw [e, hc] at k1; cases k1
  · exact hI.b1.trans ⟨rfl, rfl, rfl, by rw [hsize]; exact Nat.le_refl _, fun k hk => hoth k (by omega)⟩
  · obtain ⟨y, hy⟩ := hI.stp
    refine ⟨y.set (r - X.st1.length) (some ds), ?_⟩
    rw [hy, List.set_append_right _ _ hr]
  · intro r' es hr'
    rw [List.getElem?_set] at hr'
    by_cases he : r = r'
    · subst he
      rw [if_pos rfl, if_pos hrl] at hr'
      cases hr'
      exact ⟨_, hb, c', e, hrow, by rw [hs]; exact h4, by omega, hv⟩
    · rw [if_neg he] at hr'
      obtain ⟨bk, g1, g2⟩ := hI.obj r' es hr'
      refine ⟨bk, g1, ?_⟩
      cases bk with
      | none => exact g2
      | some p =>
        obtain ⟨b', m'⟩ := p
        obtain ⟨c1, e1, g3, g4⟩ := g2
        exact ⟨c1, e1, by rw [hoth b' (fun hbb => he (hI.inj r r' cs es b m m' hst hr' hb (by rw [← hbb]; exact g1)))]; exact g3, g4⟩
  · intro r1 r2 d1 d2 b' m1 m2 g1 g2 g3 g4
    have alive : ∀ {q : Nat} {d : List AV}, (st.set r (some ds))[q]? = some (some d) → ∃ d', st[q]? = some (some d') := fun {q d} h => by
      rw [List.getElem?_set] at h
      by_cases he : r = q
      · subst he; exact ⟨cs, hst⟩
      · rw [if_neg he] at h; exact ⟨d, h⟩
    obtain ⟨d1', k1⟩ := alive g1
    obtain ⟨d2', k2⟩ := alive g2
    exact hI.inj r1 r2 d1' d2' b' m1 m2 k1 k2 g3 g4

/-- An object given up. -/
theorem Inv.kill (hI : Inv X β st w) {r : Nat} (hr : X.st1.length ≤ r) : Inv X β (st.set r none) w := by
  have alive : ∀ {q : Nat} {d : List AV}, (st.set r none)[q]? = some (some d) → st[q]? = some (some d) := fun {q d} h => by
    rw [List.getElem?_set] at h
    by_cases he : r = q
    · subst he; rw [if_pos rfl] at h; split at h <;> cases h
    · rw [if_neg he] at h; exact h
  refine ⟨hI.b0, hI.b1, by simp [hI.len], ?_, hI.bep, hI.nw, hI.ow, fun r' es h => hI.obj r' es (alive h), fun r1 r2 d1 d2 b' m1 m2 g1 g2 g3 g4 => hI.inj r1 r2 d1 d2 b' m1 m2 (alive g1) (alive g2) g3 g4, fun q S G h => (fun ⟨k1, k2, k3, k4, k5, k6⟩ => ⟨k1, k2, k3, k4, k5, fun r' ds b m hs' => k6 r' ds b m (alive hs')⟩) (hI.gh q S G (alive h)), fun q q' S S' G G' k1 k2 => hI.gi q q' S S' G G' (alive k1) (alive k2), fun q S G hq => hI.gm q S G (alive hq), hI.mks, hI.nd⟩
  obtain ⟨y, hy⟩ := hI.stp
  refine ⟨y.set (r - X.st1.length) none, ?_⟩
  rw [hy, List.set_append_right _ _ hr]

/-- What an operation that makes memory, or writes to it, comes to. -/
def Eff (X : Cx) (β : Bk) (w : World) (a : Act) (o : Oper) (K : AV → St → Prop) : Prop :=
  ∃ v x ex st' w', ((execOp a.eval o).run X.P w = .ok (.value v) w' ∨ ((execOp a.eval o).run X.P w = .ok .skip w' ∧ v = undef)) ∧ Inv X (β ++ ex) st' w' ∧ VRel X.w0 (β ++ ex) v x ∧ K x st'

theorem vrel_new {w0 : World} {b m off : Nat} : VRel w0 (β ++ [some (b, m)]) (.pointer (some ⟨b, off, none⟩)) (.ptr β.length off) := .ptr (m := m) (by simp)

/-- What is so of blocks outside the live objects, kept in mind. -/
theorem Inv.ghost (hI : Inv X β st w) {S : List Nat} {G : World → Prop} (hs : Stable S G) (hg : G w) (hS : ∀ k ∈ S, X.w1.heap.size ≤ k ∧ k < w.heap.size) (hr : ∀ k ∈ S, ∃ (r' : Nat) (m : Nat), β[r']? = some (some (k, m)))
    (hd : ∀ (r' : Nat) cs b m, st[r']? = some (some cs) → β[r']? = some (some (b, m)) → b ∉ S) (hgh : ∀ (r : Nat) S' G', st[r]? = some (some [.gh S' G']) → ∀ k ∈ S, k ∉ S') (hm : ∀ D ∈ X.ds ++ X.ms, D ∉ S) :
    Inv X (β ++ [none]) (st ++ [some [.gh S G]]) w := by
  have hlast : ∀ {r : Nat} {p : Nat × Nat}, (β ++ [none])[r]? = some (some p) → r < β.length ∧ β[r]? = some (some p) := by
    intro r y h
    rcases Nat.lt_or_ge r β.length with h' | h'
    · rw [List.getElem?_append_left h'] at h; exact ⟨h', h⟩
    · rw [List.getElem?_append_right h'] at h
      rcases Nat.eq_zero_or_pos (r - β.length) with h0 | h0
      · rw [h0] at h; simp at h
      · rw [List.getElem?_eq_none (by simp; omega)] at h; cases h
  have hlast' : ∀ {r : Nat} {ds : List AV}, (st ++ [some [.gh S G]])[r]? = some (some ds) → (r < st.length ∧ st[r]? = some (some ds)) ∨ (r = st.length ∧ ds = [.gh S G]) := by
    intro r y h
    rcases Nat.lt_or_ge r st.length with h' | h'
    · rw [List.getElem?_append_left h'] at h; exact .inl ⟨h', h⟩
    · rw [List.getElem?_append_right h'] at h
      rcases Nat.eq_zero_or_pos (r - st.length) with h0 | h0
      · rw [h0] at h; exact .inr ⟨by omega, by simpa using h.symm⟩
      · rw [List.getElem?_eq_none (by simp; omega)] at h; cases h
  have reg : ∀ {k : Nat}, (∃ (r' : Nat) (m : Nat), β[r']? = some (some (k, m))) → ∃ (r' : Nat) (m : Nat), (β ++ [none])[r']? = some (some (k, m)) := fun ⟨r', m, h⟩ => ⟨r', m, by rw [List.getElem?_append_left (List.getElem?_eq_some_iff.1 h).1]; exact h⟩
  have dis : ∀ {T : List Nat}, (∀ (r' : Nat) cs b m, st[r']? = some (some cs) → β[r']? = some (some (b, m)) → b ∉ T) → ∀ (r' : Nat) cs b m, (st ++ [some [.gh S G]])[r']? = some (some cs) → (β ++ [none])[r']? = some (some (b, m)) → b ∉ T := by
    intro T h r' cs b m h1 h2
    obtain ⟨g1, g2⟩ := hlast h2
    rcases hlast' h1 with ⟨_, h3⟩ | ⟨h3, _⟩
    · exact h r' cs b m h3 g2
    · have := hI.len; omega
  refine ⟨hI.b0, hI.b1, by simp [hI.len], ?_, ?_, fun r b m hr hb => hI.nw r b m hr (hlast hb).2, fun r b m hb => hI.ow r b m (hlast hb).2, ?_, ?_, ?_, ?_, ?_, hI.mks, hI.nd⟩
  · obtain ⟨y, hy⟩ := hI.stp; exact ⟨y ++ [some [.gh S G]], by rw [hy]; simp⟩
  · obtain ⟨y, hy⟩ := hI.bep; exact ⟨y ++ [none], by rw [← List.append_assoc, ← hy]⟩
  · intro r ds hr
    rcases hlast' hr with ⟨h1, h⟩ | ⟨h1, rfl⟩
    · obtain ⟨bk, h2, h3⟩ := hI.obj r ds h
      refine ⟨bk, by rw [List.getElem?_append_left (by rw [hI.len]; exact h1)]; exact h2, ?_⟩
      cases bk with
      | none => exact h3
      | some p =>
        obtain ⟨b, m⟩ := p
        obtain ⟨c', e', h4, h5, h6, h7⟩ := h3
        exact ⟨c', e', h4, h5, h6, fun j x hx => by obtain ⟨u, h8, h9⟩ := h7 j x hx; exact ⟨u, h8, h9.ext _⟩⟩
    · exact ⟨none, by rw [h1, ← hI.len]; simp, .inr ⟨S, G, rfl⟩⟩
  · intro r r' ds ds' b m m' h1 h2 h3 h4
    obtain ⟨g1, g2⟩ := hlast h3
    obtain ⟨g3, g4⟩ := hlast h4
    rw [List.getElem?_append_left (by rw [← hI.len]; exact g1)] at h1
    rw [List.getElem?_append_left (by rw [← hI.len]; exact g3)] at h2
    exact hI.inj r r' ds ds' b m m' h1 h2 g2 g4
  · intro r S' G' hq
    rcases hlast' hq with ⟨h1, h⟩ | ⟨h1, h⟩
    · obtain ⟨k1, k2, k3, k4, k5, k6⟩ := hI.gh r S' G' h
      exact ⟨k1, k2, k3, k4, fun k hk => reg (k5 k hk), dis k6⟩
    · cases h
      exact ⟨hs, hg, fun k hk => ⟨Nat.le_trans hI.b0.size (hS k hk).1, (hS k hk).2⟩, fun _ k hk => (hS k hk).1, fun k hk => reg (hr k hk), dis hd⟩
  · intro r r' S1 S2 G1 G2 h1 h2 hne k hk1 hk2
    rcases hlast' h1 with ⟨a1, a2⟩ | ⟨a1, a2⟩ <;> rcases hlast' h2 with ⟨b1, b2⟩ | ⟨b1, b2⟩
    · exact hI.gi r r' S1 S2 G1 G2 a2 b2 hne k hk1 hk2
    · cases b2; exact hgh r S1 G1 a2 k hk2 hk1
    · cases a2; exact hgh r' S2 G2 b2 k hk1 hk2
    · omega
  · intro r S' G' hq D hD
    rcases hlast' hq with ⟨h1, h⟩ | ⟨h1, h⟩
    · exact hI.gm r S' G' h D hD
    · cases h; exact hm D hD
theorem bldG_stable {S : List Nat} {T U : TypeId} {b : Nat} {bs : List Nat} : Stable S (BldG S T U b bs) := by
  rintro w w' h ⟨hb, p, v, h1, h2, h3, h4, h5⟩
  refine ⟨hb, p, v, by rw [h b hb]; exact h1, h2, ⟨h3.1, ?_⟩, h4, h5⟩
  rcases h3.2 with h6 | ⟨g, cap, cur, e1, e2, e3, e4⟩
  · exact .inl h6
  · subst e1
    exact .inr ⟨g, cap, cur, rfl, e2, by rw [h g (h5 g rfl)]; exact e3, e4⟩
theorem bz_spec {l : List Value} (h : bz l = true) : l = [.pointer none, .slice none 0 0] := by
  unfold bz at h
  split at h
  · rfl
  · cases h

theorem e_alloc {t : TypeId} (hop : o.op = .alloc t) (hI : Inv X β st w) (h : vcE X (.alloc t) st K) : Eff X β w a o K := by
  unfold vcE at h
  obtain ⟨hg, hK⟩ := h
  obtain ⟨d, i, z, hd, hi, hz, hzs, hsz, hzz, hag⟩ := ti_good hg
  cases hbz : bz (ti X.P t).zero
  rotate_left
  · rw [hbz, cond_true] at hK
    obtain ⟨U, hK⟩ := hK
    have hzl := bz_spec hbz
    have hinv := hI.alloc z.cells t [] (by simp) (fun j x hx => by simp at hx)
    have hlen := hI.len
    have hle : X.st1.length ≤ st.length := by obtain ⟨y, hy⟩ := hI.stp; rw [hy]; simp
    have hk := hinv.kill (r := st.length) hle
    have hset : (st ++ [some ([] : List AV)]).set st.length none = st ++ [none] := by rw [List.set_append_right _ _ (Nat.le_refl _), Nat.sub_self]; rfl
    rw [hset] at hk
    have hzc : z.cells = #[.pointer none, .slice none 0 0] := by
      apply Array.ext'
      rw [← hzz, hzl]
    have hsz2 : ({ w with heap := w.heap.push (.cells z.cells t) } : World).heap.size = w.heap.size + 1 := by simp
    have hb1 := hI.b1.size
    have hgst := hk.ghost (S := [w.heap.size]) (G := BldG [w.heap.size] t U w.heap.size []) bldG_stable ⟨by simp, .pointer none, .slice none 0 0, by simp [hzc], .inl rfl, ⟨by simp, .inl ⟨rfl, rfl⟩⟩, by simp [Value.ownBlock], fun g hg => by simp [Value.ownBlock] at hg⟩
      (fun k hk => by simp only [List.mem_singleton] at hk; subst hk; exact ⟨hb1, by rw [hsz2]; omega⟩)
      (fun k hk => by simp only [List.mem_singleton] at hk; subst hk; exact ⟨β.length, z.cells.size, by simp⟩)
      (fun r' cs b m h1 h2 => by
        have hlt : r' < st.length := by
          rcases Nat.lt_or_ge r' st.length with h' | h'
          · exact h'
          · rw [List.getElem?_append_right h'] at h1
            rcases Nat.eq_zero_or_pos (r' - st.length) with h0 | h0
            · rw [h0] at h1; simp at h1
            · rw [List.getElem?_eq_none (by simp; omega)] at h1; cases h1
        rw [List.getElem?_append_left (by omega)] at h2
        have := (hI.ow r' b m h2).2
        simp only [List.mem_singleton]; omega)
      (fun r S' G' h1 k hk hk2 => by
        have hlt : r < st.length := by
          rcases Nat.lt_or_ge r st.length with h' | h'
          · exact h'
          · rw [List.getElem?_append_right h'] at h1
            rcases Nat.eq_zero_or_pos (r - st.length) with h0 | h0
            · rw [h0] at h1; simp at h1
            · rw [List.getElem?_eq_none (by simp; omega)] at h1; cases h1
        rw [List.getElem?_append_left hlt] at h1
        have := ((hI.gh r S' G' h1).2.2.1 k hk2).2
        simp only [List.mem_singleton] at hk; omega)
      (fun D hD hk => by
        have h1 := hI.mks D hD
        simp only [List.mem_singleton] at hk
        rw [hk, Array.getElem?_eq_none (Nat.le_refl _)] at h1; cases h1)
    refine ⟨.pointer (some ⟨w.heap.size, 0, none⟩), .val _, [some (w.heap.size, z.cells.size), none], _, _, .inl ?_, by simpa [List.append_assoc] using hgst, .val _, hK w.heap.size⟩
    simp [execOp, hop, Instr.alloc, zeroValue, typeInfo, hi, hz, newVar, newRow]
  rw [hbz, cond_false] at hK
  have hinv := hI.alloc z.cells t ((ti X.P t).zero.map AV.val) (by rw [hzz]; simp) (fun j x hx => by
    rw [hzz, List.getElem?_map] at hx
    cases hj : z.cells.toList[j]? with
    | none => simp [hj] at hx
    | some u =>
      simp only [hj, Option.map_some, Option.some.injEq] at hx
      subst hx
      exact ⟨u, by simpa using hj, .val u⟩)
  refine ⟨_, _, _, _, _, .inl ?_, hinv, vrel_new (off := 0), by rw [hI.len]; exact hK⟩
  simp [execOp, hop, Instr.alloc, zeroValue, typeInfo, hi, hz, newVar, newRow]

theorem e_box {t : TypeId} {y : Operand} (hop : o.op = .box t y) (hI : Inv X β st w) (hS : SRel X N β s a) (h : vcE X (.box t (ev s y)) st K) : Eff X β w a o K := by
  unfold vcE at h
  obtain ⟨hk, hK⟩ := h
  obtain ⟨c1, c2, c3⟩ := cells_rel (hS.eval y) hk
  have hinv := hI.alloc (a.eval y).cells t (cellsA (ev s y)) (by omega) (fun j x hx => by
    have hlt : j < (a.eval y).cells.size := by rw [c1]; exact (List.getElem?_eq_some_iff.1 hx).1
    exact ⟨_, Array.getElem?_eq_getElem hlt, c2 j _ _ (Array.getElem?_eq_getElem hlt) hx⟩)
  refine ⟨_, _, _, _, _, .inl ?_, hinv, vrel_new (off := 0), by rw [hI.len]; exact hK⟩
  simp [execOp, hop, Instr.box, newVar, newRow]

theorem zcells {n : Nat} {zs : Array Value} (j : Nat) (x : AV) (hx : (zrow n zs.toList)[j]? = some x) :
    ∃ u, ((Array.range (n * zs.size)).map (zs[· % zs.size]!))[j]? = some u ∧ x = .val u := by
  have key : ∀ n j, (zrow n zs.toList)[j]? = if j < n * zs.size then some (.val (zs[j % zs.size]!)) else none := by
    intro n
    induction n with
    | zero => intro j; simp [zrow]
    | succ n ih =>
      intro j
      have e : zrow (n + 1) zs.toList = zs.toList.map AV.val ++ zrow n zs.toList := by simp [zrow, List.replicate_succ]
      rw [e, List.getElem?_append]
      by_cases hj : j < zs.size
      · rw [if_pos (by simpa using hj), if_pos (by rw [Nat.add_mul]; omega), Nat.mod_eq_of_lt hj, List.getElem?_map, Array.getElem?_toList, Array.getElem?_eq_getElem hj]
        simp [getElem!_pos zs j hj]
      · rw [if_neg (by simpa using hj), ih]
        simp only [List.length_map, Array.length_toList]
        rw [Nat.add_mul, Nat.one_mul]
        generalize n * zs.size = q
        by_cases hj2 : j - zs.size < q
        · rw [if_pos hj2, if_pos (by omega), ← Nat.mod_eq_sub_mod (by omega)]
        · rw [if_neg hj2, if_neg (by omega)]
  rw [key] at hx
  split at hx
  · rename_i hj
    cases hx
    exact ⟨_, by simp [hj], rfl⟩
  · cases hx

theorem zrow_length (n : Nat) (z : List Value) : (zrow n z).length = n * z.length := by simp [zrow]

theorem e_mkSl {t : TypeId} {x y : Operand} (hop : o.op = .makeSlice t x y) (hI : Inv X β st w) (hS : SRel X N β s a) (h : vcE X (.mkSl t (ev s x) (ev s y)) st K) : Eff X β w a o K := by
  have hx := hS.eval x
  have hy := hS.eval y
  unfold vcE at h
  simp only at h
  split at h
  · rename_i e sz by_ ez z n m ht h1 h2
    rw [h1] at hx
    rw [h2] at hy
    have hx := inv_val hx
    have hy := inv_val hy
    obtain ⟨rfl, h0, hn, hb, hK⟩ := h
    obtain ⟨hu, inf, zv, hinf, hsz, hby, hz, hez, hel, hpos⟩ := ti_slice ht
    obtain ⟨q, rfl⟩ := Int.eq_ofNat_of_zero_le h0
    have hzs : zv.cells.size = sz := by rw [← hel, ← hez]; simp
    simp only [Int.toNat_natCast] at hK
    have hinv := hI.alloc ((Array.range (q * sz)).map (zv.cells[· % zv.cells.size]!)) e (zrow q ez) (by rw [zrow_length]; simp [hel]) (fun j x hx => by
      rw [← hez] at hx
      obtain ⟨u, hu, rfl⟩ := zcells j x hx
      rw [hzs] at hu ⊢
      exact ⟨u, hu, .val u⟩)
    refine ⟨.slice (some ⟨w.heap.size, 0, none⟩) q q, .own β.length 0 q sz, _, _, _, .inl ?_, hinv, .own (b := w.heap.size) (m := q * sz) (by simp) (by omega) (Nat.le_refl _) (fun _ => ⟨rfl, by simp⟩), by rw [hI.len]; exact hK⟩
    have hw : IntKind.i64.wrap (q : Int) = (q : Int) := by
      simp only [IntKind.wrap_i64]
      omega
    have hbq : ¬ (281474976710656 < (by_ : Int) * (q : Int)) := by omega
    have hq0 : ¬ ((q : Int) < 0) := by omega
    by_cases hqz : q * sz = 0
    · simp [execOp, hop, Instr.makeSlice, run_underlying hu, hx, hy, asInt, asIntOf, typeInfo, hinf, hby, hw, hbq, sizeOf, hsz, hqz, newRow, hq0]
      simp [show Array.range 0 = #[] from rfl]
    · simp [execOp, hop, Instr.makeSlice, run_underlying hu, hx, hy, asInt, asIntOf, typeInfo, hinf, hby, hw, hbq, sizeOf, hsz, zeroValue, hz, newRow, hqz, hq0]
  · exact h.elim

theorem e_buildSl {t : TypeId} {n : Nat} {ps : Array (Nat × Operand)} (hop : o.op = .buildSlice t n ps) (hI : Inv X β st w) (hS : SRel X N β s a) (h : vcE X (.buildSl t n (ps.toList.map fun p => (p.1, ev s p.2))) st K) : Eff X β w a o K := by
  unfold vcE at h
  simp only at h
  split at h
  · rename_i e sz by_ ez z ht
    obtain ⟨hn, hn2, h⟩ := h
    obtain ⟨hu, inf, zv, hinf, hsz, hby, hz, hez, hel, hpos⟩ := ti_slice ht
    have hzs : zv.cells.size = sz := by rw [← hel, ← hez]; simp
    cases hfill : fillA (fun i => some (i * sz, sz)) (zrow n ez) (ps.toList.map fun p => (p.1, ev s p.2)) with
    | none => simp [hfill] at h
    | some cs =>
      simp only [hfill] at h
      obtain ⟨us, g1, g2, g3, g4⟩ := fill_rel (w0 := X.w0) _ _ ((Array.range (n * sz)).map (zv.cells[· % zv.cells.size]!)) _ _ (parts_rel hS ps).1 (parts_rel hS ps).2 (by rw [zrow_length]; simp [hel]) (fun j u x hu hx => by
        rw [← hez] at hx
        obtain ⟨u', hu', rfl⟩ := zcells j x hx
        rw [hzs] at hu'
        rw [hzs] at hu
        rw [hu] at hu'
        cases hu'
        exact .val u) hfill
      have hinv := hI.alloc us e cs (by omega) (fun j x hx => by
        have hlt : j < us.size := by rw [g2]; exact (List.getElem?_eq_some_iff.1 hx).1
        exact ⟨_, Array.getElem?_eq_getElem hlt, g4 j _ _ (Array.getElem?_eq_getElem hlt) hx⟩)
      have hus : us.size = n * sz := by rw [g2, g3, zrow_length, hel]
      refine ⟨.slice (some ⟨w.heap.size, 0, none⟩) n n, .own β.length 0 n sz, _, _, _, .inl ?_, hinv, .own (b := w.heap.size) (m := us.size) (by simp) hn2 (Nat.le_refl _) (fun _ => ⟨rfl, by omega⟩), by rw [hI.len]; exact h⟩
      have hn' : ¬ (16777216 < n * sz) := by omega
      by_cases hqz : n * sz = 0
      · have g1' : Instr.fill (fun i => some (i * sz, sz)) #[] (ps.map fun p => (p.1, a.eval p.2)).toList = some us := by rw [← g1, hqz, show Array.range 0 = #[] from rfl, Array.map_empty]
        simp only [Array.toList_map] at g1'
        simp [execOp, hop, Instr.buildSlice, run_underlying hu, sizeOf, typeInfo, hinf, hsz, hqz, newRow, show Array.range 0 = #[] from rfl, g1']
      · simp only [Array.toList_map] at g1
        simp [execOp, hop, Instr.buildSlice, run_underlying hu, sizeOf, typeInfo, hinf, hsz, hqz, hn', zeroValue, hz, newRow, g1]
  · exact h.elim

theorem put1_rel {w0 : World} {v : Value} {y : AV} (hv : VRel w0 β v y) (hk : okCells y = true) {c : Array Value} {cs : List AV} {off : Nat} (hl : cs.length ≤ c.size) (hc : ∀ (j : Nat) x, cs[j]? = some x → ∃ u, c[j]? = some u ∧ VRel w0 β u x)
    (hfit : off + (cellsA y).length ≤ cs.length) : ((c.toList.take off ++ v.cells.toList ++ c.toList.drop (off + v.cells.toList.length)).toArray).size = c.size ∧ (put1 cs off y).length = cs.length ∧
    ∀ (j : Nat) x, (put1 cs off y)[j]? = some x → ∃ u, ((c.toList.take off ++ v.cells.toList ++ c.toList.drop (off + v.cells.toList.length)).toArray)[j]? = some u ∧ VRel w0 β u x := by
  obtain ⟨c1, c2, c3⟩ := cells_rel hv hk
  have hput : put1 cs off y = cs.take off ++ cellsA y ++ cs.drop (off + (cellsA y).length) := by
    cases y with
    | agg ys => rfl
    | _ =>
      simp only [put1, cellsA, List.length_singleton] at hfit ⊢
      rw [List.set_eq_take_append_cons_drop, if_pos (by omega)]
      simp
  have hL : v.cells.toList.length = (cellsA y).length := by simpa using c1
  refine ⟨by simp; omega, by rw [hput]; simp; omega, fun j x hx => ?_⟩
  rw [hput] at hx
  rw [hL]
  simp only [List.getElem?_toArray]
  by_cases h1 : j < off
  · rw [List.getElem?_append_left (by simp; omega), List.getElem?_append_left (by simp; omega), List.getElem?_take, if_pos h1] at hx
    rw [List.getElem?_append_left (by simp; omega), List.getElem?_append_left (by simp; omega), List.getElem?_take, if_pos h1]
    obtain ⟨u, hu, hvu⟩ := hc j x hx
    exact ⟨u, by simpa using hu, hvu⟩
  · by_cases h2 : j < off + (cellsA y).length
    · rw [List.getElem?_append_left (by simp; omega), List.getElem?_append_right (by simp; omega)] at hx
      rw [List.getElem?_append_left (by simp; omega), List.getElem?_append_right (by simp; omega)]
      simp only [List.length_take, Array.length_toList] at hx ⊢
      rw [show min off cs.length = off by omega] at hx
      rw [show min off c.size = off by omega]
      have hlt : j - off < v.cells.size := by omega
      refine ⟨v.cells[j - off], by simp [hlt], c2 (j - off) _ x (Array.getElem?_eq_getElem hlt) hx⟩
    · rw [List.getElem?_append_right (by simp; omega)] at hx
      rw [List.getElem?_append_right (by simp; omega)]
      simp only [List.length_append, List.length_take, Array.length_toList, List.getElem?_drop] at hx ⊢
      rw [show off + (cellsA y).length + (j - (min off cs.length + (cellsA y).length)) = j by omega] at hx
      rw [show off + (cellsA y).length + (j - (min off c.size + v.cells.size)) = j by omega]
      obtain ⟨u, hu, hvu⟩ := hc j x hx
      exact ⟨u, by simpa using hu, hvu⟩

theorem e_store {t : TypeId} {x y : Operand} (hop : o.op = .store t x y) (hI : Inv X β st w) (hS : SRel X N β s a) (h : vcE X (.store t (ev s x) (ev s y)) st K) : Eff X β w a o K := by
  have hx := hS.eval x
  have hy := hS.eval y
  unfold vcE at h
  simp only at h
  cases hxv : ev s x with
  | ptr r off =>
    rw [hxv] at hx
    simp only [hxv] at h
    obtain ⟨b, m, hb, hq⟩ := inv_ptr hx
    obtain ⟨hr, h⟩ := h
    cases hst : st[r]? with
    | none => simp [hst] at h
    | some c =>
      cases c with
      | none => simp [hst] at h
      | some cs =>
        simp only [hst] at h
        obtain ⟨hg, hk, hsz, hfit, hK⟩ := h
        obtain ⟨d, i, z, hd, hi, hz, hzs, hsz2, hzz, hag⟩ := ti_good hg
        obtain ⟨bk, h1, h2⟩ := hI.obj r cs hst
        rw [hb] at h1
        cases h1
        obtain ⟨c, e, hc, hcs, hl, hcv⟩ := h2
        obtain ⟨c1, c2, c3⟩ := cells_rel hy hk
        obtain ⟨p1, p2, p3⟩ := put1_rel hy hk (by omega) hcv hfit
        have hrun := run_storeCells_at X.P b off e (a.eval y).cells.toList 0 c w hc (by simp; omega) c3
        simp only [Nat.add_zero] at hrun
        refine ⟨undef, undefA, [], _, _, .inr ⟨?_, rfl⟩, by rw [List.append_nil]; exact hI.rewrite hr hst hb hc p1 (by rw [p1, p2]; omega) p3, .val _, hK⟩
        have hne : ¬ ((a.eval y).cells.size ≠ i.size) := by rw [c1, hsz, hsz2]; simp
        simp [execOp, hop, Instr.storeAt, Instr.sureAddr, hq, storeVar, sizeOf, typeInfo, hi, hrun]
        omega
  | _ => simp only [hxv] at h

theorem args_rel (hS : SRel X N β s a) (xs : Array Operand) : VRels X.w0 β (xs.map a.eval) (xs.toList.map (ev s)) := by
  refine ⟨by simp, fun j v x hv hx => ?_⟩
  simp only [Array.getElem?_map, List.getElem?_map, Array.getElem?_toList] at hv hx
  cases hz : xs[j]? with
  | none => simp [hz] at hv
  | some z =>
    simp only [hz, Option.map_some, Option.some.injEq] at hv hx
    subst hv; subst hx
    exact hS.eval z

theorem VRels.append {w0 : World} {as bs : Array Value} {xs ys : List AV} (h1 : VRels w0 β as xs) (h2 : VRels w0 β bs ys) : VRels w0 β (as ++ bs) (xs ++ ys) := by
  refine ⟨by simp [h1.1, h2.1], fun j v x hv hx => ?_⟩
  have e1 := h1.1
  rw [Array.getElem?_append] at hv
  rw [List.getElem?_append] at hx
  by_cases hj : j < as.size
  · rw [if_pos hj] at hv
    rw [if_pos (by omega)] at hx
    exact h1.2 j v x hv hx
  · rw [if_neg hj] at hv
    rw [if_neg (by omega)] at hx
    rw [← e1] at hx
    exact h2.2 _ v x hv hx

/-- A call. -/
theorem e_call {f : Operand} {xs : Array Operand} {ts : Array TypeId} (hop : o.op = .call ⟨.value f, xs, ts⟩) (hI : Inv X β st w) (hS : SRel X N β s a) (h : vcE X (.call (ev s f) (xs.toList.map (ev s))) st K) :
    ∃ g vs, (execOp a.eval o).run X.P w = .ok (.enter g vs) w ∧ Calls X.P g vs w (fun e w' => ∃ v x ex st', e = .returned v ∧ Inv X (β ++ ex) st' w' ∧ VRel X.w0 (β ++ ex) v x ∧ K x st') := by
  unfold vcE at h
  simp only at h
  cases hfv : ev s f with
  | fn ff fs cs =>
    cases ff with
    | func g =>
      simp only [hfv] at h
      obtain ⟨R, ⟨hok, hspec⟩, hR⟩ := h
      obtain ⟨as, bs, hq, h1, h2⟩ := inv_fn (hfv ▸ hS.eval f)
      refine ⟨g, as ++ xs.map a.eval ++ bs, ?_, (hspec _ β st w _ _ K hI.shift ((h1.append (args_rel hS xs)).append h2) hR).mono fun _ _ ⟨v, x, ex, st', e1, e2, e3, e4⟩ => ⟨v, x, ex, st', e1, e2.unshift, e3, e4⟩⟩
      unfold enterOK at hok
      cases hf : X.P.funcs[g]? with
      | none => rw [hf] at hok; cases hok
      | some fn =>
        rw [hf] at hok
        simp only [Bool.and_eq_true, Bool.not_eq_true'] at hok
        have hn : ¬ (fn.name = "runtime.NumGoroutine") := by simpa using hok.2
        simp [execOp, hop, resolve, Deferred.ofValue, hq, invoke, callFunc, hf, hn]
        intro hh
        rw [hh] at hok
        simp at hok
    | _ => simp only [hfv] at h
  | _ => simp only [hfv] at h

/-- The first cells of a slice. -/
theorem first_cells (hI : Inv X β st w) {q : Value} {x : AV} {m sz : Nat} {ys : List AV} (hv : VRel X.w0 β q x) (hs : slc st x = some (m, ys)) (hl : ys.length = m * sz) (k : Nat) (hk : k ≤ m) :
    ∃ (A : Option Addr) (c : Nat) (vals : List Value), q = .slice A m c ∧ vals.length = k * sz ∧ (∀ w', Below w.heap.size w w' → (Builtin.firstCells sz k q).run X.P w' = .ok vals.toArray w') ∧
      (∀ (j : Nat) v y, vals[j]? = some v → ys[j]? = some y → VRel X.w0 β v y) ∧ (ys.all leaf = true → ∀ v ∈ vals, v.oneCell' = true) := by
  obtain ⟨hn, A, c, rfl, hR⟩ := slc_read hI hv hs
  by_cases h0 : k * sz = 0
  · refine ⟨A, c, [], rfl, by simp [h0], fun w' _ => ?_, fun j v y hv => by simp at hv, fun _ v hv => by simp at hv⟩
    cases A with
    | none => simp [Builtin.firstCells]
    | some ad => simp [Builtin.firstCells, h0, loadCells, loadCellsFrom]
  · have hkm : k * sz ≤ m * sz := Nat.mul_le_mul_right _ hk
    obtain ⟨ad, rfl, u, h1, h2⟩ := hR (by omega)
    have hu : ∀ j, j < k * sz → VRel X.w0 β (u j) (ys[j]?.getD .junk) := fun j hj => h2 j _ (by rw [List.getElem?_eq_getElem (show j < ys.length by omega)]; rfl)
    refine ⟨some ad, c, (List.range (k * sz)).map u, rfl, by simp, fun w' hb => ?_, fun j v y hv hy => ?_, fun hall v hv => ?_⟩
    · have := run_loadCells (P := X.P) w' ad (k * sz) u (fun j hj => h1 j (by omega) w' hb)
      simp [Builtin.firstCells, this]
    · rw [List.getElem?_map] at hv
      cases hj : (List.range (k * sz))[j]? with
      | none => simp [hj] at hv
      | some i =>
        simp only [hj, Option.map_some, Option.some.injEq] at hv
        subst hv
        have hlt : j < k * sz := by simpa using (List.getElem?_eq_some_iff.1 hj).1
        rw [List.getElem?_range hlt] at hj
        cases hj
        exact h2 _ y hy
    · obtain ⟨j, hj, rfl⟩ := List.mem_map.1 hv
      have hlt : j < k * sz := by simpa using hj
      have hlt' : j < ys.length := by omega
      exact leaf_one (h2 j _ (List.getElem?_eq_getElem hlt')) (List.all_eq_true.1 hall _ (List.getElem_mem _))

theorem set_self {α : Type} {l : List α} {r : Nat} {x : α} (h : l[r]? = some x) : l.set r x = l := by
  apply List.ext_getElem?
  intro j
  rw [List.getElem?_set]
  by_cases hj : r = j
  · subst hj; rw [if_pos rfl, if_pos (List.getElem?_eq_some_iff.1 h).1, h]
  · rw [if_neg hj]

theorem two_ops {xs : Array Operand} {y y' : AV} (h : xs.toList.map (ev s) = [y, y']) : ∃ z z', xs = #[z, z'] ∧ ev s z = y ∧ ev s z' = y' := by
  obtain ⟨z, r, hz, e3, e4⟩ := List.map_eq_cons_iff.1 h
  obtain ⟨z', hz', e5⟩ := List.map_eq_singleton_iff.1 e4
  exact ⟨z, z', by rw [← Array.toArray_toList (xs := xs), hz, hz'], e3, e5⟩
theorem two_ts {ts : Array TypeId} {t t' : TypeId} (h : ts.toList = [t, t']) : ts = #[t, t'] := by rw [← Array.toArray_toList (xs := ts), h]

/-- Cells put into a row. -/
theorem splice_rel {w0 : World} {vals : List Value} {zs : List AV} {c : Array Value} {cs : List AV} {off : Nat} (h1 : vals.length = zs.length) (h2 : ∀ (j : Nat) v y, vals[j]? = some v → zs[j]? = some y → VRel w0 β v y)
    (hl : cs.length ≤ c.size) (hc : ∀ (j : Nat) x, cs[j]? = some x → ∃ u, c[j]? = some u ∧ VRel w0 β u x) (hoff : off ≤ cs.length) (hfit : off + vals.length ≤ c.size) (rest : List AV) (hrest : rest = cs.drop (off + vals.length) ∨ rest = []) :
    ((c.toList.take off ++ vals ++ c.toList.drop (off + vals.length)).toArray).size = c.size ∧ (cs.take off ++ zs ++ rest).length ≤ c.size ∧
    ∀ (j : Nat) x, (cs.take off ++ zs ++ rest)[j]? = some x → ∃ u, ((c.toList.take off ++ vals ++ c.toList.drop (off + vals.length)).toArray)[j]? = some u ∧ VRel w0 β u x := by
  refine ⟨by simp; omega, by rcases hrest with rfl | rfl <;> simp <;> omega, fun j x hx => ?_⟩
  simp only [List.getElem?_toArray]
  by_cases g1 : j < off
  · rw [List.getElem?_append_left (by simp; omega), List.getElem?_append_left (by simp; omega), List.getElem?_take, if_pos g1] at hx
    rw [List.getElem?_append_left (by simp; omega), List.getElem?_append_left (by simp; omega), List.getElem?_take, if_pos g1]
    obtain ⟨u, hu, hvu⟩ := hc j x hx
    exact ⟨u, by simpa using hu, hvu⟩
  · by_cases g2 : j < off + zs.length
    · rw [List.getElem?_append_left (by simp; omega), List.getElem?_append_right (by simp; omega)] at hx
      rw [List.getElem?_append_left (by simp; omega), List.getElem?_append_right (by simp; omega)]
      simp only [List.length_take, Array.length_toList] at hx ⊢
      rw [show min off cs.length = off by omega] at hx
      rw [show min off c.size = off by omega]
      have hlt : j - off < vals.length := by omega
      exact ⟨vals[j - off], by simp [hlt], h2 (j - off) _ x (List.getElem?_eq_getElem hlt) hx⟩
    · rw [List.getElem?_append_right (by simp; omega)] at hx
      rw [List.getElem?_append_right (by simp; omega)]
      simp only [List.length_append, List.length_take, Array.length_toList, List.getElem?_drop] at hx ⊢
      rcases hrest with rfl | rfl
      · rw [List.getElem?_drop, show off + vals.length + (j - (min off cs.length + zs.length)) = j by omega] at hx
        rw [show off + vals.length + (j - (min off c.size + vals.length)) = j by omega]
        obtain ⟨u, hu, hvu⟩ := hc j x hx
        exact ⟨u, by simpa using hu, hvu⟩
      · simp at hx

theorem e_copy {xs : Array Operand} {ts : Array TypeId} (hop : o.op = .call ⟨.builtin .copy, xs, ts⟩) (hI : Inv X β st w) (hS : SRel X N β s a) (h : vcE X (.blt .copy ts.toList (xs.toList.map (ev s))) st K) : Eff X β w a o K := by
  unfold vcE at h
  simp only at h
  generalize hl : xs.toList.map (ev s) = l at h
  generalize htl : ts.toList = tl at h
  split at h <;> first | contradiction | skip
  · rename_i t t' x y _ _
    obtain ⟨z, z', rfl, e1, e2⟩ := two_ops hl
    obtain rfl := two_ts htl
    split at h
    · rename_i e sz by_ ez zz r off n s' ht
      obtain ⟨rfl, hr, cs, m, ys, hst, hslc, hyl, hyall, hfit, hK⟩ := h
      obtain ⟨hu, inf, zv, hinf, hsz, hby, hz, hez, hel, hpos⟩ := ti_slice ht
      have hx := hS.eval z
      rw [e1] at hx
      have hy := hS.eval z'
      rw [e2] at hy
      obtain ⟨A, c, vals, hq', hvl, hrun, hvr, hone⟩ := first_cells hI hy hslc hyl (min m n) (Nat.min_le_left _ _)
      have hone := hone hyall
      have hrun := hrun w (Below.refl _ _)
      have hmin : Nat.min m n = min m n := rfl
      obtain ⟨hn, ⟨b, mm, of, cc, hb, hq, hnc, ho⟩ | ⟨hb, hq, rfl, rfl⟩⟩ := inv_own hx
      · obtain ⟨bk, g1, g2⟩ := hI.obj r cs hst
        rw [hb] at g1
        cases g1
        obtain ⟨ca, e', hc, hcs, hcl, hcv⟩ := g2
        by_cases hmz : min m n = 0
        · have hv0 : vals = [] := by rw [hmz] at hvl; simpa using hvl
          subst hv0
          refine ⟨.int .i64 0, .val (.int .i64 0), [], st.set r (some cs), w, .inl ?_, ?_, .val _, ?_⟩
          · rw [hq', hmz] at hrun
            simp [execOp, hop, resolve, invoke, builtin, Builtin.copy_, run_underlying hu, hq, hq', Builtin.lenOf, sizeOf, typeInfo, hinf, hsz, hmin, hmz, hrun, storeCells, goInt]
          · rw [List.append_nil, set_self hst]; exact hI
          · rw [hmz] at hK; simpa using hK
        · obtain ⟨rfl, hm⟩ := ho (by omega)
          have hkn : min m n * s' ≤ n * s' := Nat.mul_le_mul_right _ (Nat.min_le_right _ _)
          have hkm : min m n * s' ≤ m * s' := Nat.mul_le_mul_right _ (Nat.min_le_left _ _)
          obtain ⟨p1, p2, p3⟩ := splice_rel (w0 := X.w0) (β := β) (vals := vals) (zs := ys.take (min m n * s')) (c := ca) (cs := cs) (off := of) (by simp; omega) (fun j v y hv hy => by
            rw [List.getElem?_take] at hy
            split at hy
            · exact hvr j v y hv hy
            · cases hy) (by omega) hcv (by omega) (by omega) (cs.drop (of + vals.length)) (.inl rfl)
          have hst2 := run_storeCells_at X.P b of e' vals 0 ca w hc (by omega) hone
          simp only [Nat.add_zero] at hst2
          refine ⟨_, _, [], _, _, .inl ?_, by rw [List.append_nil]; exact hI.rewrite hr hst hb hc p1 (by rw [p1]; exact p2) p3, .val (.int .i64 (min m n : Nat)), by rw [hvl]; exact hK⟩
          rw [hq'] at hrun
          simp [execOp, hop, resolve, invoke, builtin, Builtin.copy_, run_underlying hu, hq, hq', Builtin.lenOf, sizeOf, typeInfo, hinf, hsz, hmin, hrun, hst2, goInt]
      · have hv0 : vals = [] := by simpa using hvl
        subst hv0
        refine ⟨.int .i64 0, .val (.int .i64 0), [], st.set r (some cs), w, .inl ?_, ?_, .val _, ?_⟩
        · rw [hq'] at hrun
          simp [execOp, hop, resolve, invoke, builtin, Builtin.copy_, run_underlying hu, hq, hq', Builtin.lenOf, sizeOf, typeInfo, hinf, hsz] at hrun ⊢
          simp [hrun, goInt]
        · rw [List.append_nil, set_self hst]; exact hI
        · simpa using hK
    · exact h.elim

/-- An append with room. -/
theorem run_append_fits {t t' ty e e2 : TypeId} {inf : TypeInfo} (hu : X.P.underlying t = some (.slice e)) (hu' : X.P.underlying t' = some (.slice e2)) (hinf : X.P.info? e = some inf)
    {b n c m : Nat} {q : Value} {ca : Array Value} {e' : TypeId} (hc : w.heap[b]? = some (.cells ca e' (0, 0))) {vals : List Value} (hq : ∃ A c', q = .slice A m c') (hone : ∀ v ∈ vals, v.oneCell' = true) (hroom : n + m ≤ c)
    (hfit : n * inf.size + vals.length ≤ ca.size) (hrun : (Builtin.firstCells inf.size m q).run X.P w = .ok vals.toArray w) :
    (Builtin.append_ #[t, t'] ty #[.slice (some ⟨b, 0, none⟩) n c, q]).run X.P w = .ok (.slice (some ⟨b, 0, none⟩) (n + m) c) (w.setRow b (ca.toList.take (n * inf.size) ++ vals ++ ca.toList.drop (n * inf.size + vals.length)).toArray) := by
  obtain ⟨A, c', rfl⟩ := hq
  have hst := run_storeCells_at X.P b (n * inf.size) e' vals 0 ca w hc (by omega) hone
  simp only [Nat.add_zero] at hst
  simp [Builtin.append_, run_underlying hu, run_underlying hu', sizeOf, typeInfo, hinf, Builtin.lenOf, hroom, hrun, add_none, hst]

/-- An append that finds new memory. -/
theorem run_append_new {t t' ty e e2 : TypeId} {inf : TypeInfo} {z : Value} (hu : X.P.underlying t = some (.slice e)) (hu' : X.P.underlying t' = some (.slice e2)) (hinf : X.P.info? e = some inf) (hz : inf.zero = some z)
    {A A2 : Option Addr} {n c m c2 : Nat} {olds news : List Value} (hg : c < n + m) (h63 : n + m ≤ 9223372036854775807) (hfit : Builtin.nextslicecap (n + m) c * inf.bytes ≤ 281474976710656)
    (ho : (Builtin.firstCells inf.size n (.slice A n c)).run X.P w.drew = .ok olds.toArray w.drew) (hn : (Builtin.firstCells inf.size m (.slice A2 m c2)).run X.P w.drew = .ok news.toArray w.drew) :
    (Builtin.append_ #[t, t'] ty #[.slice A n c, .slice A2 m c2]).run X.P w = .ok (.slice (some ⟨w.heap.size, 0, none⟩) (n + m) (grownCap w (n + m) c e))
      (w.drew.alloc (.cells (olds.toArray ++ news.toArray ++ Builtin.zeroCells z.cells (grownCap w (n + m) c e - (n + m))) e)) := by
  have h1 : ¬ (n + m ≤ c) := by omega
  have h2 : ¬ (9223372036854775807 < ((n : Int) + (m : Int))) := by omega
  have h3 : ¬ (281474976710656 < Builtin.nextslicecap (n + m) c * inf.bytes) := by omega
  simp [Builtin.append_, run_underlying hu, run_underlying hu', sizeOf, typeInfo, zeroValue, hinf, hz, Builtin.lenOf, h1, h2, h3, Question.forced, ho, hn, newRow, grownCap]
  congr 2
  apply Array.ext'
  simp

theorem Below.ofDrew (w : World) : Below w.heap.size w w.drew := ⟨rfl, rfl, rfl, Nat.le_refl _, fun _ _ => rfl⟩

/-- An object under another number. -/
theorem Inv.move (hI : Inv X β st w) {r b m : Nat} {cs : List AV} (hr : X.st1.length ≤ r) (hb : β[r]? = some (some (b, m))) (hst : st[r]? = some (some cs)) : Inv X (β ++ [some (b, m)]) (st.set r none ++ [some cs]) w := by
  have hK := hI.kill (r := r) hr
  have hlast : ∀ {q : Nat} {p : Nat × Nat}, (β ++ [some (b, m)])[q]? = some (some p) → (q < β.length ∧ β[q]? = some (some p)) ∨ (q = β.length ∧ p = (b, m)) := by
    intro q y h
    rcases Nat.lt_or_ge q β.length with h' | h'
    · rw [List.getElem?_append_left h'] at h; exact .inl ⟨h', h⟩
    · rw [List.getElem?_append_right h'] at h
      rcases Nat.eq_zero_or_pos (q - β.length) with h0 | h0
      · rw [h0] at h; exact .inr ⟨by omega, by simpa using h.symm⟩
      · rw [List.getElem?_eq_none (by simp; omega)] at h; cases h
  have hlast' : ∀ {q : Nat} {ds : List AV}, (st.set r none ++ [some cs])[q]? = some (some ds) → (q < st.length ∧ q ≠ r ∧ st[q]? = some (some ds)) ∨ (q = st.length ∧ ds = cs) := by
    intro q y h
    rcases Nat.lt_or_ge q st.length with h' | h'
    · rw [List.getElem?_append_left (by simpa using h'), List.getElem?_set] at h
      by_cases he : r = q
      · rw [if_pos he] at h; split at h <;> cases h
      · rw [if_neg he] at h; exact .inl ⟨h', fun e => he e.symm, h⟩
    · rw [List.getElem?_append_right (by simpa using h')] at h
      simp only [List.length_set] at h
      rcases Nat.eq_zero_or_pos (q - st.length) with h0 | h0
      · rw [h0] at h; exact .inr ⟨by omega, by simpa using h.symm⟩
      · rw [List.getElem?_eq_none (by simp; omega)] at h; cases h
  have ghOld : ∀ {q : Nat} {S : List Nat} {G : World → Prop}, (st.set r none ++ [some cs])[q]? = some (some [.gh S G]) → st[q]? = some (some [.gh S G]) := by
    intro q S G h
    rcases hlast' h with ⟨_, _, h⟩ | ⟨_, h⟩
    · exact h
    · subst h
      obtain ⟨bk, k1, k2⟩ := hI.obj r _ hst
      rw [hb] at k1
      cases k1
      exact (objRel_gh k2).elim
  refine ⟨hI.b0, hI.b1, by simp [hI.len], ?_, ?_, ?_, ?_, ?_, ?_, fun q S G hq => ?_, fun q q' S S' G G' k1 k2 => hI.gi q q' S S' G G' (ghOld k1) (ghOld k2), fun q S G hq => hI.gm q S G (ghOld hq), hI.mks, hI.nd⟩
  rotate_left 6
  · obtain ⟨k1, k2, k3, k4, k5, k6⟩ := hI.gh q S G (ghOld hq)
    refine ⟨k1, k2, k3, k4, fun k hk => ?_, fun r' es b' m' hs' h => ?_⟩
    · obtain ⟨r', m, h7⟩ := k5 k hk
      exact ⟨r', m, by rw [List.getElem?_append_left (List.getElem?_eq_some_iff.1 h7).1]; exact h7⟩
    rcases hlast h with ⟨j1, h⟩ | ⟨_, h⟩
    · rcases hlast' hs' with ⟨_, _, h8⟩ | ⟨h8, _⟩
      · exact k6 r' es b' m' h8 h
      · have := hI.len; omega
    · cases h; exact k6 r cs b m hst hb
  · obtain ⟨y, hy⟩ := hK.stp; exact ⟨y ++ [some cs], by rw [hy]; simp⟩
  · obtain ⟨y, hy⟩ := hI.bep; exact ⟨y ++ [some (b, m)], by rw [← List.append_assoc, ← hy]⟩
  · intro q b' m' hq h
    rcases hlast h with ⟨_, h⟩ | ⟨_, h⟩
    · exact hI.nw q b' m' hq h
    · cases h; exact hI.nw r b m hr hb
  · intro q b' m' h
    rcases hlast h with ⟨_, h⟩ | ⟨_, h⟩
    · exact hI.ow q b' m' h
    · cases h; exact hI.ow r b m hb
  · intro q ds hq
    have key : ∀ {bk ds}, ObjRel X.w0 β w bk ds → ObjRel X.w0 (β ++ [some (b, m)]) w bk ds := by
      intro bk ds h3
      cases bk with
      | none => exact h3
      | some p =>
        obtain ⟨b, m⟩ := p
        obtain ⟨c', e', h4, h5, h6, h7⟩ := h3
        exact ⟨c', e', h4, h5, h6, fun j x hx => by obtain ⟨u, h8, h9⟩ := h7 j x hx; exact ⟨u, h8, h9.ext _⟩⟩
    rcases hlast' hq with ⟨h1, _, h⟩ | ⟨h1, rfl⟩
    · obtain ⟨bk, h2, h3⟩ := hI.obj q ds h
      exact ⟨bk, by rw [List.getElem?_append_left (by rw [hI.len]; exact h1)]; exact h2, key h3⟩
    · obtain ⟨bk, h2, h3⟩ := hI.obj r ds hst
      rw [hb] at h2
      cases h2
      exact ⟨_, by rw [h1, ← hI.len]; simp, key h3⟩
  · intro q q' ds ds' b' m1 m2 h1 h2 h3 h4
    have hlen := hI.len
    rcases hlast h3 with ⟨g1, g2⟩ | ⟨g1, g2⟩ <;> rcases hlast h4 with ⟨g3, g4⟩ | ⟨g3, g4⟩
    · rcases hlast' h1 with ⟨k1, _, k2⟩ | ⟨k1, k2⟩
      · rcases hlast' h2 with ⟨k3, _, k4⟩ | ⟨k3, k4⟩
        · exact hI.inj q q' ds ds' b' m1 m2 k2 k4 g2 g4
        · omega
      · omega
    · cases g4
      rcases hlast' h1 with ⟨k1, k0, k2⟩ | ⟨k1, k2⟩
      · exact absurd (hI.inj q r ds cs b m1 m k2 hst g2 hb) k0
      · omega
    · cases g2
      rcases hlast' h2 with ⟨k1, k0, k2⟩ | ⟨k1, k2⟩
      · exact absurd (hI.inj q' r ds' cs b m2 m k2 hst g4 hb) k0
      · omega
    · omega

/-- Nothing appended to nothing. -/
theorem run_append_none {t t' ty e e2 : TypeId} {inf : TypeInfo} (hu : X.P.underlying t = some (.slice e)) (hu' : X.P.underlying t' = some (.slice e2)) (hinf : X.P.info? e = some inf) {A A2 : Option Addr} {c c2 : Nat}
    (hrun : (Builtin.firstCells inf.size 0 (.slice A2 0 c2)).run X.P w = .ok #[] w) : (Builtin.append_ #[t, t'] ty #[.slice A 0 c, .slice A2 0 c2]).run X.P w = .ok (.slice A 0 c) w := by
  cases A <;> simp [Builtin.append_, run_underlying hu, run_underlying hu', sizeOf, typeInfo, hinf, Builtin.lenOf, hrun, storeCells]

theorem e_append {xs : Array Operand} {ts : Array TypeId} (hop : o.op = .call ⟨.builtin .append, xs, ts⟩) (hI : Inv X β st w) (hS : SRel X N β s a) (h : vcE X (.blt .append ts.toList (xs.toList.map (ev s))) st K) : Eff X β w a o K := by
  unfold vcE at h
  simp only at h
  generalize hl : xs.toList.map (ev s) = l at h
  generalize htl : ts.toList = tl at h
  split at h <;> first | contradiction | skip
  · rename_i t t' x y _
    obtain ⟨z, z', rfl, e1, e2⟩ := two_ops hl
    obtain rfl := two_ts htl
    split at h
    · rename_i e sz by_ ez zz e' sz' by' ez' zz' ht ht'
      obtain ⟨m, ys, hslc, hyl, hyall, h⟩ := h
      obtain ⟨hu, inf, zv, hinf, hsz, hby, hz, hez, hel, hpos⟩ := ti_slice ht
      obtain ⟨hu', _⟩ := ti_slice ht'
      have hx := hS.eval z
      rw [e1] at hx
      have hy := hS.eval z'
      rw [e2] at hy
      obtain ⟨A2, c2, vals, hq', hvl, hrun, hvr, hone⟩ := first_cells hI hy hslc hyl m (Nat.le_refl _)
      have hone := hone hyall
      have hmn : m ≤ 9223372036854775807 := (slc_read hI hy hslc).1
      have run : ∀ q v w', a.eval z = q → (∀ ty, (Builtin.append_ #[t, t'] ty #[q, .slice A2 m c2]).run X.P w = .ok v w') → (execOp a.eval o).run X.P w = .ok (.value v) w' := fun q v w' h1 h2 => by
        simp [execOp, hop, resolve, invoke, builtin, h1, hq', h2]
      rw [hq'] at hrun
      -- new memory: of what was there n elements, then the new ones
      have fresh : ∀ (n c : Nat) (A : Option Addr) (cs : List AV) (olds : List Value) (st' : St), a.eval z = .slice A n c → c < n + m → n + m ≤ 9223372036854775807 → (n + m) * by_ ≤ 140737488355328 → Inv X β st' w → st'.length = st.length →
          (Builtin.firstCells inf.size n (.slice A n c)).run X.P w.drew = .ok olds.toArray w.drew → olds.length = cs.length → cs.length = n * sz → (∀ (j : Nat) v y, olds[j]? = some v → cs[j]? = some y → VRel X.w0 β v y) →
          K (.own st.length 0 (n + m) sz) (st' ++ [some (cs ++ ys)]) → Eff X β w a o K := by
        intro n c A cs olds st' hq hcc h63 hbytes hI' hst' hol holl hcl hor hK
        have hlen := hI'.len
        have hI2 : Inv X β st' w.drew := hI'.grow_below (Below.ofDrew w)
        have hge := grownCap_ge w (n + m) c e
        have hle := grownCap_le_maxLen w (n + m) c e h63
        have hinv := hI2.alloc (olds.toArray ++ vals.toArray ++ Builtin.zeroCells zv.cells (grownCap w (n + m) c e - (n + m))) e (cs ++ ys) (by simp; omega) (fun j x hx => by
          rw [List.getElem?_append] at hx
          by_cases hj : j < cs.length
          · rw [if_pos hj] at hx
            have hlt : j < olds.length := by omega
            refine ⟨olds[j], ?_, hor j _ x (List.getElem?_eq_getElem hlt) hx⟩
            rw [Array.getElem?_append_left (by simp; omega), Array.getElem?_append_left (by simpa using hlt)]
            simp [hlt]
          · rw [if_neg hj] at hx
            have hlt : j - cs.length < vals.length := by have := (List.getElem?_eq_some_iff.1 hx).1; omega
            refine ⟨vals[j - cs.length], ?_, hvr _ _ x (List.getElem?_eq_getElem hlt) hx⟩
            rw [Array.getElem?_append_left (by simp; omega), Array.getElem?_append_right (by simp; omega)]
            simp [holl, hlt])
        have hsizes : (olds.toArray ++ vals.toArray ++ Builtin.zeroCells zv.cells (grownCap w (n + m) c e - (n + m))).size = grownCap w (n + m) c e * sz := by
          have hzs : zv.cells.size = sz := by rw [← hel, ← hez]; simp
          simp only [Array.size_append, List.size_toArray, holl, hcl, hvl, Builtin.zeroCells, Array.size_map, Array.size_range, hzs]
          rw [← Nat.add_mul, ← Nat.add_mul]
          congr 1
          omega
        have hlt := run_append_new (X := X) (w := w) (t := t) (t' := t') (ty := 0) hu hu' hinf hz hcc h63 (growslice_fits hcc (by rw [hby]; exact hbytes)) hol (by rw [hsz]; exact hrun w.drew (Below.ofDrew w))
        refine ⟨_, .own β.length 0 (n + m) sz, _, _, _, .inl (run _ _ _ hq fun ty => run_append_new hu hu' hinf hz hcc h63 (growslice_fits hcc (by rw [hby]; exact hbytes)) hol (by rw [hsz]; exact hrun w.drew (Below.ofDrew w))), hinv, ?_, by rw [hlen, hst']; exact hK⟩
        exact .own (b := w.heap.size) (m := (olds.toArray ++ vals.toArray ++ Builtin.zeroCells zv.cells (grownCap w (n + m) c e - (n + m))).size) (by rw [List.getElem?_append_right (Nat.le_refl _), Nat.sub_self]; rfl) (by omega) hge (fun _ => ⟨rfl, by rw [hsizes]; omega⟩)
      split at h
      · rename_i r n s'
        obtain ⟨rfl, hr, cs, hst, hncs, hbytes, h63, hK⟩ := h
        have hrl : r < st.length := (List.getElem?_eq_some_iff.1 hst).1
        obtain ⟨bk, g1, g2⟩ := hI.obj r cs hst
        have hks : slc st (.own r 0 n s') = some (n, cs.take (n * s')) := by simp [slc, hst]
        obtain ⟨hn, ⟨b, mm, of, cc, hb, hq, hnc, ho⟩ | ⟨hb, hq, e0, rfl⟩⟩ := inv_own hx
        · rw [hb] at g1
          cases g1
          obtain ⟨ca, e'', hc, hcs, hcl, hcv⟩ := g2
          by_cases hroom : n + m ≤ cc
          · by_cases hc0 : 0 < cc
            · obtain ⟨rfl, hm⟩ := ho hc0
              have hle : (n + m) * s' ≤ cc * s' := Nat.mul_le_mul_right _ hroom
              rw [Nat.add_mul] at hle
              obtain ⟨p1, p2, p3⟩ := splice_rel (w0 := X.w0) (β := β) (vals := vals) (zs := ys) (c := ca) (cs := cs) (off := n * s') (by omega) hvr (by omega) hcv hncs (by omega) [] (.inr rfl)
              simp only [List.append_nil] at p2 p3
              have hinv := hI.rewrite hr hst hb hc p1 (by rw [p1]; exact p2) p3
              have hmv := hinv.move (r := r) (cs := cs.take (n * s') ++ ys) hr hb (by rw [List.getElem?_set, if_pos rfl, if_pos hrl])
              refine ⟨_, .own β.length 0 (n + m) s', _, _, _, .inl (run _ _ _ hq fun ty => run_append_fits hu hu' hinf hc ⟨A2, c2, rfl⟩ hone hroom (by rw [hsz]; omega) (by rw [hsz]; exact hrun w (Below.refl _ _))), by rw [hsz]; exact hmv,
                .own (b := b) (m := mm) (by simp) (by omega) hroom (fun h => ⟨rfl, (ho h).2⟩), by rw [hI.len, List.set_set]; exact hK⟩
            · have hm0 : m = 0 := by omega
              have hn0 : n = 0 := by omega
              have hc0 : cc = 0 := by omega
              subst hm0; subst hn0; subst hc0
              have hys : ys = [] := by simpa using hyl
              have hvs : vals = [] := by simpa using hvl
              subst hys; subst hvs
              have hinv := (hI.rewrite (ds := []) hr hst hb hc (c' := ca) rfl (by simp) (fun j x hx => by simp at hx)).move (r := r) (cs := []) hr hb (by rw [List.getElem?_set, if_pos rfl, if_pos hrl])
              rw [setRow_self w b ca e'' (0, 0) hc] at hinv
              refine ⟨_, .own β.length 0 0 s', _, _, _, .inl (run _ _ _ hq fun ty => run_append_none hu hu' hinf (by rw [hsz]; exact hrun w (Below.refl _ _))), hinv, .own (b := b) (m := mm) (by simp) (by omega) (Nat.le_refl _) (fun h => by omega), by rw [hI.len, List.set_set]; simpa using hK⟩
          · obtain ⟨A1, c1, olds, hq1, hol, hrun1, hor, _⟩ := first_cells (k := n) (sz := s') hI hx hks (by simp; omega) (Nat.le_refl _)
            rw [hq] at hq1 hrun1
            exact fresh n cc _ (cs.take (n * s')) olds (st.set r none) hq (by omega) h63 hbytes (hI.kill hr) (by simp) (by rw [hsz]; exact hrun1 w.drew (Below.ofDrew w)) (by rw [hol]; simp; omega) (by simp; omega) hor hK
        · by_cases hm0 : m = 0
          · subst hm0
            have hys : ys = [] := by simpa using hyl
            have hvs : vals = [] := by simpa using hvl
            subst hys; subst hvs
            refine ⟨_, .own β.length 0 0 s', _, _, _, .inl (run _ _ _ hq fun ty => run_append_none hu hu' hinf (by rw [hsz]; exact hrun w (Below.refl _ _))), (hI.kill (r := r) hr).phantom, .nil (by simp), by rw [hI.len]; simpa using hK⟩
          · have h0 : cs.take (0 * s') = [] := by simp
            rw [h0] at hK
            exact fresh 0 0 _ [] [] (st.set r none) hq (by omega) (by omega) hbytes (hI.kill hr) (by simp) (by simp [Builtin.firstCells]) rfl (by simp) (fun j v y hv => by simp at hv) hK
      · obtain ⟨hbytes, h63, hK⟩ := h
        have hq := inv_val hx
        by_cases hm0 : m = 0
        · subst hm0
          have hys : ys = [] := by simpa using hyl
          have hvs : vals = [] := by simpa using hvl
          subst hys; subst hvs
          refine ⟨_, .own β.length 0 0 sz, _, _, _, .inl (run _ _ _ hq fun ty => run_append_none hu hu' hinf (by rw [hsz]; exact hrun w (Below.refl _ _))), hI.phantom, .nil (by simp), by rw [hI.len]; exact hK⟩
        · exact fresh 0 0 _ [] [] st hq (by omega) (by omega) (by simpa using hbytes) hI rfl (by simp [Builtin.firstCells]) rfl (by simp) (fun j v y hv => by simp at hv) (by simpa using hK)
      · exact h.elim
    · exact h.elim

/-- Whatever operation makes memory or writes to it, a call excepted. -/
def effA : AOp → Bool
  | .alloc _ | .box _ _ | .buildSl _ _ _ | .store _ _ _ | .mkSl _ _ _ => true
  | .blt .append _ _ | .blt .copy _ _ => true
  | _ => false

theorem eff_sound (hI : Inv X β st w) (hS : SRel X N β s a) (hp : effA (aop s o.op) = true) (h : vcE X (aop s o.op) st K) : Eff X β w a o K := by
  cases hop : o.op <;> rw [hop] at hp h
  case alloc t => exact e_alloc hop hI h
  case box t x => exact e_box hop hI hS h
  case buildSlice t n ps => exact e_buildSl hop hI hS h
  case store t x y => exact e_store hop hI hS h
  case makeSlice t x y => exact e_mkSl hop hI hS h
  case call c =>
    obtain ⟨cal, xs, ts⟩ := c
    cases cal with
    | builtin b =>
      cases b <;> first | exact e_append hop hI hS h | exact e_copy hop hI hS h | (exfalso; simp [aop, effA] at hp)
    | _ => exfalso; simp [aop, effA] at hp
  all_goals (exfalso; simp [aop, effA] at hp)

/-- Any operation. -/
theorem op_sound (hI : Inv X β st w) (hS : SRel X N β s a) (h : vcE X (aop s o.op) st K) {next : Act → World → Prop} {Q : Exit → Act → World → Prop}
    (hn : ∀ v x ex st' w', Inv X (β ++ ex) st' w' → VRel X.w0 (β ++ ex) v x → K x st' → next (a.put o.dst v) w') : o.wp X.P a w next Q := by
  unfold Oper.wp
  by_cases hp : pureA (aop s o.op) = true
  · obtain ⟨v, x, h1, h2, h3⟩ := pure_sound hI hS hp h
    rw [h1 w (Below.refl _ _), Oper.upon_value]
    exact hn v x [] st w (by rw [List.append_nil]; exact hI) (by rw [List.append_nil]; exact h2) h3
  · by_cases he : effA (aop s o.op) = true
    · obtain ⟨v, x, ex, st', w', h1, h2, h3, h4⟩ := eff_sound hI hS he h
      rcases h1 with h1 | ⟨h1, rfl⟩
      · rw [h1, Oper.upon_value]; exact hn v x ex st' w' h2 h3 h4
      · rw [h1, Oper.upon_skip]; exact hn undef x ex st' w' h2 h3 h4
    · cases hop : o.op <;> rw [hop] at hp he h <;> try (exfalso; first | exact hp rfl | exact he rfl | exact h)
      case call c =>
        obtain ⟨cal, xs, ts⟩ := c
        cases cal with
        | builtin b => cases b <;> first | exact absurd rfl hp | exact absurd rfl he | (exfalso; unfold vcE at h; simp only [aop] at h)
        | value f =>
          obtain ⟨g, vs, h1, h2⟩ := e_call hop hI hS h
          rw [h1, Oper.upon_enter]
          refine h2.mono fun e w' ⟨v, x, ex, st', he, hI', hx, hK⟩ => ?_
          subst he
          exact hn v x ex st' w' hI' hx hK
        | invoke r m => exact h.elim

end
end Go.Proofs.Pv
